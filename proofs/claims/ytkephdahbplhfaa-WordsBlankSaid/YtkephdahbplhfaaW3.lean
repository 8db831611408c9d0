import Derived.Test.YtkephdahbplhfaaScWaymarkref11
import Derived.Test.YtkephdahbplhfaaW2
set_option linter.unusedSimpArgs false
set_option linter.unusedVariables false
/- The document's own Split: it answers as the package words does. -/
namespace Go.Proofs.Ytkephdahbplhfaa
open Go Abs
attribute [local irreducible] EX exL exG exC exCq exS exV exIf exGd exGq
set_option maxHeartbeats 3000000

theorem rletter_c (x : Int) (H : AHeap) : APure Try.prog 59 [xv x] H (bv (decide (97 ≤ x ∧ x ≤ 122))) := by
  intro Q h
  refine ACalls.of_code fn_waymarkref11_letter ?_
  simp -implicitDefEqProofs only [sc_waymarkref11_letter, go_sem, Nat.reduceEqDiff, Nat.reduceAdd, Nat.reduceMul, Nat.reduceLeDiff, Nat.reduceSub, Nat.reduceLT, Nat.reduceBEq, Int.reduceToNat, reduceCtorEq, ↓reduceIte, Int.reduceEq, Int.reduceNeg, Int.reduceLT, Int.reduceLE, Int.reduceAdd, Int.reduceSub, Int.reduceMul]
  repeat' (first | simp -implicitDefEqProofs only [go_sem, Nat.reduceEqDiff, Nat.reduceAdd, Nat.reduceMul, Nat.reduceLeDiff, Nat.reduceSub, Nat.reduceLT, Nat.reduceBEq, Int.reduceToNat, reduceCtorEq, ↓reduceIte, Int.reduceEq, Int.reduceNeg, Int.reduceLT, Int.reduceLE, Int.reduceAdd, Int.reduceSub, Int.reduceMul] | simp -implicitDefEqProofs (disch := omega) only [iaq_vec, iao_arr, iaq_raw, rd_map, wrap_id, binq_quo, binq_rem, binq_shl, binq_shr, tdiv_pos, tmod_pos, if_pos, exV_some, Option.map_some] | ((first | with_reducible apply exIf_dec | ((with_reducible apply exGd_dec); focus exact rfl) | ((with_reducible apply exGq_dec); focus exact rfl) | with_reducible apply exIf_intro | ((with_reducible apply exGd_intro); focus exact rfl) | ((with_reducible apply exGq_intro); focus exact rfl)) <;> intro _))
  all_goals
    refine fin_ h (congrArg (fun b => AV.raw (.bool b)) ?_)
    simp [*]
theorem rdigit_c (x : Int) (H : AHeap) : APure Try.prog 60 [xv x] H (bv (decide (48 ≤ x ∧ x ≤ 57))) := by
  intro Q h
  refine ACalls.of_code fn_waymarkref11_digit ?_
  simp -implicitDefEqProofs only [sc_waymarkref11_digit, go_sem, Nat.reduceEqDiff, Nat.reduceAdd, Nat.reduceMul, Nat.reduceLeDiff, Nat.reduceSub, Nat.reduceLT, Nat.reduceBEq, Int.reduceToNat, reduceCtorEq, ↓reduceIte, Int.reduceEq, Int.reduceNeg, Int.reduceLT, Int.reduceLE, Int.reduceAdd, Int.reduceSub, Int.reduceMul]
  repeat' (first | simp -implicitDefEqProofs only [go_sem, Nat.reduceEqDiff, Nat.reduceAdd, Nat.reduceMul, Nat.reduceLeDiff, Nat.reduceSub, Nat.reduceLT, Nat.reduceBEq, Int.reduceToNat, reduceCtorEq, ↓reduceIte, Int.reduceEq, Int.reduceNeg, Int.reduceLT, Int.reduceLE, Int.reduceAdd, Int.reduceSub, Int.reduceMul] | simp -implicitDefEqProofs (disch := omega) only [iaq_vec, iao_arr, iaq_raw, rd_map, wrap_id, binq_quo, binq_rem, binq_shl, binq_shr, tdiv_pos, tmod_pos, if_pos, exV_some, Option.map_some] | ((first | with_reducible apply exIf_dec | ((with_reducible apply exGd_dec); focus exact rfl) | ((with_reducible apply exGq_dec); focus exact rfl) | with_reducible apply exIf_intro | ((with_reducible apply exGd_intro); focus exact rfl) | ((with_reducible apply exGq_intro); focus exact rfl)) <;> intro _))
  all_goals
    refine fin_ h (congrArg (fun b => AV.raw (.bool b)) ?_)
    simp [*]
theorem rsplit_c (l : List UInt8) (hl : l.length ≤ 9223372036854775807) (H : AHeap) : APure Try.prog 31 [sv l] H (splitAV l) := by
  intro Q h
  refine ACalls.of_code fn_waymarkref11_Split ?_
  simp -implicitDefEqProofs only [sc_waymarkref11_Split, go_sem, Nat.reduceEqDiff, Nat.reduceAdd, Nat.reduceMul, Nat.reduceLeDiff, Nat.reduceSub, Nat.reduceLT, Nat.reduceBEq, Int.reduceToNat, reduceCtorEq, ↓reduceIte, Int.reduceEq, Int.reduceNeg, Int.reduceLT, Int.reduceLE, Int.reduceAdd, Int.reduceSub, Int.reduceMul]
  repeat' (first | simp -implicitDefEqProofs only [go_sem, Nat.reduceEqDiff, Nat.reduceAdd, Nat.reduceMul, Nat.reduceLeDiff, Nat.reduceSub, Nat.reduceLT, Nat.reduceBEq, Int.reduceToNat, reduceCtorEq, ↓reduceIte, Int.reduceEq, Int.reduceNeg, Int.reduceLT, Int.reduceLE, Int.reduceAdd, Int.reduceSub, Int.reduceMul] | simp -implicitDefEqProofs (disch := omega) only [iaq_vec, iao_arr, iaq_raw, rd_map, wrap_id, binq_quo, binq_rem, binq_shl, binq_shr, tdiv_pos, tmod_pos, if_pos, exV_some, Option.map_some] | ((first | with_reducible apply exIf_dec | ((with_reducible apply exGd_dec); focus exact rfl) | ((with_reducible apply exGq_dec); focus exact rfl) | with_reducible apply exIf_intro | ((with_reducible apply exGd_intro); focus exact rfl) | ((with_reducible apply exGq_intro); focus exact rfl)) <;> intro _))
  · refine fin_ h ?_
    rw [splitAV, if_pos (by omega)]
  have hlen : l.length ≤ 10000 := by omega
  have fin : ∀ (out : List Tok) (e : Int), tk l 0 = (out, e) → (e = -1 → Q (.tup [.vec out.isEmpty (rows out) out.length, iv (-1), iv 0]) H) ∧ (e ≠ -1 → Q (.tup [.vec true [] 0, iv e, iv 3]) H) := by
    intro out e he
    refine ⟨fun h1 => fin_ h ?_, fun h1 => fin_ h ?_⟩
    · rw [splitAV, if_neg (by omega), he, if_pos h1]; rfl
    · rw [splitAV, if_neg (by omega), he, if_neg h1]
  refine exL_mod (fun a : Int × List Tok => [(6, .v (iv a.1))]) (fun a => [(80, .arr a.2.isEmpty (rows a.2) a.2.length 50 3)])
    (fun a => 0 ≤ a.1 ∧ a.1 ≤ l.length ∧ a.2.length ≤ a.1 ∧ tk l 0 = (a.2 ++ (tk (l.drop a.1.toNat) a.1).1, (tk (l.drop a.1.toNat) a.1).2)) (fun a => (l.length - a.1).toNat) (0, []) rfl ⟨by simp, by simp, by simp, by simp⟩ ?_
  rintro ⟨k, out⟩ ⟨k0, k1, ho, htk⟩ ih
  dsimp only at k0 k1 ho htk ih
  simp only [S.up, S.upH, ups, Abs.put, Nat.reduceEqDiff, ↓reduceIte, Nat.reduceAdd] at ih
  simp -implicitDefEqProofs only [congrArg KI.code sc_waymarkref11_Split_L3.eq_1, go_sem, Nat.reduceEqDiff, Nat.reduceAdd, Nat.reduceMul, Nat.reduceLeDiff, Nat.reduceSub, Nat.reduceLT, Nat.reduceBEq, Int.reduceToNat, reduceCtorEq, ↓reduceIte, Int.reduceEq, Int.reduceNeg, Int.reduceLT, Int.reduceLE, Int.reduceAdd, Int.reduceSub, Int.reduceMul]
  by_cases hk : k < l.length
  · obtain ⟨c, hc⟩ : ∃ c, c = gi l k := ⟨_, rfl⟩
    rw [drop_gi k0 hk, ← hc] at htk
    by_cases hb : bI c = 32 ∨ bI c = 10
    · have nxt := ih (k + 1, out) ⟨by dsimp only; omega, by dsimp only; omega, by dsimp only; omega, by rw [htk, tk_blank hb]⟩ (by dsimp only; omega)
      repeat' (first | simp -implicitDefEqProofs only [go_sem, Nat.reduceEqDiff, Nat.reduceAdd, Nat.reduceMul, Nat.reduceLeDiff, Nat.reduceSub, Nat.reduceLT, Nat.reduceBEq, Int.reduceToNat, reduceCtorEq, ↓reduceIte, Int.reduceEq, Int.reduceNeg, Int.reduceLT, Int.reduceLE, Int.reduceAdd, Int.reduceSub, Int.reduceMul] | simp -implicitDefEqProofs (disch := omega) only [get_gi, ← hc, iaq_vec, iao_arr, iaq_raw, rd_map, wrap_id, binq_quo, binq_rem, binq_shl, binq_shr, tdiv_pos, tmod_pos, if_pos, exV_some, Option.map_some] | ((first | with_reducible apply exIf_dec | ((with_reducible apply exGd_dec); focus exact rfl) | ((with_reducible apply exGq_dec); focus exact rfl) | with_reducible apply exIf_intro | ((with_reducible apply exGd_intro); focus exact rfl) | ((with_reducible apply exGq_intro); focus exact rfl)) <;> intro _))
      all_goals first | exact nxt | (exfalso; omega)
    by_cases hb1 : bI c = 35
    · repeat' (first | simp -implicitDefEqProofs only [go_sem, Nat.reduceEqDiff, Nat.reduceAdd, Nat.reduceMul, Nat.reduceLeDiff, Nat.reduceSub, Nat.reduceLT, Nat.reduceBEq, Int.reduceToNat, reduceCtorEq, ↓reduceIte, Int.reduceEq, Int.reduceNeg, Int.reduceLT, Int.reduceLE, Int.reduceAdd, Int.reduceSub, Int.reduceMul] | simp -implicitDefEqProofs (disch := omega) only [get_gi, ← hc, iaq_vec, iao_arr, iaq_raw, rd_map, wrap_id, binq_quo, binq_rem, binq_shl, binq_shr, tdiv_pos, tmod_pos, if_pos, exV_some, Option.map_some] | ((first | with_reducible apply exIf_dec | ((with_reducible apply exGd_dec); focus exact rfl) | ((with_reducible apply exGq_dec); focus exact rfl) | with_reducible apply exIf_intro | ((with_reducible apply exGd_intro); focus exact rfl) | ((with_reducible apply exGq_intro); focus exact rfl)) <;> intro _))
      all_goals first | (exfalso; omega) | skip
      have hb := hb1
      refine exL_mod (fun a : Int => [(6, .v (iv a))]) (fun _ => []) (fun a => k ≤ a ∧ a ≤ l.length ∧ ∀ j, k ≤ j → j < a → inC (gi l j) = true) (fun a => (l.length - a).toNat) k rfl ⟨Int.le_refl _, k1, fun j _ _ => by omega⟩ ?_
      rintro a ⟨a0, a1, hall⟩ ih2
      simp only [S.up, S.upH, ups, Abs.put, Nat.reduceEqDiff, ↓reduceIte, Nat.reduceAdd] at ih2
      have nx : a < l.length → inC (gi l a) = true → _ := fun ha hp => ih2 (a + 1) ⟨by omega, by omega, fun j j0 j1 => by
        by_cases e : j = a
        · rw [e]; exact hp
        · exact hall j j0 (by omega)⟩ (by omega)
      have hend : (a < l.length → inC (gi l a) = false) → _ := fun he =>
        tk_run k0 (show k < a by
          by_cases e : k = a
          · subst e
            have := he (by omega)
            rw [← hc, inC, hb] at this; cases this
          · omega) a1 hall he
      clear ih2
      simp -implicitDefEqProofs only [congrArg KI.code sc_waymarkref11_Split_L2.eq_1, go_sem, Nat.reduceEqDiff, Nat.reduceAdd, Nat.reduceMul, Nat.reduceLeDiff, Nat.reduceSub, Nat.reduceLT, Nat.reduceBEq, Int.reduceToNat, reduceCtorEq, ↓reduceIte, Int.reduceEq, Int.reduceNeg, Int.reduceLT, Int.reduceLE, Int.reduceAdd, Int.reduceSub, Int.reduceMul]
      by_cases ha : a < l.length
      · cases hp : inC (gi l a) with
        | true =>
          have nxt := nx ha hp
          simp only [inC, wl, wd, Bool.or_eq_true, Bool.or_eq_false_iff, decide_eq_true_eq, decide_eq_false_iff_not] at hp
          repeat' (first | simp -implicitDefEqProofs only [go_sem, Nat.reduceEqDiff, Nat.reduceAdd, Nat.reduceMul, Nat.reduceLeDiff, Nat.reduceSub, Nat.reduceLT, Nat.reduceBEq, Int.reduceToNat, reduceCtorEq, ↓reduceIte, Int.reduceEq, Int.reduceNeg, Int.reduceLT, Int.reduceLE, Int.reduceAdd, Int.reduceSub, Int.reduceMul] | simp -implicitDefEqProofs (disch := omega) only [get_gi, iaq_vec, iao_arr, iaq_raw, rd_map, wrap_id, binq_quo, binq_rem, binq_shl, binq_shr, tdiv_pos, tmod_pos, if_pos, exV_some, Option.map_some] | ((first | with_reducible apply exIf_dec | ((with_reducible apply exGd_dec); focus exact rfl) | ((with_reducible apply exGq_dec); focus exact rfl) | with_reducible apply exIf_intro | ((with_reducible apply exGd_intro); focus exact rfl) | ((with_reducible apply exGq_intro); focus exact rfl)) <;> intro _) | with_reducible refine exC_pure (rletter_c _ _) ?_ | with_reducible refine exCq_pure (rletter_c _ _) ?_ | with_reducible refine exC_pure (rdigit_c _ _) ?_ | with_reducible refine exCq_pure (rdigit_c _ _) ?_)
          all_goals first | exact nxt | (exfalso; omega)
        | false =>
          obtain ⟨t1, t2, t3⟩ := hend fun _ => hp
          simp only [inC, wl, wd, Bool.or_eq_true, Bool.or_eq_false_iff, decide_eq_true_eq, decide_eq_false_iff_not] at hp
          repeat' (first | simp -implicitDefEqProofs only [go_sem, Nat.reduceEqDiff, Nat.reduceAdd, Nat.reduceMul, Nat.reduceLeDiff, Nat.reduceSub, Nat.reduceLT, Nat.reduceBEq, Int.reduceToNat, reduceCtorEq, ↓reduceIte, Int.reduceEq, Int.reduceNeg, Int.reduceLT, Int.reduceLE, Int.reduceAdd, Int.reduceSub, Int.reduceMul] | simp -implicitDefEqProofs (disch := omega) only [get_gi, iaq_vec, iao_arr, iaq_raw, rd_map, wrap_id, binq_quo, binq_rem, binq_shl, binq_shr, tdiv_pos, tmod_pos, if_pos, exV_some, Option.map_some] | ((first | with_reducible apply exIf_dec | ((with_reducible apply exGd_dec); focus exact rfl) | ((with_reducible apply exGq_dec); focus exact rfl) | with_reducible apply exIf_intro | ((with_reducible apply exGd_intro); focus exact rfl) | ((with_reducible apply exGq_intro); focus exact rfl)) <;> intro _) | with_reducible refine exC_pure (rletter_c _ _) ?_ | with_reducible refine exCq_pure (rletter_c _ _) ?_ | with_reducible refine exC_pure (rdigit_c _ _) ?_ | with_reducible refine exCq_pure (rdigit_c _ _) ?_)
          all_goals first | (exfalso; omega) | skip
          refine ih (a, out) ⟨by dsimp only; omega, a1, by dsimp only; omega, ?_⟩ (by dsimp only; omega)
          dsimp only
          rw [htk, tk_note hb, t2, t3]
      · obtain ⟨t1, t2, t3⟩ := hend fun h => absurd h ha
        repeat' (first | simp -implicitDefEqProofs only [go_sem, Nat.reduceEqDiff, Nat.reduceAdd, Nat.reduceMul, Nat.reduceLeDiff, Nat.reduceSub, Nat.reduceLT, Nat.reduceBEq, Int.reduceToNat, reduceCtorEq, ↓reduceIte, Int.reduceEq, Int.reduceNeg, Int.reduceLT, Int.reduceLE, Int.reduceAdd, Int.reduceSub, Int.reduceMul] | simp -implicitDefEqProofs (disch := omega) only [iaq_vec, iao_arr, iaq_raw, rd_map, wrap_id, binq_quo, binq_rem, binq_shl, binq_shr, tdiv_pos, tmod_pos, if_pos, exV_some, Option.map_some] | ((first | with_reducible apply exIf_dec | ((with_reducible apply exGd_dec); focus exact rfl) | ((with_reducible apply exGq_dec); focus exact rfl) | with_reducible apply exIf_intro | ((with_reducible apply exGd_intro); focus exact rfl) | ((with_reducible apply exGq_intro); focus exact rfl)) <;> intro _))
        all_goals first | (exfalso; omega) | skip
        refine ih (a, out) ⟨by dsimp only; omega, a1, by dsimp only; omega, ?_⟩ (by dsimp only; omega)
        dsimp only
        rw [htk, tk_note hb, t2, t3]
    cases hb2 : wl c with
    | true =>
      have hb := hb2
      simp only [wl, decide_eq_true_eq] at hb2
      repeat' (first | simp -implicitDefEqProofs only [go_sem, Nat.reduceEqDiff, Nat.reduceAdd, Nat.reduceMul, Nat.reduceLeDiff, Nat.reduceSub, Nat.reduceLT, Nat.reduceBEq, Int.reduceToNat, reduceCtorEq, ↓reduceIte, Int.reduceEq, Int.reduceNeg, Int.reduceLT, Int.reduceLE, Int.reduceAdd, Int.reduceSub, Int.reduceMul] | simp -implicitDefEqProofs (disch := omega) only [get_gi, ← hc, iaq_vec, iao_arr, iaq_raw, rd_map, wrap_id, binq_quo, binq_rem, binq_shl, binq_shr, tdiv_pos, tmod_pos, if_pos, exV_some, Option.map_some] | ((first | with_reducible apply exIf_dec | ((with_reducible apply exGd_dec); focus exact rfl) | ((with_reducible apply exGq_dec); focus exact rfl) | with_reducible apply exIf_intro | ((with_reducible apply exGd_intro); focus exact rfl) | ((with_reducible apply exGq_intro); focus exact rfl)) <;> intro _) | with_reducible refine exC_pure (rletter_c _ _) ?_ | with_reducible refine exCq_pure (rletter_c _ _) ?_ | with_reducible refine exC_pure (rdigit_c _ _) ?_ | with_reducible refine exCq_pure (rdigit_c _ _) ?_)
      all_goals first | (exfalso; omega) | skip
      refine exL_mod (fun a : Int => [(6, .v (iv a))]) (fun _ => []) (fun a => k ≤ a ∧ a ≤ l.length ∧ ∀ j, k ≤ j → j < a → inW (gi l j) = true) (fun a => (l.length - a).toNat) k rfl ⟨Int.le_refl _, k1, fun j _ _ => by omega⟩ ?_
      rintro a ⟨a0, a1, hall⟩ ih2
      simp only [S.up, S.upH, ups, Abs.put, Nat.reduceEqDiff, ↓reduceIte, Nat.reduceAdd] at ih2
      have nx : a < l.length → inW (gi l a) = true → _ := fun ha hp => ih2 (a + 1) ⟨by omega, by omega, fun j j0 j1 => by
        by_cases e : j = a
        · rw [e]; exact hp
        · exact hall j j0 (by omega)⟩ (by omega)
      have hend : (a < l.length → inW (gi l a) = false) → _ := fun he =>
        tk_run k0 (show k < a by
          by_cases e : k = a
          · subst e
            have := he (by omega)
            rw [← hc, inW_first hb] at this; cases this
          · omega) a1 hall he
      clear ih2
      simp -implicitDefEqProofs only [congrArg KI.code sc_waymarkref11_Split_L1.eq_1, go_sem, Nat.reduceEqDiff, Nat.reduceAdd, Nat.reduceMul, Nat.reduceLeDiff, Nat.reduceSub, Nat.reduceLT, Nat.reduceBEq, Int.reduceToNat, reduceCtorEq, ↓reduceIte, Int.reduceEq, Int.reduceNeg, Int.reduceLT, Int.reduceLE, Int.reduceAdd, Int.reduceSub, Int.reduceMul]
      by_cases ha : a < l.length
      · cases hp : inW (gi l a) with
        | true =>
          have nxt := nx ha hp
          simp only [inW, wl, wd, Bool.or_eq_true, Bool.or_eq_false_iff, decide_eq_true_eq, decide_eq_false_iff_not] at hp
          repeat' (first | simp -implicitDefEqProofs only [go_sem, Nat.reduceEqDiff, Nat.reduceAdd, Nat.reduceMul, Nat.reduceLeDiff, Nat.reduceSub, Nat.reduceLT, Nat.reduceBEq, Int.reduceToNat, reduceCtorEq, ↓reduceIte, Int.reduceEq, Int.reduceNeg, Int.reduceLT, Int.reduceLE, Int.reduceAdd, Int.reduceSub, Int.reduceMul] | simp -implicitDefEqProofs (disch := omega) only [get_gi, iaq_vec, iao_arr, iaq_raw, rd_map, wrap_id, binq_quo, binq_rem, binq_shl, binq_shr, tdiv_pos, tmod_pos, if_pos, exV_some, Option.map_some] | ((first | with_reducible apply exIf_dec | ((with_reducible apply exGd_dec); focus exact rfl) | ((with_reducible apply exGq_dec); focus exact rfl) | with_reducible apply exIf_intro | ((with_reducible apply exGd_intro); focus exact rfl) | ((with_reducible apply exGq_intro); focus exact rfl)) <;> intro _) | with_reducible refine exC_pure (rletter_c _ _) ?_ | with_reducible refine exCq_pure (rletter_c _ _) ?_ | with_reducible refine exC_pure (rdigit_c _ _) ?_ | with_reducible refine exCq_pure (rdigit_c _ _) ?_)
          all_goals first | exact nxt | (exfalso; omega)
        | false =>
          obtain ⟨t1, t2, t3⟩ := hend fun _ => hp
          simp only [inW, wl, wd, Bool.or_eq_true, Bool.or_eq_false_iff, decide_eq_true_eq, decide_eq_false_iff_not] at hp
          repeat' (first | simp -implicitDefEqProofs only [go_sem, Nat.reduceEqDiff, Nat.reduceAdd, Nat.reduceMul, Nat.reduceLeDiff, Nat.reduceSub, Nat.reduceLT, Nat.reduceBEq, Int.reduceToNat, reduceCtorEq, ↓reduceIte, Int.reduceEq, Int.reduceNeg, Int.reduceLT, Int.reduceLE, Int.reduceAdd, Int.reduceSub, Int.reduceMul] | simp -implicitDefEqProofs (disch := omega) only [get_gi, iaq_vec, iao_arr, iaq_raw, rd_map, wrap_id, binq_quo, binq_rem, binq_shl, binq_shr, tdiv_pos, tmod_pos, if_pos, exV_some, Option.map_some] | ((first | with_reducible apply exIf_dec | ((with_reducible apply exGd_dec); focus exact rfl) | ((with_reducible apply exGq_dec); focus exact rfl) | with_reducible apply exIf_intro | ((with_reducible apply exGd_intro); focus exact rfl) | ((with_reducible apply exGq_intro); focus exact rfl)) <;> intro _) | with_reducible refine exC_pure (rletter_c _ _) ?_ | with_reducible refine exCq_pure (rletter_c _ _) ?_ | with_reducible refine exC_pure (rdigit_c _ _) ?_ | with_reducible refine exCq_pure (rdigit_c _ _) ?_)
          all_goals first | (exfalso; omega) | skip
          refine exS_rows (α := Tok) ⟨1, k, _⟩ rfl rfl rfl (by omega) (by simp only [maxLen]; omega) ?_
          repeat' (first | simp -implicitDefEqProofs only [go_sem, Nat.reduceEqDiff, Nat.reduceAdd, Nat.reduceMul, Nat.reduceLeDiff, Nat.reduceSub, Nat.reduceLT, Nat.reduceBEq, Int.reduceToNat, reduceCtorEq, ↓reduceIte, Int.reduceEq, Int.reduceNeg, Int.reduceLT, Int.reduceLE, Int.reduceAdd, Int.reduceSub, Int.reduceMul] | simp -implicitDefEqProofs (disch := omega) only [iaq_vec, iao_arr, iaq_raw, rd_map, wrap_id, binq_quo, binq_rem, binq_shl, binq_shr, tdiv_pos, tmod_pos, if_pos, exV_some, Option.map_some] | ((first | with_reducible apply exIf_dec | ((with_reducible apply exGd_dec); focus exact rfl) | ((with_reducible apply exGq_dec); focus exact rfl) | with_reducible apply exIf_intro | ((with_reducible apply exGd_intro); focus exact rfl) | ((with_reducible apply exGq_intro); focus exact rfl)) <;> intro _))
          refine ih (a, out ++ [Tok.mk 1 k ((l.take a.toNat).drop k.toNat)]) ⟨by dsimp only; omega, a1, by simp; omega, ?_⟩ (by dsimp only; omega)
          dsimp only
          rw [htk, tk_word hb, hc, t1, t2, t3]
          simp [consT]
      · obtain ⟨t1, t2, t3⟩ := hend fun h => absurd h ha
        repeat' (first | simp -implicitDefEqProofs only [go_sem, Nat.reduceEqDiff, Nat.reduceAdd, Nat.reduceMul, Nat.reduceLeDiff, Nat.reduceSub, Nat.reduceLT, Nat.reduceBEq, Int.reduceToNat, reduceCtorEq, ↓reduceIte, Int.reduceEq, Int.reduceNeg, Int.reduceLT, Int.reduceLE, Int.reduceAdd, Int.reduceSub, Int.reduceMul] | simp -implicitDefEqProofs (disch := omega) only [iaq_vec, iao_arr, iaq_raw, rd_map, wrap_id, binq_quo, binq_rem, binq_shl, binq_shr, tdiv_pos, tmod_pos, if_pos, exV_some, Option.map_some] | ((first | with_reducible apply exIf_dec | ((with_reducible apply exGd_dec); focus exact rfl) | ((with_reducible apply exGq_dec); focus exact rfl) | with_reducible apply exIf_intro | ((with_reducible apply exGd_intro); focus exact rfl) | ((with_reducible apply exGq_intro); focus exact rfl)) <;> intro _))
        all_goals first | (exfalso; omega) | skip
        refine exS_rows (α := Tok) ⟨1, k, _⟩ rfl rfl rfl (by omega) (by simp only [maxLen]; omega) ?_
        repeat' (first | simp -implicitDefEqProofs only [go_sem, Nat.reduceEqDiff, Nat.reduceAdd, Nat.reduceMul, Nat.reduceLeDiff, Nat.reduceSub, Nat.reduceLT, Nat.reduceBEq, Int.reduceToNat, reduceCtorEq, ↓reduceIte, Int.reduceEq, Int.reduceNeg, Int.reduceLT, Int.reduceLE, Int.reduceAdd, Int.reduceSub, Int.reduceMul] | simp -implicitDefEqProofs (disch := omega) only [iaq_vec, iao_arr, iaq_raw, rd_map, wrap_id, binq_quo, binq_rem, binq_shl, binq_shr, tdiv_pos, tmod_pos, if_pos, exV_some, Option.map_some] | ((first | with_reducible apply exIf_dec | ((with_reducible apply exGd_dec); focus exact rfl) | ((with_reducible apply exGq_dec); focus exact rfl) | with_reducible apply exIf_intro | ((with_reducible apply exGd_intro); focus exact rfl) | ((with_reducible apply exGq_intro); focus exact rfl)) <;> intro _))
        refine ih (a, out ++ [Tok.mk 1 k ((l.take a.toNat).drop k.toNat)]) ⟨by dsimp only; omega, a1, by simp; omega, ?_⟩ (by dsimp only; omega)
        dsimp only
        rw [htk, tk_word hb, hc, t1, t2, t3]
        simp [consT]
    | false =>
    simp only [wl, decide_eq_false_iff_not] at hb2
    cases hb3 : wd c with
    | true =>
      have hb := hb3
      simp only [wd, decide_eq_true_eq] at hb3
      repeat' (first | simp -implicitDefEqProofs only [go_sem, Nat.reduceEqDiff, Nat.reduceAdd, Nat.reduceMul, Nat.reduceLeDiff, Nat.reduceSub, Nat.reduceLT, Nat.reduceBEq, Int.reduceToNat, reduceCtorEq, ↓reduceIte, Int.reduceEq, Int.reduceNeg, Int.reduceLT, Int.reduceLE, Int.reduceAdd, Int.reduceSub, Int.reduceMul] | simp -implicitDefEqProofs (disch := omega) only [get_gi, ← hc, iaq_vec, iao_arr, iaq_raw, rd_map, wrap_id, binq_quo, binq_rem, binq_shl, binq_shr, tdiv_pos, tmod_pos, if_pos, exV_some, Option.map_some] | ((first | with_reducible apply exIf_dec | ((with_reducible apply exGd_dec); focus exact rfl) | ((with_reducible apply exGq_dec); focus exact rfl) | with_reducible apply exIf_intro | ((with_reducible apply exGd_intro); focus exact rfl) | ((with_reducible apply exGq_intro); focus exact rfl)) <;> intro _) | with_reducible refine exC_pure (rletter_c _ _) ?_ | with_reducible refine exCq_pure (rletter_c _ _) ?_ | with_reducible refine exC_pure (rdigit_c _ _) ?_ | with_reducible refine exCq_pure (rdigit_c _ _) ?_)
      all_goals first | (exfalso; omega) | skip
      refine exL_mod (fun a : Int => [(6, .v (iv a))]) (fun _ => []) (fun a => k ≤ a ∧ a ≤ l.length ∧ ∀ j, k ≤ j → j < a → inN (gi l j) = true) (fun a => (l.length - a).toNat) k rfl ⟨Int.le_refl _, k1, fun j _ _ => by omega⟩ ?_
      rintro a ⟨a0, a1, hall⟩ ih2
      simp only [S.up, S.upH, ups, Abs.put, Nat.reduceEqDiff, ↓reduceIte, Nat.reduceAdd] at ih2
      have nx : a < l.length → inN (gi l a) = true → _ := fun ha hp => ih2 (a + 1) ⟨by omega, by omega, fun j j0 j1 => by
        by_cases e : j = a
        · rw [e]; exact hp
        · exact hall j j0 (by omega)⟩ (by omega)
      have hend : (a < l.length → inN (gi l a) = false) → _ := fun he =>
        tk_run k0 (show k < a by
          by_cases e : k = a
          · subst e
            have := he (by omega)
            rw [← hc, inN_first hb] at this; cases this
          · omega) a1 hall he
      clear ih2
      simp -implicitDefEqProofs only [congrArg KI.code sc_waymarkref11_Split_L0.eq_1, go_sem, Nat.reduceEqDiff, Nat.reduceAdd, Nat.reduceMul, Nat.reduceLeDiff, Nat.reduceSub, Nat.reduceLT, Nat.reduceBEq, Int.reduceToNat, reduceCtorEq, ↓reduceIte, Int.reduceEq, Int.reduceNeg, Int.reduceLT, Int.reduceLE, Int.reduceAdd, Int.reduceSub, Int.reduceMul]
      by_cases ha : a < l.length
      · cases hp : inN (gi l a) with
        | true =>
          have nxt := nx ha hp
          simp only [inN, wl, wd, Bool.or_eq_true, Bool.or_eq_false_iff, decide_eq_true_eq, decide_eq_false_iff_not] at hp
          repeat' (first | simp -implicitDefEqProofs only [go_sem, Nat.reduceEqDiff, Nat.reduceAdd, Nat.reduceMul, Nat.reduceLeDiff, Nat.reduceSub, Nat.reduceLT, Nat.reduceBEq, Int.reduceToNat, reduceCtorEq, ↓reduceIte, Int.reduceEq, Int.reduceNeg, Int.reduceLT, Int.reduceLE, Int.reduceAdd, Int.reduceSub, Int.reduceMul] | simp -implicitDefEqProofs (disch := omega) only [get_gi, iaq_vec, iao_arr, iaq_raw, rd_map, wrap_id, binq_quo, binq_rem, binq_shl, binq_shr, tdiv_pos, tmod_pos, if_pos, exV_some, Option.map_some] | ((first | with_reducible apply exIf_dec | ((with_reducible apply exGd_dec); focus exact rfl) | ((with_reducible apply exGq_dec); focus exact rfl) | with_reducible apply exIf_intro | ((with_reducible apply exGd_intro); focus exact rfl) | ((with_reducible apply exGq_intro); focus exact rfl)) <;> intro _) | with_reducible refine exC_pure (rletter_c _ _) ?_ | with_reducible refine exCq_pure (rletter_c _ _) ?_ | with_reducible refine exC_pure (rdigit_c _ _) ?_ | with_reducible refine exCq_pure (rdigit_c _ _) ?_)
          all_goals first | exact nxt | (exfalso; omega)
        | false =>
          obtain ⟨t1, t2, t3⟩ := hend fun _ => hp
          simp only [inN, wl, wd, Bool.or_eq_true, Bool.or_eq_false_iff, decide_eq_true_eq, decide_eq_false_iff_not] at hp
          repeat' (first | simp -implicitDefEqProofs only [go_sem, Nat.reduceEqDiff, Nat.reduceAdd, Nat.reduceMul, Nat.reduceLeDiff, Nat.reduceSub, Nat.reduceLT, Nat.reduceBEq, Int.reduceToNat, reduceCtorEq, ↓reduceIte, Int.reduceEq, Int.reduceNeg, Int.reduceLT, Int.reduceLE, Int.reduceAdd, Int.reduceSub, Int.reduceMul] | simp -implicitDefEqProofs (disch := omega) only [get_gi, iaq_vec, iao_arr, iaq_raw, rd_map, wrap_id, binq_quo, binq_rem, binq_shl, binq_shr, tdiv_pos, tmod_pos, if_pos, exV_some, Option.map_some] | ((first | with_reducible apply exIf_dec | ((with_reducible apply exGd_dec); focus exact rfl) | ((with_reducible apply exGq_dec); focus exact rfl) | with_reducible apply exIf_intro | ((with_reducible apply exGd_intro); focus exact rfl) | ((with_reducible apply exGq_intro); focus exact rfl)) <;> intro _) | with_reducible refine exC_pure (rletter_c _ _) ?_ | with_reducible refine exCq_pure (rletter_c _ _) ?_ | with_reducible refine exC_pure (rdigit_c _ _) ?_ | with_reducible refine exCq_pure (rdigit_c _ _) ?_)
          all_goals first | (exfalso; omega) | skip
          refine exS_rows (α := Tok) ⟨2, k, _⟩ rfl rfl rfl (by omega) (by simp only [maxLen]; omega) ?_
          repeat' (first | simp -implicitDefEqProofs only [go_sem, Nat.reduceEqDiff, Nat.reduceAdd, Nat.reduceMul, Nat.reduceLeDiff, Nat.reduceSub, Nat.reduceLT, Nat.reduceBEq, Int.reduceToNat, reduceCtorEq, ↓reduceIte, Int.reduceEq, Int.reduceNeg, Int.reduceLT, Int.reduceLE, Int.reduceAdd, Int.reduceSub, Int.reduceMul] | simp -implicitDefEqProofs (disch := omega) only [iaq_vec, iao_arr, iaq_raw, rd_map, wrap_id, binq_quo, binq_rem, binq_shl, binq_shr, tdiv_pos, tmod_pos, if_pos, exV_some, Option.map_some] | ((first | with_reducible apply exIf_dec | ((with_reducible apply exGd_dec); focus exact rfl) | ((with_reducible apply exGq_dec); focus exact rfl) | with_reducible apply exIf_intro | ((with_reducible apply exGd_intro); focus exact rfl) | ((with_reducible apply exGq_intro); focus exact rfl)) <;> intro _))
          refine ih (a, out ++ [Tok.mk 2 k ((l.take a.toNat).drop k.toNat)]) ⟨by dsimp only; omega, a1, by simp; omega, ?_⟩ (by dsimp only; omega)
          dsimp only
          rw [htk, tk_num hb, hc, t1, t2, t3]
          simp [consT]
      · obtain ⟨t1, t2, t3⟩ := hend fun h => absurd h ha
        repeat' (first | simp -implicitDefEqProofs only [go_sem, Nat.reduceEqDiff, Nat.reduceAdd, Nat.reduceMul, Nat.reduceLeDiff, Nat.reduceSub, Nat.reduceLT, Nat.reduceBEq, Int.reduceToNat, reduceCtorEq, ↓reduceIte, Int.reduceEq, Int.reduceNeg, Int.reduceLT, Int.reduceLE, Int.reduceAdd, Int.reduceSub, Int.reduceMul] | simp -implicitDefEqProofs (disch := omega) only [iaq_vec, iao_arr, iaq_raw, rd_map, wrap_id, binq_quo, binq_rem, binq_shl, binq_shr, tdiv_pos, tmod_pos, if_pos, exV_some, Option.map_some] | ((first | with_reducible apply exIf_dec | ((with_reducible apply exGd_dec); focus exact rfl) | ((with_reducible apply exGq_dec); focus exact rfl) | with_reducible apply exIf_intro | ((with_reducible apply exGd_intro); focus exact rfl) | ((with_reducible apply exGq_intro); focus exact rfl)) <;> intro _))
        all_goals first | (exfalso; omega) | skip
        refine exS_rows (α := Tok) ⟨2, k, _⟩ rfl rfl rfl (by omega) (by simp only [maxLen]; omega) ?_
        repeat' (first | simp -implicitDefEqProofs only [go_sem, Nat.reduceEqDiff, Nat.reduceAdd, Nat.reduceMul, Nat.reduceLeDiff, Nat.reduceSub, Nat.reduceLT, Nat.reduceBEq, Int.reduceToNat, reduceCtorEq, ↓reduceIte, Int.reduceEq, Int.reduceNeg, Int.reduceLT, Int.reduceLE, Int.reduceAdd, Int.reduceSub, Int.reduceMul] | simp -implicitDefEqProofs (disch := omega) only [iaq_vec, iao_arr, iaq_raw, rd_map, wrap_id, binq_quo, binq_rem, binq_shl, binq_shr, tdiv_pos, tmod_pos, if_pos, exV_some, Option.map_some] | ((first | with_reducible apply exIf_dec | ((with_reducible apply exGd_dec); focus exact rfl) | ((with_reducible apply exGq_dec); focus exact rfl) | with_reducible apply exIf_intro | ((with_reducible apply exGd_intro); focus exact rfl) | ((with_reducible apply exGq_intro); focus exact rfl)) <;> intro _))
        refine ih (a, out ++ [Tok.mk 2 k ((l.take a.toNat).drop k.toNat)]) ⟨by dsimp only; omega, a1, by simp; omega, ?_⟩ (by dsimp only; omega)
        dsimp only
        rw [htk, tk_num hb, hc, t1, t2, t3]
        simp [consT]
    | false =>
    have hb3' := hb3
    simp only [wd, decide_eq_false_iff_not] at hb3
    by_cases hb4 : bI c = 59
    · repeat' (first | simp -implicitDefEqProofs only [go_sem, Nat.reduceEqDiff, Nat.reduceAdd, Nat.reduceMul, Nat.reduceLeDiff, Nat.reduceSub, Nat.reduceLT, Nat.reduceBEq, Int.reduceToNat, reduceCtorEq, ↓reduceIte, Int.reduceEq, Int.reduceNeg, Int.reduceLT, Int.reduceLE, Int.reduceAdd, Int.reduceSub, Int.reduceMul] | simp -implicitDefEqProofs (disch := omega) only [get_gi, ← hc, iaq_vec, iao_arr, iaq_raw, rd_map, wrap_id, binq_quo, binq_rem, binq_shl, binq_shr, tdiv_pos, tmod_pos, if_pos, exV_some, Option.map_some] | ((first | with_reducible apply exIf_dec | ((with_reducible apply exGd_dec); focus exact rfl) | ((with_reducible apply exGq_dec); focus exact rfl) | with_reducible apply exIf_intro | ((with_reducible apply exGd_intro); focus exact rfl) | ((with_reducible apply exGq_intro); focus exact rfl)) <;> intro _) | with_reducible refine exC_pure (rletter_c _ _) ?_ | with_reducible refine exCq_pure (rletter_c _ _) ?_ | with_reducible refine exC_pure (rdigit_c _ _) ?_ | with_reducible refine exCq_pure (rdigit_c _ _) ?_)
      all_goals first | (exfalso; omega) | skip
      have hc59 : c = 59 := bI_inj (by rw [hb4]; rfl)
      refine exS_rows (α := Tok) (Tok.mk 3 k [59]) rfl rfl rfl (by omega) (by simp only [maxLen]; omega) ?_
      repeat' (first | simp -implicitDefEqProofs only [go_sem, Nat.reduceEqDiff, Nat.reduceAdd, Nat.reduceMul, Nat.reduceLeDiff, Nat.reduceSub, Nat.reduceLT, Nat.reduceBEq, Int.reduceToNat, reduceCtorEq, ↓reduceIte, Int.reduceEq, Int.reduceNeg, Int.reduceLT, Int.reduceLE, Int.reduceAdd, Int.reduceSub, Int.reduceMul] | simp -implicitDefEqProofs (disch := omega) only [iaq_vec, iao_arr, iaq_raw, rd_map, wrap_id, binq_quo, binq_rem, binq_shl, binq_shr, tdiv_pos, tmod_pos, if_pos, exV_some, Option.map_some] | ((first | with_reducible apply exIf_dec | ((with_reducible apply exGd_dec); focus exact rfl) | ((with_reducible apply exGq_dec); focus exact rfl) | with_reducible apply exIf_intro | ((with_reducible apply exGd_intro); focus exact rfl) | ((with_reducible apply exGq_intro); focus exact rfl)) <;> intro _))
      refine ih (k + 1, out ++ [Tok.mk 3 k [59]]) ⟨by dsimp only; omega, by dsimp only; omega, by simp; omega, ?_⟩ (by dsimp only; omega)
      dsimp only
      rw [htk, tk_sign hb4, ← hc59]
      simp [consT]
    · repeat' (first | simp -implicitDefEqProofs only [go_sem, Nat.reduceEqDiff, Nat.reduceAdd, Nat.reduceMul, Nat.reduceLeDiff, Nat.reduceSub, Nat.reduceLT, Nat.reduceBEq, Int.reduceToNat, reduceCtorEq, ↓reduceIte, Int.reduceEq, Int.reduceNeg, Int.reduceLT, Int.reduceLE, Int.reduceAdd, Int.reduceSub, Int.reduceMul] | simp -implicitDefEqProofs (disch := omega) only [get_gi, ← hc, iaq_vec, iao_arr, iaq_raw, rd_map, wrap_id, binq_quo, binq_rem, binq_shl, binq_shr, tdiv_pos, tmod_pos, if_pos, exV_some, Option.map_some] | ((first | with_reducible apply exIf_dec | ((with_reducible apply exGd_dec); focus exact rfl) | ((with_reducible apply exGq_dec); focus exact rfl) | with_reducible apply exIf_intro | ((with_reducible apply exGd_intro); focus exact rfl) | ((with_reducible apply exGq_intro); focus exact rfl)) <;> intro _) | with_reducible refine exC_pure (rletter_c _ _) ?_ | with_reducible refine exCq_pure (rletter_c _ _) ?_ | with_reducible refine exC_pure (rdigit_c _ _) ?_ | with_reducible refine exCq_pure (rdigit_c _ _) ?_)
      all_goals first | (exfalso; omega) | skip
      rw [tk_bad (by omega) (by omega) (by simp only [wl, decide_eq_false_iff_not]; omega) hb3' (by omega), List.append_nil] at htk
      exact (fin out k htk).2 (by omega)
  · have hk' : k = l.length := by omega
    rw [drop_end (by omega), tk_nil, List.append_nil] at htk
    have nxt := (fin out (-1) htk).1 rfl
    clear ih
    repeat' (first | simp -implicitDefEqProofs only [go_sem, Nat.reduceEqDiff, Nat.reduceAdd, Nat.reduceMul, Nat.reduceLeDiff, Nat.reduceSub, Nat.reduceLT, Nat.reduceBEq, Int.reduceToNat, reduceCtorEq, ↓reduceIte, Int.reduceEq, Int.reduceNeg, Int.reduceLT, Int.reduceLE, Int.reduceAdd, Int.reduceSub, Int.reduceMul] | simp -implicitDefEqProofs (disch := omega) only [iaq_vec, iao_arr, iaq_raw, rd_map, wrap_id, binq_quo, binq_rem, binq_shl, binq_shr, tdiv_pos, tmod_pos, if_pos, exV_some, Option.map_some] | ((first | with_reducible apply exIf_dec | ((with_reducible apply exGd_dec); focus exact rfl) | ((with_reducible apply exGq_dec); focus exact rfl) | with_reducible apply exIf_intro | ((with_reducible apply exGd_intro); focus exact rfl) | ((with_reducible apply exGq_intro); focus exact rfl)) <;> intro _))
    all_goals first | exact nxt | (exfalso; omega)
end Go.Proofs.Ytkephdahbplhfaa
