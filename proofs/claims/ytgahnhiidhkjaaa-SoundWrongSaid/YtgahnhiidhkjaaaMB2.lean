import Derived.Test.YtgahnhiidhkjaaaMC1
import Derived.Test.YtgahnhiidhkjaaaMB1
set_option linter.unusedSimpArgs false
set_option linter.unusedVariables false
section
/- The package words, and the document's own Split: what they answer. -/
namespace Go.Proofs.Ytgahnhiidhkjaaa
open Go Abs
attribute [local irreducible] EX exL exG exC exCq exS exV exIf exGd exGq
set_option maxHeartbeats 1000000
attribute [go_sem] sv_size sv_extract sv_get sv_eq bI_fold List.size_toArray

abbrev xv (x : Int) : AV := .raw (.int .u8 x)
theorem letter_c (x : Int) (H : AHeap) : APure Try.prog 94 [xv x] H (bv (decide (97 ≤ x ∧ x ≤ 122))) := by
  intro Q h
  refine ACalls.of_code fn_words_letter ?_
  simp -implicitDefEqProofs only [sc_words_letter, go_sem, Nat.reduceEqDiff, Nat.reduceAdd, Nat.reduceMul, Nat.reduceLeDiff, Nat.reduceSub, Nat.reduceLT, Nat.reduceBEq, Int.reduceToNat, reduceCtorEq, ↓reduceIte, Int.reduceEq, Int.reduceNeg, Int.reduceLT, Int.reduceLE, Int.reduceAdd, Int.reduceSub, Int.reduceMul]
  repeat' (first | simp -implicitDefEqProofs only [go_sem, Nat.reduceEqDiff, Nat.reduceAdd, Nat.reduceMul, Nat.reduceLeDiff, Nat.reduceSub, Nat.reduceLT, Nat.reduceBEq, Int.reduceToNat, reduceCtorEq, ↓reduceIte, Int.reduceEq, Int.reduceNeg, Int.reduceLT, Int.reduceLE, Int.reduceAdd, Int.reduceSub, Int.reduceMul] | simp -implicitDefEqProofs (disch := omega) only [iaq_vec, iao_arr, iaq_raw, rd_map, wrap_id, binq_quo, binq_rem, binq_shl, binq_shr, tdiv_pos, tmod_pos, if_pos, exV_some, Option.map_some] | ((first | with_reducible apply exIf_dec | ((with_reducible apply exGd_dec); focus exact rfl) | ((with_reducible apply exGq_dec); focus exact rfl) | with_reducible apply exIf_intro | ((with_reducible apply exGd_intro); focus exact rfl) | ((with_reducible apply exGq_intro); focus exact rfl)) <;> intro _))
  all_goals
    refine fin_ h (congrArg (fun b => AV.raw (.bool b)) ?_)
    simp [*]
theorem digit_c (x : Int) (H : AHeap) : APure Try.prog 107 [xv x] H (bv (decide (48 ≤ x ∧ x ≤ 57))) := by
  intro Q h
  refine ACalls.of_code fn_words_digit ?_
  simp -implicitDefEqProofs only [sc_words_digit, go_sem, Nat.reduceEqDiff, Nat.reduceAdd, Nat.reduceMul, Nat.reduceLeDiff, Nat.reduceSub, Nat.reduceLT, Nat.reduceBEq, Int.reduceToNat, reduceCtorEq, ↓reduceIte, Int.reduceEq, Int.reduceNeg, Int.reduceLT, Int.reduceLE, Int.reduceAdd, Int.reduceSub, Int.reduceMul]
  repeat' (first | simp -implicitDefEqProofs only [go_sem, Nat.reduceEqDiff, Nat.reduceAdd, Nat.reduceMul, Nat.reduceLeDiff, Nat.reduceSub, Nat.reduceLT, Nat.reduceBEq, Int.reduceToNat, reduceCtorEq, ↓reduceIte, Int.reduceEq, Int.reduceNeg, Int.reduceLT, Int.reduceLE, Int.reduceAdd, Int.reduceSub, Int.reduceMul] | simp -implicitDefEqProofs (disch := omega) only [iaq_vec, iao_arr, iaq_raw, rd_map, wrap_id, binq_quo, binq_rem, binq_shl, binq_shr, tdiv_pos, tmod_pos, if_pos, exV_some, Option.map_some] | ((first | with_reducible apply exIf_dec | ((with_reducible apply exGd_dec); focus exact rfl) | ((with_reducible apply exGq_dec); focus exact rfl) | with_reducible apply exIf_intro | ((with_reducible apply exGd_intro); focus exact rfl) | ((with_reducible apply exGq_intro); focus exact rfl)) <;> intro _))
  all_goals
    refine fin_ h (congrArg (fun b => AV.raw (.bool b)) ?_)
    simp [*]
theorem inWord_c (b : UInt8) (H : AHeap) : APure Try.prog 95 [yv b] H (bv (inW b)) := by
  intro Q h
  refine ACalls.of_code fn_words_inWord ?_
  simp -implicitDefEqProofs only [sc_words_inWord, go_sem, Nat.reduceEqDiff, Nat.reduceAdd, Nat.reduceMul, Nat.reduceLeDiff, Nat.reduceSub, Nat.reduceLT, Nat.reduceBEq, Int.reduceToNat, reduceCtorEq, ↓reduceIte, Int.reduceEq, Int.reduceNeg, Int.reduceLT, Int.reduceLE, Int.reduceAdd, Int.reduceSub, Int.reduceMul]
  repeat' (first | simp -implicitDefEqProofs only [go_sem, Nat.reduceEqDiff, Nat.reduceAdd, Nat.reduceMul, Nat.reduceLeDiff, Nat.reduceSub, Nat.reduceLT, Nat.reduceBEq, Int.reduceToNat, reduceCtorEq, ↓reduceIte, Int.reduceEq, Int.reduceNeg, Int.reduceLT, Int.reduceLE, Int.reduceAdd, Int.reduceSub, Int.reduceMul] | simp -implicitDefEqProofs (disch := omega) only [iaq_vec, iao_arr, iaq_raw, rd_map, wrap_id, binq_quo, binq_rem, binq_shl, binq_shr, tdiv_pos, tmod_pos, if_pos, exV_some, Option.map_some] | ((first | with_reducible apply exIf_dec | ((with_reducible apply exGd_dec); focus exact rfl) | ((with_reducible apply exGq_dec); focus exact rfl) | with_reducible apply exIf_intro | ((with_reducible apply exGd_intro); focus exact rfl) | ((with_reducible apply exGq_intro); focus exact rfl)) <;> intro _) | with_reducible refine exC_pure (letter_c _ _) ?_ | with_reducible refine exCq_pure (letter_c _ _) ?_ | with_reducible refine exC_pure (digit_c _ _) ?_ | with_reducible refine exCq_pure (digit_c _ _) ?_)
  all_goals
    refine fin_ h (congrArg (fun b => AV.raw (.bool b)) ?_)
    simp [inW, wl, wd, *]
def toksAV (l : List Tok) : AV := .vec l.isEmpty (rows l) l.length
/-- what Split answers -/
def splitAV (l : List UInt8) : AV :=
  if 10000 < l.length then .tup [.vec true [] 0, iv 0, iv 6]
  else if (tk l 0).2 = -1 then .tup [toksAV (tk l 0).1, iv (-1), iv 0]
  else .tup [.vec true [] 0, iv (tk l 0).2, iv 3]

theorem inW_first {b : UInt8} (h : wl b = true) : inW b = true := by simp [inW, h]
theorem inN_first {b : UInt8} (h : wd b = true) : inN b = true := by simp [inN, h]
end Go.Proofs.Ytgahnhiidhkjaaa
end

section
/- The document's own Split: it answers as the package words does. -/
namespace Go.Proofs.Ytgahnhiidhkjaaa
open Go Abs
attribute [local irreducible] EX exL exG exC exCq exS exV exIf exGd exGq
set_option maxHeartbeats 3000000

theorem rletter_c (x : Int) (H : AHeap) : APure Try.prog 97 [xv x] H (bv (decide (97 ≤ x ∧ x ≤ 122))) := by
  intro Q h
  refine ACalls.of_code fn_waymarkref11_letter ?_
  simp -implicitDefEqProofs only [sc_waymarkref11_letter, go_sem, Nat.reduceEqDiff, Nat.reduceAdd, Nat.reduceMul, Nat.reduceLeDiff, Nat.reduceSub, Nat.reduceLT, Nat.reduceBEq, Int.reduceToNat, reduceCtorEq, ↓reduceIte, Int.reduceEq, Int.reduceNeg, Int.reduceLT, Int.reduceLE, Int.reduceAdd, Int.reduceSub, Int.reduceMul]
  repeat' (first | simp -implicitDefEqProofs only [go_sem, Nat.reduceEqDiff, Nat.reduceAdd, Nat.reduceMul, Nat.reduceLeDiff, Nat.reduceSub, Nat.reduceLT, Nat.reduceBEq, Int.reduceToNat, reduceCtorEq, ↓reduceIte, Int.reduceEq, Int.reduceNeg, Int.reduceLT, Int.reduceLE, Int.reduceAdd, Int.reduceSub, Int.reduceMul] | simp -implicitDefEqProofs (disch := omega) only [iaq_vec, iao_arr, iaq_raw, rd_map, wrap_id, binq_quo, binq_rem, binq_shl, binq_shr, tdiv_pos, tmod_pos, if_pos, exV_some, Option.map_some] | ((first | with_reducible apply exIf_dec | ((with_reducible apply exGd_dec); focus exact rfl) | ((with_reducible apply exGq_dec); focus exact rfl) | with_reducible apply exIf_intro | ((with_reducible apply exGd_intro); focus exact rfl) | ((with_reducible apply exGq_intro); focus exact rfl)) <;> intro _))
  all_goals
    refine fin_ h (congrArg (fun b => AV.raw (.bool b)) ?_)
    simp [*]
theorem rdigit_c (x : Int) (H : AHeap) : APure Try.prog 98 [xv x] H (bv (decide (48 ≤ x ∧ x ≤ 57))) := by
  intro Q h
  refine ACalls.of_code fn_waymarkref11_digit ?_
  simp -implicitDefEqProofs only [sc_waymarkref11_digit, go_sem, Nat.reduceEqDiff, Nat.reduceAdd, Nat.reduceMul, Nat.reduceLeDiff, Nat.reduceSub, Nat.reduceLT, Nat.reduceBEq, Int.reduceToNat, reduceCtorEq, ↓reduceIte, Int.reduceEq, Int.reduceNeg, Int.reduceLT, Int.reduceLE, Int.reduceAdd, Int.reduceSub, Int.reduceMul]
  repeat' (first | simp -implicitDefEqProofs only [go_sem, Nat.reduceEqDiff, Nat.reduceAdd, Nat.reduceMul, Nat.reduceLeDiff, Nat.reduceSub, Nat.reduceLT, Nat.reduceBEq, Int.reduceToNat, reduceCtorEq, ↓reduceIte, Int.reduceEq, Int.reduceNeg, Int.reduceLT, Int.reduceLE, Int.reduceAdd, Int.reduceSub, Int.reduceMul] | simp -implicitDefEqProofs (disch := omega) only [iaq_vec, iao_arr, iaq_raw, rd_map, wrap_id, binq_quo, binq_rem, binq_shl, binq_shr, tdiv_pos, tmod_pos, if_pos, exV_some, Option.map_some] | ((first | with_reducible apply exIf_dec | ((with_reducible apply exGd_dec); focus exact rfl) | ((with_reducible apply exGq_dec); focus exact rfl) | with_reducible apply exIf_intro | ((with_reducible apply exGd_intro); focus exact rfl) | ((with_reducible apply exGq_intro); focus exact rfl)) <;> intro _))
  all_goals
    refine fin_ h (congrArg (fun b => AV.raw (.bool b)) ?_)
    simp [*]
theorem rsplit_c (l : List UInt8) (hl : l.length ≤ 9223372036854775807) (H : AHeap) : APure Try.prog 82 [sv l] H (splitAV l) := by
  intro Q h
  refine ACalls.of_code fn_waymarkref11_Split ?_
  simp -implicitDefEqProofs only [sc_waymarkref11_Split, go_sem, Nat.reduceEqDiff, Nat.reduceAdd, Nat.reduceMul, Nat.reduceLeDiff, Nat.reduceSub, Nat.reduceLT, Nat.reduceBEq, Int.reduceToNat, reduceCtorEq, ↓reduceIte, Int.reduceEq, Int.reduceNeg, Int.reduceLT, Int.reduceLE, Int.reduceAdd, Int.reduceSub, Int.reduceMul]
  repeat' (first | simp -implicitDefEqProofs only [go_sem, Nat.reduceEqDiff, Nat.reduceAdd, Nat.reduceMul, Nat.reduceLeDiff, Nat.reduceSub, Nat.reduceLT, Nat.reduceBEq, Int.reduceToNat, reduceCtorEq, ↓reduceIte, Int.reduceEq, Int.reduceNeg, Int.reduceLT, Int.reduceLE, Int.reduceAdd, Int.reduceSub, Int.reduceMul] | simp -implicitDefEqProofs (disch := omega) only [iaq_vec, iao_arr, iaq_raw, rd_map, wrap_id, binq_quo, binq_rem, binq_shl, binq_shr, tdiv_pos, tmod_pos, if_pos, exV_some, Option.map_some] | ((first | with_reducible apply exIf_dec | ((with_reducible apply exGd_dec); focus exact rfl) | ((with_reducible apply exGq_dec); focus exact rfl) | with_reducible apply exIf_intro | ((with_reducible apply exGd_intro); focus exact rfl) | ((with_reducible apply exGq_intro); focus exact rfl)) <;> intro _))
  · refine fin_ h ?_
    rw [splitAV, if_pos (by omega)]
  have hlen : l.length ≤ 10000 := by omega
  have fin : ∀ (out : List Tok) (e : Int), tk l 0 = (out, e) → (e = -1 → Q (.tup [.vec out.isEmpty (rows out) out.length, iv (-1), iv 0]) H) ∧ (e ≠ -1 → Q (.tup [.vec true [] 0, iv e, iv 3]) H) := by
    intro out e he
    refine ⟨fun h1 => fin_ h ?_, fun h1 => fin_ h ?_⟩
    · rw [splitAV, if_neg (by omega), he, if_pos h1]; rfl
    · rw [splitAV, if_neg (by omega), he, if_neg h1]
  refine exL_mod (fun a : Int × List Tok => [(6, .v (iv a.1))]) (fun a => [(80, .arr a.2.isEmpty (rows a.2) a.2.length 118 3)])
    (fun a => 0 ≤ a.1 ∧ a.1 ≤ l.length ∧ a.2.length ≤ a.1 ∧ tk l 0 = (a.2 ++ (tk (l.drop a.1.toNat) a.1).1, (tk (l.drop a.1.toNat) a.1).2)) (fun a => (l.length - a.1).toNat) (0, []) rfl ⟨by simp, by simp, by simp, by simp⟩ ?_
  rintro ⟨k, out⟩ ⟨k0, k1, ho, htk⟩ ih
  dsimp only at k0 k1 ho htk ih
  simp only [S.up, S.upH, ups, Abs.put, Nat.reduceEqDiff, ↓reduceIte, Nat.reduceAdd] at ih
  simp -implicitDefEqProofs only [congrArg KI.code sc_waymarkref11_Split_L3.eq_1, go_sem, Nat.reduceEqDiff, Nat.reduceAdd, Nat.reduceMul, Nat.reduceLeDiff, Nat.reduceSub, Nat.reduceLT, Nat.reduceBEq, Int.reduceToNat, reduceCtorEq, ↓reduceIte, Int.reduceEq, Int.reduceNeg, Int.reduceLT, Int.reduceLE, Int.reduceAdd, Int.reduceSub, Int.reduceMul]
  by_cases hk : k < l.length
  · obtain ⟨c, hc⟩ : ∃ c, c = gi l k := ⟨_, rfl⟩
    rw [drop_gi k0 hk, ← hc] at htk
    by_cases hb : bI c = 32 ∨ bI c = 10
    · have nxt := ih (k + 1, out) ⟨by dsimp only; omega, by dsimp only; omega, by dsimp only; omega, by rw [htk, tk_blank hb]⟩ (by dsimp only; omega)
      repeat' (first | simp -implicitDefEqProofs only [go_sem, Nat.reduceEqDiff, Nat.reduceAdd, Nat.reduceMul, Nat.reduceLeDiff, Nat.reduceSub, Nat.reduceLT, Nat.reduceBEq, Int.reduceToNat, reduceCtorEq, ↓reduceIte, Int.reduceEq, Int.reduceNeg, Int.reduceLT, Int.reduceLE, Int.reduceAdd, Int.reduceSub, Int.reduceMul] | simp -implicitDefEqProofs (disch := omega) only [get_gi, ← hc, iaq_vec, iao_arr, iaq_raw, rd_map, wrap_id, binq_quo, binq_rem, binq_shl, binq_shr, tdiv_pos, tmod_pos, if_pos, exV_some, Option.map_some] | ((first | with_reducible apply exIf_dec | ((with_reducible apply exGd_dec); focus exact rfl) | ((with_reducible apply exGq_dec); focus exact rfl) | with_reducible apply exIf_intro | ((with_reducible apply exGd_intro); focus exact rfl) | ((with_reducible apply exGq_intro); focus exact rfl)) <;> intro _))
      all_goals first | exact nxt | (exfalso; omega)
    by_cases hb1 : bI c = 35
    · repeat' (first | simp -implicitDefEqProofs only [go_sem, Nat.reduceEqDiff, Nat.reduceAdd, Nat.reduceMul, Nat.reduceLeDiff, Nat.reduceSub, Nat.reduceLT, Nat.reduceBEq, Int.reduceToNat, reduceCtorEq, ↓reduceIte, Int.reduceEq, Int.reduceNeg, Int.reduceLT, Int.reduceLE, Int.reduceAdd, Int.reduceSub, Int.reduceMul] | simp -implicitDefEqProofs (disch := omega) only [get_gi, ← hc, iaq_vec, iao_arr, iaq_raw, rd_map, wrap_id, binq_quo, binq_rem, binq_shl, binq_shr, tdiv_pos, tmod_pos, if_pos, exV_some, Option.map_some] | ((first | with_reducible apply exIf_dec | ((with_reducible apply exGd_dec); focus exact rfl) | ((with_reducible apply exGq_dec); focus exact rfl) | with_reducible apply exIf_intro | ((with_reducible apply exGd_intro); focus exact rfl) | ((with_reducible apply exGq_intro); focus exact rfl)) <;> intro _))
      all_goals first | (exfalso; omega) | skip
      have hb := hb1
      refine exL_mod (fun a : Int => [(6, .v (iv a))]) (fun _ => []) (fun a => k ≤ a ∧ a ≤ l.length ∧ ∀ j, k ≤ j → j < a → inC (gi l j) = true) (fun a => (l.length - a).toNat) k rfl ⟨Int.le_refl _, k1, fun j _ _ => by omega⟩ ?_
      rintro a ⟨a0, a1, hall⟩ ih2
      simp only [S.up, S.upH, ups, Abs.put, Nat.reduceEqDiff, ↓reduceIte, Nat.reduceAdd] at ih2
      have nx : a < l.length → inC (gi l a) = true → _ := fun ha hp => ih2 (a + 1) ⟨by omega, by omega, fun j j0 j1 => by
        by_cases e : j = a
        · rw [e]; exact hp
        · exact hall j j0 (by omega)⟩ (by omega)
      have hend : (a < l.length → inC (gi l a) = false) → _ := fun he =>
        tk_run k0 (show k < a by
          by_cases e : k = a
          · subst e
            have := he (by omega)
            rw [← hc, inC, hb] at this; cases this
          · omega) a1 hall he
      clear ih2
      simp -implicitDefEqProofs only [congrArg KI.code sc_waymarkref11_Split_L2.eq_1, go_sem, Nat.reduceEqDiff, Nat.reduceAdd, Nat.reduceMul, Nat.reduceLeDiff, Nat.reduceSub, Nat.reduceLT, Nat.reduceBEq, Int.reduceToNat, reduceCtorEq, ↓reduceIte, Int.reduceEq, Int.reduceNeg, Int.reduceLT, Int.reduceLE, Int.reduceAdd, Int.reduceSub, Int.reduceMul]
      by_cases ha : a < l.length
      · cases hp : inC (gi l a) with
        | true =>
          have nxt := nx ha hp
          simp only [inC, wl, wd, Bool.or_eq_true, Bool.or_eq_false_iff, decide_eq_true_eq, decide_eq_false_iff_not] at hp
          repeat' (first | simp -implicitDefEqProofs only [go_sem, Nat.reduceEqDiff, Nat.reduceAdd, Nat.reduceMul, Nat.reduceLeDiff, Nat.reduceSub, Nat.reduceLT, Nat.reduceBEq, Int.reduceToNat, reduceCtorEq, ↓reduceIte, Int.reduceEq, Int.reduceNeg, Int.reduceLT, Int.reduceLE, Int.reduceAdd, Int.reduceSub, Int.reduceMul] | simp -implicitDefEqProofs (disch := omega) only [get_gi, iaq_vec, iao_arr, iaq_raw, rd_map, wrap_id, binq_quo, binq_rem, binq_shl, binq_shr, tdiv_pos, tmod_pos, if_pos, exV_some, Option.map_some] | ((first | with_reducible apply exIf_dec | ((with_reducible apply exGd_dec); focus exact rfl) | ((with_reducible apply exGq_dec); focus exact rfl) | with_reducible apply exIf_intro | ((with_reducible apply exGd_intro); focus exact rfl) | ((with_reducible apply exGq_intro); focus exact rfl)) <;> intro _) | with_reducible refine exC_pure (rletter_c _ _) ?_ | with_reducible refine exCq_pure (rletter_c _ _) ?_ | with_reducible refine exC_pure (rdigit_c _ _) ?_ | with_reducible refine exCq_pure (rdigit_c _ _) ?_)
          all_goals first | exact nxt | (exfalso; omega)
        | false =>
          obtain ⟨t1, t2, t3⟩ := hend fun _ => hp
          simp only [inC, wl, wd, Bool.or_eq_true, Bool.or_eq_false_iff, decide_eq_true_eq, decide_eq_false_iff_not] at hp
          repeat' (first | simp -implicitDefEqProofs only [go_sem, Nat.reduceEqDiff, Nat.reduceAdd, Nat.reduceMul, Nat.reduceLeDiff, Nat.reduceSub, Nat.reduceLT, Nat.reduceBEq, Int.reduceToNat, reduceCtorEq, ↓reduceIte, Int.reduceEq, Int.reduceNeg, Int.reduceLT, Int.reduceLE, Int.reduceAdd, Int.reduceSub, Int.reduceMul] | simp -implicitDefEqProofs (disch := omega) only [get_gi, iaq_vec, iao_arr, iaq_raw, rd_map, wrap_id, binq_quo, binq_rem, binq_shl, binq_shr, tdiv_pos, tmod_pos, if_pos, exV_some, Option.map_some] | ((first | with_reducible apply exIf_dec | ((with_reducible apply exGd_dec); focus exact rfl) | ((with_reducible apply exGq_dec); focus exact rfl) | with_reducible apply exIf_intro | ((with_reducible apply exGd_intro); focus exact rfl) | ((with_reducible apply exGq_intro); focus exact rfl)) <;> intro _) | with_reducible refine exC_pure (rletter_c _ _) ?_ | with_reducible refine exCq_pure (rletter_c _ _) ?_ | with_reducible refine exC_pure (rdigit_c _ _) ?_ | with_reducible refine exCq_pure (rdigit_c _ _) ?_)
          all_goals first | (exfalso; omega) | skip
          refine ih (a, out) ⟨by dsimp only; omega, a1, by dsimp only; omega, ?_⟩ (by dsimp only; omega)
          dsimp only
          rw [htk, tk_note hb, t2, t3]
      · obtain ⟨t1, t2, t3⟩ := hend fun h => absurd h ha
        repeat' (first | simp -implicitDefEqProofs only [go_sem, Nat.reduceEqDiff, Nat.reduceAdd, Nat.reduceMul, Nat.reduceLeDiff, Nat.reduceSub, Nat.reduceLT, Nat.reduceBEq, Int.reduceToNat, reduceCtorEq, ↓reduceIte, Int.reduceEq, Int.reduceNeg, Int.reduceLT, Int.reduceLE, Int.reduceAdd, Int.reduceSub, Int.reduceMul] | simp -implicitDefEqProofs (disch := omega) only [iaq_vec, iao_arr, iaq_raw, rd_map, wrap_id, binq_quo, binq_rem, binq_shl, binq_shr, tdiv_pos, tmod_pos, if_pos, exV_some, Option.map_some] | ((first | with_reducible apply exIf_dec | ((with_reducible apply exGd_dec); focus exact rfl) | ((with_reducible apply exGq_dec); focus exact rfl) | with_reducible apply exIf_intro | ((with_reducible apply exGd_intro); focus exact rfl) | ((with_reducible apply exGq_intro); focus exact rfl)) <;> intro _))
        all_goals first | (exfalso; omega) | skip
        refine ih (a, out) ⟨by dsimp only; omega, a1, by dsimp only; omega, ?_⟩ (by dsimp only; omega)
        dsimp only
        rw [htk, tk_note hb, t2, t3]
    cases hb2 : wl c with
    | true =>
      have hb := hb2
      simp only [wl, decide_eq_true_eq] at hb2
      repeat' (first | simp -implicitDefEqProofs only [go_sem, Nat.reduceEqDiff, Nat.reduceAdd, Nat.reduceMul, Nat.reduceLeDiff, Nat.reduceSub, Nat.reduceLT, Nat.reduceBEq, Int.reduceToNat, reduceCtorEq, ↓reduceIte, Int.reduceEq, Int.reduceNeg, Int.reduceLT, Int.reduceLE, Int.reduceAdd, Int.reduceSub, Int.reduceMul] | simp -implicitDefEqProofs (disch := omega) only [get_gi, ← hc, iaq_vec, iao_arr, iaq_raw, rd_map, wrap_id, binq_quo, binq_rem, binq_shl, binq_shr, tdiv_pos, tmod_pos, if_pos, exV_some, Option.map_some] | ((first | with_reducible apply exIf_dec | ((with_reducible apply exGd_dec); focus exact rfl) | ((with_reducible apply exGq_dec); focus exact rfl) | with_reducible apply exIf_intro | ((with_reducible apply exGd_intro); focus exact rfl) | ((with_reducible apply exGq_intro); focus exact rfl)) <;> intro _) | with_reducible refine exC_pure (rletter_c _ _) ?_ | with_reducible refine exCq_pure (rletter_c _ _) ?_ | with_reducible refine exC_pure (rdigit_c _ _) ?_ | with_reducible refine exCq_pure (rdigit_c _ _) ?_)
      all_goals first | (exfalso; omega) | skip
      refine exL_mod (fun a : Int => [(6, .v (iv a))]) (fun _ => []) (fun a => k ≤ a ∧ a ≤ l.length ∧ ∀ j, k ≤ j → j < a → inW (gi l j) = true) (fun a => (l.length - a).toNat) k rfl ⟨Int.le_refl _, k1, fun j _ _ => by omega⟩ ?_
      rintro a ⟨a0, a1, hall⟩ ih2
      simp only [S.up, S.upH, ups, Abs.put, Nat.reduceEqDiff, ↓reduceIte, Nat.reduceAdd] at ih2
      have nx : a < l.length → inW (gi l a) = true → _ := fun ha hp => ih2 (a + 1) ⟨by omega, by omega, fun j j0 j1 => by
        by_cases e : j = a
        · rw [e]; exact hp
        · exact hall j j0 (by omega)⟩ (by omega)
      have hend : (a < l.length → inW (gi l a) = false) → _ := fun he =>
        tk_run k0 (show k < a by
          by_cases e : k = a
          · subst e
            have := he (by omega)
            rw [← hc, inW_first hb] at this; cases this
          · omega) a1 hall he
      clear ih2
      simp -implicitDefEqProofs only [congrArg KI.code sc_waymarkref11_Split_L1.eq_1, go_sem, Nat.reduceEqDiff, Nat.reduceAdd, Nat.reduceMul, Nat.reduceLeDiff, Nat.reduceSub, Nat.reduceLT, Nat.reduceBEq, Int.reduceToNat, reduceCtorEq, ↓reduceIte, Int.reduceEq, Int.reduceNeg, Int.reduceLT, Int.reduceLE, Int.reduceAdd, Int.reduceSub, Int.reduceMul]
      by_cases ha : a < l.length
      · cases hp : inW (gi l a) with
        | true =>
          have nxt := nx ha hp
          simp only [inW, wl, wd, Bool.or_eq_true, Bool.or_eq_false_iff, decide_eq_true_eq, decide_eq_false_iff_not] at hp
          repeat' (first | simp -implicitDefEqProofs only [go_sem, Nat.reduceEqDiff, Nat.reduceAdd, Nat.reduceMul, Nat.reduceLeDiff, Nat.reduceSub, Nat.reduceLT, Nat.reduceBEq, Int.reduceToNat, reduceCtorEq, ↓reduceIte, Int.reduceEq, Int.reduceNeg, Int.reduceLT, Int.reduceLE, Int.reduceAdd, Int.reduceSub, Int.reduceMul] | simp -implicitDefEqProofs (disch := omega) only [get_gi, iaq_vec, iao_arr, iaq_raw, rd_map, wrap_id, binq_quo, binq_rem, binq_shl, binq_shr, tdiv_pos, tmod_pos, if_pos, exV_some, Option.map_some] | ((first | with_reducible apply exIf_dec | ((with_reducible apply exGd_dec); focus exact rfl) | ((with_reducible apply exGq_dec); focus exact rfl) | with_reducible apply exIf_intro | ((with_reducible apply exGd_intro); focus exact rfl) | ((with_reducible apply exGq_intro); focus exact rfl)) <;> intro _) | with_reducible refine exC_pure (rletter_c _ _) ?_ | with_reducible refine exCq_pure (rletter_c _ _) ?_ | with_reducible refine exC_pure (rdigit_c _ _) ?_ | with_reducible refine exCq_pure (rdigit_c _ _) ?_)
          all_goals first | exact nxt | (exfalso; omega)
        | false =>
          obtain ⟨t1, t2, t3⟩ := hend fun _ => hp
          simp only [inW, wl, wd, Bool.or_eq_true, Bool.or_eq_false_iff, decide_eq_true_eq, decide_eq_false_iff_not] at hp
          repeat' (first | simp -implicitDefEqProofs only [go_sem, Nat.reduceEqDiff, Nat.reduceAdd, Nat.reduceMul, Nat.reduceLeDiff, Nat.reduceSub, Nat.reduceLT, Nat.reduceBEq, Int.reduceToNat, reduceCtorEq, ↓reduceIte, Int.reduceEq, Int.reduceNeg, Int.reduceLT, Int.reduceLE, Int.reduceAdd, Int.reduceSub, Int.reduceMul] | simp -implicitDefEqProofs (disch := omega) only [get_gi, iaq_vec, iao_arr, iaq_raw, rd_map, wrap_id, binq_quo, binq_rem, binq_shl, binq_shr, tdiv_pos, tmod_pos, if_pos, exV_some, Option.map_some] | ((first | with_reducible apply exIf_dec | ((with_reducible apply exGd_dec); focus exact rfl) | ((with_reducible apply exGq_dec); focus exact rfl) | with_reducible apply exIf_intro | ((with_reducible apply exGd_intro); focus exact rfl) | ((with_reducible apply exGq_intro); focus exact rfl)) <;> intro _) | with_reducible refine exC_pure (rletter_c _ _) ?_ | with_reducible refine exCq_pure (rletter_c _ _) ?_ | with_reducible refine exC_pure (rdigit_c _ _) ?_ | with_reducible refine exCq_pure (rdigit_c _ _) ?_)
          all_goals first | (exfalso; omega) | skip
          refine exS_rows (α := Tok) ⟨1, k, _⟩ rfl rfl rfl (by omega) (by simp only [maxLen]; omega) ?_
          repeat' (first | simp -implicitDefEqProofs only [go_sem, Nat.reduceEqDiff, Nat.reduceAdd, Nat.reduceMul, Nat.reduceLeDiff, Nat.reduceSub, Nat.reduceLT, Nat.reduceBEq, Int.reduceToNat, reduceCtorEq, ↓reduceIte, Int.reduceEq, Int.reduceNeg, Int.reduceLT, Int.reduceLE, Int.reduceAdd, Int.reduceSub, Int.reduceMul] | simp -implicitDefEqProofs (disch := omega) only [iaq_vec, iao_arr, iaq_raw, rd_map, wrap_id, binq_quo, binq_rem, binq_shl, binq_shr, tdiv_pos, tmod_pos, if_pos, exV_some, Option.map_some] | ((first | with_reducible apply exIf_dec | ((with_reducible apply exGd_dec); focus exact rfl) | ((with_reducible apply exGq_dec); focus exact rfl) | with_reducible apply exIf_intro | ((with_reducible apply exGd_intro); focus exact rfl) | ((with_reducible apply exGq_intro); focus exact rfl)) <;> intro _))
          refine ih (a, out ++ [Tok.mk 1 k ((l.take a.toNat).drop k.toNat)]) ⟨by dsimp only; omega, a1, by simp; omega, ?_⟩ (by dsimp only; omega)
          dsimp only
          rw [htk, tk_word hb, hc, t1, t2, t3]
          simp [consT]
      · obtain ⟨t1, t2, t3⟩ := hend fun h => absurd h ha
        repeat' (first | simp -implicitDefEqProofs only [go_sem, Nat.reduceEqDiff, Nat.reduceAdd, Nat.reduceMul, Nat.reduceLeDiff, Nat.reduceSub, Nat.reduceLT, Nat.reduceBEq, Int.reduceToNat, reduceCtorEq, ↓reduceIte, Int.reduceEq, Int.reduceNeg, Int.reduceLT, Int.reduceLE, Int.reduceAdd, Int.reduceSub, Int.reduceMul] | simp -implicitDefEqProofs (disch := omega) only [iaq_vec, iao_arr, iaq_raw, rd_map, wrap_id, binq_quo, binq_rem, binq_shl, binq_shr, tdiv_pos, tmod_pos, if_pos, exV_some, Option.map_some] | ((first | with_reducible apply exIf_dec | ((with_reducible apply exGd_dec); focus exact rfl) | ((with_reducible apply exGq_dec); focus exact rfl) | with_reducible apply exIf_intro | ((with_reducible apply exGd_intro); focus exact rfl) | ((with_reducible apply exGq_intro); focus exact rfl)) <;> intro _))
        all_goals first | (exfalso; omega) | skip
        refine exS_rows (α := Tok) ⟨1, k, _⟩ rfl rfl rfl (by omega) (by simp only [maxLen]; omega) ?_
        repeat' (first | simp -implicitDefEqProofs only [go_sem, Nat.reduceEqDiff, Nat.reduceAdd, Nat.reduceMul, Nat.reduceLeDiff, Nat.reduceSub, Nat.reduceLT, Nat.reduceBEq, Int.reduceToNat, reduceCtorEq, ↓reduceIte, Int.reduceEq, Int.reduceNeg, Int.reduceLT, Int.reduceLE, Int.reduceAdd, Int.reduceSub, Int.reduceMul] | simp -implicitDefEqProofs (disch := omega) only [iaq_vec, iao_arr, iaq_raw, rd_map, wrap_id, binq_quo, binq_rem, binq_shl, binq_shr, tdiv_pos, tmod_pos, if_pos, exV_some, Option.map_some] | ((first | with_reducible apply exIf_dec | ((with_reducible apply exGd_dec); focus exact rfl) | ((with_reducible apply exGq_dec); focus exact rfl) | with_reducible apply exIf_intro | ((with_reducible apply exGd_intro); focus exact rfl) | ((with_reducible apply exGq_intro); focus exact rfl)) <;> intro _))
        refine ih (a, out ++ [Tok.mk 1 k ((l.take a.toNat).drop k.toNat)]) ⟨by dsimp only; omega, a1, by simp; omega, ?_⟩ (by dsimp only; omega)
        dsimp only
        rw [htk, tk_word hb, hc, t1, t2, t3]
        simp [consT]
    | false =>
    simp only [wl, decide_eq_false_iff_not] at hb2
    cases hb3 : wd c with
    | true =>
      have hb := hb3
      simp only [wd, decide_eq_true_eq] at hb3
      repeat' (first | simp -implicitDefEqProofs only [go_sem, Nat.reduceEqDiff, Nat.reduceAdd, Nat.reduceMul, Nat.reduceLeDiff, Nat.reduceSub, Nat.reduceLT, Nat.reduceBEq, Int.reduceToNat, reduceCtorEq, ↓reduceIte, Int.reduceEq, Int.reduceNeg, Int.reduceLT, Int.reduceLE, Int.reduceAdd, Int.reduceSub, Int.reduceMul] | simp -implicitDefEqProofs (disch := omega) only [get_gi, ← hc, iaq_vec, iao_arr, iaq_raw, rd_map, wrap_id, binq_quo, binq_rem, binq_shl, binq_shr, tdiv_pos, tmod_pos, if_pos, exV_some, Option.map_some] | ((first | with_reducible apply exIf_dec | ((with_reducible apply exGd_dec); focus exact rfl) | ((with_reducible apply exGq_dec); focus exact rfl) | with_reducible apply exIf_intro | ((with_reducible apply exGd_intro); focus exact rfl) | ((with_reducible apply exGq_intro); focus exact rfl)) <;> intro _) | with_reducible refine exC_pure (rletter_c _ _) ?_ | with_reducible refine exCq_pure (rletter_c _ _) ?_ | with_reducible refine exC_pure (rdigit_c _ _) ?_ | with_reducible refine exCq_pure (rdigit_c _ _) ?_)
      all_goals first | (exfalso; omega) | skip
      refine exL_mod (fun a : Int => [(6, .v (iv a))]) (fun _ => []) (fun a => k ≤ a ∧ a ≤ l.length ∧ ∀ j, k ≤ j → j < a → inN (gi l j) = true) (fun a => (l.length - a).toNat) k rfl ⟨Int.le_refl _, k1, fun j _ _ => by omega⟩ ?_
      rintro a ⟨a0, a1, hall⟩ ih2
      simp only [S.up, S.upH, ups, Abs.put, Nat.reduceEqDiff, ↓reduceIte, Nat.reduceAdd] at ih2
      have nx : a < l.length → inN (gi l a) = true → _ := fun ha hp => ih2 (a + 1) ⟨by omega, by omega, fun j j0 j1 => by
        by_cases e : j = a
        · rw [e]; exact hp
        · exact hall j j0 (by omega)⟩ (by omega)
      have hend : (a < l.length → inN (gi l a) = false) → _ := fun he =>
        tk_run k0 (show k < a by
          by_cases e : k = a
          · subst e
            have := he (by omega)
            rw [← hc, inN_first hb] at this; cases this
          · omega) a1 hall he
      clear ih2
      simp -implicitDefEqProofs only [congrArg KI.code sc_waymarkref11_Split_L0.eq_1, go_sem, Nat.reduceEqDiff, Nat.reduceAdd, Nat.reduceMul, Nat.reduceLeDiff, Nat.reduceSub, Nat.reduceLT, Nat.reduceBEq, Int.reduceToNat, reduceCtorEq, ↓reduceIte, Int.reduceEq, Int.reduceNeg, Int.reduceLT, Int.reduceLE, Int.reduceAdd, Int.reduceSub, Int.reduceMul]
      by_cases ha : a < l.length
      · cases hp : inN (gi l a) with
        | true =>
          have nxt := nx ha hp
          simp only [inN, wl, wd, Bool.or_eq_true, Bool.or_eq_false_iff, decide_eq_true_eq, decide_eq_false_iff_not] at hp
          repeat' (first | simp -implicitDefEqProofs only [go_sem, Nat.reduceEqDiff, Nat.reduceAdd, Nat.reduceMul, Nat.reduceLeDiff, Nat.reduceSub, Nat.reduceLT, Nat.reduceBEq, Int.reduceToNat, reduceCtorEq, ↓reduceIte, Int.reduceEq, Int.reduceNeg, Int.reduceLT, Int.reduceLE, Int.reduceAdd, Int.reduceSub, Int.reduceMul] | simp -implicitDefEqProofs (disch := omega) only [get_gi, iaq_vec, iao_arr, iaq_raw, rd_map, wrap_id, binq_quo, binq_rem, binq_shl, binq_shr, tdiv_pos, tmod_pos, if_pos, exV_some, Option.map_some] | ((first | with_reducible apply exIf_dec | ((with_reducible apply exGd_dec); focus exact rfl) | ((with_reducible apply exGq_dec); focus exact rfl) | with_reducible apply exIf_intro | ((with_reducible apply exGd_intro); focus exact rfl) | ((with_reducible apply exGq_intro); focus exact rfl)) <;> intro _) | with_reducible refine exC_pure (rletter_c _ _) ?_ | with_reducible refine exCq_pure (rletter_c _ _) ?_ | with_reducible refine exC_pure (rdigit_c _ _) ?_ | with_reducible refine exCq_pure (rdigit_c _ _) ?_)
          all_goals first | exact nxt | (exfalso; omega)
        | false =>
          obtain ⟨t1, t2, t3⟩ := hend fun _ => hp
          simp only [inN, wl, wd, Bool.or_eq_true, Bool.or_eq_false_iff, decide_eq_true_eq, decide_eq_false_iff_not] at hp
          repeat' (first | simp -implicitDefEqProofs only [go_sem, Nat.reduceEqDiff, Nat.reduceAdd, Nat.reduceMul, Nat.reduceLeDiff, Nat.reduceSub, Nat.reduceLT, Nat.reduceBEq, Int.reduceToNat, reduceCtorEq, ↓reduceIte, Int.reduceEq, Int.reduceNeg, Int.reduceLT, Int.reduceLE, Int.reduceAdd, Int.reduceSub, Int.reduceMul] | simp -implicitDefEqProofs (disch := omega) only [get_gi, iaq_vec, iao_arr, iaq_raw, rd_map, wrap_id, binq_quo, binq_rem, binq_shl, binq_shr, tdiv_pos, tmod_pos, if_pos, exV_some, Option.map_some] | ((first | with_reducible apply exIf_dec | ((with_reducible apply exGd_dec); focus exact rfl) | ((with_reducible apply exGq_dec); focus exact rfl) | with_reducible apply exIf_intro | ((with_reducible apply exGd_intro); focus exact rfl) | ((with_reducible apply exGq_intro); focus exact rfl)) <;> intro _) | with_reducible refine exC_pure (rletter_c _ _) ?_ | with_reducible refine exCq_pure (rletter_c _ _) ?_ | with_reducible refine exC_pure (rdigit_c _ _) ?_ | with_reducible refine exCq_pure (rdigit_c _ _) ?_)
          all_goals first | (exfalso; omega) | skip
          refine exS_rows (α := Tok) ⟨2, k, _⟩ rfl rfl rfl (by omega) (by simp only [maxLen]; omega) ?_
          repeat' (first | simp -implicitDefEqProofs only [go_sem, Nat.reduceEqDiff, Nat.reduceAdd, Nat.reduceMul, Nat.reduceLeDiff, Nat.reduceSub, Nat.reduceLT, Nat.reduceBEq, Int.reduceToNat, reduceCtorEq, ↓reduceIte, Int.reduceEq, Int.reduceNeg, Int.reduceLT, Int.reduceLE, Int.reduceAdd, Int.reduceSub, Int.reduceMul] | simp -implicitDefEqProofs (disch := omega) only [iaq_vec, iao_arr, iaq_raw, rd_map, wrap_id, binq_quo, binq_rem, binq_shl, binq_shr, tdiv_pos, tmod_pos, if_pos, exV_some, Option.map_some] | ((first | with_reducible apply exIf_dec | ((with_reducible apply exGd_dec); focus exact rfl) | ((with_reducible apply exGq_dec); focus exact rfl) | with_reducible apply exIf_intro | ((with_reducible apply exGd_intro); focus exact rfl) | ((with_reducible apply exGq_intro); focus exact rfl)) <;> intro _))
          refine ih (a, out ++ [Tok.mk 2 k ((l.take a.toNat).drop k.toNat)]) ⟨by dsimp only; omega, a1, by simp; omega, ?_⟩ (by dsimp only; omega)
          dsimp only
          rw [htk, tk_num hb, hc, t1, t2, t3]
          simp [consT]
      · obtain ⟨t1, t2, t3⟩ := hend fun h => absurd h ha
        repeat' (first | simp -implicitDefEqProofs only [go_sem, Nat.reduceEqDiff, Nat.reduceAdd, Nat.reduceMul, Nat.reduceLeDiff, Nat.reduceSub, Nat.reduceLT, Nat.reduceBEq, Int.reduceToNat, reduceCtorEq, ↓reduceIte, Int.reduceEq, Int.reduceNeg, Int.reduceLT, Int.reduceLE, Int.reduceAdd, Int.reduceSub, Int.reduceMul] | simp -implicitDefEqProofs (disch := omega) only [iaq_vec, iao_arr, iaq_raw, rd_map, wrap_id, binq_quo, binq_rem, binq_shl, binq_shr, tdiv_pos, tmod_pos, if_pos, exV_some, Option.map_some] | ((first | with_reducible apply exIf_dec | ((with_reducible apply exGd_dec); focus exact rfl) | ((with_reducible apply exGq_dec); focus exact rfl) | with_reducible apply exIf_intro | ((with_reducible apply exGd_intro); focus exact rfl) | ((with_reducible apply exGq_intro); focus exact rfl)) <;> intro _))
        all_goals first | (exfalso; omega) | skip
        refine exS_rows (α := Tok) ⟨2, k, _⟩ rfl rfl rfl (by omega) (by simp only [maxLen]; omega) ?_
        repeat' (first | simp -implicitDefEqProofs only [go_sem, Nat.reduceEqDiff, Nat.reduceAdd, Nat.reduceMul, Nat.reduceLeDiff, Nat.reduceSub, Nat.reduceLT, Nat.reduceBEq, Int.reduceToNat, reduceCtorEq, ↓reduceIte, Int.reduceEq, Int.reduceNeg, Int.reduceLT, Int.reduceLE, Int.reduceAdd, Int.reduceSub, Int.reduceMul] | simp -implicitDefEqProofs (disch := omega) only [iaq_vec, iao_arr, iaq_raw, rd_map, wrap_id, binq_quo, binq_rem, binq_shl, binq_shr, tdiv_pos, tmod_pos, if_pos, exV_some, Option.map_some] | ((first | with_reducible apply exIf_dec | ((with_reducible apply exGd_dec); focus exact rfl) | ((with_reducible apply exGq_dec); focus exact rfl) | with_reducible apply exIf_intro | ((with_reducible apply exGd_intro); focus exact rfl) | ((with_reducible apply exGq_intro); focus exact rfl)) <;> intro _))
        refine ih (a, out ++ [Tok.mk 2 k ((l.take a.toNat).drop k.toNat)]) ⟨by dsimp only; omega, a1, by simp; omega, ?_⟩ (by dsimp only; omega)
        dsimp only
        rw [htk, tk_num hb, hc, t1, t2, t3]
        simp [consT]
    | false =>
    have hb3' := hb3
    simp only [wd, decide_eq_false_iff_not] at hb3
    by_cases hb4 : bI c = 59
    · repeat' (first | simp -implicitDefEqProofs only [go_sem, Nat.reduceEqDiff, Nat.reduceAdd, Nat.reduceMul, Nat.reduceLeDiff, Nat.reduceSub, Nat.reduceLT, Nat.reduceBEq, Int.reduceToNat, reduceCtorEq, ↓reduceIte, Int.reduceEq, Int.reduceNeg, Int.reduceLT, Int.reduceLE, Int.reduceAdd, Int.reduceSub, Int.reduceMul] | simp -implicitDefEqProofs (disch := omega) only [get_gi, ← hc, iaq_vec, iao_arr, iaq_raw, rd_map, wrap_id, binq_quo, binq_rem, binq_shl, binq_shr, tdiv_pos, tmod_pos, if_pos, exV_some, Option.map_some] | ((first | with_reducible apply exIf_dec | ((with_reducible apply exGd_dec); focus exact rfl) | ((with_reducible apply exGq_dec); focus exact rfl) | with_reducible apply exIf_intro | ((with_reducible apply exGd_intro); focus exact rfl) | ((with_reducible apply exGq_intro); focus exact rfl)) <;> intro _) | with_reducible refine exC_pure (rletter_c _ _) ?_ | with_reducible refine exCq_pure (rletter_c _ _) ?_ | with_reducible refine exC_pure (rdigit_c _ _) ?_ | with_reducible refine exCq_pure (rdigit_c _ _) ?_)
      all_goals first | (exfalso; omega) | skip
      have hc59 : c = 59 := bI_inj (by rw [hb4]; rfl)
      refine exS_rows (α := Tok) (Tok.mk 3 k [59]) rfl rfl rfl (by omega) (by simp only [maxLen]; omega) ?_
      repeat' (first | simp -implicitDefEqProofs only [go_sem, Nat.reduceEqDiff, Nat.reduceAdd, Nat.reduceMul, Nat.reduceLeDiff, Nat.reduceSub, Nat.reduceLT, Nat.reduceBEq, Int.reduceToNat, reduceCtorEq, ↓reduceIte, Int.reduceEq, Int.reduceNeg, Int.reduceLT, Int.reduceLE, Int.reduceAdd, Int.reduceSub, Int.reduceMul] | simp -implicitDefEqProofs (disch := omega) only [iaq_vec, iao_arr, iaq_raw, rd_map, wrap_id, binq_quo, binq_rem, binq_shl, binq_shr, tdiv_pos, tmod_pos, if_pos, exV_some, Option.map_some] | ((first | with_reducible apply exIf_dec | ((with_reducible apply exGd_dec); focus exact rfl) | ((with_reducible apply exGq_dec); focus exact rfl) | with_reducible apply exIf_intro | ((with_reducible apply exGd_intro); focus exact rfl) | ((with_reducible apply exGq_intro); focus exact rfl)) <;> intro _))
      refine ih (k + 1, out ++ [Tok.mk 3 k [59]]) ⟨by dsimp only; omega, by dsimp only; omega, by simp; omega, ?_⟩ (by dsimp only; omega)
      dsimp only
      rw [htk, tk_sign hb4, ← hc59]
      simp [consT]
    · repeat' (first | simp -implicitDefEqProofs only [go_sem, Nat.reduceEqDiff, Nat.reduceAdd, Nat.reduceMul, Nat.reduceLeDiff, Nat.reduceSub, Nat.reduceLT, Nat.reduceBEq, Int.reduceToNat, reduceCtorEq, ↓reduceIte, Int.reduceEq, Int.reduceNeg, Int.reduceLT, Int.reduceLE, Int.reduceAdd, Int.reduceSub, Int.reduceMul] | simp -implicitDefEqProofs (disch := omega) only [get_gi, ← hc, iaq_vec, iao_arr, iaq_raw, rd_map, wrap_id, binq_quo, binq_rem, binq_shl, binq_shr, tdiv_pos, tmod_pos, if_pos, exV_some, Option.map_some] | ((first | with_reducible apply exIf_dec | ((with_reducible apply exGd_dec); focus exact rfl) | ((with_reducible apply exGq_dec); focus exact rfl) | with_reducible apply exIf_intro | ((with_reducible apply exGd_intro); focus exact rfl) | ((with_reducible apply exGq_intro); focus exact rfl)) <;> intro _) | with_reducible refine exC_pure (rletter_c _ _) ?_ | with_reducible refine exCq_pure (rletter_c _ _) ?_ | with_reducible refine exC_pure (rdigit_c _ _) ?_ | with_reducible refine exCq_pure (rdigit_c _ _) ?_)
      all_goals first | (exfalso; omega) | skip
      rw [tk_bad (by omega) (by omega) (by simp only [wl, decide_eq_false_iff_not]; omega) hb3' (by omega), List.append_nil] at htk
      exact (fin out k htk).2 (by omega)
  · have hk' : k = l.length := by omega
    rw [drop_end (by omega), tk_nil, List.append_nil] at htk
    have nxt := (fin out (-1) htk).1 rfl
    clear ih
    repeat' (first | simp -implicitDefEqProofs only [go_sem, Nat.reduceEqDiff, Nat.reduceAdd, Nat.reduceMul, Nat.reduceLeDiff, Nat.reduceSub, Nat.reduceLT, Nat.reduceBEq, Int.reduceToNat, reduceCtorEq, ↓reduceIte, Int.reduceEq, Int.reduceNeg, Int.reduceLT, Int.reduceLE, Int.reduceAdd, Int.reduceSub, Int.reduceMul] | simp -implicitDefEqProofs (disch := omega) only [iaq_vec, iao_arr, iaq_raw, rd_map, wrap_id, binq_quo, binq_rem, binq_shl, binq_shr, tdiv_pos, tmod_pos, if_pos, exV_some, Option.map_some] | ((first | with_reducible apply exIf_dec | ((with_reducible apply exGd_dec); focus exact rfl) | ((with_reducible apply exGq_dec); focus exact rfl) | with_reducible apply exIf_intro | ((with_reducible apply exGd_intro); focus exact rfl) | ((with_reducible apply exGq_intro); focus exact rfl)) <;> intro _))
    all_goals first | exact nxt | (exfalso; omega)
end Go.Proofs.Ytgahnhiidhkjaaa
end

section
/- Plain facts of the tokens of a text: signs and a byte, blanks, and blanks and notes between tokens. -/
namespace Go.Proofs.Ytgahnhiidhkjaaa
open Go Abs
attribute [local irreducible] EX exL exG exC exCq exS exV exIf exGd exGq

theorem tk_signs (r : List UInt8) : ∀ (n : Nat) (k : Int), (tk (List.replicate n 59 ++ r) k).2 = (tk r (k + n)).2
  | 0, k => by simp
  | n + 1, k => by
    rw [List.replicate_succ, List.cons_append, tk_sign (by decide), consT]
    dsimp only
    rw [tk_signs r n, show k + 1 + (n : Int) = k + ((n + 1 : Nat) : Int) by omega]
theorem tk_spaces : ∀ (n : Nat) (k : Int), tk (List.replicate n 32) k = ([], -1)
  | 0, k => tk_nil k
  | n + 1, k => by rw [List.replicate_succ, tk_blank (.inl (by decide)), tk_spaces n]
/-- which bytes begin something -/
def okB (c : UInt8) : Prop := (97 ≤ bI c ∧ bI c ≤ 122) ∨ (48 ≤ bI c ∧ bI c ≤ 57) ∨ bI c = 32 ∨ bI c = 10 ∨ bI c = 35 ∨ bI c = 59
instance (c : UInt8) : Decidable (okB c) := by unfold okB; infer_instance
theorem tk_one_ok {c : UInt8} {k : Int} (h : okB c) : (tk [c] k).2 = -1 := by
  rcases h with h | h | h | h | h | h
  · rw [tk_word (by simpa [wl] using h)]; simp [consT, tk_nil]
  · rw [tk_num (by simpa [wd] using h)]; simp [consT, tk_nil]
  · rw [tk_blank (.inl h), tk_nil]
  · rw [tk_blank (.inr h), tk_nil]
  · rw [tk_note h]; simp [tk_nil]
  · rw [tk_sign h]; simp [consT, tk_nil]
theorem tk_one_bad {c : UInt8} {k : Int} (h : ¬ okB c) : (tk [c] k).2 = k := by
  unfold okB at h
  rw [tk_bad (by omega) (by omega) (by simp only [wl, decide_eq_false_iff_not]; omega) (by simp only [wd, decide_eq_false_iff_not]; omega) (by omega)]

/-- a token by itself -/
def Tok.ok (t : Tok) : Prop :=
  (t.kind = 1 ∧ ∃ c r, t.text = c :: r ∧ wl c = true ∧ ∀ b ∈ r, inW b = true) ∨ (t.kind = 2 ∧ ∃ c r, t.text = c :: r ∧ wd c = true ∧ ∀ b ∈ r, inN b = true) ∨ (t.kind = 3 ∧ ∃ c, t.text = [c] ∧ bI c = 59)
theorem mem_takeWhile {p : UInt8 → Bool} : ∀ {l : List UInt8} {b : UInt8}, b ∈ l.takeWhile p → p b = true
  | [], _, h => by simp at h
  | c :: l, b, h => by
    rw [List.takeWhile_cons] at h
    split at h
    · rename_i hc
      rcases List.mem_cons.1 h with rfl | h
      · exact hc
      · exact mem_takeWhile h
    · simp at h
theorem takeWhile_le {p : UInt8 → Bool} (l : List UInt8) : (l.takeWhile p).length ≤ l.length := (List.takeWhile_sublist p).length_le
/-- what is so of all tokens -/
theorem tk_all : ∀ (n : Nat) (l : List UInt8) (k : Int), l.length ≤ n → (tk l k).1.length ≤ l.length ∧ ∀ t ∈ (tk l k).1, t.ok ∧ t.text.length ≤ l.length
  | 0, l, k, h => by
    obtain rfl := List.eq_nil_of_length_eq_zero (Nat.le_zero.1 h)
    rw [tk_nil]
    simp
  | n + 1, [], k, h => by rw [tk_nil]; simp
  | n + 1, c :: r, k, h => by
    simp only [List.length_cons] at h
    have up : ∀ {t : Tok} {m : List UInt8}, m.length ≤ r.length → t.ok ∧ t.text.length ≤ m.length → t.ok ∧ t.text.length ≤ (c :: r).length := fun hm ht => ⟨ht.1, by simp only [List.length_cons]; omega⟩
    have d1 := dropWhile_le inC r
    have d2 := dropWhile_le inW r
    have d3 := dropWhile_le inN r
    have e2 := takeWhile_le (p := inW) r
    have e3 := takeWhile_le (p := inN) r
    rw [tk]
    split
    · have := tk_all n r (k + 1) (by omega)
      exact ⟨by simp only [List.length_cons]; omega, fun t ht => up (Nat.le_refl _) (this.2 t ht)⟩
    split
    · have := tk_all n (r.dropWhile inC) (k + 1 + (r.takeWhile inC).length) (by omega)
      exact ⟨by simp only [List.length_cons]; omega, fun t ht => up d1 (this.2 t ht)⟩
    split
    · rename_i hc
      have := tk_all n (r.dropWhile inW) (k + 1 + (r.takeWhile inW).length) (by omega)
      refine ⟨by simp only [consT, List.length_cons]; omega, fun t ht => ?_⟩
      rcases List.mem_cons.1 ht with rfl | ht
      · exact ⟨.inl ⟨rfl, c, _, rfl, hc, fun b hb => mem_takeWhile hb⟩, by simp only [List.length_cons]; omega⟩
      · exact up d2 (this.2 t ht)
    split
    · rename_i hc
      have := tk_all n (r.dropWhile inN) (k + 1 + (r.takeWhile inN).length) (by omega)
      refine ⟨by simp only [consT, List.length_cons]; omega, fun t ht => ?_⟩
      rcases List.mem_cons.1 ht with rfl | ht
      · exact ⟨.inr (.inl ⟨rfl, c, _, rfl, hc, fun b hb => mem_takeWhile hb⟩), by simp only [List.length_cons]; omega⟩
      · exact up d3 (this.2 t ht)
    split
    · rename_i hc
      have := tk_all n r (k + 1) (by omega)
      refine ⟨by simp only [consT, List.length_cons]; omega, fun t ht => ?_⟩
      rcases List.mem_cons.1 ht with rfl | ht
      · exact ⟨.inr (.inr ⟨rfl, c, rfl, hc⟩), by simp⟩
      · exact up (Nat.le_refl _) (this.2 t ht)
    · simp

/-! ### blanks and notes between tokens -/
def PadOk (p : List UInt8) : Prop := ∀ (r : List UInt8) (k : Int), tk (p ++ r) k = tk r (k + p.length)
theorem PadOk.append {p q : List UInt8} (h1 : PadOk p) (h2 : PadOk q) : PadOk (p ++ q) := by
  intro r k
  rw [List.append_assoc, h1, h2, List.length_append]
  congr 1
  omega
theorem pad_space : PadOk [32] := fun r k => by rw [List.singleton_append, tk_blank (.inl (by decide))]; rfl
theorem pad_two : PadOk [10, 32] := fun r k => by
  rw [List.cons_append, List.singleton_append, tk_blank (.inr (by decide)), tk_blank (.inl (by decide))]
  congr 1
  simp only [List.length_cons, List.length_nil]
  omega
theorem pad_note : PadOk [35, 32, 120, 59, 10] := fun r k => by
  have e : ([35, 32, 120, 59, 10] : List UInt8) ++ r = 35 :: 32 :: 120 :: 59 :: 10 :: r := rfl
  have e1 : (32 :: 120 :: 59 :: 10 :: r : List UInt8).takeWhile inC = [32, 120, 59] := by
    simp only [List.takeWhile_cons, show inC 32 = true by decide, show inC 120 = true by decide, show inC 59 = true by decide, show inC 10 = false by decide, if_true, Bool.false_eq_true, if_false]
  have e2 : (32 :: 120 :: 59 :: 10 :: r : List UInt8).dropWhile inC = 10 :: r := by
    simp only [List.dropWhile_cons, show inC 32 = true by decide, show inC 120 = true by decide, show inC 59 = true by decide, show inC 10 = false by decide, if_true, Bool.false_eq_true, if_false]
  rw [e, tk_note (by decide), e1, e2, tk_blank (.inr (by decide))]
  congr 1
  simp only [List.length_cons, List.length_nil]
  omega
theorem takeWhile_stop {p : UInt8 → Bool} {l r : List UInt8} {c : UInt8} (h : ∀ b ∈ l, p b = true) (hc : p c = false) : (l ++ c :: r).takeWhile p = l ∧ (l ++ c :: r).dropWhile p = c :: r := by
  induction l with
  | nil => simp [List.takeWhile_cons, List.dropWhile_cons, hc]
  | cons b l ih =>
    obtain ⟨h1, h2⟩ := ih fun x hx => h x (by simp [hx])
    simp [List.takeWhile_cons, List.dropWhile_cons, h b (by simp), h1, h2]
theorem tk_tok {t : Tok} (h : t.ok) (r : List UInt8) (k : Int) : tk (t.text ++ 32 :: r) k = consT ⟨t.kind, k, t.text⟩ (tk (32 :: r) (k + t.text.length)) := by
  rcases h with ⟨hk, c, q, he, hc, hq⟩ | ⟨hk, c, q, he, hc, hq⟩ | ⟨hk, c, he, hc⟩
  · obtain ⟨h1, h2⟩ := takeWhile_stop (r := r) (c := 32) hq (by decide)
    rw [he, List.cons_append, tk_word hc, h1, h2, hk]
    congr 2
    simp only [List.length_cons]
    omega
  · obtain ⟨h1, h2⟩ := takeWhile_stop (r := r) (c := 32) hq (by decide)
    rw [he, List.cons_append, tk_num hc, h1, h2, hk]
    congr 2
    simp only [List.length_cons]
    omega
  · rw [he, List.singleton_append, tk_sign hc, hk]
    rfl

def kt (t : Tok) : Int × List UInt8 := (t.kind, t.text)
/-- the text so far: it has the tokens that it is to have, whatever follows a blank -/
def PadInv (ts : List Tok) (t : List UInt8) (m : Nat) : Prop := ∃ out : List Tok, out.map kt = (ts.take m).map kt ∧ ∀ r : List UInt8, tk (t ++ 32 :: r) 0 = (out ++ (tk (32 :: r) t.length).1, (tk (32 :: r) t.length).2)
theorem padinv_nil (ts : List Tok) : PadInv ts [] 0 := ⟨[], rfl, fun r => by simp⟩
theorem padinv_step {ts : List Tok} {t p : List UInt8} {m : Nat} {x : Tok} (h : PadInv ts t m) (hx : ts[m]? = some x) (hok : x.ok) (hp : PadOk (32 :: p)) : PadInv ts (t ++ (32 :: p) ++ x.text) (m + 1) := by
  obtain ⟨out, h1, h2⟩ := h
  have hm : m < ts.length := (List.getElem?_eq_some_iff.1 hx).1
  refine ⟨out ++ [⟨x.kind, t.length + (32 :: p).length, x.text⟩], ?_, fun r => ?_⟩
  · rw [List.take_add_one, hx, List.map_append, List.map_append, h1]
    rfl
  · have e : t ++ (32 :: p) ++ x.text ++ 32 :: r = t ++ 32 :: (p ++ (x.text ++ 32 :: r)) := by simp
    rw [e, h2]
    have e2 : (32 :: (p ++ (x.text ++ 32 :: r)) : List UInt8) = (32 :: p) ++ (x.text ++ 32 :: r) := rfl
    rw [e2, hp, tk_tok hok]
    have e3 : ((t ++ 32 :: p ++ x.text).length : Int) = t.length + (32 :: p : List UInt8).length + x.text.length := by
      simp only [List.length_append, List.length_cons]; omega
    rw [e3]
    simp [consT]
theorem padinv_end {ts : List Tok} {t p : List UInt8} (h : PadInv ts t ts.length) (hp : PadOk (32 :: p)) : (tk (t ++ 32 :: p) 0).2 = -1 ∧ (tk (t ++ 32 :: p) 0).1.map kt = ts.map kt := by
  obtain ⟨out, h1, h2⟩ := h
  have := hp [] t.length
  rw [List.append_nil, tk_nil] at this
  rw [h2, this]
  simpa using h1
end Go.Proofs.Ytgahnhiidhkjaaa
end

section
/- What the arguments of a law are: bytes, texts, lists of texts. -/
namespace Go.Proofs.Ytgahnhiidhkjaaa
open Go Abs
attribute [local irreducible] EX exL exG exC exCq exS exV exIf exGd exGq

def tcByte : TC := .int .u8
theorem byte_of {n : Int} (h : (Lit.int .u8 n).wf = true) : ∃ b : UInt8, n = bI b := by
  simp [Lit.wf, IntKind.min, IntKind.max, IntKind.signed, IntKind.bits] at h
  refine ⟨UInt8.ofNat n.toNat, ?_⟩
  unfold bI
  rw [UInt8.toNat_ofNat']
  omega
theorem shape_byte {a : AV} (h : ArgShape tcByte a) : ∃ b : UInt8, a = yv b := by
  unfold ArgShape tcByte Shape at h
  obtain ⟨n, h1, h2⟩ := h
  simp only [List.cons.injEq, and_true] at h1
  obtain ⟨b, rfl⟩ := byte_of h2
  exact ⟨b, h1⟩
theorem shape_strL {r : List AV} (h : Shape .str r) : ∃ l : List UInt8, r = [sv l] ∧ l.length ≤ 140737488351232 := by
  unfold Shape at h
  obtain ⟨s, rfl, h2⟩ := h
  obtain ⟨l, rfl⟩ := sv_of s
  exact ⟨l, rfl, by simpa [sv_size, reachBytes] using h2⟩
theorem shape_str {a : AV} (h : ArgShape .str a) : ∃ l : List UInt8, a = sv l ∧ l.length ≤ 140737488351232 := by
  unfold ArgShape at h
  obtain ⟨l, h1, h2⟩ := shape_strL h
  simp only [List.cons.injEq, and_true] at h1
  exact ⟨l, h1, h2⟩
def tcState : TC := .ar 2 .i64
theorem shape_state {a : AV} (h : ArgShape tcState a) : ∃ x y, a = .agg [iv x, iv y] := by
  simp only [tcState, ArgShape, Shape] at h
  obtain ⟨l, rfl, ns, rfl, h2, _⟩ := h
  match ns, h2 with
  | [x, y], _ => exact ⟨x, y, rfl⟩
def tcStrs : TC := .sl 16 .str
theorem one_mapG {β : Type} {f : β → AV} : ∀ (l : List β), (l.map fun x => [f x]).flatten = l.map f
  | [] => rfl
  | x :: l => by simpa using one_mapG l
theorem shape_strs {a : AV} (h : ArgShape tcStrs a) : ∃ (nl : Bool) (l : List (List UInt8)), a = .vec nl (l.map sv) l.length ∧ l.length * 16 ≤ 140737488351232 ∧ ∀ s ∈ l, s.length ≤ 140737488351232 := by
  simp only [tcStrs, ArgShape, Shape] at h
  obtain ⟨nl, rs, h1, hn, hb, hr⟩ := h
  obtain ⟨l, rfl, hl⟩ := each_map (f := fun x : List UInt8 => [sv x]) (p := fun x => x.length ≤ 140737488351232) fun r hr' => by
    obtain ⟨s, rfl, h2⟩ := hr r hr'
    obtain ⟨l, rfl⟩ := sv_of s
    exact ⟨l, rfl, by simpa [sv_size, reachBytes] using h2⟩
  rw [one_mapG] at h1
  simp only [List.cons.injEq, and_true, List.length_map] at h1
  exact ⟨nl, l, h1, by simpa [reachBytes] using hb, hl⟩
end Go.Proofs.Ytgahnhiidhkjaaa
end

section
/- Rules, and rows of rules on the heap; comparing them. -/
namespace Go.Proofs.Ytgahnhiidhkjaaa
open Go Abs
attribute [local irreducible] EX exL exG exC exCq exS exV exIf exGd exGq
set_option maxHeartbeats 1000000

structure RMatch where
  sa : Int
  sl : Int
  da : Int
  dl : Int
  proto : Int
  sport : Int
  dport : Int
  deriving Inhabited
instance : Inhabited Want := ⟨⟨0, 0, 0, true, [], true, [], true, [], true, []⟩⟩
abbrev uv (x : Int) : AV := .raw (.int .u32 x)
structure Rule where
  name : List UInt8
  pri : Int
  m : RMatch
  w : Want
  strict : Bool
  deriving Inhabited
instance : Enc Rule where
  sz := 17
  cells r := [sv r.name, iv r.pri, uv r.m.sa, iv r.m.sl, uv r.m.da, iv r.m.dl, iv r.m.proto, iv r.m.sport, iv r.m.dport, iv r.w.src, iv r.w.dst, iv r.w.bound, sl r.w.viaNl r.w.via, sl r.w.nodesNl r.w.nodes, sl r.w.linksNl r.w.links, sl r.w.coloursNl r.w.colours, bv r.strict]
  len _ := rfl
  pos := by decide
theorem Rule.cells_eq (r : Rule) : Enc.cells r = [sv r.name, iv r.pri, uv r.m.sa, iv r.m.sl, uv r.m.da, iv r.m.dl, iv r.m.proto, iv r.m.sport, iv r.m.dport, iv r.w.src, iv r.w.dst, iv r.w.bound, sl r.w.viaNl r.w.via, sl r.w.nodesNl r.w.nodes, sl r.w.linksNl r.w.links, sl r.w.coloursNl r.w.colours, bv r.strict] := rfl
theorem Rule.sz_eq : Enc.sz Rule = 17 := rfl
def Rule.av (r : Rule) : AV := .agg (Enc.cells r)

theorem upd_upd' {H : AHeap} {b : Nat} {x y : Option HObj} : upd (upd H b x) b y = upd H b y := by
  funext z
  simp only [upd]
  split <;> rfl
/-- a row of rules on the heap, and what stands behind -/
def rrow (l : List Rule) (ex : List AV) (cap : Nat) : HObj := .row (rows l ++ ex) cap 36 17
theorem rrow_set {l : List Rule} {ex : List AV} {i : Int} (h0 : 0 ≤ i) (h1 : i < l.length) (x : Rule) : (rows l ++ ex).take (i.toNat * 17) ++ Enc.cells x ++ (rows l ++ ex).drop (i.toNat * 17 + 17) = rows (l.set i.toNat x) ++ ex := by
  have := setA_rowx (l := l) (ex := ex) (i := i) (n := 17) Rule.sz_eq.symm x h0 h1 rfl
  rw [← this, setA_eq _ _ _ (by rw [List.length_append, rows_length, Enc.len, Rule.sz_eq]; omega)]
  rfl
theorem rd_rule {l : List Rule} {ex : List AV} {i : Int} (h0 : 0 ≤ i) (h1 : i < l.length) : rdV (rows l ++ ex) (i.toNat * 17) 17 true = some (gi l i).av := rd_rowx (n := 17) Rule.sz_eq.symm h0 h1
theorem rrow_length (l : List Rule) (ex : List AV) : (rows l ++ ex).length = l.length * 17 + ex.length := by rw [List.length_append, rows_length, Rule.sz_eq]

theorem isNaN_c (x : Int) (H : AHeap) : APure Try.prog 85 [iv x] H (bv false) := by
  intro Q h
  refine ACalls.of_code fn_cmp_isNaN_int ?_
  simp -implicitDefEqProofs only [sc_cmp_isNaN_int, go_sem, Nat.reduceEqDiff, Nat.reduceAdd, Nat.reduceMul, Nat.reduceLeDiff, Nat.reduceSub, Nat.reduceLT, Nat.reduceBEq, Int.reduceToNat, reduceCtorEq, ↓reduceIte, Int.reduceEq, Int.reduceNeg, Int.reduceLT, Int.reduceLE, Int.reduceAdd, Int.reduceSub, Int.reduceMul]
  repeat' (first | simp -implicitDefEqProofs only [go_sem, Nat.reduceEqDiff, Nat.reduceAdd, Nat.reduceMul, Nat.reduceLeDiff, Nat.reduceSub, Nat.reduceLT, Nat.reduceBEq, Int.reduceToNat, reduceCtorEq, ↓reduceIte, Int.reduceEq, Int.reduceNeg, Int.reduceLT, Int.reduceLE, Int.reduceAdd, Int.reduceSub, Int.reduceMul] | simp -implicitDefEqProofs (disch := omega) only [iaq_vec, iao_arr, iaq_raw, rd_map, wrap_id, binq_quo, binq_rem, binq_shl, binq_shr, tdiv_pos, tmod_pos, if_pos, exV_some, Option.map_some] | ((first | with_reducible apply exIf_dec | ((with_reducible apply exGd_dec); focus exact rfl) | ((with_reducible apply exGq_dec); focus exact rfl) | with_reducible apply exIf_intro | ((with_reducible apply exGd_intro); focus exact rfl) | ((with_reducible apply exGq_intro); focus exact rfl)) <;> intro _))
  all_goals first | exact h | exact fin_ h (by simp)
/-- how two numbers stand -/
def cmpI (x y : Int) : Int := if x < y then -1 else if y < x then 1 else 0
theorem cmp_c (x y : Int) (H : AHeap) : APure Try.prog 64 [iv x, iv y] H (iv (cmpI x y)) := by
  intro Q h
  refine ACalls.of_code fn_cmp_Compare_int ?_
  simp -implicitDefEqProofs only [sc_cmp_Compare_int, go_sem, Nat.reduceEqDiff, Nat.reduceAdd, Nat.reduceMul, Nat.reduceLeDiff, Nat.reduceSub, Nat.reduceLT, Nat.reduceBEq, Int.reduceToNat, reduceCtorEq, ↓reduceIte, Int.reduceEq, Int.reduceNeg, Int.reduceLT, Int.reduceLE, Int.reduceAdd, Int.reduceSub, Int.reduceMul]
  repeat' (first | simp -implicitDefEqProofs only [go_sem, Nat.reduceEqDiff, Nat.reduceAdd, Nat.reduceMul, Nat.reduceLeDiff, Nat.reduceSub, Nat.reduceLT, Nat.reduceBEq, Int.reduceToNat, reduceCtorEq, ↓reduceIte, Int.reduceEq, Int.reduceNeg, Int.reduceLT, Int.reduceLE, Int.reduceAdd, Int.reduceSub, Int.reduceMul] | simp -implicitDefEqProofs (disch := omega) only [iaq_vec, iao_arr, iaq_raw, rd_map, wrap_id, binq_quo, binq_rem, binq_shl, binq_shr, tdiv_pos, tmod_pos, if_pos, exV_some, Option.map_some] | ((first | with_reducible apply exIf_dec | ((with_reducible apply exGd_dec); focus exact rfl) | ((with_reducible apply exGq_dec); focus exact rfl) | with_reducible apply exIf_intro | ((with_reducible apply exGd_intro); focus exact rfl) | ((with_reducible apply exGq_intro); focus exact rfl)) <;> intro _) | with_reducible refine exC_pure (isNaN_c _ _) ?_ | with_reducible refine exCq_pure (isNaN_c _ _) ?_)
  all_goals
    refine fin_ h ?_
    unfold cmpI
    first | rw [if_pos (by assumption)] | rw [if_neg (by assumption), if_pos (by assumption)] | rw [if_neg (by assumption), if_neg (by assumption)]
theorem cmpR_c (a b : Rule) (H : AHeap) : APure Try.prog 63 [a.av, b.av] H (iv (cmpI b.pri a.pri)) := by
  intro Q h
  refine ACalls.of_code fn_sound_At_d1 ?_
  simp -implicitDefEqProofs only [sc_sound_At_d1, Rule.av, Rule.cells_eq, sl, go_sem, Nat.reduceEqDiff, Nat.reduceAdd, Nat.reduceMul, Nat.reduceLeDiff, Nat.reduceSub, Nat.reduceLT, Nat.reduceBEq, Int.reduceToNat, reduceCtorEq, ↓reduceIte, Int.reduceEq, Int.reduceNeg, Int.reduceLT, Int.reduceLE, Int.reduceAdd, Int.reduceSub, Int.reduceMul]
  repeat' (first | simp -implicitDefEqProofs only [go_sem, Nat.reduceEqDiff, Nat.reduceAdd, Nat.reduceMul, Nat.reduceLeDiff, Nat.reduceSub, Nat.reduceLT, Nat.reduceBEq, Int.reduceToNat, reduceCtorEq, ↓reduceIte, Int.reduceEq, Int.reduceNeg, Int.reduceLT, Int.reduceLE, Int.reduceAdd, Int.reduceSub, Int.reduceMul] | simp -implicitDefEqProofs (disch := omega) only [iaq_vec, iao_arr, iaq_raw, rd_map, wrap_id, binq_quo, binq_rem, binq_shl, binq_shr, tdiv_pos, tmod_pos, if_pos, exV_some, Option.map_some] | ((first | with_reducible apply exIf_dec | ((with_reducible apply exGd_dec); focus exact rfl) | ((with_reducible apply exGq_dec); focus exact rfl) | with_reducible apply exIf_intro | ((with_reducible apply exGd_intro); focus exact rfl) | ((with_reducible apply exGq_intro); focus exact rfl)) <;> intro _) | with_reducible refine exC_pure (cmp_c _ _ _) ?_ | with_reducible refine exCq_pure (cmp_c _ _ _) ?_)
  all_goals exact h
end Go.Proofs.Ytgahnhiidhkjaaa
end

section
/- The library's stable sort of rules: swaps and rotations. -/
namespace Go.Proofs.Ytgahnhiidhkjaaa
open Go Abs
attribute [local irreducible] EX exL exG exC exCq exS exV exIf exGd exGq
set_option maxHeartbeats 2000000

theorem upd_same {H : AHeap} {b : Nat} {o : HObj} (h : H b = some o) : upd H b (some o) = H := by
  funext z
  simp only [upd]
  split
  · rename_i e; subst e; exact h.symm
  · rfl
/-- two change places -/
def swapG {α : Type} [Inhabited α] (l : List α) (i j : Int) : List α := (l.set i.toNat (gi l j)).set j.toNat (gi l i)
theorem swapG_length {α : Type} [Inhabited α] (l : List α) (i j : Int) : (swapG l i j).length = l.length := by simp [swapG]
/-- the first n of two parts change places -/
def swapN (l : List Rule) (a b : Int) : Nat → List Rule
  | 0 => l
  | n + 1 => swapG (swapN l a b n) (a + n) (b + n)
theorem swapN_length (l : List Rule) (a b : Int) (n : Nat) : (swapN l a b n).length = l.length := by
  induction n with
  | zero => rfl
  | succ n ih => rw [swapN, swapG_length, ih]
theorem rule_aone (r : Rule) : (Enc.cells r).all aone = true := rfl
abbrev dataV (b n cap : Nat) : AV := .raw (.slice (some ⟨b, 0, none⟩) n cap)
theorem swapRange_c (H : AHeap) (b n cap : Nat) (l : List Rule) (ex : List AV) (cap' : Nat) (hn : n = l.length) (hl : l.length ≤ 1000000) (hr : H b = some (rrow l ex cap')) (x y m : Int) (x0 : 0 ≤ x) (y0 : 0 ≤ y) (m0 : 0 ≤ m) (x1 : x + m ≤ l.length) (y1 : y + m ≤ l.length) (f : AV) :
    ACalls Try.prog 112 [dataV b n cap, iv x, iv y, iv m, f] H fun r H' => r = .tup [] ∧ H' = upd H b (some (rrow (swapN l x y m.toNat) ex cap')) := by
  subst hn
  refine ACalls.of_code fn_slices_swapRangeCmpFunc_api_Rule ?_
  simp -implicitDefEqProofs only [sc_slices_swapRangeCmpFunc_api_Rule, go_sem, Nat.reduceEqDiff, Nat.reduceAdd, Nat.reduceMul, Nat.reduceLeDiff, Nat.reduceSub, Nat.reduceLT, Nat.reduceBEq, Int.reduceToNat, reduceCtorEq, ↓reduceIte, Int.reduceEq, Int.reduceNeg, Int.reduceLT, Int.reduceLE, Int.reduceAdd, Int.reduceSub, Int.reduceMul]
  refine exL_modH (fun i : Int => [(10, .v (iv i))]) (fun _ => []) (fun i => upd H b (some (rrow (swapN l x y i.toNat) ex cap'))) (fun i => 0 ≤ i ∧ i ≤ m) (fun i => (m - i).toNat) 0 (by rw [show (0 : Int).toNat = 0 from rfl, swapN, upd_same hr]; rfl) ⟨by omega, by omega⟩ ?_
  rintro i ⟨i0, i1⟩ ih
  simp only [S.up, S.upH, ups, Abs.put, Nat.reduceEqDiff, ↓reduceIte, Nat.reduceAdd] at ih
  simp -implicitDefEqProofs only [congrArg KI.code sc_slices_swapRangeCmpFunc_api_Rule_L0.eq_1, go_sem, Nat.reduceEqDiff, Nat.reduceAdd, Nat.reduceMul, Nat.reduceLeDiff, Nat.reduceSub, Nat.reduceLT, Nat.reduceBEq, Int.reduceToNat, reduceCtorEq, ↓reduceIte, Int.reduceEq, Int.reduceNeg, Int.reduceLT, Int.reduceLE, Int.reduceAdd, Int.reduceSub, Int.reduceMul]
  have hlen := swapN_length l x y i.toNat
  obtain ⟨l', hl'⟩ : ∃ l', l' = swapN l x y i.toNat := ⟨_, rfl⟩
  rw [← hl'] at hlen ⊢
  by_cases hi : i < m
  · have nxt := ih (i + 1) ⟨by omega, by omega⟩ (by omega)
    rw [show (i + 1).toNat = i.toNat + 1 by omega, swapN, ← hl', swapG, Int.toNat_of_nonneg i0] at nxt
    have hr' : (upd H b (some (rrow l' ex cap'))) b = some (.row (rows l' ++ ex) cap' 36 17) := upd_self _ _ _
    have s1 := rrow_set (l := l') (ex := ex) (i := x + i) (by omega) (by omega) (gi l' (y + i))
    have s2 := rrow_set (l := l'.set (x + i).toNat (gi l' (y + i))) (ex := ex) (i := y + i) (by omega) (by simp; omega) (gi l' (x + i))
    unfold rrow at nxt
    rw [Rule.cells_eq] at s1 s2
    simp only [sl] at s1 s2
    repeat' (first | simp -implicitDefEqProofs only [go_sem, Nat.reduceEqDiff, Nat.reduceAdd, Nat.reduceMul, Nat.reduceLeDiff, Nat.reduceSub, Nat.reduceLT, Nat.reduceBEq, Int.reduceToNat, reduceCtorEq, ↓reduceIte, Int.reduceEq, Int.reduceNeg, Int.reduceLT, Int.reduceLE, Int.reduceAdd, Int.reduceSub, Int.reduceMul] | simp -implicitDefEqProofs (disch := omega) only [rrow, rd_rule, Rule.av, Rule.cells_eq, sl, rrow_length, s1, s2, List.length_set, upd_upd', iaq_vec, iao_arr, iaq_raw, rd_map, wrap_id, binq_quo, binq_rem, binq_shl, binq_shr, tdiv_pos, tmod_pos, if_pos, exV_some, Option.map_some] | ((first | with_reducible apply exIf_dec | ((with_reducible apply exGd_dec); focus exact rfl) | ((with_reducible apply exGq_dec); focus exact rfl) | with_reducible apply exIf_intro | ((with_reducible apply exGd_intro); focus exact rfl) | ((with_reducible apply exGq_intro); focus exact rfl)) <;> intro _))
    all_goals first | exact nxt | (exfalso; omega) | skip
    done
  · obtain rfl : i = m := by omega
    clear ih
    rw [hl']
    repeat' (first | simp -implicitDefEqProofs only [go_sem, Nat.reduceEqDiff, Nat.reduceAdd, Nat.reduceMul, Nat.reduceLeDiff, Nat.reduceSub, Nat.reduceLT, Nat.reduceBEq, Int.reduceToNat, reduceCtorEq, ↓reduceIte, Int.reduceEq, Int.reduceNeg, Int.reduceLT, Int.reduceLE, Int.reduceAdd, Int.reduceSub, Int.reduceMul] | simp -implicitDefEqProofs (disch := omega) only [iaq_vec, iao_arr, iaq_raw, rd_map, wrap_id, binq_quo, binq_rem, binq_shl, binq_shr, tdiv_pos, tmod_pos, if_pos, exV_some, Option.map_some] | ((first | with_reducible apply exIf_dec | ((with_reducible apply exGd_dec); focus exact rfl) | ((with_reducible apply exGq_dec); focus exact rfl) | with_reducible apply exIf_intro | ((with_reducible apply exGd_intro); focus exact rfl) | ((with_reducible apply exGq_intro); focus exact rfl)) <;> intro _))
    all_goals first | exact ⟨rfl, rfl⟩ | (exfalso; omega) | skip
    done
end Go.Proofs.Ytgahnhiidhkjaaa
end

section
/- The library's rotation of rules. -/
namespace Go.Proofs.Ytgahnhiidhkjaaa
open Go Abs
attribute [local irreducible] EX exL exG exC exCq exS exV exIf exGd exGq
set_option maxHeartbeats 2000000

theorem gi_mid {α : Type} [Inhabited α] (X : List α) (u : α) (Y : List α) {i : Int} (h : i = X.length) : gi (X ++ u :: Y) i = u := by
  subst h
  rw [gi_get (by simp)]
  simp
theorem set_mid {α : Type} (X : List α) (u v : α) (Y : List α) : (X ++ u :: Y).set X.length v = X ++ v :: Y := by
  rw [List.set_append_right _ _ (Nat.le_refl _), Nat.sub_self]; rfl
theorem swapG_mid {α : Type} [Inhabited α] (X : List α) (u : α) (Y : List α) (v : α) (Z : List α) {i j : Int} (hi : i = X.length) (hj : j = X.length + 1 + Y.length) : swapG (X ++ u :: (Y ++ v :: Z)) i j = X ++ v :: (Y ++ u :: Z) := by
  have e1 : gi (X ++ u :: (Y ++ v :: Z)) i = u := gi_mid X u _ hi
  have e2 : gi (X ++ u :: (Y ++ v :: Z)) j = v := by
    have := gi_mid (X ++ u :: Y) v Z (i := j) (by simp; omega)
    simpa using this
  unfold swapG
  rw [e1, e2, hi, Int.toNat_natCast, set_mid]
  rw [show j.toNat = (X ++ v :: Y).length by simp; omega]
  simp
theorem swapN_blocks (P M S : List Rule) : ∀ (n : Nat) (A B : List Rule), A.length = n → B.length = n → ∀ {a b : Int}, a = P.length → b = P.length + n + M.length →
    swapN (P ++ (A ++ (M ++ (B ++ S)))) a b n = P ++ (B ++ (M ++ (A ++ S)))
  | 0, A, B, hA, hB, a, b, ha, hb => by
    rw [List.eq_nil_of_length_eq_zero hA, List.eq_nil_of_length_eq_zero hB]; rfl
  | n + 1, A, B, hA, hB, a, b, ha, hb => by
    obtain ⟨A', u, rfl⟩ : ∃ A' u, A = A' ++ [u] := ⟨A.dropLast, A.getLast (by intro e; simp [e] at hA), (List.dropLast_concat_getLast _).symm⟩
    obtain ⟨B', v, rfl⟩ : ∃ B' v, B = B' ++ [v] := ⟨B.dropLast, B.getLast (by intro e; simp [e] at hB), (List.dropLast_concat_getLast _).symm⟩
    simp only [List.length_append, List.length_cons, List.length_nil] at hA hB
    have ih := swapN_blocks P ([u] ++ M) ([v] ++ S) n A' B' (by omega) (by omega) (a := a) (b := b) ha (by simp; omega)
    have e0 : P ++ (A' ++ [u] ++ (M ++ (B' ++ [v] ++ S))) = P ++ (A' ++ (([u] ++ M) ++ (B' ++ ([v] ++ S)))) := by simp
    rw [e0, swapN, ih]
    have := swapG_mid (P ++ B') u (M ++ A') v S (i := a + n) (j := b + n) (by simp; omega) (by simp; omega)
    simpa using this
theorem block_c (H : AHeap) (b n cap : Nat) (P A M B Z : List Rule) (ex : List AV) (cap' : Nat) (hn : n = (P ++ (A ++ (M ++ (B ++ Z)))).length) (hl : n ≤ 1000000) (hr : H b = some (rrow (P ++ (A ++ (M ++ (B ++ Z)))) ex cap')) {x y m : Int}
    (hx : x = P.length) (hm : m = A.length) (hm2 : m = B.length) (hy : y = P.length + A.length + M.length) (f : AV) :
    ACalls Try.prog 112 [dataV b n cap, iv x, iv y, iv m, f] H fun r H' => r = .tup [] ∧ H' = upd H b (some (rrow (P ++ (B ++ (M ++ (A ++ Z)))) ex cap')) := by
  have hlen : n = P.length + A.length + M.length + B.length + Z.length := by rw [hn]; simp; omega
  have sw := swapRange_c H b n cap _ ex cap' hn (by omega) hr x y m (by omega) (by omega) (by omega) (by omega) (by omega) f
  rw [swapN_blocks P M Z m.toNat A B (by omega) (by omega) (by omega) (by omega)] at sw
  exact sw
theorem exC_upd {P : Program} {f : FuncId} {us : List AV} {dst : Option Nat} {r : List KI} {K : AEx → S → Prop} {s : S} {H1 : AHeap} (h : ACalls P f us s.H fun r H' => r = .tup [] ∧ H' = H1) (k : EX P r K ({ s with H := H1 }.put dst (.v (.tup [])))) : exC P f (some us) dst r K s :=
  exC_intro h fun v H' hq => by obtain ⟨rfl, rfl⟩ := hq; exact k
/-- two blocks of rules, one behind the other, change places -/
theorem rotate_c (H : AHeap) (b n cap : Nat) (P A B Z : List Rule) (ex : List AV) (cap' : Nat) (hn : n = (P ++ (A ++ (B ++ Z))).length) (hl : n ≤ 1000000) (hr : H b = some (rrow (P ++ (A ++ (B ++ Z))) ex cap')) (hA : A ≠ []) (hB : B ≠ [])
    {x m y : Int} (hx : x = P.length) (hm : m = P.length + A.length) (hy : y = P.length + A.length + B.length) (f : AV) :
    ACalls Try.prog 108 [dataV b n cap, iv x, iv m, iv y, f] H fun r H' => r = .tup [] ∧ H' = upd H b (some (rrow (P ++ (B ++ (A ++ Z))) ex cap')) := by
  refine ACalls.of_code fn_slices_rotateCmpFunc_api_Rule ?_
  have hA0 := List.length_pos_iff.2 hA
  have hB0 := List.length_pos_iff.2 hB
  have hlen : n = P.length + A.length + B.length + Z.length := by rw [hn]; simp; omega
  simp -implicitDefEqProofs only [sc_slices_rotateCmpFunc_api_Rule, go_sem, Nat.reduceEqDiff, Nat.reduceAdd, Nat.reduceMul, Nat.reduceLeDiff, Nat.reduceSub, Nat.reduceLT, Nat.reduceBEq, Int.reduceToNat, reduceCtorEq, ↓reduceIte, Int.reduceEq, Int.reduceNeg, Int.reduceLT, Int.reduceLE, Int.reduceAdd, Int.reduceSub, Int.reduceMul]
  repeat' (first | simp -implicitDefEqProofs only [go_sem, Nat.reduceEqDiff, Nat.reduceAdd, Nat.reduceMul, Nat.reduceLeDiff, Nat.reduceSub, Nat.reduceLT, Nat.reduceBEq, Int.reduceToNat, reduceCtorEq, ↓reduceIte, Int.reduceEq, Int.reduceNeg, Int.reduceLT, Int.reduceLE, Int.reduceAdd, Int.reduceSub, Int.reduceMul] | simp -implicitDefEqProofs (disch := omega) only [iaq_vec, iao_arr, iaq_raw, rd_map, wrap_id, binq_quo, binq_rem, binq_shl, binq_shr, tdiv_pos, tmod_pos, if_pos, exV_some, Option.map_some] | ((first | with_reducible apply exIf_dec | ((with_reducible apply exGd_dec); focus exact rfl) | ((with_reducible apply exGq_dec); focus exact rfl) | with_reducible apply exIf_intro | ((with_reducible apply exGd_intro); focus exact rfl) | ((with_reducible apply exGq_intro); focus exact rfl)) <;> intro _))
  refine exL_modH (fun a : (Int × Int) × List Rule × List Rule × List Rule × List Rule => [(10, .v (iv a.1.1)), (11, .v (iv a.1.2))]) (fun _ => []) (fun a => upd H b (some (rrow (a.2.1 ++ (a.2.2.1 ++ (a.2.2.2.1 ++ a.2.2.2.2))) ex cap')))
    (fun a => a.1.1 = a.2.2.1.length ∧ a.1.2 = a.2.2.2.1.length ∧ m = a.2.1.length + a.2.2.1.length ∧ 0 < a.2.2.1.length ∧ 0 < a.2.2.2.1.length ∧ n = (a.2.1 ++ (a.2.2.1 ++ (a.2.2.2.1 ++ a.2.2.2.2))).length ∧ a.2.1 ++ (a.2.2.2.1 ++ (a.2.2.1 ++ a.2.2.2.2)) = P ++ (B ++ (A ++ Z))) (fun a => a.2.2.1.length + a.2.2.2.1.length) ((m - x, y - m), P, A, B, Z) (by rw [upd_same hr]; rfl) ⟨by dsimp only; omega, by dsimp only; omega, by dsimp only; omega, hA0, hB0, hn, rfl⟩ ?_
  rintro ⟨⟨i, j⟩, P', A', B', Z'⟩ ⟨hi, hj, h1, h2, h3, h4, h5⟩ ih
  dsimp only at hi hj h1 h2 h3 h4 h5 ih
  simp only [S.up, S.upH, ups, Abs.put, Nat.reduceEqDiff, ↓reduceIte, Nat.reduceAdd] at ih
  simp -implicitDefEqProofs only [congrArg KI.code sc_slices_rotateCmpFunc_api_Rule_L0.eq_1, go_sem, Nat.reduceEqDiff, Nat.reduceAdd, Nat.reduceMul, Nat.reduceLeDiff, Nat.reduceSub, Nat.reduceLT, Nat.reduceBEq, Int.reduceToNat, reduceCtorEq, ↓reduceIte, Int.reduceEq, Int.reduceNeg, Int.reduceLT, Int.reduceLE, Int.reduceAdd, Int.reduceSub, Int.reduceMul]
  have hlen' : n = P'.length + A'.length + B'.length + Z'.length := by rw [h4]; simp; omega
  obtain ⟨H1, hH1⟩ : ∃ H1, H1 = upd H b (some (rrow (P' ++ (A' ++ (B' ++ Z'))) ex cap')) := ⟨_, rfl⟩
  have hrow : H1 b = some (rrow (P' ++ (A' ++ (B' ++ Z'))) ex cap') := by rw [hH1]; exact upd_self _ _ _
  have hup : ∀ o, upd H1 b o = upd H b o := fun o => by rw [hH1]; exact upd_upd'
  rw [← hH1]
  by_cases hij : i = j
  · clear ih
    have sw := block_c H1 b n cap P' A' [] B' Z' ex cap' h4 (by omega) hrow (x := m - i) (y := m) (m := i) (by omega) hi (by omega) (by simp; omega) f
    rw [List.nil_append, h5, hup] at sw
    repeat' (first | simp -implicitDefEqProofs only [go_sem, Nat.reduceEqDiff, Nat.reduceAdd, Nat.reduceMul, Nat.reduceLeDiff, Nat.reduceSub, Nat.reduceLT, Nat.reduceBEq, Int.reduceToNat, reduceCtorEq, ↓reduceIte, Int.reduceEq, Int.reduceNeg, Int.reduceLT, Int.reduceLE, Int.reduceAdd, Int.reduceSub, Int.reduceMul] | simp -implicitDefEqProofs (disch := omega) only [iaq_vec, iao_arr, iaq_raw, rd_map, wrap_id, binq_quo, binq_rem, binq_shl, binq_shr, tdiv_pos, tmod_pos, if_pos, exV_some, Option.map_some] | ((first | with_reducible apply exIf_dec | ((with_reducible apply exGd_dec); focus exact rfl) | ((with_reducible apply exGq_dec); focus exact rfl) | with_reducible apply exIf_intro | ((with_reducible apply exGd_intro); focus exact rfl) | ((with_reducible apply exGq_intro); focus exact rfl)) <;> intro _))
    all_goals first | (exfalso; omega) | skip
    refine exC_upd sw ?_
    simp -implicitDefEqProofs only [go_sem, Nat.reduceEqDiff, Nat.reduceAdd, Nat.reduceMul, Nat.reduceLeDiff, Nat.reduceSub, Nat.reduceLT, Nat.reduceBEq, Int.reduceToNat, reduceCtorEq, ↓reduceIte, Int.reduceEq, Int.reduceNeg, Int.reduceLT, Int.reduceLE, Int.reduceAdd, Int.reduceSub, Int.reduceMul]
    repeat' (first | simp -implicitDefEqProofs only [go_sem, Nat.reduceEqDiff, Nat.reduceAdd, Nat.reduceMul, Nat.reduceLeDiff, Nat.reduceSub, Nat.reduceLT, Nat.reduceBEq, Int.reduceToNat, reduceCtorEq, ↓reduceIte, Int.reduceEq, Int.reduceNeg, Int.reduceLT, Int.reduceLE, Int.reduceAdd, Int.reduceSub, Int.reduceMul] | simp -implicitDefEqProofs (disch := omega) only [iaq_vec, iao_arr, iaq_raw, rd_map, wrap_id, binq_quo, binq_rem, binq_shl, binq_shr, tdiv_pos, tmod_pos, if_pos, exV_some, Option.map_some] | ((first | with_reducible apply exIf_dec | ((with_reducible apply exGd_dec); focus exact rfl) | ((with_reducible apply exGq_dec); focus exact rfl) | with_reducible apply exIf_intro | ((with_reducible apply exGd_intro); focus exact rfl) | ((with_reducible apply exGq_intro); focus exact rfl)) <;> intro _))
    all_goals first | exact ⟨rfl, rfl⟩ | (exfalso; omega) | skip
    done
  by_cases hgt : j < i
  · obtain ⟨A1, A2, rfl, hA1⟩ : ∃ A1 A2, A' = A1 ++ A2 ∧ (A1.length : Int) = j := ⟨A'.take j.toNat, A'.drop j.toNat, (List.take_append_drop _ _).symm, by rw [List.length_take]; omega⟩
    rw [List.length_append] at hi h1 hlen'
    rw [List.append_assoc] at hrow h4 h5
    have sw := block_c H1 b n cap P' A1 A2 B' Z' ex cap' h4 (by omega) hrow (x := m - i) (y := m) (m := j) (by omega) (by omega) hj (by omega) f
    rw [hup] at sw
    have nxt := ih ((i - j, j), P' ++ B', A2, A1, Z') ⟨by dsimp only; omega, by dsimp only; omega, by simp; omega, by dsimp only; omega, by dsimp only; omega, by simp; omega, by rw [← h5]; simp⟩ (by simp; omega)
    dsimp only at nxt
    rw [List.append_assoc] at nxt
    clear ih
    repeat' (first | simp -implicitDefEqProofs only [go_sem, Nat.reduceEqDiff, Nat.reduceAdd, Nat.reduceMul, Nat.reduceLeDiff, Nat.reduceSub, Nat.reduceLT, Nat.reduceBEq, Int.reduceToNat, reduceCtorEq, ↓reduceIte, Int.reduceEq, Int.reduceNeg, Int.reduceLT, Int.reduceLE, Int.reduceAdd, Int.reduceSub, Int.reduceMul] | simp -implicitDefEqProofs (disch := omega) only [iaq_vec, iao_arr, iaq_raw, rd_map, wrap_id, binq_quo, binq_rem, binq_shl, binq_shr, tdiv_pos, tmod_pos, if_pos, exV_some, Option.map_some] | ((first | with_reducible apply exIf_dec | ((with_reducible apply exGd_dec); focus exact rfl) | ((with_reducible apply exGq_dec); focus exact rfl) | with_reducible apply exIf_intro | ((with_reducible apply exGd_intro); focus exact rfl) | ((with_reducible apply exGq_intro); focus exact rfl)) <;> intro _))
    all_goals first | (exfalso; omega) | skip
    refine exC_upd sw ?_
    simp -implicitDefEqProofs only [go_sem, Nat.reduceEqDiff, Nat.reduceAdd, Nat.reduceMul, Nat.reduceLeDiff, Nat.reduceSub, Nat.reduceLT, Nat.reduceBEq, Int.reduceToNat, reduceCtorEq, ↓reduceIte, Int.reduceEq, Int.reduceNeg, Int.reduceLT, Int.reduceLE, Int.reduceAdd, Int.reduceSub, Int.reduceMul]
    repeat' (first | simp -implicitDefEqProofs only [go_sem, Nat.reduceEqDiff, Nat.reduceAdd, Nat.reduceMul, Nat.reduceLeDiff, Nat.reduceSub, Nat.reduceLT, Nat.reduceBEq, Int.reduceToNat, reduceCtorEq, ↓reduceIte, Int.reduceEq, Int.reduceNeg, Int.reduceLT, Int.reduceLE, Int.reduceAdd, Int.reduceSub, Int.reduceMul] | simp -implicitDefEqProofs (disch := omega) only [iaq_vec, iao_arr, iaq_raw, rd_map, wrap_id, binq_quo, binq_rem, binq_shl, binq_shr, tdiv_pos, tmod_pos, if_pos, exV_some, Option.map_some] | ((first | with_reducible apply exIf_dec | ((with_reducible apply exGd_dec); focus exact rfl) | ((with_reducible apply exGq_dec); focus exact rfl) | with_reducible apply exIf_intro | ((with_reducible apply exGd_intro); focus exact rfl) | ((with_reducible apply exGq_intro); focus exact rfl)) <;> intro _))
    all_goals first | exact nxt | (exfalso; omega) | skip
    done
  · obtain ⟨B1, B2, rfl, hB2⟩ : ∃ B1 B2, B' = B1 ++ B2 ∧ (B2.length : Int) = i := ⟨B'.take (j - i).toNat, B'.drop (j - i).toNat, (List.take_append_drop _ _).symm, by rw [List.length_drop]; omega⟩
    rw [List.length_append] at hj h3 hlen'
    rw [List.append_assoc] at hrow h4 h5
    have sw := block_c H1 b n cap P' A' B1 B2 Z' ex cap' h4 (by omega) hrow (x := m - i) (y := m + j - i) (m := i) (by omega) hi (by omega) (by omega) f
    rw [hup] at sw
    have nxt := ih ((i, j - i), P', B2, B1, A' ++ Z') ⟨by dsimp only; omega, by dsimp only; omega, by dsimp only; omega, by dsimp only; omega, by dsimp only; omega, by simp; omega, by rw [← h5]⟩ (by simp; omega)
    dsimp only at nxt
    clear ih
    repeat' (first | simp -implicitDefEqProofs only [go_sem, Nat.reduceEqDiff, Nat.reduceAdd, Nat.reduceMul, Nat.reduceLeDiff, Nat.reduceSub, Nat.reduceLT, Nat.reduceBEq, Int.reduceToNat, reduceCtorEq, ↓reduceIte, Int.reduceEq, Int.reduceNeg, Int.reduceLT, Int.reduceLE, Int.reduceAdd, Int.reduceSub, Int.reduceMul] | simp -implicitDefEqProofs (disch := omega) only [iaq_vec, iao_arr, iaq_raw, rd_map, wrap_id, binq_quo, binq_rem, binq_shl, binq_shr, tdiv_pos, tmod_pos, if_pos, exV_some, Option.map_some] | ((first | with_reducible apply exIf_dec | ((with_reducible apply exGd_dec); focus exact rfl) | ((with_reducible apply exGq_dec); focus exact rfl) | with_reducible apply exIf_intro | ((with_reducible apply exGd_intro); focus exact rfl) | ((with_reducible apply exGq_intro); focus exact rfl)) <;> intro _))
    all_goals first | (exfalso; omega) | skip
    refine exC_upd sw ?_
    simp -implicitDefEqProofs only [go_sem, Nat.reduceEqDiff, Nat.reduceAdd, Nat.reduceMul, Nat.reduceLeDiff, Nat.reduceSub, Nat.reduceLT, Nat.reduceBEq, Int.reduceToNat, reduceCtorEq, ↓reduceIte, Int.reduceEq, Int.reduceNeg, Int.reduceLT, Int.reduceLE, Int.reduceAdd, Int.reduceSub, Int.reduceMul]
    repeat' (first | simp -implicitDefEqProofs only [go_sem, Nat.reduceEqDiff, Nat.reduceAdd, Nat.reduceMul, Nat.reduceLeDiff, Nat.reduceSub, Nat.reduceLT, Nat.reduceBEq, Int.reduceToNat, reduceCtorEq, ↓reduceIte, Int.reduceEq, Int.reduceNeg, Int.reduceLT, Int.reduceLE, Int.reduceAdd, Int.reduceSub, Int.reduceMul] | simp -implicitDefEqProofs (disch := omega) only [iaq_vec, iao_arr, iaq_raw, rd_map, wrap_id, binq_quo, binq_rem, binq_shl, binq_shr, tdiv_pos, tmod_pos, if_pos, exV_some, Option.map_some] | ((first | with_reducible apply exIf_dec | ((with_reducible apply exGd_dec); focus exact rfl) | ((with_reducible apply exGq_dec); focus exact rfl) | with_reducible apply exIf_intro | ((with_reducible apply exGd_intro); focus exact rfl) | ((with_reducible apply exGq_intro); focus exact rfl)) <;> intro _))
    all_goals first | exact nxt | (exfalso; omega) | skip
    done
end Go.Proofs.Ytgahnhiidhkjaaa
end

section
/- Stable sorting, plain; the library's insertion sort of rules. -/
namespace Go.Proofs.Ytgahnhiidhkjaaa
open Go Abs
attribute [local irreducible] EX exL exG exC exCq exS exV exIf exGd exGq
set_option maxHeartbeats 2000000

/-- those of each priority are the same, in the same order -/
def keepF (l l' : List Rule) : Prop := ∀ p : Int, l.filter (fun r => decide (r.pri = p)) = l'.filter (fun r => decide (r.pri = p))
/-- those that count more stand ahead -/
def desc (l : List Rule) : Prop := l.Pairwise fun a b => b.pri ≤ a.pri
theorem keepF.refl (l : List Rule) : keepF l l := fun _ => rfl
theorem keepF.symm {l m : List Rule} (h : keepF l m) : keepF m l := fun p => (h p).symm
theorem keepF.trans {l m n : List Rule} (h : keepF l m) (h' : keepF m n) : keepF l n := fun p => (h p).trans (h' p)
theorem keepF.append {l m l' m' : List Rule} (h : keepF l l') (h' : keepF m m') : keepF (l ++ m) (l' ++ m') := fun p => by rw [List.filter_append, List.filter_append, h p, h' p]
theorem keepF.swap {A B : List Rule} (h : ∀ a ∈ A, ∀ b ∈ B, a.pri ≠ b.pri) : keepF (A ++ B) (B ++ A) := fun p => by
  rw [List.filter_append, List.filter_append]
  by_cases hA : ∃ a ∈ A, a.pri = p
  · obtain ⟨a, ha, e⟩ := hA
    have : B.filter (fun r => decide (r.pri = p)) = [] := by
      rw [List.filter_eq_nil_iff]
      intro b hb hh
      exact h a ha b hb (by rw [e]; exact (of_decide_eq_true hh).symm)
    rw [this, List.append_nil, List.nil_append]
  · have : A.filter (fun r => decide (r.pri = p)) = [] := by
      rw [List.filter_eq_nil_iff]
      intro a ha hh
      exact hA ⟨a, ha, of_decide_eq_true hh⟩
    rw [this, List.append_nil, List.nil_append]
theorem keepF.mem {l m : List Rule} (h : keepF l m) {x : Rule} (hx : x ∈ l) : x ∈ m := by
  have : x ∈ l.filter (fun r => decide (r.pri = x.pri)) := List.mem_filter.2 ⟨hx, by simp⟩
  rw [h x.pri] at this
  exact (List.mem_filter.1 this).1
theorem keepF.unique : ∀ {l m : List Rule}, keepF l m → desc l → desc m → l = m
  | [], m, h, _, _ => by
    cases m with
    | nil => rfl
    | cons b t => have := h.symm.mem (List.mem_cons_self ..); cases this
  | a :: t, [], h, _, _ => by have := h.mem (List.mem_cons_self ..); cases this
  | a :: t, b :: u, h, h1, h2 => by
    have e1 : b.pri ≤ a.pri := by
      have := h.symm.mem (x := b) (List.mem_cons_self ..)
      rcases List.mem_cons.1 this with e | hb
      · rw [e]; exact Int.le_refl _
      · exact (List.pairwise_cons.1 h1).1 b hb
    have e2 : a.pri ≤ b.pri := by
      have := h.mem (x := a) (List.mem_cons_self ..)
      rcases List.mem_cons.1 this with e | hb
      · rw [e]; exact Int.le_refl _
      · exact (List.pairwise_cons.1 h2).1 a hb
    have e : a.pri = b.pri := by omega
    have hp := h a.pri
    rw [List.filter_cons, List.filter_cons, if_pos (by simp), if_pos (by simp [e])] at hp
    injection hp with hab _
    subst hab
    have ht : keepF t u := fun p => by
      have hp := h p
      rw [List.filter_cons, List.filter_cons] at hp
      split at hp
      · injection hp
      · exact hp
    rw [ht.unique (List.pairwise_cons.1 h1).2 (List.pairwise_cons.1 h2).2]
theorem desc_append {A B : List Rule} : desc (A ++ B) ↔ desc A ∧ desc B ∧ ∀ a ∈ A, ∀ b ∈ B, b.pri ≤ a.pri := List.pairwise_append
theorem desc_single (a : Rule) : desc [a] := List.pairwise_singleton _ _
theorem cmpI_neg (x y : Int) : cmpI x y < 0 ↔ x < y := by unfold cmpI; split <;> (try split) <;> omega
abbrev cmpV : AV := .raw (.func (.func 63) #[] #[])
/-- a part of the row is sorted, one after the other -/
theorem insertion_c (H : AHeap) (b n cap : Nat) (P A Z : List Rule) (ex : List AV) (cap' : Nat) (hn : n = (P ++ (A ++ Z)).length) (hl : n ≤ 1000000) (hr : H b = some (rrow (P ++ (A ++ Z)) ex cap')) {x y : Int} (hx : x = P.length) (hy : y = P.length + A.length) :
    ACalls Try.prog 99 [dataV b n cap, iv x, iv y, cmpV] H fun r H' => r = .tup [] ∧ ∃ T : List Rule, T.length = A.length ∧ desc T ∧ keepF T A ∧ H' = upd H b (some (rrow (P ++ (T ++ Z)) ex cap')) := by
  have hlen : n = P.length + A.length + Z.length := by rw [hn]; simp; omega
  refine ACalls.of_code fn_slices_insertionSortCmpFunc_api_Rule ?_
  simp -implicitDefEqProofs only [sc_slices_insertionSortCmpFunc_api_Rule, go_sem, Nat.reduceEqDiff, Nat.reduceAdd, Nat.reduceMul, Nat.reduceLeDiff, Nat.reduceSub, Nat.reduceLT, Nat.reduceBEq, Int.reduceToNat, reduceCtorEq, ↓reduceIte, Int.reduceEq, Int.reduceNeg, Int.reduceLT, Int.reduceLE, Int.reduceAdd, Int.reduceSub, Int.reduceMul]
  repeat' (first | simp -implicitDefEqProofs only [go_sem, Nat.reduceEqDiff, Nat.reduceAdd, Nat.reduceMul, Nat.reduceLeDiff, Nat.reduceSub, Nat.reduceLT, Nat.reduceBEq, Int.reduceToNat, reduceCtorEq, ↓reduceIte, Int.reduceEq, Int.reduceNeg, Int.reduceLT, Int.reduceLE, Int.reduceAdd, Int.reduceSub, Int.reduceMul] | simp -implicitDefEqProofs (disch := omega) only [iaq_vec, iao_arr, iaq_raw, rd_map, wrap_id, binq_quo, binq_rem, binq_shl, binq_shr, tdiv_pos, tmod_pos, if_pos, exV_some, Option.map_some] | ((first | with_reducible apply exIf_dec | ((with_reducible apply exGd_dec); focus exact rfl) | ((with_reducible apply exGq_dec); focus exact rfl) | with_reducible apply exIf_intro | ((with_reducible apply exGd_intro); focus exact rfl) | ((with_reducible apply exGq_intro); focus exact rfl)) <;> intro _))
  have start : ∃ D R, A = D ++ R ∧ desc D ∧ (D.length = 1 ∨ A = []) := by
    cases A with
    | nil => exact ⟨[], [], rfl, .nil, .inr rfl⟩
    | cons a R => exact ⟨[a], R, rfl, desc_single a, .inl rfl⟩
  obtain ⟨D0, R0, hA, hD0, hd0⟩ := start
  have hA' := congrArg List.length hA
  rw [List.length_append] at hA'
  refine exL_modH (fun a : Int × List Rule × List Rule => [(8, .v (iv a.1))]) (fun _ => []) (fun a => upd H b (some (rrow (P ++ ((a.2.1 ++ a.2.2) ++ Z)) ex cap')))
    (fun a => x + 1 ≤ a.1 ∧ desc a.2.1 ∧ keepF (a.2.1 ++ a.2.2) A ∧ a.2.1.length + a.2.2.length = A.length ∧ (a.1 = x + a.2.1.length ∨ A = [])) (fun a => (y - a.1).toNat) (x + 1, D0, R0) (by rw [← hA, upd_same hr]; rfl) ⟨by dsimp only; omega, hD0, by rw [← hA]; exact .refl A, by dsimp only; omega, by dsimp only; rcases hd0 with e | e; exact .inl (by omega); exact .inr e⟩ ?_
  rintro ⟨i, D, R⟩ ⟨i0, hD, hK, hlen2, hiD⟩ ih
  dsimp only at i0 hD hK hlen2 hiD ih
  simp only [S.up, S.upH, ups, Abs.put, Nat.reduceEqDiff, ↓reduceIte, Nat.reduceAdd] at ih
  simp -implicitDefEqProofs only [congrArg KI.code sc_slices_insertionSortCmpFunc_api_Rule_L1.eq_1, go_sem, Nat.reduceEqDiff, Nat.reduceAdd, Nat.reduceMul, Nat.reduceLeDiff, Nat.reduceSub, Nat.reduceLT, Nat.reduceBEq, Int.reduceToNat, reduceCtorEq, ↓reduceIte, Int.reduceEq, Int.reduceNeg, Int.reduceLT, Int.reduceLE, Int.reduceAdd, Int.reduceSub, Int.reduceMul]
  by_cases hi : i < y
  case neg =>
    clear ih
    have hR : R = [] := by
      rcases hiD with e | e
      · exact List.eq_nil_of_length_eq_zero (by omega)
      · rw [e] at hlen2; exact List.eq_nil_of_length_eq_zero (by have h' := hlen2; simp only [List.length_nil] at h'; omega)
    subst hR
    rw [List.append_nil] at hK ⊢
    repeat' (first | simp -implicitDefEqProofs only [go_sem, Nat.reduceEqDiff, Nat.reduceAdd, Nat.reduceMul, Nat.reduceLeDiff, Nat.reduceSub, Nat.reduceLT, Nat.reduceBEq, Int.reduceToNat, reduceCtorEq, ↓reduceIte, Int.reduceEq, Int.reduceNeg, Int.reduceLT, Int.reduceLE, Int.reduceAdd, Int.reduceSub, Int.reduceMul] | simp -implicitDefEqProofs (disch := omega) only [iaq_vec, iao_arr, iaq_raw, rd_map, wrap_id, binq_quo, binq_rem, binq_shl, binq_shr, tdiv_pos, tmod_pos, if_pos, exV_some, Option.map_some] | ((first | with_reducible apply exIf_dec | ((with_reducible apply exGd_dec); focus exact rfl) | ((with_reducible apply exGq_dec); focus exact rfl) | with_reducible apply exIf_intro | ((with_reducible apply exGd_intro); focus exact rfl) | ((with_reducible apply exGq_intro); focus exact rfl)) <;> intro _))
    all_goals first | exact ⟨D, by simpa using hlen2, hD, hK, rfl⟩ | (exfalso; omega) | skip
    done
  have hne : A ≠ [] := fun e => by rw [e] at hy; simp at hy; omega
  have hiD' : i = x + D.length := hiD.resolve_right hne
  obtain ⟨u, R', rfl⟩ : ∃ u R', R = u :: R' := by
    cases R with
    | nil => simp at hlen2; omega
    | cons u R' => exact ⟨u, R', rfl⟩
  have hR' : D.length + (R'.length + 1) = A.length := by simpa using hlen2
  have nxtO : ∀ E : List Rule, E.length = D.length + 1 → desc E → keepF (E ++ R') (D ++ u :: R') → _ := fun E h1 h2 h3 => ih (i + 1, E, R') ⟨by dsimp only; omega, h2, h3.trans hK, by dsimp only; omega, by dsimp only; exact .inl (by omega)⟩ (by dsimp only; omega)
  clear ih
  repeat' (first | simp -implicitDefEqProofs only [go_sem, Nat.reduceEqDiff, Nat.reduceAdd, Nat.reduceMul, Nat.reduceLeDiff, Nat.reduceSub, Nat.reduceLT, Nat.reduceBEq, Int.reduceToNat, reduceCtorEq, ↓reduceIte, Int.reduceEq, Int.reduceNeg, Int.reduceLT, Int.reduceLE, Int.reduceAdd, Int.reduceSub, Int.reduceMul] | simp -implicitDefEqProofs (disch := omega) only [iaq_vec, iao_arr, iaq_raw, rd_map, wrap_id, binq_quo, binq_rem, binq_shl, binq_shr, tdiv_pos, tmod_pos, if_pos, exV_some, Option.map_some] | ((first | with_reducible apply exIf_dec | ((with_reducible apply exGd_dec); focus exact rfl) | ((with_reducible apply exGq_dec); focus exact rfl) | with_reducible apply exIf_intro | ((with_reducible apply exGd_intro); focus exact rfl) | ((with_reducible apply exGq_intro); focus exact rfl)) <;> intro _))
  all_goals first | (exfalso; omega) | skip
  refine exL_modH (fun a : Int × List Rule × List Rule => [(9, .v (iv a.1))]) (fun _ => []) (fun a => upd H b (some (rrow (P ++ (((a.2.1 ++ u :: a.2.2) ++ R') ++ Z)) ex cap')))
    (fun a => D = a.2.1 ++ a.2.2 ∧ a.1 = x + a.2.1.length ∧ ∀ v ∈ a.2.2, v.pri < u.pri) (fun a => a.2.1.length) (i, D, []) (by simp only [List.append_assoc, List.cons_append, List.nil_append]; rfl) ⟨by simp, by dsimp only; omega, by simp⟩ ?_
  rintro ⟨j, D1, D2⟩ ⟨hDD, hj, hlt⟩ ih
  dsimp only at hDD hj hlt ih
  subst hDD
  simp only [S.up, S.upH, ups, Abs.put, Nat.reduceEqDiff, ↓reduceIte, Nat.reduceAdd] at ih
  rw [List.length_append] at nxtO hlen2 hiD' hR'
  rw [desc_append] at hD
  have hmove : keepF ((D1 ++ u :: D2) ++ R') ((D1 ++ D2) ++ u :: R') := by
    have h1 : keepF ([u] ++ D2) (D2 ++ [u]) := keepF.swap fun a ha c hc => by
      simp only [List.mem_singleton] at ha
      have := hlt c hc
      rw [ha]; omega
    have := ((keepF.refl D1).append h1).append (keepF.refl R')
    simpa using this
  simp -implicitDefEqProofs only [congrArg KI.code sc_slices_insertionSortCmpFunc_api_Rule_L0.eq_1, go_sem, Nat.reduceEqDiff, Nat.reduceAdd, Nat.reduceMul, Nat.reduceLeDiff, Nat.reduceSub, Nat.reduceLT, Nat.reduceBEq, Int.reduceToNat, reduceCtorEq, ↓reduceIte, Int.reduceEq, Int.reduceNeg, Int.reduceLT, Int.reduceLE, Int.reduceAdd, Int.reduceSub, Int.reduceMul]
  have hds : desc (u :: D2) := List.pairwise_cons.2 ⟨fun a ha => Int.le_of_lt (hlt a ha), hD.2.1⟩
  rcases List.eq_nil_or_concat D1 with rfl | ⟨D1', v, rfl⟩
  · clear ih
    have nxt := nxtO ([] ++ u :: D2) (by simp) hds hmove
    repeat' (first | simp -implicitDefEqProofs only [go_sem, Nat.reduceEqDiff, Nat.reduceAdd, Nat.reduceMul, Nat.reduceLeDiff, Nat.reduceSub, Nat.reduceLT, Nat.reduceBEq, Int.reduceToNat, reduceCtorEq, ↓reduceIte, Int.reduceEq, Int.reduceNeg, Int.reduceLT, Int.reduceLE, Int.reduceAdd, Int.reduceSub, Int.reduceMul] | simp -implicitDefEqProofs (disch := omega) only [iaq_vec, iao_arr, iaq_raw, rd_map, wrap_id, binq_quo, binq_rem, binq_shl, binq_shr, tdiv_pos, tmod_pos, if_pos, exV_some, Option.map_some] | ((first | with_reducible apply exIf_dec | ((with_reducible apply exGd_dec); focus exact rfl) | ((with_reducible apply exGq_dec); focus exact rfl) | with_reducible apply exIf_intro | ((with_reducible apply exGd_intro); focus exact rfl) | ((with_reducible apply exGq_intro); focus exact rfl)) <;> intro _))
    all_goals first | exact nxt | (exfalso; simp at hj; omega) | skip
    done
  rw [List.concat_eq_append] at *
  have hj' : j = x + (D1'.length + 1) := by simpa using hj
  obtain ⟨L, hLd⟩ : ∃ L, L = P ++ (((D1' ++ [v] ++ u :: D2) ++ R') ++ Z) := ⟨_, rfl⟩
  have hL : L = (P ++ D1') ++ v :: u :: (D2 ++ (R' ++ Z)) := by rw [hLd]; simp
  have hLl : n = L.length := by rw [hL, hlen]; simp at hlen2 ⊢; omega
  have e1 : gi L j = u := by
    have := gi_mid (P ++ D1' ++ [v]) u (D2 ++ (R' ++ Z)) (i := j) (by simp; omega)
    rw [hL]; simpa using this
  have e2 : gi L (j - 1) = v := by
    rw [hL]
    exact gi_mid (P ++ D1') v _ (by simp; omega)
  have jx : x < j := by omega
  have jn : j < n := by rw [hlen]; simp at hlen2; omega
  have hc := cmpR_c (gi L j) (gi L (j - 1))
  rw [← hLd]
  have j0 : 0 ≤ j - 1 := by omega
  have s1 := rrow_set (l := L) (ex := ex) (i := j) (by omega) (by omega) (gi L (j - 1))
  have s2 := rrow_set (l := L.set j.toNat (gi L (j - 1))) (ex := ex) (i := j - 1) (by omega) (by rw [List.length_set]; omega) (gi L j)
  rw [Rule.cells_eq] at s1 s2
  simp only [sl] at s1 s2
  simp only [Rule.av, Rule.cells_eq, sl] at hc
  by_cases huv : v.pri < u.pri
  · have hcn : cmpI (gi L (j - 1)).pri (gi L j).pri < 0 := by rw [e1, e2, cmpI_neg]; exact huv
    have eL : (L.set j.toNat (gi L (j - 1))).set (j - 1).toNat (gi L j) = P ++ (((D1' ++ u :: (v :: D2)) ++ R') ++ Z) := by
      rw [e1, e2, hL]
      have t1 := set_mid (P ++ D1' ++ [v]) u v (D2 ++ (R' ++ Z))
      have t2 := set_mid (P ++ D1') v u (v :: (D2 ++ (R' ++ Z)))
      rw [show j.toNat = (P ++ D1' ++ [v]).length by simp; omega, show (j - 1).toNat = (P ++ D1').length by simp; omega]
      rw [show P ++ D1' ++ v :: u :: (D2 ++ (R' ++ Z)) = (P ++ D1' ++ [v]) ++ u :: (D2 ++ (R' ++ Z)) by simp, t1, show (P ++ D1' ++ [v]) ++ v :: (D2 ++ (R' ++ Z)) = (P ++ D1') ++ v :: v :: (D2 ++ (R' ++ Z)) by simp, t2]
      simp
    have nxt := ih (j - 1, D1', v :: D2) ⟨by simp, by dsimp only; omega, fun a ha => by
      rcases List.mem_cons.1 ha with e | ha
      · rw [e]; exact huv
      · exact hlt a ha⟩ (by simp)
    dsimp only at nxt
    rw [← eL] at nxt
    unfold rrow at nxt
    clear ih
    repeat' (first | simp -implicitDefEqProofs only [go_sem, Nat.reduceEqDiff, Nat.reduceAdd, Nat.reduceMul, Nat.reduceLeDiff, Nat.reduceSub, Nat.reduceLT, Nat.reduceBEq, Int.reduceToNat, reduceCtorEq, ↓reduceIte, Int.reduceEq, Int.reduceNeg, Int.reduceLT, Int.reduceLE, Int.reduceAdd, Int.reduceSub, Int.reduceMul] | simp -implicitDefEqProofs (disch := omega) only [rrow, rd_rule, Rule.av, Rule.cells_eq, sl, rrow_length, s1, s2, List.length_set, upd_upd', iaq_vec, iao_arr, iaq_raw, rd_map, wrap_id, binq_quo, binq_rem, binq_shl, binq_shr, tdiv_pos, tmod_pos, if_pos, exV_some, Option.map_some] | ((first | with_reducible apply exIf_dec | ((with_reducible apply exGd_dec); focus exact rfl) | ((with_reducible apply exGq_dec); focus exact rfl) | with_reducible apply exIf_intro | ((with_reducible apply exGd_intro); focus exact rfl) | ((with_reducible apply exGq_intro); focus exact rfl)) <;> intro _) | with_reducible refine exC_pure (hc _) ?_ | with_reducible refine exCq_pure (hc _) ?_)
    all_goals first | exact nxt | (exfalso; omega) | skip
    done
  · have hcn : ¬ cmpI (gi L (j - 1)).pri (gi L j).pri < 0 := by rw [e1, e2, cmpI_neg]; exact huv
    have hd1 := desc_append.1 hD.1
    have nxt := nxtO ((D1' ++ [v]) ++ u :: D2) (by simp; omega) (desc_append.2 ⟨hD.1, hds, fun a ha c hc => by
      have hav : v.pri ≤ a.pri := by
        rcases List.mem_append.1 ha with ha | ha
        · exact hd1.2.2 a ha v (by simp)
        · rw [List.mem_singleton.1 ha]; exact Int.le_refl _
      rcases List.mem_cons.1 hc with e | hc
      · rw [e]; omega
      · exact hD.2.2 a ha c hc⟩) hmove
    rw [← hLd] at nxt
    unfold rrow at nxt
    clear ih
    repeat' (first | simp -implicitDefEqProofs only [go_sem, Nat.reduceEqDiff, Nat.reduceAdd, Nat.reduceMul, Nat.reduceLeDiff, Nat.reduceSub, Nat.reduceLT, Nat.reduceBEq, Int.reduceToNat, reduceCtorEq, ↓reduceIte, Int.reduceEq, Int.reduceNeg, Int.reduceLT, Int.reduceLE, Int.reduceAdd, Int.reduceSub, Int.reduceMul] | simp -implicitDefEqProofs (disch := omega) only [rrow, rd_rule, Rule.av, Rule.cells_eq, sl, rrow_length, iaq_vec, iao_arr, iaq_raw, rd_map, wrap_id, binq_quo, binq_rem, binq_shl, binq_shr, tdiv_pos, tmod_pos, if_pos, exV_some, Option.map_some] | ((first | with_reducible apply exIf_dec | ((with_reducible apply exGd_dec); focus exact rfl) | ((with_reducible apply exGq_dec); focus exact rfl) | with_reducible apply exIf_intro | ((with_reducible apply exGd_intro); focus exact rfl) | ((with_reducible apply exGq_intro); focus exact rfl)) <;> intro _) | with_reducible refine exC_pure (hc _) ?_ | with_reducible refine exCq_pure (hc _) ?_)
    all_goals first | exact nxt | (exfalso; omega) | skip
    done
end Go.Proofs.Ytgahnhiidhkjaaa
end

section
/- The library's merge of sorted rules in place. -/
namespace Go.Proofs.Ytgahnhiidhkjaaa
open Go Abs
attribute [local irreducible] EX exL exG exC exCq exS exV exIf exGd exGq
set_option maxHeartbeats 2000000

theorem ishr_one (k : IntKind) (x : Int) (hk : 1 ≤ k.bits) : ishr k x 1 = x / 2 := by
  unfold ishr
  rw [show min (1 : Int).toNat k.bits = 1 by have : (1 : Int).toNat = 1 := rfl; omega]
  exact Int.fdiv_eq_ediv_of_nonneg x (by decide)
theorem ishr_u64 (x : Int) : ishr .u64 x 1 = x / 2 := ishr_one _ _ (by decide)
theorem wrap_u64 {x : Int} (h0 : 0 ≤ x) (h1 : x ≤ 18446744073709551615) : IntKind.u64.wrap x = x := by
  simp only [IntKind.wrap]
  simp [IntKind.signed, IntKind.bits]
  omega
theorem mid_i64 {x : Int} (h0 : 0 ≤ x) (h1 : x ≤ 2000000) : IntKind.i64.wrap (IntKind.u64.wrap x / 2) = x / 2 := by
  rw [wrap_u64 h0 (by omega)]
  exact wrap_id (by omega) (by omega)

/-- where a sorted list goes below a bound -/
theorem desc_split {L : List Rule} (h : desc L) (k : Nat) (p : Int) (h1 : k = 0 ∨ p ≤ (gi L (k - 1)).pri) (h2 : k = L.length ∨ (gi L k).pri ≤ p) (hk : k ≤ L.length) :
    (∀ x ∈ L.take k, p ≤ x.pri) ∧ ∀ x ∈ L.drop k, x.pri ≤ p := by
  have hh := List.pairwise_iff_getElem.1 h
  constructor
  · intro x hx
    obtain ⟨i, hi, e⟩ := List.getElem_of_mem hx
    rw [List.length_take] at hi
    rw [List.getElem_take] at e
    rcases h1 with h1 | h1
    · omega
    · rw [gi_get (by omega)] at h1
      by_cases e2 : i = k - 1
      · subst e2
        rw [← e]
        simpa [show ((k : Int) - 1).toNat = k - 1 by omega] using h1
      · have := hh i (k - 1) (by omega) (by omega) (by omega)
        rw [← e]
        refine Int.le_trans ?_ this
        simpa [show ((k : Int) - 1).toNat = k - 1 by omega] using h1
  · intro x hx
    obtain ⟨i, hi, e⟩ := List.getElem_of_mem hx
    rw [List.length_drop] at hi
    rw [List.getElem_drop] at e
    rcases h2 with h2 | h2
    · omega
    · rw [gi_get (by omega)] at h2
      by_cases e2 : i = 0
      · subst e2
        rw [← e]
        simpa using h2
      · have := hh k (k + i) (by omega) (by omega) (by omega)
        rw [← e]
        refine Int.le_trans this ?_
        simpa using h2
theorem gi_app {α : Type} [Inhabited α] (P : List α) {L : List α} {i : Int} {k : Nat} (h : i = P.length + k) : gi (P ++ L) i = gi L k := by
  subst h
  unfold gi
  rw [List.getD_eq_getElem?_getD, List.getD_eq_getElem?_getD, List.getElem?_append_right (by omega)]
  congr 2
  omega
theorem gi_left {α : Type} [Inhabited α] {L M : List α} {k : Nat} (h : k < L.length) : gi (L ++ M) k = gi L k := by
  unfold gi
  rw [List.getD_eq_getElem?_getD, List.getD_eq_getElem?_getD, Int.toNat_natCast, List.getElem?_append_left h]
/-- one rule, and sorted ones behind it -/
theorem merge1_c (H : AHeap) (b n cap : Nat) (P : List Rule) (u : Rule) (R Z : List Rule) (ex : List AV) (cap' : Nat) (hn : n = (P ++ (([u] ++ R) ++ Z)).length) (hl : n ≤ 1000000) (hr : H b = some (rrow (P ++ (([u] ++ R) ++ Z)) ex cap')) (hR : desc R) {x m y : Int} (hx : x = P.length) (hm : m = P.length + 1) (hy : y = P.length + 1 + R.length) :
    ACalls Try.prog 100 [dataV b n cap, iv x, iv m, iv y, cmpV] H fun r H' => r = .tup [] ∧ ∃ T : List Rule, T.length = 1 + R.length ∧ desc T ∧ keepF T ([u] ++ R) ∧ H' = upd H b (some (rrow (P ++ (T ++ Z)) ex cap')) := by
  have hlen : n = P.length + (1 + R.length) + Z.length := by rw [hn]; simp; omega
  obtain ⟨L, hLd⟩ : ∃ L, L = P ++ (([u] ++ R) ++ Z) := ⟨_, rfl⟩
  have hLl : n = L.length := by rw [hn, hLd]
  have hL0 : gi L x = u := by rw [hLd]; exact gi_mid P u _ hx
  have hLR : ∀ k : Nat, k < R.length → gi L (m + k) = gi R k := fun k hk => by
    rw [hLd, gi_app P (k := k + 1) (by omega), show ((k + 1 : Nat) : Int) = ([u] : List Rule).length + k by simp; omega, List.append_assoc, gi_app [u] (k := k) rfl, gi_left hk]
  rw [← hLd] at hr
  refine ACalls.of_code fn_slices_symMergeCmpFunc_api_Rule ?_
  simp -implicitDefEqProofs only [sc_slices_symMergeCmpFunc_api_Rule, go_sem, Nat.reduceEqDiff, Nat.reduceAdd, Nat.reduceMul, Nat.reduceLeDiff, Nat.reduceSub, Nat.reduceLT, Nat.reduceBEq, Int.reduceToNat, reduceCtorEq, ↓reduceIte, Int.reduceEq, Int.reduceNeg, Int.reduceLT, Int.reduceLE, Int.reduceAdd, Int.reduceSub, Int.reduceMul]
  repeat' (first | simp -implicitDefEqProofs only [go_sem, Nat.reduceEqDiff, Nat.reduceAdd, Nat.reduceMul, Nat.reduceLeDiff, Nat.reduceSub, Nat.reduceLT, Nat.reduceBEq, Int.reduceToNat, reduceCtorEq, ↓reduceIte, Int.reduceEq, Int.reduceNeg, Int.reduceLT, Int.reduceLE, Int.reduceAdd, Int.reduceSub, Int.reduceMul] | simp -implicitDefEqProofs (disch := omega) only [iaq_vec, iao_arr, iaq_raw, rd_map, wrap_id, binq_quo, binq_rem, binq_shl, binq_shr, tdiv_pos, tmod_pos, if_pos, exV_some, Option.map_some] | ((first | with_reducible apply exIf_dec | ((with_reducible apply exGd_dec); focus exact rfl) | ((with_reducible apply exGq_dec); focus exact rfl) | with_reducible apply exIf_intro | ((with_reducible apply exGd_intro); focus exact rfl) | ((with_reducible apply exGq_intro); focus exact rfl)) <;> intro _))
  all_goals first | (exfalso; omega) | skip
  refine exL_mod (fun a : Int × Int => [(10, .v (iv a.1)), (11, .v (iv a.2))]) (fun _ => []) (fun a => m ≤ a.1 ∧ a.1 ≤ a.2 ∧ a.2 ≤ y ∧ (a.1 = m ∨ u.pri < (gi L (a.1 - 1)).pri) ∧ (a.2 = y ∨ (gi L a.2).pri ≤ u.pri)) (fun a => (a.2 - a.1).toNat) (m, y) rfl ⟨by simp, by dsimp only; omega, by simp, by simp, by simp⟩ ?_
  rintro ⟨i, j⟩ ⟨h1, h2, h3, h4, h5⟩ ih
  dsimp only at h1 h2 h3 h4 h5 ih
  simp only [S.up, S.upH, ups, Abs.put, Nat.reduceEqDiff, ↓reduceIte, Nat.reduceAdd] at ih
  unfold rrow at hr
  simp -implicitDefEqProofs only [congrArg KI.code sc_slices_symMergeCmpFunc_api_Rule_L4.eq_1, go_sem, Nat.reduceEqDiff, Nat.reduceAdd, Nat.reduceMul, Nat.reduceLeDiff, Nat.reduceSub, Nat.reduceLT, Nat.reduceBEq, Int.reduceToNat, reduceCtorEq, ↓reduceIte, Int.reduceEq, Int.reduceNeg, Int.reduceLT, Int.reduceLE, Int.reduceAdd, Int.reduceSub, Int.reduceMul]
  by_cases hij : i < j
  · have hc := cmpR_c (gi L ((i + j) / 2)) (gi L x)
    simp only [Rule.av, Rule.cells_eq, sl] at hc
    have hmid := mid_i64 (x := i + j) (by omega) (by omega)
    obtain ⟨h, hh⟩ : ∃ h, h = (i + j) / 2 := ⟨_, rfl⟩
    rw [← hh] at hc hmid
    have hb1 : i ≤ h ∧ h < j := by omega
    by_cases hcm : (gi L x).pri < (gi L h).pri
    · have hcn := (cmpI_neg (gi L x).pri (gi L h).pri).2 hcm
      rw [hL0] at hcm
      have nxt := ih (h + 1, j) ⟨by dsimp only; omega, by dsimp only; omega, by dsimp only; omega, by dsimp only; rw [show h + 1 - 1 = h by omega]; exact .inr hcm, h5⟩ (by dsimp only; omega)
      clear ih
      repeat' (first | simp -implicitDefEqProofs only [go_sem, Nat.reduceEqDiff, Nat.reduceAdd, Nat.reduceMul, Nat.reduceLeDiff, Nat.reduceSub, Nat.reduceLT, Nat.reduceBEq, Int.reduceToNat, reduceCtorEq, ↓reduceIte, Int.reduceEq, Int.reduceNeg, Int.reduceLT, Int.reduceLE, Int.reduceAdd, Int.reduceSub, Int.reduceMul] | simp -implicitDefEqProofs (disch := omega) only [ishr_u64, hmid, hr, rd_rule, Rule.av, Rule.cells_eq, sl, rrow_length, iaq_vec, iao_arr, iaq_raw, rd_map, wrap_id, binq_quo, binq_rem, binq_shl, binq_shr, tdiv_pos, tmod_pos, if_pos, exV_some, Option.map_some] | ((first | with_reducible apply exIf_dec | ((with_reducible apply exGd_dec); focus exact rfl) | ((with_reducible apply exGq_dec); focus exact rfl) | with_reducible apply exIf_intro | ((with_reducible apply exGd_intro); focus exact rfl) | ((with_reducible apply exGq_intro); focus exact rfl)) <;> intro _) | with_reducible refine exC_pure (hc _) ?_ | with_reducible refine exCq_pure (hc _) ?_)
      all_goals first | exact nxt | (exfalso; omega) | skip
      done
    · have hcn : ¬ cmpI (gi L x).pri (gi L h).pri < 0 := fun e => hcm ((cmpI_neg (gi L x).pri (gi L h).pri).1 e)
      rw [hL0] at hcm
      have nxt := ih (i, h) ⟨by dsimp only; omega, by dsimp only; omega, by dsimp only; omega, h4, by dsimp only; exact .inr (by omega)⟩ (by dsimp only; omega)
      clear ih
      repeat' (first | simp -implicitDefEqProofs only [go_sem, Nat.reduceEqDiff, Nat.reduceAdd, Nat.reduceMul, Nat.reduceLeDiff, Nat.reduceSub, Nat.reduceLT, Nat.reduceBEq, Int.reduceToNat, reduceCtorEq, ↓reduceIte, Int.reduceEq, Int.reduceNeg, Int.reduceLT, Int.reduceLE, Int.reduceAdd, Int.reduceSub, Int.reduceMul] | simp -implicitDefEqProofs (disch := omega) only [ishr_u64, hmid, hr, rd_rule, Rule.av, Rule.cells_eq, sl, rrow_length, iaq_vec, iao_arr, iaq_raw, rd_map, wrap_id, binq_quo, binq_rem, binq_shl, binq_shr, tdiv_pos, tmod_pos, if_pos, exV_some, Option.map_some] | ((first | with_reducible apply exIf_dec | ((with_reducible apply exGd_dec); focus exact rfl) | ((with_reducible apply exGq_dec); focus exact rfl) | with_reducible apply exIf_intro | ((with_reducible apply exGd_intro); focus exact rfl) | ((with_reducible apply exGq_intro); focus exact rfl)) <;> intro _) | with_reducible refine exC_pure (hc _) ?_ | with_reducible refine exCq_pure (hc _) ?_)
      all_goals first | exact nxt | (exfalso; omega) | skip
      done
  obtain rfl : i = j := by omega
  clear ih
  obtain ⟨t, ht⟩ : ∃ t : Nat, i = m + t := ⟨(i - m).toNat, by omega⟩
  have htR : t ≤ R.length := by omega
  have q1 : t = 0 ∨ u.pri + 1 ≤ (gi R (t - 1)).pri := by
    rcases h4 with e | e
    · exact .inl (by omega)
    · by_cases t0 : t = 0
      · exact .inl t0
      · have := hLR (t - 1) (by omega)
        rw [show m + ((t - 1 : Nat) : Int) = i - 1 by omega] at this
        rw [this] at e
        exact .inr (by rw [show ((t : Int) - 1) = ((t - 1 : Nat) : Int) by omega]; omega)
  have q2 : t = R.length ∨ (gi R t).pri ≤ u.pri := by
    by_cases t0 : t = R.length
    · exact .inl t0
    · rcases h5 with e | e
      · omega
      · have := hLR t (by omega)
        rw [show m + (t : Int) = i by omega] at this
        rw [this] at e
        exact .inr e
  have d1 := (desc_split hR t (u.pri + 1) q1 (q2.imp id fun h => by omega) htR).1
  have d2 := (desc_split hR t u.pri (q1.imp id fun h => by omega) q2 htR).2
  have hsp := (List.take_append_drop t R).symm
  have hl1 : (R.take t).length = t := by rw [List.length_take]; omega
  obtain ⟨R1, hR1⟩ : ∃ R1, R1 = R.take t := ⟨_, rfl⟩
  obtain ⟨R2, hR2⟩ : ∃ R2, R2 = R.drop t := ⟨_, rfl⟩
  rw [← hR1] at d1 hsp hl1
  rw [← hR2] at d2 hsp
  have hRl : R.length = R1.length + R2.length := by rw [hsp, List.length_append]
  clear hR1 hR2
  have hdR := desc_append.1 (hsp ▸ hR)
  have fin : desc (R1 ++ u :: R2) ∧ keepF (R1 ++ u :: R2) ([u] ++ R) := by
    refine ⟨desc_append.2 ⟨hdR.1, List.pairwise_cons.2 ⟨d2, hdR.2.1⟩, fun a ha c hc => ?_⟩, ?_⟩
    · rcases List.mem_cons.1 hc with e | hc
      · rw [e]; have := d1 a ha; omega
      · exact hdR.2.2 a ha c hc
    · have h1 : keepF (R1 ++ [u]) ([u] ++ R1) := keepF.swap fun a ha c hc => by
        rw [List.mem_singleton.1 hc]
        have := d1 a ha
        omega
      have := h1.append (keepF.refl R2)
      rw [hsp]
      simpa using this
  repeat' (first | simp -implicitDefEqProofs only [go_sem, Nat.reduceEqDiff, Nat.reduceAdd, Nat.reduceMul, Nat.reduceLeDiff, Nat.reduceSub, Nat.reduceLT, Nat.reduceBEq, Int.reduceToNat, reduceCtorEq, ↓reduceIte, Int.reduceEq, Int.reduceNeg, Int.reduceLT, Int.reduceLE, Int.reduceAdd, Int.reduceSub, Int.reduceMul] | simp -implicitDefEqProofs (disch := omega) only [iaq_vec, iao_arr, iaq_raw, rd_map, wrap_id, binq_quo, binq_rem, binq_shl, binq_shr, tdiv_pos, tmod_pos, if_pos, exV_some, Option.map_some] | ((first | with_reducible apply exIf_dec | ((with_reducible apply exGd_dec); focus exact rfl) | ((with_reducible apply exGq_dec); focus exact rfl) | with_reducible apply exIf_intro | ((with_reducible apply exGd_intro); focus exact rfl) | ((with_reducible apply exGq_intro); focus exact rfl)) <;> intro _))
  all_goals first | (exfalso; omega) | skip
  refine exL_modH (fun a : Int × List Rule × List Rule => [(13, .v (iv a.1))]) (fun _ => []) (fun a => upd H b (some (rrow (P ++ ((a.2.1 ++ u :: a.2.2) ++ (R2 ++ Z))) ex cap')))
    (fun a => R1 = a.2.1 ++ a.2.2 ∧ a.1 = x + a.2.1.length) (fun a => a.2.2.length) (x, [], R1) (by
      have : P ++ (([] ++ u :: R1) ++ (R2 ++ Z)) = L := by rw [hLd, hsp]; simp
      rw [this, rrow, upd_same hr]; rfl) ⟨by simp, by simp⟩ ?_
  rintro ⟨k, A, B⟩ ⟨g1, g2⟩ ih
  dsimp only at g1 g2 ih
  subst g1
  rw [List.length_append] at hl1
  simp only [S.up, S.upH, ups, Abs.put, Nat.reduceEqDiff, ↓reduceIte, Nat.reduceAdd] at ih
  simp -implicitDefEqProofs only [congrArg KI.code sc_slices_symMergeCmpFunc_api_Rule_L3.eq_1, go_sem, Nat.reduceEqDiff, Nat.reduceAdd, Nat.reduceMul, Nat.reduceLeDiff, Nat.reduceSub, Nat.reduceLT, Nat.reduceBEq, Int.reduceToNat, reduceCtorEq, ↓reduceIte, Int.reduceEq, Int.reduceNeg, Int.reduceLT, Int.reduceLE, Int.reduceAdd, Int.reduceSub, Int.reduceMul]
  cases B with
  | nil =>
    clear ih
    simp only [List.length_nil, List.append_nil] at hl1 fin hRl
    repeat' (first | simp -implicitDefEqProofs only [go_sem, Nat.reduceEqDiff, Nat.reduceAdd, Nat.reduceMul, Nat.reduceLeDiff, Nat.reduceSub, Nat.reduceLT, Nat.reduceBEq, Int.reduceToNat, reduceCtorEq, ↓reduceIte, Int.reduceEq, Int.reduceNeg, Int.reduceLT, Int.reduceLE, Int.reduceAdd, Int.reduceSub, Int.reduceMul] | simp -implicitDefEqProofs (disch := omega) only [iaq_vec, iao_arr, iaq_raw, rd_map, wrap_id, binq_quo, binq_rem, binq_shl, binq_shr, tdiv_pos, tmod_pos, if_pos, exV_some, Option.map_some] | ((first | with_reducible apply exIf_dec | ((with_reducible apply exGd_dec); focus exact rfl) | ((with_reducible apply exGq_dec); focus exact rfl) | with_reducible apply exIf_intro | ((with_reducible apply exGd_intro); focus exact rfl) | ((with_reducible apply exGq_intro); focus exact rfl)) <;> intro _))
    all_goals first | exact ⟨A ++ u :: R2, by simp; omega, fin.1, by simpa using fin.2, by simp⟩ | (exfalso; omega) | skip
    done
  | cons v B =>
    rw [List.length_cons] at hl1
    obtain ⟨M, hMd⟩ : ∃ M, M = P ++ ((A ++ u :: v :: B) ++ (R2 ++ Z)) := ⟨_, rfl⟩
    have hM : M = (P ++ A) ++ u :: v :: (B ++ (R2 ++ Z)) := by rw [hMd]; simp
    have hMl : n = M.length := by rw [hM, hlen, hRl]; simp; omega
    have e1 : gi M k = u := by rw [hM]; exact gi_mid (P ++ A) u _ (by simp; omega)
    have e2 : gi M (k + 1) = v := by
      have := gi_mid (P ++ A ++ [u]) v (B ++ (R2 ++ Z)) (i := k + 1) (by simp; omega)
      rw [hM]; simpa using this
    have kn : k + 1 < n := by rw [hMl, hM]; simp; omega
    rw [← hMd]
    have s1 := rrow_set (l := M) (ex := ex) (i := k) (by omega) (by omega) (gi M (k + 1))
    have s2 := rrow_set (l := M.set k.toNat (gi M (k + 1))) (ex := ex) (i := k + 1) (by omega) (by rw [List.length_set]; omega) (gi M k)
    rw [Rule.cells_eq] at s1 s2
    simp only [sl] at s1 s2
    have eM : (M.set k.toNat (gi M (k + 1))).set (k + 1).toNat (gi M k) = P ++ (((A ++ [v]) ++ u :: B) ++ (R2 ++ Z)) := by
      rw [e1, e2, hM]
      have t1 := set_mid (P ++ A) u v (v :: (B ++ (R2 ++ Z)))
      have t2 := set_mid (P ++ A ++ [v]) v u (B ++ (R2 ++ Z))
      rw [show k.toNat = (P ++ A).length by simp; omega, t1, show (k + 1).toNat = (P ++ A ++ [v]).length by simp; omega, show P ++ A ++ v :: v :: (B ++ (R2 ++ Z)) = (P ++ A ++ [v]) ++ v :: (B ++ (R2 ++ Z)) by simp, t2]
      simp
    have nxt := ih (k + 1, A ++ [v], B) ⟨by simp, by simp; omega⟩ (by simp)
    dsimp only at nxt
    rw [← eM] at nxt
    unfold rrow at nxt
    clear ih
    repeat' (first | simp -implicitDefEqProofs only [go_sem, Nat.reduceEqDiff, Nat.reduceAdd, Nat.reduceMul, Nat.reduceLeDiff, Nat.reduceSub, Nat.reduceLT, Nat.reduceBEq, Int.reduceToNat, reduceCtorEq, ↓reduceIte, Int.reduceEq, Int.reduceNeg, Int.reduceLT, Int.reduceLE, Int.reduceAdd, Int.reduceSub, Int.reduceMul] | simp -implicitDefEqProofs (disch := omega) only [rrow, rd_rule, Rule.av, Rule.cells_eq, sl, rrow_length, s1, s2, List.length_set, upd_upd', iaq_vec, iao_arr, iaq_raw, rd_map, wrap_id, binq_quo, binq_rem, binq_shl, binq_shr, tdiv_pos, tmod_pos, if_pos, exV_some, Option.map_some] | ((first | with_reducible apply exIf_dec | ((with_reducible apply exGd_dec); focus exact rfl) | ((with_reducible apply exGq_dec); focus exact rfl) | with_reducible apply exIf_intro | ((with_reducible apply exGd_intro); focus exact rfl) | ((with_reducible apply exGq_intro); focus exact rfl)) <;> intro _))
    all_goals first | exact nxt | (exfalso; omega) | skip
    done
/-- sorted rules, and one behind them -/
theorem merge2_c (H : AHeap) (b n cap : Nat) (P : List Rule) (v : Rule) (R Z : List Rule) (ex : List AV) (cap' : Nat) (hn : n = (P ++ ((R ++ [v]) ++ Z)).length) (hl : n ≤ 1000000) (hr : H b = some (rrow (P ++ ((R ++ [v]) ++ Z)) ex cap')) (hR : desc R) (hR1 : R.length ≠ 1) {x m y : Int} (hx : x = P.length) (hm : m = P.length + R.length) (hy : y = P.length + R.length + 1) :
    ACalls Try.prog 100 [dataV b n cap, iv x, iv m, iv y, cmpV] H fun r H' => r = .tup [] ∧ ∃ T : List Rule, T.length = R.length + 1 ∧ desc T ∧ keepF T (R ++ [v]) ∧ H' = upd H b (some (rrow (P ++ (T ++ Z)) ex cap')) := by
  have hlen : n = P.length + (R.length + 1) + Z.length := by rw [hn]; simp; omega
  obtain ⟨L, hLd⟩ : ∃ L, L = P ++ ((R ++ [v]) ++ Z) := ⟨_, rfl⟩
  have hLl : n = L.length := by rw [hn, hLd]
  have hL0 : gi L m = v := by
    have := gi_mid (P ++ R) v Z (i := m) (by simp; omega)
    rw [hLd]; simpa using this
  have hLR : ∀ k : Nat, k < R.length → gi L (x + k) = gi R k := fun k hk => by
    rw [hLd, gi_app P (k := k) (by omega), List.append_assoc, gi_left hk]
  rw [← hLd] at hr
  refine ACalls.of_code fn_slices_symMergeCmpFunc_api_Rule ?_
  simp -implicitDefEqProofs only [sc_slices_symMergeCmpFunc_api_Rule, go_sem, Nat.reduceEqDiff, Nat.reduceAdd, Nat.reduceMul, Nat.reduceLeDiff, Nat.reduceSub, Nat.reduceLT, Nat.reduceBEq, Int.reduceToNat, reduceCtorEq, ↓reduceIte, Int.reduceEq, Int.reduceNeg, Int.reduceLT, Int.reduceLE, Int.reduceAdd, Int.reduceSub, Int.reduceMul]
  repeat' (first | simp -implicitDefEqProofs only [go_sem, Nat.reduceEqDiff, Nat.reduceAdd, Nat.reduceMul, Nat.reduceLeDiff, Nat.reduceSub, Nat.reduceLT, Nat.reduceBEq, Int.reduceToNat, reduceCtorEq, ↓reduceIte, Int.reduceEq, Int.reduceNeg, Int.reduceLT, Int.reduceLE, Int.reduceAdd, Int.reduceSub, Int.reduceMul] | simp -implicitDefEqProofs (disch := omega) only [iaq_vec, iao_arr, iaq_raw, rd_map, wrap_id, binq_quo, binq_rem, binq_shl, binq_shr, tdiv_pos, tmod_pos, if_pos, exV_some, Option.map_some] | ((first | with_reducible apply exIf_dec | ((with_reducible apply exGd_dec); focus exact rfl) | ((with_reducible apply exGq_dec); focus exact rfl) | with_reducible apply exIf_intro | ((with_reducible apply exGd_intro); focus exact rfl) | ((with_reducible apply exGq_intro); focus exact rfl)) <;> intro _))
  all_goals first | (exfalso; omega) | skip
  refine exL_mod (fun a : Int × Int => [(14, .v (iv a.1)), (15, .v (iv a.2))]) (fun _ => []) (fun a => x ≤ a.1 ∧ a.1 ≤ a.2 ∧ a.2 ≤ m ∧ (a.1 = x ∨ v.pri ≤ (gi L (a.1 - 1)).pri) ∧ (a.2 = m ∨ (gi L a.2).pri < v.pri)) (fun a => (a.2 - a.1).toNat) (x, m) rfl ⟨by simp, by dsimp only; omega, by simp, by simp, by simp⟩ ?_
  rintro ⟨i, j⟩ ⟨h1, h2, h3, h4, h5⟩ ih
  dsimp only at h1 h2 h3 h4 h5 ih
  simp only [S.up, S.upH, ups, Abs.put, Nat.reduceEqDiff, ↓reduceIte, Nat.reduceAdd] at ih
  unfold rrow at hr
  simp -implicitDefEqProofs only [congrArg KI.code sc_slices_symMergeCmpFunc_api_Rule_L2.eq_1, go_sem, Nat.reduceEqDiff, Nat.reduceAdd, Nat.reduceMul, Nat.reduceLeDiff, Nat.reduceSub, Nat.reduceLT, Nat.reduceBEq, Int.reduceToNat, reduceCtorEq, ↓reduceIte, Int.reduceEq, Int.reduceNeg, Int.reduceLT, Int.reduceLE, Int.reduceAdd, Int.reduceSub, Int.reduceMul]
  by_cases hij : i < j
  · have hc := cmpR_c (gi L m) (gi L ((i + j) / 2))
    simp only [Rule.av, Rule.cells_eq, sl] at hc
    have hmid := mid_i64 (x := i + j) (by omega) (by omega)
    obtain ⟨h, hh⟩ : ∃ h, h = (i + j) / 2 := ⟨_, rfl⟩
    rw [← hh] at hc hmid
    have hb1 : i ≤ h ∧ h < j := by omega
    by_cases hcm : (gi L h).pri < (gi L m).pri
    · have hcn := (cmpI_neg (gi L h).pri (gi L m).pri).2 hcm
      rw [hL0] at hcm
      have nxt := ih (i, h) ⟨by dsimp only; omega, by dsimp only; omega, by dsimp only; omega, h4, .inr hcm⟩ (by dsimp only; omega)
      clear ih
      repeat' (first | simp -implicitDefEqProofs only [go_sem, Nat.reduceEqDiff, Nat.reduceAdd, Nat.reduceMul, Nat.reduceLeDiff, Nat.reduceSub, Nat.reduceLT, Nat.reduceBEq, Int.reduceToNat, reduceCtorEq, ↓reduceIte, Int.reduceEq, Int.reduceNeg, Int.reduceLT, Int.reduceLE, Int.reduceAdd, Int.reduceSub, Int.reduceMul] | simp -implicitDefEqProofs (disch := omega) only [ishr_u64, hmid, hr, rd_rule, Rule.av, Rule.cells_eq, sl, rrow_length, iaq_vec, iao_arr, iaq_raw, rd_map, wrap_id, binq_quo, binq_rem, binq_shl, binq_shr, tdiv_pos, tmod_pos, if_pos, exV_some, Option.map_some] | ((first | with_reducible apply exIf_dec | ((with_reducible apply exGd_dec); focus exact rfl) | ((with_reducible apply exGq_dec); focus exact rfl) | with_reducible apply exIf_intro | ((with_reducible apply exGd_intro); focus exact rfl) | ((with_reducible apply exGq_intro); focus exact rfl)) <;> intro _) | with_reducible refine exC_pure (hc _) ?_ | with_reducible refine exCq_pure (hc _) ?_)
      all_goals first | exact nxt | (exfalso; omega) | skip
      all_goals (simp only [hcn] at *; done)
    · have hcn : ¬ cmpI (gi L h).pri (gi L m).pri < 0 := fun e => hcm ((cmpI_neg (gi L h).pri (gi L m).pri).1 e)
      rw [hL0] at hcm
      have nxt := ih (h + 1, j) ⟨by dsimp only; omega, by dsimp only; omega, by dsimp only; omega, by dsimp only; rw [show h + 1 - 1 = h by omega]; exact .inr (by omega), h5⟩ (by dsimp only; omega)
      clear ih
      repeat' (first | simp -implicitDefEqProofs only [go_sem, Nat.reduceEqDiff, Nat.reduceAdd, Nat.reduceMul, Nat.reduceLeDiff, Nat.reduceSub, Nat.reduceLT, Nat.reduceBEq, Int.reduceToNat, reduceCtorEq, ↓reduceIte, Int.reduceEq, Int.reduceNeg, Int.reduceLT, Int.reduceLE, Int.reduceAdd, Int.reduceSub, Int.reduceMul] | simp -implicitDefEqProofs (disch := omega) only [ishr_u64, hmid, hr, rd_rule, Rule.av, Rule.cells_eq, sl, rrow_length, iaq_vec, iao_arr, iaq_raw, rd_map, wrap_id, binq_quo, binq_rem, binq_shl, binq_shr, tdiv_pos, tmod_pos, if_pos, exV_some, Option.map_some] | ((first | with_reducible apply exIf_dec | ((with_reducible apply exGd_dec); focus exact rfl) | ((with_reducible apply exGq_dec); focus exact rfl) | with_reducible apply exIf_intro | ((with_reducible apply exGd_intro); focus exact rfl) | ((with_reducible apply exGq_intro); focus exact rfl)) <;> intro _) | with_reducible refine exC_pure (hc _) ?_ | with_reducible refine exCq_pure (hc _) ?_)
      all_goals first | exact nxt | (exfalso; omega) | skip
      done
  obtain rfl : i = j := by omega
  clear ih
  obtain ⟨t, ht⟩ : ∃ t : Nat, i = x + t := ⟨(i - x).toNat, by omega⟩
  have htR : t ≤ R.length := by omega
  have q1 : t = 0 ∨ v.pri ≤ (gi R (t - 1)).pri := by
    rcases h4 with e | e
    · exact .inl (by omega)
    · by_cases t0 : t = 0
      · exact .inl t0
      · have := hLR (t - 1) (by omega)
        rw [show x + ((t - 1 : Nat) : Int) = i - 1 by omega] at this
        rw [this] at e
        exact .inr (by rw [show ((t : Int) - 1) = ((t - 1 : Nat) : Int) by omega]; omega)
  have q2 : t = R.length ∨ (gi R t).pri ≤ v.pri - 1 := by
    by_cases t0 : t = R.length
    · exact .inl t0
    · rcases h5 with e | e
      · omega
      · have := hLR t (by omega)
        rw [show x + (t : Int) = i by omega] at this
        rw [this] at e
        exact .inr (by omega)
  have d1 := (desc_split hR t v.pri q1 (q2.imp id fun h => by omega) htR).1
  have d2 := (desc_split hR t (v.pri - 1) (q1.imp id fun h => by omega) q2 htR).2
  have hsp := (List.take_append_drop t R).symm
  have hl1 : (R.take t).length = t := by rw [List.length_take]; omega
  obtain ⟨R1, hR1⟩ : ∃ R1, R1 = R.take t := ⟨_, rfl⟩
  obtain ⟨R2, hR2⟩ : ∃ R2, R2 = R.drop t := ⟨_, rfl⟩
  rw [← hR1] at d1 hsp hl1
  rw [← hR2] at d2 hsp
  have hRl : R.length = R1.length + R2.length := by rw [hsp, List.length_append]
  clear hR1 hR2
  have hdR := desc_append.1 (hsp ▸ hR)
  have fin : desc (R1 ++ v :: R2) ∧ keepF (R1 ++ v :: R2) (R ++ [v]) := by
    refine ⟨desc_append.2 ⟨hdR.1, List.pairwise_cons.2 ⟨fun a ha => by have := d2 a ha; omega, hdR.2.1⟩, fun a ha c hc => ?_⟩, ?_⟩
    · rcases List.mem_cons.1 hc with e | hc
      · rw [e]; exact d1 a ha
      · exact hdR.2.2 a ha c hc
    · have h1 : keepF ([v] ++ R2) (R2 ++ [v]) := keepF.swap fun a ha c hc => by
        rw [List.mem_singleton.1 ha]
        have := d2 c hc
        omega
      have := (keepF.refl R1).append h1
      rw [hsp]
      simpa using this
  repeat' (first | simp -implicitDefEqProofs only [go_sem, Nat.reduceEqDiff, Nat.reduceAdd, Nat.reduceMul, Nat.reduceLeDiff, Nat.reduceSub, Nat.reduceLT, Nat.reduceBEq, Int.reduceToNat, reduceCtorEq, ↓reduceIte, Int.reduceEq, Int.reduceNeg, Int.reduceLT, Int.reduceLE, Int.reduceAdd, Int.reduceSub, Int.reduceMul] | simp -implicitDefEqProofs (disch := omega) only [iaq_vec, iao_arr, iaq_raw, rd_map, wrap_id, binq_quo, binq_rem, binq_shl, binq_shr, tdiv_pos, tmod_pos, if_pos, exV_some, Option.map_some] | ((first | with_reducible apply exIf_dec | ((with_reducible apply exGd_dec); focus exact rfl) | ((with_reducible apply exGq_dec); focus exact rfl) | with_reducible apply exIf_intro | ((with_reducible apply exGd_intro); focus exact rfl) | ((with_reducible apply exGq_intro); focus exact rfl)) <;> intro _))
  all_goals first | (exfalso; omega) | skip
  refine exL_modH (fun a : Int × List Rule × List Rule => [(17, .v (iv a.1))]) (fun _ => []) (fun a => upd H b (some (rrow (P ++ ((R1 ++ (a.2.1 ++ v :: a.2.2)) ++ Z)) ex cap')))
    (fun a => R2 = a.2.1 ++ a.2.2 ∧ a.1 = x + R1.length + a.2.1.length) (fun a => a.2.1.length) (m, R2, []) (by
      have : P ++ ((R1 ++ (R2 ++ v :: [])) ++ Z) = L := by rw [hLd, hsp]; simp
      rw [this, rrow, upd_same hr]; rfl) ⟨by simp, by dsimp only; omega⟩ ?_
  rintro ⟨k, A, B⟩ ⟨g1, g2⟩ ih
  dsimp only at g1 g2 ih
  subst g1
  rw [List.length_append] at hRl
  simp only [S.up, S.upH, ups, Abs.put, Nat.reduceEqDiff, ↓reduceIte, Nat.reduceAdd] at ih
  simp -implicitDefEqProofs only [congrArg KI.code sc_slices_symMergeCmpFunc_api_Rule_L1.eq_1, go_sem, Nat.reduceEqDiff, Nat.reduceAdd, Nat.reduceMul, Nat.reduceLeDiff, Nat.reduceSub, Nat.reduceLT, Nat.reduceBEq, Int.reduceToNat, reduceCtorEq, ↓reduceIte, Int.reduceEq, Int.reduceNeg, Int.reduceLT, Int.reduceLE, Int.reduceAdd, Int.reduceSub, Int.reduceMul]
  rcases List.eq_nil_or_concat A with rfl | ⟨A, u, rfl⟩
  · clear ih
    simp only [List.length_nil, List.nil_append] at g2 fin hRl
    repeat' (first | simp -implicitDefEqProofs only [go_sem, Nat.reduceEqDiff, Nat.reduceAdd, Nat.reduceMul, Nat.reduceLeDiff, Nat.reduceSub, Nat.reduceLT, Nat.reduceBEq, Int.reduceToNat, reduceCtorEq, ↓reduceIte, Int.reduceEq, Int.reduceNeg, Int.reduceLT, Int.reduceLE, Int.reduceAdd, Int.reduceSub, Int.reduceMul] | simp -implicitDefEqProofs (disch := omega) only [iaq_vec, iao_arr, iaq_raw, rd_map, wrap_id, binq_quo, binq_rem, binq_shl, binq_shr, tdiv_pos, tmod_pos, if_pos, exV_some, Option.map_some] | ((first | with_reducible apply exIf_dec | ((with_reducible apply exGd_dec); focus exact rfl) | ((with_reducible apply exGq_dec); focus exact rfl) | with_reducible apply exIf_intro | ((with_reducible apply exGd_intro); focus exact rfl) | ((with_reducible apply exGq_intro); focus exact rfl)) <;> intro _))
    all_goals first | exact ⟨R1 ++ v :: B, by simp; omega, fin.1, fin.2, by simp⟩ | (exfalso; omega) | skip
    done
  · simp only [List.concat_eq_append] at *
    rw [List.length_append, List.length_singleton] at hRl g2
    obtain ⟨M, hMd⟩ : ∃ M, M = P ++ ((R1 ++ ((A ++ [u]) ++ v :: B)) ++ Z) := ⟨_, rfl⟩
    have hM : M = (P ++ R1 ++ A) ++ u :: v :: (B ++ Z) := by rw [hMd]; simp
    have hMl : n = M.length := by rw [hM, hlen, hRl]; simp; omega
    have e1 : gi M (k - 1) = u := by rw [hM]; exact gi_mid (P ++ R1 ++ A) u _ (by simp; omega)
    have e2 : gi M k = v := by
      have := gi_mid (P ++ R1 ++ A ++ [u]) v (B ++ Z) (i := k) (by simp; omega)
      rw [hM]; simpa using this
    have kn : k < n := by rw [hMl, hM]; simp; omega
    rw [← hMd]
    have s1 := rrow_set (l := M) (ex := ex) (i := k) (by omega) (by omega) (gi M (k - 1))
    have s2 := rrow_set (l := M.set k.toNat (gi M (k - 1))) (ex := ex) (i := k - 1) (by omega) (by rw [List.length_set]; omega) (gi M k)
    rw [Rule.cells_eq] at s1 s2
    simp only [sl] at s1 s2
    have eM : (M.set k.toNat (gi M (k - 1))).set (k - 1).toNat (gi M k) = P ++ ((R1 ++ (A ++ v :: (u :: B))) ++ Z) := by
      rw [e1, e2, hM]
      have t1 := set_mid (P ++ R1 ++ A ++ [u]) v u (B ++ Z)
      have t2 := set_mid (P ++ R1 ++ A) u v (u :: (B ++ Z))
      rw [show k.toNat = (P ++ R1 ++ A ++ [u]).length by simp; omega, show (k - 1).toNat = (P ++ R1 ++ A).length by simp; omega, show P ++ R1 ++ A ++ u :: v :: (B ++ Z) = (P ++ R1 ++ A ++ [u]) ++ v :: (B ++ Z) by simp, t1, show (P ++ R1 ++ A ++ [u]) ++ u :: (B ++ Z) = (P ++ R1 ++ A) ++ u :: u :: (B ++ Z) by simp, t2]
      simp
    have nxt := ih (k - 1, A, u :: B) ⟨by simp, by dsimp only; omega⟩ (by simp)
    dsimp only at nxt
    rw [← eM] at nxt
    unfold rrow at nxt
    clear ih
    repeat' (first | simp -implicitDefEqProofs only [go_sem, Nat.reduceEqDiff, Nat.reduceAdd, Nat.reduceMul, Nat.reduceLeDiff, Nat.reduceSub, Nat.reduceLT, Nat.reduceBEq, Int.reduceToNat, reduceCtorEq, ↓reduceIte, Int.reduceEq, Int.reduceNeg, Int.reduceLT, Int.reduceLE, Int.reduceAdd, Int.reduceSub, Int.reduceMul] | simp -implicitDefEqProofs (disch := omega) only [rrow, rd_rule, Rule.av, Rule.cells_eq, sl, rrow_length, s1, s2, List.length_set, upd_upd', iaq_vec, iao_arr, iaq_raw, rd_map, wrap_id, binq_quo, binq_rem, binq_shl, binq_shr, tdiv_pos, tmod_pos, if_pos, exV_some, Option.map_some] | ((first | with_reducible apply exIf_dec | ((with_reducible apply exGd_dec); focus exact rfl) | ((with_reducible apply exGq_dec); focus exact rfl) | with_reducible apply exIf_intro | ((with_reducible apply exGd_intro); focus exact rfl) | ((with_reducible apply exGq_intro); focus exact rfl)) <;> intro _))
    all_goals first | exact nxt | (exfalso; omega) | skip
    done
end Go.Proofs.Ytgahnhiidhkjaaa
end

section
/- The library's merge of sorted rules in place, whole. -/
namespace Go.Proofs.Ytgahnhiidhkjaaa
open Go Abs
attribute [local irreducible] EX exL exG exC exCq exS exV exIf exGd exGq
set_option maxHeartbeats 4000000

/-- one list behind the other, none of the second is to stand ahead -/
theorem merge_fin {L1 L2 R1 R2 T1 T2 : List Rule} (hL : desc (L1 ++ L2)) (hR : desc (R1 ++ R2)) (h1 : ∀ a ∈ L1, ∀ c ∈ R2, c.pri ≤ a.pri) (h2 : ∀ a ∈ L2, ∀ c ∈ R1, a.pri < c.pri)
    (d1 : desc T1) (d2 : desc T2) (k1 : keepF T1 (L1 ++ R1)) (k2 : keepF T2 (L2 ++ R2)) : desc (T1 ++ T2) ∧ keepF (T1 ++ T2) ((L1 ++ L2) ++ (R1 ++ R2)) := by
  have hL' := desc_append.1 hL
  have hR' := desc_append.1 hR
  refine ⟨desc_append.2 ⟨d1, d2, fun a ha c hc => ?_⟩, ?_⟩
  · rcases List.mem_append.1 (k1.mem ha) with ha | ha <;> rcases List.mem_append.1 (k2.mem hc) with hc | hc
    · exact hL'.2.2 a ha c hc
    · exact h1 a ha c hc
    · exact Int.le_of_lt (h2 c hc a ha)
    · exact hR'.2.2 a ha c hc
  · have hs : keepF (R1 ++ L2) (L2 ++ R1) := keepF.swap fun a ha c hc => by have := h2 c hc a ha; omega
    have := ((keepF.refl L1).append hs).append (keepF.refl R2)
    refine (k1.append k2).trans ?_
    simpa using this
theorem last_le {L : List Rule} (h : desc L) {k : Nat} (hk : k + 1 = L.length) {a : Rule} (ha : a ∈ L) : (gi L k).pri ≤ a.pri := by
  have hh := List.pairwise_iff_getElem.1 h
  obtain ⟨i, hi, e⟩ := List.getElem_of_mem ha
  rw [gi_get (by omega), ← e]
  by_cases e2 : i = k
  · subst e2; simp
  · simpa using hh i k (by omega) (by omega) (by omega)
theorem first_ge {L : List Rule} (h : desc L) {a : Rule} (ha : a ∈ L) : a.pri ≤ (gi L 0).pri := by
  have hh := List.pairwise_iff_getElem.1 h
  obtain ⟨i, hi, e⟩ := List.getElem_of_mem ha
  rw [gi_get (by show 0 < L.length; omega), ← e]
  by_cases e2 : i = 0
  · subst e2; simp
  · simpa using hh 0 i (by omega) (by omega) (by omega)
theorem symMerge_c (b n cap : Nat) (ex : List AV) (cap' : Nat) (hl : n ≤ 1000000) : ∀ (w : Nat) (H : AHeap) (P L R Z : List Rule), L.length + R.length ≤ w → n = (P ++ ((L ++ R) ++ Z)).length → H b = some (rrow (P ++ ((L ++ R) ++ Z)) ex cap') → desc L → desc R → L ≠ [] → R ≠ [] →
    ∀ {x m y : Int}, x = P.length → m = P.length + L.length → y = P.length + L.length + R.length →
    ACalls Try.prog 100 [dataV b n cap, iv x, iv m, iv y, cmpV] H fun r H' => r = .tup [] ∧ ∃ T : List Rule, T.length = L.length + R.length ∧ desc T ∧ keepF T (L ++ R) ∧ H' = upd H b (some (rrow (P ++ (T ++ Z)) ex cap')) := by
  intro w
  induction w with
  | zero =>
    intro H P L R Z hw hn hr hL hR hL0 hR0
    have := List.length_pos_iff.2 hL0
    omega
  | succ w IH =>
  intro H P L R Z hw hn hr hL hR hL0 hR0 x m y hx hm hy
  have hL1 := List.length_pos_iff.2 hL0
  have hR1 := List.length_pos_iff.2 hR0
  have hlen : n = P.length + (L.length + R.length) + Z.length := by rw [hn]; simp; omega
  by_cases c1 : L.length = 1
  · obtain ⟨u, rfl⟩ := List.length_eq_one_iff.1 c1
    have := merge1_c H b n cap P u R Z ex cap' hn hl hr hR hx (by simpa using hm) (by simpa using hy)
    simpa using this
  by_cases c2 : R.length = 1
  · obtain ⟨v, rfl⟩ := List.length_eq_one_iff.1 c2
    exact merge2_c H b n cap P v L Z ex cap' hn hl hr hL c1 hx hm hy
  obtain ⟨D, hDd⟩ : ∃ D, D = P ++ ((L ++ R) ++ Z) := ⟨_, rfl⟩
  have hDl : n = D.length := by rw [hn, hDd]
  have gL : ∀ k : Nat, k < L.length → gi D (x + k) = gi L k := fun k hk => by
    rw [hDd, gi_app P (k := k) (by omega), List.append_assoc, gi_left hk]
  have gR : ∀ k : Nat, k < R.length → gi D (m + k) = gi R k := fun k hk => by
    rw [hDd, gi_app P (k := L.length + k) (by omega), List.append_assoc, gi_app L (k := k) (by omega), gi_left hk]
  have hmid := mid_i64 (x := x + y) (by omega) (by omega)
  obtain ⟨q, hq⟩ : ∃ q, q = (x + y) / 2 := ⟨_, rfl⟩
  rw [← hq] at hmid
  have hr2 := hr
  rw [← hDd] at hr2
  unfold rrow at hr2
  refine ACalls.of_code fn_slices_symMergeCmpFunc_api_Rule ?_
  simp -implicitDefEqProofs only [sc_slices_symMergeCmpFunc_api_Rule, go_sem, Nat.reduceEqDiff, Nat.reduceAdd, Nat.reduceMul, Nat.reduceLeDiff, Nat.reduceSub, Nat.reduceLT, Nat.reduceBEq, Int.reduceToNat, reduceCtorEq, ↓reduceIte, Int.reduceEq, Int.reduceNeg, Int.reduceLT, Int.reduceLE, Int.reduceAdd, Int.reduceSub, Int.reduceMul]
  repeat' (first | simp -implicitDefEqProofs only [go_sem, Nat.reduceEqDiff, Nat.reduceAdd, Nat.reduceMul, Nat.reduceLeDiff, Nat.reduceSub, Nat.reduceLT, Nat.reduceBEq, Int.reduceToNat, reduceCtorEq, ↓reduceIte, Int.reduceEq, Int.reduceNeg, Int.reduceLT, Int.reduceLE, Int.reduceAdd, Int.reduceSub, Int.reduceMul] | simp -implicitDefEqProofs (disch := omega) only [ishr_u64, hmid, iaq_vec, iao_arr, iaq_raw, rd_map, wrap_id, binq_quo, binq_rem, binq_shl, binq_shr, tdiv_pos, tmod_pos, if_pos, exV_some, Option.map_some] | ((first | with_reducible apply exIf_dec | ((with_reducible apply exGd_dec); focus exact rfl) | ((with_reducible apply exGq_dec); focus exact rfl) | with_reducible apply exIf_intro | ((with_reducible apply exGd_intro); focus exact rfl) | ((with_reducible apply exGq_intro); focus exact rfl)) <;> intro _))
  all_goals first | (exfalso; omega) | skip
  all_goals
    first
    | refine exL_mod (fun a : Int × Int => [(20, .v (iv a.1)), (21, .v (iv a.2))]) (fun _ => []) (fun a => x ≤ a.1 ∧ a.1 ≤ a.2 ∧ a.2 ≤ m ∧ a.2 ≤ q ∧ q + m - a.1 ≤ y ∧ (a.1 = x ∨ q + m - a.1 = y ∨ (gi D (q + m - a.1)).pri ≤ (gi D (a.1 - 1)).pri) ∧ (a.2 = m ∨ a.2 = q ∨ (gi D a.2).pri < (gi D (q + m - 1 - a.2)).pri)) (fun a => (a.2 - a.1).toNat) (q + m - y, q) rfl ⟨by dsimp only; omega, by dsimp only; omega, by dsimp only; omega, by dsimp only; omega, by dsimp only; omega, by dsimp only; exact .inr (.inl (by omega)), by dsimp only; exact .inr (.inl rfl)⟩ ?_
    | refine exL_mod (fun a : Int × Int => [(20, .v (iv a.1)), (21, .v (iv a.2))]) (fun _ => []) (fun a => x ≤ a.1 ∧ a.1 ≤ a.2 ∧ a.2 ≤ m ∧ a.2 ≤ q ∧ q + m - a.1 ≤ y ∧ (a.1 = x ∨ q + m - a.1 = y ∨ (gi D (q + m - a.1)).pri ≤ (gi D (a.1 - 1)).pri) ∧ (a.2 = m ∨ a.2 = q ∨ (gi D a.2).pri < (gi D (q + m - 1 - a.2)).pri)) (fun a => (a.2 - a.1).toNat) (x, m) rfl ⟨by dsimp only; omega, by dsimp only; omega, by dsimp only; omega, by dsimp only; omega, by dsimp only; omega, by dsimp only; exact .inl rfl, by dsimp only; exact .inl rfl⟩ ?_
  all_goals
    rintro ⟨s, r⟩ ⟨h1, h2, h3, h4, h5, h6, h7⟩ ih
    dsimp only at h1 h2 h3 h4 h5 h6 h7 ih
    simp only [S.up, S.upH, ups, Abs.put, Nat.reduceEqDiff, ↓reduceIte, Nat.reduceAdd] at ih
    simp -implicitDefEqProofs only [congrArg KI.code sc_slices_symMergeCmpFunc_api_Rule_L0.eq_1, go_sem, Nat.reduceEqDiff, Nat.reduceAdd, Nat.reduceMul, Nat.reduceLeDiff, Nat.reduceSub, Nat.reduceLT, Nat.reduceBEq, Int.reduceToNat, reduceCtorEq, ↓reduceIte, Int.reduceEq, Int.reduceNeg, Int.reduceLT, Int.reduceLE, Int.reduceAdd, Int.reduceSub, Int.reduceMul]
    by_cases hij : s < r
    · have hmid2 := mid_i64 (x := s + r) (by omega) (by omega)
      obtain ⟨h, hh⟩ : ∃ h, h = (s + r) / 2 := ⟨_, rfl⟩
      rw [← hh] at hmid2
      have hb1 : s ≤ h ∧ h < r := by omega
      have hc := cmpR_c (gi D (q + m - 1 - h)) (gi D h)
      simp only [Rule.av, Rule.cells_eq, sl] at hc
      by_cases hcm : (gi D h).pri < (gi D (q + m - 1 - h)).pri
      · have hcn := (cmpI_neg (gi D h).pri (gi D (q + m - 1 - h)).pri).2 hcm
        have nxt := ih (s, h) ⟨h1, by dsimp only; omega, by dsimp only; omega, by dsimp only; omega, h5, h6, .inr (.inr hcm)⟩ (by dsimp only; omega)
        clear ih
        repeat' (first | simp -implicitDefEqProofs only [go_sem, Nat.reduceEqDiff, Nat.reduceAdd, Nat.reduceMul, Nat.reduceLeDiff, Nat.reduceSub, Nat.reduceLT, Nat.reduceBEq, Int.reduceToNat, reduceCtorEq, ↓reduceIte, Int.reduceEq, Int.reduceNeg, Int.reduceLT, Int.reduceLE, Int.reduceAdd, Int.reduceSub, Int.reduceMul] | simp -implicitDefEqProofs (disch := omega) only [ishr_u64, hmid2, hr2, rd_rule, Rule.av, Rule.cells_eq, sl, rrow_length, iaq_vec, iao_arr, iaq_raw, rd_map, wrap_id, binq_quo, binq_rem, binq_shl, binq_shr, tdiv_pos, tmod_pos, if_pos, exV_some, Option.map_some] | ((first | with_reducible apply exIf_dec | ((with_reducible apply exGd_dec); focus exact rfl) | ((with_reducible apply exGq_dec); focus exact rfl) | with_reducible apply exIf_intro | ((with_reducible apply exGd_intro); focus exact rfl) | ((with_reducible apply exGq_intro); focus exact rfl)) <;> intro _) | with_reducible refine exC_pure (hc _) ?_ | with_reducible refine exCq_pure (hc _) ?_)
        all_goals first | exact nxt | (exfalso; omega) | skip
        done
      · have hcn : ¬ cmpI (gi D h).pri (gi D (q + m - 1 - h)).pri < 0 := fun e => hcm ((cmpI_neg (gi D h).pri (gi D (q + m - 1 - h)).pri).1 e)
        have nxt := ih (h + 1, r) ⟨by dsimp only; omega, by dsimp only; omega, h3, h4, by dsimp only; omega, by dsimp only; rw [show h + 1 - 1 = h by omega, show q + m - (h + 1) = q + m - 1 - h by omega]; exact .inr (.inr (by omega)), h7⟩ (by dsimp only; omega)
        clear ih
        repeat' (first | simp -implicitDefEqProofs only [go_sem, Nat.reduceEqDiff, Nat.reduceAdd, Nat.reduceMul, Nat.reduceLeDiff, Nat.reduceSub, Nat.reduceLT, Nat.reduceBEq, Int.reduceToNat, reduceCtorEq, ↓reduceIte, Int.reduceEq, Int.reduceNeg, Int.reduceLT, Int.reduceLE, Int.reduceAdd, Int.reduceSub, Int.reduceMul] | simp -implicitDefEqProofs (disch := omega) only [ishr_u64, hmid2, hr2, rd_rule, Rule.av, Rule.cells_eq, sl, rrow_length, iaq_vec, iao_arr, iaq_raw, rd_map, wrap_id, binq_quo, binq_rem, binq_shl, binq_shr, tdiv_pos, tmod_pos, if_pos, exV_some, Option.map_some] | ((first | with_reducible apply exIf_dec | ((with_reducible apply exGd_dec); focus exact rfl) | ((with_reducible apply exGq_dec); focus exact rfl) | with_reducible apply exIf_intro | ((with_reducible apply exGd_intro); focus exact rfl) | ((with_reducible apply exGq_intro); focus exact rfl)) <;> intro _) | with_reducible refine exC_pure (hc _) ?_ | with_reducible refine exCq_pure (hc _) ?_)
        all_goals first | exact nxt | (exfalso; omega) | skip
        done
    obtain rfl : s = r := by omega
    clear ih hr2
    obtain ⟨e, he⟩ : ∃ e, e = q + m - s := ⟨_, rfl⟩
    rw [← he] at h5 h6
    obtain ⟨L1, L2, rfl, kL1⟩ : ∃ L1 L2, L = L1 ++ L2 ∧ (L1.length : Int) = s - x := ⟨L.take (s - x).toNat, L.drop (s - x).toNat, (List.take_append_drop _ _).symm, by rw [List.length_take]; omega⟩
    obtain ⟨R1, R2, rfl, kR1⟩ : ∃ R1 R2, R = R1 ++ R2 ∧ (R1.length : Int) = e - m := ⟨R.take (e - m).toNat, R.drop (e - m).toNat, (List.take_append_drop _ _).symm, by rw [List.length_take]; omega⟩
    rw [List.length_append] at hm hy hw hlen c1 c2 hL1 hR1
    rw [List.length_append] at hy hw hlen
    have kL2 : (L2.length : Int) = m - s := by omega
    have kR2 : (R2.length : Int) = y - e := by omega
    rw [List.length_append] at gL gR
    have hx1 : ∀ a ∈ L1, ∀ c ∈ R2, c.pri ≤ a.pri := fun a ha c hc => by
      have p1 := List.length_pos_of_mem ha
      have p2 := List.length_pos_of_mem hc
      have f1 := last_le (desc_append.1 hL).1 (k := L1.length - 1) (by omega) ha
      have f2 := first_ge (desc_append.1 hR).2.1 hc
      have f3 := gL (L1.length - 1) (by omega)
      rw [gi_left (by omega)] at f3
      have f4 := gR R1.length (by omega)
      rw [gi_app R1 (k := 0) (by omega)] at f4
      rw [show x + ((L1.length - 1 : Nat) : Int) = s - 1 by omega] at f3
      rw [show m + (R1.length : Int) = e by omega] at f4
      rw [f3, f4] at h6
      have h6' : (gi R2 (0 : Int)).pri ≤ (gi L1 ((L1.length - 1 : Nat) : Int)).pri := by
        rcases h6 with h6 | h6 | h6
        · omega
        · omega
        · exact h6
      omega
    have hx2 : ∀ a ∈ L2, ∀ c ∈ R1, a.pri < c.pri := fun a ha c hc => by
      have p1 := List.length_pos_of_mem ha
      have p2 := List.length_pos_of_mem hc
      have f1 := first_ge (desc_append.1 hL).2.1 ha
      have f2 := last_le (desc_append.1 hR).1 (k := R1.length - 1) (by omega) hc
      have f3 := gL L1.length (by omega)
      rw [gi_app L1 (k := 0) (by omega)] at f3
      have f4 := gR (R1.length - 1) (by omega)
      rw [gi_left (by omega)] at f4
      rw [show x + (L1.length : Int) = s by omega] at f3
      rw [show m + ((R1.length - 1 : Nat) : Int) = q + m - 1 - s by omega] at f4
      rw [f3, f4] at h7
      have h7' : (gi L2 (0 : Int)).pri < (gi R1 ((R1.length - 1 : Nat) : Int)).pri := by
        rcases h7 with h7 | h7 | h7
        · omega
        · omega
        · exact h7
      omega
    clear gL gR h6 h7
    subst he
    by_cases crot : s < m ∧ m < (q + m - s)
    · have rot := rotate_c H b n cap (P ++ L1) L2 R1 (R2 ++ Z) ex cap' (by rw [hn]; simp) hl (by rw [hr]; simp) (fun hh => by rw [hh] at kL2; simp at kL2; omega) (fun hh => by rw [hh] at kR1; simp at kR1; omega) (x := s) (m := m) (y := (q + m - s)) (by simp; omega) (by simp; omega) (by simp; omega) cmpV
      repeat' (first | simp -implicitDefEqProofs only [go_sem, Nat.reduceEqDiff, Nat.reduceAdd, Nat.reduceMul, Nat.reduceLeDiff, Nat.reduceSub, Nat.reduceLT, Nat.reduceBEq, Int.reduceToNat, reduceCtorEq, ↓reduceIte, Int.reduceEq, Int.reduceNeg, Int.reduceLT, Int.reduceLE, Int.reduceAdd, Int.reduceSub, Int.reduceMul] | simp -implicitDefEqProofs (disch := omega) only [iaq_vec, iao_arr, iaq_raw, rd_map, wrap_id, binq_quo, binq_rem, binq_shl, binq_shr, tdiv_pos, tmod_pos, if_pos, exV_some, Option.map_some] | ((first | with_reducible apply exIf_dec | ((with_reducible apply exGd_dec); focus exact rfl) | ((with_reducible apply exGq_dec); focus exact rfl) | with_reducible apply exIf_intro | ((with_reducible apply exGd_intro); focus exact rfl) | ((with_reducible apply exGq_intro); focus exact rfl)) <;> intro _))
      all_goals first | (exfalso; omega) | skip
      refine exC_upd rot ?_
      obtain ⟨Hc, hHc⟩ : ∃ Hc, Hc = upd H b (some (rrow (P ++ L1 ++ (R1 ++ (L2 ++ (R2 ++ Z)))) ex cap')) := ⟨_, rfl⟩
      have hc1 : Hc b = some (rrow (P ++ ((L1 ++ R1) ++ ((L2 ++ R2) ++ Z))) ex cap') := by
        rw [hHc, upd_self]; simp
      have hc2 : ∀ o, upd Hc b o = upd H b o := fun o => by rw [hHc, upd_upd']
      rw [← hHc]
      have hrow1 : Hc b = some (rrow (P ++ ((L1 ++ R1) ++ ((L2 ++ R2) ++ Z))) ex cap') := hc1
      have hn1 : n = (P ++ ((L1 ++ R1) ++ ((L2 ++ R2) ++ Z))).length := by rw [hlen]; simp at *; omega
      by_cases cA : x < s ∧ s < q
      · have A := IH Hc P L1 R1 ((L2 ++ R2) ++ Z) (by omega) hn1 hrow1 (desc_append.1 hL).1 (desc_append.1 hR).1 (fun hh => by rw [hh] at kL1; simp at kL1; omega) (fun hh => by rw [hh] at kR1; simp at kR1; omega) (x := x) (m := s) (y := q) hx (by omega) (by omega)
        repeat' (first | simp -implicitDefEqProofs only [go_sem, Nat.reduceEqDiff, Nat.reduceAdd, Nat.reduceMul, Nat.reduceLeDiff, Nat.reduceSub, Nat.reduceLT, Nat.reduceBEq, Int.reduceToNat, reduceCtorEq, ↓reduceIte, Int.reduceEq, Int.reduceNeg, Int.reduceLT, Int.reduceLE, Int.reduceAdd, Int.reduceSub, Int.reduceMul] | simp -implicitDefEqProofs (disch := omega) only [iaq_vec, iao_arr, iaq_raw, rd_map, wrap_id, binq_quo, binq_rem, binq_shl, binq_shr, tdiv_pos, tmod_pos, if_pos, exV_some, Option.map_some] | ((first | with_reducible apply exIf_dec | ((with_reducible apply exGd_dec); focus exact rfl) | ((with_reducible apply exGq_dec); focus exact rfl) | with_reducible apply exIf_intro | ((with_reducible apply exGd_intro); focus exact rfl) | ((with_reducible apply exGq_intro); focus exact rfl)) <;> intro _))
        all_goals first | (exfalso; omega) | skip
        all_goals
          refine exC_intro A ?_
          rintro _ _ ⟨rfl, T1, t1, t2, t3, rfl⟩
          obtain ⟨Hd, hHd⟩ : ∃ Hd, Hd = upd Hc b (some (rrow (P ++ (T1 ++ ((L2 ++ R2) ++ Z))) ex cap')) := ⟨_, rfl⟩
          have hd1 : Hd b = some (rrow (P ++ (T1 ++ ((L2 ++ R2) ++ Z))) ex cap') := by rw [hHd]; exact upd_self _ _ _
          have hd2 : ∀ o, upd Hd b o = upd H b o := fun o => by rw [hHd, upd_upd', hc2]
          rw [← hHd]
          have hrow2 : Hd b = some (rrow ((P ++ T1) ++ ((L2 ++ R2) ++ Z)) ex cap') := by rw [List.append_assoc]; exact hd1
          have hn2 : n = ((P ++ T1) ++ ((L2 ++ R2) ++ Z)).length := by rw [hlen]; simp at *; omega
          by_cases cB : q < (q + m - s) ∧ (q + m - s) < y
          · have B := IH Hd (P ++ T1) L2 R2 Z (by omega) hn2 hrow2 (desc_append.1 hL).2.1 (desc_append.1 hR).2.1 (fun hh => by rw [hh] at kL2; simp at kL2; omega) (fun hh => by rw [hh] at kR2; simp at kR2; omega) (x := q) (m := (q + m - s)) (y := y) (by simp; omega) (by simp; omega) (by simp; omega)
            repeat' (first | simp -implicitDefEqProofs only [go_sem, Nat.reduceEqDiff, Nat.reduceAdd, Nat.reduceMul, Nat.reduceLeDiff, Nat.reduceSub, Nat.reduceLT, Nat.reduceBEq, Int.reduceToNat, reduceCtorEq, ↓reduceIte, Int.reduceEq, Int.reduceNeg, Int.reduceLT, Int.reduceLE, Int.reduceAdd, Int.reduceSub, Int.reduceMul] | simp -implicitDefEqProofs (disch := omega) only [iaq_vec, iao_arr, iaq_raw, rd_map, wrap_id, binq_quo, binq_rem, binq_shl, binq_shr, tdiv_pos, tmod_pos, if_pos, exV_some, Option.map_some] | ((first | with_reducible apply exIf_dec | ((with_reducible apply exGd_dec); focus exact rfl) | ((with_reducible apply exGq_dec); focus exact rfl) | with_reducible apply exIf_intro | ((with_reducible apply exGd_intro); focus exact rfl) | ((with_reducible apply exGq_intro); focus exact rfl)) <;> intro _))
            all_goals first | (exfalso; omega) | skip
            all_goals
              refine exC_intro B ?_
              rintro _ _ ⟨rfl, T2, t1', t2', t3', rfl⟩
              have fin := merge_fin hL hR hx1 hx2 t2 t2' t3 t3'
              repeat' (first | simp -implicitDefEqProofs only [go_sem, Nat.reduceEqDiff, Nat.reduceAdd, Nat.reduceMul, Nat.reduceLeDiff, Nat.reduceSub, Nat.reduceLT, Nat.reduceBEq, Int.reduceToNat, reduceCtorEq, ↓reduceIte, Int.reduceEq, Int.reduceNeg, Int.reduceLT, Int.reduceLE, Int.reduceAdd, Int.reduceSub, Int.reduceMul] | simp -implicitDefEqProofs (disch := omega) only [iaq_vec, iao_arr, iaq_raw, rd_map, wrap_id, binq_quo, binq_rem, binq_shl, binq_shr, tdiv_pos, tmod_pos, if_pos, exV_some, Option.map_some] | ((first | with_reducible apply exIf_dec | ((with_reducible apply exGd_dec); focus exact rfl) | ((with_reducible apply exGq_dec); focus exact rfl) | with_reducible apply exIf_intro | ((with_reducible apply exGd_intro); focus exact rfl) | ((with_reducible apply exGq_intro); focus exact rfl)) <;> intro _))
              all_goals first | exact ⟨T1 ++ T2, by simp; omega, fin.1, fin.2, by rw [hd2]; simp⟩ | (exfalso; omega) | skip
              done
          · have hT2 : desc (L2 ++ R2) := by
              rcases (show L2 = [] ∨ R2 = [] by
                by_cases hh : L2 = []
                · exact .inl hh
                · have := List.length_pos_iff.2 hh
                  exact .inr (List.eq_nil_of_length_eq_zero (by omega))) with h1 | h1
              · rw [h1]; exact (desc_append.1 hR).2.1
              · rw [h1, List.append_nil]; exact (desc_append.1 hL).2.1
            have fin := merge_fin hL hR hx1 hx2 t2 hT2 t3 (.refl _)
            have hH : Hd = upd H b (some (rrow (P ++ ((T1 ++ (L2 ++ R2)) ++ Z)) ex cap')) := by rw [← hd2, List.append_assoc T1, upd_same hd1]
            repeat' (first | simp -implicitDefEqProofs only [go_sem, Nat.reduceEqDiff, Nat.reduceAdd, Nat.reduceMul, Nat.reduceLeDiff, Nat.reduceSub, Nat.reduceLT, Nat.reduceBEq, Int.reduceToNat, reduceCtorEq, ↓reduceIte, Int.reduceEq, Int.reduceNeg, Int.reduceLT, Int.reduceLE, Int.reduceAdd, Int.reduceSub, Int.reduceMul] | simp -implicitDefEqProofs (disch := omega) only [iaq_vec, iao_arr, iaq_raw, rd_map, wrap_id, binq_quo, binq_rem, binq_shl, binq_shr, tdiv_pos, tmod_pos, if_pos, exV_some, Option.map_some] | ((first | with_reducible apply exIf_dec | ((with_reducible apply exGd_dec); focus exact rfl) | ((with_reducible apply exGq_dec); focus exact rfl) | with_reducible apply exIf_intro | ((with_reducible apply exGd_intro); focus exact rfl) | ((with_reducible apply exGq_intro); focus exact rfl)) <;> intro _))
            all_goals first | exact ⟨T1 ++ (L2 ++ R2), by simp; omega, fin.1, fin.2, hH⟩ | (exfalso; omega) | skip
            done
      · obtain ⟨T1, hT1⟩ : ∃ T1, T1 = L1 ++ R1 := ⟨_, rfl⟩
        have t1 : T1.length = L1.length + R1.length := by rw [hT1]; simp
        have t2 : desc T1 := by
          rw [hT1]
          rcases (show L1 = [] ∨ R1 = [] by
            by_cases hh : L1 = []
            · exact .inl hh
            · have := List.length_pos_iff.2 hh
              exact .inr (List.eq_nil_of_length_eq_zero (by omega))) with h1 | h1
          · rw [h1]; exact (desc_append.1 hR).1
          · rw [h1, List.append_nil]; exact (desc_append.1 hL).1
        have t3 : keepF T1 (L1 ++ R1) := by rw [hT1]; exact .refl _
        have hd1 : Hc b = some (rrow (P ++ (T1 ++ ((L2 ++ R2) ++ Z))) ex cap') := by rw [hT1]; exact hc1
        have hd2 := hc2
        have hrow2 : Hc b = some (rrow ((P ++ T1) ++ ((L2 ++ R2) ++ Z)) ex cap') := by rw [List.append_assoc]; exact hd1
        have hn2 : n = ((P ++ T1) ++ ((L2 ++ R2) ++ Z)).length := by rw [hlen]; simp at *; omega
        by_cases cB : q < (q + m - s) ∧ (q + m - s) < y
        · have B := IH Hc (P ++ T1) L2 R2 Z (by omega) hn2 hrow2 (desc_append.1 hL).2.1 (desc_append.1 hR).2.1 (fun hh => by rw [hh] at kL2; simp at kL2; omega) (fun hh => by rw [hh] at kR2; simp at kR2; omega) (x := q) (m := (q + m - s)) (y := y) (by simp; omega) (by simp; omega) (by simp; omega)
          repeat' (first | simp -implicitDefEqProofs only [go_sem, Nat.reduceEqDiff, Nat.reduceAdd, Nat.reduceMul, Nat.reduceLeDiff, Nat.reduceSub, Nat.reduceLT, Nat.reduceBEq, Int.reduceToNat, reduceCtorEq, ↓reduceIte, Int.reduceEq, Int.reduceNeg, Int.reduceLT, Int.reduceLE, Int.reduceAdd, Int.reduceSub, Int.reduceMul] | simp -implicitDefEqProofs (disch := omega) only [iaq_vec, iao_arr, iaq_raw, rd_map, wrap_id, binq_quo, binq_rem, binq_shl, binq_shr, tdiv_pos, tmod_pos, if_pos, exV_some, Option.map_some] | ((first | with_reducible apply exIf_dec | ((with_reducible apply exGd_dec); focus exact rfl) | ((with_reducible apply exGq_dec); focus exact rfl) | with_reducible apply exIf_intro | ((with_reducible apply exGd_intro); focus exact rfl) | ((with_reducible apply exGq_intro); focus exact rfl)) <;> intro _))
          all_goals first | (exfalso; omega) | skip
          all_goals
            refine exC_intro B ?_
            rintro _ _ ⟨rfl, T2, t1', t2', t3', rfl⟩
            have fin := merge_fin hL hR hx1 hx2 t2 t2' t3 t3'
            repeat' (first | simp -implicitDefEqProofs only [go_sem, Nat.reduceEqDiff, Nat.reduceAdd, Nat.reduceMul, Nat.reduceLeDiff, Nat.reduceSub, Nat.reduceLT, Nat.reduceBEq, Int.reduceToNat, reduceCtorEq, ↓reduceIte, Int.reduceEq, Int.reduceNeg, Int.reduceLT, Int.reduceLE, Int.reduceAdd, Int.reduceSub, Int.reduceMul] | simp -implicitDefEqProofs (disch := omega) only [iaq_vec, iao_arr, iaq_raw, rd_map, wrap_id, binq_quo, binq_rem, binq_shl, binq_shr, tdiv_pos, tmod_pos, if_pos, exV_some, Option.map_some] | ((first | with_reducible apply exIf_dec | ((with_reducible apply exGd_dec); focus exact rfl) | ((with_reducible apply exGq_dec); focus exact rfl) | with_reducible apply exIf_intro | ((with_reducible apply exGd_intro); focus exact rfl) | ((with_reducible apply exGq_intro); focus exact rfl)) <;> intro _))
            all_goals first | exact ⟨T1 ++ T2, by simp; omega, fin.1, fin.2, by rw [hd2]; simp⟩ | (exfalso; omega) | skip
            done
        · have hT2 : desc (L2 ++ R2) := by
            rcases (show L2 = [] ∨ R2 = [] by
              by_cases hh : L2 = []
              · exact .inl hh
              · have := List.length_pos_iff.2 hh
                exact .inr (List.eq_nil_of_length_eq_zero (by omega))) with h1 | h1
            · rw [h1]; exact (desc_append.1 hR).2.1
            · rw [h1, List.append_nil]; exact (desc_append.1 hL).2.1
          have fin := merge_fin hL hR hx1 hx2 t2 hT2 t3 (.refl _)
          have hH : Hc = upd H b (some (rrow (P ++ ((T1 ++ (L2 ++ R2)) ++ Z)) ex cap')) := by rw [← hd2, List.append_assoc T1, upd_same hd1]
          repeat' (first | simp -implicitDefEqProofs only [go_sem, Nat.reduceEqDiff, Nat.reduceAdd, Nat.reduceMul, Nat.reduceLeDiff, Nat.reduceSub, Nat.reduceLT, Nat.reduceBEq, Int.reduceToNat, reduceCtorEq, ↓reduceIte, Int.reduceEq, Int.reduceNeg, Int.reduceLT, Int.reduceLE, Int.reduceAdd, Int.reduceSub, Int.reduceMul] | simp -implicitDefEqProofs (disch := omega) only [iaq_vec, iao_arr, iaq_raw, rd_map, wrap_id, binq_quo, binq_rem, binq_shl, binq_shr, tdiv_pos, tmod_pos, if_pos, exV_some, Option.map_some] | ((first | with_reducible apply exIf_dec | ((with_reducible apply exGd_dec); focus exact rfl) | ((with_reducible apply exGq_dec); focus exact rfl) | with_reducible apply exIf_intro | ((with_reducible apply exGd_intro); focus exact rfl) | ((with_reducible apply exGq_intro); focus exact rfl)) <;> intro _))
          all_goals first | exact ⟨T1 ++ (L2 ++ R2), by simp; omega, fin.1, fin.2, hH⟩ | (exfalso; omega) | skip
          done
    · have hc1 : H b = some (rrow (P ++ ((L1 ++ R1) ++ ((L2 ++ R2) ++ Z))) ex cap') := by
        rw [hr]
        rcases (show L2 = [] ∨ R1 = [] by
          by_cases hh : L2 = []
          · exact .inl hh
          · have := List.length_pos_iff.2 hh
            exact .inr (List.eq_nil_of_length_eq_zero (by omega))) with h1 | h1 <;> rw [h1] <;> simp
      have hc2 : ∀ o, upd H b o = upd H b o := fun o => rfl
      have hrow1 : H b = some (rrow (P ++ ((L1 ++ R1) ++ ((L2 ++ R2) ++ Z))) ex cap') := hc1
      have hn1 : n = (P ++ ((L1 ++ R1) ++ ((L2 ++ R2) ++ Z))).length := by rw [hlen]; simp at *; omega
      by_cases cA : x < s ∧ s < q
      · have A := IH H P L1 R1 ((L2 ++ R2) ++ Z) (by omega) hn1 hrow1 (desc_append.1 hL).1 (desc_append.1 hR).1 (fun hh => by rw [hh] at kL1; simp at kL1; omega) (fun hh => by rw [hh] at kR1; simp at kR1; omega) (x := x) (m := s) (y := q) hx (by omega) (by omega)
        repeat' (first | simp -implicitDefEqProofs only [go_sem, Nat.reduceEqDiff, Nat.reduceAdd, Nat.reduceMul, Nat.reduceLeDiff, Nat.reduceSub, Nat.reduceLT, Nat.reduceBEq, Int.reduceToNat, reduceCtorEq, ↓reduceIte, Int.reduceEq, Int.reduceNeg, Int.reduceLT, Int.reduceLE, Int.reduceAdd, Int.reduceSub, Int.reduceMul] | simp -implicitDefEqProofs (disch := omega) only [iaq_vec, iao_arr, iaq_raw, rd_map, wrap_id, binq_quo, binq_rem, binq_shl, binq_shr, tdiv_pos, tmod_pos, if_pos, exV_some, Option.map_some] | ((first | with_reducible apply exIf_dec | ((with_reducible apply exGd_dec); focus exact rfl) | ((with_reducible apply exGq_dec); focus exact rfl) | with_reducible apply exIf_intro | ((with_reducible apply exGd_intro); focus exact rfl) | ((with_reducible apply exGq_intro); focus exact rfl)) <;> intro _))
        all_goals first | (exfalso; omega) | skip
        all_goals
          refine exC_intro A ?_
          rintro _ _ ⟨rfl, T1, t1, t2, t3, rfl⟩
          obtain ⟨Hd, hHd⟩ : ∃ Hd, Hd = upd H b (some (rrow (P ++ (T1 ++ ((L2 ++ R2) ++ Z))) ex cap')) := ⟨_, rfl⟩
          have hd1 : Hd b = some (rrow (P ++ (T1 ++ ((L2 ++ R2) ++ Z))) ex cap') := by rw [hHd]; exact upd_self _ _ _
          have hd2 : ∀ o, upd Hd b o = upd H b o := fun o => by rw [hHd, upd_upd', hc2]
          rw [← hHd]
          have hrow2 : Hd b = some (rrow ((P ++ T1) ++ ((L2 ++ R2) ++ Z)) ex cap') := by rw [List.append_assoc]; exact hd1
          have hn2 : n = ((P ++ T1) ++ ((L2 ++ R2) ++ Z)).length := by rw [hlen]; simp at *; omega
          by_cases cB : q < (q + m - s) ∧ (q + m - s) < y
          · have B := IH Hd (P ++ T1) L2 R2 Z (by omega) hn2 hrow2 (desc_append.1 hL).2.1 (desc_append.1 hR).2.1 (fun hh => by rw [hh] at kL2; simp at kL2; omega) (fun hh => by rw [hh] at kR2; simp at kR2; omega) (x := q) (m := (q + m - s)) (y := y) (by simp; omega) (by simp; omega) (by simp; omega)
            repeat' (first | simp -implicitDefEqProofs only [go_sem, Nat.reduceEqDiff, Nat.reduceAdd, Nat.reduceMul, Nat.reduceLeDiff, Nat.reduceSub, Nat.reduceLT, Nat.reduceBEq, Int.reduceToNat, reduceCtorEq, ↓reduceIte, Int.reduceEq, Int.reduceNeg, Int.reduceLT, Int.reduceLE, Int.reduceAdd, Int.reduceSub, Int.reduceMul] | simp -implicitDefEqProofs (disch := omega) only [iaq_vec, iao_arr, iaq_raw, rd_map, wrap_id, binq_quo, binq_rem, binq_shl, binq_shr, tdiv_pos, tmod_pos, if_pos, exV_some, Option.map_some] | ((first | with_reducible apply exIf_dec | ((with_reducible apply exGd_dec); focus exact rfl) | ((with_reducible apply exGq_dec); focus exact rfl) | with_reducible apply exIf_intro | ((with_reducible apply exGd_intro); focus exact rfl) | ((with_reducible apply exGq_intro); focus exact rfl)) <;> intro _))
            all_goals first | (exfalso; omega) | skip
            all_goals
              refine exC_intro B ?_
              rintro _ _ ⟨rfl, T2, t1', t2', t3', rfl⟩
              have fin := merge_fin hL hR hx1 hx2 t2 t2' t3 t3'
              repeat' (first | simp -implicitDefEqProofs only [go_sem, Nat.reduceEqDiff, Nat.reduceAdd, Nat.reduceMul, Nat.reduceLeDiff, Nat.reduceSub, Nat.reduceLT, Nat.reduceBEq, Int.reduceToNat, reduceCtorEq, ↓reduceIte, Int.reduceEq, Int.reduceNeg, Int.reduceLT, Int.reduceLE, Int.reduceAdd, Int.reduceSub, Int.reduceMul] | simp -implicitDefEqProofs (disch := omega) only [iaq_vec, iao_arr, iaq_raw, rd_map, wrap_id, binq_quo, binq_rem, binq_shl, binq_shr, tdiv_pos, tmod_pos, if_pos, exV_some, Option.map_some] | ((first | with_reducible apply exIf_dec | ((with_reducible apply exGd_dec); focus exact rfl) | ((with_reducible apply exGq_dec); focus exact rfl) | with_reducible apply exIf_intro | ((with_reducible apply exGd_intro); focus exact rfl) | ((with_reducible apply exGq_intro); focus exact rfl)) <;> intro _))
              all_goals first | exact ⟨T1 ++ T2, by simp; omega, fin.1, fin.2, by rw [hd2]; simp⟩ | (exfalso; omega) | skip
              done
          · have hT2 : desc (L2 ++ R2) := by
              rcases (show L2 = [] ∨ R2 = [] by
                by_cases hh : L2 = []
                · exact .inl hh
                · have := List.length_pos_iff.2 hh
                  exact .inr (List.eq_nil_of_length_eq_zero (by omega))) with h1 | h1
              · rw [h1]; exact (desc_append.1 hR).2.1
              · rw [h1, List.append_nil]; exact (desc_append.1 hL).2.1
            have fin := merge_fin hL hR hx1 hx2 t2 hT2 t3 (.refl _)
            have hH : Hd = upd H b (some (rrow (P ++ ((T1 ++ (L2 ++ R2)) ++ Z)) ex cap')) := by rw [← hd2, List.append_assoc T1, upd_same hd1]
            repeat' (first | simp -implicitDefEqProofs only [go_sem, Nat.reduceEqDiff, Nat.reduceAdd, Nat.reduceMul, Nat.reduceLeDiff, Nat.reduceSub, Nat.reduceLT, Nat.reduceBEq, Int.reduceToNat, reduceCtorEq, ↓reduceIte, Int.reduceEq, Int.reduceNeg, Int.reduceLT, Int.reduceLE, Int.reduceAdd, Int.reduceSub, Int.reduceMul] | simp -implicitDefEqProofs (disch := omega) only [iaq_vec, iao_arr, iaq_raw, rd_map, wrap_id, binq_quo, binq_rem, binq_shl, binq_shr, tdiv_pos, tmod_pos, if_pos, exV_some, Option.map_some] | ((first | with_reducible apply exIf_dec | ((with_reducible apply exGd_dec); focus exact rfl) | ((with_reducible apply exGq_dec); focus exact rfl) | with_reducible apply exIf_intro | ((with_reducible apply exGd_intro); focus exact rfl) | ((with_reducible apply exGq_intro); focus exact rfl)) <;> intro _))
            all_goals first | exact ⟨T1 ++ (L2 ++ R2), by simp; omega, fin.1, fin.2, hH⟩ | (exfalso; omega) | skip
            done
      · obtain ⟨T1, hT1⟩ : ∃ T1, T1 = L1 ++ R1 := ⟨_, rfl⟩
        have t1 : T1.length = L1.length + R1.length := by rw [hT1]; simp
        have t2 : desc T1 := by
          rw [hT1]
          rcases (show L1 = [] ∨ R1 = [] by
            by_cases hh : L1 = []
            · exact .inl hh
            · have := List.length_pos_iff.2 hh
              exact .inr (List.eq_nil_of_length_eq_zero (by omega))) with h1 | h1
          · rw [h1]; exact (desc_append.1 hR).1
          · rw [h1, List.append_nil]; exact (desc_append.1 hL).1
        have t3 : keepF T1 (L1 ++ R1) := by rw [hT1]; exact .refl _
        have hd1 : H b = some (rrow (P ++ (T1 ++ ((L2 ++ R2) ++ Z))) ex cap') := by rw [hT1]; exact hc1
        have hd2 := hc2
        have hrow2 : H b = some (rrow ((P ++ T1) ++ ((L2 ++ R2) ++ Z)) ex cap') := by rw [List.append_assoc]; exact hd1
        have hn2 : n = ((P ++ T1) ++ ((L2 ++ R2) ++ Z)).length := by rw [hlen]; simp at *; omega
        by_cases cB : q < (q + m - s) ∧ (q + m - s) < y
        · have B := IH H (P ++ T1) L2 R2 Z (by omega) hn2 hrow2 (desc_append.1 hL).2.1 (desc_append.1 hR).2.1 (fun hh => by rw [hh] at kL2; simp at kL2; omega) (fun hh => by rw [hh] at kR2; simp at kR2; omega) (x := q) (m := (q + m - s)) (y := y) (by simp; omega) (by simp; omega) (by simp; omega)
          repeat' (first | simp -implicitDefEqProofs only [go_sem, Nat.reduceEqDiff, Nat.reduceAdd, Nat.reduceMul, Nat.reduceLeDiff, Nat.reduceSub, Nat.reduceLT, Nat.reduceBEq, Int.reduceToNat, reduceCtorEq, ↓reduceIte, Int.reduceEq, Int.reduceNeg, Int.reduceLT, Int.reduceLE, Int.reduceAdd, Int.reduceSub, Int.reduceMul] | simp -implicitDefEqProofs (disch := omega) only [iaq_vec, iao_arr, iaq_raw, rd_map, wrap_id, binq_quo, binq_rem, binq_shl, binq_shr, tdiv_pos, tmod_pos, if_pos, exV_some, Option.map_some] | ((first | with_reducible apply exIf_dec | ((with_reducible apply exGd_dec); focus exact rfl) | ((with_reducible apply exGq_dec); focus exact rfl) | with_reducible apply exIf_intro | ((with_reducible apply exGd_intro); focus exact rfl) | ((with_reducible apply exGq_intro); focus exact rfl)) <;> intro _))
          all_goals first | (exfalso; omega) | skip
          all_goals
            refine exC_intro B ?_
            rintro _ _ ⟨rfl, T2, t1', t2', t3', rfl⟩
            have fin := merge_fin hL hR hx1 hx2 t2 t2' t3 t3'
            repeat' (first | simp -implicitDefEqProofs only [go_sem, Nat.reduceEqDiff, Nat.reduceAdd, Nat.reduceMul, Nat.reduceLeDiff, Nat.reduceSub, Nat.reduceLT, Nat.reduceBEq, Int.reduceToNat, reduceCtorEq, ↓reduceIte, Int.reduceEq, Int.reduceNeg, Int.reduceLT, Int.reduceLE, Int.reduceAdd, Int.reduceSub, Int.reduceMul] | simp -implicitDefEqProofs (disch := omega) only [iaq_vec, iao_arr, iaq_raw, rd_map, wrap_id, binq_quo, binq_rem, binq_shl, binq_shr, tdiv_pos, tmod_pos, if_pos, exV_some, Option.map_some] | ((first | with_reducible apply exIf_dec | ((with_reducible apply exGd_dec); focus exact rfl) | ((with_reducible apply exGq_dec); focus exact rfl) | with_reducible apply exIf_intro | ((with_reducible apply exGd_intro); focus exact rfl) | ((with_reducible apply exGq_intro); focus exact rfl)) <;> intro _))
            all_goals first | exact ⟨T1 ++ T2, by simp; omega, fin.1, fin.2, by rw [hd2]; simp⟩ | (exfalso; omega) | skip
            done
        · have hT2 : desc (L2 ++ R2) := by
            rcases (show L2 = [] ∨ R2 = [] by
              by_cases hh : L2 = []
              · exact .inl hh
              · have := List.length_pos_iff.2 hh
                exact .inr (List.eq_nil_of_length_eq_zero (by omega))) with h1 | h1
            · rw [h1]; exact (desc_append.1 hR).2.1
            · rw [h1, List.append_nil]; exact (desc_append.1 hL).2.1
          have fin := merge_fin hL hR hx1 hx2 t2 hT2 t3 (.refl _)
          have hH : H = upd H b (some (rrow (P ++ ((T1 ++ (L2 ++ R2)) ++ Z)) ex cap')) := by rw [← hd2, List.append_assoc T1, upd_same hd1]
          repeat' (first | simp -implicitDefEqProofs only [go_sem, Nat.reduceEqDiff, Nat.reduceAdd, Nat.reduceMul, Nat.reduceLeDiff, Nat.reduceSub, Nat.reduceLT, Nat.reduceBEq, Int.reduceToNat, reduceCtorEq, ↓reduceIte, Int.reduceEq, Int.reduceNeg, Int.reduceLT, Int.reduceLE, Int.reduceAdd, Int.reduceSub, Int.reduceMul] | simp -implicitDefEqProofs (disch := omega) only [iaq_vec, iao_arr, iaq_raw, rd_map, wrap_id, binq_quo, binq_rem, binq_shl, binq_shr, tdiv_pos, tmod_pos, if_pos, exV_some, Option.map_some] | ((first | with_reducible apply exIf_dec | ((with_reducible apply exGd_dec); focus exact rfl) | ((with_reducible apply exGq_dec); focus exact rfl) | with_reducible apply exIf_intro | ((with_reducible apply exGd_intro); focus exact rfl) | ((with_reducible apply exGq_intro); focus exact rfl)) <;> intro _))
          all_goals first | exact ⟨T1 ++ (L2 ++ R2), by simp; omega, fin.1, fin.2, hH⟩ | (exfalso; omega) | skip
          done
end Go.Proofs.Ytgahnhiidhkjaaa
end

section
/- The library's stable sort of rules: at most 39 of them. -/
namespace Go.Proofs.Ytgahnhiidhkjaaa
open Go Abs
attribute [local irreducible] EX exL exG exC exCq exS exV exIf exGd exGq
set_option maxHeartbeats 2000000

theorem stableS_c (H : AHeap) (b n cap : Nat) (l : List Rule) (ex : List AV) (cap' : Nat) (hn : n = l.length) (hl : n < 20) (hr : H b = some (rrow l ex cap')) :
    ACalls Try.prog 84 [dataV b n cap, iv n, cmpV] H fun r H' => r = .tup [] ∧ ∃ T : List Rule, T.length = l.length ∧ desc T ∧ keepF T l ∧ H' = upd H b (some (rrow T ex cap')) := by
  refine ACalls.of_code fn_slices_stableCmpFunc_api_Rule ?_
  simp -implicitDefEqProofs only [sc_slices_stableCmpFunc_api_Rule, go_sem, Nat.reduceEqDiff, Nat.reduceAdd, Nat.reduceMul, Nat.reduceLeDiff, Nat.reduceSub, Nat.reduceLT, Nat.reduceBEq, Int.reduceToNat, reduceCtorEq, ↓reduceIte, Int.reduceEq, Int.reduceNeg, Int.reduceLT, Int.reduceLE, Int.reduceAdd, Int.reduceSub, Int.reduceMul]
  repeat' (first | simp -implicitDefEqProofs only [go_sem, Nat.reduceEqDiff, Nat.reduceAdd, Nat.reduceMul, Nat.reduceLeDiff, Nat.reduceSub, Nat.reduceLT, Nat.reduceBEq, Int.reduceToNat, reduceCtorEq, ↓reduceIte, Int.reduceEq, Int.reduceNeg, Int.reduceLT, Int.reduceLE, Int.reduceAdd, Int.reduceSub, Int.reduceMul] | simp -implicitDefEqProofs (disch := omega) only [iaq_vec, iao_arr, iaq_raw, rd_map, wrap_id, binq_quo, binq_rem, binq_shl, binq_shr, tdiv_pos, tmod_pos, if_pos, exV_some, Option.map_some] | ((first | with_reducible apply exIf_dec | ((with_reducible apply exGd_dec); focus exact rfl) | ((with_reducible apply exGq_dec); focus exact rfl) | with_reducible apply exIf_intro | ((with_reducible apply exGd_intro); focus exact rfl) | ((with_reducible apply exGq_intro); focus exact rfl)) <;> intro _))
  refine exL_mod (fun _ : Unit => []) (fun _ => []) (fun _ => True) (fun _ => 0) () rfl trivial ?_
  rintro - - -
  simp only [S.up, S.upH, ups, Abs.put, Nat.reduceEqDiff, ↓reduceIte, Nat.reduceAdd]
  simp -implicitDefEqProofs only [congrArg KI.code sc_slices_stableCmpFunc_api_Rule_L2.eq_1, go_sem, Nat.reduceEqDiff, Nat.reduceAdd, Nat.reduceMul, Nat.reduceLeDiff, Nat.reduceSub, Nat.reduceLT, Nat.reduceBEq, Int.reduceToNat, reduceCtorEq, ↓reduceIte, Int.reduceEq, Int.reduceNeg, Int.reduceLT, Int.reduceLE, Int.reduceAdd, Int.reduceSub, Int.reduceMul]
  have A := insertion_c H b n cap [] l [] ex cap' (by simpa using hn) (by omega) (by simpa using hr) (x := 0) (y := n) (by simp) (by simp; omega)
  repeat' (first | simp -implicitDefEqProofs only [go_sem, Nat.reduceEqDiff, Nat.reduceAdd, Nat.reduceMul, Nat.reduceLeDiff, Nat.reduceSub, Nat.reduceLT, Nat.reduceBEq, Int.reduceToNat, reduceCtorEq, ↓reduceIte, Int.reduceEq, Int.reduceNeg, Int.reduceLT, Int.reduceLE, Int.reduceAdd, Int.reduceSub, Int.reduceMul] | simp -implicitDefEqProofs (disch := omega) only [iaq_vec, iao_arr, iaq_raw, rd_map, wrap_id, binq_quo, binq_rem, binq_shl, binq_shr, tdiv_pos, tmod_pos, if_pos, exV_some, Option.map_some] | ((first | with_reducible apply exIf_dec | ((with_reducible apply exGd_dec); focus exact rfl) | ((with_reducible apply exGq_dec); focus exact rfl) | with_reducible apply exIf_intro | ((with_reducible apply exGd_intro); focus exact rfl) | ((with_reducible apply exGq_intro); focus exact rfl)) <;> intro _))
  all_goals first | (exfalso; omega) | skip
  refine exC_intro A ?_
  rintro _ _ ⟨rfl, T, t1, t2, t3, rfl⟩
  simp -implicitDefEqProofs only [go_sem, Nat.reduceEqDiff, Nat.reduceAdd, Nat.reduceMul, Nat.reduceLeDiff, Nat.reduceSub, Nat.reduceLT, Nat.reduceBEq, Int.reduceToNat, reduceCtorEq, ↓reduceIte, Int.reduceEq, Int.reduceNeg, Int.reduceLT, Int.reduceLE, Int.reduceAdd, Int.reduceSub, Int.reduceMul]
  repeat' (first | simp -implicitDefEqProofs only [go_sem, Nat.reduceEqDiff, Nat.reduceAdd, Nat.reduceMul, Nat.reduceLeDiff, Nat.reduceSub, Nat.reduceLT, Nat.reduceBEq, Int.reduceToNat, reduceCtorEq, ↓reduceIte, Int.reduceEq, Int.reduceNeg, Int.reduceLT, Int.reduceLE, Int.reduceAdd, Int.reduceSub, Int.reduceMul] | simp -implicitDefEqProofs (disch := omega) only [iaq_vec, iao_arr, iaq_raw, rd_map, wrap_id, binq_quo, binq_rem, binq_shl, binq_shr, tdiv_pos, tmod_pos, if_pos, exV_some, Option.map_some] | ((first | with_reducible apply exIf_dec | ((with_reducible apply exGd_dec); focus exact rfl) | ((with_reducible apply exGq_dec); focus exact rfl) | with_reducible apply exIf_intro | ((with_reducible apply exGd_intro); focus exact rfl) | ((with_reducible apply exGq_intro); focus exact rfl)) <;> intro _))
  refine exL_mod (fun _ : Unit => []) (fun _ => []) (fun _ => True) (fun _ => 0) () rfl trivial ?_
  rintro - - -
  simp only [S.up, S.upH, ups, Abs.put, Nat.reduceEqDiff, ↓reduceIte, Nat.reduceAdd]
  simp -implicitDefEqProofs only [congrArg KI.code sc_slices_stableCmpFunc_api_Rule_L1.eq_1, go_sem, Nat.reduceEqDiff, Nat.reduceAdd, Nat.reduceMul, Nat.reduceLeDiff, Nat.reduceSub, Nat.reduceLT, Nat.reduceBEq, Int.reduceToNat, reduceCtorEq, ↓reduceIte, Int.reduceEq, Int.reduceNeg, Int.reduceLT, Int.reduceLE, Int.reduceAdd, Int.reduceSub, Int.reduceMul]
  repeat' (first | simp -implicitDefEqProofs only [go_sem, Nat.reduceEqDiff, Nat.reduceAdd, Nat.reduceMul, Nat.reduceLeDiff, Nat.reduceSub, Nat.reduceLT, Nat.reduceBEq, Int.reduceToNat, reduceCtorEq, ↓reduceIte, Int.reduceEq, Int.reduceNeg, Int.reduceLT, Int.reduceLE, Int.reduceAdd, Int.reduceSub, Int.reduceMul] | simp -implicitDefEqProofs (disch := omega) only [iaq_vec, iao_arr, iaq_raw, rd_map, wrap_id, binq_quo, binq_rem, binq_shl, binq_shr, tdiv_pos, tmod_pos, if_pos, exV_some, Option.map_some] | ((first | with_reducible apply exIf_dec | ((with_reducible apply exGd_dec); focus exact rfl) | ((with_reducible apply exGq_dec); focus exact rfl) | with_reducible apply exIf_intro | ((with_reducible apply exGd_intro); focus exact rfl) | ((with_reducible apply exGq_intro); focus exact rfl)) <;> intro _))
  all_goals first | exact ⟨T, t1, t2, t3, by simp⟩ | (exfalso; omega) | skip
  done
theorem stableL_c (H : AHeap) (b n cap : Nat) (l : List Rule) (ex : List AV) (cap' : Nat) (hn : n = l.length) (h20 : 20 ≤ n) (hl : n < 40) (hr : H b = some (rrow l ex cap')) :
    ACalls Try.prog 84 [dataV b n cap, iv n, cmpV] H fun r H' => r = .tup [] ∧ ∃ T : List Rule, T.length = l.length ∧ desc T ∧ keepF T l ∧ H' = upd H b (some (rrow T ex cap')) := by
  obtain ⟨A, B, rfl, hA⟩ : ∃ A B, l = A ++ B ∧ A.length = 20 := ⟨l.take 20, l.drop 20, (List.take_append_drop _ _).symm, by rw [List.length_take]; omega⟩
  rw [List.length_append] at hn
  refine ACalls.of_code fn_slices_stableCmpFunc_api_Rule ?_
  simp -implicitDefEqProofs only [sc_slices_stableCmpFunc_api_Rule, go_sem, Nat.reduceEqDiff, Nat.reduceAdd, Nat.reduceMul, Nat.reduceLeDiff, Nat.reduceSub, Nat.reduceLT, Nat.reduceBEq, Int.reduceToNat, reduceCtorEq, ↓reduceIte, Int.reduceEq, Int.reduceNeg, Int.reduceLT, Int.reduceLE, Int.reduceAdd, Int.reduceSub, Int.reduceMul]
  repeat' (first | simp -implicitDefEqProofs only [go_sem, Nat.reduceEqDiff, Nat.reduceAdd, Nat.reduceMul, Nat.reduceLeDiff, Nat.reduceSub, Nat.reduceLT, Nat.reduceBEq, Int.reduceToNat, reduceCtorEq, ↓reduceIte, Int.reduceEq, Int.reduceNeg, Int.reduceLT, Int.reduceLE, Int.reduceAdd, Int.reduceSub, Int.reduceMul] | simp -implicitDefEqProofs (disch := omega) only [iaq_vec, iao_arr, iaq_raw, rd_map, wrap_id, binq_quo, binq_rem, binq_shl, binq_shr, tdiv_pos, tmod_pos, if_pos, exV_some, Option.map_some] | ((first | with_reducible apply exIf_dec | ((with_reducible apply exGd_dec); focus exact rfl) | ((with_reducible apply exGq_dec); focus exact rfl) | with_reducible apply exIf_intro | ((with_reducible apply exGd_intro); focus exact rfl) | ((with_reducible apply exGq_intro); focus exact rfl)) <;> intro _))
  refine exL_modH (fun a : Option (List Rule) => [(7, .v (iv (if a = none then 0 else 20))), (8, .v (iv (if a = none then 20 else 40)))]) (fun _ => []) (fun a => match a with | none => H | some T => upd H b (some (rrow (T ++ B) ex cap')))
    (fun a => ∀ T, a = some T → T.length = 20 ∧ desc T ∧ keepF T A) (fun a => if a = none then 1 else 0) none rfl (by simp) ?_
  rintro (_ | T) hT ih
  · simp only [S.up, S.upH, ups, Abs.put, Nat.reduceEqDiff, ↓reduceIte, Nat.reduceAdd] at ih
    simp -implicitDefEqProofs only [congrArg KI.code sc_slices_stableCmpFunc_api_Rule_L2.eq_1, go_sem, Nat.reduceEqDiff, Nat.reduceAdd, Nat.reduceMul, Nat.reduceLeDiff, Nat.reduceSub, Nat.reduceLT, Nat.reduceBEq, Int.reduceToNat, reduceCtorEq, ↓reduceIte, Int.reduceEq, Int.reduceNeg, Int.reduceLT, Int.reduceLE, Int.reduceAdd, Int.reduceSub, Int.reduceMul]
    have C := insertion_c H b n cap [] A B ex cap' (by simpa using hn) (by omega) (by simpa using hr) (x := 0) (y := 20) (by simp) (by simp; omega)
    repeat' (first | simp -implicitDefEqProofs only [go_sem, Nat.reduceEqDiff, Nat.reduceAdd, Nat.reduceMul, Nat.reduceLeDiff, Nat.reduceSub, Nat.reduceLT, Nat.reduceBEq, Int.reduceToNat, reduceCtorEq, ↓reduceIte, Int.reduceEq, Int.reduceNeg, Int.reduceLT, Int.reduceLE, Int.reduceAdd, Int.reduceSub, Int.reduceMul] | simp -implicitDefEqProofs (disch := omega) only [iaq_vec, iao_arr, iaq_raw, rd_map, wrap_id, binq_quo, binq_rem, binq_shl, binq_shr, tdiv_pos, tmod_pos, if_pos, exV_some, Option.map_some] | ((first | with_reducible apply exIf_dec | ((with_reducible apply exGd_dec); focus exact rfl) | ((with_reducible apply exGq_dec); focus exact rfl) | with_reducible apply exIf_intro | ((with_reducible apply exGd_intro); focus exact rfl) | ((with_reducible apply exGq_intro); focus exact rfl)) <;> intro _))
    all_goals first | (exfalso; omega) | skip
    refine exC_intro C ?_
    rintro _ _ ⟨rfl, T, t1, t2, t3, rfl⟩
    have nxt := ih (some T) (by rintro _ ⟨⟩; exact ⟨by omega, t2, t3⟩) (by simp)
    simp only [reduceCtorEq, if_false] at nxt
    clear ih
    simp -implicitDefEqProofs only [go_sem, Nat.reduceEqDiff, Nat.reduceAdd, Nat.reduceMul, Nat.reduceLeDiff, Nat.reduceSub, Nat.reduceLT, Nat.reduceBEq, Int.reduceToNat, reduceCtorEq, ↓reduceIte, Int.reduceEq, Int.reduceNeg, Int.reduceLT, Int.reduceLE, Int.reduceAdd, Int.reduceSub, Int.reduceMul]
    repeat' (first | simp -implicitDefEqProofs only [go_sem, Nat.reduceEqDiff, Nat.reduceAdd, Nat.reduceMul, Nat.reduceLeDiff, Nat.reduceSub, Nat.reduceLT, Nat.reduceBEq, Int.reduceToNat, reduceCtorEq, ↓reduceIte, Int.reduceEq, Int.reduceNeg, Int.reduceLT, Int.reduceLE, Int.reduceAdd, Int.reduceSub, Int.reduceMul] | simp -implicitDefEqProofs (disch := omega) only [iaq_vec, iao_arr, iaq_raw, rd_map, wrap_id, binq_quo, binq_rem, binq_shl, binq_shr, tdiv_pos, tmod_pos, if_pos, exV_some, Option.map_some] | ((first | with_reducible apply exIf_dec | ((with_reducible apply exGd_dec); focus exact rfl) | ((with_reducible apply exGq_dec); focus exact rfl) | with_reducible apply exIf_intro | ((with_reducible apply exGd_intro); focus exact rfl) | ((with_reducible apply exGq_intro); focus exact rfl)) <;> intro _))
    all_goals first | exact nxt | (exfalso; omega) | skip
    done
  · obtain ⟨t1, t2, t3⟩ := hT T rfl
    clear ih hT
    simp only [reduceCtorEq, if_false, S.up, S.upH, ups, Abs.put, Nat.reduceEqDiff, ↓reduceIte, Nat.reduceAdd]
    obtain ⟨H1, hH1⟩ : ∃ H1, H1 = upd H b (some (rrow (T ++ B) ex cap')) := ⟨_, rfl⟩
    have hu : ∀ o, upd H1 b o = upd H b o := fun o => by rw [hH1, upd_upd']
    have hr1 : H1 b = some (rrow (T ++ B) ex cap') := by rw [hH1, upd_self]
    rw [← hH1]
    simp -implicitDefEqProofs only [congrArg KI.code sc_slices_stableCmpFunc_api_Rule_L2.eq_1, go_sem, Nat.reduceEqDiff, Nat.reduceAdd, Nat.reduceMul, Nat.reduceLeDiff, Nat.reduceSub, Nat.reduceLT, Nat.reduceBEq, Int.reduceToNat, reduceCtorEq, ↓reduceIte, Int.reduceEq, Int.reduceNeg, Int.reduceLT, Int.reduceLE, Int.reduceAdd, Int.reduceSub, Int.reduceMul]
    have C := insertion_c H1 b n cap T B [] ex cap' (by simp; omega) (by omega) (by simpa using hr1) (x := 20) (y := n) (by omega) (by omega)
    repeat' (first | simp -implicitDefEqProofs only [go_sem, Nat.reduceEqDiff, Nat.reduceAdd, Nat.reduceMul, Nat.reduceLeDiff, Nat.reduceSub, Nat.reduceLT, Nat.reduceBEq, Int.reduceToNat, reduceCtorEq, ↓reduceIte, Int.reduceEq, Int.reduceNeg, Int.reduceLT, Int.reduceLE, Int.reduceAdd, Int.reduceSub, Int.reduceMul] | simp -implicitDefEqProofs (disch := omega) only [iaq_vec, iao_arr, iaq_raw, rd_map, wrap_id, binq_quo, binq_rem, binq_shl, binq_shr, tdiv_pos, tmod_pos, if_pos, exV_some, Option.map_some] | ((first | with_reducible apply exIf_dec | ((with_reducible apply exGd_dec); focus exact rfl) | ((with_reducible apply exGq_dec); focus exact rfl) | with_reducible apply exIf_intro | ((with_reducible apply exGd_intro); focus exact rfl) | ((with_reducible apply exGq_intro); focus exact rfl)) <;> intro _))
    all_goals first | (exfalso; omega) | skip
    refine exC_intro C ?_
    rintro _ _ ⟨rfl, U, u1, u2, u3, rfl⟩
    rw [hu]
    obtain ⟨H2, hH2⟩ : ∃ H2, H2 = upd H b (some (rrow (T ++ (U ++ [])) ex cap')) := ⟨_, rfl⟩
    have hu2 : ∀ o, upd H2 b o = upd H b o := fun o => by rw [hH2, upd_upd']
    have hr2 : H2 b = some (rrow (T ++ U) ex cap') := by rw [hH2, upd_self]; simp
    rw [← hH2]
    simp -implicitDefEqProofs only [go_sem, Nat.reduceEqDiff, Nat.reduceAdd, Nat.reduceMul, Nat.reduceLeDiff, Nat.reduceSub, Nat.reduceLT, Nat.reduceBEq, Int.reduceToNat, reduceCtorEq, ↓reduceIte, Int.reduceEq, Int.reduceNeg, Int.reduceLT, Int.reduceLE, Int.reduceAdd, Int.reduceSub, Int.reduceMul]
    repeat' (first | simp -implicitDefEqProofs only [go_sem, Nat.reduceEqDiff, Nat.reduceAdd, Nat.reduceMul, Nat.reduceLeDiff, Nat.reduceSub, Nat.reduceLT, Nat.reduceBEq, Int.reduceToNat, reduceCtorEq, ↓reduceIte, Int.reduceEq, Int.reduceNeg, Int.reduceLT, Int.reduceLE, Int.reduceAdd, Int.reduceSub, Int.reduceMul] | simp -implicitDefEqProofs (disch := omega) only [iaq_vec, iao_arr, iaq_raw, rd_map, wrap_id, binq_quo, binq_rem, binq_shl, binq_shr, tdiv_pos, tmod_pos, if_pos, exV_some, Option.map_some] | ((first | with_reducible apply exIf_dec | ((with_reducible apply exGd_dec); focus exact rfl) | ((with_reducible apply exGq_dec); focus exact rfl) | with_reducible apply exIf_intro | ((with_reducible apply exGd_intro); focus exact rfl) | ((with_reducible apply exGq_intro); focus exact rfl)) <;> intro _))
    all_goals first | (exfalso; omega) | skip
    by_cases hU : U = []
    · subst hU
      have hB : B = [] := List.eq_nil_of_length_eq_zero (by simpa using u1.symm)
      subst hB
      simp only [List.length_nil] at hn
      refine exL_mod (fun _ : Unit => []) (fun _ => []) (fun _ => True) (fun _ => 0) () rfl trivial ?_
      rintro - - -
      simp only [S.up, S.upH, ups, Abs.put, Nat.reduceEqDiff, ↓reduceIte, Nat.reduceAdd]
      simp -implicitDefEqProofs only [congrArg KI.code sc_slices_stableCmpFunc_api_Rule_L1.eq_1, go_sem, Nat.reduceEqDiff, Nat.reduceAdd, Nat.reduceMul, Nat.reduceLeDiff, Nat.reduceSub, Nat.reduceLT, Nat.reduceBEq, Int.reduceToNat, reduceCtorEq, ↓reduceIte, Int.reduceEq, Int.reduceNeg, Int.reduceLT, Int.reduceLE, Int.reduceAdd, Int.reduceSub, Int.reduceMul]
      repeat' (first | simp -implicitDefEqProofs only [go_sem, Nat.reduceEqDiff, Nat.reduceAdd, Nat.reduceMul, Nat.reduceLeDiff, Nat.reduceSub, Nat.reduceLT, Nat.reduceBEq, Int.reduceToNat, reduceCtorEq, ↓reduceIte, Int.reduceEq, Int.reduceNeg, Int.reduceLT, Int.reduceLE, Int.reduceAdd, Int.reduceSub, Int.reduceMul] | simp -implicitDefEqProofs (disch := omega) only [iaq_vec, iao_arr, iaq_raw, rd_map, wrap_id, binq_quo, binq_rem, binq_shl, binq_shr, tdiv_pos, tmod_pos, if_pos, exV_some, Option.map_some] | ((first | with_reducible apply exIf_dec | ((with_reducible apply exGd_dec); focus exact rfl) | ((with_reducible apply exGq_dec); focus exact rfl) | with_reducible apply exIf_intro | ((with_reducible apply exGd_intro); focus exact rfl) | ((with_reducible apply exGq_intro); focus exact rfl)) <;> intro _))
      all_goals first | (exfalso; omega) | skip
      have hr3 : H2 b = some (rrow T ex cap') := by simpa using hr2
      have hTA : T.length = A.length := by omega
      have hH : H2 = upd H b (some (rrow T ex cap')) := by
        have := hu2 (some (rrow T ex cap'))
        rw [upd_same hr3] at this
        exact this
      all_goals exact ⟨T, hTA, t2, t3, hH⟩
      done
    have hU1 := List.length_pos_iff.2 hU
    refine exL_modH (fun a : Option (List Rule) => [(6, .v (iv (if a = none then 20 else 40)))]) (fun _ => []) (fun a => match a with | none => H2 | some V => upd H b (some (rrow V ex cap')))
      (fun a => ∀ V, a = some V → V.length = (A ++ B).length ∧ desc V ∧ keepF V (A ++ B)) (fun a => if a = none then 1 else 0) none rfl (by simp) ?_
    rintro (_ | V) hV ih
    · simp only [S.up, S.upH, ups, Abs.put, Nat.reduceEqDiff, ↓reduceIte, Nat.reduceAdd] at ih
      simp -implicitDefEqProofs only [congrArg KI.code sc_slices_stableCmpFunc_api_Rule_L1.eq_1, go_sem, Nat.reduceEqDiff, Nat.reduceAdd, Nat.reduceMul, Nat.reduceLeDiff, Nat.reduceSub, Nat.reduceLT, Nat.reduceBEq, Int.reduceToNat, reduceCtorEq, ↓reduceIte, Int.reduceEq, Int.reduceNeg, Int.reduceLT, Int.reduceLE, Int.reduceAdd, Int.reduceSub, Int.reduceMul]
      have M := symMerge_c b n cap ex cap' (by omega) (T.length + U.length) H2 [] T U [] (Nat.le_refl _) (by simp; omega) (by simpa using hr2) t2 u2 (by intro e; rw [e] at t1; cases t1) hU (x := 0) (m := 20) (y := n) (by simp) (by simp; omega) (by simp; omega)
      repeat' (first | simp -implicitDefEqProofs only [go_sem, Nat.reduceEqDiff, Nat.reduceAdd, Nat.reduceMul, Nat.reduceLeDiff, Nat.reduceSub, Nat.reduceLT, Nat.reduceBEq, Int.reduceToNat, reduceCtorEq, ↓reduceIte, Int.reduceEq, Int.reduceNeg, Int.reduceLT, Int.reduceLE, Int.reduceAdd, Int.reduceSub, Int.reduceMul] | simp -implicitDefEqProofs (disch := omega) only [iaq_vec, iao_arr, iaq_raw, rd_map, wrap_id, binq_quo, binq_rem, binq_shl, binq_shr, tdiv_pos, tmod_pos, if_pos, exV_some, Option.map_some] | ((first | with_reducible apply exIf_dec | ((with_reducible apply exGd_dec); focus exact rfl) | ((with_reducible apply exGq_dec); focus exact rfl) | with_reducible apply exIf_intro | ((with_reducible apply exGd_intro); focus exact rfl) | ((with_reducible apply exGq_intro); focus exact rfl)) <;> intro _))
      all_goals first | (exfalso; omega) | skip
      refine exL_mod (fun _ : Unit => []) (fun _ => []) (fun _ => True) (fun _ => 0) () rfl trivial ?_
      rintro - - -
      simp only [S.up, S.upH, ups, Abs.put, Nat.reduceEqDiff, ↓reduceIte, Nat.reduceAdd]
      simp -implicitDefEqProofs only [congrArg KI.code sc_slices_stableCmpFunc_api_Rule_L0.eq_1, go_sem, Nat.reduceEqDiff, Nat.reduceAdd, Nat.reduceMul, Nat.reduceLeDiff, Nat.reduceSub, Nat.reduceLT, Nat.reduceBEq, Int.reduceToNat, reduceCtorEq, ↓reduceIte, Int.reduceEq, Int.reduceNeg, Int.reduceLT, Int.reduceLE, Int.reduceAdd, Int.reduceSub, Int.reduceMul]
      repeat' (first | simp -implicitDefEqProofs only [go_sem, Nat.reduceEqDiff, Nat.reduceAdd, Nat.reduceMul, Nat.reduceLeDiff, Nat.reduceSub, Nat.reduceLT, Nat.reduceBEq, Int.reduceToNat, reduceCtorEq, ↓reduceIte, Int.reduceEq, Int.reduceNeg, Int.reduceLT, Int.reduceLE, Int.reduceAdd, Int.reduceSub, Int.reduceMul] | simp -implicitDefEqProofs (disch := omega) only [iaq_vec, iao_arr, iaq_raw, rd_map, wrap_id, binq_quo, binq_rem, binq_shl, binq_shr, tdiv_pos, tmod_pos, if_pos, exV_some, Option.map_some] | ((first | with_reducible apply exIf_dec | ((with_reducible apply exGd_dec); focus exact rfl) | ((with_reducible apply exGq_dec); focus exact rfl) | with_reducible apply exIf_intro | ((with_reducible apply exGd_intro); focus exact rfl) | ((with_reducible apply exGq_intro); focus exact rfl)) <;> intro _))
      all_goals first | (exfalso; omega) | skip
      refine exC_intro M ?_
      rintro _ _ ⟨rfl, V, v1, v2, v3, rfl⟩
      rw [hu2]
      have nxt := ih (some V) (by rintro _ ⟨⟩; exact ⟨by rw [List.length_append]; omega, v2, v3.trans (t3.append u3)⟩) (by simp)
      simp only [reduceCtorEq, if_false] at nxt
      rw [List.nil_append, List.append_nil]
      clear ih
      simp -implicitDefEqProofs only [go_sem, Nat.reduceEqDiff, Nat.reduceAdd, Nat.reduceMul, Nat.reduceLeDiff, Nat.reduceSub, Nat.reduceLT, Nat.reduceBEq, Int.reduceToNat, reduceCtorEq, ↓reduceIte, Int.reduceEq, Int.reduceNeg, Int.reduceLT, Int.reduceLE, Int.reduceAdd, Int.reduceSub, Int.reduceMul]
      repeat' (first | simp -implicitDefEqProofs only [go_sem, Nat.reduceEqDiff, Nat.reduceAdd, Nat.reduceMul, Nat.reduceLeDiff, Nat.reduceSub, Nat.reduceLT, Nat.reduceBEq, Int.reduceToNat, reduceCtorEq, ↓reduceIte, Int.reduceEq, Int.reduceNeg, Int.reduceLT, Int.reduceLE, Int.reduceAdd, Int.reduceSub, Int.reduceMul] | simp -implicitDefEqProofs (disch := omega) only [iaq_vec, iao_arr, iaq_raw, rd_map, wrap_id, binq_quo, binq_rem, binq_shl, binq_shr, tdiv_pos, tmod_pos, if_pos, exV_some, Option.map_some] | ((first | with_reducible apply exIf_dec | ((with_reducible apply exGd_dec); focus exact rfl) | ((with_reducible apply exGq_dec); focus exact rfl) | with_reducible apply exIf_intro | ((with_reducible apply exGd_intro); focus exact rfl) | ((with_reducible apply exGq_intro); focus exact rfl)) <;> intro _))
      all_goals first | exact nxt | (exfalso; omega) | skip
      done
    · obtain ⟨v1, v2, v3⟩ := hV V rfl
      clear ih hV
      simp only [reduceCtorEq, if_false, S.up, S.upH, ups, Abs.put, Nat.reduceEqDiff, ↓reduceIte, Nat.reduceAdd]
      simp -implicitDefEqProofs only [congrArg KI.code sc_slices_stableCmpFunc_api_Rule_L1.eq_1, go_sem, Nat.reduceEqDiff, Nat.reduceAdd, Nat.reduceMul, Nat.reduceLeDiff, Nat.reduceSub, Nat.reduceLT, Nat.reduceBEq, Int.reduceToNat, reduceCtorEq, ↓reduceIte, Int.reduceEq, Int.reduceNeg, Int.reduceLT, Int.reduceLE, Int.reduceAdd, Int.reduceSub, Int.reduceMul]
      repeat' (first | simp -implicitDefEqProofs only [go_sem, Nat.reduceEqDiff, Nat.reduceAdd, Nat.reduceMul, Nat.reduceLeDiff, Nat.reduceSub, Nat.reduceLT, Nat.reduceBEq, Int.reduceToNat, reduceCtorEq, ↓reduceIte, Int.reduceEq, Int.reduceNeg, Int.reduceLT, Int.reduceLE, Int.reduceAdd, Int.reduceSub, Int.reduceMul] | simp -implicitDefEqProofs (disch := omega) only [iaq_vec, iao_arr, iaq_raw, rd_map, wrap_id, binq_quo, binq_rem, binq_shl, binq_shr, tdiv_pos, tmod_pos, if_pos, exV_some, Option.map_some] | ((first | with_reducible apply exIf_dec | ((with_reducible apply exGd_dec); focus exact rfl) | ((with_reducible apply exGq_dec); focus exact rfl) | with_reducible apply exIf_intro | ((with_reducible apply exGd_intro); focus exact rfl) | ((with_reducible apply exGq_intro); focus exact rfl)) <;> intro _))
      all_goals first | exact ⟨V, v1, v2, v3, rfl⟩ | exact ⟨V, by simpa using v1, v2, v3, rfl⟩ | (exfalso; omega) | skip
      done
theorem sortStable_c (H : AHeap) (b n cap : Nat) (l : List Rule) (ex : List AV) (cap' : Nat) (hn : n = l.length) (hl : n < 40) (hr : H b = some (rrow l ex cap')) :
    ACalls Try.prog 62 [dataV b n cap, cmpV] H fun r H' => r = .tup [] ∧ ∃ T : List Rule, T.length = l.length ∧ desc T ∧ keepF T l ∧ H' = upd H b (some (rrow T ex cap')) := by
  have S := if h : n < 20 then stableS_c H b n cap l ex cap' hn h hr else stableL_c H b n cap l ex cap' hn (by omega) hl hr
  refine ACalls.of_code fn_slices_SortStableFunc_api_Rule_api_Rule ?_
  simp -implicitDefEqProofs only [sc_slices_SortStableFunc_api_Rule_api_Rule, go_sem, Nat.reduceEqDiff, Nat.reduceAdd, Nat.reduceMul, Nat.reduceLeDiff, Nat.reduceSub, Nat.reduceLT, Nat.reduceBEq, Int.reduceToNat, reduceCtorEq, ↓reduceIte, Int.reduceEq, Int.reduceNeg, Int.reduceLT, Int.reduceLE, Int.reduceAdd, Int.reduceSub, Int.reduceMul]
  repeat' (first | simp -implicitDefEqProofs only [go_sem, Nat.reduceEqDiff, Nat.reduceAdd, Nat.reduceMul, Nat.reduceLeDiff, Nat.reduceSub, Nat.reduceLT, Nat.reduceBEq, Int.reduceToNat, reduceCtorEq, ↓reduceIte, Int.reduceEq, Int.reduceNeg, Int.reduceLT, Int.reduceLE, Int.reduceAdd, Int.reduceSub, Int.reduceMul] | simp -implicitDefEqProofs (disch := omega) only [iaq_vec, iao_arr, iaq_raw, rd_map, wrap_id, binq_quo, binq_rem, binq_shl, binq_shr, tdiv_pos, tmod_pos, if_pos, exV_some, Option.map_some] | ((first | with_reducible apply exIf_dec | ((with_reducible apply exGd_dec); focus exact rfl) | ((with_reducible apply exGq_dec); focus exact rfl) | with_reducible apply exIf_intro | ((with_reducible apply exGd_intro); focus exact rfl) | ((with_reducible apply exGq_intro); focus exact rfl)) <;> intro _))
  refine exC_intro S ?_
  rintro _ _ ⟨rfl, T, t1, t2, t3, rfl⟩
  simp -implicitDefEqProofs only [go_sem, Nat.reduceEqDiff, Nat.reduceAdd, Nat.reduceMul, Nat.reduceLeDiff, Nat.reduceSub, Nat.reduceLT, Nat.reduceBEq, Int.reduceToNat, reduceCtorEq, ↓reduceIte, Int.reduceEq, Int.reduceNeg, Int.reduceLT, Int.reduceLE, Int.reduceAdd, Int.reduceSub, Int.reduceMul]
  repeat' (first | simp -implicitDefEqProofs only [go_sem, Nat.reduceEqDiff, Nat.reduceAdd, Nat.reduceMul, Nat.reduceLeDiff, Nat.reduceSub, Nat.reduceLT, Nat.reduceBEq, Int.reduceToNat, reduceCtorEq, ↓reduceIte, Int.reduceEq, Int.reduceNeg, Int.reduceLT, Int.reduceLE, Int.reduceAdd, Int.reduceSub, Int.reduceMul] | simp -implicitDefEqProofs (disch := omega) only [iaq_vec, iao_arr, iaq_raw, rd_map, wrap_id, binq_quo, binq_rem, binq_shl, binq_shr, tdiv_pos, tmod_pos, if_pos, exV_some, Option.map_some] | ((first | with_reducible apply exIf_dec | ((with_reducible apply exGd_dec); focus exact rfl) | ((with_reducible apply exGq_dec); focus exact rfl) | with_reducible apply exIf_intro | ((with_reducible apply exGd_intro); focus exact rfl) | ((with_reducible apply exGq_intro); focus exact rfl)) <;> intro _))
  all_goals exact ⟨T, t1, t2, t3, rfl⟩
end Go.Proofs.Ytgahnhiidhkjaaa
end

section
/- Copies of rules; the rules of a node. -/
namespace Go.Proofs.Ytgahnhiidhkjaaa
open Go Abs
attribute [local irreducible] EX exL exG exC exCq exS exV exIf exGd exGq
set_option maxHeartbeats 2000000

/-- a want as a program can have one -/
def Want.nils (w : Want) : Prop := (w.viaNl = true → w.via = []) ∧ (w.nodesNl = true → w.nodes = []) ∧ (w.linksNl = true → w.links = []) ∧ (w.coloursNl = true → w.colours = [])
theorem clone_c (r : Rule) (hw : r.w.ok) (hz : r.w.nils) (H : AHeap) : APure Try.prog 61 [r.av] H r.av := by
  intro Q h
  obtain ⟨w1, w2, w3, w4⟩ := hw
  obtain ⟨z1, z2, z3, z4⟩ := hz
  have c1 := fun H => cloneInts_c r.w.viaNl r.w.via (by omega) z1 H
  have c2 := fun H => cloneInts_c r.w.nodesNl r.w.nodes (by omega) z2 H
  have c3 := fun H => cloneInts_c r.w.linksNl r.w.links (by omega) z3 H
  have c4 := fun H => cloneInts_c r.w.coloursNl r.w.colours (by omega) z4 H
  refine ACalls.of_code fn_sound_Clone ?_
  simp -implicitDefEqProofs only [sc_sound_Clone, Rule.av, Rule.cells_eq, sl, go_sem, Nat.reduceEqDiff, Nat.reduceAdd, Nat.reduceMul, Nat.reduceLeDiff, Nat.reduceSub, Nat.reduceLT, Nat.reduceBEq, Int.reduceToNat, reduceCtorEq, ↓reduceIte, Int.reduceEq, Int.reduceNeg, Int.reduceLT, Int.reduceLE, Int.reduceAdd, Int.reduceSub, Int.reduceMul]
  repeat' (first | simp -implicitDefEqProofs only [go_sem, Nat.reduceEqDiff, Nat.reduceAdd, Nat.reduceMul, Nat.reduceLeDiff, Nat.reduceSub, Nat.reduceLT, Nat.reduceBEq, Int.reduceToNat, reduceCtorEq, ↓reduceIte, Int.reduceEq, Int.reduceNeg, Int.reduceLT, Int.reduceLE, Int.reduceAdd, Int.reduceSub, Int.reduceMul] | simp -implicitDefEqProofs (disch := omega) only [iaq_vec, iao_arr, iaq_raw, rd_map, wrap_id, binq_quo, binq_rem, binq_shl, binq_shr, tdiv_pos, tmod_pos, if_pos, exV_some, Option.map_some] | ((first | with_reducible apply exIf_dec | ((with_reducible apply exGd_dec); focus exact rfl) | ((with_reducible apply exGq_dec); focus exact rfl) | with_reducible apply exIf_intro | ((with_reducible apply exGd_intro); focus exact rfl) | ((with_reducible apply exGq_intro); focus exact rfl)) <;> intro _) | with_reducible refine exC_pure (c1 _) ?_ | with_reducible refine exCq_pure (c1 _) ?_ | with_reducible refine exC_pure (c2 _) ?_ | with_reducible refine exCq_pure (c2 _) ?_ | with_reducible refine exC_pure (c3 _) ?_ | with_reducible refine exCq_pure (c3 _) ?_ | with_reducible refine exC_pure (c4 _) ?_ | with_reducible refine exCq_pure (c4 _) ?_)
  all_goals first | exact h | skip
  done
/-- a rule put in behind those that count as much -/
def insD (x : Rule) : List Rule → List Rule
  | [] => [x]
  | y :: t => if x.pri ≤ y.pri then y :: insD x t else x :: y :: t
theorem insD_mem {x : Rule} : ∀ {t : List Rule} {z : Rule}, z ∈ insD x t ↔ z = x ∨ z ∈ t
  | [], z => by simp [insD]
  | y :: t, z => by
    unfold insD
    split
    · rw [List.mem_cons, insD_mem, List.mem_cons]
      constructor <;> intro h <;> rcases h with h | h | h <;> simp [h]
    · simp
theorem insD_desc {x : Rule} : ∀ {t : List Rule}, desc t → desc (insD x t)
  | [], _ => desc_single x
  | y :: t, h => by
    have hh := List.pairwise_cons.1 h
    unfold insD
    split
    · rename_i hxy
      refine List.pairwise_cons.2 ⟨fun a ha => ?_, insD_desc hh.2⟩
      rcases insD_mem.1 ha with e | ha
      · rw [e]; exact hxy
      · exact hh.1 a ha
    · rename_i hxy
      refine List.pairwise_cons.2 ⟨fun a ha => ?_, h⟩
      rcases List.mem_cons.1 ha with e | ha
      · rw [e]; omega
      · have := hh.1 a ha; omega
theorem insD_keep {x : Rule} : ∀ {t : List Rule}, desc t → keepF (insD x t) (t ++ [x])
  | [], _ => .refl _
  | y :: t, h => by
    have hh := List.pairwise_cons.1 h
    unfold insD
    split
    · exact (keepF.refl [y]).append (insD_keep hh.2)
    · rename_i hxy
      refine keepF.swap (A := [x]) (B := y :: t) fun a ha c hc => ?_
      rw [List.mem_singleton.1 ha]
      rcases List.mem_cons.1 hc with e | hc
      · rw [e]; omega
      · have := hh.1 c hc; omega
/-- the rules of a node, those that count more ahead -/
def sortD (l : List Rule) : List Rule := l.foldl (fun acc x => insD x acc) []
theorem sortD_spec (l : List Rule) : desc (sortD l) ∧ keepF (sortD l) l := by
  have : ∀ (l acc m : List Rule), desc acc → keepF acc m → desc (l.foldl (fun acc x => insD x acc) acc) ∧ keepF (l.foldl (fun acc x => insD x acc) acc) (m ++ l) := by
    intro l
    induction l with
    | nil => intro acc m h1 h2; rw [List.append_nil]; exact ⟨h1, h2⟩
    | cons x l ih =>
      intro acc m h1 h2
      have := ih (insD x acc) (m ++ [x]) (insD_desc h1) ((insD_keep h1).trans (h2.append (.refl [x])))
      simpa using this
  have := this l [] [] .nil (.refl [])
  simpa [sortD] using this
def atL (l : List Rule) (node : Int) : List Rule := sortD (l.filter fun r => decide (r.w.src = node))
end Go.Proofs.Ytgahnhiidhkjaaa
end

section
/- The rules of a node, as the program tells them. -/
namespace Go.Proofs.Ytgahnhiidhkjaaa
open Go Abs
attribute [local irreducible] EX exL exG exC exCq exS exV exIf exGd exGq
set_option maxHeartbeats 4000000

theorem sortStable0_c (H : AHeap) : ACalls Try.prog 62 [.vec true [] 0, cmpV] H fun r H' => r = .tup [] ∧ H' = H := by
  have I : ∀ H, ACalls Try.prog 99 [.vec true [] 0, iv 0, iv 0, cmpV] H fun r H' => r = .tup [] ∧ H' = H := fun H => by
    refine ACalls.of_code fn_slices_insertionSortCmpFunc_api_Rule ?_
    simp -implicitDefEqProofs only [sc_slices_insertionSortCmpFunc_api_Rule, go_sem, Nat.reduceEqDiff, Nat.reduceAdd, Nat.reduceMul, Nat.reduceLeDiff, Nat.reduceSub, Nat.reduceLT, Nat.reduceBEq, Int.reduceToNat, reduceCtorEq, ↓reduceIte, Int.reduceEq, Int.reduceNeg, Int.reduceLT, Int.reduceLE, Int.reduceAdd, Int.reduceSub, Int.reduceMul]
    repeat' (first | simp -implicitDefEqProofs only [go_sem, Nat.reduceEqDiff, Nat.reduceAdd, Nat.reduceMul, Nat.reduceLeDiff, Nat.reduceSub, Nat.reduceLT, Nat.reduceBEq, Int.reduceToNat, reduceCtorEq, ↓reduceIte, Int.reduceEq, Int.reduceNeg, Int.reduceLT, Int.reduceLE, Int.reduceAdd, Int.reduceSub, Int.reduceMul] | simp -implicitDefEqProofs (disch := omega) only [iaq_vec, iao_arr, iaq_raw, rd_map, wrap_id, binq_quo, binq_rem, binq_shl, binq_shr, tdiv_pos, tmod_pos, if_pos, exV_some, Option.map_some] | ((first | with_reducible apply exIf_dec | ((with_reducible apply exGd_dec); focus exact rfl) | ((with_reducible apply exGq_dec); focus exact rfl) | with_reducible apply exIf_intro | ((with_reducible apply exGd_intro); focus exact rfl) | ((with_reducible apply exGq_intro); focus exact rfl)) <;> intro _))
    refine exL_mod (fun _ : Unit => []) (fun _ => []) (fun _ => True) (fun _ => 0) () rfl trivial ?_
    rintro - - -
    simp only [S.up, S.upH, ups, Abs.put, Nat.reduceEqDiff, ↓reduceIte, Nat.reduceAdd]
    simp -implicitDefEqProofs only [congrArg KI.code sc_slices_insertionSortCmpFunc_api_Rule_L1.eq_1, go_sem, Nat.reduceEqDiff, Nat.reduceAdd, Nat.reduceMul, Nat.reduceLeDiff, Nat.reduceSub, Nat.reduceLT, Nat.reduceBEq, Int.reduceToNat, reduceCtorEq, ↓reduceIte, Int.reduceEq, Int.reduceNeg, Int.reduceLT, Int.reduceLE, Int.reduceAdd, Int.reduceSub, Int.reduceMul]
    repeat' (first | simp -implicitDefEqProofs only [go_sem, Nat.reduceEqDiff, Nat.reduceAdd, Nat.reduceMul, Nat.reduceLeDiff, Nat.reduceSub, Nat.reduceLT, Nat.reduceBEq, Int.reduceToNat, reduceCtorEq, ↓reduceIte, Int.reduceEq, Int.reduceNeg, Int.reduceLT, Int.reduceLE, Int.reduceAdd, Int.reduceSub, Int.reduceMul] | simp -implicitDefEqProofs (disch := omega) only [iaq_vec, iao_arr, iaq_raw, rd_map, wrap_id, binq_quo, binq_rem, binq_shl, binq_shr, tdiv_pos, tmod_pos, if_pos, exV_some, Option.map_some] | ((first | with_reducible apply exIf_dec | ((with_reducible apply exGd_dec); focus exact rfl) | ((with_reducible apply exGq_dec); focus exact rfl) | with_reducible apply exIf_intro | ((with_reducible apply exGd_intro); focus exact rfl) | ((with_reducible apply exGq_intro); focus exact rfl)) <;> intro _))
    all_goals first | exact ⟨rfl, rfl⟩ | skip
  have S : ∀ H, ACalls Try.prog 84 [.vec true [] 0, iv 0, cmpV] H fun r H' => r = .tup [] ∧ H' = H := fun H => by
    refine ACalls.of_code fn_slices_stableCmpFunc_api_Rule ?_
    simp -implicitDefEqProofs only [sc_slices_stableCmpFunc_api_Rule, go_sem, Nat.reduceEqDiff, Nat.reduceAdd, Nat.reduceMul, Nat.reduceLeDiff, Nat.reduceSub, Nat.reduceLT, Nat.reduceBEq, Int.reduceToNat, reduceCtorEq, ↓reduceIte, Int.reduceEq, Int.reduceNeg, Int.reduceLT, Int.reduceLE, Int.reduceAdd, Int.reduceSub, Int.reduceMul]
    repeat' (first | simp -implicitDefEqProofs only [go_sem, Nat.reduceEqDiff, Nat.reduceAdd, Nat.reduceMul, Nat.reduceLeDiff, Nat.reduceSub, Nat.reduceLT, Nat.reduceBEq, Int.reduceToNat, reduceCtorEq, ↓reduceIte, Int.reduceEq, Int.reduceNeg, Int.reduceLT, Int.reduceLE, Int.reduceAdd, Int.reduceSub, Int.reduceMul] | simp -implicitDefEqProofs (disch := omega) only [iaq_vec, iao_arr, iaq_raw, rd_map, wrap_id, binq_quo, binq_rem, binq_shl, binq_shr, tdiv_pos, tmod_pos, if_pos, exV_some, Option.map_some] | ((first | with_reducible apply exIf_dec | ((with_reducible apply exGd_dec); focus exact rfl) | ((with_reducible apply exGq_dec); focus exact rfl) | with_reducible apply exIf_intro | ((with_reducible apply exGd_intro); focus exact rfl) | ((with_reducible apply exGq_intro); focus exact rfl)) <;> intro _))
    refine exL_mod (fun _ : Unit => []) (fun _ => []) (fun _ => True) (fun _ => 0) () rfl trivial ?_
    rintro - - -
    simp only [S.up, S.upH, ups, Abs.put, Nat.reduceEqDiff, ↓reduceIte, Nat.reduceAdd]
    simp -implicitDefEqProofs only [congrArg KI.code sc_slices_stableCmpFunc_api_Rule_L2.eq_1, go_sem, Nat.reduceEqDiff, Nat.reduceAdd, Nat.reduceMul, Nat.reduceLeDiff, Nat.reduceSub, Nat.reduceLT, Nat.reduceBEq, Int.reduceToNat, reduceCtorEq, ↓reduceIte, Int.reduceEq, Int.reduceNeg, Int.reduceLT, Int.reduceLE, Int.reduceAdd, Int.reduceSub, Int.reduceMul]
    repeat' (first | simp -implicitDefEqProofs only [go_sem, Nat.reduceEqDiff, Nat.reduceAdd, Nat.reduceMul, Nat.reduceLeDiff, Nat.reduceSub, Nat.reduceLT, Nat.reduceBEq, Int.reduceToNat, reduceCtorEq, ↓reduceIte, Int.reduceEq, Int.reduceNeg, Int.reduceLT, Int.reduceLE, Int.reduceAdd, Int.reduceSub, Int.reduceMul] | simp -implicitDefEqProofs (disch := omega) only [iaq_vec, iao_arr, iaq_raw, rd_map, wrap_id, binq_quo, binq_rem, binq_shl, binq_shr, tdiv_pos, tmod_pos, if_pos, exV_some, Option.map_some] | ((first | with_reducible apply exIf_dec | ((with_reducible apply exGd_dec); focus exact rfl) | ((with_reducible apply exGq_dec); focus exact rfl) | with_reducible apply exIf_intro | ((with_reducible apply exGd_intro); focus exact rfl) | ((with_reducible apply exGq_intro); focus exact rfl)) <;> intro _))
    refine exC_upd (I H) ?_
    simp -implicitDefEqProofs only [go_sem, Nat.reduceEqDiff, Nat.reduceAdd, Nat.reduceMul, Nat.reduceLeDiff, Nat.reduceSub, Nat.reduceLT, Nat.reduceBEq, Int.reduceToNat, reduceCtorEq, ↓reduceIte, Int.reduceEq, Int.reduceNeg, Int.reduceLT, Int.reduceLE, Int.reduceAdd, Int.reduceSub, Int.reduceMul]
    repeat' (first | simp -implicitDefEqProofs only [go_sem, Nat.reduceEqDiff, Nat.reduceAdd, Nat.reduceMul, Nat.reduceLeDiff, Nat.reduceSub, Nat.reduceLT, Nat.reduceBEq, Int.reduceToNat, reduceCtorEq, ↓reduceIte, Int.reduceEq, Int.reduceNeg, Int.reduceLT, Int.reduceLE, Int.reduceAdd, Int.reduceSub, Int.reduceMul] | simp -implicitDefEqProofs (disch := omega) only [iaq_vec, iao_arr, iaq_raw, rd_map, wrap_id, binq_quo, binq_rem, binq_shl, binq_shr, tdiv_pos, tmod_pos, if_pos, exV_some, Option.map_some] | ((first | with_reducible apply exIf_dec | ((with_reducible apply exGd_dec); focus exact rfl) | ((with_reducible apply exGq_dec); focus exact rfl) | with_reducible apply exIf_intro | ((with_reducible apply exGd_intro); focus exact rfl) | ((with_reducible apply exGq_intro); focus exact rfl)) <;> intro _))
    refine exL_mod (fun _ : Unit => []) (fun _ => []) (fun _ => True) (fun _ => 0) () rfl trivial ?_
    rintro - - -
    simp only [S.up, S.upH, ups, Abs.put, Nat.reduceEqDiff, ↓reduceIte, Nat.reduceAdd]
    simp -implicitDefEqProofs only [congrArg KI.code sc_slices_stableCmpFunc_api_Rule_L1.eq_1, go_sem, Nat.reduceEqDiff, Nat.reduceAdd, Nat.reduceMul, Nat.reduceLeDiff, Nat.reduceSub, Nat.reduceLT, Nat.reduceBEq, Int.reduceToNat, reduceCtorEq, ↓reduceIte, Int.reduceEq, Int.reduceNeg, Int.reduceLT, Int.reduceLE, Int.reduceAdd, Int.reduceSub, Int.reduceMul]
    repeat' (first | simp -implicitDefEqProofs only [go_sem, Nat.reduceEqDiff, Nat.reduceAdd, Nat.reduceMul, Nat.reduceLeDiff, Nat.reduceSub, Nat.reduceLT, Nat.reduceBEq, Int.reduceToNat, reduceCtorEq, ↓reduceIte, Int.reduceEq, Int.reduceNeg, Int.reduceLT, Int.reduceLE, Int.reduceAdd, Int.reduceSub, Int.reduceMul] | simp -implicitDefEqProofs (disch := omega) only [iaq_vec, iao_arr, iaq_raw, rd_map, wrap_id, binq_quo, binq_rem, binq_shl, binq_shr, tdiv_pos, tmod_pos, if_pos, exV_some, Option.map_some] | ((first | with_reducible apply exIf_dec | ((with_reducible apply exGd_dec); focus exact rfl) | ((with_reducible apply exGq_dec); focus exact rfl) | with_reducible apply exIf_intro | ((with_reducible apply exGd_intro); focus exact rfl) | ((with_reducible apply exGq_intro); focus exact rfl)) <;> intro _))
    all_goals first | exact ⟨rfl, rfl⟩ | skip
  refine ACalls.of_code fn_slices_SortStableFunc_api_Rule_api_Rule ?_
  simp -implicitDefEqProofs only [sc_slices_SortStableFunc_api_Rule_api_Rule, go_sem, Nat.reduceEqDiff, Nat.reduceAdd, Nat.reduceMul, Nat.reduceLeDiff, Nat.reduceSub, Nat.reduceLT, Nat.reduceBEq, Int.reduceToNat, reduceCtorEq, ↓reduceIte, Int.reduceEq, Int.reduceNeg, Int.reduceLT, Int.reduceLE, Int.reduceAdd, Int.reduceSub, Int.reduceMul]
  repeat' (first | simp -implicitDefEqProofs only [go_sem, Nat.reduceEqDiff, Nat.reduceAdd, Nat.reduceMul, Nat.reduceLeDiff, Nat.reduceSub, Nat.reduceLT, Nat.reduceBEq, Int.reduceToNat, reduceCtorEq, ↓reduceIte, Int.reduceEq, Int.reduceNeg, Int.reduceLT, Int.reduceLE, Int.reduceAdd, Int.reduceSub, Int.reduceMul] | simp -implicitDefEqProofs (disch := omega) only [iaq_vec, iao_arr, iaq_raw, rd_map, wrap_id, binq_quo, binq_rem, binq_shl, binq_shr, tdiv_pos, tmod_pos, if_pos, exV_some, Option.map_some] | ((first | with_reducible apply exIf_dec | ((with_reducible apply exGd_dec); focus exact rfl) | ((with_reducible apply exGq_dec); focus exact rfl) | with_reducible apply exIf_intro | ((with_reducible apply exGd_intro); focus exact rfl) | ((with_reducible apply exGq_intro); focus exact rfl)) <;> intro _))
  refine exC_upd (S H) ?_
  simp -implicitDefEqProofs only [go_sem, Nat.reduceEqDiff, Nat.reduceAdd, Nat.reduceMul, Nat.reduceLeDiff, Nat.reduceSub, Nat.reduceLT, Nat.reduceBEq, Int.reduceToNat, reduceCtorEq, ↓reduceIte, Int.reduceEq, Int.reduceNeg, Int.reduceLT, Int.reduceLE, Int.reduceAdd, Int.reduceSub, Int.reduceMul]
  repeat' (first | simp -implicitDefEqProofs only [go_sem, Nat.reduceEqDiff, Nat.reduceAdd, Nat.reduceMul, Nat.reduceLeDiff, Nat.reduceSub, Nat.reduceLT, Nat.reduceBEq, Int.reduceToNat, reduceCtorEq, ↓reduceIte, Int.reduceEq, Int.reduceNeg, Int.reduceLT, Int.reduceLE, Int.reduceAdd, Int.reduceSub, Int.reduceMul] | simp -implicitDefEqProofs (disch := omega) only [iaq_vec, iao_arr, iaq_raw, rd_map, wrap_id, binq_quo, binq_rem, binq_shl, binq_shr, tdiv_pos, tmod_pos, if_pos, exV_some, Option.map_some] | ((first | with_reducible apply exIf_dec | ((with_reducible apply exGd_dec); focus exact rfl) | ((with_reducible apply exGq_dec); focus exact rfl) | with_reducible apply exIf_intro | ((with_reducible apply exGd_intro); focus exact rfl) | ((with_reducible apply exGq_intro); focus exact rfl)) <;> intro _))
  all_goals first | exact ⟨rfl, rfl⟩ | skip
end Go.Proofs.Ytgahnhiidhkjaaa
end

section
/- The rules of a node, as the program tells them. -/
namespace Go.Proofs.Ytgahnhiidhkjaaa
open Go Abs
attribute [local irreducible] EX exL exG exC exCq exS exV exIf exGd exGq
set_option maxHeartbeats 4000000

theorem rd_rule_v {l : List Rule} {i : Int} (h0 : 0 ≤ i) (h1 : i < l.length) : rdV (rows l) (i.toNat * 17) 17 true = some (gi l i).av := rd_row rfl h0 h1
/-- rules as a program can have them -/
def Rule.fine (r : Rule) : Prop := r.w.ok ∧ r.w.nils
def pick (l : List Rule) (node : Int) (i : Int) : List Rule := (l.take i.toNat).filter fun r => decide (r.w.src = node)
theorem at_c (nl : Bool) (l : List Rule) (hl : l.length < 40) (hf : ∀ r ∈ l, r.fine) (node : Int) (H : AHeap) :
    APure Try.prog 42 [.vec nl (rows l) l.length, iv node] H (.vec (atL l node).isEmpty (rows (atL l node)) (atL l node).length) := by
  intro Q h
  have key : ACalls Try.prog 42 [.vec nl (rows l) l.length, iv node] H fun r H1 => ∃ T : List Rule, desc T ∧ keepF T (pick l node l.length) ∧ ((T = [] ∧ r = .vec true [] 0 ∧ H1 = H) ∨ (T ≠ [] ∧ OnH H H1 36 17 r (rows T) T.length)) := by
    refine ACalls.of_code fn_sound_At ?_
    simp -implicitDefEqProofs only [sc_sound_At, go_sem, Nat.reduceEqDiff, Nat.reduceAdd, Nat.reduceMul, Nat.reduceLeDiff, Nat.reduceSub, Nat.reduceLT, Nat.reduceBEq, Int.reduceToNat, reduceCtorEq, ↓reduceIte, Int.reduceEq, Int.reduceNeg, Int.reduceLT, Int.reduceLE, Int.reduceAdd, Int.reduceSub, Int.reduceMul]
    repeat' (first | simp -implicitDefEqProofs only [go_sem, Nat.reduceEqDiff, Nat.reduceAdd, Nat.reduceMul, Nat.reduceLeDiff, Nat.reduceSub, Nat.reduceLT, Nat.reduceBEq, Int.reduceToNat, reduceCtorEq, ↓reduceIte, Int.reduceEq, Int.reduceNeg, Int.reduceLT, Int.reduceLE, Int.reduceAdd, Int.reduceSub, Int.reduceMul] | simp -implicitDefEqProofs (disch := omega) only [iaq_vec, iao_arr, iaq_raw, rd_map, wrap_id, binq_quo, binq_rem, binq_shl, binq_shr, tdiv_pos, tmod_pos, if_pos, exV_some, Option.map_some] | ((first | with_reducible apply exIf_dec | ((with_reducible apply exGd_dec); focus exact rfl) | ((with_reducible apply exGq_dec); focus exact rfl) | with_reducible apply exIf_intro | ((with_reducible apply exGd_intro); focus exact rfl) | ((with_reducible apply exGq_intro); focus exact rfl)) <;> intro _))
    refine exL_modH (fun a : Int × AV × AHeap => [(5, .v a.2.1), (10, .v (iv a.1))]) (fun _ => []) (fun a => a.2.2) (fun a => 0 ≤ a.1 ∧ a.1 ≤ l.length ∧ OnN H a.2.2 36 17 a.2.1 (rows (pick l node a.1)) (pick l node a.1).length ∧ (pick l node a.1 = [] → a.2.1 = .vec true [] 0 ∧ a.2.2 = H)) (fun a => (l.length - a.1).toNat) (0, .vec true [] 0, H) rfl ⟨by simp, by simp, OnN.nil _ _ _, fun _ => ⟨rfl, rfl⟩⟩ ?_
    rintro ⟨i, v, H'⟩ ⟨i0, i1, hon, hnn⟩ ih
    dsimp only at i0 i1 hon hnn ih
    simp only [S.up, S.upH, ups, Abs.put, Nat.reduceEqDiff, ↓reduceIte, Nat.reduceAdd] at ih
    simp -implicitDefEqProofs only [congrArg KI.code sc_sound_At_L0.eq_1, go_sem, Nat.reduceEqDiff, Nat.reduceAdd, Nat.reduceMul, Nat.reduceLeDiff, Nat.reduceSub, Nat.reduceLT, Nat.reduceBEq, Int.reduceToNat, reduceCtorEq, ↓reduceIte, Int.reduceEq, Int.reduceNeg, Int.reduceLT, Int.reduceLE, Int.reduceAdd, Int.reduceSub, Int.reduceMul]
    by_cases hi : i < l.length
    · have hfi := hf _ (gi_mem i0 hi)
      have hcl := clone_c (gi l i) hfi.1 hfi.2
      simp only [Rule.av, Rule.cells_eq, sl] at hcl
      have hpk : pick l node (i + 1) = pick l node i ++ if (gi l i).w.src = node then [gi l i] else [] := by
        unfold pick
        rw [show (i + 1).toNat = i.toNat + 1 by omega, List.take_add_one, List.filter_append, List.getElem?_eq_getElem (by omega), gi_get (by omega)]
        simp only [Option.toList_some, List.filter_cons, List.filter_nil, decide_eq_true_eq]
      have hpl : (pick l node i).length ≤ l.length := by
        unfold pick
        exact Nat.le_trans (List.length_filter_le _ _) (by rw [List.length_take]; omega)
      have nxt := fun v1 H1 hh h2 => ih (i + 1, v1, H1) ⟨by dsimp only; omega, by dsimp only; omega, hh, h2⟩ (by dsimp only; omega)
      clear ih
      dsimp only at nxt
      by_cases hsrc : (gi l i).w.src = node
      · rw [if_pos hsrc] at hpk
        repeat' (first | simp -implicitDefEqProofs only [go_sem, Nat.reduceEqDiff, Nat.reduceAdd, Nat.reduceMul, Nat.reduceLeDiff, Nat.reduceSub, Nat.reduceLT, Nat.reduceBEq, Int.reduceToNat, reduceCtorEq, ↓reduceIte, Int.reduceEq, Int.reduceNeg, Int.reduceLT, Int.reduceLE, Int.reduceAdd, Int.reduceSub, Int.reduceMul] | simp -implicitDefEqProofs (disch := omega) only [rd_rule_v, Rule.av, Rule.cells_eq, sl, iaq_vec, iao_arr, iaq_raw, rd_map, wrap_id, binq_quo, binq_rem, binq_shl, binq_shr, tdiv_pos, tmod_pos, if_pos, exV_some, Option.map_some] | ((first | with_reducible apply exIf_dec | ((with_reducible apply exGd_dec); focus exact rfl) | ((with_reducible apply exGq_dec); focus exact rfl) | with_reducible apply exIf_intro | ((with_reducible apply exGd_intro); focus exact rfl) | ((with_reducible apply exGq_intro); focus exact rfl)) <;> intro _) | with_reducible refine exC_pure (hcl _) ?_ | with_reducible refine exCq_pure (hcl _) ?_)
        all_goals first | (exfalso; omega) | skip
        refine OnN.app hon rfl (by rfl) (by omega) (by simp only [maxLen]; omega) fun H1 v1 h1 _ => ?_
        have nx := nxt v1 H1 (by rw [hpk]; simpa [rows_append, rows_one, Rule.cells_eq, sl] using h1) (by rw [hpk]; intro e; simp at e)
        repeat' (first | simp -implicitDefEqProofs only [go_sem, Nat.reduceEqDiff, Nat.reduceAdd, Nat.reduceMul, Nat.reduceLeDiff, Nat.reduceSub, Nat.reduceLT, Nat.reduceBEq, Int.reduceToNat, reduceCtorEq, ↓reduceIte, Int.reduceEq, Int.reduceNeg, Int.reduceLT, Int.reduceLE, Int.reduceAdd, Int.reduceSub, Int.reduceMul] | simp -implicitDefEqProofs (disch := omega) only [iaq_vec, iao_arr, iaq_raw, rd_map, wrap_id, binq_quo, binq_rem, binq_shl, binq_shr, tdiv_pos, tmod_pos, if_pos, exV_some, Option.map_some] | ((first | with_reducible apply exIf_dec | ((with_reducible apply exGd_dec); focus exact rfl) | ((with_reducible apply exGq_dec); focus exact rfl) | with_reducible apply exIf_intro | ((with_reducible apply exGd_intro); focus exact rfl) | ((with_reducible apply exGq_intro); focus exact rfl)) <;> intro _))
        all_goals first | exact nx | (exfalso; omega) | skip
        done
      · rw [if_neg hsrc, List.append_nil] at hpk
        have nx := nxt v H' (by rw [hpk]; exact hon) (by rw [hpk]; exact hnn)
        repeat' (first | simp -implicitDefEqProofs only [go_sem, Nat.reduceEqDiff, Nat.reduceAdd, Nat.reduceMul, Nat.reduceLeDiff, Nat.reduceSub, Nat.reduceLT, Nat.reduceBEq, Int.reduceToNat, reduceCtorEq, ↓reduceIte, Int.reduceEq, Int.reduceNeg, Int.reduceLT, Int.reduceLE, Int.reduceAdd, Int.reduceSub, Int.reduceMul] | simp -implicitDefEqProofs (disch := omega) only [rd_rule_v, Rule.av, Rule.cells_eq, sl, iaq_vec, iao_arr, iaq_raw, rd_map, wrap_id, binq_quo, binq_rem, binq_shl, binq_shr, tdiv_pos, tmod_pos, if_pos, exV_some, Option.map_some] | ((first | with_reducible apply exIf_dec | ((with_reducible apply exGd_dec); focus exact rfl) | ((with_reducible apply exGq_dec); focus exact rfl) | with_reducible apply exIf_intro | ((with_reducible apply exGd_intro); focus exact rfl) | ((with_reducible apply exGq_intro); focus exact rfl)) <;> intro _) | with_reducible refine exC_pure (hcl _) ?_ | with_reducible refine exCq_pure (hcl _) ?_)
        all_goals first | exact nx | (exfalso; omega) | skip
        done
    · obtain rfl : i = l.length := by omega
      clear ih
      by_cases hnil : pick l node l.length = []
      · obtain ⟨rfl, rfl⟩ := hnn hnil
        repeat' (first | simp -implicitDefEqProofs only [go_sem, Nat.reduceEqDiff, Nat.reduceAdd, Nat.reduceMul, Nat.reduceLeDiff, Nat.reduceSub, Nat.reduceLT, Nat.reduceBEq, Int.reduceToNat, reduceCtorEq, ↓reduceIte, Int.reduceEq, Int.reduceNeg, Int.reduceLT, Int.reduceLE, Int.reduceAdd, Int.reduceSub, Int.reduceMul] | simp -implicitDefEqProofs (disch := omega) only [iaq_vec, iao_arr, iaq_raw, rd_map, wrap_id, binq_quo, binq_rem, binq_shl, binq_shr, tdiv_pos, tmod_pos, if_pos, exV_some, Option.map_some] | ((first | with_reducible apply exIf_dec | ((with_reducible apply exGd_dec); focus exact rfl) | ((with_reducible apply exGq_dec); focus exact rfl) | with_reducible apply exIf_intro | ((with_reducible apply exGd_intro); focus exact rfl) | ((with_reducible apply exGq_intro); focus exact rfl)) <;> intro _))
        all_goals first | (exfalso; omega) | skip
        refine exC_upd (sortStable0_c _) ?_
        simp -implicitDefEqProofs only [go_sem, Nat.reduceEqDiff, Nat.reduceAdd, Nat.reduceMul, Nat.reduceLeDiff, Nat.reduceSub, Nat.reduceLT, Nat.reduceBEq, Int.reduceToNat, reduceCtorEq, ↓reduceIte, Int.reduceEq, Int.reduceNeg, Int.reduceLT, Int.reduceLE, Int.reduceAdd, Int.reduceSub, Int.reduceMul]
        repeat' (first | simp -implicitDefEqProofs only [go_sem, Nat.reduceEqDiff, Nat.reduceAdd, Nat.reduceMul, Nat.reduceLeDiff, Nat.reduceSub, Nat.reduceLT, Nat.reduceBEq, Int.reduceToNat, reduceCtorEq, ↓reduceIte, Int.reduceEq, Int.reduceNeg, Int.reduceLT, Int.reduceLE, Int.reduceAdd, Int.reduceSub, Int.reduceMul] | simp -implicitDefEqProofs (disch := omega) only [iaq_vec, iao_arr, iaq_raw, rd_map, wrap_id, binq_quo, binq_rem, binq_shl, binq_shr, tdiv_pos, tmod_pos, if_pos, exV_some, Option.map_some] | ((first | with_reducible apply exIf_dec | ((with_reducible apply exGd_dec); focus exact rfl) | ((with_reducible apply exGq_dec); focus exact rfl) | with_reducible apply exIf_intro | ((with_reducible apply exGd_intro); focus exact rfl) | ((with_reducible apply exGq_intro); focus exact rfl)) <;> intro _))
        all_goals first | exact ⟨[], .nil, by rw [hnil]; exact .refl _, .inl rfl⟩ | skip
        done
      · have hon := hon.resolve_left fun hh => hnil (List.eq_nil_of_length_eq_zero hh.2.2.1)
        obtain ⟨hbase, hlc, b, cap, rfl, hat, hbn, hcap⟩ := hon
        have S := sortStable_c H' b _ cap (pick l node l.length) [] cap rfl (by unfold pick; exact Nat.lt_of_le_of_lt (Nat.le_trans (List.length_filter_le _ _) (by rw [List.length_take]; omega)) hl) (by rw [rrow, List.append_nil]; exact hat)
        repeat' (first | simp -implicitDefEqProofs only [go_sem, Nat.reduceEqDiff, Nat.reduceAdd, Nat.reduceMul, Nat.reduceLeDiff, Nat.reduceSub, Nat.reduceLT, Nat.reduceBEq, Int.reduceToNat, reduceCtorEq, ↓reduceIte, Int.reduceEq, Int.reduceNeg, Int.reduceLT, Int.reduceLE, Int.reduceAdd, Int.reduceSub, Int.reduceMul] | simp -implicitDefEqProofs (disch := omega) only [iaq_vec, iao_arr, iaq_raw, rd_map, wrap_id, binq_quo, binq_rem, binq_shl, binq_shr, tdiv_pos, tmod_pos, if_pos, exV_some, Option.map_some] | ((first | with_reducible apply exIf_dec | ((with_reducible apply exGd_dec); focus exact rfl) | ((with_reducible apply exGq_dec); focus exact rfl) | with_reducible apply exIf_intro | ((with_reducible apply exGd_intro); focus exact rfl) | ((with_reducible apply exGq_intro); focus exact rfl)) <;> intro _))
        all_goals first | (exfalso; omega) | skip
        refine exC_intro S ?_
        rintro _ _ ⟨rfl, T, t1, t2, t3, rfl⟩
        simp -implicitDefEqProofs only [go_sem, Nat.reduceEqDiff, Nat.reduceAdd, Nat.reduceMul, Nat.reduceLeDiff, Nat.reduceSub, Nat.reduceLT, Nat.reduceBEq, Int.reduceToNat, reduceCtorEq, ↓reduceIte, Int.reduceEq, Int.reduceNeg, Int.reduceLT, Int.reduceLE, Int.reduceAdd, Int.reduceSub, Int.reduceMul]
        repeat' (first | simp -implicitDefEqProofs only [go_sem, Nat.reduceEqDiff, Nat.reduceAdd, Nat.reduceMul, Nat.reduceLeDiff, Nat.reduceSub, Nat.reduceLT, Nat.reduceBEq, Int.reduceToNat, reduceCtorEq, ↓reduceIte, Int.reduceEq, Int.reduceNeg, Int.reduceLT, Int.reduceLE, Int.reduceAdd, Int.reduceSub, Int.reduceMul] | simp -implicitDefEqProofs (disch := omega) only [iaq_vec, iao_arr, iaq_raw, rd_map, wrap_id, binq_quo, binq_rem, binq_shl, binq_shr, tdiv_pos, tmod_pos, if_pos, exV_some, Option.map_some] | ((first | with_reducible apply exIf_dec | ((with_reducible apply exGd_dec); focus exact rfl) | ((with_reducible apply exGq_dec); focus exact rfl) | with_reducible apply exIf_intro | ((with_reducible apply exGd_intro); focus exact rfl) | ((with_reducible apply exGq_intro); focus exact rfl)) <;> intro _))
        refine ⟨T, t2, t3, .inr ⟨fun hT => hnil (List.eq_nil_of_length_eq_zero (by rw [← t1, hT]; rfl)), fun b' o ho => ?_, by rw [rows_length, Rule.sz_eq], b, cap, by rw [t1], by rw [upd_self, rrow, List.append_nil], hbn, by omega⟩⟩
        rw [upd_ne _ _ (by rintro rfl; rw [hbn] at ho; cases ho)]
        exact hbase b' o ho
  have hall : pick l node l.length = l.filter fun r => decide (r.w.src = node) := by rw [pick, Int.toNat_natCast, List.take_length]
  have hT : ∀ T, desc T → keepF T (pick l node l.length) → T = atL l node := fun T h1 h2 => by
    have hs := sortD_spec (l.filter fun r => decide (r.w.src = node))
    rw [hall] at h2
    exact (h2.trans hs.2.symm).unique h1 hs.1
  by_cases he : atL l node = []
  · rw [he] at h
    refine key.mono ?_
    rintro r H1 ⟨T, h1, h2, ⟨rfl, rfl, rfl⟩ | ⟨h3, -⟩⟩
    · exact h
    · exact absurd ((hT T h1 h2).trans he) h3
  · have hie : (atL l node).isEmpty = false := by simpa using he
    rw [hie] at h
    refine relax_slice h (fun h0 hh => ?_) ?_
    · have := congrArg List.length hh
      rw [rows_length, Rule.sz_eq, List.length_nil] at this
      omega
    refine key.mono ?_
    rintro r H1 ⟨T, h1, h2, ⟨rfl, rfl, rfl⟩ | ⟨h3, h4⟩⟩
    · exact absurd (hT [] h1 h2).symm he
    · rw [hT T h1 h2] at h4
      exact h4.done
end Go.Proofs.Ytgahnhiidhkjaaa
end

section
/- Small functions of chapter 14. -/
namespace Go.Proofs.Ytgahnhiidhkjaaa
open Go Abs
attribute [local irreducible] EX exL exG exC exCq exS exV exIf exGd exGq
set_option maxHeartbeats 1000000

theorem length_c (a n : Int) (H : AHeap) : APure Try.prog 81 [.agg [uv a, iv n]] H (bv (decide (0 ≤ n ∧ n ≤ 32))) := by
  intro Q h
  refine ACalls.of_code fn_sound_length ?_
  simp -implicitDefEqProofs only [sc_sound_length, go_sem, Nat.reduceEqDiff, Nat.reduceAdd, Nat.reduceMul, Nat.reduceLeDiff, Nat.reduceSub, Nat.reduceLT, Nat.reduceBEq, Int.reduceToNat, reduceCtorEq, ↓reduceIte, Int.reduceEq, Int.reduceNeg, Int.reduceLT, Int.reduceLE, Int.reduceAdd, Int.reduceSub, Int.reduceMul]
  repeat' (first | simp -implicitDefEqProofs only [go_sem, Nat.reduceEqDiff, Nat.reduceAdd, Nat.reduceMul, Nat.reduceLeDiff, Nat.reduceSub, Nat.reduceLT, Nat.reduceBEq, Int.reduceToNat, reduceCtorEq, ↓reduceIte, Int.reduceEq, Int.reduceNeg, Int.reduceLT, Int.reduceLE, Int.reduceAdd, Int.reduceSub, Int.reduceMul] | simp -implicitDefEqProofs (disch := omega) only [iaq_vec, iao_arr, iaq_raw, rd_map, wrap_id, binq_quo, binq_rem, binq_shl, binq_shr, tdiv_pos, tmod_pos, if_pos, exV_some, Option.map_some] | ((first | with_reducible apply exIf_dec | ((with_reducible apply exGd_dec); focus exact rfl) | ((with_reducible apply exGq_dec); focus exact rfl) | with_reducible apply exIf_intro | ((with_reducible apply exGd_intro); focus exact rfl) | ((with_reducible apply exGq_intro); focus exact rfl)) <;> intro _))
  · refine fin_ h ?_
    show bv _ = bv _
    congr 1
    rw [decide_eq_decide]; omega
  · refine fin_ h ?_
    rw [decide_eq_false (by omega)]
def portsOk (p s d : Int) : Bool := decide (0 ≤ p ∧ p ≤ 255 ∧ 0 ≤ s ∧ s ≤ 65535 ∧ 0 ≤ d ∧ d ≤ 65535)
theorem ports_c (p s d : Int) (H : AHeap) : APure Try.prog 80 [iv p, iv s, iv d] H (bv (portsOk p s d)) := by
  intro Q h
  refine ACalls.of_code fn_packet_Right ?_
  simp -implicitDefEqProofs only [sc_packet_Right, go_sem, Nat.reduceEqDiff, Nat.reduceAdd, Nat.reduceMul, Nat.reduceLeDiff, Nat.reduceSub, Nat.reduceLT, Nat.reduceBEq, Int.reduceToNat, reduceCtorEq, ↓reduceIte, Int.reduceEq, Int.reduceNeg, Int.reduceLT, Int.reduceLE, Int.reduceAdd, Int.reduceSub, Int.reduceMul]
  repeat' (first | simp -implicitDefEqProofs only [go_sem, Nat.reduceEqDiff, Nat.reduceAdd, Nat.reduceMul, Nat.reduceLeDiff, Nat.reduceSub, Nat.reduceLT, Nat.reduceBEq, Int.reduceToNat, reduceCtorEq, ↓reduceIte, Int.reduceEq, Int.reduceNeg, Int.reduceLT, Int.reduceLE, Int.reduceAdd, Int.reduceSub, Int.reduceMul] | simp -implicitDefEqProofs (disch := omega) only [iaq_vec, iao_arr, iaq_raw, rd_map, wrap_id, binq_quo, binq_rem, binq_shl, binq_shr, tdiv_pos, tmod_pos, if_pos, exV_some, Option.map_some] | ((first | with_reducible apply exIf_dec | ((with_reducible apply exGd_dec); focus exact rfl) | ((with_reducible apply exGq_dec); focus exact rfl) | with_reducible apply exIf_intro | ((with_reducible apply exGd_intro); focus exact rfl) | ((with_reducible apply exGq_intro); focus exact rfl)) <;> intro _))
  all_goals
    refine fin_ h ?_
    show bv _ = bv _
    congr 1
    unfold portsOk
    first | (rw [decide_eq_decide]; omega) | (symm; rw [decide_eq_false_iff_not]; omega)
theorem same_c (a b : Int) (H : AHeap) : APure Try.prog 66 [iv a, iv b] H (bv (decide (a = 0 ∨ a = b))) := by
  intro Q h
  refine ACalls.of_code fn_prefix_same ?_
  simp -implicitDefEqProofs only [sc_prefix_same, go_sem, Nat.reduceEqDiff, Nat.reduceAdd, Nat.reduceMul, Nat.reduceLeDiff, Nat.reduceSub, Nat.reduceLT, Nat.reduceBEq, Int.reduceToNat, reduceCtorEq, ↓reduceIte, Int.reduceEq, Int.reduceNeg, Int.reduceLT, Int.reduceLE, Int.reduceAdd, Int.reduceSub, Int.reduceMul]
  repeat' (first | simp -implicitDefEqProofs only [go_sem, Nat.reduceEqDiff, Nat.reduceAdd, Nat.reduceMul, Nat.reduceLeDiff, Nat.reduceSub, Nat.reduceLT, Nat.reduceBEq, Int.reduceToNat, reduceCtorEq, ↓reduceIte, Int.reduceEq, Int.reduceNeg, Int.reduceLT, Int.reduceLE, Int.reduceAdd, Int.reduceSub, Int.reduceMul] | simp -implicitDefEqProofs (disch := omega) only [iaq_vec, iao_arr, iaq_raw, rd_map, wrap_id, binq_quo, binq_rem, binq_shl, binq_shr, tdiv_pos, tmod_pos, if_pos, exV_some, Option.map_some] | ((first | with_reducible apply exIf_dec | ((with_reducible apply exGd_dec); focus exact rfl) | ((with_reducible apply exGq_dec); focus exact rfl) | with_reducible apply exIf_intro | ((with_reducible apply exGd_intro); focus exact rfl) | ((with_reducible apply exGq_intro); focus exact rfl)) <;> intro _))
  all_goals
    refine fin_ h ?_
    show bv _ = bv _
    congr 1
    first | (rw [decide_eq_decide]; omega) | (symm; rw [decide_eq_true_iff]; omega)
def cutN (n : Int) : Int := if 0 < (if 32 < n then 32 else n) then (if 32 < n then 32 else n) else 0
def maskU (a n : Int) : Int := ishl .u32 (ishr .u32 a (32 - cutN n)) (32 - cutN n)
theorem mask_c (a n : Int) (H : AHeap) : APure Try.prog 86 [uv a, iv n] H (uv (maskU a n)) := by
  intro Q h
  have h1 : 0 ≤ cutN n ∧ cutN n ≤ 32 := by unfold cutN; omega
  refine ACalls.of_code fn_prefix_mask ?_
  simp -implicitDefEqProofs only [sc_prefix_mask, go_sem, Nat.reduceEqDiff, Nat.reduceAdd, Nat.reduceMul, Nat.reduceLeDiff, Nat.reduceSub, Nat.reduceLT, Nat.reduceBEq, Int.reduceToNat, reduceCtorEq, ↓reduceIte, Int.reduceEq, Int.reduceNeg, Int.reduceLT, Int.reduceLE, Int.reduceAdd, Int.reduceSub, Int.reduceMul]
  repeat' (first | simp -implicitDefEqProofs only [go_sem, Nat.reduceEqDiff, Nat.reduceAdd, Nat.reduceMul, Nat.reduceLeDiff, Nat.reduceSub, Nat.reduceLT, Nat.reduceBEq, Int.reduceToNat, reduceCtorEq, ↓reduceIte, Int.reduceEq, Int.reduceNeg, Int.reduceLT, Int.reduceLE, Int.reduceAdd, Int.reduceSub, Int.reduceMul] | simp -implicitDefEqProofs (disch := omega) only [iaq_vec, iao_arr, iaq_raw, rd_map, wrap_id, binq_quo, binq_rem, binq_shl, binq_shr, tdiv_pos, tmod_pos, if_pos, exV_some, Option.map_some] | ((first | with_reducible apply exIf_dec | ((with_reducible apply exGd_dec); focus exact rfl) | ((with_reducible apply exGq_dec); focus exact rfl) | with_reducible apply exIf_intro | ((with_reducible apply exGd_intro); focus exact rfl) | ((with_reducible apply exGq_intro); focus exact rfl)) <;> intro _))
  all_goals exact h
theorem in_c (p n a : Int) (H : AHeap) : APure Try.prog 65 [.agg [uv p, iv n], uv a] H (bv (decide (maskU p n = maskU a n))) := by
  intro Q h
  refine ACalls.of_code fn_prefix_In ?_
  simp -implicitDefEqProofs only [sc_prefix_In, go_sem, Nat.reduceEqDiff, Nat.reduceAdd, Nat.reduceMul, Nat.reduceLeDiff, Nat.reduceSub, Nat.reduceLT, Nat.reduceBEq, Int.reduceToNat, reduceCtorEq, ↓reduceIte, Int.reduceEq, Int.reduceNeg, Int.reduceLT, Int.reduceLE, Int.reduceAdd, Int.reduceSub, Int.reduceMul]
  repeat' (first | simp -implicitDefEqProofs only [go_sem, Nat.reduceEqDiff, Nat.reduceAdd, Nat.reduceMul, Nat.reduceLeDiff, Nat.reduceSub, Nat.reduceLT, Nat.reduceBEq, Int.reduceToNat, reduceCtorEq, ↓reduceIte, Int.reduceEq, Int.reduceNeg, Int.reduceLT, Int.reduceLE, Int.reduceAdd, Int.reduceSub, Int.reduceMul] | simp -implicitDefEqProofs (disch := omega) only [iaq_vec, iao_arr, iaq_raw, rd_map, wrap_id, binq_quo, binq_rem, binq_shl, binq_shr, tdiv_pos, tmod_pos, if_pos, exV_some, Option.map_some] | ((first | with_reducible apply exIf_dec | ((with_reducible apply exGd_dec); focus exact rfl) | ((with_reducible apply exGq_dec); focus exact rfl) | with_reducible apply exIf_intro | ((with_reducible apply exGd_intro); focus exact rfl) | ((with_reducible apply exGq_intro); focus exact rfl)) <;> intro _) | with_reducible refine exC_pure (mask_c _ _ _) ?_ | with_reducible refine exCq_pure (mask_c _ _ _) ?_)
  all_goals exact h
/-- a flow: two addresses, a protocol, two ports -/
structure Flow where
  src : Int
  dst : Int
  proto : Int
  sport : Int
  dport : Int
def Flow.av (t : Flow) : AV := .agg [uv t.src, uv t.dst, iv t.proto, iv t.sport, iv t.dport]
def RMatch.av (m : RMatch) : AV := .agg [uv m.sa, iv m.sl, uv m.da, iv m.dl, iv m.proto, iv m.sport, iv m.dport]
def meansF (m : RMatch) (t : Flow) : Bool := decide (maskU m.sa m.sl = maskU t.src m.sl ∧ maskU m.da m.dl = maskU t.dst m.dl ∧ (m.proto = 0 ∨ m.proto = t.proto) ∧ (m.sport = 0 ∨ m.sport = t.sport) ∧ (m.dport = 0 ∨ m.dport = t.dport))
theorem matches_c (m : RMatch) (t : Flow) (H : AHeap) : APure Try.prog 44 [m.av, t.av] H (bv (meansF m t)) := by
  intro Q h
  refine ACalls.of_code fn_prefix_Matches ?_
  simp -implicitDefEqProofs only [sc_prefix_Matches, RMatch.av, Flow.av, go_sem, Nat.reduceEqDiff, Nat.reduceAdd, Nat.reduceMul, Nat.reduceLeDiff, Nat.reduceSub, Nat.reduceLT, Nat.reduceBEq, Int.reduceToNat, reduceCtorEq, ↓reduceIte, Int.reduceEq, Int.reduceNeg, Int.reduceLT, Int.reduceLE, Int.reduceAdd, Int.reduceSub, Int.reduceMul]
  repeat' (first | simp -implicitDefEqProofs only [go_sem, Nat.reduceEqDiff, Nat.reduceAdd, Nat.reduceMul, Nat.reduceLeDiff, Nat.reduceSub, Nat.reduceLT, Nat.reduceBEq, Int.reduceToNat, reduceCtorEq, ↓reduceIte, Int.reduceEq, Int.reduceNeg, Int.reduceLT, Int.reduceLE, Int.reduceAdd, Int.reduceSub, Int.reduceMul] | simp -implicitDefEqProofs (disch := omega) only [iaq_vec, iao_arr, iaq_raw, rd_map, wrap_id, binq_quo, binq_rem, binq_shl, binq_shr, tdiv_pos, tmod_pos, if_pos, exV_some, Option.map_some] | ((first | with_reducible apply exIf_dec | ((with_reducible apply exGd_dec); focus exact rfl) | ((with_reducible apply exGq_dec); focus exact rfl) | with_reducible apply exIf_intro | ((with_reducible apply exGd_intro); focus exact rfl) | ((with_reducible apply exGq_intro); focus exact rfl)) <;> intro _) | with_reducible refine exC_pure (in_c _ _ _ _) ?_ | with_reducible refine exCq_pure (in_c _ _ _ _) ?_ | with_reducible refine exC_pure (same_c _ _ _) ?_ | with_reducible refine exCq_pure (same_c _ _ _) ?_)
  all_goals
    refine fin_ h ?_
    show bv _ = bv _
    congr 1
    unfold meansF
    first | (rw [decide_eq_decide]; simp only [*, true_and]) | (symm; simp_all)
end Go.Proofs.Ytgahnhiidhkjaaa
end

section
/- Words, in chapter 14. -/
namespace Go.Proofs.Ytgahnhiidhkjaaa
open Go Abs
attribute [local irreducible] EX exL exG exC exCq exS exV exIf exGd exGq
set_option maxHeartbeats 1000000

/-- whether a text is a word -/
def isWord : List UInt8 → Bool
  | [] => false
  | b :: t => decide (97 ≤ bI b ∧ bI b ≤ 122) && (b :: t).all inW
theorem word_c (l : List UInt8) (hl : l.length ≤ 1099511627776) (H : AHeap) : APure Try.prog 77 [sv l] H (bv (isWord l)) := by
  intro Q h
  refine ACalls.of_code fn_words_Word ?_
  simp -implicitDefEqProofs only [sc_words_Word, go_sem, Nat.reduceEqDiff, Nat.reduceAdd, Nat.reduceMul, Nat.reduceLeDiff, Nat.reduceSub, Nat.reduceLT, Nat.reduceBEq, Int.reduceToNat, reduceCtorEq, ↓reduceIte, Int.reduceEq, Int.reduceNeg, Int.reduceLT, Int.reduceLE, Int.reduceAdd, Int.reduceSub, Int.reduceMul]
  cases l with
  | nil =>
    repeat' (first | simp -implicitDefEqProofs only [go_sem, Nat.reduceEqDiff, Nat.reduceAdd, Nat.reduceMul, Nat.reduceLeDiff, Nat.reduceSub, Nat.reduceLT, Nat.reduceBEq, Int.reduceToNat, reduceCtorEq, ↓reduceIte, Int.reduceEq, Int.reduceNeg, Int.reduceLT, Int.reduceLE, Int.reduceAdd, Int.reduceSub, Int.reduceMul] | simp -implicitDefEqProofs (disch := omega) only [iaq_vec, iao_arr, iaq_raw, rd_map, wrap_id, binq_quo, binq_rem, binq_shl, binq_shr, tdiv_pos, tmod_pos, if_pos, exV_some, Option.map_some] | ((first | with_reducible apply exIf_dec | ((with_reducible apply exGd_dec); focus exact rfl) | ((with_reducible apply exGq_dec); focus exact rfl) | with_reducible apply exIf_intro | ((with_reducible apply exGd_intro); focus exact rfl) | ((with_reducible apply exGq_intro); focus exact rfl)) <;> intro _))
    all_goals first | exact h | skip
    done
  | cons b t =>
    obtain ⟨l, hld⟩ : ∃ l, l = b :: t := ⟨_, rfl⟩
    have hl2 : l.length = t.length + 1 := by rw [hld]; rfl
    have hw : isWord l = (decide (97 ≤ bI b ∧ bI b ≤ 122) && l.all inW) := by rw [hld]; rfl
    repeat' (first | simp -implicitDefEqProofs only [go_sem, Nat.reduceEqDiff, Nat.reduceAdd, Nat.reduceMul, Nat.reduceLeDiff, Nat.reduceSub, Nat.reduceLT, Nat.reduceBEq, Int.reduceToNat, reduceCtorEq, ↓reduceIte, Int.reduceEq, Int.reduceNeg, Int.reduceLT, Int.reduceLE, Int.reduceAdd, Int.reduceSub, Int.reduceMul] | simp -implicitDefEqProofs (disch := omega) only [iaq_vec, iao_arr, iaq_raw, rd_map, wrap_id, binq_quo, binq_rem, binq_shl, binq_shr, tdiv_pos, tmod_pos, if_pos, exV_some, Option.map_some] | ((first | with_reducible apply exIf_dec | ((with_reducible apply exGd_dec); focus exact rfl) | ((with_reducible apply exGq_dec); focus exact rfl) | with_reducible apply exIf_intro | ((with_reducible apply exGd_intro); focus exact rfl) | ((with_reducible apply exGq_intro); focus exact rfl)) <;> intro _) | with_reducible refine exC_pure (letter_c _ _) ?_ | with_reducible refine exCq_pure (letter_c _ _) ?_)
    · exact fin_ h (by rw [← hld, hw, decide_eq_false (by assumption), Bool.false_and])
    rw [← hld] at h hl ⊢
    rw [hw, decide_eq_true (by omega), Bool.true_and] at h
    refine exL_mod (fun i : Int => [(14, .v (iv i))]) (fun _ => []) (fun i => 0 ≤ i ∧ i ≤ l.length ∧ l.all inW = (l.drop i.toNat).all inW) (fun i => (l.length - i).toNat) 0 rfl ⟨by omega, by omega, by simp⟩ ?_
    rintro i ⟨i0, i1, hi⟩ ih
    simp only [S.up, S.upH, ups, Abs.put, Nat.reduceEqDiff, ↓reduceIte, Nat.reduceAdd] at ih
    simp -implicitDefEqProofs only [congrArg KI.code sc_words_Word_L0.eq_1, go_sem, Nat.reduceEqDiff, Nat.reduceAdd, Nat.reduceMul, Nat.reduceLeDiff, Nat.reduceSub, Nat.reduceLT, Nat.reduceBEq, Int.reduceToNat, reduceCtorEq, ↓reduceIte, Int.reduceEq, Int.reduceNeg, Int.reduceLT, Int.reduceLE, Int.reduceAdd, Int.reduceSub, Int.reduceMul]
    by_cases hlt : i < l.length
    · rw [drop_gi i0 hlt, List.all_cons] at hi
      have ic := inWord_c (gi l i)
      have hget : l[i.toNat]? = some (gi l i) := by rw [List.getElem?_eq_getElem (by omega), gi_get (by omega)]
      cases hb : inW (gi l i) with
      | false =>
        rw [hb, Bool.false_and] at hi
        rw [hi] at h
        rw [hb] at ic
        repeat' (first | simp -implicitDefEqProofs only [go_sem, Nat.reduceEqDiff, Nat.reduceAdd, Nat.reduceMul, Nat.reduceLeDiff, Nat.reduceSub, Nat.reduceLT, Nat.reduceBEq, Int.reduceToNat, reduceCtorEq, ↓reduceIte, Int.reduceEq, Int.reduceNeg, Int.reduceLT, Int.reduceLE, Int.reduceAdd, Int.reduceSub, Int.reduceMul] | simp -implicitDefEqProofs (disch := omega) only [hget, iaq_vec, iao_arr, iaq_raw, rd_map, wrap_id, binq_quo, binq_rem, binq_shl, binq_shr, tdiv_pos, tmod_pos, if_pos, exV_some, Option.map_some] | ((first | with_reducible apply exIf_dec | ((with_reducible apply exGd_dec); focus exact rfl) | ((with_reducible apply exGq_dec); focus exact rfl) | with_reducible apply exIf_intro | ((with_reducible apply exGd_intro); focus exact rfl) | ((with_reducible apply exGq_intro); focus exact rfl)) <;> intro _) | with_reducible refine exC_pure (ic _) ?_ | with_reducible refine exCq_pure (ic _) ?_)
        all_goals first | exact h | (exfalso; omega) | skip
        done
      | true =>
        rw [hb, Bool.true_and] at hi
        rw [hb] at ic
        have nxt := ih (i + 1) ⟨by omega, by omega, hi⟩ (by omega)
        repeat' (first | simp -implicitDefEqProofs only [go_sem, Nat.reduceEqDiff, Nat.reduceAdd, Nat.reduceMul, Nat.reduceLeDiff, Nat.reduceSub, Nat.reduceLT, Nat.reduceBEq, Int.reduceToNat, reduceCtorEq, ↓reduceIte, Int.reduceEq, Int.reduceNeg, Int.reduceLT, Int.reduceLE, Int.reduceAdd, Int.reduceSub, Int.reduceMul] | simp -implicitDefEqProofs (disch := omega) only [hget, iaq_vec, iao_arr, iaq_raw, rd_map, wrap_id, binq_quo, binq_rem, binq_shl, binq_shr, tdiv_pos, tmod_pos, if_pos, exV_some, Option.map_some] | ((first | with_reducible apply exIf_dec | ((with_reducible apply exGd_dec); focus exact rfl) | ((with_reducible apply exGq_dec); focus exact rfl) | with_reducible apply exIf_intro | ((with_reducible apply exGd_intro); focus exact rfl) | ((with_reducible apply exGq_intro); focus exact rfl)) <;> intro _) | with_reducible refine exC_pure (ic _) ?_ | with_reducible refine exCq_pure (ic _) ?_)
        all_goals first | exact nxt | (exfalso; omega) | skip
        done
    · rw [drop_end (by omega)] at hi
      rw [hi] at h
      repeat' (first | simp -implicitDefEqProofs only [go_sem, Nat.reduceEqDiff, Nat.reduceAdd, Nat.reduceMul, Nat.reduceLeDiff, Nat.reduceSub, Nat.reduceLT, Nat.reduceBEq, Int.reduceToNat, reduceCtorEq, ↓reduceIte, Int.reduceEq, Int.reduceNeg, Int.reduceLT, Int.reduceLE, Int.reduceAdd, Int.reduceSub, Int.reduceMul] | simp -implicitDefEqProofs (disch := omega) only [iaq_vec, iao_arr, iaq_raw, rd_map, wrap_id, binq_quo, binq_rem, binq_shl, binq_shr, tdiv_pos, tmod_pos, if_pos, exV_some, Option.map_some] | ((first | with_reducible apply exIf_dec | ((with_reducible apply exGd_dec); focus exact rfl) | ((with_reducible apply exGq_dec); focus exact rfl) | with_reducible apply exIf_intro | ((with_reducible apply exGd_intro); focus exact rfl) | ((with_reducible apply exGq_intro); focus exact rfl)) <;> intro _))
      all_goals first | exact h | (exfalso; omega) | skip
      done
end Go.Proofs.Ytgahnhiidhkjaaa
end

section
/- The rules of a node, as the document tells them. -/
namespace Go.Proofs.Ytgahnhiidhkjaaa
open Go Abs
attribute [local irreducible] EX exL exG exC exCq exS exV exIf exGd exGq
set_option maxHeartbeats 4000000

theorem insD_at {x : Rule} : ∀ {t : List Rule} {k : Nat}, desc t → k ≤ t.length → (∀ j : Nat, k ≤ j → ∀ y, t[j]? = some y → y.pri < x.pri) → (∀ j : Nat, k = j + 1 → ∀ y, t[j]? = some y → x.pri ≤ y.pri) → insD x t = t.take k ++ x :: t.drop k
  | [], k, _, hk, _, _ => by
    obtain rfl : k = 0 := by simpa using hk
    rfl
  | y :: t, 0, _, _, h1, _ => by
    have := h1 0 (by omega) y rfl
    rw [insD, if_neg (by omega)]
    rfl
  | y :: t, k + 1, hd, hk, h1, h2 => by
    have hh := List.pairwise_cons.1 hd
    have hxy : x.pri ≤ y.pri := by
      cases k with
      | zero => exact h2 0 rfl y rfl
      | succ k =>
        simp only [List.length_cons] at hk
        have hlt : k < t.length := by omega
        have h3 := h2 (k + 1) rfl t[k] (by simp [hlt])
        have h4 := hh.1 t[k] (List.getElem_mem _)
        omega
    rw [insD, if_pos hxy, insD_at (k := k) hh.2 (by simpa using hk) (fun j hj z hz => h1 (j + 1) (by omega) z (by simpa using hz)) (fun j hj z hz => h2 (j + 1) (by omega) z (by simpa using hz))]
    rfl
theorem sortD_snoc (l : List Rule) (x : Rule) : sortD (l ++ [x]) = insD x (sortD l) := by simp [sortD]
theorem sortD_length (l : List Rule) : (sortD l).length = l.length := by
  have : ∀ (t : List Rule) (x : Rule), (insD x t).length = t.length + 1 := by
    intro t x
    induction t with
    | nil => rfl
    | cons y t ih => unfold insD; split <;> simp [ih]
  have h2 : ∀ (l acc : List Rule), (l.foldl (fun acc x => insD x acc) acc).length = acc.length + l.length := by
    intro l
    induction l with
    | nil => simp
    | cons x l ih => intro acc; rw [List.foldl_cons, ih, this, List.length_cons]; omega
  have := h2 l []
  simpa [sortD] using this
theorem rd_rule1 {l : List Rule} {i : Int} {m : Nat} (h0 : 0 ≤ i) (h1 : i < l.length) : rdV (rows l) (i.toNat * 17 + 1) m false = some (iv (gi l i).pri) := by
  rw [rd_field (m := m) (n := 17) Rule.sz_eq.symm (by decide) h0 h1]; rfl
theorem rd_rule9 {l : List Rule} {i : Int} {m : Nat} (h0 : 0 ≤ i) (h1 : i < l.length) : rdV (rows l) (i.toNat * 17 + 9 + 0) m false = some (iv (gi l i).w.src) := by
  rw [Nat.add_zero, rd_field (m := m) (n := 17) Rule.sz_eq.symm (by decide) h0 h1]; rfl
theorem vec_isEmpty {l : List Rule} (h : l = []) : (AV.vec l.isEmpty (rows l) l.length) = .vec true [] 0 := by rw [h]; rfl
theorem refAt_c (nl : Bool) (l : List Rule) (hl : l.length < 40) (node : Int) (H : AHeap) :
    APure Try.prog 43 [.vec nl (rows l) l.length, iv node] H (.vec (atL l node).isEmpty (rows (atL l node)) (atL l node).length) := by
  intro Q h
  refine ACalls.forget (ACalls.of_code fn_waymarkref11_At ?_)
  simp -implicitDefEqProofs only [sc_waymarkref11_At, go_sem, Nat.reduceEqDiff, Nat.reduceAdd, Nat.reduceMul, Nat.reduceLeDiff, Nat.reduceSub, Nat.reduceLT, Nat.reduceBEq, Int.reduceToNat, reduceCtorEq, ↓reduceIte, Int.reduceEq, Int.reduceNeg, Int.reduceLT, Int.reduceLE, Int.reduceAdd, Int.reduceSub, Int.reduceMul]
  repeat' (first | simp -implicitDefEqProofs only [go_sem, Nat.reduceEqDiff, Nat.reduceAdd, Nat.reduceMul, Nat.reduceLeDiff, Nat.reduceSub, Nat.reduceLT, Nat.reduceBEq, Int.reduceToNat, reduceCtorEq, ↓reduceIte, Int.reduceEq, Int.reduceNeg, Int.reduceLT, Int.reduceLE, Int.reduceAdd, Int.reduceSub, Int.reduceMul] | simp -implicitDefEqProofs (disch := omega) only [iaq_vec, iao_arr, iaq_raw, rd_map, wrap_id, binq_quo, binq_rem, binq_shl, binq_shr, tdiv_pos, tmod_pos, if_pos, exV_some, Option.map_some] | ((first | with_reducible apply exIf_dec | ((with_reducible apply exGd_dec); focus exact rfl) | ((with_reducible apply exGq_dec); focus exact rfl) | with_reducible apply exIf_intro | ((with_reducible apply exGd_intro); focus exact rfl) | ((with_reducible apply exGq_intro); focus exact rfl)) <;> intro _))
  refine exL_modH (fun a : Int × AHeap => [(5, .v (.vec (sortD (pick l node a.1)).isEmpty (rows (sortD (pick l node a.1))) (sortD (pick l node a.1)).length)), (6, .v (iv a.1))]) (fun _ => []) (fun a => a.2) (fun a => 0 ≤ a.1 ∧ a.1 ≤ l.length ∧ ∀ b o, H b = some o → a.2 b = some o) (fun a => (l.length - a.1).toNat) (0, H) rfl ⟨by simp, by simp, fun _ _ h => h⟩ ?_
  rintro ⟨i, H'⟩ ⟨i0, i1, hbase⟩ ih
  dsimp only at i0 i1 hbase ih
  simp only [S.up, S.upH, ups, Abs.put, Nat.reduceEqDiff, ↓reduceIte, Nat.reduceAdd] at ih
  simp -implicitDefEqProofs only [congrArg KI.code sc_waymarkref11_At_L1.eq_1, go_sem, Nat.reduceEqDiff, Nat.reduceAdd, Nat.reduceMul, Nat.reduceLeDiff, Nat.reduceSub, Nat.reduceLT, Nat.reduceBEq, Int.reduceToNat, reduceCtorEq, ↓reduceIte, Int.reduceEq, Int.reduceNeg, Int.reduceLT, Int.reduceLE, Int.reduceAdd, Int.reduceSub, Int.reduceMul]
  by_cases hi : i < l.length
  · have hpk : pick l node (i + 1) = pick l node i ++ if (gi l i).w.src = node then [gi l i] else [] := by
      unfold pick
      rw [show (i + 1).toNat = i.toNat + 1 by omega, List.take_add_one, List.filter_append, List.getElem?_eq_getElem (by omega), gi_get (by omega)]
      simp only [Option.toList_some, List.filter_cons, List.filter_nil, decide_eq_true_eq]
    have hpl : (pick l node i).length ≤ l.length := by
      unfold pick
      exact Nat.le_trans (List.length_filter_le _ _) (by rw [List.length_take]; omega)
    have hde := (sortD_spec (pick l node i)).1
    have hle := sortD_length (pick l node i)
    have nxt := fun H1 hh => ih (i + 1, H1) ⟨by dsimp only; omega, by dsimp only; omega, hh⟩ (by dsimp only; omega)
    clear ih
    dsimp only at nxt
    by_cases hsrc : (gi l i).w.src = node
    · rw [if_pos hsrc] at hpk
      rw [hpk, sortD_snoc] at nxt
      obtain ⟨t, ht⟩ : ∃ t, t = sortD (pick l node i) := ⟨_, rfl⟩
      rw [← ht] at nxt hde hle ⊢
      repeat' (first | simp -implicitDefEqProofs only [go_sem, Nat.reduceEqDiff, Nat.reduceAdd, Nat.reduceMul, Nat.reduceLeDiff, Nat.reduceSub, Nat.reduceLT, Nat.reduceBEq, Int.reduceToNat, reduceCtorEq, ↓reduceIte, Int.reduceEq, Int.reduceNeg, Int.reduceLT, Int.reduceLE, Int.reduceAdd, Int.reduceSub, Int.reduceMul] | simp -implicitDefEqProofs (disch := omega) only [rd_rule9, rd_rule1, rd_rule_v, Rule.av, Rule.cells_eq, sl, iaq_vec, iao_arr, iaq_raw, rd_map, wrap_id, binq_quo, binq_rem, binq_shl, binq_shr, tdiv_pos, tmod_pos, if_pos, exV_some, Option.map_some] | ((first | with_reducible apply exIf_dec | ((with_reducible apply exGd_dec); focus exact rfl) | ((with_reducible apply exGq_dec); focus exact rfl) | with_reducible apply exIf_intro | ((with_reducible apply exGd_intro); focus exact rfl) | ((with_reducible apply exGq_intro); focus exact rfl)) <;> intro _))
      all_goals first | (exfalso; omega) | skip
      refine exL_mod (fun k : Int => [(7, .v (iv k))]) (fun _ => []) (fun k => 0 ≤ k ∧ k ≤ t.length ∧ ∀ j : Nat, k ≤ j → ∀ y, t[j]? = some y → y.pri < (gi l i).pri) (fun k => k.toNat) t.length rfl ⟨by omega, by omega, fun j hj y hy => by rw [List.getElem?_eq_none (by omega)] at hy; cases hy⟩ ?_
      rintro k ⟨k0, k1, hk⟩ ih
      simp only [S.up, S.upH, ups, Abs.put, Nat.reduceEqDiff, ↓reduceIte, Nat.reduceAdd] at ih
      simp -implicitDefEqProofs only [congrArg KI.code sc_waymarkref11_At_L0.eq_1, go_sem, Nat.reduceEqDiff, Nat.reduceAdd, Nat.reduceMul, Nat.reduceLeDiff, Nat.reduceSub, Nat.reduceLT, Nat.reduceBEq, Int.reduceToNat, reduceCtorEq, ↓reduceIte, Int.reduceEq, Int.reduceNeg, Int.reduceLT, Int.reduceLE, Int.reduceAdd, Int.reduceSub, Int.reduceMul]
      by_cases hgo : 0 < k ∧ (gi t (k - 1)).pri < (gi l i).pri
      · have nx := ih (k - 1) ⟨by omega, by omega, fun j hj y hy => by
          by_cases hjk : k ≤ j
          · exact hk j hjk y hy
          · have hjj : j = (k - 1).toNat := by omega
            have hlt : (k - 1).toNat < t.length := by omega
            subst hjj
            rw [List.getElem?_eq_getElem hlt] at hy
            injection hy with hy
            rw [← hy, ← gi_get hlt]
            exact hgo.2⟩ (by omega)
        clear ih nxt
        repeat' (first | simp -implicitDefEqProofs only [go_sem, Nat.reduceEqDiff, Nat.reduceAdd, Nat.reduceMul, Nat.reduceLeDiff, Nat.reduceSub, Nat.reduceLT, Nat.reduceBEq, Int.reduceToNat, reduceCtorEq, ↓reduceIte, Int.reduceEq, Int.reduceNeg, Int.reduceLT, Int.reduceLE, Int.reduceAdd, Int.reduceSub, Int.reduceMul] | simp -implicitDefEqProofs (disch := omega) only [rd_rule9, rd_rule1, rd_rule_v, Rule.av, Rule.cells_eq, sl, iaq_vec, iao_arr, iaq_raw, rd_map, wrap_id, binq_quo, binq_rem, binq_shl, binq_shr, tdiv_pos, tmod_pos, if_pos, exV_some, Option.map_some] | ((first | with_reducible apply exIf_dec | ((with_reducible apply exGd_dec); focus exact rfl) | ((with_reducible apply exGq_dec); focus exact rfl) | with_reducible apply exIf_intro | ((with_reducible apply exGd_intro); focus exact rfl) | ((with_reducible apply exGq_intro); focus exact rfl)) <;> intro _))
        all_goals first | exact nx | (exfalso; omega) | skip
        done
      clear ih
      have hins : insD (gi l i) t = t.take k.toNat ++ gi l i :: t.drop k.toNat := by
        refine insD_at hde (by omega) (fun j hj y hy => hk j (by omega) y hy) fun j hj y hy => ?_
        have hlt : (k - 1).toNat < t.length := by omega
        have : j = (k - 1).toNat := by omega
        subst this
        rw [List.getElem?_eq_getElem hlt] at hy
        injection hy with hy
        rw [← hy, ← gi_get hlt]
        omega
      clear hk hde
      have hs1 : (0 ≤ k ∧ k ≤ k ∧ k ≤ (t.length : Int) ∧ (t.length : Int) * 17 ≤ ((rows t).length : Int)) := ⟨k0, Int.le_refl _, k1, by rw [rows_length, Rule.sz_eq]; omega⟩
      have hs2 : List.take ((k.toNat - 0) * 17) (rows t) = rows (t.take k.toNat) := rows_take t k.toNat
      have hk2 : k.toNat - 0 = (t.take k.toNat).length := by rw [List.length_take]; omega
      have hs3 : List.take (((t.length : Int).toNat - k.toNat) * 17) (List.drop (k.toNat * 17) (rows t)) = rows (t.drop k.toNat) := by
        rw [List.take_of_length_le (by rw [List.length_drop, rows_length, Rule.sz_eq]; omega)]
        exact rows_drop t k.toNat
      have hk3 : (t.drop k.toNat).length = (t.length : Int).toNat - k.toNat := by rw [List.length_drop]; omega
      have hlen : 0 + (k.toNat - 0) + 1 + ((t.length : Int).toNat - k.toNat) = (insD (gi l i) t).length := by rw [hins]; simp; omega
      have hcs : [] ++ rows (t.take k.toNat) ++ Enc.cells (gi l i) ++ rows (t.drop k.toNat) = rows (insD (gi l i) t) := by rw [hins, rows_append, List.nil_append, List.append_assoc]; rfl
      simp only [Rule.cells_eq, sl] at hcs
      have hne : (insD (gi l i) t).isEmpty = false := by rw [hins]; simp
      repeat' (first | simp -implicitDefEqProofs only [go_sem, Nat.reduceEqDiff, Nat.reduceAdd, Nat.reduceMul, Nat.reduceLeDiff, Nat.reduceSub, Nat.reduceLT, Nat.reduceBEq, Int.reduceToNat, reduceCtorEq, ↓reduceIte, Int.reduceEq, Int.reduceNeg, Int.reduceLT, Int.reduceLE, Int.reduceAdd, Int.reduceSub, Int.reduceMul] | simp -implicitDefEqProofs (disch := omega) only [rd_rule9, rd_rule1, rd_rule_v, Rule.av, Rule.cells_eq, sl, hs1, hs2, iaq_vec, iao_arr, iaq_raw, rd_map, wrap_id, binq_quo, binq_rem, binq_shl, binq_shr, tdiv_pos, tmod_pos, if_pos, exV_some, Option.map_some] | ((first | with_reducible apply exIf_dec | ((with_reducible apply exGd_dec); focus exact rfl) | ((with_reducible apply exGq_dec); focus exact rfl) | with_reducible apply exIf_intro | ((with_reducible apply exGd_intro); focus exact rfl) | ((with_reducible apply exGq_intro); focus exact rfl)) <;> intro _))
      all_goals first | (exfalso; omega) | skip
      all_goals
        refine OnN.app (OnN.nil _ _ _) rfl (by rw [rows_length, ← hk2]; rfl) (by omega) (by simp only [maxLen]; omega) fun H1 v1 h1 _ => ?_
        repeat' (first | simp -implicitDefEqProofs only [go_sem, Nat.reduceEqDiff, Nat.reduceAdd, Nat.reduceMul, Nat.reduceLeDiff, Nat.reduceSub, Nat.reduceLT, Nat.reduceBEq, Int.reduceToNat, reduceCtorEq, ↓reduceIte, Int.reduceEq, Int.reduceNeg, Int.reduceLT, Int.reduceLE, Int.reduceAdd, Int.reduceSub, Int.reduceMul] | simp -implicitDefEqProofs (disch := omega) only [rd_rule9, rd_rule1, rd_rule_v, Rule.av, Rule.cells_eq, sl, hs1, hs2, iaq_vec, iao_arr, iaq_raw, rd_map, wrap_id, binq_quo, binq_rem, binq_shl, binq_shr, tdiv_pos, tmod_pos, if_pos, exV_some, Option.map_some] | ((first | with_reducible apply exIf_dec | ((with_reducible apply exGd_dec); focus exact rfl) | ((with_reducible apply exGq_dec); focus exact rfl) | with_reducible apply exIf_intro | ((with_reducible apply exGd_intro); focus exact rfl) | ((with_reducible apply exGq_intro); focus exact rfl)) <;> intro _))
        refine OnN.app h1 rfl (by rfl) (by omega) (by simp only [maxLen]; omega) fun H2 v2 _ h2 => ?_
        have h2 := h2 (by decide)
        clear h1
        repeat' (first | simp -implicitDefEqProofs only [go_sem, Nat.reduceEqDiff, Nat.reduceAdd, Nat.reduceMul, Nat.reduceLeDiff, Nat.reduceSub, Nat.reduceLT, Nat.reduceBEq, Int.reduceToNat, reduceCtorEq, ↓reduceIte, Int.reduceEq, Int.reduceNeg, Int.reduceLT, Int.reduceLE, Int.reduceAdd, Int.reduceSub, Int.reduceMul] | simp -implicitDefEqProofs (disch := omega) only [rd_rule9, rd_rule1, rd_rule_v, Rule.av, Rule.cells_eq, sl, hs1, hs2, iaq_vec, iao_arr, iaq_raw, rd_map, wrap_id, binq_quo, binq_rem, binq_shl, binq_shr, tdiv_pos, tmod_pos, if_pos, exV_some, Option.map_some] | ((first | with_reducible apply exIf_dec | ((with_reducible apply exGd_dec); focus exact rfl) | ((with_reducible apply exGq_dec); focus exact rfl) | with_reducible apply exIf_intro | ((with_reducible apply exGd_intro); focus exact rfl) | ((with_reducible apply exGq_intro); focus exact rfl)) <;> intro _))
        rw [hs3]
        refine OnH.app h2 rfl (by rw [rows_length, hk3]; rfl) (by omega) (by simp only [maxLen]; omega) fun H3 v3 h3 => ?_
        clear h2
        rw [hcs, hlen] at h3
        obtain ⟨hb2, hl2, b, cap, rfl, hat, hbn, hcap⟩ := h3
        have hbn : H' b = none := hbn
        have hb3 : ∀ b' o, H b' = some o → upd H3 b none b' = some o := fun b' o ho => by
          have := hbase b' o ho
          rw [upd_ne _ _ (by rintro rfl; rw [hbn] at this; cases this)]
          exact hb2 b' o this
        have htk : List.take ((insD (gi l i) t).length * 17) (rows (insD (gi l i) t)) = rows (insD (gi l i) t) := List.take_of_length_le (by rw [rows_length, Rule.sz_eq]; omega)
        have hle2 : (insD (gi l i) t).length * 17 ≤ (rows (insD (gi l i) t)).length := by rw [rows_length, Rule.sz_eq]; omega
        have nx := nxt _ hb3
        rw [hne] at nx
        clear nxt
        repeat' (first | simp -implicitDefEqProofs only [go_sem, Nat.reduceEqDiff, Nat.reduceAdd, Nat.reduceMul, Nat.reduceLeDiff, Nat.reduceSub, Nat.reduceLT, Nat.reduceBEq, Int.reduceToNat, reduceCtorEq, ↓reduceIte, Int.reduceEq, Int.reduceNeg, Int.reduceLT, Int.reduceLE, Int.reduceAdd, Int.reduceSub, Int.reduceMul] | simp -implicitDefEqProofs (disch := omega) only [hat, hle2, Nat.le_refl, hcap, and_self, if_true, Nat.zero_lt_succ, htk, List.headD_cons, iaq_vec, iao_arr, iaq_raw, rd_map, wrap_id, binq_quo, binq_rem, binq_shl, binq_shr, tdiv_pos, tmod_pos, if_pos, exV_some, Option.map_some] | ((first | with_reducible apply exIf_dec | ((with_reducible apply exGd_dec); focus exact rfl) | ((with_reducible apply exGq_dec); focus exact rfl) | with_reducible apply exIf_intro | ((with_reducible apply exGd_intro); focus exact rfl) | ((with_reducible apply exGq_intro); focus exact rfl)) <;> intro _))
        all_goals first | exact nx | (exfalso; omega) | skip
        done
    · rw [if_neg hsrc, List.append_nil] at hpk
      rw [hpk] at nxt
      have nx := nxt H' hbase
      repeat' (first | simp -implicitDefEqProofs only [go_sem, Nat.reduceEqDiff, Nat.reduceAdd, Nat.reduceMul, Nat.reduceLeDiff, Nat.reduceSub, Nat.reduceLT, Nat.reduceBEq, Int.reduceToNat, reduceCtorEq, ↓reduceIte, Int.reduceEq, Int.reduceNeg, Int.reduceLT, Int.reduceLE, Int.reduceAdd, Int.reduceSub, Int.reduceMul] | simp -implicitDefEqProofs (disch := omega) only [rd_rule9, rd_rule1, rd_rule_v, Rule.av, Rule.cells_eq, sl, iaq_vec, iao_arr, iaq_raw, rd_map, wrap_id, binq_quo, binq_rem, binq_shl, binq_shr, tdiv_pos, tmod_pos, if_pos, exV_some, Option.map_some] | ((first | with_reducible apply exIf_dec | ((with_reducible apply exGd_dec); focus exact rfl) | ((with_reducible apply exGq_dec); focus exact rfl) | with_reducible apply exIf_intro | ((with_reducible apply exGd_intro); focus exact rfl) | ((with_reducible apply exGq_intro); focus exact rfl)) <;> intro _))
      all_goals first | exact nx | (exfalso; omega) | skip
      done
  · obtain rfl : i = l.length := by omega
    clear ih
    have hall : pick l node l.length = l.filter fun r => decide (r.w.src = node) := by rw [pick, Int.toNat_natCast, List.take_length]
    rw [hall]
    repeat' (first | simp -implicitDefEqProofs only [go_sem, Nat.reduceEqDiff, Nat.reduceAdd, Nat.reduceMul, Nat.reduceLeDiff, Nat.reduceSub, Nat.reduceLT, Nat.reduceBEq, Int.reduceToNat, reduceCtorEq, ↓reduceIte, Int.reduceEq, Int.reduceNeg, Int.reduceLT, Int.reduceLE, Int.reduceAdd, Int.reduceSub, Int.reduceMul] | simp -implicitDefEqProofs (disch := omega) only [iaq_vec, iao_arr, iaq_raw, rd_map, wrap_id, binq_quo, binq_rem, binq_shl, binq_shr, tdiv_pos, tmod_pos, if_pos, exV_some, Option.map_some] | ((first | with_reducible apply exIf_dec | ((with_reducible apply exGd_dec); focus exact rfl) | ((with_reducible apply exGq_dec); focus exact rfl) | with_reducible apply exIf_intro | ((with_reducible apply exGd_intro); focus exact rfl) | ((with_reducible apply exGq_intro); focus exact rfl)) <;> intro _))
    all_goals first | exact ⟨hbase, h⟩ | (exfalso; omega) | skip
    done
end Go.Proofs.Ytgahnhiidhkjaaa
end
