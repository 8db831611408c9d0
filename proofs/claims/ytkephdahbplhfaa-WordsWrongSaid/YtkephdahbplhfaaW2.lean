import Derived.Test.YtkephdahbplhfaaScWords
import Derived.Test.YtkephdahbplhfaaW1
import Derived.Test.YtkephdahbplhfaaG1
set_option linter.unusedSimpArgs false
set_option linter.unusedVariables false
/- The package words, and the document's own Split: what they answer. -/
namespace Go.Proofs.Ytkephdahbplhfaa
open Go Abs
attribute [local irreducible] EX exL exG exC exCq exS exV exIf exGd exGq
set_option maxHeartbeats 1000000
attribute [go_sem] sv_size sv_extract sv_get sv_eq bI_fold

abbrev xv (x : Int) : AV := .raw (.int .u8 x)
theorem letter_c (x : Int) (H : AHeap) : APure Try.prog 61 [xv x] H (bv (decide (97 ≤ x ∧ x ≤ 122))) := by
  intro Q h
  refine ACalls.of_code fn_words_letter ?_
  simp -implicitDefEqProofs only [sc_words_letter, go_sem, Nat.reduceEqDiff, Nat.reduceAdd, Nat.reduceMul, Nat.reduceLeDiff, Nat.reduceSub, Nat.reduceLT, Nat.reduceBEq, Int.reduceToNat, reduceCtorEq, ↓reduceIte, Int.reduceEq, Int.reduceNeg, Int.reduceLT, Int.reduceLE, Int.reduceAdd, Int.reduceSub, Int.reduceMul]
  repeat' (first | simp -implicitDefEqProofs only [go_sem, Nat.reduceEqDiff, Nat.reduceAdd, Nat.reduceMul, Nat.reduceLeDiff, Nat.reduceSub, Nat.reduceLT, Nat.reduceBEq, Int.reduceToNat, reduceCtorEq, ↓reduceIte, Int.reduceEq, Int.reduceNeg, Int.reduceLT, Int.reduceLE, Int.reduceAdd, Int.reduceSub, Int.reduceMul] | simp -implicitDefEqProofs (disch := omega) only [iaq_vec, iao_arr, iaq_raw, rd_map, wrap_id, binq_quo, binq_rem, binq_shl, binq_shr, tdiv_pos, tmod_pos, if_pos, exV_some, Option.map_some] | ((first | with_reducible apply exIf_dec | ((with_reducible apply exGd_dec); focus exact rfl) | ((with_reducible apply exGq_dec); focus exact rfl) | with_reducible apply exIf_intro | ((with_reducible apply exGd_intro); focus exact rfl) | ((with_reducible apply exGq_intro); focus exact rfl)) <;> intro _))
  all_goals
    refine fin_ h (congrArg (fun b => AV.raw (.bool b)) ?_)
    simp [*]
theorem digit_c (x : Int) (H : AHeap) : APure Try.prog 62 [xv x] H (bv (decide (48 ≤ x ∧ x ≤ 57))) := by
  intro Q h
  refine ACalls.of_code fn_words_digit ?_
  simp -implicitDefEqProofs only [sc_words_digit, go_sem, Nat.reduceEqDiff, Nat.reduceAdd, Nat.reduceMul, Nat.reduceLeDiff, Nat.reduceSub, Nat.reduceLT, Nat.reduceBEq, Int.reduceToNat, reduceCtorEq, ↓reduceIte, Int.reduceEq, Int.reduceNeg, Int.reduceLT, Int.reduceLE, Int.reduceAdd, Int.reduceSub, Int.reduceMul]
  repeat' (first | simp -implicitDefEqProofs only [go_sem, Nat.reduceEqDiff, Nat.reduceAdd, Nat.reduceMul, Nat.reduceLeDiff, Nat.reduceSub, Nat.reduceLT, Nat.reduceBEq, Int.reduceToNat, reduceCtorEq, ↓reduceIte, Int.reduceEq, Int.reduceNeg, Int.reduceLT, Int.reduceLE, Int.reduceAdd, Int.reduceSub, Int.reduceMul] | simp -implicitDefEqProofs (disch := omega) only [iaq_vec, iao_arr, iaq_raw, rd_map, wrap_id, binq_quo, binq_rem, binq_shl, binq_shr, tdiv_pos, tmod_pos, if_pos, exV_some, Option.map_some] | ((first | with_reducible apply exIf_dec | ((with_reducible apply exGd_dec); focus exact rfl) | ((with_reducible apply exGq_dec); focus exact rfl) | with_reducible apply exIf_intro | ((with_reducible apply exGd_intro); focus exact rfl) | ((with_reducible apply exGq_intro); focus exact rfl)) <;> intro _))
  all_goals
    refine fin_ h (congrArg (fun b => AV.raw (.bool b)) ?_)
    simp [*]
theorem inWord_c (b : UInt8) (H : AHeap) : APure Try.prog 63 [yv b] H (bv (inW b)) := by
  intro Q h
  refine ACalls.of_code fn_words_inWord ?_
  simp -implicitDefEqProofs only [sc_words_inWord, go_sem, Nat.reduceEqDiff, Nat.reduceAdd, Nat.reduceMul, Nat.reduceLeDiff, Nat.reduceSub, Nat.reduceLT, Nat.reduceBEq, Int.reduceToNat, reduceCtorEq, ↓reduceIte, Int.reduceEq, Int.reduceNeg, Int.reduceLT, Int.reduceLE, Int.reduceAdd, Int.reduceSub, Int.reduceMul]
  repeat' (first | simp -implicitDefEqProofs only [go_sem, Nat.reduceEqDiff, Nat.reduceAdd, Nat.reduceMul, Nat.reduceLeDiff, Nat.reduceSub, Nat.reduceLT, Nat.reduceBEq, Int.reduceToNat, reduceCtorEq, ↓reduceIte, Int.reduceEq, Int.reduceNeg, Int.reduceLT, Int.reduceLE, Int.reduceAdd, Int.reduceSub, Int.reduceMul] | simp -implicitDefEqProofs (disch := omega) only [iaq_vec, iao_arr, iaq_raw, rd_map, wrap_id, binq_quo, binq_rem, binq_shl, binq_shr, tdiv_pos, tmod_pos, if_pos, exV_some, Option.map_some] | ((first | with_reducible apply exIf_dec | ((with_reducible apply exGd_dec); focus exact rfl) | ((with_reducible apply exGq_dec); focus exact rfl) | with_reducible apply exIf_intro | ((with_reducible apply exGd_intro); focus exact rfl) | ((with_reducible apply exGq_intro); focus exact rfl)) <;> intro _) | with_reducible refine exC_pure (letter_c _ _) ?_ | with_reducible refine exCq_pure (letter_c _ _) ?_ | with_reducible refine exC_pure (digit_c _ _) ?_ | with_reducible refine exCq_pure (digit_c _ _) ?_)
  all_goals
    refine fin_ h (congrArg (fun b => AV.raw (.bool b)) ?_)
    simp [inW, wl, wd, *]
theorem inNumber_c (b : UInt8) (H : AHeap) : APure Try.prog 64 [yv b] H (bv (inN b)) := by
  intro Q h
  refine ACalls.of_code fn_words_inNumber ?_
  simp -implicitDefEqProofs only [sc_words_inNumber, go_sem, Nat.reduceEqDiff, Nat.reduceAdd, Nat.reduceMul, Nat.reduceLeDiff, Nat.reduceSub, Nat.reduceLT, Nat.reduceBEq, Int.reduceToNat, reduceCtorEq, ↓reduceIte, Int.reduceEq, Int.reduceNeg, Int.reduceLT, Int.reduceLE, Int.reduceAdd, Int.reduceSub, Int.reduceMul]
  repeat' (first | simp -implicitDefEqProofs only [go_sem, Nat.reduceEqDiff, Nat.reduceAdd, Nat.reduceMul, Nat.reduceLeDiff, Nat.reduceSub, Nat.reduceLT, Nat.reduceBEq, Int.reduceToNat, reduceCtorEq, ↓reduceIte, Int.reduceEq, Int.reduceNeg, Int.reduceLT, Int.reduceLE, Int.reduceAdd, Int.reduceSub, Int.reduceMul] | simp -implicitDefEqProofs (disch := omega) only [iaq_vec, iao_arr, iaq_raw, rd_map, wrap_id, binq_quo, binq_rem, binq_shl, binq_shr, tdiv_pos, tmod_pos, if_pos, exV_some, Option.map_some] | ((first | with_reducible apply exIf_dec | ((with_reducible apply exGd_dec); focus exact rfl) | ((with_reducible apply exGq_dec); focus exact rfl) | with_reducible apply exIf_intro | ((with_reducible apply exGd_intro); focus exact rfl) | ((with_reducible apply exGq_intro); focus exact rfl)) <;> intro _) | with_reducible refine exC_pure (letter_c _ _) ?_ | with_reducible refine exCq_pure (letter_c _ _) ?_ | with_reducible refine exC_pure (digit_c _ _) ?_ | with_reducible refine exCq_pure (digit_c _ _) ?_)
  all_goals
    refine fin_ h (congrArg (fun b => AV.raw (.bool b)) ?_)
    simp [inN, wl, wd, *]

def toksAV (l : List Tok) : AV := .vec l.isEmpty (rows l) l.length
/-- what Split answers -/
def splitAV (l : List UInt8) : AV :=
  if 10000 < l.length then .tup [.vec true [] 0, iv 0, iv 6]
  else if (tk l 0).2 = -1 then .tup [toksAV (tk l 0).1, iv (-1), iv 0]
  else .tup [.vec true [] 0, iv (tk l 0).2, iv 3]

theorem inW_first {b : UInt8} (h : wl b = true) : inW b = true := by simp [inW, h]
theorem inN_first {b : UInt8} (h : wd b = true) : inN b = true := by simp [inN, h]
set_option maxHeartbeats 3000000 in
theorem split_c (l : List UInt8) (hl : l.length ≤ 9223372036854775807) (H : AHeap) : APure Try.prog 32 [sv l] H (splitAV l) := by
  intro Q h
  refine ACalls.of_code fn_words_Split ?_
  simp -implicitDefEqProofs only [sc_words_Split, go_sem, Nat.reduceEqDiff, Nat.reduceAdd, Nat.reduceMul, Nat.reduceLeDiff, Nat.reduceSub, Nat.reduceLT, Nat.reduceBEq, Int.reduceToNat, reduceCtorEq, ↓reduceIte, Int.reduceEq, Int.reduceNeg, Int.reduceLT, Int.reduceLE, Int.reduceAdd, Int.reduceSub, Int.reduceMul]
  simp -implicitDefEqProofs only [congrArg KI.code sc_words_Split_S0.eq_1, go_sem, Nat.reduceEqDiff, Nat.reduceAdd, Nat.reduceMul, Nat.reduceLeDiff, Nat.reduceSub, Nat.reduceLT, Nat.reduceBEq, Int.reduceToNat, reduceCtorEq, ↓reduceIte, Int.reduceEq, Int.reduceNeg, Int.reduceLT, Int.reduceLE, Int.reduceAdd, Int.reduceSub, Int.reduceMul]
  repeat' (first | simp -implicitDefEqProofs only [go_sem, Nat.reduceEqDiff, Nat.reduceAdd, Nat.reduceMul, Nat.reduceLeDiff, Nat.reduceSub, Nat.reduceLT, Nat.reduceBEq, Int.reduceToNat, reduceCtorEq, ↓reduceIte, Int.reduceEq, Int.reduceNeg, Int.reduceLT, Int.reduceLE, Int.reduceAdd, Int.reduceSub, Int.reduceMul] | simp -implicitDefEqProofs (disch := omega) only [iaq_vec, iao_arr, iaq_raw, rd_map, wrap_id, binq_quo, binq_rem, binq_shl, binq_shr, tdiv_pos, tmod_pos, if_pos, exV_some, Option.map_some] | ((first | with_reducible apply exIf_dec | ((with_reducible apply exGd_dec); focus exact rfl) | ((with_reducible apply exGq_dec); focus exact rfl) | with_reducible apply exIf_intro | ((with_reducible apply exGd_intro); focus exact rfl) | ((with_reducible apply exGq_intro); focus exact rfl)) <;> intro _))
  · refine fin_ h ?_
    rw [splitAV, if_pos (by omega)]
  have hlen : l.length ≤ 10000 := by omega
  have fin : ∀ (out : List Tok) (e : Int), tk l 0 = (out, e) → (e = -1 → Q (.tup [.vec out.isEmpty (rows out) out.length, iv (-1), iv 0]) H) ∧ (e ≠ -1 → Q (.tup [.vec true [] 0, iv e, iv 3]) H) := by
    intro out e he
    refine ⟨fun h1 => fin_ h ?_, fun h1 => fin_ h ?_⟩
    · rw [splitAV, if_neg (by omega), he, if_pos h1]; rfl
    · rw [splitAV, if_neg (by omega), he, if_neg h1]
  have main : ∀ (n : Nat) (out : List Tok) (k : Int), (l.length - k).toNat = n → 0 ≤ k → k ≤ l.length → out.length ≤ k → tk l 0 = (out ++ (tk (l.drop k.toNat) k).1, (tk (l.drop k.toNat) k).2) →
      EX Try.prog [.code sc_words_Split_B0, .scp sc_words_Split_S0] (retK [.tmp 2, .tmp 3, .tmp 4] Q)
        { env := [(0, .v (sv l)), (5, .own 61), (6, .v (iv k))], loc := [(61, .arr out.isEmpty (rows out) out.length 50 3)], H := H } := by
    intro n
    induction n using Nat.strongRecOn with
    | _ n ih =>
      intro out k hn k0 k1 ho htk
      by_cases hk : k < l.length
      · rw [drop_gi k0 hk] at htk
        have run2 : ∀ (m : Nat) (a : Int), (l.length - a).toNat = m → k ≤ a → a ≤ l.length → (∀ j, k ≤ j → j < a → inW (gi l j) = true) → wl (gi l k) = true →
            EX Try.prog [.code sc_words_Split_B2, .scp sc_words_Split_S0] (retK [.tmp 2, .tmp 3, .tmp 4] Q)
              { env := [(0, .v (sv l)), (5, .own 61), (6, .v (iv a)), (7, .v (iv k))], loc := [(61, .arr out.isEmpty (rows out) out.length 50 3)], H := H } := by
          intro m
          induction m using Nat.strongRecOn with
          | _ m ih2 =>
            intro a hm a0 a1 hall hw
            have hend : (a < l.length → inW (gi l a) = false) → EX Try.prog [.code sc_words_Split_B0, .scp sc_words_Split_S0] (retK [.tmp 2, .tmp 3, .tmp 4] Q)
                { env := [(0, .v (sv l)), (5, .own 61), (6, .v (iv a))], loc := [(61, .arr (out ++ [Tok.mk 1 k ((l.take a.toNat).drop k.toNat)]).isEmpty (rows (out ++ [Tok.mk 1 k ((l.take a.toNat).drop k.toNat)])) (out ++ [Tok.mk 1 k ((l.take a.toNat).drop k.toNat)]).length 50 3)], H := H } := by
              intro he
              have hka : k < a := by
                by_cases e : k = a
                · subst e
                  have := he (by omega)
                  rw [inW_first hw] at this; cases this
                · omega
              obtain ⟨t1, t2, t3⟩ := tk_run k0 hka a1 hall he
              refine ih _ (by omega) _ a rfl (by omega) a1 (by simp; omega) ?_
              rw [htk, tk_word hw, t1, t2, t3]
              simp [consT]
            simp -implicitDefEqProofs only [congrArg KI.code sc_words_Split_B2.eq_1, go_sem, Nat.reduceEqDiff, Nat.reduceAdd, Nat.reduceMul, Nat.reduceLeDiff, Nat.reduceSub, Nat.reduceLT, Nat.reduceBEq, Int.reduceToNat, reduceCtorEq, ↓reduceIte, Int.reduceEq, Int.reduceNeg, Int.reduceLT, Int.reduceLE, Int.reduceAdd, Int.reduceSub, Int.reduceMul]
            by_cases ha : a < l.length
            · cases hp : inW (gi l a) with
              | true =>
                have nxt := ih2 _ (by omega) (a + 1) rfl (by omega) (by omega) (fun j j0 j1 => by
                  by_cases e : j = a
                  · rw [e]; exact hp
                  · exact hall j j0 (by omega)) hw
                repeat' (first | simp -implicitDefEqProofs only [go_sem, Nat.reduceEqDiff, Nat.reduceAdd, Nat.reduceMul, Nat.reduceLeDiff, Nat.reduceSub, Nat.reduceLT, Nat.reduceBEq, Int.reduceToNat, reduceCtorEq, ↓reduceIte, Int.reduceEq, Int.reduceNeg, Int.reduceLT, Int.reduceLE, Int.reduceAdd, Int.reduceSub, Int.reduceMul] | simp -implicitDefEqProofs (disch := omega) only [get_gi, iaq_vec, iao_arr, iaq_raw, rd_map, wrap_id, binq_quo, binq_rem, binq_shl, binq_shr, tdiv_pos, tmod_pos, if_pos, exV_some, Option.map_some] | ((first | with_reducible apply exIf_dec | ((with_reducible apply exGd_dec); focus exact rfl) | ((with_reducible apply exGq_dec); focus exact rfl) | with_reducible apply exIf_intro | ((with_reducible apply exGd_intro); focus exact rfl) | ((with_reducible apply exGq_intro); focus exact rfl)) <;> intro _))
                all_goals first | (exfalso; omega) | skip
                refine exC_pure (inWord_c _ _) ?_
                rw [hp]
                repeat' (first | simp -implicitDefEqProofs only [go_sem, Nat.reduceEqDiff, Nat.reduceAdd, Nat.reduceMul, Nat.reduceLeDiff, Nat.reduceSub, Nat.reduceLT, Nat.reduceBEq, Int.reduceToNat, reduceCtorEq, ↓reduceIte, Int.reduceEq, Int.reduceNeg, Int.reduceLT, Int.reduceLE, Int.reduceAdd, Int.reduceSub, Int.reduceMul] | simp -implicitDefEqProofs (disch := omega) only [iaq_vec, iao_arr, iaq_raw, rd_map, wrap_id, binq_quo, binq_rem, binq_shl, binq_shr, tdiv_pos, tmod_pos, if_pos, exV_some, Option.map_some] | ((first | with_reducible apply exIf_dec | ((with_reducible apply exGd_dec); focus exact rfl) | ((with_reducible apply exGq_dec); focus exact rfl) | with_reducible apply exIf_intro | ((with_reducible apply exGd_intro); focus exact rfl) | ((with_reducible apply exGq_intro); focus exact rfl)) <;> intro _))
                exact nxt
              | false =>
                have nxt := hend fun _ => hp
                repeat' (first | simp -implicitDefEqProofs only [go_sem, Nat.reduceEqDiff, Nat.reduceAdd, Nat.reduceMul, Nat.reduceLeDiff, Nat.reduceSub, Nat.reduceLT, Nat.reduceBEq, Int.reduceToNat, reduceCtorEq, ↓reduceIte, Int.reduceEq, Int.reduceNeg, Int.reduceLT, Int.reduceLE, Int.reduceAdd, Int.reduceSub, Int.reduceMul] | simp -implicitDefEqProofs (disch := omega) only [get_gi, iaq_vec, iao_arr, iaq_raw, rd_map, wrap_id, binq_quo, binq_rem, binq_shl, binq_shr, tdiv_pos, tmod_pos, if_pos, exV_some, Option.map_some] | ((first | with_reducible apply exIf_dec | ((with_reducible apply exGd_dec); focus exact rfl) | ((with_reducible apply exGq_dec); focus exact rfl) | with_reducible apply exIf_intro | ((with_reducible apply exGd_intro); focus exact rfl) | ((with_reducible apply exGq_intro); focus exact rfl)) <;> intro _))
                all_goals first | (exfalso; omega) | skip
                refine exC_pure (inWord_c _ _) ?_
                rw [hp]
                repeat' (first | simp -implicitDefEqProofs only [go_sem, Nat.reduceEqDiff, Nat.reduceAdd, Nat.reduceMul, Nat.reduceLeDiff, Nat.reduceSub, Nat.reduceLT, Nat.reduceBEq, Int.reduceToNat, reduceCtorEq, ↓reduceIte, Int.reduceEq, Int.reduceNeg, Int.reduceLT, Int.reduceLE, Int.reduceAdd, Int.reduceSub, Int.reduceMul] | simp -implicitDefEqProofs (disch := omega) only [iaq_vec, iao_arr, iaq_raw, rd_map, wrap_id, binq_quo, binq_rem, binq_shl, binq_shr, tdiv_pos, tmod_pos, if_pos, exV_some, Option.map_some] | ((first | with_reducible apply exIf_dec | ((with_reducible apply exGd_dec); focus exact rfl) | ((with_reducible apply exGq_dec); focus exact rfl) | with_reducible apply exIf_intro | ((with_reducible apply exGd_intro); focus exact rfl) | ((with_reducible apply exGq_intro); focus exact rfl)) <;> intro _))
                refine exS_rows (α := Tok) ⟨1, k, _⟩ rfl rfl rfl (by omega) (by simp only [maxLen]; omega) ?_
                repeat' (first | simp -implicitDefEqProofs only [go_sem, Nat.reduceEqDiff, Nat.reduceAdd, Nat.reduceMul, Nat.reduceLeDiff, Nat.reduceSub, Nat.reduceLT, Nat.reduceBEq, Int.reduceToNat, reduceCtorEq, ↓reduceIte, Int.reduceEq, Int.reduceNeg, Int.reduceLT, Int.reduceLE, Int.reduceAdd, Int.reduceSub, Int.reduceMul] | simp -implicitDefEqProofs (disch := omega) only [iaq_vec, iao_arr, iaq_raw, rd_map, wrap_id, binq_quo, binq_rem, binq_shl, binq_shr, tdiv_pos, tmod_pos, if_pos, exV_some, Option.map_some] | ((first | with_reducible apply exIf_dec | ((with_reducible apply exGd_dec); focus exact rfl) | ((with_reducible apply exGq_dec); focus exact rfl) | with_reducible apply exIf_intro | ((with_reducible apply exGd_intro); focus exact rfl) | ((with_reducible apply exGq_intro); focus exact rfl)) <;> intro _))
                exact nxt
            · have nxt := hend fun h => absurd h ha
              repeat' (first | simp -implicitDefEqProofs only [go_sem, Nat.reduceEqDiff, Nat.reduceAdd, Nat.reduceMul, Nat.reduceLeDiff, Nat.reduceSub, Nat.reduceLT, Nat.reduceBEq, Int.reduceToNat, reduceCtorEq, ↓reduceIte, Int.reduceEq, Int.reduceNeg, Int.reduceLT, Int.reduceLE, Int.reduceAdd, Int.reduceSub, Int.reduceMul] | simp -implicitDefEqProofs (disch := omega) only [iaq_vec, iao_arr, iaq_raw, rd_map, wrap_id, binq_quo, binq_rem, binq_shl, binq_shr, tdiv_pos, tmod_pos, if_pos, exV_some, Option.map_some] | ((first | with_reducible apply exIf_dec | ((with_reducible apply exGd_dec); focus exact rfl) | ((with_reducible apply exGq_dec); focus exact rfl) | with_reducible apply exIf_intro | ((with_reducible apply exGd_intro); focus exact rfl) | ((with_reducible apply exGq_intro); focus exact rfl)) <;> intro _))
              all_goals first | (exfalso; omega) | skip
              refine exS_rows (α := Tok) ⟨1, k, _⟩ rfl rfl rfl (by omega) (by simp only [maxLen]; omega) ?_
              repeat' (first | simp -implicitDefEqProofs only [go_sem, Nat.reduceEqDiff, Nat.reduceAdd, Nat.reduceMul, Nat.reduceLeDiff, Nat.reduceSub, Nat.reduceLT, Nat.reduceBEq, Int.reduceToNat, reduceCtorEq, ↓reduceIte, Int.reduceEq, Int.reduceNeg, Int.reduceLT, Int.reduceLE, Int.reduceAdd, Int.reduceSub, Int.reduceMul] | simp -implicitDefEqProofs (disch := omega) only [iaq_vec, iao_arr, iaq_raw, rd_map, wrap_id, binq_quo, binq_rem, binq_shl, binq_shr, tdiv_pos, tmod_pos, if_pos, exV_some, Option.map_some] | ((first | with_reducible apply exIf_dec | ((with_reducible apply exGd_dec); focus exact rfl) | ((with_reducible apply exGq_dec); focus exact rfl) | with_reducible apply exIf_intro | ((with_reducible apply exGd_intro); focus exact rfl) | ((with_reducible apply exGq_intro); focus exact rfl)) <;> intro _))
              exact nxt
        have run3 : ∀ (m : Nat) (a : Int), (l.length - a).toNat = m → k ≤ a → a ≤ l.length → (∀ j, k ≤ j → j < a → inN (gi l j) = true) → wd (gi l k) = true →
            EX Try.prog [.code sc_words_Split_B3, .scp sc_words_Split_S0] (retK [.tmp 2, .tmp 3, .tmp 4] Q)
              { env := [(0, .v (sv l)), (5, .own 61), (6, .v (iv a)), (7, .v (iv k))], loc := [(61, .arr out.isEmpty (rows out) out.length 50 3)], H := H } := by
          intro m
          induction m using Nat.strongRecOn with
          | _ m ih2 =>
            intro a hm a0 a1 hall hw
            have hend : (a < l.length → inN (gi l a) = false) → EX Try.prog [.code sc_words_Split_B0, .scp sc_words_Split_S0] (retK [.tmp 2, .tmp 3, .tmp 4] Q)
                { env := [(0, .v (sv l)), (5, .own 61), (6, .v (iv a))], loc := [(61, .arr (out ++ [Tok.mk 2 k ((l.take a.toNat).drop k.toNat)]).isEmpty (rows (out ++ [Tok.mk 2 k ((l.take a.toNat).drop k.toNat)])) (out ++ [Tok.mk 2 k ((l.take a.toNat).drop k.toNat)]).length 50 3)], H := H } := by
              intro he
              have hka : k < a := by
                by_cases e : k = a
                · subst e
                  have := he (by omega)
                  rw [inN_first hw] at this; cases this
                · omega
              obtain ⟨t1, t2, t3⟩ := tk_run k0 hka a1 hall he
              refine ih _ (by omega) _ a rfl (by omega) a1 (by simp; omega) ?_
              rw [htk, tk_num hw, t1, t2, t3]
              simp [consT]
            simp -implicitDefEqProofs only [congrArg KI.code sc_words_Split_B3.eq_1, go_sem, Nat.reduceEqDiff, Nat.reduceAdd, Nat.reduceMul, Nat.reduceLeDiff, Nat.reduceSub, Nat.reduceLT, Nat.reduceBEq, Int.reduceToNat, reduceCtorEq, ↓reduceIte, Int.reduceEq, Int.reduceNeg, Int.reduceLT, Int.reduceLE, Int.reduceAdd, Int.reduceSub, Int.reduceMul]
            by_cases ha : a < l.length
            · cases hp : inN (gi l a) with
              | true =>
                have nxt := ih2 _ (by omega) (a + 1) rfl (by omega) (by omega) (fun j j0 j1 => by
                  by_cases e : j = a
                  · rw [e]; exact hp
                  · exact hall j j0 (by omega)) hw
                repeat' (first | simp -implicitDefEqProofs only [go_sem, Nat.reduceEqDiff, Nat.reduceAdd, Nat.reduceMul, Nat.reduceLeDiff, Nat.reduceSub, Nat.reduceLT, Nat.reduceBEq, Int.reduceToNat, reduceCtorEq, ↓reduceIte, Int.reduceEq, Int.reduceNeg, Int.reduceLT, Int.reduceLE, Int.reduceAdd, Int.reduceSub, Int.reduceMul] | simp -implicitDefEqProofs (disch := omega) only [get_gi, iaq_vec, iao_arr, iaq_raw, rd_map, wrap_id, binq_quo, binq_rem, binq_shl, binq_shr, tdiv_pos, tmod_pos, if_pos, exV_some, Option.map_some] | ((first | with_reducible apply exIf_dec | ((with_reducible apply exGd_dec); focus exact rfl) | ((with_reducible apply exGq_dec); focus exact rfl) | with_reducible apply exIf_intro | ((with_reducible apply exGd_intro); focus exact rfl) | ((with_reducible apply exGq_intro); focus exact rfl)) <;> intro _))
                all_goals first | (exfalso; omega) | skip
                refine exC_pure (inNumber_c _ _) ?_
                rw [hp]
                repeat' (first | simp -implicitDefEqProofs only [go_sem, Nat.reduceEqDiff, Nat.reduceAdd, Nat.reduceMul, Nat.reduceLeDiff, Nat.reduceSub, Nat.reduceLT, Nat.reduceBEq, Int.reduceToNat, reduceCtorEq, ↓reduceIte, Int.reduceEq, Int.reduceNeg, Int.reduceLT, Int.reduceLE, Int.reduceAdd, Int.reduceSub, Int.reduceMul] | simp -implicitDefEqProofs (disch := omega) only [iaq_vec, iao_arr, iaq_raw, rd_map, wrap_id, binq_quo, binq_rem, binq_shl, binq_shr, tdiv_pos, tmod_pos, if_pos, exV_some, Option.map_some] | ((first | with_reducible apply exIf_dec | ((with_reducible apply exGd_dec); focus exact rfl) | ((with_reducible apply exGq_dec); focus exact rfl) | with_reducible apply exIf_intro | ((with_reducible apply exGd_intro); focus exact rfl) | ((with_reducible apply exGq_intro); focus exact rfl)) <;> intro _))
                exact nxt
              | false =>
                have nxt := hend fun _ => hp
                repeat' (first | simp -implicitDefEqProofs only [go_sem, Nat.reduceEqDiff, Nat.reduceAdd, Nat.reduceMul, Nat.reduceLeDiff, Nat.reduceSub, Nat.reduceLT, Nat.reduceBEq, Int.reduceToNat, reduceCtorEq, ↓reduceIte, Int.reduceEq, Int.reduceNeg, Int.reduceLT, Int.reduceLE, Int.reduceAdd, Int.reduceSub, Int.reduceMul] | simp -implicitDefEqProofs (disch := omega) only [get_gi, iaq_vec, iao_arr, iaq_raw, rd_map, wrap_id, binq_quo, binq_rem, binq_shl, binq_shr, tdiv_pos, tmod_pos, if_pos, exV_some, Option.map_some] | ((first | with_reducible apply exIf_dec | ((with_reducible apply exGd_dec); focus exact rfl) | ((with_reducible apply exGq_dec); focus exact rfl) | with_reducible apply exIf_intro | ((with_reducible apply exGd_intro); focus exact rfl) | ((with_reducible apply exGq_intro); focus exact rfl)) <;> intro _))
                all_goals first | (exfalso; omega) | skip
                refine exC_pure (inNumber_c _ _) ?_
                rw [hp]
                repeat' (first | simp -implicitDefEqProofs only [go_sem, Nat.reduceEqDiff, Nat.reduceAdd, Nat.reduceMul, Nat.reduceLeDiff, Nat.reduceSub, Nat.reduceLT, Nat.reduceBEq, Int.reduceToNat, reduceCtorEq, ↓reduceIte, Int.reduceEq, Int.reduceNeg, Int.reduceLT, Int.reduceLE, Int.reduceAdd, Int.reduceSub, Int.reduceMul] | simp -implicitDefEqProofs (disch := omega) only [iaq_vec, iao_arr, iaq_raw, rd_map, wrap_id, binq_quo, binq_rem, binq_shl, binq_shr, tdiv_pos, tmod_pos, if_pos, exV_some, Option.map_some] | ((first | with_reducible apply exIf_dec | ((with_reducible apply exGd_dec); focus exact rfl) | ((with_reducible apply exGq_dec); focus exact rfl) | with_reducible apply exIf_intro | ((with_reducible apply exGd_intro); focus exact rfl) | ((with_reducible apply exGq_intro); focus exact rfl)) <;> intro _))
                refine exS_rows (α := Tok) ⟨2, k, _⟩ rfl rfl rfl (by omega) (by simp only [maxLen]; omega) ?_
                repeat' (first | simp -implicitDefEqProofs only [go_sem, Nat.reduceEqDiff, Nat.reduceAdd, Nat.reduceMul, Nat.reduceLeDiff, Nat.reduceSub, Nat.reduceLT, Nat.reduceBEq, Int.reduceToNat, reduceCtorEq, ↓reduceIte, Int.reduceEq, Int.reduceNeg, Int.reduceLT, Int.reduceLE, Int.reduceAdd, Int.reduceSub, Int.reduceMul] | simp -implicitDefEqProofs (disch := omega) only [iaq_vec, iao_arr, iaq_raw, rd_map, wrap_id, binq_quo, binq_rem, binq_shl, binq_shr, tdiv_pos, tmod_pos, if_pos, exV_some, Option.map_some] | ((first | with_reducible apply exIf_dec | ((with_reducible apply exGd_dec); focus exact rfl) | ((with_reducible apply exGq_dec); focus exact rfl) | with_reducible apply exIf_intro | ((with_reducible apply exGd_intro); focus exact rfl) | ((with_reducible apply exGq_intro); focus exact rfl)) <;> intro _))
                exact nxt
            · have nxt := hend fun h => absurd h ha
              repeat' (first | simp -implicitDefEqProofs only [go_sem, Nat.reduceEqDiff, Nat.reduceAdd, Nat.reduceMul, Nat.reduceLeDiff, Nat.reduceSub, Nat.reduceLT, Nat.reduceBEq, Int.reduceToNat, reduceCtorEq, ↓reduceIte, Int.reduceEq, Int.reduceNeg, Int.reduceLT, Int.reduceLE, Int.reduceAdd, Int.reduceSub, Int.reduceMul] | simp -implicitDefEqProofs (disch := omega) only [iaq_vec, iao_arr, iaq_raw, rd_map, wrap_id, binq_quo, binq_rem, binq_shl, binq_shr, tdiv_pos, tmod_pos, if_pos, exV_some, Option.map_some] | ((first | with_reducible apply exIf_dec | ((with_reducible apply exGd_dec); focus exact rfl) | ((with_reducible apply exGq_dec); focus exact rfl) | with_reducible apply exIf_intro | ((with_reducible apply exGd_intro); focus exact rfl) | ((with_reducible apply exGq_intro); focus exact rfl)) <;> intro _))
              all_goals first | (exfalso; omega) | skip
              refine exS_rows (α := Tok) ⟨2, k, _⟩ rfl rfl rfl (by omega) (by simp only [maxLen]; omega) ?_
              repeat' (first | simp -implicitDefEqProofs only [go_sem, Nat.reduceEqDiff, Nat.reduceAdd, Nat.reduceMul, Nat.reduceLeDiff, Nat.reduceSub, Nat.reduceLT, Nat.reduceBEq, Int.reduceToNat, reduceCtorEq, ↓reduceIte, Int.reduceEq, Int.reduceNeg, Int.reduceLT, Int.reduceLE, Int.reduceAdd, Int.reduceSub, Int.reduceMul] | simp -implicitDefEqProofs (disch := omega) only [iaq_vec, iao_arr, iaq_raw, rd_map, wrap_id, binq_quo, binq_rem, binq_shl, binq_shr, tdiv_pos, tmod_pos, if_pos, exV_some, Option.map_some] | ((first | with_reducible apply exIf_dec | ((with_reducible apply exGd_dec); focus exact rfl) | ((with_reducible apply exGq_dec); focus exact rfl) | with_reducible apply exIf_intro | ((with_reducible apply exGd_intro); focus exact rfl) | ((with_reducible apply exGq_intro); focus exact rfl)) <;> intro _))
              exact nxt
        -- a note
        have run1 : ∀ (m : Nat) (a : Int), (l.length - a).toNat = m → k ≤ a → a ≤ l.length → (∀ j, k ≤ j → j < a → inC (gi l j) = true) → bI (gi l k) = 35 →
            EX Try.prog [.code sc_words_Split_B1, .scp sc_words_Split_S0] (retK [.tmp 2, .tmp 3, .tmp 4] Q)
              { env := [(0, .v (sv l)), (5, .own 61), (6, .v (iv a))], loc := [(61, .arr out.isEmpty (rows out) out.length 50 3)], H := H } := by
          intro m
          induction m using Nat.strongRecOn with
          | _ m ih2 =>
            intro a hm a0 a1 hall hw
            have hend : (a < l.length → inC (gi l a) = false) → EX Try.prog [.code sc_words_Split_B0, .scp sc_words_Split_S0] (retK [.tmp 2, .tmp 3, .tmp 4] Q)
                { env := [(0, .v (sv l)), (5, .own 61), (6, .v (iv a))], loc := [(61, .arr out.isEmpty (rows out) out.length 50 3)], H := H } := by
              intro he
              have hka : k < a := by
                by_cases e : k = a
                · subst e
                  have := he (by omega)
                  rw [inC, hw] at this; cases this
                · omega
              obtain ⟨-, t2, t3⟩ := tk_run k0 hka a1 hall he
              refine ih _ (by omega) out a rfl (by omega) a1 (by omega) ?_
              rw [htk, tk_note hw, t2, t3]
            simp -implicitDefEqProofs only [congrArg KI.code sc_words_Split_B1.eq_1, go_sem, Nat.reduceEqDiff, Nat.reduceAdd, Nat.reduceMul, Nat.reduceLeDiff, Nat.reduceSub, Nat.reduceLT, Nat.reduceBEq, Int.reduceToNat, reduceCtorEq, ↓reduceIte, Int.reduceEq, Int.reduceNeg, Int.reduceLT, Int.reduceLE, Int.reduceAdd, Int.reduceSub, Int.reduceMul]
            by_cases ha : a < l.length
            · by_cases hp : bI (gi l a) = 10
              · have nxt := hend fun _ => by simp [inC, hp]
                repeat' (first | simp -implicitDefEqProofs only [go_sem, Nat.reduceEqDiff, Nat.reduceAdd, Nat.reduceMul, Nat.reduceLeDiff, Nat.reduceSub, Nat.reduceLT, Nat.reduceBEq, Int.reduceToNat, reduceCtorEq, ↓reduceIte, Int.reduceEq, Int.reduceNeg, Int.reduceLT, Int.reduceLE, Int.reduceAdd, Int.reduceSub, Int.reduceMul] | simp -implicitDefEqProofs (disch := omega) only [get_gi, iaq_vec, iao_arr, iaq_raw, rd_map, wrap_id, binq_quo, binq_rem, binq_shl, binq_shr, tdiv_pos, tmod_pos, if_pos, exV_some, Option.map_some] | ((first | with_reducible apply exIf_dec | ((with_reducible apply exGd_dec); focus exact rfl) | ((with_reducible apply exGq_dec); focus exact rfl) | with_reducible apply exIf_intro | ((with_reducible apply exGd_intro); focus exact rfl) | ((with_reducible apply exGq_intro); focus exact rfl)) <;> intro _))
                all_goals first | exact nxt | (exfalso; omega)
              · have nxt := ih2 _ (by omega) (a + 1) rfl (by omega) (by omega) (fun j j0 j1 => by
                  by_cases e : j = a
                  · rw [e]; simp [inC, hp]
                  · exact hall j j0 (by omega)) hw
                repeat' (first | simp -implicitDefEqProofs only [go_sem, Nat.reduceEqDiff, Nat.reduceAdd, Nat.reduceMul, Nat.reduceLeDiff, Nat.reduceSub, Nat.reduceLT, Nat.reduceBEq, Int.reduceToNat, reduceCtorEq, ↓reduceIte, Int.reduceEq, Int.reduceNeg, Int.reduceLT, Int.reduceLE, Int.reduceAdd, Int.reduceSub, Int.reduceMul] | simp -implicitDefEqProofs (disch := omega) only [get_gi, iaq_vec, iao_arr, iaq_raw, rd_map, wrap_id, binq_quo, binq_rem, binq_shl, binq_shr, tdiv_pos, tmod_pos, if_pos, exV_some, Option.map_some] | ((first | with_reducible apply exIf_dec | ((with_reducible apply exGd_dec); focus exact rfl) | ((with_reducible apply exGq_dec); focus exact rfl) | with_reducible apply exIf_intro | ((with_reducible apply exGd_intro); focus exact rfl) | ((with_reducible apply exGq_intro); focus exact rfl)) <;> intro _))
                all_goals first | exact nxt | (exfalso; omega)
            · have nxt := hend fun h => absurd h ha
              repeat' (first | simp -implicitDefEqProofs only [go_sem, Nat.reduceEqDiff, Nat.reduceAdd, Nat.reduceMul, Nat.reduceLeDiff, Nat.reduceSub, Nat.reduceLT, Nat.reduceBEq, Int.reduceToNat, reduceCtorEq, ↓reduceIte, Int.reduceEq, Int.reduceNeg, Int.reduceLT, Int.reduceLE, Int.reduceAdd, Int.reduceSub, Int.reduceMul] | simp -implicitDefEqProofs (disch := omega) only [iaq_vec, iao_arr, iaq_raw, rd_map, wrap_id, binq_quo, binq_rem, binq_shl, binq_shr, tdiv_pos, tmod_pos, if_pos, exV_some, Option.map_some] | ((first | with_reducible apply exIf_dec | ((with_reducible apply exGd_dec); focus exact rfl) | ((with_reducible apply exGq_dec); focus exact rfl) | with_reducible apply exIf_intro | ((with_reducible apply exGd_intro); focus exact rfl) | ((with_reducible apply exGq_intro); focus exact rfl)) <;> intro _))
              all_goals first | exact nxt | (exfalso; omega)
        obtain ⟨c, hc⟩ : ∃ c, c = gi l k := ⟨_, rfl⟩
        have nb := ih _ (show (l.length - (k + 1)).toNat < n by omega) out (k + 1) rfl (by omega) (by omega) (by omega)
        have r1 := run1 _ k rfl (Int.le_refl _) k1 (fun j _ _ => by omega)
        have r2 := run2 _ k rfl (Int.le_refl _) k1 (fun j _ _ => by omega)
        have r3 := run3 _ k rfl (Int.le_refl _) k1 (fun j _ _ => by omega)
        have r4 := ih _ (show (l.length - (k + 1)).toNat < n by omega) (out ++ [Tok.mk 3 k [c]]) (k + 1) rfl (by omega) (by omega) (by simp; omega)
        clear run1 run2 run3 ih
        rw [← hc] at htk r1 r2 r3
        simp -implicitDefEqProofs only [congrArg KI.code sc_words_Split_B0.eq_1, go_sem, Nat.reduceEqDiff, Nat.reduceAdd, Nat.reduceMul, Nat.reduceLeDiff, Nat.reduceSub, Nat.reduceLT, Nat.reduceBEq, Int.reduceToNat, reduceCtorEq, ↓reduceIte, Int.reduceEq, Int.reduceNeg, Int.reduceLT, Int.reduceLE, Int.reduceAdd, Int.reduceSub, Int.reduceMul]
        repeat' (first | simp -implicitDefEqProofs only [go_sem, Nat.reduceEqDiff, Nat.reduceAdd, Nat.reduceMul, Nat.reduceLeDiff, Nat.reduceSub, Nat.reduceLT, Nat.reduceBEq, Int.reduceToNat, reduceCtorEq, ↓reduceIte, Int.reduceEq, Int.reduceNeg, Int.reduceLT, Int.reduceLE, Int.reduceAdd, Int.reduceSub, Int.reduceMul] | simp -implicitDefEqProofs (disch := omega) only [get_gi, ← hc, iaq_vec, iao_arr, iaq_raw, rd_map, wrap_id, binq_quo, binq_rem, binq_shl, binq_shr, tdiv_pos, tmod_pos, if_pos, exV_some, Option.map_some] | ((first | with_reducible apply exIf_dec | ((with_reducible apply exGd_dec); focus exact rfl) | ((with_reducible apply exGq_dec); focus exact rfl) | with_reducible apply exIf_intro | ((with_reducible apply exGd_intro); focus exact rfl) | ((with_reducible apply exGq_intro); focus exact rfl)) <;> intro _) | with_reducible refine exC_pure (letter_c _ _) ?_ | with_reducible refine exCq_pure (letter_c _ _) ?_ | with_reducible refine exC_pure (digit_c _ _) ?_ | with_reducible refine exCq_pure (digit_c _ _) ?_)
        all_goals first | (exfalso; omega) | skip
        · exact nb (by rw [htk, tk_blank (by omega)])
        · exact nb (by rw [htk, tk_blank (by omega)])
        · exact r1 (by omega)
        · exact r2 (by simp only [wl, decide_eq_true_eq]; omega)
        · exact r3 (by simp only [wd, decide_eq_true_eq]; omega)
        · have hx : (l.take (k + 1).toNat).drop k.toNat = [c] := by
            rw [List.drop_take, drop_gi k0 hk, ← hc, show (k + 1).toNat - k.toNat = 1 by omega]
            rfl
          rw [hx]
          refine exS_rows (α := Tok) (Tok.mk 3 k [c]) rfl rfl rfl (by omega) (by simp only [maxLen]; omega) ?_
          repeat' (first | simp -implicitDefEqProofs only [go_sem, Nat.reduceEqDiff, Nat.reduceAdd, Nat.reduceMul, Nat.reduceLeDiff, Nat.reduceSub, Nat.reduceLT, Nat.reduceBEq, Int.reduceToNat, reduceCtorEq, ↓reduceIte, Int.reduceEq, Int.reduceNeg, Int.reduceLT, Int.reduceLE, Int.reduceAdd, Int.reduceSub, Int.reduceMul] | simp -implicitDefEqProofs (disch := omega) only [iaq_vec, iao_arr, iaq_raw, rd_map, wrap_id, binq_quo, binq_rem, binq_shl, binq_shr, tdiv_pos, tmod_pos, if_pos, exV_some, Option.map_some] | ((first | with_reducible apply exIf_dec | ((with_reducible apply exGd_dec); focus exact rfl) | ((with_reducible apply exGq_dec); focus exact rfl) | with_reducible apply exIf_intro | ((with_reducible apply exGd_intro); focus exact rfl) | ((with_reducible apply exGq_intro); focus exact rfl)) <;> intro _))
          refine r4 ?_
          rw [htk, tk_sign (by omega)]
          simp [consT]
        · rw [tk_bad (by omega) (by omega) (by simp only [wl, decide_eq_false_iff_not]; omega) (by simp only [wd, decide_eq_false_iff_not]; omega) (by omega), List.append_nil] at htk
          exact (fin out k htk).2 (by omega)
      · have hk' : k = l.length := by omega
        rw [drop_end (by omega), tk_nil, List.append_nil] at htk
        have nxt := (fin out (-1) htk).1 rfl
        clear ih
        simp -implicitDefEqProofs only [congrArg KI.code sc_words_Split_B0.eq_1, go_sem, Nat.reduceEqDiff, Nat.reduceAdd, Nat.reduceMul, Nat.reduceLeDiff, Nat.reduceSub, Nat.reduceLT, Nat.reduceBEq, Int.reduceToNat, reduceCtorEq, ↓reduceIte, Int.reduceEq, Int.reduceNeg, Int.reduceLT, Int.reduceLE, Int.reduceAdd, Int.reduceSub, Int.reduceMul]
        repeat' (first | simp -implicitDefEqProofs only [go_sem, Nat.reduceEqDiff, Nat.reduceAdd, Nat.reduceMul, Nat.reduceLeDiff, Nat.reduceSub, Nat.reduceLT, Nat.reduceBEq, Int.reduceToNat, reduceCtorEq, ↓reduceIte, Int.reduceEq, Int.reduceNeg, Int.reduceLT, Int.reduceLE, Int.reduceAdd, Int.reduceSub, Int.reduceMul] | simp -implicitDefEqProofs (disch := omega) only [iaq_vec, iao_arr, iaq_raw, rd_map, wrap_id, binq_quo, binq_rem, binq_shl, binq_shr, tdiv_pos, tmod_pos, if_pos, exV_some, Option.map_some] | ((first | with_reducible apply exIf_dec | ((with_reducible apply exGd_dec); focus exact rfl) | ((with_reducible apply exGq_dec); focus exact rfl) | with_reducible apply exIf_intro | ((with_reducible apply exGd_intro); focus exact rfl) | ((with_reducible apply exGq_intro); focus exact rfl)) <;> intro _))
        all_goals first | exact nxt | (exfalso; omega)
  exact main _ [] 0 rfl (by omega) (by omega) (by simp) (by simp)
end Go.Proofs.Ytkephdahbplhfaa
