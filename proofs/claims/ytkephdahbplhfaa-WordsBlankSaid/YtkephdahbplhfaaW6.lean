import Derived.Test.YtkephdahbplhfaaScWaymarklaw12
import Derived.Test.YtkephdahbplhfaaW5
set_option linter.unusedSimpArgs false
set_option linter.unusedVariables false
/- The law WordsBlank of chapter 12, as a contract. -/
namespace Go.Proofs.Ytkephdahbplhfaa
open Go Abs
attribute [local irreducible] EX exL exG exC exCq exS exV exIf exGd exGq
set_option maxHeartbeats 3000000

theorem wordsBlank_c (l : List UInt8) (hl : l.length ≤ 140737488351232) (nl : Bool) (pads : List (List UInt8)) (hpl : pads.length * 16 ≤ 140737488351232) (hps : ∀ s ∈ pads, s.length ≤ 140737488351232) (H : AHeap) :
    APure Try.prog 7 [sv l, .vec nl (pads.map sv) pads.length] H (bv true) := by
  intro Q h
  refine ACalls.of_code fn_waymarklaw12_WordsBlank ?_
  simp -implicitDefEqProofs only [sc_waymarklaw12_WordsBlank, go_sem, Nat.reduceEqDiff, Nat.reduceAdd, Nat.reduceMul, Nat.reduceLeDiff, Nat.reduceSub, Nat.reduceLT, Nat.reduceBEq, Int.reduceToNat, reduceCtorEq, ↓reduceIte, Int.reduceEq, Int.reduceNeg, Int.reduceLT, Int.reduceLE, Int.reduceAdd, Int.reduceSub, Int.reduceMul]
  refine exC_pure (alive12_c _) ?_
  simp -implicitDefEqProofs only [go_sem, Nat.reduceEqDiff, Nat.reduceAdd, Nat.reduceMul, Nat.reduceLeDiff, Nat.reduceSub, Nat.reduceLT, Nat.reduceBEq, Int.reduceToNat, reduceCtorEq, ↓reduceIte, Int.reduceEq, Int.reduceNeg, Int.reduceLT, Int.reduceLE, Int.reduceAdd, Int.reduceSub, Int.reduceMul]
  refine exC_pure (rsplit_c l (by omega) _) ?_
  by_cases hlong : 10000 < l.length
  · rw [splitAV, if_pos hlong]
    repeat' (first | simp -implicitDefEqProofs only [go_sem, Nat.reduceEqDiff, Nat.reduceAdd, Nat.reduceMul, Nat.reduceLeDiff, Nat.reduceSub, Nat.reduceLT, Nat.reduceBEq, Int.reduceToNat, reduceCtorEq, ↓reduceIte, Int.reduceEq, Int.reduceNeg, Int.reduceLT, Int.reduceLE, Int.reduceAdd, Int.reduceSub, Int.reduceMul] | simp -implicitDefEqProofs (disch := omega) only [iaq_vec, iao_arr, iaq_raw, rd_map, wrap_id, binq_quo, binq_rem, binq_shl, binq_shr, tdiv_pos, tmod_pos, if_pos, exV_some, Option.map_some] | ((first | with_reducible apply exIf_dec | ((with_reducible apply exGd_dec); focus exact rfl) | ((with_reducible apply exGq_dec); focus exact rfl) | with_reducible apply exIf_intro | ((with_reducible apply exGd_intro); focus exact rfl) | ((with_reducible apply exGq_intro); focus exact rfl)) <;> intro _))
    all_goals first | exact h | (exfalso; omega)
  by_cases hbad : (tk l 0).2 = -1
  case neg =>
    rw [splitAV, if_neg hlong, if_neg hbad]
    repeat' (first | simp -implicitDefEqProofs only [go_sem, Nat.reduceEqDiff, Nat.reduceAdd, Nat.reduceMul, Nat.reduceLeDiff, Nat.reduceSub, Nat.reduceLT, Nat.reduceBEq, Int.reduceToNat, reduceCtorEq, ↓reduceIte, Int.reduceEq, Int.reduceNeg, Int.reduceLT, Int.reduceLE, Int.reduceAdd, Int.reduceSub, Int.reduceMul] | simp -implicitDefEqProofs (disch := omega) only [iaq_vec, iao_arr, iaq_raw, rd_map, wrap_id, binq_quo, binq_rem, binq_shl, binq_shr, tdiv_pos, tmod_pos, if_pos, exV_some, Option.map_some] | ((first | with_reducible apply exIf_dec | ((with_reducible apply exGd_dec); focus exact rfl) | ((with_reducible apply exGq_dec); focus exact rfl) | with_reducible apply exIf_intro | ((with_reducible apply exGd_intro); focus exact rfl) | ((with_reducible apply exGq_intro); focus exact rfl)) <;> intro _))
    all_goals first | exact h | (exfalso; omega)
  obtain ⟨ts, hts⟩ : ∃ ts, tk l 0 = (ts, -1) := ⟨(tk l 0).1, Prod.ext rfl hbad⟩
  rw [split_ok (by omega) hts]
  obtain ⟨a1, a2⟩ := tk_all _ l 0 (Nat.le_refl _)
  rw [hts] at a1 a2
  dsimp only at a1 a2
  repeat' (first | simp -implicitDefEqProofs only [go_sem, Nat.reduceEqDiff, Nat.reduceAdd, Nat.reduceMul, Nat.reduceLeDiff, Nat.reduceSub, Nat.reduceLT, Nat.reduceBEq, Int.reduceToNat, reduceCtorEq, ↓reduceIte, Int.reduceEq, Int.reduceNeg, Int.reduceLT, Int.reduceLE, Int.reduceAdd, Int.reduceSub, Int.reduceMul] | simp -implicitDefEqProofs (disch := omega) only [iaq_vec, iao_arr, iaq_raw, rd_map, wrap_id, binq_quo, binq_rem, binq_shl, binq_shr, tdiv_pos, tmod_pos, if_pos, exV_some, Option.map_some] | ((first | with_reducible apply exIf_dec | ((with_reducible apply exGd_dec); focus exact rfl) | ((with_reducible apply exGq_dec); focus exact rfl) | with_reducible apply exIf_intro | ((with_reducible apply exGd_intro); focus exact rfl) | ((with_reducible apply exGq_intro); focus exact rfl)) <;> intro _))
  all_goals first | exact h | (exfalso; omega) | skip
  have hgt : ∀ i : Int, 0 ≤ i → i < ts.length → (gi ts i).ok ∧ (gi ts i).text.length ≤ l.length ∧ ts[i.toNat]? = some (gi ts i) := fun i i0 i1 => ⟨(a2 _ (gi_mem i0 i1)).1, (a2 _ (gi_mem i0 i1)).2, get_gi i0 i1⟩
  refine exL_mod (fun a : Int × List UInt8 => [(9, .v (sv a.2)), (10, .v (iv a.1))]) (fun _ => []) (fun a => 0 ≤ a.1 ∧ a.2.length ≤ a.1 * 1101 ∧ ((a.1 ≤ ts.length ∧ BInv ts a.2 a.1.toNat) ∨ (a.1 = ts.length + 1 ∧ (tk a.2 0).2 = -1 ∧ (tk a.2 0).1.map kt = ts.map kt))) (fun a => (ts.length + 1 - a.1).toNat) (0, []) rfl ⟨by simp, by simp, .inl ⟨by simp, binv_nil ts⟩⟩ ?_
  rintro ⟨i, t⟩ ⟨i0, ht, hi⟩ ih
  dsimp only at i0 ht hi ih
  simp only [S.up, S.upH, ups, Abs.put, Nat.reduceEqDiff, ↓reduceIte, Nat.reduceAdd] at ih
  simp -implicitDefEqProofs only [congrArg KI.code sc_waymarklaw12_WordsBlank_L2.eq_1, go_sem, Nat.reduceEqDiff, Nat.reduceAdd, Nat.reduceMul, Nat.reduceLeDiff, Nat.reduceSub, Nat.reduceLT, Nat.reduceBEq, Int.reduceToNat, reduceCtorEq, ↓reduceIte, Int.reduceEq, Int.reduceNeg, Int.reduceLT, Int.reduceLE, Int.reduceAdd, Int.reduceSub, Int.reduceMul]
  rcases hi with ⟨i1, hB⟩ | ⟨i1, hE1, hE2⟩
  · repeat' (first | simp -implicitDefEqProofs only [go_sem, Nat.reduceEqDiff, Nat.reduceAdd, Nat.reduceMul, Nat.reduceLeDiff, Nat.reduceSub, Nat.reduceLT, Nat.reduceBEq, Int.reduceToNat, reduceCtorEq, ↓reduceIte, Int.reduceEq, Int.reduceNeg, Int.reduceLT, Int.reduceLE, Int.reduceAdd, Int.reduceSub, Int.reduceMul] | simp -implicitDefEqProofs (disch := omega) only [iaq_vec, iao_arr, iaq_raw, rd_map, wrap_id, binq_quo, binq_rem, binq_shl, binq_shr, tdiv_pos, tmod_pos, if_pos, exV_some, Option.map_some] | ((first | with_reducible apply exIf_dec | ((with_reducible apply exGd_dec); focus exact rfl) | ((with_reducible apply exGq_dec); focus exact rfl) | with_reducible apply exIf_intro | ((with_reducible apply exGd_intro); focus exact rfl) | ((with_reducible apply exGq_intro); focus exact rfl)) <;> intro _))
    all_goals first | (exfalso; omega) | skip
    refine exL_mod (fun a : Int × List UInt8 => [(11, .v (sv (32 :: a.2))), (12, .v (iv a.1))]) (fun _ => []) (fun a => 0 ≤ a.1 ∧ a.2.length ≤ a.1 * 5 ∧ a.1 ≤ 20 ∧ PadOk (32 :: a.2)) (fun a => (20 - a.1).toNat) (0, []) rfl ⟨by simp, by simp, by simp, pad_space⟩ ?_
    rintro ⟨k, p⟩ ⟨k0, hp, k1, hpad⟩ ih2
    dsimp only at k0 hp k1 hpad ih2
    simp only [S.up, S.upH, ups, Abs.put, Nat.reduceEqDiff, ↓reduceIte, Nat.reduceAdd] at ih2
    have n1 := fun (hk : k < 20) => ih2 (k + 1, p ++ [35, 32, 120, 59, 10]) ⟨by dsimp only; omega, by simp only [List.length_append, List.length_cons, List.length_nil]; omega, by dsimp only; omega, by dsimp only; exact hpad.append pad_note⟩ (by dsimp only; omega)
    have n2 := fun (hk : k < 20) => ih2 (k + 1, p ++ [10, 32]) ⟨by dsimp only; omega, by simp only [List.length_append, List.length_cons, List.length_nil]; omega, by dsimp only; omega, by dsimp only; exact hpad.append pad_two⟩ (by dsimp only; omega)
    clear ih2
    simp -implicitDefEqProofs only [congrArg KI.code sc_waymarklaw12_WordsBlank_L1.eq_1, go_sem, Nat.reduceEqDiff, Nat.reduceAdd, Nat.reduceMul, Nat.reduceLeDiff, Nat.reduceSub, Nat.reduceLT, Nat.reduceBEq, Int.reduceToNat, reduceCtorEq, ↓reduceIte, Int.reduceEq, Int.reduceNeg, Int.reduceLT, Int.reduceLE, Int.reduceAdd, Int.reduceSub, Int.reduceMul]
    have e1 := binq_sadd (l := 32 :: p) (m := [35, 32, 120, 59, 10]) (by simp; omega)
    have e2 := binq_sadd (l := 32 :: p) (m := [10, 32]) (by simp; omega)
    have hip : i < pads.length := by omega
    have e3 := binq_sadd (l := t) (m := 32 :: p) (by simp; omega)
    by_cases hit : i < ts.length
    · obtain ⟨g1, g2, g3⟩ := hgt i i0 hit
      have e4 := binq_sadd (l := t ++ 32 :: p) (m := (gi ts i).text) (by simp; omega)
      have nxt := ih (i + 1, t ++ 32 :: p ++ (gi ts i).text) ⟨by dsimp only; omega, by simp only [List.length_append, List.length_cons]; omega, .inl ⟨by dsimp only; omega, by
        dsimp only
        rw [show (i + 1).toNat = i.toNat + 1 by omega]
        exact binv_step hB g3 g1 hpad⟩⟩ (by dsimp only; omega)
      repeat' (first | simp -implicitDefEqProofs only [go_sem, Nat.reduceEqDiff, Nat.reduceAdd, Nat.reduceMul, Nat.reduceLeDiff, Nat.reduceSub, Nat.reduceLT, Nat.reduceBEq, Int.reduceToNat, reduceCtorEq, ↓reduceIte, Int.reduceEq, Int.reduceNeg, Int.reduceLT, Int.reduceLE, Int.reduceAdd, Int.reduceSub, Int.reduceMul] | simp -implicitDefEqProofs (disch := omega) only [e1, e2, e3, e4, get_gi, rd_tok2, iaq_vec, iao_arr, iaq_raw, rd_map, wrap_id, binq_quo, binq_rem, binq_shl, binq_shr, tdiv_pos, tmod_pos, if_pos, exV_some, Option.map_some] | ((first | with_reducible apply exIf_dec | ((with_reducible apply exGd_dec); focus exact rfl) | ((with_reducible apply exGq_dec); focus exact rfl) | with_reducible apply exIf_intro | ((with_reducible apply exGd_intro); focus exact rfl) | ((with_reducible apply exGq_intro); focus exact rfl)) <;> intro _))
      all_goals first | (exfalso; omega) | exact nxt | exact n1 (by omega) | exact n2 (by omega)
    · have hB' : BInv ts t ts.length := by rw [show ts.length = i.toNat by omega]; exact hB
      have nxt := ih (i + 1, t ++ 32 :: p) ⟨by dsimp only; omega, by simp only [List.length_append, List.length_cons]; omega, .inr ⟨by dsimp only; omega, (binv_end hB' hpad).1, (binv_end hB' hpad).2⟩⟩ (by dsimp only; omega)
      repeat' (first | simp -implicitDefEqProofs only [go_sem, Nat.reduceEqDiff, Nat.reduceAdd, Nat.reduceMul, Nat.reduceLeDiff, Nat.reduceSub, Nat.reduceLT, Nat.reduceBEq, Int.reduceToNat, reduceCtorEq, ↓reduceIte, Int.reduceEq, Int.reduceNeg, Int.reduceLT, Int.reduceLE, Int.reduceAdd, Int.reduceSub, Int.reduceMul] | simp -implicitDefEqProofs (disch := omega) only [e1, e2, e3, get_gi, iaq_vec, iao_arr, iaq_raw, rd_map, wrap_id, binq_quo, binq_rem, binq_shl, binq_shr, tdiv_pos, tmod_pos, if_pos, exV_some, Option.map_some] | ((first | with_reducible apply exIf_dec | ((with_reducible apply exGd_dec); focus exact rfl) | ((with_reducible apply exGq_dec); focus exact rfl) | with_reducible apply exIf_intro | ((with_reducible apply exGd_intro); focus exact rfl) | ((with_reducible apply exGq_intro); focus exact rfl)) <;> intro _))
      all_goals first | (exfalso; omega) | exact nxt | exact n1 (by omega) | exact n2 (by omega)
  · clear ih
    repeat' (first | simp -implicitDefEqProofs only [go_sem, Nat.reduceEqDiff, Nat.reduceAdd, Nat.reduceMul, Nat.reduceLeDiff, Nat.reduceSub, Nat.reduceLT, Nat.reduceBEq, Int.reduceToNat, reduceCtorEq, ↓reduceIte, Int.reduceEq, Int.reduceNeg, Int.reduceLT, Int.reduceLE, Int.reduceAdd, Int.reduceSub, Int.reduceMul] | simp -implicitDefEqProofs (disch := omega) only [iaq_vec, iao_arr, iaq_raw, rd_map, wrap_id, binq_quo, binq_rem, binq_shl, binq_shr, tdiv_pos, tmod_pos, if_pos, exV_some, Option.map_some] | ((first | with_reducible apply exIf_dec | ((with_reducible apply exGd_dec); focus exact rfl) | ((with_reducible apply exGq_dec); focus exact rfl) | with_reducible apply exIf_intro | ((with_reducible apply exGd_intro); focus exact rfl) | ((with_reducible apply exGq_intro); focus exact rfl)) <;> intro _))
    all_goals first | exact h | (exfalso; omega) | skip
    have hs := split_c t (by omega) H
    obtain ⟨us, hus⟩ : ∃ us, tk t 0 = (us, -1) := ⟨(tk t 0).1, Prod.ext rfl hE1⟩
    rw [split_ok (by omega) hus] at hs
    rw [hus] at hE2
    dsimp only at hE2
    have hul : us.length = ts.length := by have := congrArg List.length hE2; simpa using this
    have hget : ∀ j : Int, 0 ≤ j → j < ts.length → (gi us j).kind = (gi ts j).kind ∧ (gi us j).text = (gi ts j).text := by
      intro j j0 j1
      have := congrArg (fun x => x[j.toNat]?) hE2
      simp only [List.getElem?_map, get_gi (l := us) j0 (by omega), get_gi (l := ts) j0 j1, Option.map_some, Option.some.injEq, kt, Prod.mk.injEq] at this
      exact this
    refine exC_pure hs ?_
    repeat' (first | simp -implicitDefEqProofs only [go_sem, Nat.reduceEqDiff, Nat.reduceAdd, Nat.reduceMul, Nat.reduceLeDiff, Nat.reduceSub, Nat.reduceLT, Nat.reduceBEq, Int.reduceToNat, reduceCtorEq, ↓reduceIte, Int.reduceEq, Int.reduceNeg, Int.reduceLT, Int.reduceLE, Int.reduceAdd, Int.reduceSub, Int.reduceMul] | simp -implicitDefEqProofs (disch := omega) only [iaq_vec, iao_arr, iaq_raw, rd_map, wrap_id, binq_quo, binq_rem, binq_shl, binq_shr, tdiv_pos, tmod_pos, if_pos, exV_some, Option.map_some] | ((first | with_reducible apply exIf_dec | ((with_reducible apply exGd_dec); focus exact rfl) | ((with_reducible apply exGq_dec); focus exact rfl) | with_reducible apply exIf_intro | ((with_reducible apply exGd_intro); focus exact rfl) | ((with_reducible apply exGq_intro); focus exact rfl)) <;> intro _) | with_reducible refine exC_pure (num12_c _ _) ?_ | with_reducible refine exCq_pure (num12_c _ _) ?_)
    all_goals first | exact h | (exfalso; omega) | skip
    refine exL_mod (fun j : Int => [(16, .v (iv j))]) (fun _ => []) (fun j => 0 ≤ j ∧ j ≤ ts.length) (fun j => (ts.length - j).toNat) 0 rfl ⟨by omega, by omega⟩ ?_
    rintro j ⟨j0, j1⟩ ih
    simp only [S.up, S.upH, ups, Abs.put, Nat.reduceEqDiff, ↓reduceIte, Nat.reduceAdd] at ih
    simp -implicitDefEqProofs only [congrArg KI.code sc_waymarklaw12_WordsBlank_L0.eq_1, go_sem, Nat.reduceEqDiff, Nat.reduceAdd, Nat.reduceMul, Nat.reduceLeDiff, Nat.reduceSub, Nat.reduceLT, Nat.reduceBEq, Int.reduceToNat, reduceCtorEq, ↓reduceIte, Int.reduceEq, Int.reduceNeg, Int.reduceLT, Int.reduceLE, Int.reduceAdd, Int.reduceSub, Int.reduceMul]
    by_cases hj : j < ts.length
    · obtain ⟨h1, h2⟩ := hget j j0 hj
      have nxt := ih (j + 1) ⟨by omega, by omega⟩ (by omega)
      repeat' (first | simp -implicitDefEqProofs only [go_sem, Nat.reduceEqDiff, Nat.reduceAdd, Nat.reduceMul, Nat.reduceLeDiff, Nat.reduceSub, Nat.reduceLT, Nat.reduceBEq, Int.reduceToNat, reduceCtorEq, ↓reduceIte, Int.reduceEq, Int.reduceNeg, Int.reduceLT, Int.reduceLE, Int.reduceAdd, Int.reduceSub, Int.reduceMul] | simp -implicitDefEqProofs (disch := omega) only [rd_tok0, rd_tok2, h1, h2, Nat.add_zero, iaq_vec, iao_arr, iaq_raw, rd_map, wrap_id, binq_quo, binq_rem, binq_shl, binq_shr, tdiv_pos, tmod_pos, if_pos, exV_some, Option.map_some] | ((first | with_reducible apply exIf_dec | ((with_reducible apply exGd_dec); focus exact rfl) | ((with_reducible apply exGq_dec); focus exact rfl) | with_reducible apply exIf_intro | ((with_reducible apply exGd_intro); focus exact rfl) | ((with_reducible apply exGq_intro); focus exact rfl)) <;> intro _))
      all_goals first | exact nxt | exact h | (exfalso; omega)
    · repeat' (first | simp -implicitDefEqProofs only [go_sem, Nat.reduceEqDiff, Nat.reduceAdd, Nat.reduceMul, Nat.reduceLeDiff, Nat.reduceSub, Nat.reduceLT, Nat.reduceBEq, Int.reduceToNat, reduceCtorEq, ↓reduceIte, Int.reduceEq, Int.reduceNeg, Int.reduceLT, Int.reduceLE, Int.reduceAdd, Int.reduceSub, Int.reduceMul] | simp -implicitDefEqProofs (disch := omega) only [iaq_vec, iao_arr, iaq_raw, rd_map, wrap_id, binq_quo, binq_rem, binq_shl, binq_shr, tdiv_pos, tmod_pos, if_pos, exV_some, Option.map_some] | ((first | with_reducible apply exIf_dec | ((with_reducible apply exGd_dec); focus exact rfl) | ((with_reducible apply exGq_dec); focus exact rfl) | with_reducible apply exIf_intro | ((with_reducible apply exGd_intro); focus exact rfl) | ((with_reducible apply exGq_intro); focus exact rfl)) <;> intro _))
      all_goals first | exact h | (exfalso; omega)
end Go.Proofs.Ytkephdahbplhfaa
