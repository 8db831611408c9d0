import Derived.Test.YtkephdahbplhfaaScWaymarkref1
import Derived.Test.YtkephdahbplhfaaS3
import Derived.Test.YtkephdahbplhfaaS2
set_option linter.unusedSimpArgs false
set_option linter.unusedVariables false
/- The document's own answer of chapter 7: From, edge by edge. -/
namespace Go.Proofs.Ytkephdahbplhfaa
open Go Abs
set_option maxHeartbeats 400000

theorem upE_not (down : List Bool) (e : Int) : (!upE down e) = (decide (e / 2 < down.length) && gi down (e / 2)) := by simp [upE]
theorem downE_c (nl : Bool) (down : List Bool) (e : Int) (h0 : 0 ≤ e) (H : AHeap) : APure Try.prog 44 [blv nl down, iv (e / 2)] H (bv (!upE down e)) := by
  have := isDown_c nl down (e / 2) H
  rwa [decide_eq_true (by omega), Bool.true_and, ← upE_not] at this
theorem isNode_ref_c (g : Graph) (n : Int) (H : AHeap) : APure Try.prog 70 [g.av, iv n] H (bv (decide (0 ≤ n ∧ n < g.nodes))) := by
  intro Q h
  refine ACalls.of_code fn_waymarkref1_Node ?_
  simp -implicitDefEqProofs only [sc_waymarkref1_Node, Graph.av, go_sem, Nat.reduceEqDiff, Nat.reduceAdd, Nat.reduceMul, Nat.reduceLeDiff, Nat.reduceSub, Nat.reduceLT, Nat.reduceBEq, Int.reduceToNat, reduceCtorEq, ↓reduceIte, Int.reduceEq, Int.reduceNeg, Int.reduceLT, Int.reduceLE, Int.reduceAdd, Int.reduceSub, Int.reduceMul]
  repeat' (first | simp -implicitDefEqProofs only [go_sem, Nat.reduceEqDiff, Nat.reduceAdd, Nat.reduceMul, Nat.reduceLeDiff, Nat.reduceSub, Nat.reduceLT, Nat.reduceBEq, Int.reduceToNat, reduceCtorEq, ↓reduceIte, Int.reduceEq, Int.reduceNeg, Int.reduceLT, Int.reduceLE, Int.reduceAdd, Int.reduceSub, Int.reduceMul] | simp -implicitDefEqProofs (disch := omega) only [iaq_vec, iao_arr, iaq_raw, rd_map, wrap_id, binq_quo, binq_rem, binq_shl, binq_shr, tdiv_pos, tmod_pos, if_pos, exV_some, Option.map_some] | ((first | with_reducible apply exIf_dec | ((with_reducible apply exGd_dec); focus exact rfl) | ((with_reducible apply exGq_dec); focus exact rfl) | with_reducible apply exIf_intro | ((with_reducible apply exGd_intro); focus exact rfl) | ((with_reducible apply exGq_intro); focus exact rfl)) <;> intro _))
  all_goals exact fin_ h (by simp; omega)
theorem from_ref_c (g : Graph) (nl : Bool) (down : List Bool) (s : Int) (H : AHeap) : APure Try.prog 48 [g.av, blv nl down, iv s] H (fromAV g down s) := by
  intro Q h
  refine ACalls.of_code fn_waymarkref1_From ?_
  have iss := isNode_ref_c g s H
  simp only [Graph.av] at iss
  simp -implicitDefEqProofs only [sc_waymarkref1_From, Graph.av, blv, go_sem, Nat.reduceEqDiff, Nat.reduceAdd, Nat.reduceMul, Nat.reduceLeDiff, Nat.reduceSub, Nat.reduceLT, Nat.reduceBEq, Int.reduceToNat, reduceCtorEq, ↓reduceIte, Int.reduceEq, Int.reduceNeg, Int.reduceLT, Int.reduceLE, Int.reduceAdd, Int.reduceSub, Int.reduceMul]
  refine exC_pure (check_ref_c g _) ?_
  simp -implicitDefEqProofs only [pairI, go_sem, Nat.reduceEqDiff, Nat.reduceAdd, Nat.reduceMul, Nat.reduceLeDiff, Nat.reduceSub, Nat.reduceLT, Nat.reduceBEq, Int.reduceToNat, reduceCtorEq, ↓reduceIte, Int.reduceEq, Int.reduceNeg, Int.reduceLT, Int.reduceLE, Int.reduceAdd, Int.reduceSub, Int.reduceMul]
  repeat' (first | simp -implicitDefEqProofs only [go_sem, Nat.reduceEqDiff, Nat.reduceAdd, Nat.reduceMul, Nat.reduceLeDiff, Nat.reduceSub, Nat.reduceLT, Nat.reduceBEq, Int.reduceToNat, reduceCtorEq, ↓reduceIte, Int.reduceEq, Int.reduceNeg, Int.reduceLT, Int.reduceLE, Int.reduceAdd, Int.reduceSub, Int.reduceMul] | simp -implicitDefEqProofs (disch := omega) only [iaq_vec, iao_arr, iaq_raw, rd_map, wrap_id, binq_quo, binq_rem, binq_shl, binq_shr, tdiv_pos, tmod_pos, if_pos, exV_some, Option.map_some] | ((first | with_reducible apply exIf_dec | ((with_reducible apply exGd_dec); focus exact rfl) | ((with_reducible apply exGq_dec); focus exact rfl) | with_reducible apply exIf_intro | ((with_reducible apply exGd_intro); focus exact rfl) | ((with_reducible apply exGq_intro); focus exact rfl)) <;> intro _) | with_reducible refine exC_pure (iss) ?_ | with_reducible refine exCq_pure (iss) ?_)
  · refine fin_ h ?_
    rw [fromAV, if_neg (fun hh => by omega)]
  · refine fin_ h ?_
    rw [fromAV, if_neg (fun hh => by omega)]
  have hc : (check g).2 = 0 := by omega
  have hs : 0 ≤ s ∧ s < g.nodes := by omega
  have hf := fit_of g hc
  have n1 := hf.n1
  have n2 := hf.n2
  have hfew := hf.few
  have hfrom : fromAV g down s = .vec false ((distL g down s).map iv) (distL g down s).length := by rw [fromAV, if_pos ⟨hc, hs⟩]
  refine exMk_int (by omega) (by omega) (by simp only [maxLen]; omega) rfl ?_
  obtain ⟨n, hn⟩ : ∃ n, n = g.nodes.toNat := ⟨_, rfl⟩
  rw [← hn, zrep_one, show List.replicate n (cAV (.int .i64 0)) = (List.replicate n (0 : Int)).map iv by rw [List.map_replicate]; rfl]
  repeat' (first | simp -implicitDefEqProofs only [go_sem, Nat.reduceEqDiff, Nat.reduceAdd, Nat.reduceMul, Nat.reduceLeDiff, Nat.reduceSub, Nat.reduceLT, Nat.reduceBEq, Int.reduceToNat, reduceCtorEq, ↓reduceIte, Int.reduceEq, Int.reduceNeg, Int.reduceLT, Int.reduceLE, Int.reduceAdd, Int.reduceSub, Int.reduceMul] | simp -implicitDefEqProofs (disch := omega) only [iaq_vec, iao_arr, iaq_raw, rd_map, wrap_id, binq_quo, binq_rem, binq_shl, binq_shr, tdiv_pos, tmod_pos, if_pos, exV_some, Option.map_some] | ((first | with_reducible apply exIf_dec | ((with_reducible apply exGd_dec); focus exact rfl) | ((with_reducible apply exGq_dec); focus exact rfl) | with_reducible apply exIf_intro | ((with_reducible apply exGd_intro); focus exact rfl) | ((with_reducible apply exGq_intro); focus exact rfl)) <;> intro _))
  rw [← fillTo_zero (fun _ => -1) 0 n]
  refine exL_mod (fun i : Int => [(10, .v (iv i))]) (fun i => [(32, .arr false ((fillTo (fun _ => -1) 0 n i).map iv) n 3 1)]) (fun i => 0 ≤ i ∧ i ≤ n) (fun i => (n - i).toNat) 0 rfl ⟨by omega, by omega⟩ ?_
  rintro i ⟨i0, i1⟩ ih
  simp only [S.up, S.upH, ups, Abs.put, Nat.reduceEqDiff, ↓reduceIte, Nat.reduceAdd] at ih
  simp -implicitDefEqProofs only [congrArg KI.code sc_waymarkref1_From_L2.eq_1, go_sem, Nat.reduceEqDiff, Nat.reduceAdd, Nat.reduceMul, Nat.reduceLeDiff, Nat.reduceSub, Nat.reduceLT, Nat.reduceBEq, Int.reduceToNat, reduceCtorEq, ↓reduceIte, Int.reduceEq, Int.reduceNeg, Int.reduceLT, Int.reduceLE, Int.reduceAdd, Int.reduceSub, Int.reduceMul]
  by_cases hi : i < n
  · have nxt := ih (i + 1) ⟨by omega, by omega⟩ (by omega)
    rw [← fillTo_set (fun _ => -1) 0 n i i0 rfl] at nxt
    repeat' (first | simp -implicitDefEqProofs only [go_sem, Nat.reduceEqDiff, Nat.reduceAdd, Nat.reduceMul, Nat.reduceLeDiff, Nat.reduceSub, Nat.reduceLT, Nat.reduceBEq, Int.reduceToNat, reduceCtorEq, ↓reduceIte, Int.reduceEq, Int.reduceNeg, Int.reduceLT, Int.reduceLE, Int.reduceAdd, Int.reduceSub, Int.reduceMul] | simp -implicitDefEqProofs (disch := omega) only [fillTo_length, set_ints, iaq_vec, iao_arr, iaq_raw, rd_map, wrap_id, binq_quo, binq_rem, binq_shl, binq_shr, tdiv_pos, tmod_pos, if_pos, exV_some, Option.map_some] | ((first | with_reducible apply exIf_dec | ((with_reducible apply exGd_dec); focus exact rfl) | ((with_reducible apply exGq_dec); focus exact rfl) | with_reducible apply exIf_intro | ((with_reducible apply exGd_intro); focus exact rfl) | ((with_reducible apply exGq_intro); focus exact rfl)) <;> intro _))
    all_goals first | (exfalso; omega) | exact nxt
  rw [fillTo_full _ _ _ _ (show (n : Int) ≤ i by omega), show ((List.range n).map fun _ => (-1 : Int)) = List.replicate n (-1) by rw [List.map_const', List.length_range]]
  clear ih
  repeat' (first | simp -implicitDefEqProofs only [go_sem, Nat.reduceEqDiff, Nat.reduceAdd, Nat.reduceMul, Nat.reduceLeDiff, Nat.reduceSub, Nat.reduceLT, Nat.reduceBEq, Int.reduceToNat, reduceCtorEq, ↓reduceIte, Int.reduceEq, Int.reduceNeg, Int.reduceLT, Int.reduceLE, Int.reduceAdd, Int.reduceSub, Int.reduceMul] | simp -implicitDefEqProofs (disch := omega) only [List.length_replicate, set_ints, iaq_vec, iao_arr, iaq_raw, rd_map, wrap_id, binq_quo, binq_rem, binq_shl, binq_shr, tdiv_pos, tmod_pos, if_pos, exV_some, Option.map_some] | ((first | with_reducible apply exIf_dec | ((with_reducible apply exGd_dec); focus exact rfl) | ((with_reducible apply exGq_dec); focus exact rfl) | with_reducible apply exIf_intro | ((with_reducible apply exGd_intro); focus exact rfl) | ((with_reducible apply exGq_intro); focus exact rfl)) <;> intro _))
  all_goals first | (exfalso; omega) | skip
  have first := binv_first (down := down) hf hs
  rw [← hn] at first
  refine exL_mod (fun a : Bool × List Int => [(11, .v (bv a.1))]) (fun a => [(32, .arr false (a.2.map iv) n 3 1)])
    (fun a => BInv g down s a.2 ∧ (a.1 = false → ∀ e : Int, 0 ≤ e → e < 2 * g.links.length → Relaxed g down a.2 e)) (fun a => size a.2 * 2 + if a.1 then 1 else 0) (true, (List.replicate n (-1)).set s.toNat 0) rfl ⟨first, by simp⟩ ?_
  rintro ⟨more, d⟩ ⟨hd, hr⟩ ih
  dsimp only at hd hr ih
  simp only [S.up, S.upH, ups, Abs.put, Nat.reduceEqDiff, ↓reduceIte, Nat.reduceAdd] at ih
  have hdl := hd.len
  simp -implicitDefEqProofs only [congrArg KI.code sc_waymarkref1_From_L1.eq_1, go_sem, Nat.reduceEqDiff, Nat.reduceAdd, Nat.reduceMul, Nat.reduceLeDiff, Nat.reduceSub, Nat.reduceLT, Nat.reduceBEq, Int.reduceToNat, reduceCtorEq, ↓reduceIte, Int.reduceEq, Int.reduceNeg, Int.reduceLT, Int.reduceLE, Int.reduceAdd, Int.reduceSub, Int.reduceMul]
  repeat' (first | simp -implicitDefEqProofs only [go_sem, Nat.reduceEqDiff, Nat.reduceAdd, Nat.reduceMul, Nat.reduceLeDiff, Nat.reduceSub, Nat.reduceLT, Nat.reduceBEq, Int.reduceToNat, reduceCtorEq, ↓reduceIte, Int.reduceEq, Int.reduceNeg, Int.reduceLT, Int.reduceLE, Int.reduceAdd, Int.reduceSub, Int.reduceMul] | simp -implicitDefEqProofs (disch := omega) only [iaq_vec, iao_arr, iaq_raw, rd_map, wrap_id, binq_quo, binq_rem, binq_shl, binq_shr, tdiv_pos, tmod_pos, if_pos, exV_some, Option.map_some] | ((first | with_reducible apply exIf_dec | ((with_reducible apply exGd_dec); focus exact rfl) | ((with_reducible apply exGq_dec); focus exact rfl) | with_reducible apply exIf_intro | ((with_reducible apply exGd_intro); focus exact rfl) | ((with_reducible apply exGq_intro); focus exact rfl)) <;> intro _))
  · refine exL_mod (fun a : Int × Bool × List Int => [(11, .v (bv a.2.1)), (12, .v (iv a.1))]) (fun a => [(32, .arr false (a.2.2.map iv) n 3 1)])
      (fun a => 0 ≤ a.1 ∧ a.1 ≤ 2 * g.links.length ∧ BInv g down s a.2.2 ∧ size a.2.2 ≤ size d ∧ (a.2.1 = true → size a.2.2 < size d) ∧ (a.2.1 = false → ∀ e : Int, 0 ≤ e → e < a.1 → Relaxed g down a.2.2 e)) (fun a => (2 * g.links.length - a.1).toNat) (0, false, d) rfl ⟨by simp, by dsimp only; omega, hd, Nat.le_refl _, by simp, fun _ e e0 e1 => by dsimp only at e1; omega⟩ ?_
    rintro ⟨k, m2, d2⟩ ⟨k0, k1, hd2, hz1, hz2, hr2⟩ ih2
    dsimp only at k0 k1 hd2 hz1 hz2 hr2 ih2
    simp only [S.up, S.upH, ups, Abs.put, Nat.reduceEqDiff, ↓reduceIte, Nat.reduceAdd] at ih2
    have hdl2 := hd2.len
    simp -implicitDefEqProofs only [congrArg KI.code sc_waymarkref1_From_L0.eq_1, go_sem, Nat.reduceEqDiff, Nat.reduceAdd, Nat.reduceMul, Nat.reduceLeDiff, Nat.reduceSub, Nat.reduceLT, Nat.reduceBEq, Int.reduceToNat, reduceCtorEq, ↓reduceIte, Int.reduceEq, Int.reduceNeg, Int.reduceLT, Int.reduceLE, Int.reduceAdd, Int.reduceSub, Int.reduceMul]
    by_cases hk : k < 2 * g.links.length
    · have hbn := hf.b k k0 hk
      have hwt := hf.w k k0 hk
      unfold wt at hwt
      have hba := hd2.bound _ hbn.1.1 hbn.1.2
      have hwa := hd2.way _ hbn.1.1 hbn.1.2
      have endc := ends_ref_c g k (by omega) H
      have upc := downE_c nl down k k0 H
      simp only [Graph.av, triIIB] at endc
      simp only [blv] at upc
      repeat' (first | simp -implicitDefEqProofs only [go_sem, Nat.reduceEqDiff, Nat.reduceAdd, Nat.reduceMul, Nat.reduceLeDiff, Nat.reduceSub, Nat.reduceLT, Nat.reduceBEq, Int.reduceToNat, reduceCtorEq, ↓reduceIte, Int.reduceEq, Int.reduceNeg, Int.reduceLT, Int.reduceLE, Int.reduceAdd, Int.reduceSub, Int.reduceMul] | simp -implicitDefEqProofs (disch := omega) only [rd_link2, set_ints, iaq_vec, iao_arr, iaq_raw, rd_map, wrap_id, binq_quo, binq_rem, binq_shl, binq_shr, tdiv_pos, tmod_pos, if_pos, exV_some, Option.map_some] | ((first | with_reducible apply exIf_dec | ((with_reducible apply exGd_dec); focus exact rfl) | ((with_reducible apply exGq_dec); focus exact rfl) | with_reducible apply exIf_intro | ((with_reducible apply exGd_intro); focus exact rfl) | ((with_reducible apply exGq_intro); focus exact rfl)) <;> intro _) | with_reducible refine exC_pure (endc) ?_ | with_reducible refine exCq_pure (endc) ?_ | with_reducible refine exC_pure (upc) ?_ | with_reducible refine exCq_pure (upc) ?_)
      · obtain ⟨q1, q2⟩ := binv_relax hf hs hd2 k0 hk (by assumption) (by assumption) (.inl (by assumption))
        exact ih2 (k + 1, true, d2.set (ends g k).2.1.toNat (gi d2 (ends g k).1 + wt g k)) ⟨by dsimp only; omega, by dsimp only; omega, q1, by dsimp only; omega, fun _ => by dsimp only; omega, by simp⟩ (by dsimp only; omega)
      · obtain ⟨q1, q2⟩ := binv_relax hf hs hd2 k0 hk (by assumption) (by assumption) (.inr (by assumption))
        exact ih2 (k + 1, true, d2.set (ends g k).2.1.toNat (gi d2 (ends g k).1 + wt g k)) ⟨by dsimp only; omega, by dsimp only; omega, q1, by dsimp only; omega, fun _ => by dsimp only; omega, by simp⟩ (by dsimp only; omega)
      · refine ih2 (k + 1, m2, d2) ⟨by dsimp only; omega, by dsimp only; omega, hd2, hz1, hz2, fun hm e e0 e1 => ?_⟩ (by dsimp only; omega)
        dsimp only at e1
        show Relaxed g down d2 e
        by_cases hek : e = k
        · subst hek
          intro hu ha
          unfold wt
          omega
        · exact hr2 hm e e0 (by omega)
      · refine ih2 (k + 1, m2, d2) ⟨by dsimp only; omega, by dsimp only; omega, hd2, hz1, hz2, fun hm e e0 e1 => ?_⟩ (by dsimp only; omega)
        dsimp only at e1
        show Relaxed g down d2 e
        by_cases hek : e = k
        · subst hek
          intro hu ha
          rw [‹upE down e = false›] at hu
          cases hu
        · exact hr2 hm e e0 (by omega)
      · refine ih2 (k + 1, m2, d2) ⟨by dsimp only; omega, by dsimp only; omega, hd2, hz1, hz2, fun hm e e0 e1 => ?_⟩ (by dsimp only; omega)
        dsimp only at e1
        show Relaxed g down d2 e
        by_cases hek : e = k
        · subst hek
          intro hu ha
          omega
        · exact hr2 hm e e0 (by omega)
      · exfalso; omega
    · repeat' (first | simp -implicitDefEqProofs only [go_sem, Nat.reduceEqDiff, Nat.reduceAdd, Nat.reduceMul, Nat.reduceLeDiff, Nat.reduceSub, Nat.reduceLT, Nat.reduceBEq, Int.reduceToNat, reduceCtorEq, ↓reduceIte, Int.reduceEq, Int.reduceNeg, Int.reduceLT, Int.reduceLE, Int.reduceAdd, Int.reduceSub, Int.reduceMul] | simp -implicitDefEqProofs (disch := omega) only [iaq_vec, iao_arr, iaq_raw, rd_map, wrap_id, binq_quo, binq_rem, binq_shl, binq_shr, tdiv_pos, tmod_pos, if_pos, exV_some, Option.map_some] | ((first | with_reducible apply exIf_dec | ((with_reducible apply exGd_dec); focus exact rfl) | ((with_reducible apply exGq_dec); focus exact rfl) | with_reducible apply exIf_intro | ((with_reducible apply exGd_intro); focus exact rfl) | ((with_reducible apply exGq_intro); focus exact rfl)) <;> intro _))
      all_goals first | (exfalso; omega) | skip
      refine ih (m2, d2) ⟨hd2, fun hm e e0 e1 => hr2 hm e e0 (by omega)⟩ ?_
      dsimp only
      rw [‹more = true›]
      cases m2 with
      | true => have := hz2 rfl; simp; omega
      | false => simp; omega
  · refine fin_ h ?_
    have e := distL_eq (binv_end hf hs hd (hr (by assumption)))
    rw [hfrom, e, show n = d.length by omega]
end Go.Proofs.Ytkephdahbplhfaa
