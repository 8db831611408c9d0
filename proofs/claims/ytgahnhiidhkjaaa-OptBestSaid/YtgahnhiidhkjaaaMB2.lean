import Derived.Test.YtgahnhiidhkjaaaMC1
import Derived.Test.YtgahnhiidhkjaaaMB1
set_option linter.unusedSimpArgs false
set_option linter.unusedVariables false
section
/- The package opt: points, states, and what is made of a want. -/
namespace Go.Proofs.Ytgahnhiidhkjaaa
open Go Abs
attribute [local irreducible] EX exL exG exC exCq exS exV exIf exGd exGq
set_option maxHeartbeats 1000000

theorem points_c (w : Want) (hw : w.ok) (H : AHeap) : APure Try.prog 54 [w.av] H (sl false (pts w)) := by
  obtain ⟨w1, -⟩ := hw
  intro Q h
  refine ACalls.of_code fn_opt_points ?_
  simp -implicitDefEqProofs only [sc_opt_points, Want.av, sl, go_sem, Nat.reduceEqDiff, Nat.reduceAdd, Nat.reduceMul, Nat.reduceLeDiff, Nat.reduceSub, Nat.reduceLT, Nat.reduceBEq, Int.reduceToNat, reduceCtorEq, ↓reduceIte, Int.reduceEq, Int.reduceNeg, Int.reduceLT, Int.reduceLE, Int.reduceAdd, Int.reduceSub, Int.reduceMul]
  repeat' (first | simp -implicitDefEqProofs only [go_sem, Nat.reduceEqDiff, Nat.reduceAdd, Nat.reduceMul, Nat.reduceLeDiff, Nat.reduceSub, Nat.reduceLT, Nat.reduceBEq, Int.reduceToNat, reduceCtorEq, ↓reduceIte, Int.reduceEq, Int.reduceNeg, Int.reduceLT, Int.reduceLE, Int.reduceAdd, Int.reduceSub, Int.reduceMul] | simp -implicitDefEqProofs (disch := omega) only [iaq_vec, iao_arr, iaq_raw, rd_map, wrap_id, binq_quo, binq_rem, binq_shl, binq_shr, tdiv_pos, tmod_pos, if_pos, exV_some, Option.map_some] | ((first | with_reducible apply exIf_dec | ((with_reducible apply exGd_dec); focus exact rfl) | ((with_reducible apply exGq_dec); focus exact rfl) | with_reducible apply exIf_intro | ((with_reducible apply exGd_intro); focus exact rfl) | ((with_reducible apply exGq_intro); focus exact rfl)) <;> intro _))
  refine exS_ints' (l := [w.src]) rfl (by simp; omega) (by simp only [maxLen, List.length_singleton]; omega) ?_
  repeat' (first | simp -implicitDefEqProofs only [go_sem, Nat.reduceEqDiff, Nat.reduceAdd, Nat.reduceMul, Nat.reduceLeDiff, Nat.reduceSub, Nat.reduceLT, Nat.reduceBEq, Int.reduceToNat, reduceCtorEq, ↓reduceIte, Int.reduceEq, Int.reduceNeg, Int.reduceLT, Int.reduceLE, Int.reduceAdd, Int.reduceSub, Int.reduceMul] | simp -implicitDefEqProofs (disch := omega) only [iaq_vec, iao_arr, iaq_raw, rd_map, wrap_id, binq_quo, binq_rem, binq_shl, binq_shr, tdiv_pos, tmod_pos, if_pos, exV_some, Option.map_some] | ((first | with_reducible apply exIf_dec | ((with_reducible apply exGd_dec); focus exact rfl) | ((with_reducible apply exGq_dec); focus exact rfl) | with_reducible apply exIf_intro | ((with_reducible apply exGd_intro); focus exact rfl) | ((with_reducible apply exGq_intro); focus exact rfl)) <;> intro _))
  refine exS_ints (l := [w.src] ++ w.via) rfl (by simp; omega) (by simp only [maxLen, List.length_append, List.length_singleton]; omega) ?_
  repeat' (first | simp -implicitDefEqProofs only [go_sem, Nat.reduceEqDiff, Nat.reduceAdd, Nat.reduceMul, Nat.reduceLeDiff, Nat.reduceSub, Nat.reduceLT, Nat.reduceBEq, Int.reduceToNat, reduceCtorEq, ↓reduceIte, Int.reduceEq, Int.reduceNeg, Int.reduceLT, Int.reduceLE, Int.reduceAdd, Int.reduceSub, Int.reduceMul] | simp -implicitDefEqProofs (disch := omega) only [iaq_vec, iao_arr, iaq_raw, rd_map, wrap_id, binq_quo, binq_rem, binq_shl, binq_shr, tdiv_pos, tmod_pos, if_pos, exV_some, Option.map_some] | ((first | with_reducible apply exIf_dec | ((with_reducible apply exGd_dec); focus exact rfl) | ((with_reducible apply exGq_dec); focus exact rfl) | with_reducible apply exIf_intro | ((with_reducible apply exGd_intro); focus exact rfl) | ((with_reducible apply exGq_intro); focus exact rfl)) <;> intro _))
  exact fin_ h (by simp [sl, pts])
theorem come_c (nl : Bool) (l : List Int) (hl : l.length ≤ 140737488351232) (node n : Int) (n0 : 0 ≤ n) (n1 : n < l.length) (H : AHeap) : APure Try.prog 53 [sl nl l, iv node, iv n] H (.agg [iv node, iv (come l node n)]) := by
  intro Q h
  refine ACalls.of_code fn_opt_come ?_
  simp -implicitDefEqProofs only [sc_opt_come, sl, go_sem, Nat.reduceEqDiff, Nat.reduceAdd, Nat.reduceMul, Nat.reduceLeDiff, Nat.reduceSub, Nat.reduceLT, Nat.reduceBEq, Int.reduceToNat, reduceCtorEq, ↓reduceIte, Int.reduceEq, Int.reduceNeg, Int.reduceLT, Int.reduceLE, Int.reduceAdd, Int.reduceSub, Int.reduceMul]
  repeat' (first | simp -implicitDefEqProofs only [go_sem, Nat.reduceEqDiff, Nat.reduceAdd, Nat.reduceMul, Nat.reduceLeDiff, Nat.reduceSub, Nat.reduceLT, Nat.reduceBEq, Int.reduceToNat, reduceCtorEq, ↓reduceIte, Int.reduceEq, Int.reduceNeg, Int.reduceLT, Int.reduceLE, Int.reduceAdd, Int.reduceSub, Int.reduceMul] | simp -implicitDefEqProofs (disch := omega) only [iaq_vec, iao_arr, iaq_raw, rd_map, wrap_id, binq_quo, binq_rem, binq_shl, binq_shr, tdiv_pos, tmod_pos, if_pos, exV_some, Option.map_some] | ((first | with_reducible apply exIf_dec | ((with_reducible apply exGd_dec); focus exact rfl) | ((with_reducible apply exGq_dec); focus exact rfl) | with_reducible apply exIf_intro | ((with_reducible apply exGd_intro); focus exact rfl) | ((with_reducible apply exGq_intro); focus exact rfl)) <;> intro _))
  refine exL_mod (fun i : Int => [(2, .v (iv i))]) (fun _ => []) (fun i => 0 ≤ i ∧ i < l.length ∧ come l node n = come l node i) (fun i => (l.length - i).toNat) n rfl ⟨n0, n1, rfl⟩ ?_
  rintro i ⟨i0, i1, hi⟩ ih
  simp only [S.up, S.upH, ups, Abs.put, Nat.reduceEqDiff, ↓reduceIte, Nat.reduceAdd] at ih
  simp -implicitDefEqProofs only [congrArg KI.code sc_opt_come_L0.eq_1, go_sem, Nat.reduceEqDiff, Nat.reduceAdd, Nat.reduceMul, Nat.reduceLeDiff, Nat.reduceSub, Nat.reduceLT, Nat.reduceBEq, Int.reduceToNat, reduceCtorEq, ↓reduceIte, Int.reduceEq, Int.reduceNeg, Int.reduceLT, Int.reduceLE, Int.reduceAdd, Int.reduceSub, Int.reduceMul]
  by_cases hc : i + 1 < l.length ∧ gi l (i + 1) = node
  · have nxt := ih (i + 1) ⟨by omega, hc.1, by rw [hi, come_go i0 hc.1 hc.2]⟩ (by omega)
    repeat' (first | simp -implicitDefEqProofs only [go_sem, Nat.reduceEqDiff, Nat.reduceAdd, Nat.reduceMul, Nat.reduceLeDiff, Nat.reduceSub, Nat.reduceLT, Nat.reduceBEq, Int.reduceToNat, reduceCtorEq, ↓reduceIte, Int.reduceEq, Int.reduceNeg, Int.reduceLT, Int.reduceLE, Int.reduceAdd, Int.reduceSub, Int.reduceMul] | simp -implicitDefEqProofs (disch := omega) only [iaq_vec, iao_arr, iaq_raw, rd_map, wrap_id, binq_quo, binq_rem, binq_shl, binq_shr, tdiv_pos, tmod_pos, if_pos, exV_some, Option.map_some] | ((first | with_reducible apply exIf_dec | ((with_reducible apply exGd_dec); focus exact rfl) | ((with_reducible apply exGq_dec); focus exact rfl) | with_reducible apply exIf_intro | ((with_reducible apply exGd_intro); focus exact rfl) | ((with_reducible apply exGq_intro); focus exact rfl)) <;> intro _))
    all_goals first | exact nxt | (exfalso; omega)
  · have hs := come_stop i0 hc
    rw [hi, hs] at h
    repeat' (first | simp -implicitDefEqProofs only [go_sem, Nat.reduceEqDiff, Nat.reduceAdd, Nat.reduceMul, Nat.reduceLeDiff, Nat.reduceSub, Nat.reduceLT, Nat.reduceBEq, Int.reduceToNat, reduceCtorEq, ↓reduceIte, Int.reduceEq, Int.reduceNeg, Int.reduceLT, Int.reduceLE, Int.reduceAdd, Int.reduceSub, Int.reduceMul] | simp -implicitDefEqProofs (disch := omega) only [iaq_vec, iao_arr, iaq_raw, rd_map, wrap_id, binq_quo, binq_rem, binq_shl, binq_shr, tdiv_pos, tmod_pos, if_pos, exV_some, Option.map_some] | ((first | with_reducible apply exIf_dec | ((with_reducible apply exGd_dec); focus exact rfl) | ((with_reducible apply exGq_dec); focus exact rfl) | with_reducible apply exIf_intro | ((with_reducible apply exGd_intro); focus exact rfl) | ((with_reducible apply exGq_intro); focus exact rfl)) <;> intro _))
    all_goals first | exact h | (exfalso; omega)
theorem start_c (w : Want) (hw : w.ok) (H : AHeap) : APure Try.prog 30 [w.av] H (.agg [iv w.src, iv (come (pts w) w.src 0)]) := by
  have hp := points_c w hw
  have hl := pts_length w
  have hc := come_c false (pts w) (by have := hw.1; omega) w.src 0 (Int.le_refl _) (by omega)
  simp only [Want.av, sl] at hp hc
  intro Q h
  refine ACalls.of_code fn_opt_Start ?_
  simp -implicitDefEqProofs only [sc_opt_Start, Want.av, sl, go_sem, Nat.reduceEqDiff, Nat.reduceAdd, Nat.reduceMul, Nat.reduceLeDiff, Nat.reduceSub, Nat.reduceLT, Nat.reduceBEq, Int.reduceToNat, reduceCtorEq, ↓reduceIte, Int.reduceEq, Int.reduceNeg, Int.reduceLT, Int.reduceLE, Int.reduceAdd, Int.reduceSub, Int.reduceMul]
  repeat' (first | simp -implicitDefEqProofs only [go_sem, Nat.reduceEqDiff, Nat.reduceAdd, Nat.reduceMul, Nat.reduceLeDiff, Nat.reduceSub, Nat.reduceLT, Nat.reduceBEq, Int.reduceToNat, reduceCtorEq, ↓reduceIte, Int.reduceEq, Int.reduceNeg, Int.reduceLT, Int.reduceLE, Int.reduceAdd, Int.reduceSub, Int.reduceMul] | simp -implicitDefEqProofs (disch := omega) only [iaq_vec, iao_arr, iaq_raw, rd_map, wrap_id, binq_quo, binq_rem, binq_shl, binq_shr, tdiv_pos, tmod_pos, if_pos, exV_some, Option.map_some] | ((first | with_reducible apply exIf_dec | ((with_reducible apply exGd_dec); focus exact rfl) | ((with_reducible apply exGq_dec); focus exact rfl) | with_reducible apply exIf_intro | ((with_reducible apply exGd_intro); focus exact rfl) | ((with_reducible apply exGq_intro); focus exact rfl)) <;> intro _) | with_reducible refine exC_pure (hp _) ?_ | with_reducible refine exCq_pure (hp _) ?_ | with_reducible refine exC_pure (hc _) ?_ | with_reducible refine exCq_pure (hc _) ?_)
  exact h
theorem goal_c (w : Want) (hw : w.ok) (H : AHeap) : APure Try.prog 32 [w.av] H (.agg [iv w.dst, iv (w.via.length + 1)]) := by
  have hp := points_c w hw
  have hl := pts_length w
  have hw1 := hw.1
  simp only [Want.av, sl] at hp
  intro Q h
  refine ACalls.of_code fn_opt_Goal ?_
  simp -implicitDefEqProofs only [sc_opt_Goal, Want.av, sl, go_sem, Nat.reduceEqDiff, Nat.reduceAdd, Nat.reduceMul, Nat.reduceLeDiff, Nat.reduceSub, Nat.reduceLT, Nat.reduceBEq, Int.reduceToNat, reduceCtorEq, ↓reduceIte, Int.reduceEq, Int.reduceNeg, Int.reduceLT, Int.reduceLE, Int.reduceAdd, Int.reduceSub, Int.reduceMul]
  repeat' (first | simp -implicitDefEqProofs only [go_sem, Nat.reduceEqDiff, Nat.reduceAdd, Nat.reduceMul, Nat.reduceLeDiff, Nat.reduceSub, Nat.reduceLT, Nat.reduceBEq, Int.reduceToNat, reduceCtorEq, ↓reduceIte, Int.reduceEq, Int.reduceNeg, Int.reduceLT, Int.reduceLE, Int.reduceAdd, Int.reduceSub, Int.reduceMul] | simp -implicitDefEqProofs (disch := omega) only [iaq_vec, iao_arr, iaq_raw, rd_map, wrap_id, binq_quo, binq_rem, binq_shl, binq_shr, tdiv_pos, tmod_pos, if_pos, exV_some, Option.map_some] | ((first | with_reducible apply exIf_dec | ((with_reducible apply exGd_dec); focus exact rfl) | ((with_reducible apply exGq_dec); focus exact rfl) | with_reducible apply exIf_intro | ((with_reducible apply exGd_intro); focus exact rfl) | ((with_reducible apply exGq_intro); focus exact rfl)) <;> intro _) | with_reducible refine exC_pure (hp _) ?_ | with_reducible refine exCq_pure (hp _) ?_)
  rw [hl, show ((w.via.length + 2 : Nat) : Int) - 1 = w.via.length + 1 by omega]
  exact h
end Go.Proofs.Ytgahnhiidhkjaaa
end

section
/- The package opt: New. -/
namespace Go.Proofs.Ytgahnhiidhkjaaa
open Go Abs
attribute [local irreducible] EX exL exG exC exCq exS exV exIf exGd exGq
set_option maxHeartbeats 2000000

theorem leg_bound {g : Graph} {w : Want} (hw : WFit g w) (down : List Bool) {i : Int} (i0 : 0 ≤ i) (i1 : i ≤ w.via.length) : -1 ≤ leg g w down i ∧ leg g w down i ≤ 671088640 :=
  let p := hw.point i0 (show i ≤ w.via.length + 1 by omega)
  dist_bound hw.fit _ (hw.point (by omega) (by omega)) p.1 p.2
theorem legs_bound {g : Graph} {w : Want} (hw : WFit g w) (down : List Bool) : ∀ n : Nat, n ≤ w.via.length + 1 → noLeg g w down n = false → 0 ≤ legs g w down n ∧ legs g w down n ≤ 671088640 * n
  | 0, _, _ => by simp [legs]
  | n + 1, hn, h => by
    rw [noLeg_succ, Bool.or_eq_false_iff, decide_eq_false_iff_not] at h
    have h1 := legs_bound hw down n (by omega) h.1
    have h2 := leg_bound hw down (i := n) (by omega) (by omega)
    simp only [legs]
    omega
theorem tosR_length (g : Graph) (w : Want) (down : List Bool) (n : Nat) : (tosR g w down n).length = n := by simp [tosR]
theorem tosR_succ (g : Graph) (w : Want) (down : List Bool) {i : Int} (i0 : 0 ≤ i) : tosR g w down (i + 1).toNat = tosR g w down i.toNat ++ [dv (farOf g w down (i + 1))] := by
  simp only [tosR]
  rw [range_succ_map i0]
  simp only [Int.toNat_of_nonneg i0]
theorem noLeg_mono {g : Graph} {w : Want} {down : List Bool} {n m : Nat} (h : n ≤ m) (hn : noLeg g w down n = true) : noLeg g w down m = true := by
  simp only [noLeg, List.any_eq_true, List.mem_range] at hn ⊢
  obtain ⟨i, hi, hl⟩ := hn
  exact ⟨i, by omega, hl⟩

theorem onew_c (g : Graph) (w : Want) (nl : Bool) (down : List Bool) (hw : w.ok) (H : AHeap) : APure Try.prog 48 [g.av, w.av, blv nl down] H (.tup [waysAV g w down, iv (optErr g w down)]) := by
  intro Q h
  have rc := fun H => right_c g w hw H
  have pc := fun H => points_c w hw H
  have dc := fun H => down_c g w nl down hw H
  simp only [Graph.av, Want.av, blv, sl] at rc pc dc
  by_cases hr : rightErr g w = 0
  · have wf := wfit_of hr
    have hf := wf.fit
    have f1 := hf.n1
    have f2 := hf.n2
    have f3 := hf.few
    have f4 := wf.few
    have pl := pts_length w
    obtain ⟨gone, hgone⟩ : ∃ gone, gone = pruned g w down := ⟨_, rfl⟩
    have gl : gone.length = g.links.length := by rw [hgone]; simp [pruned]
    have tc := fun n H => to_c g false gone n H
    have tov : ∀ n : Int, 0 ≤ n → n < g.nodes → fromAV g gone n = dv (distL g gone n) := fun n n0 n1 => by rw [fromAV, if_pos ⟨hf.ok, n0, n1⟩]; rfl
    simp only [Graph.av, blv, gl] at tc
    have hdc : prunedAV g w down = .vec false (gone.map bv) g.links.length := by rw [prunedAV, if_pos hr, hgone]
    obtain ⟨m, hm⟩ : ∃ m, m = w.via.length + 1 := ⟨_, rfl⟩
    have dcl : gi (pts w) 0 = w.src := pts_zero w
    refine ACalls.relax (ACalls.mono (Q := fun r H1 =>
      (∀ b o, H b = some o → H1 b = some o) ∧ ((optErr g w down ≠ 0 ∧ r = .tup [.raw (.pointer none), iv (optErr g w down)]) ∨
        (optErr g w down = 0 ∧ ∃ bt tt sv ob, r = .tup [.raw (.pointer (some ⟨bt, 0, none⟩)), iv 0] ∧ H bt = none ∧ H1 bt = some (.cells [iv g.nodes, .vec g.nl (rows g.links) g.links.length, sl false (pts w), .vec false (gone.map bv) g.links.length, sv, iv (legs g w down m)] tt) ∧ RowAt H H1 bt 32 sv (tosR g w down m) ob))) ?_ ?_)
    · refine ACalls.of_code fn_opt_New ?_
      simp -implicitDefEqProofs only [sc_opt_New, Graph.av, Want.av, blv, sl, go_sem, Nat.reduceEqDiff, Nat.reduceAdd, Nat.reduceMul, Nat.reduceLeDiff, Nat.reduceSub, Nat.reduceLT, Nat.reduceBEq, Int.reduceToNat, reduceCtorEq, ↓reduceIte, Int.reduceEq, Int.reduceNeg, Int.reduceLT, Int.reduceLE, Int.reduceAdd, Int.reduceSub, Int.reduceMul]
      refine exC_pure (rc _) ?_
      rw [hr]
      repeat' (first | simp -implicitDefEqProofs only [go_sem, Nat.reduceEqDiff, Nat.reduceAdd, Nat.reduceMul, Nat.reduceLeDiff, Nat.reduceSub, Nat.reduceLT, Nat.reduceBEq, Int.reduceToNat, reduceCtorEq, ↓reduceIte, Int.reduceEq, Int.reduceNeg, Int.reduceLT, Int.reduceLE, Int.reduceAdd, Int.reduceSub, Int.reduceMul] | simp -implicitDefEqProofs (disch := omega) only [iaq_vec, iao_arr, iaq_raw, rd_map, wrap_id, binq_quo, binq_rem, binq_shl, binq_shr, tdiv_pos, tmod_pos, if_pos, exV_some, Option.map_some] | ((first | with_reducible apply exIf_dec | ((with_reducible apply exGd_dec); focus exact rfl) | ((with_reducible apply exGq_dec); focus exact rfl) | with_reducible apply exIf_intro | ((with_reducible apply exGd_intro); focus exact rfl) | ((with_reducible apply exGq_intro); focus exact rfl)) <;> intro _) | with_reducible refine exC_pure (pc _) ?_ | with_reducible refine exCq_pure (pc _) ?_ | with_reducible refine exC_pure (dc _) ?_ | with_reducible refine exCq_pure (dc _) ?_)
      rw [hdc]
      obtain ⟨q, hq⟩ : ∃ q, q = w.via ++ [w.dst] := ⟨_, rfl⟩
      have ql : q.length = m := by rw [hq, hm]; simp
      have qg : ∀ i : Int, 0 ≤ i → i < m → gi q i = gi (pts w) (i + 1) := by
        intro i i0 i1
        rw [gi_get (by omega), gi_get (by rw [pl]; omega)]
        simp only [hq, pts, show (i + 1).toNat = i.toNat + 1 by omega, List.getElem_cons_succ]
      have e33 : ((((pts w).length : Nat) : Int).toNat - 1) = m := by rw [pl]; omega
      have e34 : List.take (m * 1) (List.drop 1 ((pts w).map iv)) = q.map iv := by
        rw [pts, ← hq, List.map_cons, List.drop_succ_cons, List.drop_zero, List.take_of_length_le (by simp; omega)]
      have pl' : (pts w).length = m + 1 := by omega
      repeat' (first | simp -implicitDefEqProofs only [go_sem, Nat.reduceEqDiff, Nat.reduceAdd, Nat.reduceMul, Nat.reduceLeDiff, Nat.reduceSub, Nat.reduceLT, Nat.reduceBEq, Int.reduceToNat, reduceCtorEq, ↓reduceIte, Int.reduceEq, Int.reduceNeg, Int.reduceLT, Int.reduceLE, Int.reduceAdd, Int.reduceSub, Int.reduceMul] | simp -implicitDefEqProofs (disch := omega) only [e33, e34, iaq_vec, iao_arr, iaq_raw, rd_map, wrap_id, binq_quo, binq_rem, binq_shl, binq_shr, tdiv_pos, tmod_pos, if_pos, exV_some, Option.map_some] | ((first | with_reducible apply exIf_dec | ((with_reducible apply exGd_dec); focus exact rfl) | ((with_reducible apply exGq_dec); focus exact rfl) | with_reducible apply exIf_intro | ((with_reducible apply exGd_intro); focus exact rfl) | ((with_reducible apply exGq_intro); focus exact rfl)) <;> intro _))
      intro bt hbt
      refine exL_modH (fun a : Int × AHeap => [(35, .v (iv a.1))]) (fun _ => []) (fun a => a.2)
        (fun a => 0 ≤ a.1 ∧ a.1 ≤ m ∧ noLeg g w down a.1.toNat = false ∧ (∀ b o, H b = some o → a.2 b = some o) ∧ ∃ sv ob, a.2 bt = some (.cells [iv g.nodes, .vec g.nl (rows g.links) g.links.length, .vec false ((pts w).map iv) (pts w).length, .vec false (gone.map bv) g.links.length, sv, iv (legs g w down a.1.toNat)] 85) ∧ RowAt H a.2 bt 32 sv (tosR g w down a.1.toNat) ob)
        (fun a => (m - a.1).toNat) (0, _) rfl ⟨by simp, by simp, rfl, upd_base hbt, _, none, upd_self _ _ _, .inl ⟨rfl, rfl, rfl⟩⟩ ?_
      rintro ⟨i, H'⟩ ⟨i0, i1, hnl, hbase, sv, ob, hat, hrow⟩ ih
      dsimp only at i0 i1 hnl hbase hat hrow ih
      simp only [S.up, S.upH, ups, Abs.put, Nat.reduceEqDiff, ↓reduceIte, Nat.reduceAdd] at ih
      simp -implicitDefEqProofs only [congrArg KI.code sc_opt_New_L0.eq_1, go_sem, Nat.reduceEqDiff, Nat.reduceAdd, Nat.reduceMul, Nat.reduceLeDiff, Nat.reduceSub, Nat.reduceLT, Nat.reduceBEq, Int.reduceToNat, reduceCtorEq, ↓reduceIte, Int.reduceEq, Int.reduceNeg, Int.reduceLT, Int.reduceLE, Int.reduceAdd, Int.reduceSub, Int.reduceMul]
      by_cases hi : i < m
      · obtain ⟨p, hp⟩ : ∃ p, p = gi (pts w) (i + 1) := ⟨_, rfl⟩
        obtain ⟨p0, p1⟩ := wf.point (i := i + 1) (by omega) (by omega)
        obtain ⟨a0, a1⟩ := wf.point (i := i) (by omega) (by omega)
        have tci := tc p H'
        rw [tov p (by omega) (by omega)] at tci
        have hd := (distL_spec hf gone (s := p) (by omega)).1
        have hlg : leg g w down i = gi (distL g gone p) (gi (pts w) i) := by rw [leg, hp, hgone]
        have hfar : farOf g w down (i + 1) = distL g gone p := by rw [farOf, hp, hgone]
        have hdl := hd.len
        repeat' (first | simp -implicitDefEqProofs only [go_sem, Nat.reduceEqDiff, Nat.reduceAdd, Nat.reduceMul, Nat.reduceLeDiff, Nat.reduceSub, Nat.reduceLT, Nat.reduceBEq, Int.reduceToNat, reduceCtorEq, ↓reduceIte, Int.reduceEq, Int.reduceNeg, Int.reduceLT, Int.reduceLE, Int.reduceAdd, Int.reduceSub, Int.reduceMul] | simp -implicitDefEqProofs (disch := omega) only [hat, qg, ← hp, dv, rd_map, iaq_vec, iao_arr, iaq_raw, rd_map, wrap_id, binq_quo, binq_rem, binq_shl, binq_shr, tdiv_pos, tmod_pos, if_pos, exV_some, Option.map_some] | ((first | with_reducible apply exIf_dec | ((with_reducible apply exGd_dec); focus exact rfl) | ((with_reducible apply exGq_dec); focus exact rfl) | with_reducible apply exIf_intro | ((with_reducible apply exGd_intro); focus exact rfl) | ((with_reducible apply exGq_intro); focus exact rfl)) <;> intro _) | with_reducible refine exC_pure (tci) ?_ | with_reducible refine exCq_pure (tci) ?_)
        all_goals first | (exfalso; omega) | skip
        · refine ⟨hbase, .inl ?_⟩
          have : optErr g w down = 8 := by
            rw [optErr, if_neg (by simpa using hr), if_pos]
            refine noLeg_mono (n := (i + 1).toNat) (by omega) ?_
            rw [show (i + 1).toNat = i.toNat + 1 by omega, noLeg_succ, Int.toNat_of_nonneg i0, hlg, decide_eq_true (by omega), Bool.or_true]
          rw [this]
          exact ⟨by omega, rfl⟩
        · have hlR := tosR_length g w down i.toNat
          obtain ⟨cap2, hp2⟩ := hrow.pre
          rw [hp2]
          have hl2 : (tosR g w down i.toNat).length + 1 ≤ maxLen := by rw [hlR]; simp only [maxLen]; omega
          have hl2' : ((tosR g w down i.toNat).length + 1) * 24 ≤ 140737488355328 := by rw [hlR]; omega
          refine hapK_pos rfl hl2' hl2 (by omega) ?_
          intro b2 cap hb2 hcap
          simp only [S.newhd]
          have hbtn : H' bt ≠ none := by rw [hat]; simp
          obtain ⟨H1, hH1⟩ : ∃ H1, H1 = upd (delH H' ob) b2 (some (.row (tosR g w down i.toNat ++ [dv (distL g gone p)]) cap 32 1)) := ⟨_, rfl⟩
          obtain ⟨r2, base1, keep1⟩ := row_step hrow hbase hbtn hb2 hcap (dv (distL g gone p)) hH1
          obtain ⟨h1bt, nebt⟩ := keep1 bt _ hat (fun hh => (hrow.some_of hh).1 rfl)
          rw [show upd (delH H' ob) b2 (some (.row (tosR g w down i.toNat ++ [.vec false ((distL g gone p).map iv) (distL g gone p).length]) cap 32 1)) = H1 from hH1.symm]
          have lb1 := legs_bound wf down i.toNat (by omega) hnl
          have lb2 := leg_bound wf down i0 (by omega)
          rw [hlg] at lb2
          clear hH1 keep1 hb2 hp2
          repeat' (first | simp -implicitDefEqProofs only [go_sem, Nat.reduceEqDiff, Nat.reduceAdd, Nat.reduceMul, Nat.reduceLeDiff, Nat.reduceSub, Nat.reduceLT, Nat.reduceBEq, Int.reduceToNat, reduceCtorEq, ↓reduceIte, Int.reduceEq, Int.reduceNeg, Int.reduceLT, Int.reduceLE, Int.reduceAdd, Int.reduceSub, Int.reduceMul] | simp -implicitDefEqProofs (disch := omega) only [h1bt, hlR, upd_self, iaq_vec, iao_arr, iaq_raw, rd_map, wrap_id, binq_quo, binq_rem, binq_shl, binq_shr, tdiv_pos, tmod_pos, if_pos, exV_some, Option.map_some] | ((first | with_reducible apply exIf_dec | ((with_reducible apply exGd_dec); focus exact rfl) | ((with_reducible apply exGq_dec); focus exact rfl) | with_reducible apply exIf_intro | ((with_reducible apply exGd_intro); focus exact rfl) | ((with_reducible apply exGq_intro); focus exact rfl)) <;> intro _))
          all_goals first | (exfalso; omega) | skip
          rw [hlR] at r2
          refine ih (i + 1, upd (upd H1 bt (some (.cells [iv g.nodes, .vec g.nl (rows g.links) g.links.length, .vec false ((pts w).map iv) (pts w).length, .vec false (gone.map bv) g.links.length, .raw (.slice (some ⟨b2, 0, none⟩) (i.toNat + 1) cap), iv (legs g w down i.toNat)] 85))) bt (some (.cells [iv g.nodes, .vec g.nl (rows g.links) g.links.length, .vec false ((pts w).map iv) (pts w).length, .vec false (gone.map bv) g.links.length, .raw (.slice (some ⟨b2, 0, none⟩) (i.toNat + 1) cap), iv (legs g w down i.toNat + gi (distL g gone p) (gi (pts w) i))] 85))) ⟨by dsimp only; omega, by dsimp only; omega, ?_, ?_, .raw (.slice (some ⟨b2, 0, none⟩) (i.toNat + 1) cap), some b2, ?_, ?_⟩ (by dsimp only; omega)
          all_goals dsimp only
          · rw [show (i + 1).toNat = i.toNat + 1 by omega, noLeg_succ, hnl, Int.toNat_of_nonneg i0, hlg, decide_eq_false (by omega)]; rfl
          · intro b o ho
            rw [upd_upd, upd_ne _ _ (by rintro rfl; rw [hbt] at ho; cases ho)]
            exact base1 b o ho
          · rw [upd_self, show (i + 1).toNat = i.toNat + 1 by omega, legs, Int.toNat_of_nonneg i0, hlg]
          · rw [tosR_succ g w down i0, hfar]
            refine RowAt.keep (H' := H1) r2 fun b hb => ?_
            injection hb with hb
            subst hb
            rw [upd_upd]
            exact upd_ne _ _ (Ne.symm (r2.some_of rfl).1)
      · obtain rfl : i = m := by omega
        rw [Int.toNat_natCast] at hat hrow hnl
        have lb1 := legs_bound wf down m (by omega) hnl
        have e0 : optErr g w down = if 0 < w.bound ∧ w.bound < legs g w down m then 8 else 0 := by
          rw [optErr, if_neg (by simpa using hr), if_neg (by rw [← hm, hnl]; simp), hm]
        repeat' (first | simp -implicitDefEqProofs only [go_sem, Nat.reduceEqDiff, Nat.reduceAdd, Nat.reduceMul, Nat.reduceLeDiff, Nat.reduceSub, Nat.reduceLT, Nat.reduceBEq, Int.reduceToNat, reduceCtorEq, ↓reduceIte, Int.reduceEq, Int.reduceNeg, Int.reduceLT, Int.reduceLE, Int.reduceAdd, Int.reduceSub, Int.reduceMul] | simp -implicitDefEqProofs (disch := omega) only [hat, iaq_vec, iao_arr, iaq_raw, rd_map, wrap_id, binq_quo, binq_rem, binq_shl, binq_shr, tdiv_pos, tmod_pos, if_pos, exV_some, Option.map_some] | ((first | with_reducible apply exIf_dec | ((with_reducible apply exGd_dec); focus exact rfl) | ((with_reducible apply exGq_dec); focus exact rfl) | with_reducible apply exIf_intro | ((with_reducible apply exGd_intro); focus exact rfl) | ((with_reducible apply exGq_intro); focus exact rfl)) <;> intro _))
        all_goals first | (exfalso; omega) | skip
        · rw [if_pos ⟨by assumption, by assumption⟩] at e0
          exact ⟨hbase, .inl ⟨by omega, by rw [e0]⟩⟩
        · rw [if_neg (by omega)] at e0
          exact ⟨hbase, .inr ⟨e0, bt, _, sv, ob, rfl, hbt, hat, hrow⟩⟩
        · rw [if_neg (by omega)] at e0
          exact ⟨hbase, .inr ⟨e0, bt, _, sv, ob, rfl, hbt, hat, hrow⟩⟩
    · rintro r H1 ⟨hbase, ⟨he, rfl⟩ | ⟨he, bt, tt, sv, ob, rfl, hbt, hat, hrow⟩⟩
      · refine ⟨fun _ => False, H, _, hbase, by simp, Fz.refl _ _ _, ?_⟩
        rw [waysAV, if_neg he] at h
        exact h
      · have l2 := tosR_length g w down m
        have n2' : tosR g w down m ≠ [] := fun e => by rw [e] at l2; simp at l2; omega
        obtain ⟨b2, c2, rfl, rfl, e2, m2, k2, u2⟩ : ∃ b cap, ob = some b ∧ sv = .raw (.slice (some ⟨b, 0, none⟩) (tosR g w down m).length cap) ∧ H1 b = some (.row (tosR g w down m) cap 32 1) ∧ b ≠ bt ∧ H b = none ∧ (tosR g w down m).length ≤ cap := by
          rcases hrow with ⟨_, h2, _⟩ | h2
          · exact absurd h2 n2'
          · exact h2
        rw [waysAV, if_pos he, he] at h
        refine ⟨fun b => b = bt ∨ b = b2, H, .tup [ways g w down, iv 0], hbase, ?_, ?_, h⟩
        · rintro b (rfl | rfl)
          · exact ⟨by rw [hat]; simp, hbt⟩
          · exact ⟨by rw [e2]; simp, k2⟩
        · refine Fz.tup (.cons (Fz.ptr (.inl rfl) hat ?_) (FzL.refl _ _ _))
          rw [l2] at *
          rw [waysCells, ← hm, ← hgone]
          refine .cons (Fz.refl _ _ _) (.cons (Fz.refl _ _ _) (.cons (Fz.refl _ _ _) (.cons (Fz.refl _ _ _) (.cons ?_ (.cons (Fz.refl _ _ _) .nil)))))
          exact Fz.slice (.inr rfl) e2 u2 (Nat.le_refl _) (fun j u hj => by rw [Nat.zero_add]; exact hj) (fun _ => n2') (FzL.refl _ _ _)
  · refine ACalls.of_code fn_opt_New ?_
    simp -implicitDefEqProofs only [sc_opt_New, Graph.av, Want.av, blv, sl, go_sem, Nat.reduceEqDiff, Nat.reduceAdd, Nat.reduceMul, Nat.reduceLeDiff, Nat.reduceSub, Nat.reduceLT, Nat.reduceBEq, Int.reduceToNat, reduceCtorEq, ↓reduceIte, Int.reduceEq, Int.reduceNeg, Int.reduceLT, Int.reduceLE, Int.reduceAdd, Int.reduceSub, Int.reduceMul]
    refine exC_pure (rc _) ?_
    repeat' (first | simp -implicitDefEqProofs only [go_sem, Nat.reduceEqDiff, Nat.reduceAdd, Nat.reduceMul, Nat.reduceLeDiff, Nat.reduceSub, Nat.reduceLT, Nat.reduceBEq, Int.reduceToNat, reduceCtorEq, ↓reduceIte, Int.reduceEq, Int.reduceNeg, Int.reduceLT, Int.reduceLE, Int.reduceAdd, Int.reduceSub, Int.reduceMul] | simp -implicitDefEqProofs (disch := omega) only [iaq_vec, iao_arr, iaq_raw, rd_map, wrap_id, binq_quo, binq_rem, binq_shl, binq_shr, tdiv_pos, tmod_pos, if_pos, exV_some, Option.map_some] | ((first | with_reducible apply exIf_dec | ((with_reducible apply exGd_dec); focus exact rfl) | ((with_reducible apply exGq_dec); focus exact rfl) | with_reducible apply exIf_intro | ((with_reducible apply exGd_intro); focus exact rfl) | ((with_reducible apply exGq_intro); focus exact rfl)) <;> intro _))
    all_goals first | contradiction | skip
    have e : optErr g w down = rightErr g w := by rw [optErr, if_pos hr]
    rw [waysAV, if_neg (by rw [e]; exact hr), e] at h
    exact h
end Go.Proofs.Ytgahnhiidhkjaaa
end

section
/- The package opt: states, and what a walk of edges is. -/
namespace Go.Proofs.Ytgahnhiidhkjaaa
open Go Abs
attribute [local irreducible] EX exL exG exC exCq exS exV exIf exGd exGq
set_option maxHeartbeats 2000000

/-- the state behind an edge; none: it leads off all best ways -/
def stepOk (g : Graph) (w : Want) (down : List Bool) (node n e : Int) : Prop :=
  optErr g w down = 0 ∧ (0 ≤ n ∧ n < w.via.length + 1) ∧ (0 ≤ node ∧ node < g.nodes) ∧ gi (pts w) (n + 1) ≠ node ∧ (ends g e).2.2 = true ∧ (ends g e).1 = node ∧ upE (pruned g w down) e = true ∧
    0 ≤ gi (farOf g w down (n + 1)) (ends g e).2.1 ∧ gi (farOf g w down (n + 1)) node = gi (farOf g w down (n + 1)) (ends g e).2.1 + wt g e
noncomputable instance (g : Graph) (w : Want) (down : List Bool) (node n e : Int) : Decidable (stepOk g w down node n e) := Classical.propDecidable _
noncomputable def stepW (g : Graph) (w : Want) (down : List Bool) (at_ : Int × Int) (e : Int) : Option (Int × Int) :=
  if stepOk g w down at_.1 at_.2 e then some ((ends g e).2.1, come (pts w) (ends g e).2.1 at_.2) else none
def stateAV (a : Int × Int) : AV := .agg [iv a.1, iv a.2]
def stepAV : Option (Int × Int) → AV
  | some a => .tup [stateAV a, bv true]
  | none => .tup [.agg [iv 0, iv 0], bv false]
theorem rd_tos {g : Graph} {w : Want} {down : List Bool} {m : Nat} {n : Int} (h0 : 0 ≤ n) (h1 : n < m) : rdV (tosR g w down m) (n.toNat * 1) 1 false = some (.vec false ((farOf g w down (n + 1)).map iv) (farOf g w down (n + 1)).length) := by
  rw [tosR, rd_range h0 h1, Int.toNat_of_nonneg h0]; rfl
theorem ends_ok {g : Graph} {e : Int} (h : (ends g e).2.2 = true) : 0 ≤ e ∧ e < 2 * g.links.length := by
  unfold ends at h
  split at h
  · cases h
  · omega
theorem optErr_right {g : Graph} {w : Want} {down : List Bool} (h : optErr g w down = 0) : rightErr g w = 0 := by
  unfold optErr at h
  split at h
  · exact absurd h ‹_›
  · omega
theorem wstep_c (g : Graph) (w : Want) (down : List Bool) (node n e : Int) (he : -9223372036854775808 ≤ e ∧ e ≤ 9223372036854775807) (H : AHeap) :
    APure Try.prog 51 [waysAV g w down, .agg [iv node, iv n], iv e] H (stepAV (stepW g w down (node, n) e)) := by
  intro Q h
  refine ACalls.of_code fn_opt_Ways_Step ?_
  by_cases h0 : optErr g w down = 0
  · have wf := wfit_of (optErr_right h0)
    have hf := wf.fit
    have f1 := hf.n1
    have f2 := hf.n2
    have f3 := hf.few
    have f4 := wf.few
    have pl := pts_length w
    have hno : ¬ stepOk g w down node n e → Q (.tup [.agg [iv 0, iv 0], bv false]) H := fun hn => by rw [stepW, if_neg hn] at h; exact h
    have hyes : stepOk g w down node n e → Q (.tup [.agg [iv (ends g e).2.1, iv (come (pts w) (ends g e).2.1 n)], bv true]) H := fun hn => by rw [stepW, if_pos hn] at h; exact h
    clear h
    rw [waysAV, if_pos h0, ways, waysCells]
    have ic := is_c g
    have ec := ends_c g e he
    simp only [Graph.av, triIIB] at ic ec
    simp -implicitDefEqProofs only [sc_opt_Ways_Step, sl, go_sem, Nat.reduceEqDiff, Nat.reduceAdd, Nat.reduceMul, Nat.reduceLeDiff, Nat.reduceSub, Nat.reduceLT, Nat.reduceBEq, Int.reduceToNat, reduceCtorEq, ↓reduceIte, Int.reduceEq, Int.reduceNeg, Int.reduceLT, Int.reduceLE, Int.reduceAdd, Int.reduceSub, Int.reduceMul]
    repeat' (first | simp -implicitDefEqProofs only [go_sem, Nat.reduceEqDiff, Nat.reduceAdd, Nat.reduceMul, Nat.reduceLeDiff, Nat.reduceSub, Nat.reduceLT, Nat.reduceBEq, Int.reduceToNat, reduceCtorEq, ↓reduceIte, Int.reduceEq, Int.reduceNeg, Int.reduceLT, Int.reduceLE, Int.reduceAdd, Int.reduceSub, Int.reduceMul] | simp -implicitDefEqProofs (disch := omega) only [rd_tos, iaq_vec, iao_arr, iaq_raw, rd_map, wrap_id, binq_quo, binq_rem, binq_shl, binq_shr, tdiv_pos, tmod_pos, if_pos, exV_some, Option.map_some] | ((first | with_reducible apply exIf_dec | ((with_reducible apply exGd_dec); focus exact rfl) | ((with_reducible apply exGq_dec); focus exact rfl) | with_reducible apply exIf_intro | ((with_reducible apply exGd_intro); focus exact rfl) | ((with_reducible apply exGq_intro); focus exact rfl)) <;> intro _) | with_reducible refine exC_pure (ic _ _) ?_ | with_reducible refine exCq_pure (ic _ _) ?_)
    all_goals first | (exfalso; omega) | skip
    rotate_left
    rotate_left
    rotate_left
    rotate_left
    · have hnode : 0 ≤ node ∧ node < g.nodes := by omega
      have hn : 0 ≤ n ∧ n < w.via.length + 1 := by omega
      have hd := (distL_spec hf (pruned g w down) (wf.point (i := n + 1) (by omega) (by omega))).1
      have hfl : ((farOf g w down (n + 1)).length : Int) = g.nodes := hd.len
      have hcm := come_c false (pts w) (by omega)
      refine exC_pure (ec _) ?_
      cases hok : (ends g e).2.2 with
      | false =>
        repeat' (first | simp -implicitDefEqProofs only [go_sem, Nat.reduceEqDiff, Nat.reduceAdd, Nat.reduceMul, Nat.reduceLeDiff, Nat.reduceSub, Nat.reduceLT, Nat.reduceBEq, Int.reduceToNat, reduceCtorEq, ↓reduceIte, Int.reduceEq, Int.reduceNeg, Int.reduceLT, Int.reduceLE, Int.reduceAdd, Int.reduceSub, Int.reduceMul] | simp -implicitDefEqProofs (disch := omega) only [rd_tos, iaq_vec, iao_arr, iaq_raw, rd_map, wrap_id, binq_quo, binq_rem, binq_shl, binq_shr, tdiv_pos, tmod_pos, if_pos, exV_some, Option.map_some] | ((first | with_reducible apply exIf_dec | ((with_reducible apply exGd_dec); focus exact rfl) | ((with_reducible apply exGq_dec); focus exact rfl) | with_reducible apply exIf_intro | ((with_reducible apply exGd_intro); focus exact rfl) | ((with_reducible apply exGq_intro); focus exact rfl)) <;> intro _))
        all_goals first | (exact hno fun hs => by have h5 := hs.2.2.2.2.1; rw [hok] at h5; cases h5) | (exfalso; omega)
      | true =>
        obtain ⟨e0, e1⟩ := ends_ok hok
        have hb := hf.b e e0 e1
        have hwt := hf.w e e0 e1
        have gb := dist_bound hf (pruned g w down) (wf.point (i := n + 1) (by omega) (by omega)) hb.2.1 hb.2.2
        have upc := up_c false (pruned g w down) e e0 (by omega)
        have hpl : (pruned g w down).length = g.links.length := by simp [pruned]
        have cm := hcm (ends g e).2.1 n hn.1 (by omega)
        simp only [blv, hpl] at upc
        simp only [sl] at cm
        simp only [farOf] at hfl
        unfold wt at hwt
        repeat' (first | simp -implicitDefEqProofs only [go_sem, Nat.reduceEqDiff, Nat.reduceAdd, Nat.reduceMul, Nat.reduceLeDiff, Nat.reduceSub, Nat.reduceLT, Nat.reduceBEq, Int.reduceToNat, reduceCtorEq, ↓reduceIte, Int.reduceEq, Int.reduceNeg, Int.reduceLT, Int.reduceLE, Int.reduceAdd, Int.reduceSub, Int.reduceMul] | simp -implicitDefEqProofs (disch := omega) only [rd_tos, rd_link2, farOf, rd_map, iaq_vec, iao_arr, iaq_raw, rd_map, wrap_id, binq_quo, binq_rem, binq_shl, binq_shr, tdiv_pos, tmod_pos, if_pos, exV_some, Option.map_some] | ((first | with_reducible apply exIf_dec | ((with_reducible apply exGd_dec); focus exact rfl) | ((with_reducible apply exGq_dec); focus exact rfl) | with_reducible apply exIf_intro | ((with_reducible apply exGd_intro); focus exact rfl) | ((with_reducible apply exGq_intro); focus exact rfl)) <;> intro _) | with_reducible refine exC_pure (upc _) ?_ | with_reducible refine exCq_pure (upc _) ?_ | with_reducible refine exC_pure (cm _) ?_ | with_reducible refine exCq_pure (cm _) ?_)
        all_goals rename_i hlast
        · exact hno fun hs => hlast hs.2.2.2.2.2.1
        · exact hno fun hs => by have h6 := hs.2.2.2.2.2.2.1; rw [h6] at hlast; cases hlast
        · refine hno fun hs => ?_
          have h6 := hs.2.2.2.2.2.2.2.1
          rw [farOf] at h6
          omega
        · exact hno fun hs => hlast hs.2.2.2.2.2.2.2.2
        · rename_i hup hlt
          rw [Bool.not_eq_false'] at hup
          refine hyes ⟨h0, hn, hnode, by assumption, hok, by omega, hup, ?_, by rw [farOf, wt]; omega⟩
          rw [farOf]
          omega
    all_goals
      refine hno fun hs => ?_
      obtain ⟨_, a1, a2, a3, _⟩ := hs
      first | omega | contradiction
  · have e : stepW g w down (node, n) e = none := by rw [stepW, if_neg fun hs => h0 hs.1]
    rw [e] at h
    rw [waysAV, if_neg h0]
    simp -implicitDefEqProofs only [sc_opt_Ways_Step, go_sem, Nat.reduceEqDiff, Nat.reduceAdd, Nat.reduceMul, Nat.reduceLeDiff, Nat.reduceSub, Nat.reduceLT, Nat.reduceBEq, Int.reduceToNat, reduceCtorEq, ↓reduceIte, Int.reduceEq, Int.reduceNeg, Int.reduceLT, Int.reduceLE, Int.reduceAdd, Int.reduceSub, Int.reduceMul]
    repeat' (first | simp -implicitDefEqProofs only [go_sem, Nat.reduceEqDiff, Nat.reduceAdd, Nat.reduceMul, Nat.reduceLeDiff, Nat.reduceSub, Nat.reduceLT, Nat.reduceBEq, Int.reduceToNat, reduceCtorEq, ↓reduceIte, Int.reduceEq, Int.reduceNeg, Int.reduceLT, Int.reduceLE, Int.reduceAdd, Int.reduceSub, Int.reduceMul] | simp -implicitDefEqProofs (disch := omega) only [iaq_vec, iao_arr, iaq_raw, rd_map, wrap_id, binq_quo, binq_rem, binq_shl, binq_shr, tdiv_pos, tmod_pos, if_pos, exV_some, Option.map_some] | ((first | with_reducible apply exIf_dec | ((with_reducible apply exGd_dec); focus exact rfl) | ((with_reducible apply exGq_dec); focus exact rfl) | with_reducible apply exIf_intro | ((with_reducible apply exGd_intro); focus exact rfl) | ((with_reducible apply exGq_intro); focus exact rfl)) <;> intro _))
    exact h
theorem cost_c (g : Graph) (w : Want) (nl : Bool) (down : List Bool) (hw : w.ok) (H : AHeap) : APure Try.prog 22 [g.av, w.av, blv nl down] H (.tup [iv (optCost g w down), iv (optErr g w down)]) := by
  intro Q h
  have nc := fun H => onew_c g w nl down hw H
  simp only [Graph.av, Want.av, blv, sl] at nc
  refine ACalls.of_code fn_opt_Cost ?_
  simp -implicitDefEqProofs only [sc_opt_Cost, Graph.av, Want.av, blv, sl, go_sem, Nat.reduceEqDiff, Nat.reduceAdd, Nat.reduceMul, Nat.reduceLeDiff, Nat.reduceSub, Nat.reduceLT, Nat.reduceBEq, Int.reduceToNat, reduceCtorEq, ↓reduceIte, Int.reduceEq, Int.reduceNeg, Int.reduceLT, Int.reduceLE, Int.reduceAdd, Int.reduceSub, Int.reduceMul]
  refine exC_pure (nc _) ?_
  by_cases h0 : optErr g w down = 0
  · rw [waysAV, if_pos h0, ways, waysCells]
    rw [optCost, if_pos h0] at h
    rw [h0] at h ⊢
    repeat' (first | simp -implicitDefEqProofs only [go_sem, Nat.reduceEqDiff, Nat.reduceAdd, Nat.reduceMul, Nat.reduceLeDiff, Nat.reduceSub, Nat.reduceLT, Nat.reduceBEq, Int.reduceToNat, reduceCtorEq, ↓reduceIte, Int.reduceEq, Int.reduceNeg, Int.reduceLT, Int.reduceLE, Int.reduceAdd, Int.reduceSub, Int.reduceMul] | simp -implicitDefEqProofs (disch := omega) only [iaq_vec, iao_arr, iaq_raw, rd_map, wrap_id, binq_quo, binq_rem, binq_shl, binq_shr, tdiv_pos, tmod_pos, if_pos, exV_some, Option.map_some] | ((first | with_reducible apply exIf_dec | ((with_reducible apply exGd_dec); focus exact rfl) | ((with_reducible apply exGq_dec); focus exact rfl) | with_reducible apply exIf_intro | ((with_reducible apply exGd_intro); focus exact rfl) | ((with_reducible apply exGq_intro); focus exact rfl)) <;> intro _))
    all_goals first | exact h | (exfalso; omega)
  · rw [waysAV, if_neg h0]
    rw [optCost, if_neg h0] at h
    repeat' (first | simp -implicitDefEqProofs only [go_sem, Nat.reduceEqDiff, Nat.reduceAdd, Nat.reduceMul, Nat.reduceLeDiff, Nat.reduceSub, Nat.reduceLT, Nat.reduceBEq, Int.reduceToNat, reduceCtorEq, ↓reduceIte, Int.reduceEq, Int.reduceNeg, Int.reduceLT, Int.reduceLE, Int.reduceAdd, Int.reduceSub, Int.reduceMul] | simp -implicitDefEqProofs (disch := omega) only [iaq_vec, iao_arr, iaq_raw, rd_map, wrap_id, binq_quo, binq_rem, binq_shl, binq_shr, tdiv_pos, tmod_pos, if_pos, exV_some, Option.map_some] | ((first | with_reducible apply exIf_dec | ((with_reducible apply exGd_dec); focus exact rfl) | ((with_reducible apply exGq_dec); focus exact rfl) | with_reducible apply exIf_intro | ((with_reducible apply exGd_intro); focus exact rfl) | ((with_reducible apply exGq_intro); focus exact rfl)) <;> intro _))
    all_goals first | exact h | (exfalso; omega)
theorem ostep_c (g : Graph) (w : Want) (nl : Bool) (down : List Bool) (hw : w.ok) (node n e : Int) (he : -9223372036854775808 ≤ e ∧ e ≤ 9223372036854775807) (H : AHeap) :
    APure Try.prog 35 [g.av, w.av, blv nl down, .agg [iv node, iv n], iv e] H (stepAV (stepW g w down (node, n) e)) := by
  intro Q h
  have nc := fun H => onew_c g w nl down hw H
  have sc := fun H => wstep_c g w down node n e he H
  simp only [Graph.av, Want.av, blv, sl] at nc
  refine ACalls.of_code fn_opt_Step ?_
  simp -implicitDefEqProofs only [sc_opt_Step, Graph.av, Want.av, blv, sl, go_sem, Nat.reduceEqDiff, Nat.reduceAdd, Nat.reduceMul, Nat.reduceLeDiff, Nat.reduceSub, Nat.reduceLT, Nat.reduceBEq, Int.reduceToNat, reduceCtorEq, ↓reduceIte, Int.reduceEq, Int.reduceNeg, Int.reduceLT, Int.reduceLE, Int.reduceAdd, Int.reduceSub, Int.reduceMul]
  refine exC_pure (nc _) ?_
  generalize waysAV g w down = x at *
  repeat' (first | simp -implicitDefEqProofs only [go_sem, Nat.reduceEqDiff, Nat.reduceAdd, Nat.reduceMul, Nat.reduceLeDiff, Nat.reduceSub, Nat.reduceLT, Nat.reduceBEq, Int.reduceToNat, reduceCtorEq, ↓reduceIte, Int.reduceEq, Int.reduceNeg, Int.reduceLT, Int.reduceLE, Int.reduceAdd, Int.reduceSub, Int.reduceMul] | simp -implicitDefEqProofs (disch := omega) only [iaq_vec, iao_arr, iaq_raw, rd_map, wrap_id, binq_quo, binq_rem, binq_shl, binq_shr, tdiv_pos, tmod_pos, if_pos, exV_some, Option.map_some] | ((first | with_reducible apply exIf_dec | ((with_reducible apply exGd_dec); focus exact rfl) | ((with_reducible apply exGq_dec); focus exact rfl) | with_reducible apply exIf_intro | ((with_reducible apply exGd_intro); focus exact rfl) | ((with_reducible apply exGq_intro); focus exact rfl)) <;> intro _))
  refine exC_pure (sc _) ?_
  cases hs : stepW g w down (node, n) e with
  | none =>
    rw [hs] at h
    simp -implicitDefEqProofs only [stepAV, go_sem, Nat.reduceEqDiff, Nat.reduceAdd, Nat.reduceMul, Nat.reduceLeDiff, Nat.reduceSub, Nat.reduceLT, Nat.reduceBEq, Int.reduceToNat, reduceCtorEq, ↓reduceIte, Int.reduceEq, Int.reduceNeg, Int.reduceLT, Int.reduceLE, Int.reduceAdd, Int.reduceSub, Int.reduceMul]
    exact h
  | some a =>
    rw [hs] at h
    simp -implicitDefEqProofs only [stepAV, stateAV, go_sem, Nat.reduceEqDiff, Nat.reduceAdd, Nat.reduceMul, Nat.reduceLeDiff, Nat.reduceSub, Nat.reduceLT, Nat.reduceBEq, Int.reduceToNat, reduceCtorEq, ↓reduceIte, Int.reduceEq, Int.reduceNeg, Int.reduceLT, Int.reduceLE, Int.reduceAdd, Int.reduceSub, Int.reduceMul]
    exact h
end Go.Proofs.Ytgahnhiidhkjaaa
end

section
/- The document's own answers of chapter 15: points, states, costs. -/
namespace Go.Proofs.Ytgahnhiidhkjaaa
open Go Abs
attribute [local irreducible] EX exL exG exC exCq exS exV exIf exGd exGq
set_option maxHeartbeats 2000000

theorem rpoints_c (w : Want) (hw : w.ok) (H : AHeap) : APure Try.prog 52 [w.av] H (sl false (pts w)) := by
  obtain ⟨w1, -⟩ := hw
  intro Q h
  refine relax_slice (n := (pts w).length) (ds := (pts w).map iv) h (fun h0 hh => h0 (by simpa using hh)) ?_
  refine ACalls.of_code fn_waymarkref15_points ?_
  simp -implicitDefEqProofs only [sc_waymarkref15_points, Want.av, sl, go_sem, Nat.reduceEqDiff, Nat.reduceAdd, Nat.reduceMul, Nat.reduceLeDiff, Nat.reduceSub, Nat.reduceLT, Nat.reduceBEq, Int.reduceToNat, reduceCtorEq, ↓reduceIte, Int.reduceEq, Int.reduceNeg, Int.reduceLT, Int.reduceLE, Int.reduceAdd, Int.reduceSub, Int.reduceMul]
  repeat' (first | simp -implicitDefEqProofs only [go_sem, Nat.reduceEqDiff, Nat.reduceAdd, Nat.reduceMul, Nat.reduceLeDiff, Nat.reduceSub, Nat.reduceLT, Nat.reduceBEq, Int.reduceToNat, reduceCtorEq, ↓reduceIte, Int.reduceEq, Int.reduceNeg, Int.reduceLT, Int.reduceLE, Int.reduceAdd, Int.reduceSub, Int.reduceMul] | simp -implicitDefEqProofs (disch := omega) only [iaq_vec, iao_arr, iaq_raw, rd_map, wrap_id, binq_quo, binq_rem, binq_shl, binq_shr, tdiv_pos, tmod_pos, if_pos, exV_some, Option.map_some] | ((first | with_reducible apply exIf_dec | ((with_reducible apply exGd_dec); focus exact rfl) | ((with_reducible apply exGq_dec); focus exact rfl) | with_reducible apply exIf_intro | ((with_reducible apply exGd_intro); focus exact rfl) | ((with_reducible apply exGq_intro); focus exact rfl)) <;> intro _))
  intro b hb
  refine OnH.app (OnH.first hb rfl) rfl (by simp) (by omega) (by simp only [maxLen]; omega) fun H1 v1 h1 => ?_
  clear hb
  repeat' (first | simp -implicitDefEqProofs only [go_sem, Nat.reduceEqDiff, Nat.reduceAdd, Nat.reduceMul, Nat.reduceLeDiff, Nat.reduceSub, Nat.reduceLT, Nat.reduceBEq, Int.reduceToNat, reduceCtorEq, ↓reduceIte, Int.reduceEq, Int.reduceNeg, Int.reduceLT, Int.reduceLE, Int.reduceAdd, Int.reduceSub, Int.reduceMul] | simp -implicitDefEqProofs (disch := omega) only [iaq_vec, iao_arr, iaq_raw, rd_map, wrap_id, binq_quo, binq_rem, binq_shl, binq_shr, tdiv_pos, tmod_pos, if_pos, exV_some, Option.map_some] | ((first | with_reducible apply exIf_dec | ((with_reducible apply exGd_dec); focus exact rfl) | ((with_reducible apply exGq_dec); focus exact rfl) | with_reducible apply exIf_intro | ((with_reducible apply exGd_intro); focus exact rfl) | ((with_reducible apply exGq_intro); focus exact rfl)) <;> intro _))
  refine OnH.app h1 rfl rfl (by omega) (by simp only [maxLen]; omega) fun H2 v2 h2 => ?_
  clear h1
  repeat' (first | simp -implicitDefEqProofs only [go_sem, Nat.reduceEqDiff, Nat.reduceAdd, Nat.reduceMul, Nat.reduceLeDiff, Nat.reduceSub, Nat.reduceLT, Nat.reduceBEq, Int.reduceToNat, reduceCtorEq, ↓reduceIte, Int.reduceEq, Int.reduceNeg, Int.reduceLT, Int.reduceLE, Int.reduceAdd, Int.reduceSub, Int.reduceMul] | simp -implicitDefEqProofs (disch := omega) only [iaq_vec, iao_arr, iaq_raw, rd_map, wrap_id, binq_quo, binq_rem, binq_shl, binq_shr, tdiv_pos, tmod_pos, if_pos, exV_some, Option.map_some] | ((first | with_reducible apply exIf_dec | ((with_reducible apply exGd_dec); focus exact rfl) | ((with_reducible apply exGq_dec); focus exact rfl) | with_reducible apply exIf_intro | ((with_reducible apply exGd_intro); focus exact rfl) | ((with_reducible apply exGq_intro); focus exact rfl)) <;> intro _))
  have := h2.done
  rw [pts_length]
  simpa [pts, Nat.add_comm, Nat.add_left_comm] using this
theorem rcome_c (nl : Bool) (l : List Int) (hl : l.length ≤ 140737488351232) (node n : Int) (n0 : 0 ≤ n) (n1 : n < l.length) (H : AHeap) : APure Try.prog 55 [sl nl l, .agg [iv node, iv n]] H (.agg [iv node, iv (come l node n)]) := by
  intro Q h
  refine ACalls.of_code fn_waymarkref15_come ?_
  simp -implicitDefEqProofs only [sc_waymarkref15_come, sl, go_sem, Nat.reduceEqDiff, Nat.reduceAdd, Nat.reduceMul, Nat.reduceLeDiff, Nat.reduceSub, Nat.reduceLT, Nat.reduceBEq, Int.reduceToNat, reduceCtorEq, ↓reduceIte, Int.reduceEq, Int.reduceNeg, Int.reduceLT, Int.reduceLE, Int.reduceAdd, Int.reduceSub, Int.reduceMul]
  repeat' (first | simp -implicitDefEqProofs only [go_sem, Nat.reduceEqDiff, Nat.reduceAdd, Nat.reduceMul, Nat.reduceLeDiff, Nat.reduceSub, Nat.reduceLT, Nat.reduceBEq, Int.reduceToNat, reduceCtorEq, ↓reduceIte, Int.reduceEq, Int.reduceNeg, Int.reduceLT, Int.reduceLE, Int.reduceAdd, Int.reduceSub, Int.reduceMul] | simp -implicitDefEqProofs (disch := omega) only [iaq_vec, iao_arr, iaq_raw, rd_map, wrap_id, binq_quo, binq_rem, binq_shl, binq_shr, tdiv_pos, tmod_pos, if_pos, exV_some, Option.map_some] | ((first | with_reducible apply exIf_dec | ((with_reducible apply exGd_dec); focus exact rfl) | ((with_reducible apply exGq_dec); focus exact rfl) | with_reducible apply exIf_intro | ((with_reducible apply exGd_intro); focus exact rfl) | ((with_reducible apply exGq_intro); focus exact rfl)) <;> intro _))
  refine exL_mod (fun i : Int => []) (fun i => [(3, .cells [iv node, iv i] 63)]) (fun i => 0 ≤ i ∧ i < l.length ∧ come l node n = come l node i) (fun i => (l.length - i).toNat) n rfl ⟨n0, n1, rfl⟩ ?_
  rintro i ⟨i0, i1, hi⟩ ih
  simp only [S.up, S.upH, ups, Abs.put, Nat.reduceEqDiff, ↓reduceIte, Nat.reduceAdd] at ih
  simp -implicitDefEqProofs only [congrArg KI.code sc_waymarkref15_come_L0.eq_1, go_sem, Nat.reduceEqDiff, Nat.reduceAdd, Nat.reduceMul, Nat.reduceLeDiff, Nat.reduceSub, Nat.reduceLT, Nat.reduceBEq, Int.reduceToNat, reduceCtorEq, ↓reduceIte, Int.reduceEq, Int.reduceNeg, Int.reduceLT, Int.reduceLE, Int.reduceAdd, Int.reduceSub, Int.reduceMul]
  by_cases hc : i + 1 < l.length ∧ gi l (i + 1) = node
  · have nxt := ih (i + 1) ⟨by omega, hc.1, by rw [hi, come_go i0 hc.1 hc.2]⟩ (by omega)
    repeat' (first | simp -implicitDefEqProofs only [go_sem, Nat.reduceEqDiff, Nat.reduceAdd, Nat.reduceMul, Nat.reduceLeDiff, Nat.reduceSub, Nat.reduceLT, Nat.reduceBEq, Int.reduceToNat, reduceCtorEq, ↓reduceIte, Int.reduceEq, Int.reduceNeg, Int.reduceLT, Int.reduceLE, Int.reduceAdd, Int.reduceSub, Int.reduceMul] | simp -implicitDefEqProofs (disch := omega) only [iaq_vec, iao_arr, iaq_raw, rd_map, wrap_id, binq_quo, binq_rem, binq_shl, binq_shr, tdiv_pos, tmod_pos, if_pos, exV_some, Option.map_some] | ((first | with_reducible apply exIf_dec | ((with_reducible apply exGd_dec); focus exact rfl) | ((with_reducible apply exGq_dec); focus exact rfl) | with_reducible apply exIf_intro | ((with_reducible apply exGd_intro); focus exact rfl) | ((with_reducible apply exGq_intro); focus exact rfl)) <;> intro _))
    all_goals first | exact nxt | (exfalso; omega)
  · have hs := come_stop i0 hc
    rw [hi, hs] at h
    repeat' (first | simp -implicitDefEqProofs only [go_sem, Nat.reduceEqDiff, Nat.reduceAdd, Nat.reduceMul, Nat.reduceLeDiff, Nat.reduceSub, Nat.reduceLT, Nat.reduceBEq, Int.reduceToNat, reduceCtorEq, ↓reduceIte, Int.reduceEq, Int.reduceNeg, Int.reduceLT, Int.reduceLE, Int.reduceAdd, Int.reduceSub, Int.reduceMul] | simp -implicitDefEqProofs (disch := omega) only [iaq_vec, iao_arr, iaq_raw, rd_map, wrap_id, binq_quo, binq_rem, binq_shl, binq_shr, tdiv_pos, tmod_pos, if_pos, exV_some, Option.map_some] | ((first | with_reducible apply exIf_dec | ((with_reducible apply exGd_dec); focus exact rfl) | ((with_reducible apply exGq_dec); focus exact rfl) | with_reducible apply exIf_intro | ((with_reducible apply exGd_intro); focus exact rfl) | ((with_reducible apply exGq_intro); focus exact rfl)) <;> intro _))
    all_goals first | exact h | (exfalso; omega)
theorem rstart_c (w : Want) (hw : w.ok) (H : AHeap) : APure Try.prog 31 [w.av] H (.agg [iv w.src, iv (come (pts w) w.src 0)]) := by
  have hp := rpoints_c w hw
  have hl := pts_length w
  have hc := rcome_c false (pts w) (by have := hw.1; omega) w.src 0 (Int.le_refl _) (by omega)
  simp only [Want.av, sl] at hp hc
  intro Q h
  refine ACalls.of_code fn_waymarkref15_Start ?_
  simp -implicitDefEqProofs only [sc_waymarkref15_Start, Want.av, sl, go_sem, Nat.reduceEqDiff, Nat.reduceAdd, Nat.reduceMul, Nat.reduceLeDiff, Nat.reduceSub, Nat.reduceLT, Nat.reduceBEq, Int.reduceToNat, reduceCtorEq, ↓reduceIte, Int.reduceEq, Int.reduceNeg, Int.reduceLT, Int.reduceLE, Int.reduceAdd, Int.reduceSub, Int.reduceMul]
  repeat' (first | simp -implicitDefEqProofs only [go_sem, Nat.reduceEqDiff, Nat.reduceAdd, Nat.reduceMul, Nat.reduceLeDiff, Nat.reduceSub, Nat.reduceLT, Nat.reduceBEq, Int.reduceToNat, reduceCtorEq, ↓reduceIte, Int.reduceEq, Int.reduceNeg, Int.reduceLT, Int.reduceLE, Int.reduceAdd, Int.reduceSub, Int.reduceMul] | simp -implicitDefEqProofs (disch := omega) only [iaq_vec, iao_arr, iaq_raw, rd_map, wrap_id, binq_quo, binq_rem, binq_shl, binq_shr, tdiv_pos, tmod_pos, if_pos, exV_some, Option.map_some] | ((first | with_reducible apply exIf_dec | ((with_reducible apply exGd_dec); focus exact rfl) | ((with_reducible apply exGq_dec); focus exact rfl) | with_reducible apply exIf_intro | ((with_reducible apply exGd_intro); focus exact rfl) | ((with_reducible apply exGq_intro); focus exact rfl)) <;> intro _) | with_reducible refine exC_pure (hp _) ?_ | with_reducible refine exCq_pure (hp _) ?_ | with_reducible refine exC_pure (hc _) ?_ | with_reducible refine exCq_pure (hc _) ?_)
  exact h
theorem rgoal_c (w : Want) (hw : w.ok) (H : AHeap) : APure Try.prog 33 [w.av] H (.agg [iv w.dst, iv (w.via.length + 1)]) := by
  have hw1 := hw.1
  intro Q h
  refine ACalls.of_code fn_waymarkref15_Goal ?_
  simp -implicitDefEqProofs only [sc_waymarkref15_Goal, Want.av, sl, go_sem, Nat.reduceEqDiff, Nat.reduceAdd, Nat.reduceMul, Nat.reduceLeDiff, Nat.reduceSub, Nat.reduceLT, Nat.reduceBEq, Int.reduceToNat, reduceCtorEq, ↓reduceIte, Int.reduceEq, Int.reduceNeg, Int.reduceLT, Int.reduceLE, Int.reduceAdd, Int.reduceSub, Int.reduceMul]
  repeat' (first | simp -implicitDefEqProofs only [go_sem, Nat.reduceEqDiff, Nat.reduceAdd, Nat.reduceMul, Nat.reduceLeDiff, Nat.reduceSub, Nat.reduceLT, Nat.reduceBEq, Int.reduceToNat, reduceCtorEq, ↓reduceIte, Int.reduceEq, Int.reduceNeg, Int.reduceLT, Int.reduceLE, Int.reduceAdd, Int.reduceSub, Int.reduceMul] | simp -implicitDefEqProofs (disch := omega) only [iaq_vec, iao_arr, iaq_raw, rd_map, wrap_id, binq_quo, binq_rem, binq_shl, binq_shr, tdiv_pos, tmod_pos, if_pos, exV_some, Option.map_some] | ((first | with_reducible apply exIf_dec | ((with_reducible apply exGd_dec); focus exact rfl) | ((with_reducible apply exGq_dec); focus exact rfl) | with_reducible apply exIf_intro | ((with_reducible apply exGd_intro); focus exact rfl) | ((with_reducible apply exGq_intro); focus exact rfl)) <;> intro _))
  exact h
end Go.Proofs.Ytgahnhiidhkjaaa
end

section
/- The document's own Cost of a want. -/
namespace Go.Proofs.Ytgahnhiidhkjaaa
open Go Abs
attribute [local irreducible] EX exL exG exC exCq exS exV exIf exGd exGq
set_option maxHeartbeats 2000000

theorem leg_sym {g : Graph} {w : Want} (hw : WFit g w) (down : List Bool) {i : Int} (i0 : 0 ≤ i) (i1 : i ≤ w.via.length) : gi (distL g (pruned g w down) (gi (pts w) i)) (gi (pts w) (i + 1)) = leg g w down i :=
  dist_sym hw.fit _ (hw.point i0 (by omega)) (hw.point (by omega) (by omega))
theorem rcost_c (g : Graph) (w : Want) (nl : Bool) (down : List Bool) (hw : w.ok) (H : AHeap) : APure Try.prog 29 [g.av, w.av, blv nl down] H (.tup [iv (optCost g w down), iv (optErr g w down)]) := by
  intro Q h
  have rc := fun H => rightWant_c g w hw H
  have pc := fun H => rpoints_c w hw H
  have dc := fun H => pruned_ref_c g w nl down hw H (rightWant_c g w hw H)
  simp only [Graph.av, Want.av, blv, sl] at rc pc dc
  refine ACalls.of_code fn_waymarkref15_Cost ?_
  simp -implicitDefEqProofs only [sc_waymarkref15_Cost, Graph.av, Want.av, blv, sl, go_sem, Nat.reduceEqDiff, Nat.reduceAdd, Nat.reduceMul, Nat.reduceLeDiff, Nat.reduceSub, Nat.reduceLT, Nat.reduceBEq, Int.reduceToNat, reduceCtorEq, ↓reduceIte, Int.reduceEq, Int.reduceNeg, Int.reduceLT, Int.reduceLE, Int.reduceAdd, Int.reduceSub, Int.reduceMul]
  refine exC_pure (rc _) ?_
  by_cases hr : rightErr g w = 0
  · have wf := wfit_of hr
    have hf := wf.fit
    have f1 := hf.n1
    have f2 := hf.n2
    have f3 := hf.few
    have f4 := wf.few
    have pl := pts_length w
    obtain ⟨gone, hgone⟩ : ∃ gone, gone = pruned g w down := ⟨_, rfl⟩
    have gl : gone.length = g.links.length := by rw [hgone]; simp [pruned]
    have tc := fun n H => from_ref_c g false gone n H
    have tov : ∀ n : Int, 0 ≤ n → n < g.nodes → fromAV g gone n = dv (distL g gone n) := fun n n0 n1 => by rw [fromAV, if_pos ⟨hf.ok, n0, n1⟩]; rfl
    simp only [Graph.av, blv, gl] at tc
    have hdc : prunedAV g w down = .vec false (gone.map bv) g.links.length := by rw [prunedAV, if_pos hr, hgone]
    obtain ⟨m, hm⟩ : ∃ m, m = w.via.length + 1 := ⟨_, rfl⟩
    rw [hr]
    repeat' (first | simp -implicitDefEqProofs only [go_sem, Nat.reduceEqDiff, Nat.reduceAdd, Nat.reduceMul, Nat.reduceLeDiff, Nat.reduceSub, Nat.reduceLT, Nat.reduceBEq, Int.reduceToNat, reduceCtorEq, ↓reduceIte, Int.reduceEq, Int.reduceNeg, Int.reduceLT, Int.reduceLE, Int.reduceAdd, Int.reduceSub, Int.reduceMul] | simp -implicitDefEqProofs (disch := omega) only [iaq_vec, iao_arr, iaq_raw, rd_map, wrap_id, binq_quo, binq_rem, binq_shl, binq_shr, tdiv_pos, tmod_pos, if_pos, exV_some, Option.map_some] | ((first | with_reducible apply exIf_dec | ((with_reducible apply exGd_dec); focus exact rfl) | ((with_reducible apply exGq_dec); focus exact rfl) | with_reducible apply exIf_intro | ((with_reducible apply exGd_intro); focus exact rfl) | ((with_reducible apply exGq_intro); focus exact rfl)) <;> intro _) | with_reducible refine exC_pure (pc _) ?_ | with_reducible refine exCq_pure (pc _) ?_ | with_reducible refine exC_pure (dc _) ?_ | with_reducible refine exCq_pure (dc _) ?_)
    rw [hdc]
    repeat' (first | simp -implicitDefEqProofs only [go_sem, Nat.reduceEqDiff, Nat.reduceAdd, Nat.reduceMul, Nat.reduceLeDiff, Nat.reduceSub, Nat.reduceLT, Nat.reduceBEq, Int.reduceToNat, reduceCtorEq, ↓reduceIte, Int.reduceEq, Int.reduceNeg, Int.reduceLT, Int.reduceLE, Int.reduceAdd, Int.reduceSub, Int.reduceMul] | simp -implicitDefEqProofs (disch := omega) only [iaq_vec, iao_arr, iaq_raw, rd_map, wrap_id, binq_quo, binq_rem, binq_shl, binq_shr, tdiv_pos, tmod_pos, if_pos, exV_some, Option.map_some] | ((first | with_reducible apply exIf_dec | ((with_reducible apply exGd_dec); focus exact rfl) | ((with_reducible apply exGq_dec); focus exact rfl) | with_reducible apply exIf_intro | ((with_reducible apply exGd_intro); focus exact rfl) | ((with_reducible apply exGq_intro); focus exact rfl)) <;> intro _))
    refine exL_mod (fun a : Int × Int => [(11, .v (iv a.2)), (12, .v (iv a.1))]) (fun _ => []) (fun a => 0 ≤ a.1 ∧ a.1 ≤ m ∧ noLeg g w down a.1.toNat = false ∧ a.2 = legs g w down a.1.toNat) (fun a => (m - a.1).toNat) (0, 0) rfl ⟨by simp, by simp, rfl, rfl⟩ ?_
    rintro ⟨i, sum⟩ ⟨i0, i1, hnl, hsum⟩ ih
    dsimp only at i0 i1 hnl hsum ih
    simp only [S.up, S.upH, ups, Abs.put, Nat.reduceEqDiff, ↓reduceIte, Nat.reduceAdd] at ih
    simp -implicitDefEqProofs only [congrArg KI.code sc_waymarkref15_Cost_L0.eq_1, go_sem, Nat.reduceEqDiff, Nat.reduceAdd, Nat.reduceMul, Nat.reduceLeDiff, Nat.reduceSub, Nat.reduceLT, Nat.reduceBEq, Int.reduceToNat, reduceCtorEq, ↓reduceIte, Int.reduceEq, Int.reduceNeg, Int.reduceLT, Int.reduceLE, Int.reduceAdd, Int.reduceSub, Int.reduceMul]
    by_cases hi : i < m
    · obtain ⟨p0, p1⟩ := wf.point (i := i + 1) (by omega) (by omega)
      obtain ⟨a0, a1⟩ := wf.point (i := i) (by omega) (by omega)
      have tci := tc (gi (pts w) i) H
      rw [tov _ a0 a1] at tci
      have hd := (distL_spec hf gone (s := gi (pts w) i) (by omega)).1
      have hdl := hd.len
      have hlg := leg_sym wf down (i := i) i0 (by omega)
      rw [← hgone] at hlg
      have lb1 := legs_bound wf down i.toNat (by omega) hnl
      have lb2 := leg_bound wf down i0 (by omega)
      repeat' (first | simp -implicitDefEqProofs only [go_sem, Nat.reduceEqDiff, Nat.reduceAdd, Nat.reduceMul, Nat.reduceLeDiff, Nat.reduceSub, Nat.reduceLT, Nat.reduceBEq, Int.reduceToNat, reduceCtorEq, ↓reduceIte, Int.reduceEq, Int.reduceNeg, Int.reduceLT, Int.reduceLE, Int.reduceAdd, Int.reduceSub, Int.reduceMul] | simp -implicitDefEqProofs (disch := omega) only [dv, rd_map, hlg, iaq_vec, iao_arr, iaq_raw, rd_map, wrap_id, binq_quo, binq_rem, binq_shl, binq_shr, tdiv_pos, tmod_pos, if_pos, exV_some, Option.map_some] | ((first | with_reducible apply exIf_dec | ((with_reducible apply exGd_dec); focus exact rfl) | ((with_reducible apply exGq_dec); focus exact rfl) | with_reducible apply exIf_intro | ((with_reducible apply exGd_intro); focus exact rfl) | ((with_reducible apply exGq_intro); focus exact rfl)) <;> intro _) | with_reducible refine exC_pure (tci) ?_ | with_reducible refine exCq_pure (tci) ?_)
      all_goals first | (exfalso; omega) | skip
      · have e : optErr g w down = 8 := by
          rw [optErr, if_neg (by simpa using hr), if_pos]
          refine noLeg_mono (n := (i + 1).toNat) (by omega) ?_
          rw [show (i + 1).toNat = i.toNat + 1 by omega, noLeg_succ, Int.toNat_of_nonneg i0, decide_eq_true (by omega), Bool.or_true]
        rw [optCost, if_neg (by omega), e] at h
        exact h
      · refine ih (i + 1, sum + leg g w down i) ⟨by dsimp only; omega, by dsimp only; omega, ?_, ?_⟩ (by dsimp only; omega)
        · dsimp only
          rw [show (i + 1).toNat = i.toNat + 1 by omega, noLeg_succ, hnl, Int.toNat_of_nonneg i0, decide_eq_false (by omega)]; rfl
        · dsimp only
          rw [show (i + 1).toNat = i.toNat + 1 by omega, legs, Int.toNat_of_nonneg i0, hsum]
    · obtain rfl : i = m := by omega
      rw [Int.toNat_natCast] at hnl hsum
      subst hsum
      have lb1 := legs_bound wf down m (by omega) hnl
      have e0 : optErr g w down = if 0 < w.bound ∧ w.bound < legs g w down m then 8 else 0 := by
        rw [optErr, if_neg (by simpa using hr), if_neg (by rw [← hm, hnl]; simp), hm]
      clear ih
      repeat' (first | simp -implicitDefEqProofs only [go_sem, Nat.reduceEqDiff, Nat.reduceAdd, Nat.reduceMul, Nat.reduceLeDiff, Nat.reduceSub, Nat.reduceLT, Nat.reduceBEq, Int.reduceToNat, reduceCtorEq, ↓reduceIte, Int.reduceEq, Int.reduceNeg, Int.reduceLT, Int.reduceLE, Int.reduceAdd, Int.reduceSub, Int.reduceMul] | simp -implicitDefEqProofs (disch := omega) only [iaq_vec, iao_arr, iaq_raw, rd_map, wrap_id, binq_quo, binq_rem, binq_shl, binq_shr, tdiv_pos, tmod_pos, if_pos, exV_some, Option.map_some] | ((first | with_reducible apply exIf_dec | ((with_reducible apply exGd_dec); focus exact rfl) | ((with_reducible apply exGq_dec); focus exact rfl) | with_reducible apply exIf_intro | ((with_reducible apply exGd_intro); focus exact rfl) | ((with_reducible apply exGq_intro); focus exact rfl)) <;> intro _))
      all_goals first | (exfalso; omega) | skip
      · rw [if_pos ⟨by assumption, by assumption⟩] at e0
        rw [optCost, if_neg (by omega), e0] at h
        exact h
      · rw [if_neg (by omega)] at e0
        rw [optCost, if_pos e0, e0, ← hm] at h
        exact h
      · rw [if_neg (by omega)] at e0
        rw [optCost, if_pos e0, e0, ← hm] at h
        exact h
  · repeat' (first | simp -implicitDefEqProofs only [go_sem, Nat.reduceEqDiff, Nat.reduceAdd, Nat.reduceMul, Nat.reduceLeDiff, Nat.reduceSub, Nat.reduceLT, Nat.reduceBEq, Int.reduceToNat, reduceCtorEq, ↓reduceIte, Int.reduceEq, Int.reduceNeg, Int.reduceLT, Int.reduceLE, Int.reduceAdd, Int.reduceSub, Int.reduceMul] | simp -implicitDefEqProofs (disch := omega) only [iaq_vec, iao_arr, iaq_raw, rd_map, wrap_id, binq_quo, binq_rem, binq_shl, binq_shr, tdiv_pos, tmod_pos, if_pos, exV_some, Option.map_some] | ((first | with_reducible apply exIf_dec | ((with_reducible apply exGd_dec); focus exact rfl) | ((with_reducible apply exGq_dec); focus exact rfl) | with_reducible apply exIf_intro | ((with_reducible apply exGd_intro); focus exact rfl) | ((with_reducible apply exGq_intro); focus exact rfl)) <;> intro _))
    all_goals first | contradiction | skip
    have e : optErr g w down = rightErr g w := by rw [optErr, if_pos hr]
    rw [optCost, if_neg (by rw [e]; exact hr), e] at h
    exact h
end Go.Proofs.Ytgahnhiidhkjaaa
end

section
/- The document's own answers of chapter 15: what is kept of a want, and the state behind an edge. -/
namespace Go.Proofs.Ytgahnhiidhkjaaa
open Go Abs
attribute [local irreducible] EX exL exG exC exCq exS exV exIf exGd exGq
set_option maxHeartbeats 2000000

noncomputable def farsR (g : Graph) (w : Want) (down : List Bool) (n : Nat) : List AV := (List.range n).map fun (k : Nat) => dv (farOf g w down k)
noncomputable def optCells (g : Graph) (w : Want) (down : List Bool) : List AV :=
  [iv g.nodes, .vec g.nl (rows g.links) g.links.length, sl false (pts w), .vec false ((pruned g w down).map bv) g.links.length, .vec false (farsR g w down (w.via.length + 2)) (w.via.length + 2)]
noncomputable def optAV (g : Graph) (w : Want) (down : List Bool) : AV := if optErr g w down = 0 then .box (optCells g w down) 0 else .raw (.pointer none)
theorem farsR_length (g : Graph) (w : Want) (down : List Bool) (n : Nat) : (farsR g w down n).length = n := by simp [farsR]
theorem farsR_succ (g : Graph) (w : Want) (down : List Bool) {i : Int} (i0 : 0 ≤ i) : farsR g w down (i + 1).toNat = farsR g w down i.toNat ++ [dv (farOf g w down i)] := by
  simp only [farsR]
  rw [range_succ_map i0]
  simp only [Int.toNat_of_nonneg i0]
theorem newOpt_c (g : Graph) (w : Want) (nl : Bool) (down : List Bool) (hw : w.ok) (H : AHeap) : APure Try.prog 56 [g.av, w.av, blv nl down] H (.tup [optAV g w down, bv (decide (optErr g w down = 0))]) := by
  intro Q h
  have cc := fun H => rcost_c g w nl down hw H
  have pc := fun H => rpoints_c w hw H
  have dc := fun H => pruned_ref_c g w nl down hw H (rightWant_c g w hw H)
  simp only [Graph.av, Want.av, blv, sl] at cc pc dc
  by_cases he : optErr g w down = 0
  · have hr := optErr_right he
    have wf := wfit_of hr
    have hf := wf.fit
    have f1 := hf.n1
    have f2 := hf.n2
    have f3 := hf.few
    have f4 := wf.few
    have pl := pts_length w
    obtain ⟨gone, hgone⟩ : ∃ gone, gone = pruned g w down := ⟨_, rfl⟩
    have gl : gone.length = g.links.length := by rw [hgone]; simp [pruned]
    have tc := fun n H => from_ref_c g false gone n H
    have tov : ∀ n : Int, 0 ≤ n → n < g.nodes → fromAV g gone n = dv (distL g gone n) := fun n n0 n1 => by rw [fromAV, if_pos ⟨hf.ok, n0, n1⟩]; rfl
    simp only [Graph.av, blv, gl] at tc
    have hdc : prunedAV g w down = .vec false (gone.map bv) g.links.length := by rw [prunedAV, if_pos hr, hgone]
    obtain ⟨m, hm⟩ : ∃ m, m = w.via.length + 2 := ⟨_, rfl⟩
    refine ACalls.relax (ACalls.mono (Q := fun r H1 =>
      (∀ b o, H b = some o → H1 b = some o) ∧ ∃ bt tt sv ob, r = .tup [.raw (.pointer (some ⟨bt, 0, none⟩)), bv true] ∧ H bt = none ∧ H1 bt = some (.cells [iv g.nodes, .vec g.nl (rows g.links) g.links.length, sl false (pts w), .vec false (gone.map bv) g.links.length, sv] tt) ∧ RowAt H H1 bt 32 sv (farsR g w down m) ob) ?_ ?_)
    · refine ACalls.of_code fn_waymarkref15_NewOpt ?_
      simp -implicitDefEqProofs only [sc_waymarkref15_NewOpt, Graph.av, Want.av, blv, sl, go_sem, Nat.reduceEqDiff, Nat.reduceAdd, Nat.reduceMul, Nat.reduceLeDiff, Nat.reduceSub, Nat.reduceLT, Nat.reduceBEq, Int.reduceToNat, reduceCtorEq, ↓reduceIte, Int.reduceEq, Int.reduceNeg, Int.reduceLT, Int.reduceLE, Int.reduceAdd, Int.reduceSub, Int.reduceMul]
      refine exC_pure (cc _) ?_
      rw [he]
      repeat' (first | simp -implicitDefEqProofs only [go_sem, Nat.reduceEqDiff, Nat.reduceAdd, Nat.reduceMul, Nat.reduceLeDiff, Nat.reduceSub, Nat.reduceLT, Nat.reduceBEq, Int.reduceToNat, reduceCtorEq, ↓reduceIte, Int.reduceEq, Int.reduceNeg, Int.reduceLT, Int.reduceLE, Int.reduceAdd, Int.reduceSub, Int.reduceMul] | simp -implicitDefEqProofs (disch := omega) only [iaq_vec, iao_arr, iaq_raw, rd_map, wrap_id, binq_quo, binq_rem, binq_shl, binq_shr, tdiv_pos, tmod_pos, if_pos, exV_some, Option.map_some] | ((first | with_reducible apply exIf_dec | ((with_reducible apply exGd_dec); focus exact rfl) | ((with_reducible apply exGq_dec); focus exact rfl) | with_reducible apply exIf_intro | ((with_reducible apply exGd_intro); focus exact rfl) | ((with_reducible apply exGq_intro); focus exact rfl)) <;> intro _) | with_reducible refine exC_pure (pc _) ?_ | with_reducible refine exCq_pure (pc _) ?_ | with_reducible refine exC_pure (dc _) ?_ | with_reducible refine exCq_pure (dc _) ?_)
      rw [hdc]
      repeat' (first | simp -implicitDefEqProofs only [go_sem, Nat.reduceEqDiff, Nat.reduceAdd, Nat.reduceMul, Nat.reduceLeDiff, Nat.reduceSub, Nat.reduceLT, Nat.reduceBEq, Int.reduceToNat, reduceCtorEq, ↓reduceIte, Int.reduceEq, Int.reduceNeg, Int.reduceLT, Int.reduceLE, Int.reduceAdd, Int.reduceSub, Int.reduceMul] | simp -implicitDefEqProofs (disch := omega) only [iaq_vec, iao_arr, iaq_raw, rd_map, wrap_id, binq_quo, binq_rem, binq_shl, binq_shr, tdiv_pos, tmod_pos, if_pos, exV_some, Option.map_some] | ((first | with_reducible apply exIf_dec | ((with_reducible apply exGd_dec); focus exact rfl) | ((with_reducible apply exGq_dec); focus exact rfl) | with_reducible apply exIf_intro | ((with_reducible apply exGd_intro); focus exact rfl) | ((with_reducible apply exGq_intro); focus exact rfl)) <;> intro _))
      intro bt hbt
      have first : RowAt H (upd H bt (some (.cells [iv g.nodes, .vec g.nl (rows g.links) g.links.length, .vec false ((pts w).map iv) (pts w).length, .vec false (gone.map bv) g.links.length, .vec true [] 0] 107))) bt 32 (.vec true [] 0) (farsR g w down 0) none := .inl ⟨rfl, rfl, rfl⟩
      refine exL_modH (fun a : Int × AHeap => [(11, .v (iv a.1))]) (fun _ => []) (fun a => a.2)
        (fun a => 0 ≤ a.1 ∧ a.1 ≤ m ∧ (∀ b o, H b = some o → a.2 b = some o) ∧ ∃ sv ob, a.2 bt = some (.cells [iv g.nodes, .vec g.nl (rows g.links) g.links.length, .vec false ((pts w).map iv) (pts w).length, .vec false (gone.map bv) g.links.length, sv] 107) ∧ RowAt H a.2 bt 32 sv (farsR g w down a.1.toNat) ob)
        (fun a => (m - a.1).toNat) (0, _) rfl ⟨by simp, by simp, upd_base hbt, _, none, upd_self _ _ _, first⟩ ?_
      rintro ⟨i, H'⟩ ⟨i0, i1, hbase, sv, ob, hat, hrow⟩ ih
      dsimp only at i0 i1 hbase hat hrow ih
      simp only [S.up, S.upH, ups, Abs.put, Nat.reduceEqDiff, ↓reduceIte, Nat.reduceAdd] at ih
      simp -implicitDefEqProofs only [congrArg KI.code sc_waymarkref15_NewOpt_L0.eq_1, go_sem, Nat.reduceEqDiff, Nat.reduceAdd, Nat.reduceMul, Nat.reduceLeDiff, Nat.reduceSub, Nat.reduceLT, Nat.reduceBEq, Int.reduceToNat, reduceCtorEq, ↓reduceIte, Int.reduceEq, Int.reduceNeg, Int.reduceLT, Int.reduceLE, Int.reduceAdd, Int.reduceSub, Int.reduceMul]
      by_cases hi : i < m
      · obtain ⟨a0, a1⟩ := wf.point (i := i) (by omega) (by omega)
        have tci := tc (gi (pts w) i) H'
        rw [tov _ a0 a1] at tci
        have hfar : farOf g w down i = distL g gone (gi (pts w) i) := by rw [farOf, hgone]
        have hlR := farsR_length g w down i.toNat
        repeat' (first | simp -implicitDefEqProofs only [go_sem, Nat.reduceEqDiff, Nat.reduceAdd, Nat.reduceMul, Nat.reduceLeDiff, Nat.reduceSub, Nat.reduceLT, Nat.reduceBEq, Int.reduceToNat, reduceCtorEq, ↓reduceIte, Int.reduceEq, Int.reduceNeg, Int.reduceLT, Int.reduceLE, Int.reduceAdd, Int.reduceSub, Int.reduceMul] | simp -implicitDefEqProofs (disch := omega) only [hat, dv, rd_map, iaq_vec, iao_arr, iaq_raw, rd_map, wrap_id, binq_quo, binq_rem, binq_shl, binq_shr, tdiv_pos, tmod_pos, if_pos, exV_some, Option.map_some] | ((first | with_reducible apply exIf_dec | ((with_reducible apply exGd_dec); focus exact rfl) | ((with_reducible apply exGq_dec); focus exact rfl) | with_reducible apply exIf_intro | ((with_reducible apply exGd_intro); focus exact rfl) | ((with_reducible apply exGq_intro); focus exact rfl)) <;> intro _) | with_reducible refine exC_pure (tci) ?_ | with_reducible refine exCq_pure (tci) ?_)
        all_goals first | (exfalso; omega) | skip
        obtain ⟨cap2, hp2⟩ := hrow.pre
        rw [hp2]
        have hl2 : (farsR g w down i.toNat).length + 1 ≤ maxLen := by rw [hlR]; simp only [maxLen]; omega
        have hl2' : ((farsR g w down i.toNat).length + 1) * 24 ≤ 140737488355328 := by rw [hlR]; omega
        refine hapK_pos rfl hl2' hl2 (by omega) ?_
        intro b2 cap hb2 hcap
        simp only [S.newhd]
        have hbtn : H' bt ≠ none := by rw [hat]; simp
        obtain ⟨H1, hH1⟩ : ∃ H1, H1 = upd (delH H' ob) b2 (some (.row (farsR g w down i.toNat ++ [dv (distL g gone (gi (pts w) i))]) cap 32 1)) := ⟨_, rfl⟩
        obtain ⟨r2, base1, keep1⟩ := row_step hrow hbase hbtn hb2 hcap (dv (distL g gone (gi (pts w) i))) hH1
        obtain ⟨h1bt, nebt⟩ := keep1 bt _ hat (fun hh => (hrow.some_of hh).1 rfl)
        rw [show upd (delH H' ob) b2 (some (.row (farsR g w down i.toNat ++ [.vec false ((distL g gone (gi (pts w) i)).map iv) (distL g gone (gi (pts w) i)).length]) cap 32 1)) = H1 from hH1.symm]
        clear hH1 keep1 hb2 hp2
        repeat' (first | simp -implicitDefEqProofs only [go_sem, Nat.reduceEqDiff, Nat.reduceAdd, Nat.reduceMul, Nat.reduceLeDiff, Nat.reduceSub, Nat.reduceLT, Nat.reduceBEq, Int.reduceToNat, reduceCtorEq, ↓reduceIte, Int.reduceEq, Int.reduceNeg, Int.reduceLT, Int.reduceLE, Int.reduceAdd, Int.reduceSub, Int.reduceMul] | simp -implicitDefEqProofs (disch := omega) only [h1bt, hlR, upd_self, iaq_vec, iao_arr, iaq_raw, rd_map, wrap_id, binq_quo, binq_rem, binq_shl, binq_shr, tdiv_pos, tmod_pos, if_pos, exV_some, Option.map_some] | ((first | with_reducible apply exIf_dec | ((with_reducible apply exGd_dec); focus exact rfl) | ((with_reducible apply exGq_dec); focus exact rfl) | with_reducible apply exIf_intro | ((with_reducible apply exGd_intro); focus exact rfl) | ((with_reducible apply exGq_intro); focus exact rfl)) <;> intro _))
        all_goals first | (exfalso; omega) | skip
        rw [hlR] at r2
        refine ih (i + 1, upd H1 bt (some (.cells [iv g.nodes, .vec g.nl (rows g.links) g.links.length, .vec false ((pts w).map iv) (pts w).length, .vec false (gone.map bv) g.links.length, .raw (.slice (some ⟨b2, 0, none⟩) (i.toNat + 1) cap)] 107))) ⟨by dsimp only; omega, by dsimp only; omega, ?_, .raw (.slice (some ⟨b2, 0, none⟩) (i.toNat + 1) cap), some b2, ?_, ?_⟩ (by dsimp only; omega)
        all_goals dsimp only
        · intro b o ho
          rw [upd_ne _ _ (by rintro rfl; rw [hbt] at ho; cases ho)]
          exact base1 b o ho
        · rw [upd_self]
        · rw [farsR_succ g w down i0, hfar]
          refine RowAt.keep (H' := H1) r2 fun b hb => ?_
          injection hb with hb
          subst hb
          exact upd_ne _ _ (Ne.symm (r2.some_of rfl).1)
      · obtain rfl : i = m := by omega
        rw [Int.toNat_natCast] at hrow
        clear ih
        repeat' (first | simp -implicitDefEqProofs only [go_sem, Nat.reduceEqDiff, Nat.reduceAdd, Nat.reduceMul, Nat.reduceLeDiff, Nat.reduceSub, Nat.reduceLT, Nat.reduceBEq, Int.reduceToNat, reduceCtorEq, ↓reduceIte, Int.reduceEq, Int.reduceNeg, Int.reduceLT, Int.reduceLE, Int.reduceAdd, Int.reduceSub, Int.reduceMul] | simp -implicitDefEqProofs (disch := omega) only [hat, iaq_vec, iao_arr, iaq_raw, rd_map, wrap_id, binq_quo, binq_rem, binq_shl, binq_shr, tdiv_pos, tmod_pos, if_pos, exV_some, Option.map_some] | ((first | with_reducible apply exIf_dec | ((with_reducible apply exGd_dec); focus exact rfl) | ((with_reducible apply exGq_dec); focus exact rfl) | with_reducible apply exIf_intro | ((with_reducible apply exGd_intro); focus exact rfl) | ((with_reducible apply exGq_intro); focus exact rfl)) <;> intro _))
        all_goals first | (exfalso; omega) | skip
        exact ⟨hbase, bt, _, sv, ob, rfl, hbt, hat, hrow⟩
    · rintro r H1 ⟨hbase, bt, tt, sv, ob, rfl, hbt, hat, hrow⟩
      have l2 := farsR_length g w down m
      have n2' : farsR g w down m ≠ [] := fun e => by rw [e] at l2; simp at l2; omega
      obtain ⟨b2, c2, rfl, rfl, e2, m2, k2, u2⟩ : ∃ b cap, ob = some b ∧ sv = .raw (.slice (some ⟨b, 0, none⟩) (farsR g w down m).length cap) ∧ H1 b = some (.row (farsR g w down m) cap 32 1) ∧ b ≠ bt ∧ H b = none ∧ (farsR g w down m).length ≤ cap := by
        rcases hrow with ⟨_, h2, _⟩ | h2
        · exact absurd h2 n2'
        · exact h2
      rw [optAV, if_pos he, decide_eq_true he] at h
      refine ⟨fun b => b = bt ∨ b = b2, H, .tup [.box (optCells g w down) 0, bv true], hbase, ?_, ?_, h⟩
      · rintro b (rfl | rfl)
        · exact ⟨by rw [hat]; simp, hbt⟩
        · exact ⟨by rw [e2]; simp, k2⟩
      · refine Fz.tup (.cons (Fz.ptr (.inl rfl) hat ?_) (FzL.refl _ _ _))
        rw [l2] at *
        rw [optCells, ← hm, ← hgone]
        refine .cons (Fz.refl _ _ _) (.cons (Fz.refl _ _ _) (.cons (Fz.refl _ _ _) (.cons (Fz.refl _ _ _) (.cons ?_ .nil))))
        exact Fz.slice (.inr rfl) e2 u2 (Nat.le_refl _) (fun j u hj => by rw [Nat.zero_add]; exact hj) (fun _ => n2') (FzL.refl _ _ _)
  · refine ACalls.of_code fn_waymarkref15_NewOpt ?_
    simp -implicitDefEqProofs only [sc_waymarkref15_NewOpt, Graph.av, Want.av, blv, sl, go_sem, Nat.reduceEqDiff, Nat.reduceAdd, Nat.reduceMul, Nat.reduceLeDiff, Nat.reduceSub, Nat.reduceLT, Nat.reduceBEq, Int.reduceToNat, reduceCtorEq, ↓reduceIte, Int.reduceEq, Int.reduceNeg, Int.reduceLT, Int.reduceLE, Int.reduceAdd, Int.reduceSub, Int.reduceMul]
    refine exC_pure (cc _) ?_
    rw [optAV, if_neg he, decide_eq_false he] at h
    repeat' (first | simp -implicitDefEqProofs only [go_sem, Nat.reduceEqDiff, Nat.reduceAdd, Nat.reduceMul, Nat.reduceLeDiff, Nat.reduceSub, Nat.reduceLT, Nat.reduceBEq, Int.reduceToNat, reduceCtorEq, ↓reduceIte, Int.reduceEq, Int.reduceNeg, Int.reduceLT, Int.reduceLE, Int.reduceAdd, Int.reduceSub, Int.reduceMul] | simp -implicitDefEqProofs (disch := omega) only [iaq_vec, iao_arr, iaq_raw, rd_map, wrap_id, binq_quo, binq_rem, binq_shl, binq_shr, tdiv_pos, tmod_pos, if_pos, exV_some, Option.map_some] | ((first | with_reducible apply exIf_dec | ((with_reducible apply exGd_dec); focus exact rfl) | ((with_reducible apply exGq_dec); focus exact rfl) | with_reducible apply exIf_intro | ((with_reducible apply exGd_intro); focus exact rfl) | ((with_reducible apply exGq_intro); focus exact rfl)) <;> intro _))
    all_goals first | contradiction | exact h
end Go.Proofs.Ytgahnhiidhkjaaa
end

section
/- The state behind an edge, as the document has it; walks of edges, both. -/
namespace Go.Proofs.Ytgahnhiidhkjaaa
open Go Abs
attribute [local irreducible] EX exL exG exC exCq exS exV exIf exGd exGq
set_option maxHeartbeats 2000000

theorem rd_fars {g : Graph} {w : Want} {down : List Bool} {m : Nat} {n : Int} (h0 : 0 ≤ n) (h1 : n < m) : rdV (farsR g w down m) (n.toNat * 1) 1 false = some (.vec false ((farOf g w down n).map iv) (farOf g w down n).length) := by
  rw [farsR, rd_range h0 h1, Int.toNat_of_nonneg h0]; rfl
theorem step_mem {g : Graph} {w : Want} {down : List Bool} {node n e : Int} (h0 : optErr g w down = 0) (hn : 0 ≤ n ∧ n < w.via.length + 1) (hok : (ends g e).2.2 = true) (hnode : (ends g e).1 = node) :
    e ∈ nextL g (pruned g w down) (farOf g w down (n + 1)) node ↔ stepOk g w down node n e := by
  have wf := wfit_of (optErr_right h0)
  have hf := wf.fit
  obtain ⟨e0, e1⟩ := ends_ok hok
  have hb := hf.b e e0 e1
  have hw := hf.w e e0 e1
  have hp := wf.point (i := n + 1) (by omega) (by omega)
  have hd := (distL_spec hf (pruned g w down) hp).1
  have hz := hd.zero hf hp
  unfold nextL stepOk
  constructor
  · intro h
    split at h
    · rename_i hno
      rw [List.mem_filter] at h
      obtain ⟨_, h2⟩ := h
      simp only [onB, Bool.and_eq_true, decide_eq_true_eq] at h2
      refine ⟨h0, hn, by omega, fun he => ?_, hok, hnode, h2.1, h2.2.1, by omega⟩
      have := hno.2.2.2
      rw [farOf, ← he, hz] at this
      omega
    · simp at h
  · rintro ⟨_, _, hnd, _, _, _, hu, h1, h2⟩
    rw [if_pos ⟨hf.ok, hd.len, hnd, by omega⟩, List.mem_filter]
    refine ⟨(out_mem g e node).2 ⟨e0, e1, hnode⟩, ?_⟩
    simp only [onB, Bool.and_eq_true, decide_eq_true_eq]
    exact ⟨hu, h1, by omega⟩
theorem rostep_c (g : Graph) (w : Want) (down : List Bool) (h0 : optErr g w down = 0) (node n e : Int) (he : -9223372036854775808 ≤ e ∧ e ≤ 9223372036854775807) (H : AHeap) :
    APure Try.prog 57 [.box (optCells g w down) 0, .agg [iv node, iv n], iv e] H (stepAV (stepW g w down (node, n) e)) := by
  intro Q h
  refine ACalls.of_code fn_waymarkref15_Opt_Step ?_
  have wf := wfit_of (optErr_right h0)
  have hf := wf.fit
  have f1 := hf.n1
  have f2 := hf.n2
  have f3 := hf.few
  have f4 := wf.few
  have pl := pts_length w
  have hno : ¬ stepOk g w down node n e → Q (.tup [.agg [iv 0, iv 0], bv false]) H := fun hn => by rw [stepW, if_neg hn] at h; exact h
  have hyes : stepOk g w down node n e → Q (.tup [.agg [iv (ends g e).2.1, iv (come (pts w) (ends g e).2.1 n)], bv true]) H := fun hn => by rw [stepW, if_pos hn] at h; exact h
  clear h
  rw [optCells]
  have ec := ends_ref_c g e he
  simp only [Graph.av, triIIB] at ec
  simp -implicitDefEqProofs only [sc_waymarkref15_Opt_Step, sl, go_sem, Nat.reduceEqDiff, Nat.reduceAdd, Nat.reduceMul, Nat.reduceLeDiff, Nat.reduceSub, Nat.reduceLT, Nat.reduceBEq, Int.reduceToNat, reduceCtorEq, ↓reduceIte, Int.reduceEq, Int.reduceNeg, Int.reduceLT, Int.reduceLE, Int.reduceAdd, Int.reduceSub, Int.reduceMul]
  refine exC_pure (ec _) ?_
  cases hok : (ends g e).2.2 with
  | false =>
    repeat' (first | simp -implicitDefEqProofs only [go_sem, Nat.reduceEqDiff, Nat.reduceAdd, Nat.reduceMul, Nat.reduceLeDiff, Nat.reduceSub, Nat.reduceLT, Nat.reduceBEq, Int.reduceToNat, reduceCtorEq, ↓reduceIte, Int.reduceEq, Int.reduceNeg, Int.reduceLT, Int.reduceLE, Int.reduceAdd, Int.reduceSub, Int.reduceMul] | simp -implicitDefEqProofs (disch := omega) only [iaq_vec, iao_arr, iaq_raw, rd_map, wrap_id, binq_quo, binq_rem, binq_shl, binq_shr, tdiv_pos, tmod_pos, if_pos, exV_some, Option.map_some] | ((first | with_reducible apply exIf_dec | ((with_reducible apply exGd_dec); focus exact rfl) | ((with_reducible apply exGq_dec); focus exact rfl) | with_reducible apply exIf_intro | ((with_reducible apply exGd_intro); focus exact rfl) | ((with_reducible apply exGq_intro); focus exact rfl)) <;> intro _))
    all_goals first | (exact hno fun hs => by have h5 := hs.2.2.2.2.1; rw [hok] at h5; cases h5) | (exfalso; omega)
  | true =>
    obtain ⟨e0, e1⟩ := ends_ok hok
    have hb := hf.b e e0 e1
    by_cases hnd : (ends g e).1 = node
    case neg =>
      repeat' (first | simp -implicitDefEqProofs only [go_sem, Nat.reduceEqDiff, Nat.reduceAdd, Nat.reduceMul, Nat.reduceLeDiff, Nat.reduceSub, Nat.reduceLT, Nat.reduceBEq, Int.reduceToNat, reduceCtorEq, ↓reduceIte, Int.reduceEq, Int.reduceNeg, Int.reduceLT, Int.reduceLE, Int.reduceAdd, Int.reduceSub, Int.reduceMul] | simp -implicitDefEqProofs (disch := omega) only [iaq_vec, iao_arr, iaq_raw, rd_map, wrap_id, binq_quo, binq_rem, binq_shl, binq_shr, tdiv_pos, tmod_pos, if_pos, exV_some, Option.map_some] | ((first | with_reducible apply exIf_dec | ((with_reducible apply exGd_dec); focus exact rfl) | ((with_reducible apply exGq_dec); focus exact rfl) | with_reducible apply exIf_intro | ((with_reducible apply exGd_intro); focus exact rfl) | ((with_reducible apply exGq_intro); focus exact rfl)) <;> intro _))
      all_goals first | (exact hno fun hs => hnd hs.2.2.2.2.2.1) | (exfalso; omega)
    by_cases hn : 0 ≤ n ∧ n < w.via.length + 1
    case neg =>
      repeat' (first | simp -implicitDefEqProofs only [go_sem, Nat.reduceEqDiff, Nat.reduceAdd, Nat.reduceMul, Nat.reduceLeDiff, Nat.reduceSub, Nat.reduceLT, Nat.reduceBEq, Int.reduceToNat, reduceCtorEq, ↓reduceIte, Int.reduceEq, Int.reduceNeg, Int.reduceLT, Int.reduceLE, Int.reduceAdd, Int.reduceSub, Int.reduceMul] | simp -implicitDefEqProofs (disch := omega) only [iaq_vec, iao_arr, iaq_raw, rd_map, wrap_id, binq_quo, binq_rem, binq_shl, binq_shr, tdiv_pos, tmod_pos, if_pos, exV_some, Option.map_some] | ((first | with_reducible apply exIf_dec | ((with_reducible apply exGd_dec); focus exact rfl) | ((with_reducible apply exGq_dec); focus exact rfl) | with_reducible apply exIf_intro | ((with_reducible apply exGd_intro); focus exact rfl) | ((with_reducible apply exGq_intro); focus exact rfl)) <;> intro _))
      all_goals first | (exact hno fun hs => hn hs.2.1) | (exfalso; omega)
    have hd := (distL_spec hf (pruned g w down) (wf.point (i := n + 1) (by omega) (by omega))).1
    have hfi : I64s (farOf g w down (n + 1)) := by
      have := fromL_i64 g (pruned g w down) (gi (pts w) (n + 1))
      rwa [fromL, if_pos ⟨hf.ok, wf.point (by omega) (by omega)⟩] at this
    have nc := next_ref_c g false (pruned g w down) false (farOf g w down (n + 1)) hfi (ends g e).1 H
    have hpl : (pruned g w down).length = g.links.length := by simp [pruned]
    have cm := rcome_c false (pts w) (by omega) (ends g e).2.1 n hn.1 (by omega) H
    have hmem := step_mem h0 hn hok hnd
    have hnl := nextL_length g (pruned g w down) (farOf g w down (n + 1)) node
    simp only [blv, hpl, Graph.av, ints] at nc
    simp only [sl] at cm
    rw [hnd] at nc
    rw [hnd]
    repeat' (first | simp -implicitDefEqProofs only [go_sem, Nat.reduceEqDiff, Nat.reduceAdd, Nat.reduceMul, Nat.reduceLeDiff, Nat.reduceSub, Nat.reduceLT, Nat.reduceBEq, Int.reduceToNat, reduceCtorEq, ↓reduceIte, Int.reduceEq, Int.reduceNeg, Int.reduceLT, Int.reduceLE, Int.reduceAdd, Int.reduceSub, Int.reduceMul] | simp -implicitDefEqProofs (disch := omega) only [rd_fars, iaq_vec, iao_arr, iaq_raw, rd_map, wrap_id, binq_quo, binq_rem, binq_shl, binq_shr, tdiv_pos, tmod_pos, if_pos, exV_some, Option.map_some] | ((first | with_reducible apply exIf_dec | ((with_reducible apply exGd_dec); focus exact rfl) | ((with_reducible apply exGq_dec); focus exact rfl) | with_reducible apply exIf_intro | ((with_reducible apply exGd_intro); focus exact rfl) | ((with_reducible apply exGq_intro); focus exact rfl)) <;> intro _) | with_reducible refine exC_pure (nc) ?_ | with_reducible refine exCq_pure (nc) ?_)
    all_goals first | (exfalso; omega) | skip
    generalize nextL g (pruned g w down) (farOf g w down (n + 1)) node = l at hmem hnl nc ⊢
    refine exL_mod (fun k : Int => [(12, .v (iv k))]) (fun _ => []) (fun k => 0 ≤ k ∧ k ≤ l.length ∧ (e ∈ l ↔ e ∈ l.drop k.toNat)) (fun k => (l.length - k).toNat) 0 rfl ⟨by omega, by omega, by simp⟩ ?_
    rintro k ⟨k0, k1, hk⟩ ih
    simp only [S.up, S.upH, ups, Abs.put, Nat.reduceEqDiff, ↓reduceIte, Nat.reduceAdd] at ih
    simp -implicitDefEqProofs only [congrArg KI.code sc_waymarkref15_Opt_Step_L0.eq_1, go_sem, Nat.reduceEqDiff, Nat.reduceAdd, Nat.reduceMul, Nat.reduceLeDiff, Nat.reduceSub, Nat.reduceLT, Nat.reduceBEq, Int.reduceToNat, reduceCtorEq, ↓reduceIte, Int.reduceEq, Int.reduceNeg, Int.reduceLT, Int.reduceLE, Int.reduceAdd, Int.reduceSub, Int.reduceMul]
    by_cases hkl : k < l.length
    · by_cases hke : gi l k = e
      · have hin : e ∈ l := by rw [← hke]; exact gi_mem k0 hkl
        have fin := hyes (hmem.1 hin)
        clear ih
        repeat' (first | simp -implicitDefEqProofs only [go_sem, Nat.reduceEqDiff, Nat.reduceAdd, Nat.reduceMul, Nat.reduceLeDiff, Nat.reduceSub, Nat.reduceLT, Nat.reduceBEq, Int.reduceToNat, reduceCtorEq, ↓reduceIte, Int.reduceEq, Int.reduceNeg, Int.reduceLT, Int.reduceLE, Int.reduceAdd, Int.reduceSub, Int.reduceMul] | simp -implicitDefEqProofs (disch := omega) only [iaq_vec, iao_arr, iaq_raw, rd_map, wrap_id, binq_quo, binq_rem, binq_shl, binq_shr, tdiv_pos, tmod_pos, if_pos, exV_some, Option.map_some] | ((first | with_reducible apply exIf_dec | ((with_reducible apply exGd_dec); focus exact rfl) | ((with_reducible apply exGq_dec); focus exact rfl) | with_reducible apply exIf_intro | ((with_reducible apply exGd_intro); focus exact rfl) | ((with_reducible apply exGq_intro); focus exact rfl)) <;> intro _) | with_reducible refine exC_pure (cm) ?_ | with_reducible refine exCq_pure (cm) ?_)
        all_goals first | exact fin | (exfalso; omega)
      · have nxt := ih (k + 1) ⟨by omega, by omega, by
          rw [hk, drop_gi k0 hkl, List.mem_cons]
          exact ⟨fun h => h.resolve_left fun h => hke h.symm, .inr⟩⟩ (by omega)
        repeat' (first | simp -implicitDefEqProofs only [go_sem, Nat.reduceEqDiff, Nat.reduceAdd, Nat.reduceMul, Nat.reduceLeDiff, Nat.reduceSub, Nat.reduceLT, Nat.reduceBEq, Int.reduceToNat, reduceCtorEq, ↓reduceIte, Int.reduceEq, Int.reduceNeg, Int.reduceLT, Int.reduceLE, Int.reduceAdd, Int.reduceSub, Int.reduceMul] | simp -implicitDefEqProofs (disch := omega) only [iaq_vec, iao_arr, iaq_raw, rd_map, wrap_id, binq_quo, binq_rem, binq_shl, binq_shr, tdiv_pos, tmod_pos, if_pos, exV_some, Option.map_some] | ((first | with_reducible apply exIf_dec | ((with_reducible apply exGd_dec); focus exact rfl) | ((with_reducible apply exGq_dec); focus exact rfl) | with_reducible apply exIf_intro | ((with_reducible apply exGd_intro); focus exact rfl) | ((with_reducible apply exGq_intro); focus exact rfl)) <;> intro _))
        all_goals first | exact nxt | (exfalso; omega)
    · rw [drop_end (by omega)] at hk
      have fin := hno fun hs => by have := hk.1 (hmem.2 hs); simp at this
      clear ih
      repeat' (first | simp -implicitDefEqProofs only [go_sem, Nat.reduceEqDiff, Nat.reduceAdd, Nat.reduceMul, Nat.reduceLeDiff, Nat.reduceSub, Nat.reduceLT, Nat.reduceBEq, Int.reduceToNat, reduceCtorEq, ↓reduceIte, Int.reduceEq, Int.reduceNeg, Int.reduceLT, Int.reduceLE, Int.reduceAdd, Int.reduceSub, Int.reduceMul] | simp -implicitDefEqProofs (disch := omega) only [iaq_vec, iao_arr, iaq_raw, rd_map, wrap_id, binq_quo, binq_rem, binq_shl, binq_shr, tdiv_pos, tmod_pos, if_pos, exV_some, Option.map_some] | ((first | with_reducible apply exIf_dec | ((with_reducible apply exGd_dec); focus exact rfl) | ((with_reducible apply exGq_dec); focus exact rfl) | with_reducible apply exIf_intro | ((with_reducible apply exGd_intro); focus exact rfl) | ((with_reducible apply exGq_intro); focus exact rfl)) <;> intro _))
      all_goals first | exact fin | (exfalso; omega)
theorem rstep_c (g : Graph) (w : Want) (nl : Bool) (down : List Bool) (hw : w.ok) (node n e : Int) (he : -9223372036854775808 ≤ e ∧ e ≤ 9223372036854775807) (H : AHeap) :
    APure Try.prog 36 [g.av, w.av, blv nl down, .agg [iv node, iv n], iv e] H (stepAV (stepW g w down (node, n) e)) := by
  intro Q h
  have nc := fun H => newOpt_c g w nl down hw H
  simp only [Graph.av, Want.av, blv, sl] at nc
  refine ACalls.of_code fn_waymarkref15_Step ?_
  simp -implicitDefEqProofs only [sc_waymarkref15_Step, Graph.av, Want.av, blv, sl, go_sem, Nat.reduceEqDiff, Nat.reduceAdd, Nat.reduceMul, Nat.reduceLeDiff, Nat.reduceSub, Nat.reduceLT, Nat.reduceBEq, Int.reduceToNat, reduceCtorEq, ↓reduceIte, Int.reduceEq, Int.reduceNeg, Int.reduceLT, Int.reduceLE, Int.reduceAdd, Int.reduceSub, Int.reduceMul]
  refine exC_pure (nc _) ?_
  by_cases h0 : optErr g w down = 0
  · rw [optAV, if_pos h0, decide_eq_true h0]
    have sc := fun H => rostep_c g w down h0 node n e he H
    generalize optCells g w down = x at *
    repeat' (first | simp -implicitDefEqProofs only [go_sem, Nat.reduceEqDiff, Nat.reduceAdd, Nat.reduceMul, Nat.reduceLeDiff, Nat.reduceSub, Nat.reduceLT, Nat.reduceBEq, Int.reduceToNat, reduceCtorEq, ↓reduceIte, Int.reduceEq, Int.reduceNeg, Int.reduceLT, Int.reduceLE, Int.reduceAdd, Int.reduceSub, Int.reduceMul] | simp -implicitDefEqProofs (disch := omega) only [iaq_vec, iao_arr, iaq_raw, rd_map, wrap_id, binq_quo, binq_rem, binq_shl, binq_shr, tdiv_pos, tmod_pos, if_pos, exV_some, Option.map_some] | ((first | with_reducible apply exIf_dec | ((with_reducible apply exGd_dec); focus exact rfl) | ((with_reducible apply exGq_dec); focus exact rfl) | with_reducible apply exIf_intro | ((with_reducible apply exGd_intro); focus exact rfl) | ((with_reducible apply exGq_intro); focus exact rfl)) <;> intro _))
    refine exC_pure (sc _) ?_
    cases hs : stepW g w down (node, n) e with
    | none =>
      rw [hs] at h
      simp -implicitDefEqProofs only [stepAV, go_sem, Nat.reduceEqDiff, Nat.reduceAdd, Nat.reduceMul, Nat.reduceLeDiff, Nat.reduceSub, Nat.reduceLT, Nat.reduceBEq, Int.reduceToNat, reduceCtorEq, ↓reduceIte, Int.reduceEq, Int.reduceNeg, Int.reduceLT, Int.reduceLE, Int.reduceAdd, Int.reduceSub, Int.reduceMul]
      exact h
    | some a =>
      rw [hs] at h
      simp -implicitDefEqProofs only [stepAV, stateAV, go_sem, Nat.reduceEqDiff, Nat.reduceAdd, Nat.reduceMul, Nat.reduceLeDiff, Nat.reduceSub, Nat.reduceLT, Nat.reduceBEq, Int.reduceToNat, reduceCtorEq, ↓reduceIte, Int.reduceEq, Int.reduceNeg, Int.reduceLT, Int.reduceLE, Int.reduceAdd, Int.reduceSub, Int.reduceMul]
      exact h
  · rw [optAV, if_neg h0, decide_eq_false h0]
    have e : stepW g w down (node, n) e = none := by rw [stepW, if_neg fun hs => h0 hs.1]
    rw [e] at h
    repeat' (first | simp -implicitDefEqProofs only [go_sem, Nat.reduceEqDiff, Nat.reduceAdd, Nat.reduceMul, Nat.reduceLeDiff, Nat.reduceSub, Nat.reduceLT, Nat.reduceBEq, Int.reduceToNat, reduceCtorEq, ↓reduceIte, Int.reduceEq, Int.reduceNeg, Int.reduceLT, Int.reduceLE, Int.reduceAdd, Int.reduceSub, Int.reduceMul] | simp -implicitDefEqProofs (disch := omega) only [iaq_vec, iao_arr, iaq_raw, rd_map, wrap_id, binq_quo, binq_rem, binq_shl, binq_shr, tdiv_pos, tmod_pos, if_pos, exV_some, Option.map_some] | ((first | with_reducible apply exIf_dec | ((with_reducible apply exGd_dec); focus exact rfl) | ((with_reducible apply exGq_dec); focus exact rfl) | with_reducible apply exIf_intro | ((with_reducible apply exGd_intro); focus exact rfl) | ((with_reducible apply exGq_intro); focus exact rfl)) <;> intro _))
    exact h

/-! ### walks of edges -/
noncomputable def runW (g : Graph) (w : Want) (down : List Bool) : Int × Int → List Int → Option (Int × Int)
  | a, [] => some a
  | a, e :: r => match stepW g w down a e with
    | some b => runW g w down b r
    | none => none
def startW (w : Want) : Int × Int := (w.src, come (pts w) w.src 0)
def goalW (w : Want) : Int × Int := (w.dst, w.via.length + 1)
def HasW (g : Graph) (w : Want) (down : List Bool) (es : List Int) : Prop := optErr g w down = 0 ∧ runW g w down (startW w) es = some (goalW w)
noncomputable instance (g : Graph) (w : Want) (down : List Bool) (es : List Int) : Decidable (HasW g w down es) := Classical.propDecidable _
theorem ohas_c (g : Graph) (w : Want) (nl : Bool) (down : List Bool) (hw : w.ok) (nle : Bool) (es : List Int) (hes : I64s es) (hel : es.length ≤ 140737488351232) (H : AHeap) :
    APure Try.prog 25 [g.av, w.av, blv nl down, sl nle es] H (bv (decide (HasW g w down es))) := by
  intro Q h
  have nc := fun H => onew_c g w nl down hw H
  have sc := fun H => start_c w hw H
  have gc := fun H => goal_c w hw H
  simp only [Graph.av, Want.av, blv, sl] at nc sc gc
  refine ACalls.of_code fn_opt_Has ?_
  simp -implicitDefEqProofs only [sc_opt_Has, Graph.av, Want.av, blv, sl, go_sem, Nat.reduceEqDiff, Nat.reduceAdd, Nat.reduceMul, Nat.reduceLeDiff, Nat.reduceSub, Nat.reduceLT, Nat.reduceBEq, Int.reduceToNat, reduceCtorEq, ↓reduceIte, Int.reduceEq, Int.reduceNeg, Int.reduceLT, Int.reduceLE, Int.reduceAdd, Int.reduceSub, Int.reduceMul]
  refine exC_pure (nc _) ?_
  by_cases h0 : optErr g w down = 0
  case neg =>
    rw [decide_eq_false fun hs => h0 hs.1] at h
    generalize waysAV g w down = x at *
    repeat' (first | simp -implicitDefEqProofs only [go_sem, Nat.reduceEqDiff, Nat.reduceAdd, Nat.reduceMul, Nat.reduceLeDiff, Nat.reduceSub, Nat.reduceLT, Nat.reduceBEq, Int.reduceToNat, reduceCtorEq, ↓reduceIte, Int.reduceEq, Int.reduceNeg, Int.reduceLT, Int.reduceLE, Int.reduceAdd, Int.reduceSub, Int.reduceMul] | simp -implicitDefEqProofs (disch := omega) only [iaq_vec, iao_arr, iaq_raw, rd_map, wrap_id, binq_quo, binq_rem, binq_shl, binq_shr, tdiv_pos, tmod_pos, if_pos, exV_some, Option.map_some] | ((first | with_reducible apply exIf_dec | ((with_reducible apply exGd_dec); focus exact rfl) | ((with_reducible apply exGq_dec); focus exact rfl) | with_reducible apply exIf_intro | ((with_reducible apply exGd_intro); focus exact rfl) | ((with_reducible apply exGq_intro); focus exact rfl)) <;> intro _))
    all_goals first | contradiction | exact h
  rw [h0]
  have wc := fun (a : Int × Int) (e : Int) (he : -9223372036854775808 ≤ e ∧ e ≤ 9223372036854775807) H => wstep_c g w down a.1 a.2 e he H
  generalize waysAV g w down = x at *
  repeat' (first | simp -implicitDefEqProofs only [go_sem, Nat.reduceEqDiff, Nat.reduceAdd, Nat.reduceMul, Nat.reduceLeDiff, Nat.reduceSub, Nat.reduceLT, Nat.reduceBEq, Int.reduceToNat, reduceCtorEq, ↓reduceIte, Int.reduceEq, Int.reduceNeg, Int.reduceLT, Int.reduceLE, Int.reduceAdd, Int.reduceSub, Int.reduceMul] | simp -implicitDefEqProofs (disch := omega) only [iaq_vec, iao_arr, iaq_raw, rd_map, wrap_id, binq_quo, binq_rem, binq_shl, binq_shr, tdiv_pos, tmod_pos, if_pos, exV_some, Option.map_some] | ((first | with_reducible apply exIf_dec | ((with_reducible apply exGd_dec); focus exact rfl) | ((with_reducible apply exGq_dec); focus exact rfl) | with_reducible apply exIf_intro | ((with_reducible apply exGd_intro); focus exact rfl) | ((with_reducible apply exGq_intro); focus exact rfl)) <;> intro _) | with_reducible refine exC_pure (sc _) ?_ | with_reducible refine exCq_pure (sc _) ?_)
  refine exL_mod (fun a : Int × Int × Int => [(28, .v (iv a.1))]) (fun a => [(11, .cells [iv a.2.1, iv a.2.2] 63)]) (fun a => 0 ≤ a.1 ∧ a.1 ≤ es.length ∧ runW g w down (startW w) es = runW g w down a.2 (es.drop a.1.toNat)) (fun a => (es.length - a.1).toNat) (0, startW w) rfl ⟨by simp, by simp, by simp⟩ ?_
  rintro ⟨i, a⟩ ⟨i0, i1, hr⟩ ih
  dsimp only at i0 i1 hr ih
  simp only [S.up, S.upH, ups, Abs.put, Nat.reduceEqDiff, ↓reduceIte, Nat.reduceAdd] at ih
  simp -implicitDefEqProofs only [congrArg KI.code sc_opt_Has_L0.eq_1, go_sem, Nat.reduceEqDiff, Nat.reduceAdd, Nat.reduceMul, Nat.reduceLeDiff, Nat.reduceSub, Nat.reduceLT, Nat.reduceBEq, Int.reduceToNat, reduceCtorEq, ↓reduceIte, Int.reduceEq, Int.reduceNeg, Int.reduceLT, Int.reduceLE, Int.reduceAdd, Int.reduceSub, Int.reduceMul]
  by_cases hi : i < es.length
  · rw [drop_gi i0 hi, runW] at hr
    have wci := wc a (gi es i) (hes.gi i0 hi) H
    cases hs : stepW g w down a (gi es i) with
    | none =>
      rw [hs] at hr wci
      rw [decide_eq_false fun hh => by rw [hh.2] at hr; cases hr] at h
      simp only [stepAV] at wci
      repeat' (first | simp -implicitDefEqProofs only [go_sem, Nat.reduceEqDiff, Nat.reduceAdd, Nat.reduceMul, Nat.reduceLeDiff, Nat.reduceSub, Nat.reduceLT, Nat.reduceBEq, Int.reduceToNat, reduceCtorEq, ↓reduceIte, Int.reduceEq, Int.reduceNeg, Int.reduceLT, Int.reduceLE, Int.reduceAdd, Int.reduceSub, Int.reduceMul] | simp -implicitDefEqProofs (disch := omega) only [iaq_vec, iao_arr, iaq_raw, rd_map, wrap_id, binq_quo, binq_rem, binq_shl, binq_shr, tdiv_pos, tmod_pos, if_pos, exV_some, Option.map_some] | ((first | with_reducible apply exIf_dec | ((with_reducible apply exGd_dec); focus exact rfl) | ((with_reducible apply exGq_dec); focus exact rfl) | with_reducible apply exIf_intro | ((with_reducible apply exGd_intro); focus exact rfl) | ((with_reducible apply exGq_intro); focus exact rfl)) <;> intro _) | with_reducible refine exC_pure (wci) ?_ | with_reducible refine exCq_pure (wci) ?_)
      all_goals first | exact h | (exfalso; omega)
    | some b =>
      rw [hs] at hr wci
      have nxt := ih (i + 1, b) ⟨by dsimp only; omega, by dsimp only; omega, hr⟩ (by dsimp only; omega)
      simp only [stepAV, stateAV] at wci
      repeat' (first | simp -implicitDefEqProofs only [go_sem, Nat.reduceEqDiff, Nat.reduceAdd, Nat.reduceMul, Nat.reduceLeDiff, Nat.reduceSub, Nat.reduceLT, Nat.reduceBEq, Int.reduceToNat, reduceCtorEq, ↓reduceIte, Int.reduceEq, Int.reduceNeg, Int.reduceLT, Int.reduceLE, Int.reduceAdd, Int.reduceSub, Int.reduceMul] | simp -implicitDefEqProofs (disch := omega) only [iaq_vec, iao_arr, iaq_raw, rd_map, wrap_id, binq_quo, binq_rem, binq_shl, binq_shr, tdiv_pos, tmod_pos, if_pos, exV_some, Option.map_some] | ((first | with_reducible apply exIf_dec | ((with_reducible apply exGd_dec); focus exact rfl) | ((with_reducible apply exGq_dec); focus exact rfl) | with_reducible apply exIf_intro | ((with_reducible apply exGd_intro); focus exact rfl) | ((with_reducible apply exGq_intro); focus exact rfl)) <;> intro _) | with_reducible refine exC_pure (wci) ?_ | with_reducible refine exCq_pure (wci) ?_)
      all_goals first | exact nxt | (exfalso; omega)
  · rw [drop_end (by omega), runW] at hr
    have hd : decide (HasW g w down es) = decide (a.1 = w.dst ∧ a.2 = (w.via.length : Int) + 1) := by
      rw [decide_eq_decide, HasW, hr]
      simp only [h0, true_and, Option.some.injEq, goalW, Prod.ext_iff]
    rw [hd] at h
    clear ih
    repeat' (first | simp -implicitDefEqProofs only [go_sem, Nat.reduceEqDiff, Nat.reduceAdd, Nat.reduceMul, Nat.reduceLeDiff, Nat.reduceSub, Nat.reduceLT, Nat.reduceBEq, Int.reduceToNat, reduceCtorEq, ↓reduceIte, Int.reduceEq, Int.reduceNeg, Int.reduceLT, Int.reduceLE, Int.reduceAdd, Int.reduceSub, Int.reduceMul] | simp -implicitDefEqProofs (disch := omega) only [iaq_vec, iao_arr, iaq_raw, rd_map, wrap_id, binq_quo, binq_rem, binq_shl, binq_shr, tdiv_pos, tmod_pos, if_pos, exV_some, Option.map_some] | ((first | with_reducible apply exIf_dec | ((with_reducible apply exGd_dec); focus exact rfl) | ((with_reducible apply exGq_dec); focus exact rfl) | with_reducible apply exIf_intro | ((with_reducible apply exGd_intro); focus exact rfl) | ((with_reducible apply exGq_intro); focus exact rfl)) <;> intro _) | with_reducible refine exC_pure (gc _) ?_ | with_reducible refine exCq_pure (gc _) ?_)
    all_goals first | (exfalso; omega) | skip
    rw [← Bool.decide_and]
    exact h
theorem rhas_c (g : Graph) (w : Want) (nl : Bool) (down : List Bool) (hw : w.ok) (nle : Bool) (es : List Int) (hes : I64s es) (hel : es.length ≤ 140737488351232) (H : AHeap) :
    APure Try.prog 34 [g.av, w.av, blv nl down, sl nle es] H (bv (decide (HasW g w down es))) := by
  intro Q h
  have nc := fun H => newOpt_c g w nl down hw H
  have sc := fun H => rstart_c w hw H
  have gc := fun H => rgoal_c w hw H
  simp only [Graph.av, Want.av, blv, sl] at nc sc gc
  refine ACalls.of_code fn_waymarkref15_Has ?_
  simp -implicitDefEqProofs only [sc_waymarkref15_Has, Graph.av, Want.av, blv, sl, go_sem, Nat.reduceEqDiff, Nat.reduceAdd, Nat.reduceMul, Nat.reduceLeDiff, Nat.reduceSub, Nat.reduceLT, Nat.reduceBEq, Int.reduceToNat, reduceCtorEq, ↓reduceIte, Int.reduceEq, Int.reduceNeg, Int.reduceLT, Int.reduceLE, Int.reduceAdd, Int.reduceSub, Int.reduceMul]
  refine exC_pure (nc _) ?_
  by_cases h0 : optErr g w down = 0
  case neg =>
    rw [decide_eq_false fun hs => h0 hs.1] at h
    rw [decide_eq_false h0]
    generalize optAV g w down = x at *
    repeat' (first | simp -implicitDefEqProofs only [go_sem, Nat.reduceEqDiff, Nat.reduceAdd, Nat.reduceMul, Nat.reduceLeDiff, Nat.reduceSub, Nat.reduceLT, Nat.reduceBEq, Int.reduceToNat, reduceCtorEq, ↓reduceIte, Int.reduceEq, Int.reduceNeg, Int.reduceLT, Int.reduceLE, Int.reduceAdd, Int.reduceSub, Int.reduceMul] | simp -implicitDefEqProofs (disch := omega) only [iaq_vec, iao_arr, iaq_raw, rd_map, wrap_id, binq_quo, binq_rem, binq_shl, binq_shr, tdiv_pos, tmod_pos, if_pos, exV_some, Option.map_some] | ((first | with_reducible apply exIf_dec | ((with_reducible apply exGd_dec); focus exact rfl) | ((with_reducible apply exGq_dec); focus exact rfl) | with_reducible apply exIf_intro | ((with_reducible apply exGd_intro); focus exact rfl) | ((with_reducible apply exGq_intro); focus exact rfl)) <;> intro _) | with_reducible refine exC_pure (sc _) ?_ | with_reducible refine exCq_pure (sc _) ?_)
    refine exL_mod (fun _ : Unit => []) (fun _ => []) (fun _ => True) (fun _ => 0) () rfl trivial ?_
    rintro - - -
    simp only [S.up, S.upH, ups, Abs.put, Nat.reduceEqDiff, ↓reduceIte, Nat.reduceAdd]
    simp -implicitDefEqProofs only [congrArg KI.code sc_waymarkref15_Has_L0.eq_1, go_sem, Nat.reduceEqDiff, Nat.reduceAdd, Nat.reduceMul, Nat.reduceLeDiff, Nat.reduceSub, Nat.reduceLT, Nat.reduceBEq, Int.reduceToNat, reduceCtorEq, ↓reduceIte, Int.reduceEq, Int.reduceNeg, Int.reduceLT, Int.reduceLE, Int.reduceAdd, Int.reduceSub, Int.reduceMul]
    repeat' (first | simp -implicitDefEqProofs only [go_sem, Nat.reduceEqDiff, Nat.reduceAdd, Nat.reduceMul, Nat.reduceLeDiff, Nat.reduceSub, Nat.reduceLT, Nat.reduceBEq, Int.reduceToNat, reduceCtorEq, ↓reduceIte, Int.reduceEq, Int.reduceNeg, Int.reduceLT, Int.reduceLE, Int.reduceAdd, Int.reduceSub, Int.reduceMul] | simp -implicitDefEqProofs (disch := omega) only [iaq_vec, iao_arr, iaq_raw, rd_map, wrap_id, binq_quo, binq_rem, binq_shl, binq_shr, tdiv_pos, tmod_pos, if_pos, exV_some, Option.map_some] | ((first | with_reducible apply exIf_dec | ((with_reducible apply exGd_dec); focus exact rfl) | ((with_reducible apply exGq_dec); focus exact rfl) | with_reducible apply exIf_intro | ((with_reducible apply exGd_intro); focus exact rfl) | ((with_reducible apply exGq_intro); focus exact rfl)) <;> intro _))
    all_goals exact h
  rw [optAV, if_pos h0, decide_eq_true h0]
  have wc := fun (a : Int × Int) (e : Int) (he : -9223372036854775808 ≤ e ∧ e ≤ 9223372036854775807) H => rostep_c g w down h0 a.1 a.2 e he H
  generalize optCells g w down = x at *
  repeat' (first | simp -implicitDefEqProofs only [go_sem, Nat.reduceEqDiff, Nat.reduceAdd, Nat.reduceMul, Nat.reduceLeDiff, Nat.reduceSub, Nat.reduceLT, Nat.reduceBEq, Int.reduceToNat, reduceCtorEq, ↓reduceIte, Int.reduceEq, Int.reduceNeg, Int.reduceLT, Int.reduceLE, Int.reduceAdd, Int.reduceSub, Int.reduceMul] | simp -implicitDefEqProofs (disch := omega) only [iaq_vec, iao_arr, iaq_raw, rd_map, wrap_id, binq_quo, binq_rem, binq_shl, binq_shr, tdiv_pos, tmod_pos, if_pos, exV_some, Option.map_some] | ((first | with_reducible apply exIf_dec | ((with_reducible apply exGd_dec); focus exact rfl) | ((with_reducible apply exGq_dec); focus exact rfl) | with_reducible apply exIf_intro | ((with_reducible apply exGd_intro); focus exact rfl) | ((with_reducible apply exGq_intro); focus exact rfl)) <;> intro _) | with_reducible refine exC_pure (sc _) ?_ | with_reducible refine exCq_pure (sc _) ?_)
  refine exL_mod (fun a : Int × Bool × (Int × Int) => [(10, .v (bv a.2.1)), (12, .v (iv a.1))]) (fun a => [(11, .cells [iv a.2.2.1, iv a.2.2.2] 63)]) (fun a => 0 ≤ a.1 ∧ a.1 ≤ es.length ∧ runW g w down (startW w) es = if a.2.1 = true then runW g w down a.2.2 (es.drop a.1.toNat) else none) (fun a => (es.length - a.1).toNat) (0, true, startW w) rfl ⟨by simp, by simp, by simp⟩ ?_
  rintro ⟨i, ok, a⟩ ⟨i0, i1, hr⟩ ih
  dsimp only at i0 i1 hr ih
  simp only [S.up, S.upH, ups, Abs.put, Nat.reduceEqDiff, ↓reduceIte, Nat.reduceAdd] at ih
  simp -implicitDefEqProofs only [congrArg KI.code sc_waymarkref15_Has_L0.eq_1, go_sem, Nat.reduceEqDiff, Nat.reduceAdd, Nat.reduceMul, Nat.reduceLeDiff, Nat.reduceSub, Nat.reduceLT, Nat.reduceBEq, Int.reduceToNat, reduceCtorEq, ↓reduceIte, Int.reduceEq, Int.reduceNeg, Int.reduceLT, Int.reduceLE, Int.reduceAdd, Int.reduceSub, Int.reduceMul]
  cases ok with
  | false =>
    simp only [Bool.false_eq_true, if_false] at hr
    rw [decide_eq_false fun hh => by rw [hh.2] at hr; cases hr] at h
    clear ih
    repeat' (first | simp -implicitDefEqProofs only [go_sem, Nat.reduceEqDiff, Nat.reduceAdd, Nat.reduceMul, Nat.reduceLeDiff, Nat.reduceSub, Nat.reduceLT, Nat.reduceBEq, Int.reduceToNat, reduceCtorEq, ↓reduceIte, Int.reduceEq, Int.reduceNeg, Int.reduceLT, Int.reduceLE, Int.reduceAdd, Int.reduceSub, Int.reduceMul] | simp -implicitDefEqProofs (disch := omega) only [iaq_vec, iao_arr, iaq_raw, rd_map, wrap_id, binq_quo, binq_rem, binq_shl, binq_shr, tdiv_pos, tmod_pos, if_pos, exV_some, Option.map_some] | ((first | with_reducible apply exIf_dec | ((with_reducible apply exGd_dec); focus exact rfl) | ((with_reducible apply exGq_dec); focus exact rfl) | with_reducible apply exIf_intro | ((with_reducible apply exGd_intro); focus exact rfl) | ((with_reducible apply exGq_intro); focus exact rfl)) <;> intro _))
    all_goals first | exact h | (exfalso; omega)
  | true =>
  simp only [if_true] at hr
  by_cases hi : i < es.length
  · rw [drop_gi i0 hi, runW] at hr
    have wci := wc a (gi es i) (hes.gi i0 hi) H
    cases hs : stepW g w down a (gi es i) with
    | none =>
      rw [hs] at hr wci
      have nxt := ih (i + 1, false, (0, 0)) ⟨by dsimp only; omega, by dsimp only; omega, by simpa using hr⟩ (by dsimp only; omega)
      simp only [stepAV] at wci
      repeat' (first | simp -implicitDefEqProofs only [go_sem, Nat.reduceEqDiff, Nat.reduceAdd, Nat.reduceMul, Nat.reduceLeDiff, Nat.reduceSub, Nat.reduceLT, Nat.reduceBEq, Int.reduceToNat, reduceCtorEq, ↓reduceIte, Int.reduceEq, Int.reduceNeg, Int.reduceLT, Int.reduceLE, Int.reduceAdd, Int.reduceSub, Int.reduceMul] | simp -implicitDefEqProofs (disch := omega) only [iaq_vec, iao_arr, iaq_raw, rd_map, wrap_id, binq_quo, binq_rem, binq_shl, binq_shr, tdiv_pos, tmod_pos, if_pos, exV_some, Option.map_some] | ((first | with_reducible apply exIf_dec | ((with_reducible apply exGd_dec); focus exact rfl) | ((with_reducible apply exGq_dec); focus exact rfl) | with_reducible apply exIf_intro | ((with_reducible apply exGd_intro); focus exact rfl) | ((with_reducible apply exGq_intro); focus exact rfl)) <;> intro _) | with_reducible refine exC_pure (wci) ?_ | with_reducible refine exCq_pure (wci) ?_)
      all_goals first | exact nxt | (exfalso; omega)
    | some b =>
      rw [hs] at hr wci
      have nxt := ih (i + 1, true, b) ⟨by dsimp only; omega, by dsimp only; omega, by simpa using hr⟩ (by dsimp only; omega)
      simp only [stepAV, stateAV] at wci
      repeat' (first | simp -implicitDefEqProofs only [go_sem, Nat.reduceEqDiff, Nat.reduceAdd, Nat.reduceMul, Nat.reduceLeDiff, Nat.reduceSub, Nat.reduceLT, Nat.reduceBEq, Int.reduceToNat, reduceCtorEq, ↓reduceIte, Int.reduceEq, Int.reduceNeg, Int.reduceLT, Int.reduceLE, Int.reduceAdd, Int.reduceSub, Int.reduceMul] | simp -implicitDefEqProofs (disch := omega) only [iaq_vec, iao_arr, iaq_raw, rd_map, wrap_id, binq_quo, binq_rem, binq_shl, binq_shr, tdiv_pos, tmod_pos, if_pos, exV_some, Option.map_some] | ((first | with_reducible apply exIf_dec | ((with_reducible apply exGd_dec); focus exact rfl) | ((with_reducible apply exGq_dec); focus exact rfl) | with_reducible apply exIf_intro | ((with_reducible apply exGd_intro); focus exact rfl) | ((with_reducible apply exGq_intro); focus exact rfl)) <;> intro _) | with_reducible refine exC_pure (wci) ?_ | with_reducible refine exCq_pure (wci) ?_)
      all_goals first | exact nxt | (exfalso; omega)
  · rw [drop_end (by omega), runW] at hr
    have hd : decide (HasW g w down es) = decide (a.1 = w.dst ∧ a.2 = (w.via.length : Int) + 1) := by
      rw [decide_eq_decide, HasW, hr]
      simp only [h0, true_and, Option.some.injEq, goalW, Prod.ext_iff]
    rw [hd] at h
    clear ih
    repeat' (first | simp -implicitDefEqProofs only [go_sem, Nat.reduceEqDiff, Nat.reduceAdd, Nat.reduceMul, Nat.reduceLeDiff, Nat.reduceSub, Nat.reduceLT, Nat.reduceBEq, Int.reduceToNat, reduceCtorEq, ↓reduceIte, Int.reduceEq, Int.reduceNeg, Int.reduceLT, Int.reduceLE, Int.reduceAdd, Int.reduceSub, Int.reduceMul] | simp -implicitDefEqProofs (disch := omega) only [iaq_vec, iao_arr, iaq_raw, rd_map, wrap_id, binq_quo, binq_rem, binq_shl, binq_shr, tdiv_pos, tmod_pos, if_pos, exV_some, Option.map_some] | ((first | with_reducible apply exIf_dec | ((with_reducible apply exGd_dec); focus exact rfl) | ((with_reducible apply exGq_dec); focus exact rfl) | with_reducible apply exIf_intro | ((with_reducible apply exGd_intro); focus exact rfl) | ((with_reducible apply exGq_intro); focus exact rfl)) <;> intro _) | with_reducible refine exC_pure (gc _) ?_ | with_reducible refine exCq_pure (gc _) ?_)
    all_goals first | (exfalso; omega) | skip
    rw [← Bool.decide_and]
    exact h
end Go.Proofs.Ytgahnhiidhkjaaa
end

section
/- The law OptTells of chapter 15, as a contract. -/
namespace Go.Proofs.Ytgahnhiidhkjaaa
open Go Abs
attribute [local irreducible] EX exL exG exC exCq exS exV exIf exGd exGq
set_option maxHeartbeats 2000000

theorem num15_c (x : Int) (H : AHeap) : APure Try.prog 26 [iv x] H (iv x) := by
  intro Q h
  refine ACalls.of_code fn_waymarklaw15_num ?_
  simp -implicitDefEqProofs only [sc_waymarklaw15_num, go_sem, Nat.reduceEqDiff, Nat.reduceAdd, Nat.reduceMul, Nat.reduceLeDiff, Nat.reduceSub, Nat.reduceLT, Nat.reduceBEq, Int.reduceToNat, reduceCtorEq, ↓reduceIte, Int.reduceEq, Int.reduceNeg, Int.reduceLT, Int.reduceLE, Int.reduceAdd, Int.reduceSub, Int.reduceMul]
  exact h
def w0_ : Want := ⟨0, 0, 0, true, [], true, [], true, [], true, []⟩
def w1_ : Want := ⟨0, 1, 0, true, [], true, [], true, [], true, []⟩
theorem opt1 : optErr g1_ w0_ [] = 0 ∧ optCost g1_ w0_ [] = 0 := by
  have hr : rightErr g1_ w0_ = 0 := by decide
  have hf := (wfit_of hr).fit
  have hz : leg g1_ w0_ [] 0 = 0 := ((distL_spec hf (pruned g1_ w0_ []) (s := 0) (by decide)).1).zero hf (by decide)
  have he : optErr g1_ w0_ [] = 0 := by
    rw [optErr, if_neg (by rw [hr]; decide), if_neg, if_neg (by decide)]
    show ¬ noLeg g1_ w0_ [] (0 + 1) = true
    rw [noLeg_succ]
    simp [noLeg, hz]
  refine ⟨he, ?_⟩
  rw [optCost, if_pos he]
  show legs g1_ w0_ [] (0 + 1) = 0
  simp [legs, hz]
theorem far2 : farOf g2_ w1_ [] 1 = [7, 0] := by
  have hf : Fit g2_ := fit_of _ (by decide)
  have := distL_congr hf (d1 := pruned g2_ w1_ []) (d2 := []) (s := 1) (by decide) (fun e e0 e1 => by
    have e1' : e < 2 := e1
    have : e / 2 = 0 := by omega
    unfold upE
    rw [this]
    rfl)
  rw [← dist2.2, ← this]
  rfl
theorem opt2 : optErr g2_ w1_ [] = 0 ∧ HasW g2_ w1_ [] [0] := by
  have hr : rightErr g2_ w1_ = 0 := by decide
  have hz : leg g2_ w1_ [] 0 = 7 := by
    show gi (farOf g2_ w1_ [] 1) 0 = 7
    rw [far2]; rfl
  have he : optErr g2_ w1_ [] = 0 := by
    rw [optErr, if_neg (by rw [hr]; decide), if_neg, if_neg (by decide)]
    show ¬ noLeg g2_ w1_ [] (0 + 1) = true
    rw [noLeg_succ]
    simp [noLeg, hz]
  refine ⟨he, he, ?_⟩
  have hs : stepW g2_ w1_ [] (startW w1_) 0 = some (1, 1) := by
    rw [stepW, if_pos]
    · rfl
    · refine ⟨he, by decide, by decide, by decide, by decide, by decide, by decide, ?_, ?_⟩
      · show 0 ≤ gi (farOf g2_ w1_ [] 1) 1
        rw [far2]; decide
      · show gi (farOf g2_ w1_ [] 1) 0 = gi (farOf g2_ w1_ [] 1) 1 + 7
        rw [far2]; decide
  rw [runW, hs]
  rfl
theorem alive15_c (H : AHeap) : APure Try.prog 18 [] H (bv true) := by
  intro Q h
  refine ACalls.of_code fn_waymarklaw15_alive ?_
  have c1 := cost_c g1_ w0_ true [] ⟨by decide, by decide, by decide, by decide⟩ H
  rw [opt1.1, opt1.2] at c1
  have c2 := ohas_c g2_ w1_ true [] ⟨by decide, by decide, by decide, by decide⟩ false [0] (by intro x hx; simp at hx; subst hx; decide) (by decide) H
  rw [decide_eq_true opt2.2] at c2
  have c3 := goal_c w1_ ⟨by decide, by decide, by decide, by decide⟩ H
  simp only [Graph.av, Want.av, blv, sl, g1_, g2_, w0_, w1_] at c1 c2 c3
  simp only [rows, List.flatMap_cons, List.flatMap_nil, List.append_nil, Link.cells_eq, List.map_cons, List.map_nil, List.length_cons, List.length_nil, Nat.zero_add, Int.natCast_zero, Int.zero_add, Int.cast_ofNat_Int] at c1 c2 c3
  simp -implicitDefEqProofs only [sc_waymarklaw15_alive, go_sem, Nat.reduceEqDiff, Nat.reduceAdd, Nat.reduceMul, Nat.reduceLeDiff, Nat.reduceSub, Nat.reduceLT, Nat.reduceBEq, Int.reduceToNat, reduceCtorEq, ↓reduceIte, Int.reduceEq, Int.reduceNeg, Int.reduceLT, Int.reduceLE, Int.reduceAdd, Int.reduceSub, Int.reduceMul]
  repeat' (first | simp -implicitDefEqProofs only [go_sem, Nat.reduceEqDiff, Nat.reduceAdd, Nat.reduceMul, Nat.reduceLeDiff, Nat.reduceSub, Nat.reduceLT, Nat.reduceBEq, Int.reduceToNat, reduceCtorEq, ↓reduceIte, Int.reduceEq, Int.reduceNeg, Int.reduceLT, Int.reduceLE, Int.reduceAdd, Int.reduceSub, Int.reduceMul] | simp -implicitDefEqProofs (disch := omega) only [iaq_vec, iao_arr, iaq_raw, rd_map, wrap_id, binq_quo, binq_rem, binq_shl, binq_shr, tdiv_pos, tmod_pos, if_pos, exV_some, Option.map_some] | ((first | with_reducible apply exIf_dec | ((with_reducible apply exGd_dec); focus exact rfl) | ((with_reducible apply exGq_dec); focus exact rfl) | with_reducible apply exIf_intro | ((with_reducible apply exGd_intro); focus exact rfl) | ((with_reducible apply exGq_intro); focus exact rfl)) <;> intro _) | with_reducible refine exC_pure (c1) ?_ | with_reducible refine exCq_pure (c1) ?_ | with_reducible refine exC_pure (c2) ?_ | with_reducible refine exCq_pure (c2) ?_ | with_reducible refine exC_pure (c3) ?_ | with_reducible refine exCq_pure (c3) ?_ | with_reducible refine exC_pure (num15_c _ _) ?_ | with_reducible refine exCq_pure (num15_c _ _) ?_)
  exact h
theorem optTells_c (g : Graph) (hgl : g.links.length * 32 ≤ 140737488351232) (w : Want) (hw : w.ok) (nl : Bool) (down : List Bool) (node n : Int) (nle : Bool) (es : List Int) (hes : I64s es) (hel : es.length * 8 ≤ 140737488351232) (H : AHeap) :
    APure Try.prog 7 [g.av, w.av, blv nl down, .agg [iv node, iv n], sl nle es] H (bv true) := by
  intro Q h
  have fc := fun H => few_c w H
  have c1 := fun H => cost_c g w nl down hw H
  have c2 := fun H => rcost_c g w nl down hw H
  have c3 := fun H => start_c w hw H
  have c4 := fun H => rstart_c w hw H
  have c5 := fun H => goal_c w hw H
  have c6 := fun H => rgoal_c w hw H
  have c7 := fun H => ohas_c g w nl down hw nle es hes (by omega) H
  have c8 := fun H => rhas_c g w nl down hw nle es hes (by omega) H
  have s1 := fun e he H => ostep_c g w nl down hw node n e he H
  have s2 := fun e he H => rstep_c g w nl down hw node n e he H
  simp only [Graph.av, Want.av, blv, sl] at fc c1 c2 c3 c4 c5 c6 c7 c8 s1 s2
  refine ACalls.of_code fn_waymarklaw15_OptTells ?_
  simp -implicitDefEqProofs only [sc_waymarklaw15_OptTells, Graph.av, Want.av, blv, sl, go_sem, Nat.reduceEqDiff, Nat.reduceAdd, Nat.reduceMul, Nat.reduceLeDiff, Nat.reduceSub, Nat.reduceLT, Nat.reduceBEq, Int.reduceToNat, reduceCtorEq, ↓reduceIte, Int.reduceEq, Int.reduceNeg, Int.reduceLT, Int.reduceLE, Int.reduceAdd, Int.reduceSub, Int.reduceMul]
  refine exC_pure (alive15_c _) ?_
  repeat' (first | simp -implicitDefEqProofs only [go_sem, Nat.reduceEqDiff, Nat.reduceAdd, Nat.reduceMul, Nat.reduceLeDiff, Nat.reduceSub, Nat.reduceLT, Nat.reduceBEq, Int.reduceToNat, reduceCtorEq, ↓reduceIte, Int.reduceEq, Int.reduceNeg, Int.reduceLT, Int.reduceLE, Int.reduceAdd, Int.reduceSub, Int.reduceMul] | simp -implicitDefEqProofs (disch := omega) only [iaq_vec, iao_arr, iaq_raw, rd_map, wrap_id, binq_quo, binq_rem, binq_shl, binq_shr, tdiv_pos, tmod_pos, if_pos, exV_some, Option.map_some] | ((first | with_reducible apply exIf_dec | ((with_reducible apply exGd_dec); focus exact rfl) | ((with_reducible apply exGq_dec); focus exact rfl) | with_reducible apply exIf_intro | ((with_reducible apply exGd_intro); focus exact rfl) | ((with_reducible apply exGq_intro); focus exact rfl)) <;> intro _) | with_reducible refine exC_pure (fc _) ?_ | with_reducible refine exCq_pure (fc _) ?_ | with_reducible refine exC_pure (c1 _) ?_ | with_reducible refine exCq_pure (c1 _) ?_ | with_reducible refine exC_pure (c2 _) ?_ | with_reducible refine exCq_pure (c2 _) ?_ | with_reducible refine exC_pure (c3 _) ?_ | with_reducible refine exCq_pure (c3 _) ?_ | with_reducible refine exC_pure (c4 _) ?_ | with_reducible refine exCq_pure (c4 _) ?_ | with_reducible refine exC_pure (c5 _) ?_ | with_reducible refine exCq_pure (c5 _) ?_ | with_reducible refine exC_pure (c6 _) ?_ | with_reducible refine exCq_pure (c6 _) ?_ | with_reducible refine exC_pure (c7 _) ?_ | with_reducible refine exCq_pure (c7 _) ?_ | with_reducible refine exC_pure (c8 _) ?_ | with_reducible refine exCq_pure (c8 _) ?_ | with_reducible refine exC_pure (num15_c _ _) ?_ | with_reducible refine exCq_pure (num15_c _ _) ?_)
  all_goals first | exact h | skip
  refine exL_mod (fun k : Int => [(16, .v (iv k))]) (fun _ => []) (fun k => -1 ≤ k ∧ k ≤ 2 * g.links.length + 1) (fun k => (2 * g.links.length + 1 - k).toNat) (-1) rfl ⟨by omega, by omega⟩ ?_
  rintro k ⟨k0, k1⟩ ih
  simp only [S.up, S.upH, ups, Abs.put, Nat.reduceEqDiff, ↓reduceIte, Nat.reduceAdd] at ih
  simp -implicitDefEqProofs only [congrArg KI.code sc_waymarklaw15_OptTells_L0.eq_1, go_sem, Nat.reduceEqDiff, Nat.reduceAdd, Nat.reduceMul, Nat.reduceLeDiff, Nat.reduceSub, Nat.reduceLT, Nat.reduceBEq, Int.reduceToNat, reduceCtorEq, ↓reduceIte, Int.reduceEq, Int.reduceNeg, Int.reduceLT, Int.reduceLE, Int.reduceAdd, Int.reduceSub, Int.reduceMul]
  by_cases hk : k ≤ 2 * g.links.length
  · have nxt := ih (k + 1) ⟨by omega, by omega⟩ (by omega)
    have t1 := s1 k (by omega) H
    have t2 := s2 k (by omega) H
    cases hs : stepW g w down (node, n) k with
    | none =>
      rw [hs] at t1 t2
      simp only [stepAV] at t1 t2
      repeat' (first | simp -implicitDefEqProofs only [go_sem, Nat.reduceEqDiff, Nat.reduceAdd, Nat.reduceMul, Nat.reduceLeDiff, Nat.reduceSub, Nat.reduceLT, Nat.reduceBEq, Int.reduceToNat, reduceCtorEq, ↓reduceIte, Int.reduceEq, Int.reduceNeg, Int.reduceLT, Int.reduceLE, Int.reduceAdd, Int.reduceSub, Int.reduceMul] | simp -implicitDefEqProofs (disch := omega) only [iaq_vec, iao_arr, iaq_raw, rd_map, wrap_id, binq_quo, binq_rem, binq_shl, binq_shr, tdiv_pos, tmod_pos, if_pos, exV_some, Option.map_some] | ((first | with_reducible apply exIf_dec | ((with_reducible apply exGd_dec); focus exact rfl) | ((with_reducible apply exGq_dec); focus exact rfl) | with_reducible apply exIf_intro | ((with_reducible apply exGd_intro); focus exact rfl) | ((with_reducible apply exGq_intro); focus exact rfl)) <;> intro _) | with_reducible refine exC_pure (t1) ?_ | with_reducible refine exCq_pure (t1) ?_ | with_reducible refine exC_pure (t2) ?_ | with_reducible refine exCq_pure (t2) ?_)
      all_goals first | exact nxt | (exfalso; omega)
    | some b =>
      rw [hs] at t1 t2
      simp only [stepAV, stateAV] at t1 t2
      repeat' (first | simp -implicitDefEqProofs only [go_sem, Nat.reduceEqDiff, Nat.reduceAdd, Nat.reduceMul, Nat.reduceLeDiff, Nat.reduceSub, Nat.reduceLT, Nat.reduceBEq, Int.reduceToNat, reduceCtorEq, ↓reduceIte, Int.reduceEq, Int.reduceNeg, Int.reduceLT, Int.reduceLE, Int.reduceAdd, Int.reduceSub, Int.reduceMul] | simp -implicitDefEqProofs (disch := omega) only [iaq_vec, iao_arr, iaq_raw, rd_map, wrap_id, binq_quo, binq_rem, binq_shl, binq_shr, tdiv_pos, tmod_pos, if_pos, exV_some, Option.map_some] | ((first | with_reducible apply exIf_dec | ((with_reducible apply exGd_dec); focus exact rfl) | ((with_reducible apply exGq_dec); focus exact rfl) | with_reducible apply exIf_intro | ((with_reducible apply exGd_intro); focus exact rfl) | ((with_reducible apply exGq_intro); focus exact rfl)) <;> intro _) | with_reducible refine exC_pure (t1) ?_ | with_reducible refine exCq_pure (t1) ?_ | with_reducible refine exC_pure (t2) ?_ | with_reducible refine exCq_pure (t2) ?_)
      all_goals first | exact nxt | (exfalso; omega)
  · repeat' (first | simp -implicitDefEqProofs only [go_sem, Nat.reduceEqDiff, Nat.reduceAdd, Nat.reduceMul, Nat.reduceLeDiff, Nat.reduceSub, Nat.reduceLT, Nat.reduceBEq, Int.reduceToNat, reduceCtorEq, ↓reduceIte, Int.reduceEq, Int.reduceNeg, Int.reduceLT, Int.reduceLE, Int.reduceAdd, Int.reduceSub, Int.reduceMul] | simp -implicitDefEqProofs (disch := omega) only [iaq_vec, iao_arr, iaq_raw, rd_map, wrap_id, binq_quo, binq_rem, binq_shl, binq_shr, tdiv_pos, tmod_pos, if_pos, exV_some, Option.map_some] | ((first | with_reducible apply exIf_dec | ((with_reducible apply exGd_dec); focus exact rfl) | ((with_reducible apply exGq_dec); focus exact rfl) | with_reducible apply exIf_intro | ((with_reducible apply exGd_intro); focus exact rfl) | ((with_reducible apply exGq_intro); focus exact rfl)) <;> intro _))
    all_goals first | exact h | (exfalso; omega)
end Go.Proofs.Ytgahnhiidhkjaaa
end

section
/- Walks by the points of a want, in order, and what they cost: in plain Lean. -/
namespace Go.Proofs.Ytgahnhiidhkjaaa
open Go Abs
attribute [local irreducible] EX exL exG exC exCq exS exV exIf exGd exGq
set_option maxHeartbeats 1000000

noncomputable def totalW (g : Graph) (w : Want) (down : List Bool) : Int := legs g w down (w.via.length + 1)
/-- how far it is from here by the points that are left -/
noncomputable def remW (g : Graph) (w : Want) (down : List Bool) (node n : Int) : Int := if n ≤ w.via.length then gi (farOf g w down (n + 1)) node + (totalW g w down - legs g w down (n + 1).toNat) else 0

theorem legs_step (g : Graph) (w : Want) (down : List Bool) {n : Int} (n0 : 0 ≤ n) : legs g w down (n + 1).toNat = legs g w down n.toNat + leg g w down n := by
  rw [show (n + 1).toNat = n.toNat + 1 by omega, legs, Int.toNat_of_nonneg n0]
theorem legs_all (g : Graph) (w : Want) (down : List Bool) : totalW g w down = legs g w down ((w.via.length : Int) + 1).toNat := by
  rw [totalW, show ((w.via.length : Int) + 1).toNat = w.via.length + 1 by omega]
theorem far_zero {g : Graph} {w : Want} (hw : WFit g w) (down : List Bool) {n : Int} (n0 : 0 ≤ n) (n1 : n ≤ w.via.length + 1) : gi (farOf g w down n) (gi (pts w) n) = 0 :=
  ((distL_spec hw.fit (pruned g w down) (hw.point n0 n1)).1).zero hw.fit (hw.point n0 n1)
theorem rem_come {g : Graph} {w : Want} (hw : WFit g w) (down : List Bool) {node n : Int} (n0 : 0 ≤ n) (n1 : n ≤ w.via.length + 1) : remW g w down node (come (pts w) node n) = remW g w down node n := by
  obtain ⟨k, hk⟩ : ∃ k : Nat, k = (w.via.length + 1 - n).toNat := ⟨_, rfl⟩
  induction k generalizing n with
  | zero => rw [come_stop n0 (by rw [pts_length]; omega)]
  | succ k ih =>
    by_cases h : n + 1 < (pts w).length ∧ gi (pts w) (n + 1) = node
    · have h1 := h.1
      rw [pts_length] at h1
      rw [come_go n0 h.1 h.2, ih (by omega) (by omega) (by omega)]
      unfold remW
      rw [if_pos (show n ≤ w.via.length by omega)]
      have hz := far_zero hw down (n := n + 1) (by omega) (by omega)
      rw [h.2] at hz
      rw [hz]
      by_cases h3 : n + 1 ≤ w.via.length
      · rw [if_pos h3, legs_step g w down (n := n + 1) (by omega), leg, h.2, ← farOf]
        omega
      · rw [if_neg h3, legs_all, show n + 1 = (w.via.length : Int) + 1 by omega]
        omega
    · rw [come_stop n0 h]

structure WInv (g : Graph) (w : Want) (down : List Bool) (es : List Int) (node n sum : Int) (rest : List Int) : Prop where
  n0 : 0 ≤ n
  n1 : n ≤ w.via.length + 1
  here : 0 ≤ node ∧ node < g.nodes
  stop : ¬ (n + 1 < (pts w).length ∧ gi (pts w) (n + 1) = node)
  walk : ∃ L, Walk g (pruned g w down) (gi (pts w) n) node L
  got : ∀ j : Int, 0 ≤ j → j < n → 0 ≤ leg g w down j
  cost : noLeg g w down (w.via.length + 1) = false → totalW g w down ≤ sum + remW g w down node n
  run : optErr g w down = 0 → runW g w down (startW w) es = if totalW g w down = sum + remW g w down node n then runW g w down (node, n) rest else none
/-- one comes to a node -/
theorem come_inv {g : Graph} {w : Want} (hw : WFit g w) (down : List Bool) {node n : Int} (n0 : 0 ≤ n) (n1 : n ≤ w.via.length + 1) (hn : 0 ≤ node ∧ node < g.nodes) (hk : ∃ L, Walk g (pruned g w down) (gi (pts w) n) node L) (hg : ∀ j : Int, 0 ≤ j → j < n → 0 ≤ leg g w down j) :
    (0 ≤ come (pts w) node n ∧ come (pts w) node n ≤ w.via.length + 1) ∧ (¬ (come (pts w) node n + 1 < (pts w).length ∧ gi (pts w) (come (pts w) node n + 1) = node)) ∧
    (∃ L, Walk g (pruned g w down) (gi (pts w) (come (pts w) node n)) node L) ∧ (∀ j : Int, 0 ≤ j → j < come (pts w) node n → 0 ≤ leg g w down j) := by
  have hl := pts_length w
  have hb := come_le (l := pts w) (node := node) n0 (by omega)
  refine ⟨by omega, come_end n0 (by omega), ?_, fun j j0 j1 => ?_⟩
  · by_cases e : come (pts w) node n = n
    · rw [e]; exact hk
    · rw [come_at n0 (by omega) (show n < come (pts w) node n by omega) (Int.le_refl _)]
      exact ⟨0, .nil⟩
  · by_cases e : j < n
    · exact hg j j0 e
    · have hp := come_at (l := pts w) (node := node) n0 (by omega) (show n < j + 1 by omega) (by omega)
      have hd := (distL_spec hw.fit (pruned g w down) hn).1
      rw [leg, hp]
      by_cases e1 : j = n
      · obtain ⟨L, hk⟩ := hk
        rw [e1]
        exact (hd.least _ _ (walk_back hk)).1
      · rw [come_at (l := pts w) (node := node) n0 (by omega) (show n < j by omega) (by omega), hd.zero hw.fit hn]
        omega
theorem noLeg_get {g : Graph} {w : Want} {down : List Bool} {m : Nat} (h : noLeg g w down m = false) {j : Int} (j0 : 0 ≤ j) (j1 : j < m) : 0 ≤ leg g w down j := by
  rw [noLeg, List.any_eq_false] at h
  have := h j.toNat (by rw [List.mem_range]; omega)
  simp only [decide_eq_true_eq, Int.toNat_of_nonneg j0] at this
  omega
theorem noLeg_none {g : Graph} {w : Want} {down : List Bool} {m : Nat} (h : ∀ j : Int, 0 ≤ j → j < m → 0 ≤ leg g w down j) : noLeg g w down m = false := by
  rw [noLeg, List.any_eq_false]
  intro j hj
  rw [List.mem_range] at hj
  have := h j (by omega) (by omega)
  simp only [decide_eq_true_eq]
  omega
theorem optErr_noLeg {g : Graph} {w : Want} {down : List Bool} (h : optErr g w down = 0) : noLeg g w down (w.via.length + 1) = false := by
  unfold optErr at h
  split at h
  · exact absurd h ‹_›
  · cases hn : noLeg g w down (w.via.length + 1) with
    | false => rfl
    | true => rw [hn] at h; simp at h
theorem WInv.start {g : Graph} {w : Want} (hw : WFit g w) (down : List Bool) (es : List Int) : WInv g w down es w.src (come (pts w) w.src 0) 0 es := by
  obtain ⟨a, b, c, d⟩ := come_inv hw down (node := w.src) (Int.le_refl 0) (by omega) hw.src ⟨0, by rw [pts_zero]; exact .nil⟩ (fun j j0 j1 => by omega)
  have hr : totalW g w down = 0 + remW g w down w.src (come (pts w) w.src 0) := by
    rw [rem_come hw down (Int.le_refl 0) (by omega), remW, if_pos (by omega), legs_step g w down (Int.le_refl 0), leg, pts_zero, ← farOf]
    show _ = 0 + (_ + (_ - (0 + _)))
    omega
  exact ⟨a.1, a.2, hw.src, b, c, d, fun _ => by omega, fun _ => by rw [if_pos hr]; rfl⟩
/-- a node that one can go to is not beyond all ways -/
theorem far_some {g : Graph} {w : Want} (hw : WFit g w) {down : List Bool} {node n L : Int} (n0 : 0 ≤ n) (n1 : n ≤ w.via.length) (hk : Walk g (pruned g w down) (gi (pts w) n) node L) (hl : 0 ≤ leg g w down n) : 0 ≤ gi (farOf g w down (n + 1)) node := by
  have hp := hw.point (i := n + 1) (by omega) (by omega)
  have hd := (distL_spec hw.fit (pruned g w down) hp).1
  have hq := hw.point (i := n) n0 (by omega)
  exact (hd.least _ _ (walk_trans (hd.way _ hq.1 hq.2 hl) hk)).1
theorem far_step {g : Graph} {w : Want} (hw : WFit g w) (down : List Bool) {m e : Int} (m0 : 0 ≤ m) (m1 : m ≤ w.via.length + 1) (e0 : 0 ≤ e) (e1 : e < 2 * g.links.length) (hu : upE (pruned g w down) e = true) (hb : 0 ≤ gi (farOf g w down m) (ends g e).2.1) :
    gi (farOf g w down m) (ends g e).1 ≤ gi (farOf g w down m) (ends g e).2.1 + wt g e := by
  have hd := (distL_spec hw.fit (pruned g w down) (hw.point m0 m1)).1
  obtain ⟨e', f0, f1, f2, f3, f4⟩ := edge_back e0 e1
  have := hd.edge hw.fit f0 f1 (by unfold upE at hu ⊢; rw [f2]; exact hu) (by rw [f3]; exact hb)
  rw [f3, f4] at this
  have hwt : wt g e' = wt g e := by unfold wt; rw [f2]
  rw [hwt] at this
  exact this.2
theorem WInv.next {g : Graph} {w : Want} (hw : WFit g w) {down : List Bool} {es : List Int} {node n sum e : Int} {rest : List Int} (h : WInv g w down es node n sum (e :: rest)) (hok : (ends g e).2.2 = true) (hnode : (ends g e).1 = node) (hu : upE (pruned g w down) e = true) :
    WInv g w down es (ends g e).2.1 (come (pts w) (ends g e).2.1 n) (sum + wt g e) rest := by
  obtain ⟨e0, e1⟩ := ends_ok hok
  have hb := (hw.fit.b e e0 e1).2
  have hwt := hw.fit.w e e0 e1
  obtain ⟨n0, n1, here, stop, walk, got, cost, run⟩ := h
  obtain ⟨L, hk⟩ := walk
  have hk' : Walk g (pruned g w down) (gi (pts w) n) (ends g e).2.1 (L + wt g e) := .step hk e0 e1 hu hnode
  obtain ⟨a, b, c, d⟩ := come_inv hw down (node := (ends g e).2.1) n0 n1 hb ⟨_, hk'⟩ got
  have hr := rem_come hw down (node := (ends g e).2.1) n0 n1
  have key : noLeg g w down (w.via.length + 1) = false → n ≤ w.via.length → 0 ≤ gi (farOf g w down (n + 1)) (ends g e).2.1 ∧ gi (farOf g w down (n + 1)) node ≤ gi (farOf g w down (n + 1)) (ends g e).2.1 + wt g e := fun hn h1 => by
    have hb := far_some hw n0 h1 hk' (noLeg_get hn n0 (by omega))
    have := far_step hw down (m := n + 1) (by omega) (by omega) e0 e1 hu hb
    rw [hnode] at this
    exact ⟨hb, this⟩
  refine ⟨a.1, a.2, hb, b, c, d, fun hn => ?_, fun h0 => ?_⟩
  · have hc := cost hn
    rw [hr]
    unfold remW at hc ⊢
    by_cases h1 : n ≤ w.via.length
    · have := key hn h1
      rw [if_pos h1] at hc ⊢
      omega
    · rw [if_neg h1] at hc ⊢
      omega
  · have hn := optErr_noLeg h0
    have hc := cost hn
    rw [run h0, hr]
    have hs : stepW g w down (node, n) e = if n ≤ w.via.length ∧ gi (farOf g w down (n + 1)) node = gi (farOf g w down (n + 1)) (ends g e).2.1 + wt g e then some ((ends g e).2.1, come (pts w) (ends g e).2.1 n) else none := by
      unfold stepW
      by_cases hh : n ≤ w.via.length ∧ gi (farOf g w down (n + 1)) node = gi (farOf g w down (n + 1)) (ends g e).2.1 + wt g e
      · rw [if_pos hh, if_pos]
        refine ⟨h0, ⟨n0, by omega⟩, here, fun he => stop ⟨by rw [pts_length]; omega, he⟩, hok, hnode, hu, (key hn hh.1).1, hh.2⟩
      · rw [if_neg hh, if_neg]
        exact fun hs => hh ⟨by have := hs.2.1.2; dsimp only at this; omega, hs.2.2.2.2.2.2.2.2⟩
    rw [runW, hs]
    unfold remW at hc ⊢
    by_cases h1 : n ≤ w.via.length
    · have hk := key hn h1
      rw [if_pos h1] at hc
      simp only [h1, true_and, if_true]
      by_cases h2 : gi (farOf g w down (n + 1)) node = gi (farOf g w down (n + 1)) (ends g e).2.1 + wt g e
      · rw [if_pos h2, h2]
        simp only []
        congr 1
        rw [eq_iff_iff]
        omega
      · rw [if_neg h2]
        rw [if_neg (show ¬ totalW g w down = sum + wt g e + _ by omega)]
        simp
    · rw [if_neg h1] at hc
      simp only [if_neg h1, h1, false_and, if_false]
      rw [if_neg (show ¬ totalW g w down = sum + wt g e + 0 by omega)]
      simp
/-- no walk of the best has an edge that does not go on from here -/
theorem WInv.bad {g : Graph} {w : Want} {down : List Bool} {es : List Int} {node n sum e : Int} {rest : List Int} (h : WInv g w down es node n sum (e :: rest)) (hb : ¬ ((ends g e).2.2 = true ∧ (ends g e).1 = node ∧ upE (pruned g w down) e = true)) : ¬ HasW g w down es := by
  rintro ⟨h0, h1⟩
  rw [h.run h0] at h1
  have hs : stepW g w down (node, n) e = none := by
    rw [stepW, if_neg]
    exact fun hs => hb ⟨hs.2.2.2.2.1, hs.2.2.2.2.2.1, hs.2.2.2.2.2.2.1⟩
  rw [runW, hs] at h1
  split at h1 <;> cases h1
theorem WInv.short {g : Graph} {w : Want} {down : List Bool} {es : List Int} {node n sum : Int} (h : WInv g w down es node n sum []) (hb : n < w.via.length + 1 ∨ node ≠ w.dst) : ¬ HasW g w down es := by
  rintro ⟨h0, h1⟩
  rw [h.run h0] at h1
  split at h1
  · simp only [runW, goalW, Option.some.injEq, Prod.mk.injEq] at h1
    omega
  · cases h1
theorem WInv.done {g : Graph} {w : Want} {down : List Bool} {es : List Int} {sum : Int} (h : WInv g w down es w.dst (w.via.length + 1) sum []) :
    noLeg g w down (w.via.length + 1) = false ∧ totalW g w down ≤ sum ∧ (optErr g w down = 0 → (HasW g w down es ↔ sum = totalW g w down)) := by
  have hn : noLeg g w down (w.via.length + 1) = false := noLeg_none fun j j0 j1 => h.got j j0 (by omega)
  have hr : remW g w down w.dst (w.via.length + 1) = 0 := by rw [remW, if_neg (by omega)]
  have hc := h.cost hn
  have hrun := h.run
  rw [hr] at hc hrun
  refine ⟨hn, by omega, fun h0 => ?_⟩
  have h1 := hrun h0
  rw [HasW, h1]
  constructor
  · rintro ⟨_, h2⟩
    split at h2
    · omega
    · cases h2
  · intro h2
    rw [if_pos (by omega)]
    exact ⟨h0, rfl⟩
end Go.Proofs.Ytgahnhiidhkjaaa
end

section
/- The law OptLeast of chapter 15, as a contract. -/
namespace Go.Proofs.Ytgahnhiidhkjaaa
open Go Abs
attribute [local irreducible] EX exL exG exC exCq exS exV exIf exGd exGq
set_option maxHeartbeats 4000000

theorem qts_at (w : Want) {n : Int} (n0 : 0 ≤ n) (n1 : n < w.via.length + 1) : gi (w.via ++ [w.dst]) n = gi (pts w) (n + 1) := by
  rw [gi_get (by simp; omega), gi_get (by rw [pts_length]; omega)]
  simp [pts, show (n + 1).toNat = n.toNat + 1 by omega]
theorem small15_c (g : Graph) (hgl : g.links.length * 32 ≤ 140737488351232) (H : AHeap) : APure Try.prog 19 [g.av] H (bv (decide (g.nodes ≤ 10 ∧ g.links.length ≤ 16))) := by
  intro Q h
  refine ACalls.of_code fn_waymarklaw15_Small ?_
  simp -implicitDefEqProofs only [sc_waymarklaw15_Small, Graph.av, go_sem, Nat.reduceEqDiff, Nat.reduceAdd, Nat.reduceMul, Nat.reduceLeDiff, Nat.reduceSub, Nat.reduceLT, Nat.reduceBEq, Int.reduceToNat, reduceCtorEq, ↓reduceIte, Int.reduceEq, Int.reduceNeg, Int.reduceLT, Int.reduceLE, Int.reduceAdd, Int.reduceSub, Int.reduceMul]
  repeat' (first | simp -implicitDefEqProofs only [go_sem, Nat.reduceEqDiff, Nat.reduceAdd, Nat.reduceMul, Nat.reduceLeDiff, Nat.reduceSub, Nat.reduceLT, Nat.reduceBEq, Int.reduceToNat, reduceCtorEq, ↓reduceIte, Int.reduceEq, Int.reduceNeg, Int.reduceLT, Int.reduceLE, Int.reduceAdd, Int.reduceSub, Int.reduceMul] | simp -implicitDefEqProofs (disch := omega) only [iaq_vec, iao_arr, iaq_raw, rd_map, wrap_id, binq_quo, binq_rem, binq_shl, binq_shr, tdiv_pos, tmod_pos, if_pos, exV_some, Option.map_some] | ((first | with_reducible apply exIf_dec | ((with_reducible apply exGd_dec); focus exact rfl) | ((with_reducible apply exGq_dec); focus exact rfl) | with_reducible apply exIf_intro | ((with_reducible apply exGd_intro); focus exact rfl) | ((with_reducible apply exGq_intro); focus exact rfl)) <;> intro _))
  · refine fin_ h ?_
    show bv _ = bv _
    congr 1
    rw [decide_eq_decide]; omega
  · refine fin_ h ?_
    rw [decide_eq_false (by omega)]
theorem upE_pruned {g : Graph} {w : Want} {down : List Bool} {e : Int} (e0 : 0 ≤ e) (e1 : e < 2 * g.links.length) : upE (pruned g w down) e = !gi (pruned g w down) (e / 2) := by
  rw [upE, pruned_length, decide_eq_true (show e / 2 < (g.links.length : Int) by omega), Bool.true_and]
theorem optLeast_c (g : Graph) (hgl : g.links.length * 32 ≤ 140737488351232) (w : Want) (hw : w.ok) (nl : Bool) (down : List Bool) (nle : Bool) (es : List Int) (hes : I64s es) (hel : es.length * 8 ≤ 140737488351232) (H : AHeap) :
    APure Try.prog 5 [g.av, w.av, blv nl down, sl nle es] H (bv true) := by
  intro Q h
  have fc := fun H => few_c w H
  have sm := fun H => small15_c g hgl H
  have c1 := fun H => cost_c g w nl down hw H
  have c2 := fun H => rightWant_c g w hw H
  have c3 := fun H => pruned_ref_c g w nl down hw H (c2 H)
  have c7 := fun H => ohas_c g w nl down hw nle es hes (by omega) H
  simp only [Graph.av, Want.av, blv, sl] at fc sm c1 c2 c3 c7
  refine ACalls.forget (ACalls.of_code fn_waymarklaw15_OptLeast ?_)
  simp -implicitDefEqProofs only [sc_waymarklaw15_OptLeast, Graph.av, Want.av, blv, sl, go_sem, Nat.reduceEqDiff, Nat.reduceAdd, Nat.reduceMul, Nat.reduceLeDiff, Nat.reduceSub, Nat.reduceLT, Nat.reduceBEq, Int.reduceToNat, reduceCtorEq, ↓reduceIte, Int.reduceEq, Int.reduceNeg, Int.reduceLT, Int.reduceLE, Int.reduceAdd, Int.reduceSub, Int.reduceMul]
  refine exC_pure (alive15_c _) ?_
  repeat' (first | simp -implicitDefEqProofs only [go_sem, Nat.reduceEqDiff, Nat.reduceAdd, Nat.reduceMul, Nat.reduceLeDiff, Nat.reduceSub, Nat.reduceLT, Nat.reduceBEq, Int.reduceToNat, reduceCtorEq, ↓reduceIte, Int.reduceEq, Int.reduceNeg, Int.reduceLT, Int.reduceLE, Int.reduceAdd, Int.reduceSub, Int.reduceMul] | simp -implicitDefEqProofs (disch := omega) only [iaq_vec, iao_arr, iaq_raw, rd_map, wrap_id, binq_quo, binq_rem, binq_shl, binq_shr, tdiv_pos, tmod_pos, if_pos, exV_some, Option.map_some] | ((first | with_reducible apply exIf_dec | ((with_reducible apply exGd_dec); focus exact rfl) | ((with_reducible apply exGq_dec); focus exact rfl) | with_reducible apply exIf_intro | ((with_reducible apply exGd_intro); focus exact rfl) | ((with_reducible apply exGq_intro); focus exact rfl)) <;> intro _) | with_reducible refine exC_pure (fc _) ?_ | with_reducible refine exCq_pure (fc _) ?_ | with_reducible refine exC_pure (sm _) ?_ | with_reducible refine exCq_pure (sm _) ?_ | with_reducible refine exC_pure (c1 _) ?_ | with_reducible refine exCq_pure (c1 _) ?_ | with_reducible refine exC_pure (c2 _) ?_ | with_reducible refine exCq_pure (c2 _) ?_)
  all_goals first | exact ⟨fun _ _ h => h, h⟩ | skip
  have h0 : rightErr g w = 0 := by omega
  have c4 : prunedAV g w down = .vec false ((pruned g w down).map bv) g.links.length := by rw [prunedAV, if_pos h0]
  rw [c4] at c3
  repeat' (first | simp -implicitDefEqProofs only [go_sem, Nat.reduceEqDiff, Nat.reduceAdd, Nat.reduceMul, Nat.reduceLeDiff, Nat.reduceSub, Nat.reduceLT, Nat.reduceBEq, Int.reduceToNat, reduceCtorEq, ↓reduceIte, Int.reduceEq, Int.reduceNeg, Int.reduceLT, Int.reduceLE, Int.reduceAdd, Int.reduceSub, Int.reduceMul] | simp -implicitDefEqProofs (disch := omega) only [iaq_vec, iao_arr, iaq_raw, rd_map, wrap_id, binq_quo, binq_rem, binq_shl, binq_shr, tdiv_pos, tmod_pos, if_pos, exV_some, Option.map_some] | ((first | with_reducible apply exIf_dec | ((with_reducible apply exGd_dec); focus exact rfl) | ((with_reducible apply exGq_dec); focus exact rfl) | with_reducible apply exIf_intro | ((with_reducible apply exGd_intro); focus exact rfl) | ((with_reducible apply exGq_intro); focus exact rfl)) <;> intro _) | with_reducible refine exC_pure (c3 _) ?_ | with_reducible refine exCq_pure (c3 _) ?_)
  obtain ⟨w1, -⟩ := hw
  refine OnN.app (OnN.nil _ _ _) rfl (by simp) (by omega) (by simp only [maxLen]; omega) fun H1 v1 h1 _ => ?_
  repeat' (first | simp -implicitDefEqProofs only [go_sem, Nat.reduceEqDiff, Nat.reduceAdd, Nat.reduceMul, Nat.reduceLeDiff, Nat.reduceSub, Nat.reduceLT, Nat.reduceBEq, Int.reduceToNat, reduceCtorEq, ↓reduceIte, Int.reduceEq, Int.reduceNeg, Int.reduceLT, Int.reduceLE, Int.reduceAdd, Int.reduceSub, Int.reduceMul] | simp -implicitDefEqProofs (disch := omega) only [iaq_vec, iao_arr, iaq_raw, rd_map, wrap_id, binq_quo, binq_rem, binq_shl, binq_shr, tdiv_pos, tmod_pos, if_pos, exV_some, Option.map_some] | ((first | with_reducible apply exIf_dec | ((with_reducible apply exGd_dec); focus exact rfl) | ((with_reducible apply exGq_dec); focus exact rfl) | with_reducible apply exIf_intro | ((with_reducible apply exGd_intro); focus exact rfl) | ((with_reducible apply exGq_intro); focus exact rfl)) <;> intro _))
  refine OnN.app h1 rfl (by simp) (by omega) (by simp only [maxLen]; omega) fun H2 v2 _ h2 => ?_
  have h2 := h2 (by decide)
  clear h1
  have el : List.map iv w.via ++ [iv w.dst] = (w.via ++ [w.dst]).map iv := by simp
  obtain ⟨q, hqd⟩ : ∃ q, q = w.via ++ [w.dst] := ⟨_, rfl⟩
  have hq : q.length = w.via.length + 1 := by rw [hqd]; simp
  rw [List.nil_append, Nat.zero_add, el, ← hqd] at h2
  obtain ⟨hbase, hl, b, cap, rfl, hat, hbn, hcap⟩ := h2
  have hbn : H b = none := hbn
  have hb3 : ∀ b' o, H b' = some o → upd H2 b none b' = some o := fun b' o ho => by
    rw [upd_ne _ _ (by rintro rfl; rw [hbn] at ho; cases ho)]
    exact hbase b' o ho
  have htk : List.take (w.via.length + 1) (List.map iv q) = List.map iv q := List.take_of_length_le (by simp [hq])
  have hle : w.via.length + 1 ≤ (List.map iv q).length := by simp [hq]
  repeat' (first | simp -implicitDefEqProofs only [go_sem, Nat.reduceEqDiff, Nat.reduceAdd, Nat.reduceMul, Nat.reduceLeDiff, Nat.reduceSub, Nat.reduceLT, Nat.reduceBEq, Int.reduceToNat, reduceCtorEq, ↓reduceIte, Int.reduceEq, Int.reduceNeg, Int.reduceLT, Int.reduceLE, Int.reduceAdd, Int.reduceSub, Int.reduceMul] | simp -implicitDefEqProofs (disch := omega) only [hat, hle, Nat.mul_one, Nat.le_refl, hcap, and_self, if_true, Nat.zero_lt_one, htk, List.headD_cons, iaq_vec, iao_arr, iaq_raw, rd_map, wrap_id, binq_quo, binq_rem, binq_shl, binq_shr, tdiv_pos, tmod_pos, if_pos, exV_some, Option.map_some] | ((first | with_reducible apply exIf_dec | ((with_reducible apply exGd_dec); focus exact rfl) | ((with_reducible apply exGq_dec); focus exact rfl) | with_reducible apply exIf_intro | ((with_reducible apply exGd_intro); focus exact rfl) | ((with_reducible apply exGq_intro); focus exact rfl)) <;> intro _))
  have wf := wfit_of h0
  have hf := wf.fit
  have f3 := hf.few
  have f4 := wf.few
  have pl := pts_length w
  have hqa : ∀ n : Int, 0 ≤ n → n < w.via.length + 1 → gi q n = gi (pts w) (n + 1) := fun n a b => by rw [hqd]; exact qts_at w a b
  refine exL_mod (fun n : Int => [(15, .v (iv n))]) (fun _ => []) (fun n => 0 ≤ n ∧ n ≤ w.via.length + 1 ∧ come (pts w) w.src n = come (pts w) w.src 0) (fun n => (w.via.length + 1 - n).toNat) 0 rfl ⟨by omega, by omega, rfl⟩ ?_
  rintro n ⟨n0, n1, hn⟩ ih
  simp only [S.up, S.upH, ups, Abs.put, Nat.reduceEqDiff, ↓reduceIte, Nat.reduceAdd] at ih
  simp -implicitDefEqProofs only [congrArg KI.code sc_waymarklaw15_OptLeast_L2.eq_1, go_sem, Nat.reduceEqDiff, Nat.reduceAdd, Nat.reduceMul, Nat.reduceLeDiff, Nat.reduceSub, Nat.reduceLT, Nat.reduceBEq, Int.reduceToNat, reduceCtorEq, ↓reduceIte, Int.reduceEq, Int.reduceNeg, Int.reduceLT, Int.reduceLE, Int.reduceAdd, Int.reduceSub, Int.reduceMul]
  by_cases hc : n + 1 < (pts w).length ∧ gi (pts w) (n + 1) = w.src
  · have hc1 := hc.1
    have hqn := hqa n n0 (by omega)
    rw [hc.2] at hqn
    have nxt := ih (n + 1) ⟨by omega, by omega, by rw [← hn, come_go n0 hc.1 hc.2]⟩ (by omega)
    repeat' (first | simp -implicitDefEqProofs only [go_sem, Nat.reduceEqDiff, Nat.reduceAdd, Nat.reduceMul, Nat.reduceLeDiff, Nat.reduceSub, Nat.reduceLT, Nat.reduceBEq, Int.reduceToNat, reduceCtorEq, ↓reduceIte, Int.reduceEq, Int.reduceNeg, Int.reduceLT, Int.reduceLE, Int.reduceAdd, Int.reduceSub, Int.reduceMul] | simp -implicitDefEqProofs (disch := omega) only [iaq_vec, iao_arr, iaq_raw, rd_map, wrap_id, binq_quo, binq_rem, binq_shl, binq_shr, tdiv_pos, tmod_pos, if_pos, exV_some, Option.map_some] | ((first | with_reducible apply exIf_dec | ((with_reducible apply exGd_dec); focus exact rfl) | ((with_reducible apply exGq_dec); focus exact rfl) | with_reducible apply exIf_intro | ((with_reducible apply exGd_intro); focus exact rfl) | ((with_reducible apply exGq_intro); focus exact rfl)) <;> intro _))
    all_goals first | exact nxt | (exfalso; omega) | skip
    done
  clear ih
  rw [come_stop n0 hc] at hn
  have hqn : n < w.via.length + 1 → gi q n ≠ w.src := fun h => by rw [hqa n n0 h]; exact fun e => hc ⟨by omega, e⟩
  repeat' (first | simp -implicitDefEqProofs only [go_sem, Nat.reduceEqDiff, Nat.reduceAdd, Nat.reduceMul, Nat.reduceLeDiff, Nat.reduceSub, Nat.reduceLT, Nat.reduceBEq, Int.reduceToNat, reduceCtorEq, ↓reduceIte, Int.reduceEq, Int.reduceNeg, Int.reduceLT, Int.reduceLE, Int.reduceAdd, Int.reduceSub, Int.reduceMul] | simp -implicitDefEqProofs (disch := omega) only [iaq_vec, iao_arr, iaq_raw, rd_map, wrap_id, binq_quo, binq_rem, binq_shl, binq_shr, tdiv_pos, tmod_pos, if_pos, exV_some, Option.map_some] | ((first | with_reducible apply exIf_dec | ((with_reducible apply exGd_dec); focus exact rfl) | ((with_reducible apply exGq_dec); focus exact rfl) | with_reducible apply exIf_intro | ((with_reducible apply exGd_intro); focus exact rfl) | ((with_reducible apply exGq_intro); focus exact rfl)) <;> intro _))
  all_goals first | (exfalso; omega) | skip
  all_goals
    clear hqn
    have hst := WInv.start wf down es
    rw [← hn] at hst
    refine exL_mod (fun a : Int × Int × Int × Int => [(14, .v (iv a.1)), (15, .v (iv a.2.1)), (16, .v (iv a.2.2.1)), (17, .v (iv a.2.2.2))]) (fun _ => []) (fun a => 0 ≤ a.2.2.2 ∧ a.2.2.2 ≤ es.length ∧ WInv g w down es a.1 a.2.1 a.2.2.1 (es.drop a.2.2.2.toNat) ∧ 0 ≤ a.2.2.1 ∧ a.2.2.1 ≤ 16777216 * a.2.2.2) (fun a => (es.length - a.2.2.2).toNat) (w.src, n, 0, 0) rfl ⟨by simp, by simp, by simpa using hst, by simp, by simp⟩ ?_
    rintro ⟨now, m, sum, i⟩ ⟨i0, i1, hinv, s0, s1⟩ ih
    dsimp only at i0 i1 hinv s0 s1 ih
    simp only [S.up, S.upH, ups, Abs.put, Nat.reduceEqDiff, ↓reduceIte, Nat.reduceAdd] at ih
    simp -implicitDefEqProofs only [congrArg KI.code sc_waymarklaw15_OptLeast_L1.eq_1, go_sem, Nat.reduceEqDiff, Nat.reduceAdd, Nat.reduceMul, Nat.reduceLeDiff, Nat.reduceSub, Nat.reduceLT, Nat.reduceBEq, Int.reduceToNat, reduceCtorEq, ↓reduceIte, Int.reduceEq, Int.reduceNeg, Int.reduceLT, Int.reduceLE, Int.reduceAdd, Int.reduceSub, Int.reduceMul]
    by_cases hi : i < es.length
    · rw [drop_gi i0 hi] at hinv
      have ec := ends_ref_c g (gi es i) (hes.gi i0 hi)
      have ih := ih
      obtain ⟨e, he⟩ : ∃ e, e = gi es i := ⟨_, rfl⟩
      simp only [Graph.av, triIIB] at ec
      by_cases hgood : (ends g (gi es i)).2.2 = true ∧ (ends g (gi es i)).1 = now ∧ upE (pruned g w down) (gi es i) = true
      case neg =>
        have hno := hinv.bad hgood
        rw [decide_eq_false hno] at c7
        clear ih
        cases hok : (ends g (gi es i)).2.2 with
        | false =>
          rw [hok] at ec
          repeat' (first | simp -implicitDefEqProofs only [go_sem, Nat.reduceEqDiff, Nat.reduceAdd, Nat.reduceMul, Nat.reduceLeDiff, Nat.reduceSub, Nat.reduceLT, Nat.reduceBEq, Int.reduceToNat, reduceCtorEq, ↓reduceIte, Int.reduceEq, Int.reduceNeg, Int.reduceLT, Int.reduceLE, Int.reduceAdd, Int.reduceSub, Int.reduceMul] | simp -implicitDefEqProofs (disch := omega) only [iaq_vec, iao_arr, iaq_raw, rd_map, wrap_id, binq_quo, binq_rem, binq_shl, binq_shr, tdiv_pos, tmod_pos, if_pos, exV_some, Option.map_some] | ((first | with_reducible apply exIf_dec | ((with_reducible apply exGd_dec); focus exact rfl) | ((with_reducible apply exGq_dec); focus exact rfl) | with_reducible apply exIf_intro | ((with_reducible apply exGd_intro); focus exact rfl) | ((with_reducible apply exGq_intro); focus exact rfl)) <;> intro _) | with_reducible refine exC_pure (ec _) ?_ | with_reducible refine exCq_pure (ec _) ?_ | with_reducible refine exC_pure (c7 _) ?_ | with_reducible refine exCq_pure (c7 _) ?_)
          all_goals first | exact ⟨hb3, h⟩ | (exfalso; omega) | exact ⟨hb3, by rw [decide_eq_true (by omega)]; exact h⟩ | skip
          done
        | true =>
          obtain ⟨e0, e1⟩ := ends_ok hok
          have hup := upE_pruned (w := w) (down := down) e0 e1
          have hpl := pruned_length g w down
          rw [hok] at ec
          by_cases hnow : (ends g (gi es i)).1 = now
          · have hg1 : gi (pruned g w down) (gi es i / 2) = true := by
              cases hg : gi (pruned g w down) (gi es i / 2) with
              | true => rfl
              | false => exact absurd ⟨hok, hnow, by rw [hup, hg]; rfl⟩ hgood
            repeat' (first | simp -implicitDefEqProofs only [go_sem, Nat.reduceEqDiff, Nat.reduceAdd, Nat.reduceMul, Nat.reduceLeDiff, Nat.reduceSub, Nat.reduceLT, Nat.reduceBEq, Int.reduceToNat, reduceCtorEq, ↓reduceIte, Int.reduceEq, Int.reduceNeg, Int.reduceLT, Int.reduceLE, Int.reduceAdd, Int.reduceSub, Int.reduceMul] | simp -implicitDefEqProofs (disch := omega) only [hg1, iaq_vec, iao_arr, iaq_raw, rd_map, wrap_id, binq_quo, binq_rem, binq_shl, binq_shr, tdiv_pos, tmod_pos, if_pos, exV_some, Option.map_some] | ((first | with_reducible apply exIf_dec | ((with_reducible apply exGd_dec); focus exact rfl) | ((with_reducible apply exGq_dec); focus exact rfl) | with_reducible apply exIf_intro | ((with_reducible apply exGd_intro); focus exact rfl) | ((with_reducible apply exGq_intro); focus exact rfl)) <;> intro _) | with_reducible refine exC_pure (ec _) ?_ | with_reducible refine exCq_pure (ec _) ?_ | with_reducible refine exC_pure (c7 _) ?_ | with_reducible refine exCq_pure (c7 _) ?_)
            all_goals first | exact ⟨hb3, h⟩ | (exfalso; omega) | exact ⟨hb3, by rw [decide_eq_true (by omega)]; exact h⟩ | skip
            done
          · repeat' (first | simp -implicitDefEqProofs only [go_sem, Nat.reduceEqDiff, Nat.reduceAdd, Nat.reduceMul, Nat.reduceLeDiff, Nat.reduceSub, Nat.reduceLT, Nat.reduceBEq, Int.reduceToNat, reduceCtorEq, ↓reduceIte, Int.reduceEq, Int.reduceNeg, Int.reduceLT, Int.reduceLE, Int.reduceAdd, Int.reduceSub, Int.reduceMul] | simp -implicitDefEqProofs (disch := omega) only [iaq_vec, iao_arr, iaq_raw, rd_map, wrap_id, binq_quo, binq_rem, binq_shl, binq_shr, tdiv_pos, tmod_pos, if_pos, exV_some, Option.map_some] | ((first | with_reducible apply exIf_dec | ((with_reducible apply exGd_dec); focus exact rfl) | ((with_reducible apply exGq_dec); focus exact rfl) | with_reducible apply exIf_intro | ((with_reducible apply exGd_intro); focus exact rfl) | ((with_reducible apply exGq_intro); focus exact rfl)) <;> intro _) | with_reducible refine exC_pure (ec _) ?_ | with_reducible refine exCq_pure (ec _) ?_ | with_reducible refine exC_pure (c7 _) ?_ | with_reducible refine exCq_pure (c7 _) ?_)
            all_goals first | exact ⟨hb3, h⟩ | (exfalso; omega) | exact ⟨hb3, by rw [decide_eq_true (by omega)]; exact h⟩ | skip
            done
      obtain ⟨hok, hnow, hu⟩ := hgood
      have hnx := hinv.next wf hok hnow hu
      obtain ⟨e0, e1⟩ := ends_ok hok
      have hup := upE_pruned (w := w) (down := down) e0 e1
      have hpl := pruned_length g w down
      have hg1 : gi (pruned g w down) (gi es i / 2) = false := by
        rw [hu] at hup
        cases hg : gi (pruned g w down) (gi es i / 2) with
        | false => rfl
        | true => rw [hg] at hup; cases hup
      have hwt := hf.w (gi es i) e0 e1
      unfold wt at hwt
      rw [hok] at ec
      have m0 := hinv.n0
      have m1 := hinv.n1
      have hnb := (hf.b (gi es i) e0 e1).2
      have nxt := ih ((ends g (gi es i)).2.1, come (pts w) (ends g (gi es i)).2.1 m, sum + wt g (gi es i), i + 1) ⟨by dsimp only; omega, by dsimp only; omega, by simpa only [show (i + 1).toNat = i.toNat + 1 by omega] using hnx, by dsimp only; unfold wt; omega, by dsimp only; unfold wt; omega⟩ (by dsimp only; omega)
      unfold wt at nxt
      clear ih hinv hnx
      repeat' (first | simp -implicitDefEqProofs only [go_sem, Nat.reduceEqDiff, Nat.reduceAdd, Nat.reduceMul, Nat.reduceLeDiff, Nat.reduceSub, Nat.reduceLT, Nat.reduceBEq, Int.reduceToNat, reduceCtorEq, ↓reduceIte, Int.reduceEq, Int.reduceNeg, Int.reduceLT, Int.reduceLE, Int.reduceAdd, Int.reduceSub, Int.reduceMul] | simp -implicitDefEqProofs (disch := omega) only [hg1, rd_link2, iaq_vec, iao_arr, iaq_raw, rd_map, wrap_id, binq_quo, binq_rem, binq_shl, binq_shr, tdiv_pos, tmod_pos, if_pos, exV_some, Option.map_some] | ((first | with_reducible apply exIf_dec | ((with_reducible apply exGd_dec); focus exact rfl) | ((with_reducible apply exGq_dec); focus exact rfl) | with_reducible apply exIf_intro | ((with_reducible apply exGd_intro); focus exact rfl) | ((with_reducible apply exGq_intro); focus exact rfl)) <;> intro _) | with_reducible refine exC_pure (ec _) ?_ | with_reducible refine exCq_pure (ec _) ?_)
      all_goals first | (exfalso; omega) | skip
      refine exL_mod (fun n' : Int => [(15, .v (iv n'))]) (fun _ => []) (fun n' => 0 ≤ n' ∧ n' ≤ w.via.length + 1 ∧ come (pts w) (ends g (gi es i)).2.1 n' = come (pts w) (ends g (gi es i)).2.1 m) (fun n' => (w.via.length + 1 - n').toNat) m rfl ⟨by omega, by omega, rfl⟩ ?_
      rintro k ⟨k0, k1, hk⟩ ih2
      simp only [S.up, S.upH, ups, Abs.put, Nat.reduceEqDiff, ↓reduceIte, Nat.reduceAdd] at ih2
      simp -implicitDefEqProofs only [congrArg KI.code sc_waymarklaw15_OptLeast_L0.eq_1, go_sem, Nat.reduceEqDiff, Nat.reduceAdd, Nat.reduceMul, Nat.reduceLeDiff, Nat.reduceSub, Nat.reduceLT, Nat.reduceBEq, Int.reduceToNat, reduceCtorEq, ↓reduceIte, Int.reduceEq, Int.reduceNeg, Int.reduceLT, Int.reduceLE, Int.reduceAdd, Int.reduceSub, Int.reduceMul]
      by_cases hc2 : k + 1 < (pts w).length ∧ gi (pts w) (k + 1) = (ends g (gi es i)).2.1
      · have hc1 := hc2.1
        have hqn := hqa k k0 (by omega)
        rw [hc2.2] at hqn
        have nx2 := ih2 (k + 1) ⟨by omega, by omega, by rw [← hk, come_go k0 hc2.1 hc2.2]⟩ (by omega)
        repeat' (first | simp -implicitDefEqProofs only [go_sem, Nat.reduceEqDiff, Nat.reduceAdd, Nat.reduceMul, Nat.reduceLeDiff, Nat.reduceSub, Nat.reduceLT, Nat.reduceBEq, Int.reduceToNat, reduceCtorEq, ↓reduceIte, Int.reduceEq, Int.reduceNeg, Int.reduceLT, Int.reduceLE, Int.reduceAdd, Int.reduceSub, Int.reduceMul] | simp -implicitDefEqProofs (disch := omega) only [iaq_vec, iao_arr, iaq_raw, rd_map, wrap_id, binq_quo, binq_rem, binq_shl, binq_shr, tdiv_pos, tmod_pos, if_pos, exV_some, Option.map_some] | ((first | with_reducible apply exIf_dec | ((with_reducible apply exGd_dec); focus exact rfl) | ((with_reducible apply exGq_dec); focus exact rfl) | with_reducible apply exIf_intro | ((with_reducible apply exGd_intro); focus exact rfl) | ((with_reducible apply exGq_intro); focus exact rfl)) <;> intro _))
        all_goals first | exact nx2 | (exfalso; omega) | skip
        done
      clear ih2
      rw [come_stop k0 hc2] at hk
      have hqn : k < w.via.length + 1 → gi q k ≠ (ends g (gi es i)).2.1 := fun h => by rw [hqa k k0 h]; exact fun e => hc2 ⟨by omega, e⟩
      rw [← hk] at nxt
      repeat' (first | simp -implicitDefEqProofs only [go_sem, Nat.reduceEqDiff, Nat.reduceAdd, Nat.reduceMul, Nat.reduceLeDiff, Nat.reduceSub, Nat.reduceLT, Nat.reduceBEq, Int.reduceToNat, reduceCtorEq, ↓reduceIte, Int.reduceEq, Int.reduceNeg, Int.reduceLT, Int.reduceLE, Int.reduceAdd, Int.reduceSub, Int.reduceMul] | simp -implicitDefEqProofs (disch := omega) only [iaq_vec, iao_arr, iaq_raw, rd_map, wrap_id, binq_quo, binq_rem, binq_shl, binq_shr, tdiv_pos, tmod_pos, if_pos, exV_some, Option.map_some] | ((first | with_reducible apply exIf_dec | ((with_reducible apply exGd_dec); focus exact rfl) | ((with_reducible apply exGq_dec); focus exact rfl) | with_reducible apply exIf_intro | ((with_reducible apply exGd_intro); focus exact rfl) | ((with_reducible apply exGq_intro); focus exact rfl)) <;> intro _))
      all_goals first | exact nxt | (exfalso; omega) | skip
      done
    · rw [drop_end (by omega)] at hinv
      have m0 := hinv.n0
      have m1 := hinv.n1
      by_cases hend : m < w.via.length + 1 ∨ now ≠ w.dst
      · have hno := hinv.short hend
        rw [decide_eq_false hno] at c7
        clear ih
        repeat' (first | simp -implicitDefEqProofs only [go_sem, Nat.reduceEqDiff, Nat.reduceAdd, Nat.reduceMul, Nat.reduceLeDiff, Nat.reduceSub, Nat.reduceLT, Nat.reduceBEq, Int.reduceToNat, reduceCtorEq, ↓reduceIte, Int.reduceEq, Int.reduceNeg, Int.reduceLT, Int.reduceLE, Int.reduceAdd, Int.reduceSub, Int.reduceMul] | simp -implicitDefEqProofs (disch := omega) only [iaq_vec, iao_arr, iaq_raw, rd_map, wrap_id, binq_quo, binq_rem, binq_shl, binq_shr, tdiv_pos, tmod_pos, if_pos, exV_some, Option.map_some] | ((first | with_reducible apply exIf_dec | ((with_reducible apply exGd_dec); focus exact rfl) | ((with_reducible apply exGq_dec); focus exact rfl) | with_reducible apply exIf_intro | ((with_reducible apply exGd_intro); focus exact rfl) | ((with_reducible apply exGq_intro); focus exact rfl)) <;> intro _) | with_reducible refine exC_pure (c7 _) ?_ | with_reducible refine exCq_pure (c7 _) ?_)
        all_goals first | exact ⟨hb3, h⟩ | (exfalso; omega) | exact ⟨hb3, by rw [decide_eq_true (by omega)]; exact h⟩ | skip
        done
      · obtain rfl : m = w.via.length + 1 := by omega
        obtain rfl : now = w.dst := by omega
        obtain ⟨d1, d2, d3⟩ := hinv.done
        by_cases hbd : 0 < w.bound ∧ w.bound < totalW g w down
        · have hoe : optErr g w down = 8 := by rw [optErr, if_neg (by rw [h0]; decide), if_neg (by rw [d1]; decide)]; exact if_pos hbd
          repeat' (first | simp -implicitDefEqProofs only [go_sem, Nat.reduceEqDiff, Nat.reduceAdd, Nat.reduceMul, Nat.reduceLeDiff, Nat.reduceSub, Nat.reduceLT, Nat.reduceBEq, Int.reduceToNat, reduceCtorEq, ↓reduceIte, Int.reduceEq, Int.reduceNeg, Int.reduceLT, Int.reduceLE, Int.reduceAdd, Int.reduceSub, Int.reduceMul] | simp -implicitDefEqProofs (disch := omega) only [hoe, iaq_vec, iao_arr, iaq_raw, rd_map, wrap_id, binq_quo, binq_rem, binq_shl, binq_shr, tdiv_pos, tmod_pos, if_pos, exV_some, Option.map_some] | ((first | with_reducible apply exIf_dec | ((with_reducible apply exGd_dec); focus exact rfl) | ((with_reducible apply exGq_dec); focus exact rfl) | with_reducible apply exIf_intro | ((with_reducible apply exGd_intro); focus exact rfl) | ((with_reducible apply exGq_intro); focus exact rfl)) <;> intro _) | with_reducible refine exC_pure (num15_c _ _) ?_ | with_reducible refine exCq_pure (num15_c _ _) ?_)
          all_goals first | exact ⟨hb3, h⟩ | (exfalso; omega) | exact ⟨hb3, by rw [decide_eq_true (by omega)]; exact h⟩ | skip
          done
        · have hoe : optErr g w down = 0 := by rw [optErr, if_neg (by rw [h0]; decide), if_neg (by rw [d1]; decide)]; exact if_neg hbd
          have hco : optCost g w down = totalW g w down := by rw [optCost, if_pos hoe]; rfl
          have hh : decide (HasW g w down es) = decide (sum = totalW g w down) := by rw [decide_eq_decide]; exact d3 hoe
          rw [hh] at c7
          repeat' (first | simp -implicitDefEqProofs only [go_sem, Nat.reduceEqDiff, Nat.reduceAdd, Nat.reduceMul, Nat.reduceLeDiff, Nat.reduceSub, Nat.reduceLT, Nat.reduceBEq, Int.reduceToNat, reduceCtorEq, ↓reduceIte, Int.reduceEq, Int.reduceNeg, Int.reduceLT, Int.reduceLE, Int.reduceAdd, Int.reduceSub, Int.reduceMul] | simp -implicitDefEqProofs (disch := omega) only [hoe, hco, iaq_vec, iao_arr, iaq_raw, rd_map, wrap_id, binq_quo, binq_rem, binq_shl, binq_shr, tdiv_pos, tmod_pos, if_pos, exV_some, Option.map_some] | ((first | with_reducible apply exIf_dec | ((with_reducible apply exGd_dec); focus exact rfl) | ((with_reducible apply exGq_dec); focus exact rfl) | with_reducible apply exIf_intro | ((with_reducible apply exGd_intro); focus exact rfl) | ((with_reducible apply exGq_intro); focus exact rfl)) <;> intro _) | with_reducible refine exC_pure (num15_c _ _) ?_ | with_reducible refine exCq_pure (num15_c _ _) ?_ | with_reducible refine exC_pure (c7 _) ?_ | with_reducible refine exCq_pure (c7 _) ?_)
          all_goals first | exact ⟨hb3, h⟩ | (exfalso; omega) | exact ⟨hb3, by rw [decide_eq_true (by omega)]; exact h⟩ | skip
          done
end Go.Proofs.Ytgahnhiidhkjaaa
end

section
/- Going on as the best ways say ends at the goal, after few steps: in plain Lean. -/
namespace Go.Proofs.Ytgahnhiidhkjaaa
open Go Abs
attribute [local irreducible] EX exL exG exC exCq exS exV exIf exGd exGq
set_option maxHeartbeats 1000000

/-- how many nodes are nearer -/
def cntL (d : List Int) (x : Int) : Nat := d.countP fun y => decide (0 ≤ y ∧ y < x)
theorem cntL_lt : ∀ (d : List Int) {x y : Int}, 0 ≤ y → y < x → y ∈ d → cntL d y < cntL d x
  | [], x, y, _, _, h => by cases h
  | z :: d, x, y, h0, h1, h => by
    have hle : cntL d y ≤ cntL d x := List.countP_mono_left fun u _ hu => by simp only [decide_eq_true_eq] at hu ⊢; omega
    unfold cntL at hle ⊢
    rw [List.countP_cons, List.countP_cons]
    rcases List.mem_cons.1 h with e | h
    · subst e
      rw [if_neg (by simp), if_pos (by simp; omega)]
      omega
    · have ih := cntL_lt d h0 h1 h
      unfold cntL at ih
      split <;> split
      · omega
      · rename_i a b; simp only [decide_eq_true_eq] at a b; omega
      · omega
      · omega
theorem cntL_le (d : List Int) (x : Int) (h : x ∈ d) : cntL d x + 1 ≤ d.length := by
  unfold cntL
  induction d with
  | nil => cases h
  | cons z d ih =>
    rw [List.countP_cons, List.length_cons]
    rcases List.mem_cons.1 h with e | h
    · subst e
      rw [if_neg (by simp)]
      have := List.countP_le_length (p := fun y => decide (0 ≤ y ∧ y < x)) (l := d)
      omega
    · have := ih h
      split <;> omega
/-- at most so many steps are left -/
noncomputable def potW (g : Graph) (w : Want) (down : List Bool) (node n : Int) : Int := if n ≤ w.via.length then cntL (farOf g w down (n + 1)) (gi (farOf g w down (n + 1)) node) + 9 * (w.via.length - n) else 0

structure BInvW (g : Graph) (w : Want) (down : List Bool) (es : List Int) (node n sum : Int) : Prop where
  n0 : 0 ≤ n
  n1 : n ≤ w.via.length + 1
  here : 0 ≤ node ∧ node < g.nodes
  stop : ¬ (n + 1 < (pts w).length ∧ gi (pts w) (n + 1) = node)
  at_end : n = w.via.length + 1 → node = w.dst
  near : n ≤ w.via.length → 0 ≤ gi (farOf g w down (n + 1)) node
  sum : sum + remW g w down node n = totalW g w down
  run : runW g w down (startW w) es = some (node, n)
theorem runW_append (g : Graph) (w : Want) (down : List Bool) : ∀ (es : List Int) (a b : Int × Int) (k : Int), runW g w down a es = some b → runW g w down a (es ++ [k]) = stepW g w down b k
  | [], a, b, k, h => by
    simp only [runW, Option.some.injEq] at h
    subst h
    simp only [List.nil_append, runW]
    cases stepW g w down a k <;> rfl
  | e :: es, a, b, k, h => by
    rw [runW] at h
    rw [List.cons_append, runW]
    cases hs : stepW g w down a e with
    | none => rw [hs] at h; cases h
    | some c =>
      rw [hs] at h
      exact runW_append g w down es c b k h
/-- one comes to a node on the best ways -/
theorem come_best {g : Graph} {w : Want} (hw : WFit g w) {down : List Bool} (hn : noLeg g w down (w.via.length + 1) = false) {node n : Int} (n0 : 0 ≤ n) (n1 : n ≤ w.via.length) (hnode : 0 ≤ node ∧ node < g.nodes) (hnear : 0 ≤ gi (farOf g w down (n + 1)) node) :
    (come (pts w) node n = w.via.length + 1 → node = w.dst) ∧ (come (pts w) node n ≤ w.via.length → 0 ≤ gi (farOf g w down (come (pts w) node n + 1)) node) := by
  have hl := pts_length w
  have hb := come_le (l := pts w) (node := node) n0 (by omega)
  constructor
  · intro h
    rw [← pts_last w, ← h]
    exact (come_at n0 (by omega) (by omega) (Int.le_refl _)).symm
  · intro h
    by_cases e : come (pts w) node n = n
    · rw [e]; exact hnear
    · have hp := come_at (l := pts w) (node := node) n0 (by omega) (show n < come (pts w) node n by omega) (Int.le_refl _)
      have := noLeg_get hn (j := come (pts w) node n) (by omega) (by omega)
      rw [leg, hp] at this
      exact this
theorem far_length {g : Graph} {w : Want} (hw : WFit g w) (down : List Bool) {n : Int} (n0 : 0 ≤ n) (n1 : n ≤ w.via.length + 1) : ((farOf g w down n).length : Int) = g.nodes :=
  ((distL_spec hw.fit (pruned g w down) (hw.point n0 n1)).1).len
theorem pot_bound {g : Graph} {w : Want} (hw : WFit g w) (down : List Bool) (hs : g.nodes ≤ 10) {node n : Int} (n0 : 0 ≤ n) (n1 : n ≤ w.via.length + 1) (hnode : 0 ≤ node ∧ node < g.nodes) : 0 ≤ potW g w down node n ∧ potW g w down node n ≤ 9 + 9 * (w.via.length - n) := by
  unfold potW
  split
  · have hl := far_length hw down (n := n + 1) (by omega) (by omega)
    have := cntL_le (farOf g w down (n + 1)) (gi (farOf g w down (n + 1)) node) (gi_mem hnode.1 (by omega))
    omega
  · omega
theorem BInvW.start {g : Graph} {w : Want} {down : List Bool} (hw : WFit g w) (h0 : optErr g w down = 0) : BInvW g w down [] w.src (come (pts w) w.src 0) 0 := by
  have hn := optErr_noLeg h0
  have hi := WInv.start hw down []
  have hl0 := noLeg_get hn (j := 0) (Int.le_refl 0) (by omega)
  obtain ⟨b1, b2⟩ := come_best hw hn (node := w.src) (n := 0) (Int.le_refl 0) (by omega) hw.src (by rw [leg, pts_zero] at hl0; exact hl0)
  refine ⟨hi.n0, hi.n1, hi.here, hi.stop, b1, b2, ?_, rfl⟩
  rw [rem_come hw down (Int.le_refl 0) (by omega), remW, if_pos (by omega), legs_step g w down (Int.le_refl 0), leg, pts_zero, ← farOf]
  show 0 + (_ + (_ - (0 + _))) = _
  omega
theorem BInvW.next {g : Graph} {w : Want} {down : List Bool} (hw : WFit g w) (hs : g.nodes ≤ 10) {es : List Int} {node n sum e : Int} (h : BInvW g w down es node n sum) (hk : stepOk g w down node n e) :
    BInvW g w down (es ++ [e]) (ends g e).2.1 (come (pts w) (ends g e).2.1 n) (sum + wt g e) ∧ potW g w down (ends g e).2.1 (come (pts w) (ends g e).2.1 n) + 1 ≤ potW g w down node n := by
  obtain ⟨h0, ⟨n0, n1⟩, here, hne, hok, hnode, hu, hb0, hb1⟩ := hk
  obtain ⟨e0, e1⟩ := ends_ok hok
  have hn := optErr_noLeg h0
  have hb := (hw.fit.b e e0 e1).2
  have hwt := hw.fit.w e e0 e1
  have hl := pts_length w
  have hcl := come_le (l := pts w) (node := (ends g e).2.1) n0 (by omega)
  obtain ⟨b1, b2⟩ := come_best hw hn n0 (by omega) hb hb0
  have hr := rem_come hw down (node := (ends g e).2.1) n0 (by omega)
  refine ⟨⟨by omega, by omega, hb, come_end n0 (by omega), b1, b2, ?_, ?_⟩, ?_⟩
  · have := h.sum
    rw [hr]
    unfold remW at this ⊢
    rw [if_pos (by omega)] at this ⊢
    omega
  · rw [runW_append g w down es _ _ e h.run, stepW, if_pos ⟨h0, ⟨n0, n1⟩, here, hne, hok, hnode, hu, hb0, hb1⟩]
  · have hfl := far_length hw down (n := n + 1) (by omega) (by omega)
    have hc := cntL_lt (farOf g w down (n + 1)) hb0 (show _ < gi (farOf g w down (n + 1)) node by omega) (gi_mem hb.1 (by omega))
    have hp := pot_bound hw down hs (node := (ends g e).2.1) (n := come (pts w) (ends g e).2.1 n) (by omega) (by omega) hb
    have hpn : potW g w down node n = cntL (farOf g w down (n + 1)) (gi (farOf g w down (n + 1)) node) + 9 * (w.via.length - n) := by rw [potW, if_pos (by omega)]
    by_cases e : come (pts w) (ends g e).2.1 n = n
    · rw [e] at hp ⊢
      rw [hpn, potW, if_pos (by omega)]
      omega
    · omega
theorem BInvW.on {g : Graph} {w : Want} {down : List Bool} (hw : WFit g w) (h0 : optErr g w down = 0) {es : List Int} {node n sum : Int} (h : BInvW g w down es node n sum) (hg : (node, n) ≠ goalW w) :
    ∃ e : Int, 0 ≤ e ∧ e < 2 * g.links.length ∧ stepOk g w down node n e := by
  have hn : n ≤ w.via.length := by
    by_cases e : n = w.via.length + 1
    · exact absurd (by rw [goalW, h.at_end e, e]) hg
    · have := h.n1; omega
  have n0 := h.n0
  have hp := hw.point (i := n + 1) (by omega) (by omega)
  have hd := (distL_spec hw.fit (pruned g w down) hp).1
  have hne : gi (pts w) (n + 1) ≠ node := fun e => h.stop ⟨by rw [pts_length]; omega, e⟩
  rcases hd.made hw.fit hp h.here.1 h.here.2 (h.near hn) with e | ⟨e, e0, e1, hu, ha, hb, hc⟩
  · exact absurd e.symm hne
  · obtain ⟨e', f0, f1, f2, f3, f4⟩ := edge_back e0 e1
    refine ⟨e', f0, f1, h0, ⟨n0, by omega⟩, h.here, hne, ?_, by rw [f3, hb], ?_, by rw [f4]; exact ha, ?_⟩
    · unfold ends
      rw [if_neg (by omega)]
      split <;> rfl
    · unfold upE at hu ⊢
      rw [f2]; exact hu
    · have hwt : wt g e' = wt g e := by unfold wt; rw [f2]
      rw [f4, hwt]
      exact hc.symm
theorem BInvW.fin {g : Graph} {w : Want} {down : List Bool} (h0 : optErr g w down = 0) {es : List Int} {sum : Int} (h : BInvW g w down es w.dst (w.via.length + 1) sum) : sum = optCost g w down ∧ HasW g w down es := by
  have hs := h.sum
  rw [remW, if_neg (by omega)] at hs
  refine ⟨by rw [optCost, if_pos h0]; exact (by omega : sum = totalW g w down), h0, ?_⟩
  rw [h.run]; rfl
end Go.Proofs.Ytgahnhiidhkjaaa
end

section
/- The law OptBest of chapter 15, as a contract. -/
namespace Go.Proofs.Ytgahnhiidhkjaaa
open Go Abs
attribute [local irreducible] EX exL exG exC exCq exS exV exIf exGd exGq
set_option maxHeartbeats 4000000

/-- the edges ahead of m that go on -/
noncomputable def mayL (g : Graph) (w : Want) (down : List Bool) (a : Int × Int) (m : Nat) : List Int := ((List.range m).map fun (k : Nat) => (k : Int)).filter fun k => (stepW g w down a k).isSome
theorem mayL_succ (g : Graph) (w : Want) (down : List Bool) (a : Int × Int) {m : Int} (h : 0 ≤ m) : mayL g w down a (m + 1).toNat = mayL g w down a m.toNat ++ if (stepW g w down a m).isSome = true then [m] else [] := by
  rw [show (m + 1).toNat = m.toNat + 1 by omega, mayL, List.range_succ, List.map_append, List.filter_append, ← mayL]
  simp only [List.map_cons, List.map_nil, List.filter_cons, List.filter_nil, Int.toNat_of_nonneg h]
theorem mayL_mem {g : Graph} {w : Want} {down : List Bool} {a : Int × Int} {m : Nat} {k : Int} : k ∈ mayL g w down a m ↔ (0 ≤ k ∧ k < m) ∧ stepOk g w down a.1 a.2 k := by
  unfold mayL
  rw [List.mem_filter, List.mem_map]
  have hs : (stepW g w down a k).isSome = true ↔ stepOk g w down a.1 a.2 k := by
    unfold stepW
    split
    · simpa using ‹_›
    · simpa using ‹_›
  rw [hs]
  constructor
  · rintro ⟨⟨j, hj, rfl⟩, h⟩
    rw [List.mem_range] at hj
    exact ⟨by omega, h⟩
  · rintro ⟨h1, h⟩
    exact ⟨⟨k.toNat, by rw [List.mem_range]; omega, by omega⟩, h⟩
theorem mayL_length (g : Graph) (w : Want) (down : List Bool) (a : Int × Int) (m : Nat) : (mayL g w down a m).length ≤ m := by
  unfold mayL
  have := List.length_filter_le (fun k => (stepW g w down a k).isSome) ((List.range m).map fun (k : Nat) => (k : Int))
  simpa using this
theorem and1023b (x : Int) : 0 ≤ iand .i64 x 1023 ∧ iand .i64 x 1023 ≤ 1023 := by
  have h : (BitVec.ofInt IntKind.i64.bits x &&& BitVec.ofInt IntKind.i64.bits 1023).toNat ≤ 1023 := by
    rw [BitVec.toNat_and]
    exact Nat.le_trans Nat.and_le_right (by decide)
  unfold iand
  rw [wrap_id (by omega) (by omega)]
  omega
theorem optBest_c (g : Graph) (hgl : g.links.length * 32 ≤ 140737488351232) (w : Want) (hw : w.ok) (nl : Bool) (down : List Bool) (nlp : Bool) (ps : List Int) (hps : I64s ps) (hpl : ps.length * 8 ≤ 140737488351232) (H : AHeap) :
    APure Try.prog 8 [g.av, w.av, blv nl down, sl nlp ps] H (bv true) := by
  intro Q h
  have fc := fun H => few_c w H
  have sm := fun H => small15_c g hgl H
  have c1 := fun H => cost_c g w nl down hw H
  have c2 := fun H => rightWant_c g w hw H
  have c3 := fun H => pruned_ref_c g w nl down hw H (c2 H)
  have cs := fun H => start_c w hw H
  have cg := fun H => goal_c w hw H
  have c7 := fun nle es (hes : I64s es) (hel : es.length ≤ 140737488351232) H => ohas_c g w nl down hw nle es hes hel H
  have st := fun node n e he H => ostep_c g w nl down hw node n e he H
  simp only [Graph.av, Want.av, blv, sl] at fc sm c1 c2 c3 c7 cs cg st
  refine ACalls.forget (ACalls.of_code fn_waymarklaw15_OptBest ?_)
  simp -implicitDefEqProofs only [sc_waymarklaw15_OptBest, Graph.av, Want.av, blv, sl, go_sem, Nat.reduceEqDiff, Nat.reduceAdd, Nat.reduceMul, Nat.reduceLeDiff, Nat.reduceSub, Nat.reduceLT, Nat.reduceBEq, Int.reduceToNat, reduceCtorEq, ↓reduceIte, Int.reduceEq, Int.reduceNeg, Int.reduceLT, Int.reduceLE, Int.reduceAdd, Int.reduceSub, Int.reduceMul]
  refine exC_pure (alive15_c _) ?_
  repeat' (first | simp -implicitDefEqProofs only [go_sem, Nat.reduceEqDiff, Nat.reduceAdd, Nat.reduceMul, Nat.reduceLeDiff, Nat.reduceSub, Nat.reduceLT, Nat.reduceBEq, Int.reduceToNat, reduceCtorEq, ↓reduceIte, Int.reduceEq, Int.reduceNeg, Int.reduceLT, Int.reduceLE, Int.reduceAdd, Int.reduceSub, Int.reduceMul] | simp -implicitDefEqProofs (disch := omega) only [iaq_vec, iao_arr, iaq_raw, rd_map, wrap_id, binq_quo, binq_rem, binq_shl, binq_shr, tdiv_pos, tmod_pos, if_pos, exV_some, Option.map_some] | ((first | with_reducible apply exIf_dec | ((with_reducible apply exGd_dec); focus exact rfl) | ((with_reducible apply exGq_dec); focus exact rfl) | with_reducible apply exIf_intro | ((with_reducible apply exGd_intro); focus exact rfl) | ((with_reducible apply exGq_intro); focus exact rfl)) <;> intro _) | with_reducible refine exC_pure (fc _) ?_ | with_reducible refine exCq_pure (fc _) ?_ | with_reducible refine exC_pure (sm _) ?_ | with_reducible refine exCq_pure (sm _) ?_ | with_reducible refine exC_pure (c1 _) ?_ | with_reducible refine exCq_pure (c1 _) ?_ | with_reducible refine exC_pure (num15_c _ _) ?_ | with_reducible refine exCq_pure (num15_c _ _) ?_)
  all_goals first | exact ⟨fun _ _ h => h, h⟩ | skip
  have h0 : optErr g w down = 0 := by omega
  have hr := optErr_right h0
  have c4 : prunedAV g w down = .vec false ((pruned g w down).map bv) g.links.length := by rw [prunedAV, if_pos hr]
  rw [c4] at c3
  have wf := wfit_of hr
  have hf := wf.fit
  have f3 := hf.few
  have f4 := wf.few
  have pl := pts_length w
  have hst := BInvW.start wf h0
  have hbig : g.nodes ≤ 10 ∧ g.links.length ≤ 16 := by omega
  have hpot := pot_bound wf down hbig.1 hst.n0 hst.n1 hst.here
  repeat' (first | simp -implicitDefEqProofs only [go_sem, Nat.reduceEqDiff, Nat.reduceAdd, Nat.reduceMul, Nat.reduceLeDiff, Nat.reduceSub, Nat.reduceLT, Nat.reduceBEq, Int.reduceToNat, reduceCtorEq, ↓reduceIte, Int.reduceEq, Int.reduceNeg, Int.reduceLT, Int.reduceLE, Int.reduceAdd, Int.reduceSub, Int.reduceMul] | simp -implicitDefEqProofs (disch := omega) only [iaq_vec, iao_arr, iaq_raw, rd_map, wrap_id, binq_quo, binq_rem, binq_shl, binq_shr, tdiv_pos, tmod_pos, if_pos, exV_some, Option.map_some] | ((first | with_reducible apply exIf_dec | ((with_reducible apply exGd_dec); focus exact rfl) | ((with_reducible apply exGq_dec); focus exact rfl) | with_reducible apply exIf_intro | ((with_reducible apply exGd_intro); focus exact rfl) | ((with_reducible apply exGq_intro); focus exact rfl)) <;> intro _) | with_reducible refine exC_pure (c3 _) ?_ | with_reducible refine exCq_pure (c3 _) ?_ | with_reducible refine exC_pure (cs _) ?_ | with_reducible refine exCq_pure (cs _) ?_)
  refine exL_mod (fun a : (Int × Int) × Int × Int × List Int => [(14, .v (iv a.2.1)), (16, .v (iv a.2.2.1))]) (fun a => [(13, .cells [iv a.1.1, iv a.1.2] 63), (129, .arr a.2.2.2.isEmpty (a.2.2.2.map iv) a.2.2.2.length 3 1)])
    (fun a => 0 ≤ a.2.2.1 ∧ BInvW g w down a.2.2.2 a.1.1 a.1.2 a.2.1 ∧ potW g w down a.1.1 a.1.2 + a.2.2.1 ≤ 45 ∧ 0 ≤ a.2.1 ∧ a.2.1 ≤ 16777216 * a.2.2.1 ∧ a.2.2.2.length ≤ a.2.2.1 ∧ (∀ x ∈ a.2.2.2, 0 ≤ x ∧ x ≤ 1000)) (fun a => (45 - a.2.2.1).toNat) ((w.src, come (pts w) w.src 0), 0, 0, []) rfl ⟨by simp, hst, by dsimp only; have := hst.n0; omega, by simp, by simp, by simp, by simp⟩ ?_
  rintro ⟨⟨now, n⟩, sum, i, es⟩ ⟨i0, hinv, hp, s0, s1, hel, hes⟩ ih
  dsimp only at i0 hinv hp s0 s1 hel hes ih
  simp only [S.up, S.upH, ups, Abs.put, Nat.reduceEqDiff, ↓reduceIte, Nat.reduceAdd] at ih
  have hpn := pot_bound wf down hbig.1 hinv.n0 hinv.n1 hinv.here
  simp -implicitDefEqProofs only [congrArg KI.code sc_waymarklaw15_OptBest_L4.eq_1, go_sem, Nat.reduceEqDiff, Nat.reduceAdd, Nat.reduceMul, Nat.reduceLeDiff, Nat.reduceSub, Nat.reduceLT, Nat.reduceBEq, Int.reduceToNat, reduceCtorEq, ↓reduceIte, Int.reduceEq, Int.reduceNeg, Int.reduceLT, Int.reduceLE, Int.reduceAdd, Int.reduceSub, Int.reduceMul]
  by_cases hg : (now, n) = goalW w
  case neg =>
    have hg' : ¬ (now = w.dst ∧ n = w.via.length + 1) := fun e => hg (by rw [goalW, e.1, e.2])
    have hgd : (decide (now = w.dst) && decide (n = (w.via.length : Int) + 1)) = false := by
      rw [← Bool.decide_and]; exact decide_eq_false hg'
    obtain ⟨f, hfd⟩ : ∃ f : Int → List Int, f = fun k => mayL g w down (now, n) k.toNat := ⟨_, rfl⟩
    have f0 : f 0 = [] := by rw [hfd]; rfl
    have fl : ∀ k : Int, 0 ≤ k → (f k).length ≤ k := fun k hk => by
      rw [hfd]
      have := mayL_length g w down (now, n) k.toNat
      dsimp only
      omega
    have fs : ∀ k : Int, 0 ≤ k → f (k + 1) = f k ++ if (stepW g w down (now, n) k).isSome = true then [k] else [] := fun k k0 => by rw [hfd]; exact mayL_succ g w down (now, n) k0
    have fm : ∀ k : Int, k ∈ f (2 * g.links.length) ↔ (0 ≤ k ∧ k < 2 * g.links.length) ∧ stepOk g w down now n k := fun k => by
      rw [hfd, mayL_mem]
      dsimp only
      rw [show (((2 * (g.links.length : Int)).toNat : Nat) : Int) = 2 * g.links.length by omega]
    clear hfd
    repeat' (first | simp -implicitDefEqProofs only [go_sem, Nat.reduceEqDiff, Nat.reduceAdd, Nat.reduceMul, Nat.reduceLeDiff, Nat.reduceSub, Nat.reduceLT, Nat.reduceBEq, Int.reduceToNat, reduceCtorEq, ↓reduceIte, Int.reduceEq, Int.reduceNeg, Int.reduceLT, Int.reduceLE, Int.reduceAdd, Int.reduceSub, Int.reduceMul] | simp -implicitDefEqProofs (disch := omega) only [hgd, iaq_vec, iao_arr, iaq_raw, rd_map, wrap_id, binq_quo, binq_rem, binq_shl, binq_shr, tdiv_pos, tmod_pos, if_pos, exV_some, Option.map_some] | ((first | with_reducible apply exIf_dec | ((with_reducible apply exGd_dec); focus exact rfl) | ((with_reducible apply exGq_dec); focus exact rfl) | with_reducible apply exIf_intro | ((with_reducible apply exGd_intro); focus exact rfl) | ((with_reducible apply exGq_intro); focus exact rfl)) <;> intro _) | with_reducible refine exC_pure (cg _) ?_ | with_reducible refine exCq_pure (cg _) ?_)
    all_goals first | (exfalso; omega) | skip
    refine exL_mod (fun k : Int => [(18, .v (iv k))]) (fun k => [(97, .arr (f k).isEmpty ((f k).map iv) (f k).length 3 1)]) (fun k => 0 ≤ k ∧ k ≤ 2 * g.links.length) (fun k => (2 * g.links.length - k).toNat) 0 (by rw [f0]; rfl) ⟨by omega, by omega⟩ ?_
    rintro k ⟨k0, k1⟩ ih2
    simp only [S.up, S.upH, ups, Abs.put, Nat.reduceEqDiff, ↓reduceIte, Nat.reduceAdd] at ih2
    simp -implicitDefEqProofs only [congrArg KI.code sc_waymarklaw15_OptBest_L3.eq_1, go_sem, Nat.reduceEqDiff, Nat.reduceAdd, Nat.reduceMul, Nat.reduceLeDiff, Nat.reduceSub, Nat.reduceLT, Nat.reduceBEq, Int.reduceToNat, reduceCtorEq, ↓reduceIte, Int.reduceEq, Int.reduceNeg, Int.reduceLT, Int.reduceLE, Int.reduceAdd, Int.reduceSub, Int.reduceMul]
    by_cases hk : k < 2 * g.links.length
    · have st1 := st now n k (by omega)
      have flk := fl k k0
      have hs := fs k k0
      have nxt := ih2 (k + 1) ⟨by omega, by omega⟩ (by omega)
      cases hsw : stepW g w down (now, n) k with
      | none =>
        rw [hsw] at st1 hs
        rw [Option.isSome_none, if_neg (by decide), List.append_nil] at hs
        rw [hs] at nxt
        simp only [stepAV] at st1
        repeat' (first | simp -implicitDefEqProofs only [go_sem, Nat.reduceEqDiff, Nat.reduceAdd, Nat.reduceMul, Nat.reduceLeDiff, Nat.reduceSub, Nat.reduceLT, Nat.reduceBEq, Int.reduceToNat, reduceCtorEq, ↓reduceIte, Int.reduceEq, Int.reduceNeg, Int.reduceLT, Int.reduceLE, Int.reduceAdd, Int.reduceSub, Int.reduceMul] | simp -implicitDefEqProofs (disch := omega) only [iaq_vec, iao_arr, iaq_raw, rd_map, wrap_id, binq_quo, binq_rem, binq_shl, binq_shr, tdiv_pos, tmod_pos, if_pos, exV_some, Option.map_some] | ((first | with_reducible apply exIf_dec | ((with_reducible apply exGd_dec); focus exact rfl) | ((with_reducible apply exGq_dec); focus exact rfl) | with_reducible apply exIf_intro | ((with_reducible apply exGd_intro); focus exact rfl) | ((with_reducible apply exGq_intro); focus exact rfl)) <;> intro _) | with_reducible refine exC_pure (st1 _) ?_ | with_reducible refine exCq_pure (st1 _) ?_)
        all_goals first | exact nxt | (exfalso; omega) | skip
        done
      | some b =>
        rw [hsw] at st1 hs
        rw [Option.isSome_some, if_pos rfl] at hs
        simp only [stepAV, stateAV] at st1
        repeat' (first | simp -implicitDefEqProofs only [go_sem, Nat.reduceEqDiff, Nat.reduceAdd, Nat.reduceMul, Nat.reduceLeDiff, Nat.reduceSub, Nat.reduceLT, Nat.reduceBEq, Int.reduceToNat, reduceCtorEq, ↓reduceIte, Int.reduceEq, Int.reduceNeg, Int.reduceLT, Int.reduceLE, Int.reduceAdd, Int.reduceSub, Int.reduceMul] | simp -implicitDefEqProofs (disch := omega) only [iaq_vec, iao_arr, iaq_raw, rd_map, wrap_id, binq_quo, binq_rem, binq_shl, binq_shr, tdiv_pos, tmod_pos, if_pos, exV_some, Option.map_some] | ((first | with_reducible apply exIf_dec | ((with_reducible apply exGd_dec); focus exact rfl) | ((with_reducible apply exGq_dec); focus exact rfl) | with_reducible apply exIf_intro | ((with_reducible apply exGd_intro); focus exact rfl) | ((with_reducible apply exGq_intro); focus exact rfl)) <;> intro _) | with_reducible refine exC_pure (st1 _) ?_ | with_reducible refine exCq_pure (st1 _) ?_)
        all_goals first | (exfalso; omega) | skip
        refine exS_ints rfl (by omega) (by simp only [maxLen]; omega) ?_
        rw [← hs]
        repeat' (first | simp -implicitDefEqProofs only [go_sem, Nat.reduceEqDiff, Nat.reduceAdd, Nat.reduceMul, Nat.reduceLeDiff, Nat.reduceSub, Nat.reduceLT, Nat.reduceBEq, Int.reduceToNat, reduceCtorEq, ↓reduceIte, Int.reduceEq, Int.reduceNeg, Int.reduceLT, Int.reduceLE, Int.reduceAdd, Int.reduceSub, Int.reduceMul] | simp -implicitDefEqProofs (disch := omega) only [iaq_vec, iao_arr, iaq_raw, rd_map, wrap_id, binq_quo, binq_rem, binq_shl, binq_shr, tdiv_pos, tmod_pos, if_pos, exV_some, Option.map_some] | ((first | with_reducible apply exIf_dec | ((with_reducible apply exGd_dec); focus exact rfl) | ((with_reducible apply exGq_dec); focus exact rfl) | with_reducible apply exIf_intro | ((with_reducible apply exGd_intro); focus exact rfl) | ((with_reducible apply exGq_intro); focus exact rfl)) <;> intro _))
        all_goals first | exact nxt | (exfalso; omega) | skip
        done
    · obtain rfl : k = 2 * g.links.length := by omega
      clear ih2
      have flk := fl (2 * g.links.length) k0
      obtain ⟨e1, x1, x2, x3⟩ := hinv.on wf h0 hg
      have hne : f (2 * g.links.length) ≠ [] := fun e => by
        have := (fm e1).2 ⟨⟨x1, x2⟩, x3⟩
        rw [e] at this; cases this
      have hpos : 0 < (f (2 * g.links.length)).length := List.length_pos_iff.2 hne
      have hand := and1023b (gi ps i)
      obtain ⟨j, hj⟩ : ∃ j, j = iand .i64 (gi ps i) 1023 := ⟨_, rfl⟩
      rw [← hj] at hand
      have hx0 := Int.emod_nonneg j (b := ((f (2 * g.links.length)).length : Int)) (by omega)
      have hx1 := Int.emod_lt_of_pos j (b := ((f (2 * g.links.length)).length : Int)) (by omega)
      obtain ⟨x, hx⟩ : ∃ x, x = j % ((f (2 * g.links.length)).length : Int) := ⟨_, rfl⟩
      rw [← hx] at hx0 hx1
      obtain ⟨e, he⟩ : ∃ e, e = gi (f (2 * g.links.length)) x := ⟨_, rfl⟩
      obtain ⟨⟨e0, e1'⟩, hsk⟩ := (fm e).1 (by rw [he]; exact gi_mem hx0 hx1)
      obtain ⟨hnx, hpx⟩ := hinv.next wf hbig.1 hsk
      obtain ⟨-, -, -, -, hok, hnode, hu, -⟩ := id hsk
      have hpb := pot_bound wf down hbig.1 hnx.n0 hnx.n1 hnx.here
      have hup := upE_pruned (w := w) (down := down) e0 e1'
      have hpl := pruned_length g w down
      have hg1 : gi (pruned g w down) (e / 2) = false := by
        rw [hu] at hup
        cases hg : gi (pruned g w down) (e / 2) with
        | false => rfl
        | true => rw [hg] at hup; cases hup
      have hwt := hf.w e e0 e1'
      have nxt := ih (((ends g e).2.1, come (pts w) (ends g e).2.1 n), sum + wt g e, i + 1, es ++ [e]) ⟨by dsimp only; omega, hnx, by dsimp only; omega, by dsimp only; omega, by dsimp only; omega, by simp; omega, by
        intro y hy
        rw [List.mem_append] at hy
        rcases hy with hy | hy
        · exact hes y hy
        · simp only [List.mem_singleton] at hy
          omega⟩ (by dsimp only; omega)
      dsimp only at nxt
      unfold wt at nxt hwt
      have st1 := st now n e (by omega)
      rw [stepW, if_pos hsk] at st1
      simp only [stepAV, stateAV] at st1
      clear ih hinv hnx
      repeat' (first | simp -implicitDefEqProofs only [go_sem, Nat.reduceEqDiff, Nat.reduceAdd, Nat.reduceMul, Nat.reduceLeDiff, Nat.reduceSub, Nat.reduceLT, Nat.reduceBEq, Int.reduceToNat, reduceCtorEq, ↓reduceIte, Int.reduceEq, Int.reduceNeg, Int.reduceLT, Int.reduceLE, Int.reduceAdd, Int.reduceSub, Int.reduceMul] | simp -implicitDefEqProofs (disch := omega) only [← hj, ← hx, ← he, hg1, rd_link2, iaq_vec, iao_arr, iaq_raw, rd_map, wrap_id, binq_quo, binq_rem, binq_shl, binq_shr, tdiv_pos, tmod_pos, if_pos, exV_some, Option.map_some] | ((first | with_reducible apply exIf_dec | ((with_reducible apply exGd_dec); focus exact rfl) | ((with_reducible apply exGq_dec); focus exact rfl) | with_reducible apply exIf_intro | ((with_reducible apply exGd_intro); focus exact rfl) | ((with_reducible apply exGq_intro); focus exact rfl)) <;> intro _) | with_reducible refine exC_pure (st1 _) ?_ | with_reducible refine exCq_pure (st1 _) ?_)
      all_goals first | (exfalso; omega) | skip
      refine exS_ints rfl (by omega) (by simp only [maxLen]; omega) ?_
      repeat' (first | simp -implicitDefEqProofs only [go_sem, Nat.reduceEqDiff, Nat.reduceAdd, Nat.reduceMul, Nat.reduceLeDiff, Nat.reduceSub, Nat.reduceLT, Nat.reduceBEq, Int.reduceToNat, reduceCtorEq, ↓reduceIte, Int.reduceEq, Int.reduceNeg, Int.reduceLT, Int.reduceLE, Int.reduceAdd, Int.reduceSub, Int.reduceMul] | simp -implicitDefEqProofs (disch := omega) only [iaq_vec, iao_arr, iaq_raw, rd_map, wrap_id, binq_quo, binq_rem, binq_shl, binq_shr, tdiv_pos, tmod_pos, if_pos, exV_some, Option.map_some] | ((first | with_reducible apply exIf_dec | ((with_reducible apply exGd_dec); focus exact rfl) | ((with_reducible apply exGq_dec); focus exact rfl) | with_reducible apply exIf_intro | ((with_reducible apply exGd_intro); focus exact rfl) | ((with_reducible apply exGq_intro); focus exact rfl)) <;> intro _) | with_reducible refine exC_pure (st1 _) ?_ | with_reducible refine exCq_pure (st1 _) ?_)
      all_goals first | exact nxt | (exfalso; omega) | skip
      done
  obtain ⟨rfl, rfl⟩ : now = w.dst ∧ n = w.via.length + 1 := by simpa [goalW, Prod.ext_iff] using hg
  clear ih
  have hrun : runW g w down (startW w) es = some (goalW w) := hinv.run
  obtain ⟨hsum, hhas⟩ := hinv.fin h0
  have hi64 : I64s es := fun x hx => by have := hes x hx; omega
  have c8 := c7 es.isEmpty es hi64 (by omega)
  rw [decide_eq_true hhas] at c8
  obtain ⟨w1, -⟩ := hw
  repeat' (first | simp -implicitDefEqProofs only [go_sem, Nat.reduceEqDiff, Nat.reduceAdd, Nat.reduceMul, Nat.reduceLeDiff, Nat.reduceSub, Nat.reduceLT, Nat.reduceBEq, Int.reduceToNat, reduceCtorEq, ↓reduceIte, Int.reduceEq, Int.reduceNeg, Int.reduceLT, Int.reduceLE, Int.reduceAdd, Int.reduceSub, Int.reduceMul] | simp -implicitDefEqProofs (disch := omega) only [iaq_vec, iao_arr, iaq_raw, rd_map, wrap_id, binq_quo, binq_rem, binq_shl, binq_shr, tdiv_pos, tmod_pos, if_pos, exV_some, Option.map_some] | ((first | with_reducible apply exIf_dec | ((with_reducible apply exGd_dec); focus exact rfl) | ((with_reducible apply exGq_dec); focus exact rfl) | with_reducible apply exIf_intro | ((with_reducible apply exGd_intro); focus exact rfl) | ((with_reducible apply exGq_intro); focus exact rfl)) <;> intro _) | with_reducible refine exC_pure (cg _) ?_ | with_reducible refine exCq_pure (cg _) ?_)
  all_goals first | (exfalso; omega) | skip
  refine OnN.app (OnN.nil _ _ _) rfl (by simp) (by omega) (by simp only [maxLen]; omega) fun H1 v1 h1 _ => ?_
  repeat' (first | simp -implicitDefEqProofs only [go_sem, Nat.reduceEqDiff, Nat.reduceAdd, Nat.reduceMul, Nat.reduceLeDiff, Nat.reduceSub, Nat.reduceLT, Nat.reduceBEq, Int.reduceToNat, reduceCtorEq, ↓reduceIte, Int.reduceEq, Int.reduceNeg, Int.reduceLT, Int.reduceLE, Int.reduceAdd, Int.reduceSub, Int.reduceMul] | simp -implicitDefEqProofs (disch := omega) only [iaq_vec, iao_arr, iaq_raw, rd_map, wrap_id, binq_quo, binq_rem, binq_shl, binq_shr, tdiv_pos, tmod_pos, if_pos, exV_some, Option.map_some] | ((first | with_reducible apply exIf_dec | ((with_reducible apply exGd_dec); focus exact rfl) | ((with_reducible apply exGq_dec); focus exact rfl) | with_reducible apply exIf_intro | ((with_reducible apply exGd_intro); focus exact rfl) | ((with_reducible apply exGq_intro); focus exact rfl)) <;> intro _))
  refine OnN.app h1 rfl (by simp) (by omega) (by simp only [maxLen]; omega) fun H2 v2 _ h2 => ?_
  have h2 := h2 (by decide)
  clear h1
  have el : List.map iv w.via ++ [iv w.dst] = (w.via ++ [w.dst]).map iv := by simp
  obtain ⟨q, hqd⟩ : ∃ q, q = w.via ++ [w.dst] := ⟨_, rfl⟩
  have hq : q.length = w.via.length + 1 := by rw [hqd]; simp
  have hqa : ∀ n : Int, 0 ≤ n → n < w.via.length + 1 → gi q n = gi (pts w) (n + 1) := fun n a b => by rw [hqd]; exact qts_at w a b
  rw [List.nil_append, Nat.zero_add, el, ← hqd] at h2
  obtain ⟨hbase, hl, b, cap, rfl, hat, hbn, hcap⟩ := h2
  have hbn : H b = none := hbn
  have hb3 : ∀ b' o, H b' = some o → upd H2 b none b' = some o := fun b' o ho => by
    rw [upd_ne _ _ (by rintro rfl; rw [hbn] at ho; cases ho)]
    exact hbase b' o ho
  have htk : List.take (w.via.length + 1) (List.map iv q) = List.map iv q := List.take_of_length_le (by simp [hq])
  have hle : w.via.length + 1 ≤ (List.map iv q).length := by simp [hq]
  repeat' (first | simp -implicitDefEqProofs only [go_sem, Nat.reduceEqDiff, Nat.reduceAdd, Nat.reduceMul, Nat.reduceLeDiff, Nat.reduceSub, Nat.reduceLT, Nat.reduceBEq, Int.reduceToNat, reduceCtorEq, ↓reduceIte, Int.reduceEq, Int.reduceNeg, Int.reduceLT, Int.reduceLE, Int.reduceAdd, Int.reduceSub, Int.reduceMul] | simp -implicitDefEqProofs (disch := omega) only [hat, hle, Nat.mul_one, Nat.le_refl, hcap, and_self, if_true, Nat.zero_lt_one, htk, List.headD_cons, iaq_vec, iao_arr, iaq_raw, rd_map, wrap_id, binq_quo, binq_rem, binq_shl, binq_shr, tdiv_pos, tmod_pos, if_pos, exV_some, Option.map_some] | ((first | with_reducible apply exIf_dec | ((with_reducible apply exGd_dec); focus exact rfl) | ((with_reducible apply exGq_dec); focus exact rfl) | with_reducible apply exIf_intro | ((with_reducible apply exGd_intro); focus exact rfl) | ((with_reducible apply exGq_intro); focus exact rfl)) <;> intro _))
  refine exL_mod (fun n : Int => [(24, .v (iv n))]) (fun _ => []) (fun n => 0 ≤ n ∧ n ≤ w.via.length + 1 ∧ come (pts w) w.src n = come (pts w) w.src 0) (fun n => (w.via.length + 1 - n).toNat) 0 rfl ⟨by omega, by omega, rfl⟩ ?_
  rintro n ⟨n0, n1, hn⟩ ih
  simp only [S.up, S.upH, ups, Abs.put, Nat.reduceEqDiff, ↓reduceIte, Nat.reduceAdd] at ih
  simp -implicitDefEqProofs only [congrArg KI.code sc_waymarklaw15_OptBest_L2.eq_1, go_sem, Nat.reduceEqDiff, Nat.reduceAdd, Nat.reduceMul, Nat.reduceLeDiff, Nat.reduceSub, Nat.reduceLT, Nat.reduceBEq, Int.reduceToNat, reduceCtorEq, ↓reduceIte, Int.reduceEq, Int.reduceNeg, Int.reduceLT, Int.reduceLE, Int.reduceAdd, Int.reduceSub, Int.reduceMul]
  by_cases hc : n + 1 < (pts w).length ∧ gi (pts w) (n + 1) = w.src
  · have hc1 := hc.1
    have hqn := hqa n n0 (by omega)
    rw [hc.2] at hqn
    have nxt := ih (n + 1) ⟨by omega, by omega, by rw [← hn, come_go n0 hc.1 hc.2]⟩ (by omega)
    repeat' (first | simp -implicitDefEqProofs only [go_sem, Nat.reduceEqDiff, Nat.reduceAdd, Nat.reduceMul, Nat.reduceLeDiff, Nat.reduceSub, Nat.reduceLT, Nat.reduceBEq, Int.reduceToNat, reduceCtorEq, ↓reduceIte, Int.reduceEq, Int.reduceNeg, Int.reduceLT, Int.reduceLE, Int.reduceAdd, Int.reduceSub, Int.reduceMul] | simp -implicitDefEqProofs (disch := omega) only [iaq_vec, iao_arr, iaq_raw, rd_map, wrap_id, binq_quo, binq_rem, binq_shl, binq_shr, tdiv_pos, tmod_pos, if_pos, exV_some, Option.map_some] | ((first | with_reducible apply exIf_dec | ((with_reducible apply exGd_dec); focus exact rfl) | ((with_reducible apply exGq_dec); focus exact rfl) | with_reducible apply exIf_intro | ((with_reducible apply exGd_intro); focus exact rfl) | ((with_reducible apply exGq_intro); focus exact rfl)) <;> intro _))
    all_goals first | exact nxt | (exfalso; omega) | skip
    done
  clear ih
  rw [come_stop n0 hc] at hn
  have hqn : n < w.via.length + 1 → gi q n ≠ w.src := fun h => by rw [hqa n n0 h]; exact fun e => hc ⟨by omega, e⟩
  rw [startW, ← hn] at hrun
  repeat' (first | simp -implicitDefEqProofs only [go_sem, Nat.reduceEqDiff, Nat.reduceAdd, Nat.reduceMul, Nat.reduceLeDiff, Nat.reduceSub, Nat.reduceLT, Nat.reduceBEq, Int.reduceToNat, reduceCtorEq, ↓reduceIte, Int.reduceEq, Int.reduceNeg, Int.reduceLT, Int.reduceLE, Int.reduceAdd, Int.reduceSub, Int.reduceMul] | simp -implicitDefEqProofs (disch := omega) only [iaq_vec, iao_arr, iaq_raw, rd_map, wrap_id, binq_quo, binq_rem, binq_shl, binq_shr, tdiv_pos, tmod_pos, if_pos, exV_some, Option.map_some] | ((first | with_reducible apply exIf_dec | ((with_reducible apply exGd_dec); focus exact rfl) | ((with_reducible apply exGq_dec); focus exact rfl) | with_reducible apply exIf_intro | ((with_reducible apply exGd_intro); focus exact rfl) | ((with_reducible apply exGq_intro); focus exact rfl)) <;> intro _))
  all_goals first | (exfalso; omega) | skip
  all_goals
    clear hqn
    refine exL_mod (fun a : Int × Int × Int => [(23, .v (iv a.1)), (24, .v (iv a.2.1)), (25, .v (iv a.2.2))]) (fun _ => []) (fun a => 0 ≤ a.2.2 ∧ a.2.2 ≤ es.length ∧ 0 ≤ a.2.1 ∧ a.2.1 ≤ w.via.length + 1 ∧ runW g w down (a.1, a.2.1) (es.drop a.2.2.toNat) = some (goalW w)) (fun a => (es.length - a.2.2).toNat) (w.src, n, 0) rfl ⟨by simp, by simp, by simpa using n0, by simpa using n1, by simpa using hrun⟩ ?_
    rintro ⟨now, m, i'⟩ ⟨j0, j1, m0, m1, hr'⟩ ih
    dsimp only at j0 j1 m0 m1 hr' ih
    simp only [S.up, S.upH, ups, Abs.put, Nat.reduceEqDiff, ↓reduceIte, Nat.reduceAdd] at ih
    simp -implicitDefEqProofs only [congrArg KI.code sc_waymarklaw15_OptBest_L1.eq_1, go_sem, Nat.reduceEqDiff, Nat.reduceAdd, Nat.reduceMul, Nat.reduceLeDiff, Nat.reduceSub, Nat.reduceLT, Nat.reduceBEq, Int.reduceToNat, reduceCtorEq, ↓reduceIte, Int.reduceEq, Int.reduceNeg, Int.reduceLT, Int.reduceLE, Int.reduceAdd, Int.reduceSub, Int.reduceMul]
    by_cases hi : i' < es.length
    · rw [drop_gi j0 hi, runW] at hr'
      have ec := ends_ref_c g (gi es i') (hi64.gi j0 hi)
      simp only [Graph.av, triIIB] at ec
      cases hsw : stepW g w down (now, m) (gi es i') with
      | none => rw [hsw] at hr'; cases hr'
      | some c =>
        rw [hsw] at hr'
        obtain rfl : ((ends g (gi es i')).2.1, come (pts w) (ends g (gi es i')).2.1 m) = c := by
          unfold stepW at hsw
          split at hsw
          · simpa using hsw
          · cases hsw
        have hcb := come_le (l := pts w) (node := (ends g (gi es i')).2.1) m0 (by omega)
        have nxt := ih ((ends g (gi es i')).2.1, come (pts w) (ends g (gi es i')).2.1 m, i' + 1) ⟨by dsimp only; omega, by dsimp only; omega, by dsimp only; omega, by dsimp only; omega, by simpa only [show (i' + 1).toNat = i'.toNat + 1 by omega] using hr'⟩ (by dsimp only; omega)
        clear ih hr'
        repeat' (first | simp -implicitDefEqProofs only [go_sem, Nat.reduceEqDiff, Nat.reduceAdd, Nat.reduceMul, Nat.reduceLeDiff, Nat.reduceSub, Nat.reduceLT, Nat.reduceBEq, Int.reduceToNat, reduceCtorEq, ↓reduceIte, Int.reduceEq, Int.reduceNeg, Int.reduceLT, Int.reduceLE, Int.reduceAdd, Int.reduceSub, Int.reduceMul] | simp -implicitDefEqProofs (disch := omega) only [iaq_vec, iao_arr, iaq_raw, rd_map, wrap_id, binq_quo, binq_rem, binq_shl, binq_shr, tdiv_pos, tmod_pos, if_pos, exV_some, Option.map_some] | ((first | with_reducible apply exIf_dec | ((with_reducible apply exGd_dec); focus exact rfl) | ((with_reducible apply exGq_dec); focus exact rfl) | with_reducible apply exIf_intro | ((with_reducible apply exGd_intro); focus exact rfl) | ((with_reducible apply exGq_intro); focus exact rfl)) <;> intro _) | with_reducible refine exC_pure (ec _) ?_ | with_reducible refine exCq_pure (ec _) ?_)
        all_goals first | (exfalso; omega) | skip
        refine exL_mod (fun n' : Int => [(24, .v (iv n'))]) (fun _ => []) (fun n' => 0 ≤ n' ∧ n' ≤ w.via.length + 1 ∧ come (pts w) (ends g (gi es i')).2.1 n' = come (pts w) (ends g (gi es i')).2.1 m) (fun n' => (w.via.length + 1 - n').toNat) m rfl ⟨by omega, by omega, rfl⟩ ?_
        rintro k ⟨k0, k1, hk⟩ ih2
        simp only [S.up, S.upH, ups, Abs.put, Nat.reduceEqDiff, ↓reduceIte, Nat.reduceAdd] at ih2
        simp -implicitDefEqProofs only [congrArg KI.code sc_waymarklaw15_OptBest_L0.eq_1, go_sem, Nat.reduceEqDiff, Nat.reduceAdd, Nat.reduceMul, Nat.reduceLeDiff, Nat.reduceSub, Nat.reduceLT, Nat.reduceBEq, Int.reduceToNat, reduceCtorEq, ↓reduceIte, Int.reduceEq, Int.reduceNeg, Int.reduceLT, Int.reduceLE, Int.reduceAdd, Int.reduceSub, Int.reduceMul]
        by_cases hc2 : k + 1 < (pts w).length ∧ gi (pts w) (k + 1) = (ends g (gi es i')).2.1
        · have hc1 := hc2.1
          have hqn := hqa k k0 (by omega)
          rw [hc2.2] at hqn
          have nx2 := ih2 (k + 1) ⟨by omega, by omega, by rw [← hk, come_go k0 hc2.1 hc2.2]⟩ (by omega)
          repeat' (first | simp -implicitDefEqProofs only [go_sem, Nat.reduceEqDiff, Nat.reduceAdd, Nat.reduceMul, Nat.reduceLeDiff, Nat.reduceSub, Nat.reduceLT, Nat.reduceBEq, Int.reduceToNat, reduceCtorEq, ↓reduceIte, Int.reduceEq, Int.reduceNeg, Int.reduceLT, Int.reduceLE, Int.reduceAdd, Int.reduceSub, Int.reduceMul] | simp -implicitDefEqProofs (disch := omega) only [iaq_vec, iao_arr, iaq_raw, rd_map, wrap_id, binq_quo, binq_rem, binq_shl, binq_shr, tdiv_pos, tmod_pos, if_pos, exV_some, Option.map_some] | ((first | with_reducible apply exIf_dec | ((with_reducible apply exGd_dec); focus exact rfl) | ((with_reducible apply exGq_dec); focus exact rfl) | with_reducible apply exIf_intro | ((with_reducible apply exGd_intro); focus exact rfl) | ((with_reducible apply exGq_intro); focus exact rfl)) <;> intro _))
          all_goals first | exact nx2 | (exfalso; omega) | skip
          done
        clear ih2
        rw [come_stop k0 hc2] at hk
        have hqn : k < w.via.length + 1 → gi q k ≠ (ends g (gi es i')).2.1 := fun h => by rw [hqa k k0 h]; exact fun e => hc2 ⟨by omega, e⟩
        rw [← hk] at nxt
        repeat' (first | simp -implicitDefEqProofs only [go_sem, Nat.reduceEqDiff, Nat.reduceAdd, Nat.reduceMul, Nat.reduceLeDiff, Nat.reduceSub, Nat.reduceLT, Nat.reduceBEq, Int.reduceToNat, reduceCtorEq, ↓reduceIte, Int.reduceEq, Int.reduceNeg, Int.reduceLT, Int.reduceLE, Int.reduceAdd, Int.reduceSub, Int.reduceMul] | simp -implicitDefEqProofs (disch := omega) only [iaq_vec, iao_arr, iaq_raw, rd_map, wrap_id, binq_quo, binq_rem, binq_shl, binq_shr, tdiv_pos, tmod_pos, if_pos, exV_some, Option.map_some] | ((first | with_reducible apply exIf_dec | ((with_reducible apply exGd_dec); focus exact rfl) | ((with_reducible apply exGq_dec); focus exact rfl) | with_reducible apply exIf_intro | ((with_reducible apply exGd_intro); focus exact rfl) | ((with_reducible apply exGq_intro); focus exact rfl)) <;> intro _))
        all_goals first | exact nxt | (exfalso; omega) | skip
        done
    · rw [drop_end (by omega), runW] at hr'
      obtain ⟨rfl, rfl⟩ : now = w.dst ∧ m = w.via.length + 1 := by simpa [goalW, Prod.ext_iff] using hr'
      clear ih
      repeat' (first | simp -implicitDefEqProofs only [go_sem, Nat.reduceEqDiff, Nat.reduceAdd, Nat.reduceMul, Nat.reduceLeDiff, Nat.reduceSub, Nat.reduceLT, Nat.reduceBEq, Int.reduceToNat, reduceCtorEq, ↓reduceIte, Int.reduceEq, Int.reduceNeg, Int.reduceLT, Int.reduceLE, Int.reduceAdd, Int.reduceSub, Int.reduceMul] | simp -implicitDefEqProofs (disch := omega) only [iaq_vec, iao_arr, iaq_raw, rd_map, wrap_id, binq_quo, binq_rem, binq_shl, binq_shr, tdiv_pos, tmod_pos, if_pos, exV_some, Option.map_some] | ((first | with_reducible apply exIf_dec | ((with_reducible apply exGd_dec); focus exact rfl) | ((with_reducible apply exGq_dec); focus exact rfl) | with_reducible apply exIf_intro | ((with_reducible apply exGd_intro); focus exact rfl) | ((with_reducible apply exGq_intro); focus exact rfl)) <;> intro _) | with_reducible refine exC_pure (cg _) ?_ | with_reducible refine exCq_pure (cg _) ?_ | with_reducible refine exC_pure (c8 _) ?_ | with_reducible refine exCq_pure (c8 _) ?_)
      all_goals first | exact ⟨hb3, h⟩ | (exfalso; omega) | skip
      done
end Go.Proofs.Ytgahnhiidhkjaaa
end
