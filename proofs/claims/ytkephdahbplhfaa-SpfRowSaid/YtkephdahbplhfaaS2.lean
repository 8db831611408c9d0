import Derived.Test.YtkephdahbplhfaaScGraph
import Derived.Test.YtkephdahbplhfaaScSpf
import Derived.Test.YtkephdahbplhfaaS1
import Derived.Test.YtkephdahbplhfaaH2
import Derived.Test.YtkephdahbplhfaaD1
set_option linter.unusedSimpArgs false
set_option linter.unusedVariables false
/- The package spf: From, the search from the nearest on. -/
namespace Go.Proofs.Ytkephdahbplhfaa
open Go Abs
set_option maxHeartbeats 400000

theorem graph_right_c (g : Graph) (H : AHeap) : APure Try.prog 73 [g.av] H (bv (decide ((check g).2 = 0))) := by
  intro Q h
  refine ACalls.of_code fn_graph_Right ?_
  simp -implicitDefEqProofs only [sc_graph_Right, Graph.av, go_sem, Nat.reduceEqDiff, Nat.reduceAdd, Nat.reduceMul, Nat.reduceLeDiff, Nat.reduceSub, Nat.reduceLT, Nat.reduceBEq, Int.reduceToNat, reduceCtorEq, ↓reduceIte, Int.reduceEq, Int.reduceNeg, Int.reduceLT, Int.reduceLE, Int.reduceAdd, Int.reduceSub, Int.reduceMul]
  refine exC_pure (check_c g _) ?_
  simp -implicitDefEqProofs only [pairI, go_sem, Nat.reduceEqDiff, Nat.reduceAdd, Nat.reduceMul, Nat.reduceLeDiff, Nat.reduceSub, Nat.reduceLT, Nat.reduceBEq, Int.reduceToNat, reduceCtorEq, ↓reduceIte, Int.reduceEq, Int.reduceNeg, Int.reduceLT, Int.reduceLE, Int.reduceAdd, Int.reduceSub, Int.reduceMul]
  repeat' (first | simp -implicitDefEqProofs only [go_sem, Nat.reduceEqDiff, Nat.reduceAdd, Nat.reduceMul, Nat.reduceLeDiff, Nat.reduceSub, Nat.reduceLT, Nat.reduceBEq, Int.reduceToNat, reduceCtorEq, ↓reduceIte, Int.reduceEq, Int.reduceNeg, Int.reduceLT, Int.reduceLE, Int.reduceAdd, Int.reduceSub, Int.reduceMul] | simp -implicitDefEqProofs (disch := omega) only [iaq_vec, iao_arr, iaq_raw, rd_map, wrap_id, binq_quo, binq_rem, binq_shl, binq_shr, tdiv_pos, tmod_pos, if_pos, exV_some, Option.map_some] | ((first | with_reducible apply exIf_dec | ((with_reducible apply exGd_dec); focus exact rfl) | ((with_reducible apply exGq_dec); focus exact rfl) | with_reducible apply exIf_intro | ((with_reducible apply exGd_intro); focus exact rfl) | ((with_reducible apply exGq_intro); focus exact rfl)) <;> intro _))
  exact h
theorem up_c (nl : Bool) (down : List Bool) (e : Int) (h0 : 0 ≤ e) (h1 : e ≤ 9223372036854775807) (H : AHeap) : APure Try.prog 76 [blv nl down, iv e] H (bv (upE down e)) := by
  intro Q h
  refine ACalls.of_code fn_spf_Up ?_
  simp -implicitDefEqProofs only [sc_spf_Up, blv, go_sem, Nat.reduceEqDiff, Nat.reduceAdd, Nat.reduceMul, Nat.reduceLeDiff, Nat.reduceSub, Nat.reduceLT, Nat.reduceBEq, Int.reduceToNat, reduceCtorEq, ↓reduceIte, Int.reduceEq, Int.reduceNeg, Int.reduceLT, Int.reduceLE, Int.reduceAdd, Int.reduceSub, Int.reduceMul]
  repeat' (first | simp -implicitDefEqProofs only [go_sem, Nat.reduceEqDiff, Nat.reduceAdd, Nat.reduceMul, Nat.reduceLeDiff, Nat.reduceSub, Nat.reduceLT, Nat.reduceBEq, Int.reduceToNat, reduceCtorEq, ↓reduceIte, Int.reduceEq, Int.reduceNeg, Int.reduceLT, Int.reduceLE, Int.reduceAdd, Int.reduceSub, Int.reduceMul] | simp -implicitDefEqProofs (disch := omega) only [iaq_vec, iao_arr, iaq_raw, rd_map, wrap_id, binq_quo, binq_rem, binq_shl, binq_shr, tdiv_pos, tmod_pos, if_pos, exV_some, Option.map_some] | ((first | with_reducible apply exIf_dec | ((with_reducible apply exGd_dec); focus exact rfl) | ((with_reducible apply exGq_dec); focus exact rfl) | with_reducible apply exIf_intro | ((with_reducible apply exGd_intro); focus exact rfl) | ((with_reducible apply exGq_intro); focus exact rfl)) <;> intro _))
  all_goals refine fin_ h (congrArg (fun b => AV.raw (.bool b)) ?_)
  · have : ¬ e / 2 < (down.length : Int) := by omega
    simp [upE, this]
  · have : e / 2 < (down.length : Int) := by omega
    simp [upE, this]

/-- nil, if there is no such graph, or node -/
noncomputable def fromAV (g : Graph) (down : List Bool) (s : Int) : AV := if (check g).2 = 0 ∧ 0 ≤ s ∧ s < g.nodes then .vec false ((distL g down s).map iv) (distL g down s).length else .vec true [] 0

theorem from_c (g : Graph) (nl : Bool) (down : List Bool) (s : Int) (H : AHeap) : APure Try.prog 43 [g.av, blv nl down, iv s] H (fromAV g down s) := by
  intro Q h
  refine ACalls.forget ?_
  refine ACalls.of_code fn_spf_From ?_
  have iss := is_c g s H
  simp only [Graph.av] at iss
  simp -implicitDefEqProofs only [sc_spf_From, Graph.av, blv, go_sem, Nat.reduceEqDiff, Nat.reduceAdd, Nat.reduceMul, Nat.reduceLeDiff, Nat.reduceSub, Nat.reduceLT, Nat.reduceBEq, Int.reduceToNat, reduceCtorEq, ↓reduceIte, Int.reduceEq, Int.reduceNeg, Int.reduceLT, Int.reduceLE, Int.reduceAdd, Int.reduceSub, Int.reduceMul]
  refine exC_pure (graph_right_c g _) ?_
  repeat' (first | simp -implicitDefEqProofs only [go_sem, Nat.reduceEqDiff, Nat.reduceAdd, Nat.reduceMul, Nat.reduceLeDiff, Nat.reduceSub, Nat.reduceLT, Nat.reduceBEq, Int.reduceToNat, reduceCtorEq, ↓reduceIte, Int.reduceEq, Int.reduceNeg, Int.reduceLT, Int.reduceLE, Int.reduceAdd, Int.reduceSub, Int.reduceMul] | simp -implicitDefEqProofs (disch := omega) only [iaq_vec, iao_arr, iaq_raw, rd_map, wrap_id, binq_quo, binq_rem, binq_shl, binq_shr, tdiv_pos, tmod_pos, if_pos, exV_some, Option.map_some] | ((first | with_reducible apply exIf_dec | ((with_reducible apply exGd_dec); focus exact rfl) | ((with_reducible apply exGq_dec); focus exact rfl) | with_reducible apply exIf_intro | ((with_reducible apply exGd_intro); focus exact rfl) | ((with_reducible apply exGq_intro); focus exact rfl)) <;> intro _) | with_reducible refine exC_pure (iss) ?_ | with_reducible refine exCq_pure (iss) ?_)
  · refine ⟨fun _ _ h => h, fin_ h ?_⟩
    rw [fromAV, if_neg (fun hh => by omega)]
  · refine ⟨fun _ _ h => h, fin_ h ?_⟩
    rw [fromAV, if_neg (fun hh => by omega)]
  have hc : (check g).2 = 0 := by omega
  have hs : 0 ≤ s ∧ s < g.nodes := by omega
  have hf := fit_of g hc
  have n1 := hf.n1
  have n2 := hf.n2
  have hfew := hf.few
  have hfrom : fromAV g down s = .vec false ((distL g down s).map iv) (distL g down s).length := by rw [fromAV, if_pos ⟨hc, hs⟩]
  refine exMk_int (by omega) (by omega) (by simp only [maxLen]; omega) rfl ?_
  obtain ⟨n, hn⟩ : ∃ n, n = g.nodes.toNat := ⟨_, rfl⟩
  rw [← hn, zrep_one, show List.replicate n (cAV (.int .i64 0)) = (List.replicate n (0 : Int)).map iv by rw [List.map_replicate]; rfl]
  repeat' (first | simp -implicitDefEqProofs only [go_sem, Nat.reduceEqDiff, Nat.reduceAdd, Nat.reduceMul, Nat.reduceLeDiff, Nat.reduceSub, Nat.reduceLT, Nat.reduceBEq, Int.reduceToNat, reduceCtorEq, ↓reduceIte, Int.reduceEq, Int.reduceNeg, Int.reduceLT, Int.reduceLE, Int.reduceAdd, Int.reduceSub, Int.reduceMul] | simp -implicitDefEqProofs (disch := omega) only [iaq_vec, iao_arr, iaq_raw, rd_map, wrap_id, binq_quo, binq_rem, binq_shl, binq_shr, tdiv_pos, tmod_pos, if_pos, exV_some, Option.map_some] | ((first | with_reducible apply exIf_dec | ((with_reducible apply exGd_dec); focus exact rfl) | ((with_reducible apply exGq_dec); focus exact rfl) | with_reducible apply exIf_intro | ((with_reducible apply exGd_intro); focus exact rfl) | ((with_reducible apply exGq_intro); focus exact rfl)) <;> intro _))
  rw [← fillTo_zero (fun _ => -1) 0 n]
  refine exL_mod (fun i : Int => [(32, .v (iv i))]) (fun i => [(29, .arr false ((fillTo (fun _ => -1) 0 n i).map iv) n 3 1)]) (fun i => 0 ≤ i ∧ i ≤ n) (fun i => (n - i).toNat) 0 rfl ⟨by omega, by omega⟩ ?_
  rintro i ⟨i0, i1⟩ ih
  simp only [S.up, S.upH, ups, Abs.put, Nat.reduceEqDiff, ↓reduceIte, Nat.reduceAdd] at ih
  simp -implicitDefEqProofs only [congrArg KI.code sc_spf_From_L2.eq_1, go_sem, Nat.reduceEqDiff, Nat.reduceAdd, Nat.reduceMul, Nat.reduceLeDiff, Nat.reduceSub, Nat.reduceLT, Nat.reduceBEq, Int.reduceToNat, reduceCtorEq, ↓reduceIte, Int.reduceEq, Int.reduceNeg, Int.reduceLT, Int.reduceLE, Int.reduceAdd, Int.reduceSub, Int.reduceMul]
  by_cases hi : i < n
  · have nxt := ih (i + 1) ⟨by omega, by omega⟩ (by omega)
    rw [← fillTo_set (fun _ => -1) 0 n i i0 rfl] at nxt
    repeat' (first | simp -implicitDefEqProofs only [go_sem, Nat.reduceEqDiff, Nat.reduceAdd, Nat.reduceMul, Nat.reduceLeDiff, Nat.reduceSub, Nat.reduceLT, Nat.reduceBEq, Int.reduceToNat, reduceCtorEq, ↓reduceIte, Int.reduceEq, Int.reduceNeg, Int.reduceLT, Int.reduceLE, Int.reduceAdd, Int.reduceSub, Int.reduceMul] | simp -implicitDefEqProofs (disch := omega) only [fillTo_length, set_ints, iaq_vec, iao_arr, iaq_raw, rd_map, wrap_id, binq_quo, binq_rem, binq_shl, binq_shr, tdiv_pos, tmod_pos, if_pos, exV_some, Option.map_some] | ((first | with_reducible apply exIf_dec | ((with_reducible apply exGd_dec); focus exact rfl) | ((with_reducible apply exGq_dec); focus exact rfl) | with_reducible apply exIf_intro | ((with_reducible apply exGd_intro); focus exact rfl) | ((with_reducible apply exGq_intro); focus exact rfl)) <;> intro _))
    all_goals first | (exfalso; omega) | exact nxt
  repeat' (first | simp -implicitDefEqProofs only [go_sem, Nat.reduceEqDiff, Nat.reduceAdd, Nat.reduceMul, Nat.reduceLeDiff, Nat.reduceSub, Nat.reduceLT, Nat.reduceBEq, Int.reduceToNat, reduceCtorEq, ↓reduceIte, Int.reduceEq, Int.reduceNeg, Int.reduceLT, Int.reduceLE, Int.reduceAdd, Int.reduceSub, Int.reduceMul] | simp -implicitDefEqProofs (disch := omega) only [iaq_vec, iao_arr, iaq_raw, rd_map, wrap_id, binq_quo, binq_rem, binq_shl, binq_shr, tdiv_pos, tmod_pos, if_pos, exV_some, Option.map_some] | ((first | with_reducible apply exIf_dec | ((with_reducible apply exGd_dec); focus exact rfl) | ((with_reducible apply exGq_dec); focus exact rfl) | with_reducible apply exIf_intro | ((with_reducible apply exGd_intro); focus exact rfl) | ((with_reducible apply exGq_intro); focus exact rfl)) <;> intro _))
  all_goals first | (exfalso; omega) | skip
  rw [fillTo_full _ _ _ _ (show (n : Int) ≤ i by omega), show ((List.range n).map fun _ => (-1 : Int)) = List.replicate n (-1) by rw [List.map_const', List.length_range]]
  intro b hb
  have hat0 : HeapAt H (upd H b (some (.cells [.vec true [] 0] 90))) b [] := by
    refine ⟨hb, fun b' o ho => ?_, _, _, upd_self _ _ _, .inl ⟨rfl, rfl⟩⟩
    rw [upd_ne _ _ (by rintro rfl; rw [hb] at ho; cases ho)]
    exact ho
  refine exC_intro (push_c H _ b [] (0, s) (by simp) hat0 nh_nil) ?_
  rintro _ H1 ⟨rfl, l1, hp1, hh1, hat1⟩
  repeat' (first | simp -implicitDefEqProofs only [go_sem, Nat.reduceEqDiff, Nat.reduceAdd, Nat.reduceMul, Nat.reduceLeDiff, Nat.reduceSub, Nat.reduceLT, Nat.reduceBEq, Int.reduceToNat, reduceCtorEq, ↓reduceIte, Int.reduceEq, Int.reduceNeg, Int.reduceLT, Int.reduceLE, Int.reduceAdd, Int.reduceSub, Int.reduceMul] | simp -implicitDefEqProofs (disch := omega) only [iaq_vec, iao_arr, iaq_raw, rd_map, wrap_id, binq_quo, binq_rem, binq_shl, binq_shr, tdiv_pos, tmod_pos, if_pos, exV_some, Option.map_some] | ((first | with_reducible apply exIf_dec | ((with_reducible apply exGd_dec); focus exact rfl) | ((with_reducible apply exGq_dec); focus exact rfl) | with_reducible apply exIf_intro | ((with_reducible apply exGd_intro); focus exact rfl) | ((with_reducible apply exGq_intro); focus exact rfl)) <;> intro _))
  have first := dinv_perm (dinv_first (down := down) hf hs) hp1
  rw [← hn] at first
  refine exL_modH (fun a : List Int × List Pr × AHeap => []) (fun a => [(29, .arr false (a.1.map iv) n 3 1)]) (fun a => a.2.2)
    (fun a => (DInv g down s a.1 a.2.1 ∧ AllBehind g down a.1 a.2.1) ∧ IsHeap a.2.1 ∧ HeapAt H a.2.2 b a.2.1) (fun a => unset a.1 * 241 + a.2.1.length) (List.replicate n (-1), l1, H1) rfl ⟨first, hh1, hat1⟩ ?_
  rintro ⟨d, l, H2⟩ ⟨⟨hd, hb2⟩, hh, hat⟩ ih2
  dsimp only at hd hb2 hh hat ih2
  simp only [S.up, S.upH, ups, Abs.put, Nat.reduceEqDiff, ↓reduceIte, Nat.reduceAdd] at ih2
  have hdl := hd.len
  have hsz := hd.size
  simp -implicitDefEqProofs only [congrArg KI.code sc_spf_From_L1.eq_1, go_sem, Nat.reduceEqDiff, Nat.reduceAdd, Nat.reduceMul, Nat.reduceLeDiff, Nat.reduceSub, Nat.reduceLT, Nat.reduceBEq, Int.reduceToNat, reduceCtorEq, ↓reduceIte, Int.reduceEq, Int.reduceNeg, Int.reduceLT, Int.reduceLE, Int.reduceAdd, Int.reduceSub, Int.reduceMul]
  by_cases hl0 : l = []
  · subst hl0
    refine exC_pure (pop_none_c H H2 b hat) ?_
    repeat' (first | simp -implicitDefEqProofs only [go_sem, Nat.reduceEqDiff, Nat.reduceAdd, Nat.reduceMul, Nat.reduceLeDiff, Nat.reduceSub, Nat.reduceLT, Nat.reduceBEq, Int.reduceToNat, reduceCtorEq, ↓reduceIte, Int.reduceEq, Int.reduceNeg, Int.reduceLT, Int.reduceLE, Int.reduceAdd, Int.reduceSub, Int.reduceMul] | simp -implicitDefEqProofs (disch := omega) only [iaq_vec, iao_arr, iaq_raw, rd_map, wrap_id, binq_quo, binq_rem, binq_shl, binq_shr, tdiv_pos, tmod_pos, if_pos, exV_some, Option.map_some] | ((first | with_reducible apply exIf_dec | ((with_reducible apply exGd_dec); focus exact rfl) | ((with_reducible apply exGq_dec); focus exact rfl) | with_reducible apply exIf_intro | ((with_reducible apply exGd_intro); focus exact rfl) | ((with_reducible apply exGq_intro); focus exact rfl)) <;> intro _))
    refine ⟨hat.base, fin_ h ?_⟩
    rw [hfrom, distL_eq (dinv_end hf hs hd hb2), show n = d.length by omega]
  have hlen : l.length ≤ 1099511627776 := by omega
  have hpop := pop_c H H2 b l hlen hl0 hat hh
  refine exC_intro hpop ?_
  intro v H3 hq
  obtain ⟨p, l', hv, hpm, hh', hmin, hat'⟩ := hq
  simp -implicitDefEqProofs only [go_sem, Nat.reduceEqDiff, Nat.reduceAdd, Nat.reduceMul, Nat.reduceLeDiff, Nat.reduceSub, Nat.reduceLT, Nat.reduceBEq, Int.reduceToNat, reduceCtorEq, ↓reduceIte, Int.reduceEq, Int.reduceNeg, Int.reduceLT, Int.reduceLE, Int.reduceAdd, Int.reduceSub, Int.reduceMul]
  simp -implicitDefEqProofs only [hv, go_sem, Nat.reduceEqDiff, Nat.reduceAdd, Nat.reduceMul, Nat.reduceLeDiff, Nat.reduceSub, Nat.reduceLT, Nat.reduceBEq, Int.reduceToNat, reduceCtorEq, ↓reduceIte, Int.reduceEq, Int.reduceNeg, Int.reduceLT, Int.reduceLE, Int.reduceAdd, Int.reduceSub, Int.reduceMul]
  obtain ⟨⟨p0, p1⟩, hpw⟩ := hd.heap p (hpm.mem_iff.2 (by simp))
  have hll := hpm.length_eq
  simp only [List.length_cons] at hll
  repeat' (first | simp -implicitDefEqProofs only [go_sem, Nat.reduceEqDiff, Nat.reduceAdd, Nat.reduceMul, Nat.reduceLeDiff, Nat.reduceSub, Nat.reduceLT, Nat.reduceBEq, Int.reduceToNat, reduceCtorEq, ↓reduceIte, Int.reduceEq, Int.reduceNeg, Int.reduceLT, Int.reduceLE, Int.reduceAdd, Int.reduceSub, Int.reduceMul] | simp -implicitDefEqProofs (disch := omega) only [iaq_vec, iao_arr, iaq_raw, rd_map, wrap_id, binq_quo, binq_rem, binq_shl, binq_shr, tdiv_pos, tmod_pos, if_pos, exV_some, Option.map_some] | ((first | with_reducible apply exIf_dec | ((with_reducible apply exGd_dec); focus exact rfl) | ((with_reducible apply exGq_dec); focus exact rfl) | with_reducible apply exIf_intro | ((with_reducible apply exGd_intro); focus exact rfl) | ((with_reducible apply exGq_intro); focus exact rfl)) <;> intro _))
  · have hdi : gi d p.2 ≠ -1 := by assumption
    obtain ⟨q1, q2⟩ := dinv_skip hf hpm hd hb2 hdi
    exact ih2 (d, l', H3) ⟨⟨q1, q2⟩, hh', hat'⟩ (by dsimp only; omega)
  have hdi : gi d p.2 = -1 := by omega
  have mid := dmid_start hf hs hpm hmin hd hb2 hdi
  have hus := unset_set p0 (by omega) hdi (hpw.nonneg hf)
  have hlks : g.links.length * 32 ≤ 140737488351232 := by omega
  have hol := out_length g p.2
  refine exC_pure (out_c g hlks p.2 _) ?_
  simp -implicitDefEqProofs only [ints, go_sem, Nat.reduceEqDiff, Nat.reduceAdd, Nat.reduceMul, Nat.reduceLeDiff, Nat.reduceSub, Nat.reduceLT, Nat.reduceBEq, Int.reduceToNat, reduceCtorEq, ↓reduceIte, Int.reduceEq, Int.reduceNeg, Int.reduceLT, Int.reduceLE, Int.reduceAdd, Int.reduceSub, Int.reduceMul]
  repeat' (first | simp -implicitDefEqProofs only [go_sem, Nat.reduceEqDiff, Nat.reduceAdd, Nat.reduceMul, Nat.reduceLeDiff, Nat.reduceSub, Nat.reduceLT, Nat.reduceBEq, Int.reduceToNat, reduceCtorEq, ↓reduceIte, Int.reduceEq, Int.reduceNeg, Int.reduceLT, Int.reduceLE, Int.reduceAdd, Int.reduceSub, Int.reduceMul] | simp -implicitDefEqProofs (disch := omega) only [iaq_vec, iao_arr, iaq_raw, rd_map, wrap_id, binq_quo, binq_rem, binq_shl, binq_shr, tdiv_pos, tmod_pos, if_pos, exV_some, Option.map_some] | ((first | with_reducible apply exIf_dec | ((with_reducible apply exGd_dec); focus exact rfl) | ((with_reducible apply exGq_dec); focus exact rfl) | with_reducible apply exIf_intro | ((with_reducible apply exGd_intro); focus exact rfl) | ((with_reducible apply exGq_intro); focus exact rfl)) <;> intro _))
  rw [set_ints]
  obtain ⟨d1, hd1⟩ : ∃ d1, d1 = d.set p.2.toNat p.1 := ⟨_, rfl⟩
  rw [← hd1] at mid hus ⊢
  have hg1 : gi d1 p.2 = p.1 := by rw [hd1, gi_set p0 (by omega) p0, if_pos rfl]
  have hd1l : d1.length = n := by rw [hd1, List.length_set]; omega
  refine exL_modH (fun a : Int × List Pr × AHeap => [(66, .v (iv a.1))]) (fun a => []) (fun a => a.2.2)
    (fun a => 0 ≤ a.1 ∧ a.1 ≤ (out g p.2).length ∧ DMid g down s p.2 d1 a.2.1 a.1.toNat ∧ IsHeap a.2.1 ∧ HeapAt H a.2.2 b a.2.1 ∧ a.2.1.length ≤ l'.length + a.1.toNat) (fun a => ((out g p.2).length - a.1).toNat) (0, l', H3) rfl ⟨by simp, by simp, mid, hh', hat', by simp⟩ ?_
  rintro ⟨k, l2, H4⟩ ⟨k0, k1, hm, hh2, hat2, hgrow⟩ ih3
  dsimp only at k0 k1 hm hh2 hat2 hgrow ih3
  simp only [S.up, S.upH, ups, Abs.put, Nat.reduceEqDiff, ↓reduceIte, Nat.reduceAdd] at ih3
  simp -implicitDefEqProofs only [congrArg KI.code sc_spf_From_L0.eq_1, go_sem, Nat.reduceEqDiff, Nat.reduceAdd, Nat.reduceMul, Nat.reduceLeDiff, Nat.reduceSub, Nat.reduceLT, Nat.reduceBEq, Int.reduceToNat, reduceCtorEq, ↓reduceIte, Int.reduceEq, Int.reduceNeg, Int.reduceLT, Int.reduceLE, Int.reduceAdd, Int.reduceSub, Int.reduceMul]
  by_cases hk : k < (out g p.2).length
  · obtain ⟨e, he⟩ : ∃ e, e = gi (out g p.2) k := ⟨_, rfl⟩
    have hmem : e ∈ out g p.2 := by rw [he]; exact gi_mem k0 hk
    obtain ⟨e0, e1, e2⟩ := (out_mem g e p.2).1 hmem
    have hbn := hf.b e e0 e1
    have hwt := hf.w e e0 e1
    have endc := ends_c g e (by omega) H4
    have upc := up_c nl down e e0 (by omega) H4
    simp only [Graph.av, triIIB] at endc
    simp only [blv] at upc
    have hka := hm.keyat
    have hdn := hm.done
    repeat' (first | simp -implicitDefEqProofs only [go_sem, Nat.reduceEqDiff, Nat.reduceAdd, Nat.reduceMul, Nat.reduceLeDiff, Nat.reduceSub, Nat.reduceLT, Nat.reduceBEq, Int.reduceToNat, reduceCtorEq, ↓reduceIte, Int.reduceEq, Int.reduceNeg, Int.reduceLT, Int.reduceLE, Int.reduceAdd, Int.reduceSub, Int.reduceMul] | simp -implicitDefEqProofs (disch := omega) only [← he, rd_link2, wt, iaq_vec, iao_arr, iaq_raw, rd_map, wrap_id, binq_quo, binq_rem, binq_shl, binq_shr, tdiv_pos, tmod_pos, if_pos, exV_some, Option.map_some] | ((first | with_reducible apply exIf_dec | ((with_reducible apply exGd_dec); focus exact rfl) | ((with_reducible apply exGq_dec); focus exact rfl) | with_reducible apply exIf_intro | ((with_reducible apply exGd_intro); focus exact rfl) | ((with_reducible apply exGq_intro); focus exact rfl)) <;> intro _) | with_reducible refine exC_pure (endc) ?_ | with_reducible refine exCq_pure (endc) ?_ | with_reducible refine exC_pure (upc) ?_ | with_reducible refine exCq_pure (upc) ?_)
    · have hto : gi d1 (ends g e).2.1 = -1 := by assumption
      rw [wrap_id (by unfold wt at hwt; omega) (by unfold wt at hwt; omega)]
      have hl2 : l2.length ≤ 1099511627776 := by have := hm.inv.size; omega
      have hpush := push_c H H4 b l2 (p.1 + (gi g.links (e / 2)).metric, (ends g e).2.1) hl2 hat2 hh2
      refine exC_intro hpush ?_
      rintro v H5 ⟨hv, l3, hpm3, hh3, hat3⟩
      simp -implicitDefEqProofs only [go_sem, Nat.reduceEqDiff, Nat.reduceAdd, Nat.reduceMul, Nat.reduceLeDiff, Nat.reduceSub, Nat.reduceLT, Nat.reduceBEq, Int.reduceToNat, reduceCtorEq, ↓reduceIte, Int.reduceEq, Int.reduceNeg, Int.reduceLT, Int.reduceLE, Int.reduceAdd, Int.reduceSub, Int.reduceMul]
      repeat' (first | simp -implicitDefEqProofs only [go_sem, Nat.reduceEqDiff, Nat.reduceAdd, Nat.reduceMul, Nat.reduceLeDiff, Nat.reduceSub, Nat.reduceLT, Nat.reduceBEq, Int.reduceToNat, reduceCtorEq, ↓reduceIte, Int.reduceEq, Int.reduceNeg, Int.reduceLT, Int.reduceLE, Int.reduceAdd, Int.reduceSub, Int.reduceMul] | simp -implicitDefEqProofs (disch := omega) only [iaq_vec, iao_arr, iaq_raw, rd_map, wrap_id, binq_quo, binq_rem, binq_shl, binq_shr, tdiv_pos, tmod_pos, if_pos, exV_some, Option.map_some] | ((first | with_reducible apply exIf_dec | ((with_reducible apply exGd_dec); focus exact rfl) | ((with_reducible apply exGq_dec); focus exact rfl) | with_reducible apply exIf_intro | ((with_reducible apply exGd_intro); focus exact rfl) | ((with_reducible apply exGq_intro); focus exact rfl)) <;> intro _))
      have hl3 := hpm3.length_eq
      simp only [List.length_cons] at hl3
      have hk' : k.toNat < (out g p.2).length := by omega
      have hkk : ((k.toNat : Nat) : Int) = k := Int.toNat_of_nonneg k0
      refine ih3 (k + 1, l3, H5) ⟨by dsimp only; omega, by dsimp only; omega, ?_, hh3, hat3, by dsimp only; omega⟩ (by dsimp only; omega)
      dsimp only
      rw [show (k + 1).toNat = k.toNat + 1 by omega]
      refine dmid_push hf hm hk' (by rw [hkk, ← he]; assumption) ?_
      rw [hkk, ← he, hg1]
      exact hpm3
    · have hto : ¬ gi d1 (ends g e).2.1 = -1 := by assumption
      refine ih3 (k + 1, l2, H4) ⟨by dsimp only; omega, by dsimp only; omega, ?_, hh2, hat2, by dsimp only; omega⟩ (by dsimp only; omega)
      dsimp only
      rw [show (k + 1).toNat = k.toNat + 1 by omega]
      refine dmid_skip hm (by omega) fun _ => ?_
      rw [Int.toNat_of_nonneg k0, ← he]
      rcases hm.inv.way _ hbn.2.1 hbn.2.2 with hh | hh
      · exact absurd hh hto
      · exact hh.1
    · refine ih3 (k + 1, l2, H4) ⟨by dsimp only; omega, by dsimp only; omega, ?_, hh2, hat2, by dsimp only; omega⟩ (by dsimp only; omega)
      dsimp only
      rw [show (k + 1).toNat = k.toNat + 1 by omega]
      refine dmid_skip hm (by omega) fun hu => ?_
      rw [Int.toNat_of_nonneg k0, ← he, ‹upE down e = false›] at hu
      cases hu
    · exfalso; omega
  · obtain ⟨q1, q2⟩ := dmid_end hm (by omega)
    have hsz2 := hm.inv.size
    have hroom := hm.room
    repeat' (first | simp -implicitDefEqProofs only [go_sem, Nat.reduceEqDiff, Nat.reduceAdd, Nat.reduceMul, Nat.reduceLeDiff, Nat.reduceSub, Nat.reduceLT, Nat.reduceBEq, Int.reduceToNat, reduceCtorEq, ↓reduceIte, Int.reduceEq, Int.reduceNeg, Int.reduceLT, Int.reduceLE, Int.reduceAdd, Int.reduceSub, Int.reduceMul] | simp -implicitDefEqProofs (disch := omega) only [iaq_vec, iao_arr, iaq_raw, rd_map, wrap_id, binq_quo, binq_rem, binq_shl, binq_shr, tdiv_pos, tmod_pos, if_pos, exV_some, Option.map_some] | ((first | with_reducible apply exIf_dec | ((with_reducible apply exGd_dec); focus exact rfl) | ((with_reducible apply exGq_dec); focus exact rfl) | with_reducible apply exIf_intro | ((with_reducible apply exGd_intro); focus exact rfl) | ((with_reducible apply exGq_intro); focus exact rfl)) <;> intro _))
    all_goals first | (exfalso; omega) | skip
    exact ih2 (d1, l2, H4) ⟨⟨q1, q2⟩, hh2, hat2⟩ (by dsimp only; omega)
end Go.Proofs.Ytkephdahbplhfaa
