import Derived.Test.YtkephdahbplhfaaScSpf
import Derived.Test.YtkephdahbplhfaaScWaymarkref1
import Derived.Test.YtkephdahbplhfaaS4
set_option linter.unusedSimpArgs false
set_option linter.unusedVariables false
/- The edges with which shortest ways begin. -/
namespace Go.Proofs.Ytkephdahbplhfaa
open Go Abs
set_option maxHeartbeats 400000

theorem to_c (g : Graph) (nl : Bool) (down : List Bool) (s : Int) (H : AHeap) : APure Try.prog 45 [g.av, blv nl down, iv s] H (fromAV g down s) := by
  have fc := from_c g nl down s H
  simp only [Graph.av, blv] at fc
  intro Q h
  refine ACalls.of_code fn_spf_To ?_
  simp -implicitDefEqProofs only [sc_spf_To, Graph.av, blv, go_sem, Nat.reduceEqDiff, Nat.reduceAdd, Nat.reduceMul, Nat.reduceLeDiff, Nat.reduceSub, Nat.reduceLT, Nat.reduceBEq, Int.reduceToNat, reduceCtorEq, ↓reduceIte, Int.reduceEq, Int.reduceNeg, Int.reduceLT, Int.reduceLE, Int.reduceAdd, Int.reduceSub, Int.reduceMul]
  refine exC_pure fc ?_
  repeat' (first | simp -implicitDefEqProofs only [go_sem, Nat.reduceEqDiff, Nat.reduceAdd, Nat.reduceMul, Nat.reduceLeDiff, Nat.reduceSub, Nat.reduceLT, Nat.reduceBEq, Int.reduceToNat, reduceCtorEq, ↓reduceIte, Int.reduceEq, Int.reduceNeg, Int.reduceLT, Int.reduceLE, Int.reduceAdd, Int.reduceSub, Int.reduceMul] | simp -implicitDefEqProofs (disch := omega) only [iaq_vec, iao_arr, iaq_raw, rd_map, wrap_id, binq_quo, binq_rem, binq_shl, binq_shr, tdiv_pos, tmod_pos, if_pos, exV_some, Option.map_some] | ((first | with_reducible apply exIf_dec | ((with_reducible apply exGd_dec); focus exact rfl) | ((with_reducible apply exGq_dec); focus exact rfl) | with_reducible apply exIf_intro | ((with_reducible apply exGd_intro); focus exact rfl) | ((with_reducible apply exGq_intro); focus exact rfl)) <;> intro _))
  exact h

def onB (g : Graph) (down : List Bool) (to : List Int) (node e : Int) : Bool := upE down e && (decide (0 ≤ gi to (ends g e).2.1) && decide (gi to node - wt g e = gi to (ends g e).2.1))
def nextOk (g : Graph) (to : List Int) (node : Int) : Prop := (check g).2 = 0 ∧ (to.length : Int) = g.nodes ∧ (0 ≤ node ∧ node < g.nodes) ∧ 0 < gi to node
instance (g : Graph) (to : List Int) (node : Int) : Decidable (nextOk g to node) := inferInstanceAs (Decidable (_ ∧ _))
def nextL (g : Graph) (down : List Bool) (to : List Int) (node : Int) : List Int := if nextOk g to node then (out g node).filter (onB g down to node) else []
theorem nextL_length (g : Graph) (down : List Bool) (to : List Int) (node : Int) : (nextL g down to node).length ≤ 2 * g.links.length := by
  unfold nextL
  split
  · exact Nat.le_trans (List.length_filter_le _ _) (out_length g node)
  · simp
theorem I64s.gi {l : List Int} (h : I64s l) {i : Int} (h0 : 0 ≤ i) (h1 : i < l.length) : -9223372036854775808 ≤ gi l i ∧ gi l i ≤ 9223372036854775807 := h _ (gi_mem h0 h1)
theorem filter_step (p : Int → Bool) (l : List Int) {k : Int} (h0 : 0 ≤ k) (h1 : k < l.length) : (l.take (k + 1).toNat).filter p = if p (gi l k) = true then (l.take k.toNat).filter p ++ [gi l k] else (l.take k.toNat).filter p := by
  rw [take_gi h0 h1, List.filter_append, List.filter_cons, List.filter_nil]
  split <;> simp

theorem next_c (g : Graph) (nl : Bool) (down : List Bool) (nt : Bool) (to : List Int) (hto : I64s to) (node : Int) (H : AHeap) : APure Try.prog 46 [g.av, blv nl down, .vec nt (to.map iv) to.length, iv node] H (ints (nextL g down to node)) := by
  have iss := is_c g node H
  simp only [Graph.av] at iss
  intro Q h
  refine ACalls.of_code fn_spf_Next ?_
  simp -implicitDefEqProofs only [sc_spf_Next, Graph.av, blv, go_sem, Nat.reduceEqDiff, Nat.reduceAdd, Nat.reduceMul, Nat.reduceLeDiff, Nat.reduceSub, Nat.reduceLT, Nat.reduceBEq, Int.reduceToNat, reduceCtorEq, ↓reduceIte, Int.reduceEq, Int.reduceNeg, Int.reduceLT, Int.reduceLE, Int.reduceAdd, Int.reduceSub, Int.reduceMul]
  refine exC_pure (graph_right_c g _) ?_
  repeat' (first | simp -implicitDefEqProofs only [go_sem, Nat.reduceEqDiff, Nat.reduceAdd, Nat.reduceMul, Nat.reduceLeDiff, Nat.reduceSub, Nat.reduceLT, Nat.reduceBEq, Int.reduceToNat, reduceCtorEq, ↓reduceIte, Int.reduceEq, Int.reduceNeg, Int.reduceLT, Int.reduceLE, Int.reduceAdd, Int.reduceSub, Int.reduceMul] | simp -implicitDefEqProofs (disch := omega) only [iaq_vec, iao_arr, iaq_raw, rd_map, wrap_id, binq_quo, binq_rem, binq_shl, binq_shr, tdiv_pos, tmod_pos, if_pos, exV_some, Option.map_some] | ((first | with_reducible apply exIf_dec | ((with_reducible apply exGd_dec); focus exact rfl) | ((with_reducible apply exGq_dec); focus exact rfl) | with_reducible apply exIf_intro | ((with_reducible apply exGd_intro); focus exact rfl) | ((with_reducible apply exGq_intro); focus exact rfl)) <;> intro _) | with_reducible refine exC_pure (iss) ?_ | with_reducible refine exCq_pure (iss) ?_)
  all_goals first | (refine fin_ h ?_; rw [nextL, if_neg (by unfold nextOk; omega)]; rfl) | skip
  have hc : (check g).2 = 0 := by omega
  have hok : nextOk g to node := by unfold nextOk; omega
  have hf := fit_of g hc
  have hfew := hf.few
  have hol := out_length g node
  refine exC_pure (out_c g (by omega) node _) ?_
  simp -implicitDefEqProofs only [ints, go_sem, Nat.reduceEqDiff, Nat.reduceAdd, Nat.reduceMul, Nat.reduceLeDiff, Nat.reduceSub, Nat.reduceLT, Nat.reduceBEq, Int.reduceToNat, reduceCtorEq, ↓reduceIte, Int.reduceEq, Int.reduceNeg, Int.reduceLT, Int.reduceLE, Int.reduceAdd, Int.reduceSub, Int.reduceMul]
  repeat' (first | simp -implicitDefEqProofs only [go_sem, Nat.reduceEqDiff, Nat.reduceAdd, Nat.reduceMul, Nat.reduceLeDiff, Nat.reduceSub, Nat.reduceLT, Nat.reduceBEq, Int.reduceToNat, reduceCtorEq, ↓reduceIte, Int.reduceEq, Int.reduceNeg, Int.reduceLT, Int.reduceLE, Int.reduceAdd, Int.reduceSub, Int.reduceMul] | simp -implicitDefEqProofs (disch := omega) only [iaq_vec, iao_arr, iaq_raw, rd_map, wrap_id, binq_quo, binq_rem, binq_shl, binq_shr, tdiv_pos, tmod_pos, if_pos, exV_some, Option.map_some] | ((first | with_reducible apply exIf_dec | ((with_reducible apply exGd_dec); focus exact rfl) | ((with_reducible apply exGq_dec); focus exact rfl) | with_reducible apply exIf_intro | ((with_reducible apply exGd_intro); focus exact rfl) | ((with_reducible apply exGq_intro); focus exact rfl)) <;> intro _))
  obtain ⟨f, hfl⟩ : ∃ f : Int → List Int, f = fun k => ((out g node).take k.toNat).filter (onB g down to node) := ⟨_, rfl⟩
  have f0 : f 0 = [] := by rw [hfl]; simp
  have fl : ∀ k : Int, (f k).length ≤ (out g node).length := fun k => by
    rw [hfl]
    exact Nat.le_trans (List.length_filter_le _ _) (by rw [List.length_take]; omega)
  have fs : ∀ k : Int, 0 ≤ k → k < (out g node).length → f (k + 1) = if onB g down to node (gi (out g node) k) = true then f k ++ [gi (out g node) k] else f k := fun k k0 k1 => by
    rw [hfl]; exact filter_step _ _ k0 k1
  have fe : ∀ k : Int, ((out g node).length : Int) ≤ k → f k = nextL g down to node := fun k hk => by
    rw [hfl]
    simp only
    rw [List.take_of_length_le (by omega), nextL, if_pos hok]
  clear hfl
  refine exL_mod (fun k : Int => [(42, .v (iv k))]) (fun k => [(85, .arr (f k).isEmpty ((f k).map iv) (f k).length 3 1)]) (fun k => 0 ≤ k ∧ k ≤ (out g node).length) (fun k => ((out g node).length - k).toNat) 0 (by rw [f0]; rfl) ⟨by omega, by omega⟩ ?_
  rintro k ⟨k0, k1⟩ ih
  simp only [S.up, S.upH, ups, Abs.put, Nat.reduceEqDiff, ↓reduceIte, Nat.reduceAdd] at ih
  simp -implicitDefEqProofs only [congrArg KI.code sc_spf_Next_L0.eq_1, go_sem, Nat.reduceEqDiff, Nat.reduceAdd, Nat.reduceMul, Nat.reduceLeDiff, Nat.reduceSub, Nat.reduceLT, Nat.reduceBEq, Int.reduceToNat, reduceCtorEq, ↓reduceIte, Int.reduceEq, Int.reduceNeg, Int.reduceLT, Int.reduceLE, Int.reduceAdd, Int.reduceSub, Int.reduceMul]
  by_cases hk : k < (out g node).length
  · obtain ⟨e, he⟩ : ∃ e, e = gi (out g node) k := ⟨_, rfl⟩
    have hmem : e ∈ out g node := by rw [he]; exact gi_mem k0 hk
    obtain ⟨e0, e1, e2⟩ := (out_mem g e node).1 hmem
    obtain ⟨⟨a0, a1⟩, b0, b1⟩ := hf.b e e0 e1
    have hwt := hf.w e e0 e1
    unfold wt at hwt
    have hok2 := hok.2
    have hx := (hto.gi hok2.2.1.1 (by omega)).2
    have hy := (hto.gi b0 (by omega)).2
    have endc := ends_c g e (by omega) H
    have upc := up_c nl down e e0 (by omega) H
    simp only [Graph.av, triIIB] at endc
    simp only [blv] at upc
    have hfl := fl k
    have hs := fs k k0 hk
    rw [← he] at hs
    have nxt := ih (k + 1) ⟨by omega, by omega⟩ (by omega)
    repeat' (first | simp -implicitDefEqProofs only [go_sem, Nat.reduceEqDiff, Nat.reduceAdd, Nat.reduceMul, Nat.reduceLeDiff, Nat.reduceSub, Nat.reduceLT, Nat.reduceBEq, Int.reduceToNat, reduceCtorEq, ↓reduceIte, Int.reduceEq, Int.reduceNeg, Int.reduceLT, Int.reduceLE, Int.reduceAdd, Int.reduceSub, Int.reduceMul] | simp -implicitDefEqProofs (disch := omega) only [← he, rd_link2, iaq_vec, iao_arr, iaq_raw, rd_map, wrap_id, binq_quo, binq_rem, binq_shl, binq_shr, tdiv_pos, tmod_pos, if_pos, exV_some, Option.map_some] | ((first | with_reducible apply exIf_dec | ((with_reducible apply exGd_dec); focus exact rfl) | ((with_reducible apply exGq_dec); focus exact rfl) | with_reducible apply exIf_intro | ((with_reducible apply exGd_intro); focus exact rfl) | ((with_reducible apply exGq_intro); focus exact rfl)) <;> intro _) | with_reducible refine exC_pure (endc) ?_ | with_reducible refine exCq_pure (endc) ?_ | with_reducible refine exC_pure (upc) ?_ | with_reducible refine exCq_pure (upc) ?_)
    · rw [if_pos (by simp only [onB, decide_eq_true_eq, Bool.and_eq_true]; exact ⟨by assumption, by assumption, by unfold wt; omega⟩)] at hs
      refine exS_ints rfl (by omega) (by simp only [maxLen]; omega) ?_
      rw [← hs]
      repeat' (first | simp -implicitDefEqProofs only [go_sem, Nat.reduceEqDiff, Nat.reduceAdd, Nat.reduceMul, Nat.reduceLeDiff, Nat.reduceSub, Nat.reduceLT, Nat.reduceBEq, Int.reduceToNat, reduceCtorEq, ↓reduceIte, Int.reduceEq, Int.reduceNeg, Int.reduceLT, Int.reduceLE, Int.reduceAdd, Int.reduceSub, Int.reduceMul] | simp -implicitDefEqProofs (disch := omega) only [iaq_vec, iao_arr, iaq_raw, rd_map, wrap_id, binq_quo, binq_rem, binq_shl, binq_shr, tdiv_pos, tmod_pos, if_pos, exV_some, Option.map_some] | ((first | with_reducible apply exIf_dec | ((with_reducible apply exGd_dec); focus exact rfl) | ((with_reducible apply exGq_dec); focus exact rfl) | with_reducible apply exIf_intro | ((with_reducible apply exGd_intro); focus exact rfl) | ((with_reducible apply exGq_intro); focus exact rfl)) <;> intro _))
      exact nxt
    · rw [if_neg (fun hh => by simp only [onB, decide_eq_true_eq, Bool.and_eq_true] at hh; obtain ⟨_, x1, x2⟩ := hh; unfold wt at x2; omega)] at hs
      rw [hs] at nxt
      exact nxt
    · rw [if_neg (fun hh => by simp only [onB, decide_eq_true_eq, Bool.and_eq_true] at hh; obtain ⟨_, x1, x2⟩ := hh; unfold wt at x2; omega)] at hs
      rw [hs] at nxt
      exact nxt
    · rw [if_neg (by simp only [onB, ‹upE down e = false›, Bool.false_and, Bool.false_eq_true, not_false_eq_true])] at hs
      rw [hs] at nxt
      exact nxt
    · exfalso; omega
  · repeat' (first | simp -implicitDefEqProofs only [go_sem, Nat.reduceEqDiff, Nat.reduceAdd, Nat.reduceMul, Nat.reduceLeDiff, Nat.reduceSub, Nat.reduceLT, Nat.reduceBEq, Int.reduceToNat, reduceCtorEq, ↓reduceIte, Int.reduceEq, Int.reduceNeg, Int.reduceLT, Int.reduceLE, Int.reduceAdd, Int.reduceSub, Int.reduceMul] | simp -implicitDefEqProofs (disch := omega) only [iaq_vec, iao_arr, iaq_raw, rd_map, wrap_id, binq_quo, binq_rem, binq_shl, binq_shr, tdiv_pos, tmod_pos, if_pos, exV_some, Option.map_some] | ((first | with_reducible apply exIf_dec | ((with_reducible apply exGd_dec); focus exact rfl) | ((with_reducible apply exGq_dec); focus exact rfl) | with_reducible apply exIf_intro | ((with_reducible apply exGd_intro); focus exact rfl) | ((with_reducible apply exGq_intro); focus exact rfl)) <;> intro _))
    all_goals first | (exfalso; omega) | skip
    rw [fe k (by omega)]
    exact h

theorem next_ref_c (g : Graph) (nl : Bool) (down : List Bool) (nt : Bool) (to : List Int) (hto : I64s to) (node : Int) (H : AHeap) : APure Try.prog 47 [g.av, blv nl down, .vec nt (to.map iv) to.length, iv node] H (ints (nextL g down to node)) := by
  have iss := isNode_ref_c g node H
  simp only [Graph.av] at iss
  intro Q h
  refine ACalls.of_code fn_waymarkref1_Next ?_
  simp -implicitDefEqProofs only [sc_waymarkref1_Next, Graph.av, blv, go_sem, Nat.reduceEqDiff, Nat.reduceAdd, Nat.reduceMul, Nat.reduceLeDiff, Nat.reduceSub, Nat.reduceLT, Nat.reduceBEq, Int.reduceToNat, reduceCtorEq, ↓reduceIte, Int.reduceEq, Int.reduceNeg, Int.reduceLT, Int.reduceLE, Int.reduceAdd, Int.reduceSub, Int.reduceMul]
  refine exC_pure (check_ref_c g _) ?_
  simp -implicitDefEqProofs only [pairI, go_sem, Nat.reduceEqDiff, Nat.reduceAdd, Nat.reduceMul, Nat.reduceLeDiff, Nat.reduceSub, Nat.reduceLT, Nat.reduceBEq, Int.reduceToNat, reduceCtorEq, ↓reduceIte, Int.reduceEq, Int.reduceNeg, Int.reduceLT, Int.reduceLE, Int.reduceAdd, Int.reduceSub, Int.reduceMul]
  repeat' (first | simp -implicitDefEqProofs only [go_sem, Nat.reduceEqDiff, Nat.reduceAdd, Nat.reduceMul, Nat.reduceLeDiff, Nat.reduceSub, Nat.reduceLT, Nat.reduceBEq, Int.reduceToNat, reduceCtorEq, ↓reduceIte, Int.reduceEq, Int.reduceNeg, Int.reduceLT, Int.reduceLE, Int.reduceAdd, Int.reduceSub, Int.reduceMul] | simp -implicitDefEqProofs (disch := omega) only [iaq_vec, iao_arr, iaq_raw, rd_map, wrap_id, binq_quo, binq_rem, binq_shl, binq_shr, tdiv_pos, tmod_pos, if_pos, exV_some, Option.map_some] | ((first | with_reducible apply exIf_dec | ((with_reducible apply exGd_dec); focus exact rfl) | ((with_reducible apply exGq_dec); focus exact rfl) | with_reducible apply exIf_intro | ((with_reducible apply exGd_intro); focus exact rfl) | ((with_reducible apply exGq_intro); focus exact rfl)) <;> intro _) | with_reducible refine exC_pure (iss) ?_ | with_reducible refine exCq_pure (iss) ?_)
  all_goals first | (refine fin_ h ?_; rw [nextL, if_neg (by unfold nextOk; omega)]; rfl) | skip
  have hc : (check g).2 = 0 := by omega
  have hok : nextOk g to node := by unfold nextOk; omega
  have hf := fit_of g hc
  have hfew := hf.few
  have hol := out_length g node
  refine exC_pure (out_ref_c g (by omega) node _) ?_
  simp -implicitDefEqProofs only [ints, go_sem, Nat.reduceEqDiff, Nat.reduceAdd, Nat.reduceMul, Nat.reduceLeDiff, Nat.reduceSub, Nat.reduceLT, Nat.reduceBEq, Int.reduceToNat, reduceCtorEq, ↓reduceIte, Int.reduceEq, Int.reduceNeg, Int.reduceLT, Int.reduceLE, Int.reduceAdd, Int.reduceSub, Int.reduceMul]
  repeat' (first | simp -implicitDefEqProofs only [go_sem, Nat.reduceEqDiff, Nat.reduceAdd, Nat.reduceMul, Nat.reduceLeDiff, Nat.reduceSub, Nat.reduceLT, Nat.reduceBEq, Int.reduceToNat, reduceCtorEq, ↓reduceIte, Int.reduceEq, Int.reduceNeg, Int.reduceLT, Int.reduceLE, Int.reduceAdd, Int.reduceSub, Int.reduceMul] | simp -implicitDefEqProofs (disch := omega) only [iaq_vec, iao_arr, iaq_raw, rd_map, wrap_id, binq_quo, binq_rem, binq_shl, binq_shr, tdiv_pos, tmod_pos, if_pos, exV_some, Option.map_some] | ((first | with_reducible apply exIf_dec | ((with_reducible apply exGd_dec); focus exact rfl) | ((with_reducible apply exGq_dec); focus exact rfl) | with_reducible apply exIf_intro | ((with_reducible apply exGd_intro); focus exact rfl) | ((with_reducible apply exGq_intro); focus exact rfl)) <;> intro _))
  obtain ⟨f, hfl⟩ : ∃ f : Int → List Int, f = fun k => ((out g node).take k.toNat).filter (onB g down to node) := ⟨_, rfl⟩
  have f0 : f 0 = [] := by rw [hfl]; simp
  have fl : ∀ k : Int, (f k).length ≤ (out g node).length := fun k => by
    rw [hfl]
    exact Nat.le_trans (List.length_filter_le _ _) (by rw [List.length_take]; omega)
  have fs : ∀ k : Int, 0 ≤ k → k < (out g node).length → f (k + 1) = if onB g down to node (gi (out g node) k) = true then f k ++ [gi (out g node) k] else f k := fun k k0 k1 => by
    rw [hfl]; exact filter_step _ _ k0 k1
  have fe : ∀ k : Int, ((out g node).length : Int) ≤ k → f k = nextL g down to node := fun k hk => by
    rw [hfl]
    simp only
    rw [List.take_of_length_le (by omega), nextL, if_pos hok]
  clear hfl
  refine exL_mod (fun k : Int => [(13, .v (iv k))]) (fun k => [(106, .arr (f k).isEmpty ((f k).map iv) (f k).length 3 1)]) (fun k => 0 ≤ k ∧ k ≤ (out g node).length) (fun k => ((out g node).length - k).toNat) 0 (by rw [f0]; rfl) ⟨by omega, by omega⟩ ?_
  rintro k ⟨k0, k1⟩ ih
  simp only [S.up, S.upH, ups, Abs.put, Nat.reduceEqDiff, ↓reduceIte, Nat.reduceAdd] at ih
  simp -implicitDefEqProofs only [congrArg KI.code sc_waymarkref1_Next_L0.eq_1, go_sem, Nat.reduceEqDiff, Nat.reduceAdd, Nat.reduceMul, Nat.reduceLeDiff, Nat.reduceSub, Nat.reduceLT, Nat.reduceBEq, Int.reduceToNat, reduceCtorEq, ↓reduceIte, Int.reduceEq, Int.reduceNeg, Int.reduceLT, Int.reduceLE, Int.reduceAdd, Int.reduceSub, Int.reduceMul]
  by_cases hk : k < (out g node).length
  · obtain ⟨e, he⟩ : ∃ e, e = gi (out g node) k := ⟨_, rfl⟩
    have hmem : e ∈ out g node := by rw [he]; exact gi_mem k0 hk
    obtain ⟨e0, e1, e2⟩ := (out_mem g e node).1 hmem
    obtain ⟨⟨a0, a1⟩, b0, b1⟩ := hf.b e e0 e1
    have hwt := hf.w e e0 e1
    unfold wt at hwt
    have hok2 := hok.2
    have hx := (hto.gi hok2.2.1.1 (by omega)).2
    have hy := (hto.gi b0 (by omega)).2
    have endc := ends_ref_c g e (by omega) H
    have upc := downE_c nl down e e0 H
    simp only [Graph.av, triIIB] at endc
    simp only [blv] at upc
    have hfl := fl k
    have hs := fs k k0 hk
    rw [← he] at hs
    have nxt := ih (k + 1) ⟨by omega, by omega⟩ (by omega)
    repeat' (first | simp -implicitDefEqProofs only [go_sem, Nat.reduceEqDiff, Nat.reduceAdd, Nat.reduceMul, Nat.reduceLeDiff, Nat.reduceSub, Nat.reduceLT, Nat.reduceBEq, Int.reduceToNat, reduceCtorEq, ↓reduceIte, Int.reduceEq, Int.reduceNeg, Int.reduceLT, Int.reduceLE, Int.reduceAdd, Int.reduceSub, Int.reduceMul] | simp -implicitDefEqProofs (disch := omega) only [← he, rd_link2, iaq_vec, iao_arr, iaq_raw, rd_map, wrap_id, binq_quo, binq_rem, binq_shl, binq_shr, tdiv_pos, tmod_pos, if_pos, exV_some, Option.map_some] | ((first | with_reducible apply exIf_dec | ((with_reducible apply exGd_dec); focus exact rfl) | ((with_reducible apply exGq_dec); focus exact rfl) | with_reducible apply exIf_intro | ((with_reducible apply exGd_intro); focus exact rfl) | ((with_reducible apply exGq_intro); focus exact rfl)) <;> intro _) | with_reducible refine exC_pure (endc) ?_ | with_reducible refine exCq_pure (endc) ?_ | with_reducible refine exC_pure (upc) ?_ | with_reducible refine exCq_pure (upc) ?_)
    · rw [if_pos (by simp only [onB, decide_eq_true_eq, Bool.and_eq_true]; exact ⟨by assumption, by assumption, by unfold wt; omega⟩)] at hs
      refine exS_ints rfl (by omega) (by simp only [maxLen]; omega) ?_
      rw [← hs]
      repeat' (first | simp -implicitDefEqProofs only [go_sem, Nat.reduceEqDiff, Nat.reduceAdd, Nat.reduceMul, Nat.reduceLeDiff, Nat.reduceSub, Nat.reduceLT, Nat.reduceBEq, Int.reduceToNat, reduceCtorEq, ↓reduceIte, Int.reduceEq, Int.reduceNeg, Int.reduceLT, Int.reduceLE, Int.reduceAdd, Int.reduceSub, Int.reduceMul] | simp -implicitDefEqProofs (disch := omega) only [iaq_vec, iao_arr, iaq_raw, rd_map, wrap_id, binq_quo, binq_rem, binq_shl, binq_shr, tdiv_pos, tmod_pos, if_pos, exV_some, Option.map_some] | ((first | with_reducible apply exIf_dec | ((with_reducible apply exGd_dec); focus exact rfl) | ((with_reducible apply exGq_dec); focus exact rfl) | with_reducible apply exIf_intro | ((with_reducible apply exGd_intro); focus exact rfl) | ((with_reducible apply exGq_intro); focus exact rfl)) <;> intro _))
      exact nxt
    · rw [if_neg (fun hh => by simp only [onB, decide_eq_true_eq, Bool.and_eq_true] at hh; obtain ⟨_, x1, x2⟩ := hh; unfold wt at x2; omega)] at hs
      rw [hs] at nxt
      exact nxt
    · rw [if_neg (fun hh => by simp only [onB, decide_eq_true_eq, Bool.and_eq_true] at hh; obtain ⟨_, x1, x2⟩ := hh; unfold wt at x2; omega)] at hs
      rw [hs] at nxt
      exact nxt
    · rw [if_neg (by simp only [onB, ‹upE down e = false›, Bool.false_and, Bool.false_eq_true, not_false_eq_true])] at hs
      rw [hs] at nxt
      exact nxt
    · exfalso; omega
  · repeat' (first | simp -implicitDefEqProofs only [go_sem, Nat.reduceEqDiff, Nat.reduceAdd, Nat.reduceMul, Nat.reduceLeDiff, Nat.reduceSub, Nat.reduceLT, Nat.reduceBEq, Int.reduceToNat, reduceCtorEq, ↓reduceIte, Int.reduceEq, Int.reduceNeg, Int.reduceLT, Int.reduceLE, Int.reduceAdd, Int.reduceSub, Int.reduceMul] | simp -implicitDefEqProofs (disch := omega) only [iaq_vec, iao_arr, iaq_raw, rd_map, wrap_id, binq_quo, binq_rem, binq_shl, binq_shr, tdiv_pos, tmod_pos, if_pos, exV_some, Option.map_some] | ((first | with_reducible apply exIf_dec | ((with_reducible apply exGd_dec); focus exact rfl) | ((with_reducible apply exGq_dec); focus exact rfl) | with_reducible apply exIf_intro | ((with_reducible apply exGd_intro); focus exact rfl) | ((with_reducible apply exGq_intro); focus exact rfl)) <;> intro _))
    all_goals first | (exfalso; omega) | skip
    rw [fe k (by omega)]
    exact h

end Go.Proofs.Ytkephdahbplhfaa
