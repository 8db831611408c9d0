import Derived.Test.YtkephdahbplhfaaScGraph
import Derived.Test.YtkephdahbplhfaaScWaymarkref1
import Derived.Test.YtkephdahbplhfaaAbsZ
set_option linter.unusedSimpArgs false
set_option linter.unusedVariables false
/- The package graph: what each of its functions answers. -/
namespace Go.Proofs.Ytkephdahbplhfaa
open Go Abs
attribute [local irreducible] EX exL exG exC exCq exS exV exIf exGd exGq

structure Link where
  A : Int
  B : Int
  metric : Int
  colour : Int
  deriving Inhabited
instance : Enc Link where
  sz := 4
  cells l := [iv l.A, iv l.B, iv l.metric, iv l.colour]
  len _ := rfl
  pos := by decide
def Link.av (l : Link) : AV := .agg [iv l.A, iv l.B, iv l.metric, iv l.colour]
theorem Link.cells_eq (l : Link) : Enc.cells l = [iv l.A, iv l.B, iv l.metric, iv l.colour] := rfl
theorem Link.sz_eq : Enc.sz Link = 4 := rfl
structure Graph where
  nodes : Int
  nl : Bool
  links : List Link
  deriving Inhabited
def Graph.av (g : Graph) : AV := .agg [iv g.nodes, .vec g.nl (rows g.links) g.links.length]
theorem rd_link {l : List Link} {i : Int} (h0 : 0 ≤ i) (h1 : i < l.length) : rdV (rows l) (i.toNat * 4) 4 true = some (gi l i).av := by
  rw [rd_row (n := 4) Link.sz_eq.symm h0 h1]; rfl
theorem rd_link0 {l : List Link} {i : Int} {m : Nat} (h0 : 0 ≤ i) (h1 : i < l.length) : rdV (rows l) (i.toNat * 4) m false = some (iv (gi l i).A) := by
  rw [rd_field0 (m := m) (n := 4) Link.sz_eq.symm h0 h1]; rfl
theorem rd_link1 {l : List Link} {i : Int} {m : Nat} (h0 : 0 ≤ i) (h1 : i < l.length) : rdV (rows l) (i.toNat * 4 + 1) m false = some (iv (gi l i).B) := by
  rw [rd_field (m := m) (n := 4) Link.sz_eq.symm (by decide) h0 h1]; rfl
theorem rd_link2 {l : List Link} {i : Int} {m : Nat} (h0 : 0 ≤ i) (h1 : i < l.length) : rdV (rows l) (i.toNat * 4 + 2) m false = some (iv (gi l i).metric) := by
  rw [rd_field (m := m) (n := 4) Link.sz_eq.symm (by decide) h0 h1]; rfl
theorem rd_link3 {l : List Link} {i : Int} {m : Nat} (h0 : 0 ≤ i) (h1 : i < l.length) : rdV (rows l) (i.toNat * 4 + 3) m false = some (iv (gi l i).colour) := by
  rw [rd_field (m := m) (n := 4) Link.sz_eq.symm (by decide) h0 h1]; rfl

set_option maxHeartbeats 400000
theorem is_c (g : Graph) (n : Int) (H : AHeap) : APure Try.prog 66 [g.av, iv n] H (bv (decide (0 ≤ n ∧ n < g.nodes))) := by
  intro Q h
  refine ACalls.of_code fn_graph_Is ?_
  simp -implicitDefEqProofs only [sc_graph_Is, Graph.av, go_sem, Nat.reduceEqDiff, Nat.reduceAdd, Nat.reduceMul, Nat.reduceLeDiff, Nat.reduceSub, Nat.reduceLT, Nat.reduceBEq, Int.reduceToNat, reduceCtorEq, ↓reduceIte, Int.reduceEq, Int.reduceNeg, Int.reduceLT, Int.reduceLE, Int.reduceAdd, Int.reduceSub, Int.reduceMul]
  refine exGd_dec rfl ?_ ?_ <;> intro hb <;> repeat' (first | simp -implicitDefEqProofs only [go_sem, Nat.reduceEqDiff, Nat.reduceAdd, Nat.reduceMul, Nat.reduceLeDiff, Nat.reduceSub, Nat.reduceLT, Nat.reduceBEq, Int.reduceToNat, reduceCtorEq, ↓reduceIte, Int.reduceEq, Int.reduceNeg, Int.reduceLT, Int.reduceLE, Int.reduceAdd, Int.reduceSub, Int.reduceMul] | simp -implicitDefEqProofs (disch := omega) only [iaq_vec, iao_arr, iaq_raw, rd_map, wrap_id, binq_quo, binq_rem, binq_shl, binq_shr, tdiv_pos, tmod_pos, if_pos, exV_some, Option.map_some] | ((first | with_reducible apply exIf_dec | ((with_reducible apply exGd_dec); focus exact rfl) | ((with_reducible apply exGq_dec); focus exact rfl) | with_reducible apply exIf_intro | ((with_reducible apply exGd_intro); focus exact rfl) | ((with_reducible apply exGq_intro); focus exact rfl)) <;> intro _))
  · exact fin_ h (by simp; omega)
  · exact fin_ h (by simp; omega)

def linkErr (g : Graph) (l : Link) : Int :=
  if ¬ (0 ≤ l.A ∧ l.A < g.nodes) ∨ ¬ (0 ≤ l.B ∧ l.B < g.nodes) ∨ l.A = l.B then 4
  else if l.metric < 1 ∨ l.metric > 16777216 ∨ l.colour < 0 ∨ l.colour > 62 then 1 else 0

theorem graph_fold (g : Graph) : AV.agg [iv g.nodes, .vec g.nl (rows g.links) g.links.length] = g.av := rfl

theorem link_c (g : Graph) (l : Link) (H : AHeap) : APure Try.prog 58 [g.av, l.av] H (iv (linkErr g l)) := by
  intro Q h
  refine ACalls.of_code fn_graph_link ?_
  simp -implicitDefEqProofs only [sc_graph_link, Graph.av, Link.av, go_sem, Nat.reduceEqDiff, Nat.reduceAdd, Nat.reduceMul, Nat.reduceLeDiff, Nat.reduceSub, Nat.reduceLT, Nat.reduceBEq, Int.reduceToNat, reduceCtorEq, ↓reduceIte, Int.reduceEq, Int.reduceNeg, Int.reduceLT, Int.reduceLE, Int.reduceAdd, Int.reduceSub, Int.reduceMul]
  refine exC_pure (is_c g _ _) ?_
  repeat' (first | simp -implicitDefEqProofs only [go_sem, Nat.reduceEqDiff, Nat.reduceAdd, Nat.reduceMul, Nat.reduceLeDiff, Nat.reduceSub, Nat.reduceLT, Nat.reduceBEq, Int.reduceToNat, reduceCtorEq, ↓reduceIte, Int.reduceEq, Int.reduceNeg, Int.reduceLT, Int.reduceLE, Int.reduceAdd, Int.reduceSub, Int.reduceMul] | simp -implicitDefEqProofs (disch := omega) only [iaq_vec, iao_arr, iaq_raw, rd_map, wrap_id, binq_quo, binq_rem, binq_shl, binq_shr, tdiv_pos, tmod_pos, if_pos, exV_some, Option.map_some] | ((first | with_reducible apply exIf_dec | ((with_reducible apply exGd_dec); focus exact rfl) | ((with_reducible apply exGq_dec); focus exact rfl) | with_reducible apply exIf_intro | ((with_reducible apply exGd_intro); focus exact rfl) | ((with_reducible apply exGq_intro); focus exact rfl)) <;> intro _))
  all_goals try (refine fin_ h ?_; simp only [linkErr] <;> (repeat' split) <;> first | (exfalso; omega) | with_reducible rfl | (simp; omega))
  refine exC_pure (is_c g _ _) ?_
  repeat' (first | simp -implicitDefEqProofs only [go_sem, Nat.reduceEqDiff, Nat.reduceAdd, Nat.reduceMul, Nat.reduceLeDiff, Nat.reduceSub, Nat.reduceLT, Nat.reduceBEq, Int.reduceToNat, reduceCtorEq, ↓reduceIte, Int.reduceEq, Int.reduceNeg, Int.reduceLT, Int.reduceLE, Int.reduceAdd, Int.reduceSub, Int.reduceMul] | simp -implicitDefEqProofs (disch := omega) only [iaq_vec, iao_arr, iaq_raw, rd_map, wrap_id, binq_quo, binq_rem, binq_shl, binq_shr, tdiv_pos, tmod_pos, if_pos, exV_some, Option.map_some] | ((first | with_reducible apply exIf_dec | ((with_reducible apply exGd_dec); focus exact rfl) | ((with_reducible apply exGq_dec); focus exact rfl) | with_reducible apply exIf_intro | ((with_reducible apply exGd_intro); focus exact rfl) | ((with_reducible apply exGq_intro); focus exact rfl)) <;> intro _))
  all_goals (refine fin_ h ?_; simp only [linkErr] <;> (repeat' split) <;> first | (exfalso; omega) | with_reducible rfl | (simp; omega))

def checkFrom (g : Graph) : List Link → Int → Int × Int
  | [], _ => (-1, 0)
  | l :: ls, i => if linkErr g l = 0 then checkFrom g ls (i + 1) else (i, linkErr g l)
def check (g : Graph) : Int × Int :=
  if 120 < g.links.length then (-1, 6) else if g.nodes < 1 ∨ g.nodes > 40 then (-1, 1) else checkFrom g g.links 0
def pairI (p : Int × Int) : AV := .tup [iv p.1, iv p.2]

theorem check_c (g : Graph) (H : AHeap) : APure Try.prog 20 [g.av] H (pairI (check g)) := by
  intro Q h
  refine ACalls.of_code fn_graph_Check ?_
  simp -implicitDefEqProofs only [sc_graph_Check, Graph.av, go_sem, Nat.reduceEqDiff, Nat.reduceAdd, Nat.reduceMul, Nat.reduceLeDiff, Nat.reduceSub, Nat.reduceLT, Nat.reduceBEq, Int.reduceToNat, reduceCtorEq, ↓reduceIte, Int.reduceEq, Int.reduceNeg, Int.reduceLT, Int.reduceLE, Int.reduceAdd, Int.reduceSub, Int.reduceMul]
  repeat' (first | simp -implicitDefEqProofs only [go_sem, Nat.reduceEqDiff, Nat.reduceAdd, Nat.reduceMul, Nat.reduceLeDiff, Nat.reduceSub, Nat.reduceLT, Nat.reduceBEq, Int.reduceToNat, reduceCtorEq, ↓reduceIte, Int.reduceEq, Int.reduceNeg, Int.reduceLT, Int.reduceLE, Int.reduceAdd, Int.reduceSub, Int.reduceMul] | simp -implicitDefEqProofs (disch := omega) only [iaq_vec, iao_arr, iaq_raw, rd_map, wrap_id, binq_quo, binq_rem, binq_shl, binq_shr, tdiv_pos, tmod_pos, if_pos, exV_some, Option.map_some] | ((first | with_reducible apply exIf_dec | ((with_reducible apply exGd_dec); focus exact rfl) | ((with_reducible apply exGq_dec); focus exact rfl) | with_reducible apply exIf_intro | ((with_reducible apply exGd_intro); focus exact rfl) | ((with_reducible apply exGq_intro); focus exact rfl)) <;> intro _))
  all_goals try (refine fin_ h ?_; simp only [check, pairI] <;> (repeat' split) <;> first | (exfalso; omega) | with_reducible rfl | (simp; omega))
  refine exL_inv (fun i : Int => { env := [(1, .loc 1 0), (22, .v (.vec g.nl (rows g.links) g.links.length)), (23, .v (iv g.links.length)), (24, .v (iv i))], loc := [(1, .cells [iv g.nodes, .vec g.nl (rows g.links) g.links.length] 24)], H := H })
    (fun i => 0 ≤ i ∧ i ≤ g.links.length ∧ checkFrom g (g.links.drop i.toNat) i = check g) (fun i => (g.links.length - i).toNat) 0 rfl ⟨by omega, by omega, ?_⟩ ?_
  · simp only [check]; (repeat' split) <;> first | rfl | (exfalso; omega)
  rintro i ⟨h0, h1, h2⟩ ih
  simp -implicitDefEqProofs only [sc_graph_Check_L0, go_sem, Nat.reduceEqDiff, Nat.reduceAdd, Nat.reduceMul, Nat.reduceLeDiff, Nat.reduceSub, Nat.reduceLT, Nat.reduceBEq, Int.reduceToNat, reduceCtorEq, ↓reduceIte, Int.reduceEq, Int.reduceNeg, Int.reduceLT, Int.reduceLE, Int.reduceAdd, Int.reduceSub, Int.reduceMul]
  repeat' (first | simp -implicitDefEqProofs only [go_sem, Nat.reduceEqDiff, Nat.reduceAdd, Nat.reduceMul, Nat.reduceLeDiff, Nat.reduceSub, Nat.reduceLT, Nat.reduceBEq, Int.reduceToNat, reduceCtorEq, ↓reduceIte, Int.reduceEq, Int.reduceNeg, Int.reduceLT, Int.reduceLE, Int.reduceAdd, Int.reduceSub, Int.reduceMul] | simp -implicitDefEqProofs (disch := omega) only [rd_link, Link.av, iaq_vec, iao_arr, iaq_raw, rd_map, wrap_id, binq_quo, binq_rem, binq_shl, binq_shr, tdiv_pos, tmod_pos, if_pos, exV_some, Option.map_some] | ((first | with_reducible apply exIf_dec | ((with_reducible apply exGd_dec); focus exact rfl) | ((with_reducible apply exGq_dec); focus exact rfl) | with_reducible apply exIf_intro | ((with_reducible apply exGd_intro); focus exact rfl) | ((with_reducible apply exGq_intro); focus exact rfl)) <;> intro _))
  · refine exC_pure (link_c g (gi g.links i) _) ?_
    rw [drop_gi h0 (by assumption), checkFrom] at h2
    repeat' (first | simp -implicitDefEqProofs only [go_sem, Nat.reduceEqDiff, Nat.reduceAdd, Nat.reduceMul, Nat.reduceLeDiff, Nat.reduceSub, Nat.reduceLT, Nat.reduceBEq, Int.reduceToNat, reduceCtorEq, ↓reduceIte, Int.reduceEq, Int.reduceNeg, Int.reduceLT, Int.reduceLE, Int.reduceAdd, Int.reduceSub, Int.reduceMul] | simp -implicitDefEqProofs (disch := omega) only [iaq_vec, iao_arr, iaq_raw, rd_map, wrap_id, binq_quo, binq_rem, binq_shl, binq_shr, tdiv_pos, tmod_pos, if_pos, exV_some, Option.map_some] | ((first | with_reducible apply exIf_dec | ((with_reducible apply exGd_dec); focus exact rfl) | ((with_reducible apply exGq_dec); focus exact rfl) | with_reducible apply exIf_intro | ((with_reducible apply exGd_intro); focus exact rfl) | ((with_reducible apply exGq_intro); focus exact rfl)) <;> intro _))
    · rename_i hne
      rw [if_neg (by omega)] at h2
      exact fin_ h (by rw [← h2]; rfl)
    · rename_i hne
      rw [if_pos (by omega)] at h2
      exact ih (i + 1) ⟨by omega, by omega, h2⟩ (by omega)
  · rw [drop_end (by omega), checkFrom] at h2
    exact fin_ h (by rw [← h2]; rfl)

theorem check_ref_c (g : Graph) (H : AHeap) : APure Try.prog 21 [g.av] H (pairI (check g)) := by
  intro Q h
  refine ACalls.of_code fn_waymarkref1_Check ?_
  simp -implicitDefEqProofs only [sc_waymarkref1_Check, Graph.av, go_sem, Nat.reduceEqDiff, Nat.reduceAdd, Nat.reduceMul, Nat.reduceLeDiff, Nat.reduceSub, Nat.reduceLT, Nat.reduceBEq, Int.reduceToNat, reduceCtorEq, ↓reduceIte, Int.reduceEq, Int.reduceNeg, Int.reduceLT, Int.reduceLE, Int.reduceAdd, Int.reduceSub, Int.reduceMul]
  repeat' (first | simp -implicitDefEqProofs only [go_sem, Nat.reduceEqDiff, Nat.reduceAdd, Nat.reduceMul, Nat.reduceLeDiff, Nat.reduceSub, Nat.reduceLT, Nat.reduceBEq, Int.reduceToNat, reduceCtorEq, ↓reduceIte, Int.reduceEq, Int.reduceNeg, Int.reduceLT, Int.reduceLE, Int.reduceAdd, Int.reduceSub, Int.reduceMul] | simp -implicitDefEqProofs (disch := omega) only [iaq_vec, iao_arr, iaq_raw, rd_map, wrap_id, binq_quo, binq_rem, binq_shl, binq_shr, tdiv_pos, tmod_pos, if_pos, exV_some, Option.map_some] | ((first | with_reducible apply exIf_dec | ((with_reducible apply exGd_dec); focus exact rfl) | ((with_reducible apply exGq_dec); focus exact rfl) | with_reducible apply exIf_intro | ((with_reducible apply exGd_intro); focus exact rfl) | ((with_reducible apply exGq_intro); focus exact rfl)) <;> intro _))
  all_goals try (refine fin_ h ?_; simp only [check, pairI] <;> (repeat' split) <;> first | (exfalso; omega) | with_reducible rfl | (simp; omega))
  refine exL_inv (fun i : Int => { env := [(1, .loc 1 0), (4, .v (iv i))], loc := [(1, .cells [iv g.nodes, .vec g.nl (rows g.links) g.links.length] 24)], H := H })
    (fun i => 0 ≤ i ∧ i ≤ g.links.length ∧ checkFrom g (g.links.drop i.toNat) i = check g) (fun i => (g.links.length - i).toNat) 0 rfl ⟨by omega, by omega, ?_⟩ ?_
  · simp only [check]; (repeat' split) <;> first | rfl | (exfalso; omega)
  rintro i ⟨h0, h1, h2⟩ ih
  simp -implicitDefEqProofs only [sc_waymarkref1_Check_L0, go_sem, Nat.reduceEqDiff, Nat.reduceAdd, Nat.reduceMul, Nat.reduceLeDiff, Nat.reduceSub, Nat.reduceLT, Nat.reduceBEq, Int.reduceToNat, reduceCtorEq, ↓reduceIte, Int.reduceEq, Int.reduceNeg, Int.reduceLT, Int.reduceLE, Int.reduceAdd, Int.reduceSub, Int.reduceMul]
  by_cases hi : i < g.links.length
  · rw [drop_gi h0 hi, checkFrom] at h2
    repeat' (first | simp -implicitDefEqProofs only [go_sem, Nat.reduceEqDiff, Nat.reduceAdd, Nat.reduceMul, Nat.reduceLeDiff, Nat.reduceSub, Nat.reduceLT, Nat.reduceBEq, Int.reduceToNat, reduceCtorEq, ↓reduceIte, Int.reduceEq, Int.reduceNeg, Int.reduceLT, Int.reduceLE, Int.reduceAdd, Int.reduceSub, Int.reduceMul] | simp -implicitDefEqProofs (disch := omega) only [rd_link, Link.av, iaq_vec, iao_arr, iaq_raw, rd_map, wrap_id, binq_quo, binq_rem, binq_shl, binq_shr, tdiv_pos, tmod_pos, if_pos, exV_some, Option.map_some] | ((first | with_reducible apply exIf_dec | ((with_reducible apply exGd_dec); focus exact rfl) | ((with_reducible apply exGq_dec); focus exact rfl) | with_reducible apply exIf_intro | ((with_reducible apply exGd_intro); focus exact rfl) | ((with_reducible apply exGq_intro); focus exact rfl)) <;> intro _))
    all_goals first
      | (exfalso; omega)
      | (have e : linkErr g (gi g.links i) = 0 := by rw [linkErr, if_neg (by omega), if_neg (by omega)]
         rw [if_pos e] at h2
         exact ih (i + 1) ⟨by omega, by omega, h2⟩ (by omega))
      | (have e : linkErr g (gi g.links i) = 4 := by rw [linkErr, if_pos (by omega)]
         rw [if_neg (by omega), e] at h2
         exact fin_ h (by rw [← h2]; rfl))
      | (have e : linkErr g (gi g.links i) = 1 := by rw [linkErr, if_neg (by omega), if_pos (by omega)]
         rw [if_neg (by omega), e] at h2
         exact fin_ h (by rw [← h2]; rfl))
  · rw [drop_end (by omega), checkFrom] at h2
    repeat' (first | simp -implicitDefEqProofs only [go_sem, Nat.reduceEqDiff, Nat.reduceAdd, Nat.reduceMul, Nat.reduceLeDiff, Nat.reduceSub, Nat.reduceLT, Nat.reduceBEq, Int.reduceToNat, reduceCtorEq, ↓reduceIte, Int.reduceEq, Int.reduceNeg, Int.reduceLT, Int.reduceLE, Int.reduceAdd, Int.reduceSub, Int.reduceMul] | simp -implicitDefEqProofs (disch := omega) only [iaq_vec, iao_arr, iaq_raw, rd_map, wrap_id, binq_quo, binq_rem, binq_shl, binq_shr, tdiv_pos, tmod_pos, if_pos, exV_some, Option.map_some] | ((first | with_reducible apply exIf_dec | ((with_reducible apply exGd_dec); focus exact rfl) | ((with_reducible apply exGq_dec); focus exact rfl) | with_reducible apply exIf_intro | ((with_reducible apply exGd_intro); focus exact rfl) | ((with_reducible apply exGq_intro); focus exact rfl)) <;> intro _))
    all_goals first | (exfalso; omega) | exact fin_ h (by rw [← h2]; rfl)

/-- an edge's ends -/
def ends (g : Graph) (e : Int) : Int × Int × Bool :=
  if e < 0 ∨ (g.links.length : Int) ≤ e / 2 then (0, 0, false)
  else if e % 2 = 1 then ((gi g.links (e / 2)).B, (gi g.links (e / 2)).A, true) else ((gi g.links (e / 2)).A, (gi g.links (e / 2)).B, true)
def triIIB (p : Int × Int × Bool) : AV := .tup [iv p.1, iv p.2.1, bv p.2.2]
theorem ends_c (g : Graph) (e : Int) (he : -9223372036854775808 ≤ e ∧ e ≤ 9223372036854775807) (H : AHeap) : APure Try.prog 22 [g.av, iv e] H (triIIB (ends g e)) := by
  intro Q h
  refine ACalls.of_code fn_graph_Ends ?_
  simp -implicitDefEqProofs only [sc_graph_Ends, Graph.av, go_sem, Nat.reduceEqDiff, Nat.reduceAdd, Nat.reduceMul, Nat.reduceLeDiff, Nat.reduceSub, Nat.reduceLT, Nat.reduceBEq, Int.reduceToNat, reduceCtorEq, ↓reduceIte, Int.reduceEq, Int.reduceNeg, Int.reduceLT, Int.reduceLE, Int.reduceAdd, Int.reduceSub, Int.reduceMul]
  repeat' (first | simp -implicitDefEqProofs only [go_sem, Nat.reduceEqDiff, Nat.reduceAdd, Nat.reduceMul, Nat.reduceLeDiff, Nat.reduceSub, Nat.reduceLT, Nat.reduceBEq, Int.reduceToNat, reduceCtorEq, ↓reduceIte, Int.reduceEq, Int.reduceNeg, Int.reduceLT, Int.reduceLE, Int.reduceAdd, Int.reduceSub, Int.reduceMul] | simp -implicitDefEqProofs (disch := omega) only [rd_link, Link.av, iaq_vec, iao_arr, iaq_raw, rd_map, wrap_id, binq_quo, binq_rem, binq_shl, binq_shr, tdiv_pos, tmod_pos, if_pos, exV_some, Option.map_some] | ((first | with_reducible apply exIf_dec | ((with_reducible apply exGd_dec); focus exact rfl) | ((with_reducible apply exGq_dec); focus exact rfl) | with_reducible apply exIf_intro | ((with_reducible apply exGd_intro); focus exact rfl) | ((with_reducible apply exGq_intro); focus exact rfl)) <;> intro _))
  all_goals try (refine fin_ h ?_; simp only [ends, triIIB] <;> (repeat' split) <;> first | (exfalso; omega) | with_reducible rfl | (simp; omega))
theorem ends_ref_c (g : Graph) (e : Int) (he : -9223372036854775808 ≤ e ∧ e ≤ 9223372036854775807) (H : AHeap) : APure Try.prog 23 [g.av, iv e] H (triIIB (ends g e)) := by
  intro Q h
  refine ACalls.of_code fn_waymarkref1_Ends ?_
  simp -implicitDefEqProofs only [sc_waymarkref1_Ends, Graph.av, go_sem, Nat.reduceEqDiff, Nat.reduceAdd, Nat.reduceMul, Nat.reduceLeDiff, Nat.reduceSub, Nat.reduceLT, Nat.reduceBEq, Int.reduceToNat, reduceCtorEq, ↓reduceIte, Int.reduceEq, Int.reduceNeg, Int.reduceLT, Int.reduceLE, Int.reduceAdd, Int.reduceSub, Int.reduceMul]
  repeat' (first | simp -implicitDefEqProofs only [go_sem, Nat.reduceEqDiff, Nat.reduceAdd, Nat.reduceMul, Nat.reduceLeDiff, Nat.reduceSub, Nat.reduceLT, Nat.reduceBEq, Int.reduceToNat, reduceCtorEq, ↓reduceIte, Int.reduceEq, Int.reduceNeg, Int.reduceLT, Int.reduceLE, Int.reduceAdd, Int.reduceSub, Int.reduceMul] | simp -implicitDefEqProofs (disch := omega) only [rd_link, Link.av, iaq_vec, iao_arr, iaq_raw, rd_map, wrap_id, binq_quo, binq_rem, binq_shl, binq_shr, tdiv_pos, tmod_pos, if_pos, exV_some, Option.map_some] | ((first | with_reducible apply exIf_dec | ((with_reducible apply exGd_dec); focus exact rfl) | ((with_reducible apply exGq_dec); focus exact rfl) | with_reducible apply exIf_intro | ((with_reducible apply exGd_intro); focus exact rfl) | ((with_reducible apply exGq_intro); focus exact rfl)) <;> intro _))
  all_goals try (refine fin_ h ?_; simp only [ends, triIIB] <;> (repeat' split) <;> first | (exfalso; omega) | with_reducible rfl | (simp; omega))
end Go.Proofs.Ytkephdahbplhfaa
