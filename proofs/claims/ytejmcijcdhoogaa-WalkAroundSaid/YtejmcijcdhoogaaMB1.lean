import Derived.Test.YtejmcijcdhoogaaMC1
import Derived.Test.YtejmcijcdhoogaaAbsZ
import Derived.Test.YtejmcijcdhoogaaAbsR
import Derived.Test.YtejmcijcdhoogaaRows
import Derived.WalkKit
import Derived.ProofKit
import Derived.Test.YtejmcijcdhoogaaAbsM
set_option linter.unusedSimpArgs false
set_option linter.unusedVariables false
section
namespace Go.Proofs.Ytejmcijcdhoogaa
open Go Abs
attribute [local irreducible] EX exL exG exC exCq exS exV exIf exGd exGq exB

structure Link where
  A : Int
  B : Int
  metric : Int
  colour : Int
  deriving Inhabited
instance : Enc Link where
  sz := 4
  cells l := [iv l.A, iv l.B, iv l.metric, iv l.colour]
  len _ := rfl
  pos := by decide
def Link.av (l : Link) : AV := .agg [iv l.A, iv l.B, iv l.metric, iv l.colour]
theorem Link.cells_eq (l : Link) : Enc.cells l = [iv l.A, iv l.B, iv l.metric, iv l.colour] := rfl
theorem Link.sz_eq : Enc.sz Link = 4 := rfl
structure Graph where
  nodes : Int
  nl : Bool
  links : List Link
  deriving Inhabited
def Graph.av (g : Graph) : AV := .agg [iv g.nodes, .vec g.nl (rows g.links) g.links.length]
theorem rd_link {l : List Link} {i : Int} (h0 : 0 ≤ i) (h1 : i < l.length) : rdV (rows l) (i.toNat * 4) 4 true = some (gi l i).av := by
  rw [rd_row (n := 4) Link.sz_eq.symm h0 h1]; rfl
theorem rd_link2 {l : List Link} {i : Int} {m : Nat} (h0 : 0 ≤ i) (h1 : i < l.length) : rdV (rows l) (i.toNat * 4 + 2) m false = some (iv (gi l i).metric) := by
  rw [rd_field (m := m) (n := 4) Link.sz_eq.symm (by decide) h0 h1]; rfl
set_option maxHeartbeats 400000
theorem is_c (g : Graph) (n : Int) (H : AHeap) : APure Try.prog 62 [g.av, iv n] H (bv (decide (0 ≤ n ∧ n < g.nodes))) := by
  intro Q h
  refine ACalls.of_code fn_graph_Is ?_
  simp -implicitDefEqProofs only [sc_graph_Is, Graph.av, go_sem, seval]
  refine exB_dec ?_ ?_ <;> intro hb <;> repeat' (first | simp -implicitDefEqProofs only [go_sem, seval] | simp -implicitDefEqProofs (disch := omega) only [ars, if_pos, exV_some, Option.map_some] | ((with_reducible first | apply exB_dec | apply exB_intro) <;> intro _))
  · exact fin_ h (by simp; omega)
  · exact fin_ h (by simp; omega)

def linkErr (g : Graph) (l : Link) : Int :=
  if ¬ (0 ≤ l.A ∧ l.A < g.nodes) ∨ ¬ (0 ≤ l.B ∧ l.B < g.nodes) ∨ l.A = l.B then 4
  else if l.metric < 1 ∨ l.metric > 16777216 ∨ l.colour < 0 ∨ l.colour > 62 then 1 else 0

theorem link_c (g : Graph) (l : Link) (H : AHeap) : APure Try.prog 86 [g.av, l.av] H (iv (linkErr g l)) := by
  intro Q h
  refine ACalls.of_code fn_graph_link ?_
  simp -implicitDefEqProofs only [sc_graph_link, Graph.av, Link.av, go_sem, seval]
  refine exC_pure (is_c g _ _) ?_
  repeat' (first | simp -implicitDefEqProofs only [go_sem, seval] | simp -implicitDefEqProofs (disch := omega) only [ars, if_pos, exV_some, Option.map_some] | ((with_reducible first | apply exB_dec | apply exB_intro) <;> intro _))
  all_goals try (refine fin_ h ?_; simp only [linkErr] <;> (repeat' split) <;> first | (exfalso; omega) | with_reducible rfl | (simp; omega))
  refine exC_pure (is_c g _ _) ?_
  repeat' (first | simp -implicitDefEqProofs only [go_sem, seval] | simp -implicitDefEqProofs (disch := omega) only [ars, if_pos, exV_some, Option.map_some] | ((with_reducible first | apply exB_dec | apply exB_intro) <;> intro _))
  all_goals (refine fin_ h ?_; simp only [linkErr] <;> (repeat' split) <;> first | (exfalso; omega) | with_reducible rfl | (simp; omega))

def checkFrom (g : Graph) : List Link → Int → Int × Int
  | [], _ => (-1, 0)
  | l :: ls, i => if linkErr g l = 0 then checkFrom g ls (i + 1) else (i, linkErr g l)
def check (g : Graph) : Int × Int :=
  if 120 < g.links.length then (-1, 6) else if g.nodes < 1 ∨ g.nodes > 40 then (-1, 1) else checkFrom g g.links 0
def pairI (p : Int × Int) : AV := .tup [iv p.1, iv p.2]

theorem check_c (g : Graph) (H : AHeap) : APure Try.prog 65 [g.av] H (pairI (check g)) := by
  intro Q h
  refine ACalls.of_code fn_graph_Check ?_
  simp -implicitDefEqProofs only [sc_graph_Check, Graph.av, go_sem, seval]
  repeat' (first | simp -implicitDefEqProofs only [go_sem, seval] | simp -implicitDefEqProofs (disch := omega) only [ars, if_pos, exV_some, Option.map_some] | ((with_reducible first | apply exB_dec | apply exB_intro) <;> intro _))
  all_goals try (refine fin_ h ?_; simp only [check, pairI] <;> (repeat' split) <;> first | (exfalso; omega) | with_reducible rfl | (simp; omega))
  refine exL_inv (fun i : Int => { env := [(1, .loc 1 0), (22, .v (.vec g.nl (rows g.links) g.links.length)), (23, .v (iv g.links.length)), (24, .v (iv i))], loc := [(1, .cells [iv g.nodes, .vec g.nl (rows g.links) g.links.length] 24)], H := H })
    (fun i => 0 ≤ i ∧ i ≤ g.links.length ∧ checkFrom g (g.links.drop i.toNat) i = check g) (fun i => (g.links.length - i).toNat) 0 rfl ⟨by omega, by omega, ?_⟩ ?_
  · simp only [check]; (repeat' split) <;> first | rfl | (exfalso; omega)
  rintro i ⟨h0, h1, h2⟩ ih
  simp -implicitDefEqProofs only [sc_graph_Check_L0, go_sem, seval]
  repeat' (first | simp -implicitDefEqProofs only [go_sem, seval] | simp -implicitDefEqProofs (disch := omega) only [rd_link, Link.av, ars, if_pos, exV_some, Option.map_some] | ((with_reducible first | apply exB_dec | apply exB_intro) <;> intro _))
  · refine exC_pure (link_c g (gi g.links i) _) ?_
    rw [drop_gi h0 (by assumption), checkFrom] at h2
    repeat' (first | simp -implicitDefEqProofs only [go_sem, seval] | simp -implicitDefEqProofs (disch := omega) only [ars, if_pos, exV_some, Option.map_some] | ((with_reducible first | apply exB_dec | apply exB_intro) <;> intro _))
    · rename_i hne
      rw [if_neg (by omega)] at h2
      exact fin_ h (by rw [← h2]; rfl)
    · rename_i hne
      rw [if_pos (by omega)] at h2
      exact ih (i + 1) ⟨by omega, by omega, h2⟩ (by omega)
  · rw [drop_end (by omega), checkFrom] at h2
    exact fin_ h (by rw [← h2]; rfl)

theorem check_ref_c (g : Graph) (H : AHeap) : APure Try.prog 58 [g.av] H (pairI (check g)) := by
  intro Q h
  refine ACalls.of_code fn_waymarkref1_Check ?_
  simp -implicitDefEqProofs only [sc_waymarkref1_Check, Graph.av, go_sem, seval]
  repeat' (first | simp -implicitDefEqProofs only [go_sem, seval] | simp -implicitDefEqProofs (disch := omega) only [ars, if_pos, exV_some, Option.map_some] | ((with_reducible first | apply exB_dec | apply exB_intro) <;> intro _))
  all_goals try (refine fin_ h ?_; simp only [check, pairI] <;> (repeat' split) <;> first | (exfalso; omega) | with_reducible rfl | (simp; omega))
  refine exL_inv (fun i : Int => { env := [(1, .loc 1 0), (4, .v (iv i))], loc := [(1, .cells [iv g.nodes, .vec g.nl (rows g.links) g.links.length] 24)], H := H })
    (fun i => 0 ≤ i ∧ i ≤ g.links.length ∧ checkFrom g (g.links.drop i.toNat) i = check g) (fun i => (g.links.length - i).toNat) 0 rfl ⟨by omega, by omega, ?_⟩ ?_
  · simp only [check]; (repeat' split) <;> first | rfl | (exfalso; omega)
  rintro i ⟨h0, h1, h2⟩ ih
  simp -implicitDefEqProofs only [sc_waymarkref1_Check_L0, go_sem, seval]
  by_cases hi : i < g.links.length
  · rw [drop_gi h0 hi, checkFrom] at h2
    repeat' (first | simp -implicitDefEqProofs only [go_sem, seval] | simp -implicitDefEqProofs (disch := omega) only [rd_link, Link.av, ars, if_pos, exV_some, Option.map_some] | ((with_reducible first | apply exB_dec | apply exB_intro) <;> intro _))
    all_goals first
      | (exfalso; omega)
      | (have e : linkErr g (gi g.links i) = 0 := by rw [linkErr, if_neg (by omega), if_neg (by omega)]
         rw [if_pos e] at h2
         exact ih (i + 1) ⟨by omega, by omega, h2⟩ (by omega))
      | (have e : linkErr g (gi g.links i) = 4 := by rw [linkErr, if_pos (by omega)]
         rw [if_neg (by omega), e] at h2
         exact fin_ h (by rw [← h2]; rfl))
      | (have e : linkErr g (gi g.links i) = 1 := by rw [linkErr, if_neg (by omega), if_pos (by omega)]
         rw [if_neg (by omega), e] at h2
         exact fin_ h (by rw [← h2]; rfl))
  · rw [drop_end (by omega), checkFrom] at h2
    repeat' (first | simp -implicitDefEqProofs only [go_sem, seval] | simp -implicitDefEqProofs (disch := omega) only [ars, if_pos, exV_some, Option.map_some] | ((with_reducible first | apply exB_dec | apply exB_intro) <;> intro _))
    all_goals first | (exfalso; omega) | exact fin_ h (by rw [← h2]; rfl)

def ends (g : Graph) (e : Int) : Int × Int × Bool :=
  if e < 0 ∨ (g.links.length : Int) ≤ e / 2 then (0, 0, false)
  else if e % 2 = 1 then ((gi g.links (e / 2)).B, (gi g.links (e / 2)).A, true) else ((gi g.links (e / 2)).A, (gi g.links (e / 2)).B, true)
def triIIB (p : Int × Int × Bool) : AV := .tup [iv p.1, iv p.2.1, bv p.2.2]
theorem ends_c (g : Graph) (e : Int) (he : -9223372036854775808 ≤ e ∧ e ≤ 9223372036854775807) (H : AHeap) : APure Try.prog 57 [g.av, iv e] H (triIIB (ends g e)) := by
  intro Q h
  refine ACalls.of_code fn_graph_Ends ?_
  simp -implicitDefEqProofs only [sc_graph_Ends, Graph.av, go_sem, seval]
  repeat' (first | simp -implicitDefEqProofs only [go_sem, seval] | simp -implicitDefEqProofs (disch := omega) only [rd_link, Link.av, ars, if_pos, exV_some, Option.map_some] | ((with_reducible first | apply exB_dec | apply exB_intro) <;> intro _))
  all_goals try (refine fin_ h ?_; simp only [ends, triIIB] <;> (repeat' split) <;> first | (exfalso; omega) | with_reducible rfl | (simp; omega))
theorem ends_ref_c (g : Graph) (e : Int) (he : -9223372036854775808 ≤ e ∧ e ≤ 9223372036854775807) (H : AHeap) : APure Try.prog 29 [g.av, iv e] H (triIIB (ends g e)) := by
  intro Q h
  refine ACalls.of_code fn_waymarkref1_Ends ?_
  simp -implicitDefEqProofs only [sc_waymarkref1_Ends, Graph.av, go_sem, seval]
  repeat' (first | simp -implicitDefEqProofs only [go_sem, seval] | simp -implicitDefEqProofs (disch := omega) only [rd_link, Link.av, ars, if_pos, exV_some, Option.map_some] | ((with_reducible first | apply exB_dec | apply exB_intro) <;> intro _))
  all_goals try (refine fin_ h ?_; simp only [ends, triIIB] <;> (repeat' split) <;> first | (exfalso; omega) | with_reducible rfl | (simp; omega))
end Go.Proofs.Ytejmcijcdhoogaa
end

section
namespace Go.Proofs.Ytejmcijcdhoogaa
open Go Abs
attribute [local irreducible] EX exL exG exC exCq exS exV exIf exGd exGq exB
set_option maxHeartbeats 400000

def outs (g : Graph) (node : Int) (n : Nat) : List Int := ((List.range n).map Int.ofNat).filter fun e => (ends g e).1 == node
def out (g : Graph) (node : Int) : List Int := outs g node (2 * g.links.length)
def ints (l : List Int) : AV := .vec l.isEmpty (l.map iv) l.length

theorem outs_succ (g : Graph) (node : Int) (i : Int) (h0 : 0 ≤ i) : outs g node (i + 1).toNat = if (ends g i).1 = node then outs g node i.toNat ++ [i] else outs g node i.toNat := by
  rw [show (i + 1).toNat = i.toNat + 1 by omega, outs, List.range_succ]
  simp only [List.map_append, List.filter_append, List.map_cons, List.map_nil]
  have : Int.ofNat i.toNat = i := by simp; omega
  rw [this]
  simp only [outs, List.filter_cons, List.filter_nil, beq_iff_eq]
  split <;> simp
theorem outs_length (g : Graph) (node : Int) (n : Nat) : (outs g node n).length ≤ n := by
  refine Nat.le_trans (List.length_filter_le _ _) ?_
  simp

set_option maxHeartbeats 400000
theorem out_c (g : Graph) (hg : g.links.length * 32 ≤ 140737488351232) (node : Int) (H : AHeap) : APure Try.prog 89 [g.av, iv node] H (ints (out g node)) := by
  intro Q h
  refine ACalls.of_code fn_graph_Out ?_
  simp -implicitDefEqProofs only [sc_graph_Out, Graph.av, go_sem, seval]
  repeat' (first | simp -implicitDefEqProofs only [go_sem, seval] | simp -implicitDefEqProofs (disch := omega) only [ars, if_pos, exV_some, Option.map_some] | ((with_reducible first | apply exB_dec | apply exB_intro) <;> intro _))
  refine exL_inv (fun i : Int => { env := [(1, .v (iv node)), (2, .loc 2 0), (5, .own 30), (13, .v (iv (2 * g.links.length))), (14, .v (iv i))], loc := [(2, .cells [iv g.nodes, .vec g.nl (rows g.links) g.links.length] 24), (30, .arr (outs g node i.toNat).isEmpty ((outs g node i.toNat).map iv) (outs g node i.toNat).length 3 1)], H := H })
    (fun i => 0 ≤ i ∧ i ≤ 2 * g.links.length) (fun i => (2 * g.links.length - i).toNat) 0 rfl ⟨by omega, by omega⟩ ?_
  rintro i ⟨h0, h1⟩ ih
  have hl := outs_length g node i.toNat
  have hs := outs_succ g node i h0
  simp -implicitDefEqProofs only [sc_graph_Out_L0, go_sem, seval]
  repeat' (first | simp -implicitDefEqProofs only [go_sem, seval] | simp -implicitDefEqProofs (disch := omega) only [ars, if_pos, exV_some, Option.map_some] | ((with_reducible first | apply exB_dec | apply exB_intro) <;> intro _))
  · refine exC_pure (ends_c g _ (by omega) _) ?_
    simp -implicitDefEqProofs only [triIIB, go_sem, seval]
    repeat' (first | simp -implicitDefEqProofs only [go_sem, seval] | simp -implicitDefEqProofs (disch := omega) only [ars, if_pos, exV_some, Option.map_some] | ((with_reducible first | apply exB_dec | apply exB_intro) <;> intro _))
    · refine exS_ints rfl (by omega) (by simp only [maxLen]; omega) ?_
      rename_i he
      rw [if_pos he] at hs
      rw [← hs]
      repeat' (first | simp -implicitDefEqProofs only [go_sem, seval] | simp -implicitDefEqProofs (disch := omega) only [ars, if_pos, exV_some, Option.map_some] | ((with_reducible first | apply exB_dec | apply exB_intro) <;> intro _))
      exact ih (i + 1) ⟨by omega, by omega⟩ (by omega)
    · rename_i he
      rw [if_neg he] at hs
      rw [← hs]
      exact ih (i + 1) ⟨by omega, by omega⟩ (by omega)
  · obtain rfl : i = 2 * g.links.length := by omega
    exact fin_ h (by rw [out, show (2 * (g.links.length : Int)).toNat = 2 * g.links.length by omega]; rfl)
theorem out_ref_c (g : Graph) (hg : g.links.length * 32 ≤ 140737488351232) (node : Int) (H : AHeap) : APure Try.prog 80 [g.av, iv node] H (ints (out g node)) := by
  intro Q h
  refine ACalls.of_code fn_waymarkref1_Out ?_
  simp -implicitDefEqProofs only [sc_waymarkref1_Out, Graph.av, go_sem, seval]
  repeat' (first | simp -implicitDefEqProofs only [go_sem, seval] | simp -implicitDefEqProofs (disch := omega) only [ars, if_pos, exV_some, Option.map_some] | ((with_reducible first | apply exB_dec | apply exB_intro) <;> intro _))
  refine exL_inv (fun i : Int => { env := [(1, .v (iv node)), (2, .loc 2 0), (5, .own 31), (6, .v (iv i))], loc := [(2, .cells [iv g.nodes, .vec g.nl (rows g.links) g.links.length] 24), (31, .arr (outs g node i.toNat).isEmpty ((outs g node i.toNat).map iv) (outs g node i.toNat).length 3 1)], H := H })
    (fun i => 0 ≤ i ∧ i ≤ 2 * g.links.length) (fun i => (2 * g.links.length - i).toNat) 0 rfl ⟨by omega, by omega⟩ ?_
  rintro i ⟨h0, h1⟩ ih
  have hl := outs_length g node i.toNat
  have hs := outs_succ g node i h0
  simp -implicitDefEqProofs only [sc_waymarkref1_Out_L0, go_sem, seval]
  repeat' (first | simp -implicitDefEqProofs only [go_sem, seval] | simp -implicitDefEqProofs (disch := omega) only [ars, if_pos, exV_some, Option.map_some] | ((with_reducible first | apply exB_dec | apply exB_intro) <;> intro _))
  · refine exC_pure (ends_ref_c g _ (by omega) _) ?_
    simp -implicitDefEqProofs only [triIIB, go_sem, seval]
    repeat' (first | simp -implicitDefEqProofs only [go_sem, seval] | simp -implicitDefEqProofs (disch := omega) only [ars, if_pos, exV_some, Option.map_some] | ((with_reducible first | apply exB_dec | apply exB_intro) <;> intro _))
    · refine exS_ints rfl (by omega) (by simp only [maxLen]; omega) ?_
      rename_i he
      rw [if_pos he] at hs
      rw [← hs]
      repeat' (first | simp -implicitDefEqProofs only [go_sem, seval] | simp -implicitDefEqProofs (disch := omega) only [ars, if_pos, exV_some, Option.map_some] | ((with_reducible first | apply exB_dec | apply exB_intro) <;> intro _))
      exact ih (i + 1) ⟨by omega, by omega⟩ (by omega)
    · rename_i he
      rw [if_neg he] at hs
      rw [← hs]
      exact ih (i + 1) ⟨by omega, by omega⟩ (by omega)
  · obtain rfl : i = 2 * g.links.length := by omega
    exact fin_ h (by rw [out, show (2 * (g.links.length : Int)).toNat = 2 * g.links.length by omega]; rfl)

end Go.Proofs.Ytejmcijcdhoogaa
end

section
namespace Go.Proofs.Ytejmcijcdhoogaa
open Go Abs
attribute [local irreducible] EX exL exG exC exCq exS exV exIf exGd exGq exB

def Graph.ok (g : Graph) : Prop := g.links.length * 32 ≤ 140737488351232
theorem out_length (g : Graph) (n : Int) : (out g n).length ≤ 2 * g.links.length := outs_length g n _
theorem out_mem (g : Graph) (e n : Int) : e ∈ out g n ↔ 0 ≤ e ∧ e < 2 * g.links.length ∧ (ends g e).1 = n := by
  simp only [out, outs, List.mem_filter, List.mem_map, List.mem_range, beq_iff_eq]
  constructor
  · rintro ⟨⟨k, hk, rfl⟩, h⟩
    simp only [Int.ofNat_eq_natCast] at h ⊢
    exact ⟨by omega, by omega, h⟩
  · rintro ⟨h0, h1, h2⟩
    exact ⟨⟨e.toNat, by omega, by simp; omega⟩, h2⟩
theorem checkFrom_ok (g : Graph) : ∀ (l : List Link) (i : Int), (checkFrom g l i).2 = 0 → ∀ x ∈ l, linkErr g x = 0
  | [], _, _, x, hx => by cases hx
  | y :: l, i, h, x, hx => by
    rw [checkFrom] at h
    split at h
    · rcases List.mem_cons.1 hx with rfl | hx
      · assumption
      · exact checkFrom_ok g l (i + 1) h x hx
    · rename_i hne
      exact absurd h hne
theorem check_ok (g : Graph) (h : (check g).2 = 0) : g.links.length ≤ 120 ∧ 1 ≤ g.nodes ∧ g.nodes ≤ 40 ∧ ∀ x ∈ g.links, (0 ≤ x.A ∧ x.A < g.nodes) ∧ (0 ≤ x.B ∧ x.B < g.nodes) := by
  rw [check] at h
  split at h
  · simp at h
  split at h
  · simp at h
  refine ⟨by omega, by omega, by omega, fun x hx => ?_⟩
  have := checkFrom_ok g _ _ h x hx
  rw [linkErr] at this
  split at this
  · omega
  · omega
theorem ends_in (g : Graph) (h : (check g).2 = 0) (e : Int) (h0 : 0 ≤ e) (h1 : e < 2 * g.links.length) : 0 ≤ (ends g e).1 ∧ (ends g e).1 < g.nodes := by
  obtain ⟨_, _, _, hl⟩ := check_ok g h
  have hm : gi g.links (e / 2) ∈ g.links := by
    rw [gi_eq (by omega)]
    exact List.getElem_mem _
  have := hl _ hm
  unfold ends
  rw [if_neg (by omega)]
  split
  · exact this.2
  · exact this.1
end Go.Proofs.Ytejmcijcdhoogaa
end

section
namespace Go.Proofs.Ytejmcijcdhoogaa
open Go Abs
attribute [local irreducible] EX exL exG exC exCq exS exV exIf exGd exGq exB

theorem rows_map {α : Type} [Enc α] (l : List α) : (l.map Enc.cells).flatten = rows l := by simp [rows, List.flatMap]
theorem each_map {β : Type} {f : β → List AV} {p : β → Prop} : ∀ {rs : List (List AV)}, (∀ r ∈ rs, ∃ b, r = f b ∧ p b) → ∃ l : List β, rs = l.map f ∧ ∀ b ∈ l, p b
  | [], _ => ⟨[], rfl, by simp⟩
  | r :: rs, h => by
    obtain ⟨b, rfl, hb⟩ := h r (by simp)
    obtain ⟨l, rfl, hl⟩ := each_map (rs := rs) fun r hr => h r (by simp [hr])
    exact ⟨b :: l, rfl, by simpa using ⟨hb, hl⟩⟩
theorem wf_i64 {n : Int} (h : (Lit.int .i64 n).wf = true) : -9223372036854775808 ≤ n ∧ n ≤ 9223372036854775807 := by
  simp [Lit.wf, IntKind.min, IntKind.max, IntKind.signed, IntKind.bits] at h
  try omega

def tcI : TC := .int .i64
def tcLink : TC := .st [tcI, tcI, tcI, tcI]
def tcGraph : TC := .st [tcI, .sl 32 tcLink]
theorem shape_int {a : AV} (h : ArgShape tcI a) : ∃ n, a = iv n ∧ -9223372036854775808 ≤ n ∧ n ≤ 9223372036854775807 := by
  unfold ArgShape tcI Shape at h
  obtain ⟨n, h1, h2⟩ := h
  simp only [List.cons.injEq, and_true] at h1
  exact ⟨n, h1, wf_i64 h2⟩
def Link.fine (l : Link) : Prop := (-9223372036854775808 ≤ l.A ∧ l.A ≤ 9223372036854775807) ∧ (-9223372036854775808 ≤ l.B ∧ l.B ≤ 9223372036854775807) ∧ (-9223372036854775808 ≤ l.metric ∧ l.metric ≤ 9223372036854775807) ∧ (-9223372036854775808 ≤ l.colour ∧ l.colour ≤ 9223372036854775807)
def Graph.fine (g : Graph) : Prop := g.links.length * 32 ≤ 140737488351232 ∧ (-9223372036854775808 ≤ g.nodes ∧ g.nodes ≤ 9223372036854775807) ∧ ∀ l ∈ g.links, l.fine
theorem shape_link {r : List AV} (h : Shape tcLink r) : ∃ l : Link, r = Enc.cells l ∧ l.fine := by
  simp only [tcLink, tcI, Shape, ShapeAll] at h
  obtain ⟨_, _, rfl, ⟨a, rfl, ha⟩, _, _, rfl, ⟨b, rfl, hb⟩, _, _, rfl, ⟨c, rfl, hc⟩, _, _, rfl, ⟨d, rfl, hd⟩, rfl⟩ := h
  exact ⟨⟨a, b, c, d⟩, rfl, wf_i64 ha, wf_i64 hb, wf_i64 hc, wf_i64 hd⟩
def tcInts : TC := .sl 8 tcI
def tcBools : TC := .sl 1 .bool
theorem one_map {f : Int → AV} : ∀ (l : List Int), (l.map fun x => [f x]).flatten = l.map f
  | [] => rfl
  | x :: l => by simpa using one_map l
theorem one_mapB {f : Bool → AV} : ∀ (l : List Bool), (l.map fun x => [f x]).flatten = l.map f
  | [] => rfl
  | x :: l => by simpa using one_mapB l
theorem shape_intsL {r : List AV} (h : Shape tcInts r) : ∃ nl l, r = [.vec nl (l.map iv) l.length] ∧ l.length * 8 ≤ 140737488351232 ∧ (nl = true → l = []) ∧ ∀ x ∈ l, -9223372036854775808 ≤ x ∧ x ≤ 9223372036854775807 := by
  simp only [tcInts, tcI, Shape] at h
  obtain ⟨nl, rs, rfl, hn, hb, hr⟩ := h
  obtain ⟨l, rfl, hl⟩ := each_map (f := fun x : Int => [iv x]) (p := fun x => -9223372036854775808 ≤ x ∧ x ≤ 9223372036854775807) fun r hr' => by
    obtain ⟨n, rfl, hn⟩ := hr r hr'
    exact ⟨n, rfl, wf_i64 hn⟩
  rw [one_map]
  exact ⟨nl, l, by simp, by simpa [reachBytes] using hb, fun e => by simpa using hn e, hl⟩
theorem shape_bools {a : AV} (h : ArgShape tcBools a) : ∃ nl l, a = .vec nl (l.map bv) l.length ∧ l.length ≤ 140737488351232 ∧ (nl = true → l = []) := by
  simp only [tcBools, ArgShape, Shape] at h
  obtain ⟨nl, rs, h1, hn, hb, hr⟩ := h
  obtain ⟨l, rfl, hl⟩ := each_map (f := fun x : Bool => [bv x]) (p := fun _ => True) fun r hr' => by
    obtain ⟨n, rfl⟩ := hr r hr'
    exact ⟨n, rfl, trivial⟩
  rw [one_mapB] at h1
  simp only [List.cons.injEq, and_true, List.length_map] at h1
  exact ⟨nl, l, h1, by simpa [reachBytes] using hb, fun e => by simpa using hn e⟩
theorem laid : laidOutB Try.prog = true := by kernel_rfl
theorem own : ownKnob Try.prog.godebug = none := by kernel_rfl
end Go.Proofs.Ytejmcijcdhoogaa
end

section
namespace Go.Proofs.Ytejmcijcdhoogaa
open Go Abs
attribute [local irreducible] EX exL exG exC exCq exS exV exIf exGd exGq exB
set_option maxHeartbeats 400000
def blv (nl : Bool) (l : List Bool) : AV := .vec nl (l.map bv) l.length
def I64s (l : List Int) : Prop := ∀ x ∈ l, -9223372036854775808 ≤ x ∧ x ≤ 9223372036854775807
theorem isDown_c (nl : Bool) (down : List Bool) (i : Int) (H : AHeap) : APure Try.prog 38 [blv nl down, iv i] H (bv (decide (0 ≤ i) && (decide (i < down.length) && gi down i))) := by
  intro Q h
  refine ACalls.of_code fn_waymarkref1_IsDown ?_
  simp -implicitDefEqProofs only [sc_waymarkref1_IsDown, blv, go_sem, seval]
  repeat' (first | simp -implicitDefEqProofs only [go_sem, seval] | simp -implicitDefEqProofs (disch := omega) only [ars, if_pos, exV_some, Option.map_some] | ((with_reducible first | apply exB_dec | apply exB_intro) <;> intro _))
  all_goals refine fin_ h ?_
  all_goals simp [*]
end Go.Proofs.Ytejmcijcdhoogaa
end

section
namespace Go.Proofs.Ytejmcijcdhoogaa
open Go Abs
attribute [local irreducible] EX exL exG exC exCq exS exV exIf exGd exGq exB
set_option maxHeartbeats 400000

def sl (nl : Bool) (l : List Int) : AV := .vec nl (l.map iv) l.length
def idxFrom (p : Int → Bool) : List Int → Int → Int
  | [], _ => -1
  | x :: l, i => if p x = true then i else idxFrom p l (i + 1)
theorem idx_any (p : Int → Bool) : ∀ (l : List Int) (i : Int), 0 ≤ i → (decide (0 ≤ idxFrom p l i)) = l.any p
  | [], _, _ => by simp [idxFrom]
  | x :: l, i, h => by
    rw [idxFrom, List.any_cons]
    split
    · rename_i hx; simp [hx, h]
    · rename_i hx; rw [idx_any p l (i + 1) (by omega)]; simp [hx]

theorem index_c (nl : Bool) (l : List Int) (v : Int) (hl : l.length ≤ 140737488355328) (H : AHeap) : APure Try.prog 116 [sl nl l, iv v] H (iv (idxFrom (fun x => decide (v = x)) l 0)) := by
  intro Q h
  refine ACalls.of_code fn_slices_Index_int_int ?_
  simp -implicitDefEqProofs only [sc_slices_Index_int_int, sl, go_sem, seval]
  repeat' (first | simp -implicitDefEqProofs only [go_sem, seval] | simp -implicitDefEqProofs (disch := omega) only [ars, if_pos, exV_some, Option.map_some] | ((with_reducible first | apply exB_dec | apply exB_intro) <;> intro _))
  refine exL_inv (fun i : Int => { env := [(0, .v (.vec nl (l.map iv) l.length)), (1, .v (iv v)), (7, .v (iv l.length)), (8, .v (iv i))], loc := [], H := H })
    (fun i => 0 ≤ i ∧ i ≤ l.length ∧ idxFrom (fun x => decide (v = x)) (l.drop i.toNat) i = idxFrom (fun x => decide (v = x)) l 0) (fun i => (l.length - i).toNat) 0 rfl ⟨by omega, by omega, by simp⟩ ?_
  rintro i ⟨h0, h1, h2⟩ ih
  simp -implicitDefEqProofs only [sc_slices_Index_int_int_L0, go_sem, seval]
  by_cases hi : i < l.length
  · rw [drop_gi h0 hi, idxFrom] at h2
    repeat' (first | simp -implicitDefEqProofs only [go_sem, seval] | simp -implicitDefEqProofs (disch := omega) only [ars, if_pos, exV_some, Option.map_some] | ((with_reducible first | apply exB_dec | apply exB_intro) <;> intro _))
    all_goals first | (exfalso; omega) | skip
    · rename_i hv
      rw [if_pos (by simpa using hv)] at h2
      exact fin_ h (by rw [← h2])
    · rename_i hv
      rw [if_neg (by simpa using hv)] at h2
      exact ih (i + 1) ⟨by omega, by omega, h2⟩ (by omega)
  · rw [drop_end (by omega), idxFrom] at h2
    repeat' (first | simp -implicitDefEqProofs only [go_sem, seval] | simp -implicitDefEqProofs (disch := omega) only [ars, if_pos, exV_some, Option.map_some] | ((with_reducible first | apply exB_dec | apply exB_intro) <;> intro _))
    all_goals first | (exfalso; omega) | exact fin_ h (by rw [← h2])
def hasI (l : List Int) (v : Int) : Bool := l.any fun x => decide (v = x)
theorem contains_c (nl : Bool) (l : List Int) (v : Int) (hl : l.length ≤ 140737488355328) (H : AHeap) : APure Try.prog 104 [sl nl l, iv v] H (bv (hasI l v)) := by
  intro Q h
  refine ACalls.of_code fn_slices_Contains_int_int ?_
  simp -implicitDefEqProofs only [sc_slices_Contains_int_int, go_sem, seval]
  refine exC_pure (index_c nl l v hl _) ?_
  simp -implicitDefEqProofs only [idx_any (fun x => decide (v = x)) l 0 (Int.le_refl 0), go_sem, seval]
  exact fin_ h rfl
theorem indexFunc_c (nl : Bool) (l : List Int) (f : FuncId) (us vs : List AV) (p : Int → Bool) (hl : l.length ≤ 140737488355328) (H : AHeap) (hp : ∀ x ∈ l, APure Try.prog f (us ++ [iv x] ++ vs) H (bv (p x))) :
    APure Try.prog 115 [sl nl l, .fn (.func f) us vs] H (iv (idxFrom p l 0)) := by
  intro Q h
  refine ACalls.of_code fn_slices_IndexFunc_int_int ?_
  simp -implicitDefEqProofs only [sc_slices_IndexFunc_int_int, sl, go_sem, seval]
  repeat' (first | simp -implicitDefEqProofs only [go_sem, seval] | simp -implicitDefEqProofs (disch := omega) only [ars, if_pos, exV_some, Option.map_some] | ((with_reducible first | apply exB_dec | apply exB_intro) <;> intro _))
  refine exL_inv (fun i : Int => { env := [(0, .v (.vec nl (l.map iv) l.length)), (1, .v (.fn (.func f) us vs)), (7, .v (iv l.length)), (8, .v (iv i))], loc := [], H := H })
    (fun i => 0 ≤ i ∧ i ≤ l.length ∧ idxFrom p (l.drop i.toNat) i = idxFrom p l 0) (fun i => (l.length - i).toNat) 0 rfl ⟨by omega, by omega, by simp⟩ ?_
  rintro i ⟨h0, h1, h2⟩ ih
  simp -implicitDefEqProofs only [sc_slices_IndexFunc_int_int_L0, go_sem, seval]
  by_cases hi : i < l.length
  · rw [drop_gi h0 hi, idxFrom] at h2
    have hm : gi l i ∈ l := by
      simp only [gi, List.getD_eq_getElem?_getD, List.getElem?_eq_getElem (show i.toNat < l.length by omega), Option.getD_some]
      exact List.getElem_mem _
    repeat' (first | simp -implicitDefEqProofs only [go_sem, seval] | simp -implicitDefEqProofs (disch := omega) only [ars, if_pos, exV_some, Option.map_some] | ((with_reducible first | apply exB_dec | apply exB_intro) <;> intro _))
    all_goals first | (exfalso; omega) | skip
    refine exC_pure (hp _ hm) ?_
    repeat' (first | simp -implicitDefEqProofs only [go_sem, seval] | simp -implicitDefEqProofs (disch := omega) only [ars, if_pos, exV_some, Option.map_some] | ((with_reducible first | apply exB_dec | apply exB_intro) <;> intro _))
    · rename_i hv
      rw [if_pos hv] at h2
      exact fin_ h (by rw [← h2])
    · rename_i hv
      rw [if_neg (by rw [hv]; simp)] at h2
      exact ih (i + 1) ⟨by omega, by omega, h2⟩ (by omega)
  · rw [drop_end (by omega), idxFrom] at h2
    repeat' (first | simp -implicitDefEqProofs only [go_sem, seval] | simp -implicitDefEqProofs (disch := omega) only [ars, if_pos, exV_some, Option.map_some] | ((with_reducible first | apply exB_dec | apply exB_intro) <;> intro _))
    all_goals first | (exfalso; omega) | exact fin_ h (by rw [← h2])
theorem containsFunc_c (nl : Bool) (l : List Int) (f : FuncId) (us vs : List AV) (p : Int → Bool) (hl : l.length ≤ 140737488355328) (H : AHeap) (hp : ∀ x ∈ l, APure Try.prog f (us ++ [iv x] ++ vs) H (bv (p x))) :
    APure Try.prog 103 [sl nl l, .fn (.func f) us vs] H (bv (l.any p)) := by
  intro Q h
  refine ACalls.of_code fn_slices_ContainsFunc_int_int ?_
  simp -implicitDefEqProofs only [sc_slices_ContainsFunc_int_int, go_sem, seval]
  refine exC_pure (indexFunc_c nl l f us vs p hl _ hp) ?_
  simp -implicitDefEqProofs only [idx_any p l 0 (Int.le_refl 0), go_sem, seval]
  exact h
theorem indexFunc0_c (nl : Bool) (l : List Int) (f : FuncId) (p : Int → Bool) (hl : l.length ≤ 140737488355328) (H : AHeap) (hp : ∀ x ∈ l, APure Try.prog f [iv x] H (bv (p x))) :
    APure Try.prog 115 [sl nl l, .raw (.func (.func f) #[] #[])] H (iv (idxFrom p l 0)) := by
  intro Q h
  refine ACalls.of_code fn_slices_IndexFunc_int_int ?_
  simp -implicitDefEqProofs only [sc_slices_IndexFunc_int_int, sl, go_sem, seval]
  repeat' (first | simp -implicitDefEqProofs only [go_sem, seval] | simp -implicitDefEqProofs (disch := omega) only [ars, if_pos, exV_some, Option.map_some] | ((with_reducible first | apply exB_dec | apply exB_intro) <;> intro _))
  refine exL_inv (fun i : Int => { env := [(0, .v (.vec nl (l.map iv) l.length)), (1, .v (.raw (.func (.func f) #[] #[]))), (7, .v (iv l.length)), (8, .v (iv i))], loc := [], H := H })
    (fun i => 0 ≤ i ∧ i ≤ l.length ∧ idxFrom p (l.drop i.toNat) i = idxFrom p l 0) (fun i => (l.length - i).toNat) 0 rfl ⟨by omega, by omega, by simp⟩ ?_
  rintro i ⟨h0, h1, h2⟩ ih
  simp -implicitDefEqProofs only [sc_slices_IndexFunc_int_int_L0, go_sem, seval]
  by_cases hi : i < l.length
  · rw [drop_gi h0 hi, idxFrom] at h2
    have hm : gi l i ∈ l := by
      simp only [gi, List.getD_eq_getElem?_getD, List.getElem?_eq_getElem (show i.toNat < l.length by omega), Option.getD_some]
      exact List.getElem_mem _
    repeat' (first | simp -implicitDefEqProofs only [go_sem, seval] | simp -implicitDefEqProofs (disch := omega) only [ars, if_pos, exV_some, Option.map_some] | ((with_reducible first | apply exB_dec | apply exB_intro) <;> intro _))
    all_goals first | (exfalso; omega) | skip
    refine exC_pure (hp _ hm) ?_
    repeat' (first | simp -implicitDefEqProofs only [go_sem, seval] | simp -implicitDefEqProofs (disch := omega) only [ars, if_pos, exV_some, Option.map_some] | ((with_reducible first | apply exB_dec | apply exB_intro) <;> intro _))
    · rename_i hv
      rw [if_pos hv] at h2
      exact fin_ h (by rw [← h2])
    · rename_i hv
      rw [if_neg (by rw [hv]; simp)] at h2
      exact ih (i + 1) ⟨by omega, by omega, h2⟩ (by omega)
  · rw [drop_end (by omega), idxFrom] at h2
    repeat' (first | simp -implicitDefEqProofs only [go_sem, seval] | simp -implicitDefEqProofs (disch := omega) only [ars, if_pos, exV_some, Option.map_some] | ((with_reducible first | apply exB_dec | apply exB_intro) <;> intro _))
    all_goals first | (exfalso; omega) | exact fin_ h (by rw [← h2])
theorem containsFunc0_c (nl : Bool) (l : List Int) (f : FuncId) (p : Int → Bool) (hl : l.length ≤ 140737488355328) (H : AHeap) (hp : ∀ x ∈ l, APure Try.prog f [iv x] H (bv (p x))) :
    APure Try.prog 103 [sl nl l, .raw (.func (.func f) #[] #[])] H (bv (l.any p)) := by
  intro Q h
  refine ACalls.of_code fn_slices_ContainsFunc_int_int ?_
  simp -implicitDefEqProofs only [sc_slices_ContainsFunc_int_int, go_sem, seval]
  refine exC_pure (indexFunc0_c nl l f p hl _ hp) ?_
  simp -implicitDefEqProofs only [idx_any p l 0 (Int.le_refl 0), go_sem, seval]
  exact h
end Go.Proofs.Ytejmcijcdhoogaa
end

section
namespace Go.Proofs.Ytejmcijcdhoogaa
open Go Abs
attribute [local irreducible] EX exL exG exC exCq exS exV exIf exGd exGq exB
set_option maxHeartbeats 400000

def Graph.box (g : Graph) : AV := .box [iv g.nodes, .vec g.nl (rows g.links) g.links.length] 0
def noNode (g : Graph) (n : Int) : Bool := decide (¬ (0 ≤ n ∧ n < g.nodes))
def noLink (g : Graph) (n : Int) : Bool := decide (n < 0 ∨ (g.links.length : Int) ≤ n)
def noColour (n : Int) : Bool := decide (n < 0 ∨ 62 < n)
theorem noNode_c (g : Graph) (n : Int) (H : AHeap) : APure Try.prog 100 [iv n, g.box] H (bv (noNode g n)) := by
  intro Q h
  refine ACalls.of_code fn_prune_Right_d1 ?_
  simp -implicitDefEqProofs only [sc_prune_Right_d1, Graph.box, go_sem, seval]
  repeat' (first | simp -implicitDefEqProofs only [go_sem, seval] | simp -implicitDefEqProofs (disch := omega) only [rdV_t, ars, if_pos, exV_some, Option.map_some] | ((with_reducible first | apply exB_dec | apply exB_intro) <;> intro _))
  refine exC_pure (is_c g n _) ?_
  repeat' (first | simp -implicitDefEqProofs only [go_sem, seval] | simp -implicitDefEqProofs (disch := omega) only [ars, if_pos, exV_some, Option.map_some] | ((with_reducible first | apply exB_dec | apply exB_intro) <;> intro _))
  exact h
theorem noLink_c (g : Graph) (n : Int) (H : AHeap) : APure Try.prog 101 [iv n, g.box] H (bv (noLink g n)) := by
  intro Q h
  refine ACalls.of_code fn_prune_Right_d2 ?_
  simp -implicitDefEqProofs only [sc_prune_Right_d2, Graph.box, go_sem, seval]
  repeat' (first | simp -implicitDefEqProofs only [go_sem, seval] | simp -implicitDefEqProofs (disch := omega) only [ars, if_pos, exV_some, Option.map_some] | ((with_reducible first | apply exB_dec | apply exB_intro) <;> intro _))
  · exact fin_ h (by simp [noLink]; omega)
  · exact fin_ h (by simp [noLink]; omega)
theorem noColour_c (n : Int) (H : AHeap) : APure Try.prog 102 [iv n] H (bv (noColour n)) := by
  intro Q h
  refine ACalls.of_code fn_prune_Right_d3 ?_
  simp -implicitDefEqProofs only [sc_prune_Right_d3, go_sem, seval]
  repeat' (first | simp -implicitDefEqProofs only [go_sem, seval] | simp -implicitDefEqProofs (disch := omega) only [ars, if_pos, exV_some, Option.map_some] | ((with_reducible first | apply exB_dec | apply exB_intro) <;> intro _))
  · exact fin_ h (by simp [noColour]; omega)
  · exact fin_ h (by simp [noColour]; omega)

structure Want where
  src : Int
  dst : Int
  bound : Int
  viaNl : Bool
  via : List Int
  nodesNl : Bool
  nodes : List Int
  linksNl : Bool
  links : List Int
  coloursNl : Bool
  colours : List Int
def Want.av (w : Want) : AV := .agg [iv w.src, iv w.dst, iv w.bound, sl w.viaNl w.via, sl w.nodesNl w.nodes, sl w.linksNl w.links, sl w.coloursNl w.colours]
def Want.ok (w : Want) : Prop := w.via.length * 8 ≤ 140737488351232 ∧ w.nodes.length * 8 ≤ 140737488351232 ∧ w.links.length * 8 ≤ 140737488351232 ∧ w.colours.length * 8 ≤ 140737488351232
def rightErr (g : Graph) (w : Want) : Int :=
  if ¬ (check g).2 = 0 then (check g).2
  else if noNode g w.src = true ∨ noNode g w.dst = true ∨ w.via.any (noNode g) = true ∨ w.nodes.any (noNode g) = true then 4
  else if w.links.any (noLink g) = true then 5
  else if w.colours.any noColour = true ∨ w.bound < 0 then 1
  else if 4 < w.via.length then 6 else 0
theorem right_c (g : Graph) (w : Want) (hw : w.ok) (H : AHeap) : APure Try.prog 90 [g.av, w.av] H (iv (rightErr g w)) := by
  obtain ⟨w1, w2, w3, w4⟩ := hw
  intro Q h
  refine ACalls.of_code fn_prune_Right ?_
  simp -implicitDefEqProofs only [sc_prune_Right, Graph.av, Want.av, sl, go_sem, seval]
  refine exC_pure (check_c g _) ?_
  simp -implicitDefEqProofs only [pairI, go_sem, seval]
  repeat' (first | simp -implicitDefEqProofs only [go_sem, seval] | simp -implicitDefEqProofs (disch := omega) only [ars, if_pos, exV_some, Option.map_some] | ((with_reducible first | apply exB_dec | apply exB_intro) <;> intro _))
  · exact fin_ h (by rw [rightErr, if_pos (by assumption)])
  refine exC_pure (noNode_c g w.src _) ?_
  repeat' (first | simp -implicitDefEqProofs only [go_sem, seval] | simp -implicitDefEqProofs (disch := omega) only [ars, if_pos, exV_some, Option.map_some] | ((with_reducible first | apply exB_dec | apply exB_intro) <;> intro _))
  · exact fin_ h (by rw [rightErr, if_neg (by assumption), if_pos (by simp_all)])
  refine exC_pure (noNode_c g w.dst _) ?_
  repeat' (first | simp -implicitDefEqProofs only [go_sem, seval] | simp -implicitDefEqProofs (disch := omega) only [ars, if_pos, exV_some, Option.map_some] | ((with_reducible first | apply exB_dec | apply exB_intro) <;> intro _))
  · exact fin_ h (by rw [rightErr, if_neg (by assumption), if_pos (by simp_all)])
  refine exC_pure (containsFunc_c w.viaNl w.via 100 [] [g.box] (noNode g) (by omega) _ fun x _ => noNode_c g x _) ?_
  repeat' (first | simp -implicitDefEqProofs only [go_sem, seval] | simp -implicitDefEqProofs (disch := omega) only [ars, if_pos, exV_some, Option.map_some] | ((with_reducible first | apply exB_dec | apply exB_intro) <;> intro _))
  · exact fin_ h (by rw [rightErr, if_neg (by assumption), if_pos (by simp_all)])
  refine exC_pure (containsFunc_c w.nodesNl w.nodes 100 [] [g.box] (noNode g) (by omega) _ fun x _ => noNode_c g x _) ?_
  repeat' (first | simp -implicitDefEqProofs only [go_sem, seval] | simp -implicitDefEqProofs (disch := omega) only [ars, if_pos, exV_some, Option.map_some] | ((with_reducible first | apply exB_dec | apply exB_intro) <;> intro _))
  · exact fin_ h (by rw [rightErr, if_neg (by assumption), if_pos (by simp_all)])
  refine exC_pure (containsFunc_c w.linksNl w.links 101 [] [g.box] (noLink g) (by omega) _ fun x _ => noLink_c g x _) ?_
  repeat' (first | simp -implicitDefEqProofs only [go_sem, seval] | simp -implicitDefEqProofs (disch := omega) only [ars, if_pos, exV_some, Option.map_some] | ((with_reducible first | apply exB_dec | apply exB_intro) <;> intro _))
  · exact fin_ h (by rw [rightErr, if_neg (by assumption), if_neg (by simp_all), if_pos (by assumption)])
  refine exC_pure (containsFunc0_c w.coloursNl w.colours 102 noColour (by omega) _ fun x _ => noColour_c x _) ?_
  repeat' (first | simp -implicitDefEqProofs only [go_sem, seval] | simp -implicitDefEqProofs (disch := omega) only [ars, if_pos, exV_some, Option.map_some] | ((with_reducible first | apply exB_dec | apply exB_intro) <;> intro _))
  all_goals
    refine fin_ h ?_
    rw [rightErr, if_neg (by assumption), if_neg (by simp only [*, Bool.false_eq_true, or_self, not_false_eq_true]), if_neg (by simp only [*, Bool.false_eq_true, not_false_eq_true])]
    first
      | rw [if_pos (.inl (by assumption))]
      | rw [if_pos (.inr (by assumption))]
      | (rw [if_neg (by simp only [*, Bool.false_eq_true, or_self, not_false_eq_true])]
         first | rw [if_pos (by omega)] | rw [if_neg (by omega)])

def prunedAt (g : Graph) (w : Want) (down : List Bool) (i : Int) : Bool :=
  (decide (i < down.length) && gi down i) || hasI w.links i || hasI w.colours (gi g.links i).colour || hasI w.nodes (gi g.links i).A || hasI w.nodes (gi g.links i).B
def pruned (g : Graph) (w : Want) (down : List Bool) : List Bool := (List.range g.links.length).map fun (k : Nat) => prunedAt g w down (k : Int)
def prunedAV (g : Graph) (w : Want) (down : List Bool) : AV := if rightErr g w = 0 then .vec false ((pruned g w down).map bv) g.links.length else .vec true [] 0

theorem rightErr_ok {g : Graph} {w : Want} (h : rightErr g w = 0) : (check g).2 = 0 ∧ g.links.length ≤ 120 := by
  have hc : (check g).2 = 0 := by
    rw [rightErr] at h
    split at h
    · contradiction
    · omega
  exact ⟨hc, (check_ok g hc).1⟩
theorem down_c (g : Graph) (w : Want) (nl : Bool) (down : List Bool) (hw : w.ok) (H : AHeap) : APure Try.prog 91 [g.av, w.av, blv nl down] H (prunedAV g w down) := by
  intro Q h
  refine ACalls.of_code fn_prune_Down ?_
  simp -implicitDefEqProofs only [sc_prune_Down, Graph.av, Want.av, sl, blv, go_sem, seval]
  refine exC_pure (right_c g w hw _) ?_
  repeat' (first | simp -implicitDefEqProofs only [go_sem, seval] | simp -implicitDefEqProofs (disch := omega) only [ars, if_pos, exV_some, Option.map_some] | ((with_reducible first | apply exB_dec | apply exB_intro) <;> intro _))
  · exact fin_ h (by rw [prunedAV, if_neg (by assumption)])
  have hr : rightErr g w = 0 := by omega
  have hc := rightErr_ok hr
  refine exMk_int (by omega) (by omega) (by simp only [maxLen]; omega) rfl ?_
  rw [zrep_one, show ((g.links.length : Nat) : Int).toNat = g.links.length by omega, show List.replicate g.links.length (cAV (.bool false)) = (List.replicate g.links.length false).map bv by rw [List.map_replicate]; rfl]
  repeat' (first | simp -implicitDefEqProofs only [go_sem, seval] | simp -implicitDefEqProofs (disch := omega) only [ars, if_pos, exV_some, Option.map_some] | ((with_reducible first | apply exB_dec | apply exB_intro) <;> intro _))
  obtain ⟨hw1, hw2, hw3, hw4⟩ := hw
  obtain ⟨hc1, hc2⟩ := hc
  refine exL_inv (fun i : Int => { env := [(2, .v (.vec nl (down.map bv) down.length)), (4, .loc 4 0), (7, .own 17), (19, .v (.vec g.nl (rows g.links) g.links.length)), (20, .v (iv g.links.length)), (21, .v (iv i))], loc := [(4, .cells [iv w.src, iv w.dst, iv w.bound, .vec w.viaNl (w.via.map iv) w.via.length, .vec w.nodesNl (w.nodes.map iv) w.nodes.length, .vec w.linksNl (w.links.map iv) w.links.length, .vec w.coloursNl (w.colours.map iv) w.colours.length] 27), (17, .arr false ((fillTo (prunedAt g w down) false g.links.length i).map bv) g.links.length 4 1)], H := H })
    (fun i => 0 ≤ i ∧ i ≤ g.links.length) (fun i => (g.links.length - i).toNat) 0 (by rw [fillTo_zero]) ⟨by omega, by omega⟩ ?_
  rintro i ⟨h0, h1⟩ ih
  simp -implicitDefEqProofs only [congrArg KI.code sc_prune_Down_L0.eq_1, go_sem, seval]
  by_cases hi : i < g.links.length
  · have fin : ∀ b, b = prunedAt g w down i → exL Try.prog [2, 4, 7, 19, 20, 21] [] sc_prune_Down_L0 _ _ _ := fun b hb => by
      have := ih (i + 1) ⟨by omega, by omega⟩ (by omega)
      rw [← fillTo_set (prunedAt g w down) false g.links.length i h0 hb] at this
      exact this
    have con := fun (nl : Bool) (l : List Int) (v : Int) (hl : l.length * 8 ≤ 140737488351232) => contains_c nl l v (by omega) H
    simp only [sl] at con
    repeat' (first | simp -implicitDefEqProofs only [go_sem, seval] | simp -implicitDefEqProofs (disch := omega) only [rd_link, Link.av, fillTo_length, set_bools, ars, if_pos, exV_some, Option.map_some] | ((with_reducible first | apply exB_dec | apply exB_intro) <;> intro _) | with_reducible refine exC_pure (con _ _ _ (by assumption)) ?_ | with_reducible refine exCq_pure (con _ _ _ (by assumption)) ?_)
    all_goals first | (exfalso; omega) | skip
    all_goals (refine fin _ ?_; simp only [prunedAt, *, decide_true, decide_false, Bool.true_and, Bool.false_and, Bool.true_or, Bool.or_true, Bool.false_or, Bool.or_false])
  · repeat' (first | simp -implicitDefEqProofs only [go_sem, seval] | simp -implicitDefEqProofs (disch := omega) only [ars, if_pos, exV_some, Option.map_some] | ((with_reducible first | apply exB_dec | apply exB_intro) <;> intro _))
    all_goals first | (exfalso; omega) | skip
    refine fin_ h ?_
    rw [prunedAV, if_pos hr, pruned, fillTo_full _ _ _ _ (by omega)]

end Go.Proofs.Ytejmcijcdhoogaa
end

section
namespace Go.Proofs.Ytejmcijcdhoogaa
open Go Abs
attribute [local irreducible] EX exL exG exC exCq exS exV exIf exGd exGq exB
set_option maxHeartbeats 400000
theorem has_ref_c (nl : Bool) (l : List Int) (v : Int) (hl : l.length * 8 ≤ 140737488351232) (H : AHeap) : APure Try.prog 79 [sl nl l, iv v] H (bv (hasI l v)) := by
  intro Q h
  refine ACalls.of_code fn_waymarkref1_has ?_
  simp -implicitDefEqProofs only [sc_waymarkref1_has, sl, go_sem, seval]
  refine exL_inv (fun i : Int => { env := [(0, .v (.vec nl (l.map iv) l.length)), (1, .v (iv v)), (5, .v (iv i))], loc := [], H := H })
    (fun i => 0 ≤ i ∧ i ≤ l.length ∧ hasI (l.drop i.toNat) v = hasI l v) (fun i => (l.length - i).toNat) 0 rfl ⟨by omega, by omega, by simp⟩ ?_
  rintro i ⟨h0, h1, h2⟩ ih
  simp -implicitDefEqProofs only [sc_waymarkref1_has_L0, go_sem, seval]
  by_cases hi : i < l.length
  · rw [drop_gi h0 hi, hasI, List.any_cons] at h2
    repeat' (first | simp -implicitDefEqProofs only [go_sem, seval] | simp -implicitDefEqProofs (disch := omega) only [ars, if_pos, exV_some, Option.map_some] | ((with_reducible first | apply exB_dec | apply exB_intro) <;> intro _))
    all_goals first | (exfalso; omega) | skip
    · exact fin_ h (by rw [← h2]; simp [*])
    · refine ih (i + 1) ⟨by omega, by omega, ?_⟩ (by omega)
      rw [← h2, hasI]
      have : ¬ v = gi l i := by omega
      simp [this]
  · rw [drop_end (by omega)] at h2
    repeat' (first | simp -implicitDefEqProofs only [go_sem, seval] | simp -implicitDefEqProofs (disch := omega) only [ars, if_pos, exV_some, Option.map_some] | ((with_reducible first | apply exB_dec | apply exB_intro) <;> intro _))
    all_goals first | (exfalso; omega) | skip
    exact fin_ h (by rw [← h2]; rfl)

theorem node_ref_c (g : Graph) (n : Int) (H : AHeap) : APure Try.prog 59 [g.av, iv n] H (bv (!noNode g n)) := by
  intro Q h
  refine ACalls.of_code fn_waymarkref1_Node ?_
  simp -implicitDefEqProofs only [sc_waymarkref1_Node, Graph.av, go_sem, seval]
  repeat' (first | simp -implicitDefEqProofs only [go_sem, seval] | simp -implicitDefEqProofs (disch := omega) only [ars, if_pos, exV_some, Option.map_some] | ((with_reducible first | apply exB_dec | apply exB_intro) <;> intro _))
  all_goals exact fin_ h (by simp only [noNode, decide_not, Bool.not_not]; simp [*])
theorem rightWant_c (g : Graph) (w : Want) (hw : w.ok) (H : AHeap) : APure Try.prog 53 [g.av, w.av] H (iv (rightErr g w)) := by
  obtain ⟨w1, w2, w3, w4⟩ := hw
  intro Q h
  refine ACalls.of_code fn_waymarkref1_RightWant ?_
  simp -implicitDefEqProofs only [sc_waymarkref1_RightWant, Graph.av, Want.av, sl, go_sem, seval]
  refine exC_pure (check_ref_c g _) ?_
  simp -implicitDefEqProofs only [pairI, go_sem, seval]
  repeat' (first | simp -implicitDefEqProofs only [go_sem, seval] | simp -implicitDefEqProofs (disch := omega) only [ars, if_pos, exV_some, Option.map_some] | ((with_reducible first | apply exB_dec | apply exB_intro) <;> intro _))
  · exact fin_ h (by rw [rightErr, if_pos (by assumption)])
  have hc : (check g).2 = 0 := by omega
  have nod := fun n => node_ref_c g n H
  simp only [Graph.av] at nod
  refine exC_join (fun b : Bool => b = (noNode g w.src || noNode g w.dst)) (fun b => [(7, .v (bv b))]) (fun _ => []) _ (keep_seq (keep_seq (keep_reg (by decide)))) ?_ ?_
  · repeat' (first | simp -implicitDefEqProofs only [go_sem, seval] | simp -implicitDefEqProofs (disch := omega) only [ars, if_pos, exV_some, Option.map_some] | ((with_reducible first | apply exB_dec | apply exB_intro) <;> intro _) | with_reducible refine exC_pure (nod _) ?_ | with_reducible refine exCq_pure (nod _) ?_)
    all_goals refine joinK_intro _ ?_ rfl
    all_goals simp only [*, Bool.true_or, Bool.or_true, Bool.false_or]
  rintro b0 hb0
  repeat' (first | simp -implicitDefEqProofs only [go_sem, seval] | simp -implicitDefEqProofs (disch := omega) only [ars, if_pos, exV_some, Option.map_some] | ((with_reducible first | apply exB_dec | apply exB_intro) <;> intro _))
  refine exL_mod (fun p : Int × Bool => [(7, .v (bv p.2)), (8, .v (iv p.1))]) (fun _ => []) (fun p => 0 ≤ p.1 ∧ p.1 ≤ w.via.length ∧ (p.2 || (w.via.drop p.1.toNat).any (noNode g)) = (b0 || w.via.any (noNode g))) (fun p => (w.via.length - p.1).toNat) (0, b0) rfl ⟨by simp, by simp, by simp⟩ ?_
  rintro ⟨i, b⟩ ⟨h0, h1, h2⟩ ih
  dsimp only at h0 h1 h2 ih
  simp only [S.up, S.upH, ups, Abs.put, Nat.reduceEqDiff, ↓reduceIte, Nat.reduceAdd] at ih
  simp -implicitDefEqProofs only [congrArg KI.code sc_waymarkref1_RightWant_L3.eq_1, go_sem, seval]
  by_cases hi : i < w.via.length
  · rw [drop_gi h0 hi, List.any_cons] at h2
    repeat' (first | simp -implicitDefEqProofs only [go_sem, seval] | simp -implicitDefEqProofs (disch := omega) only [ars, if_pos, exV_some, Option.map_some] | ((with_reducible first | apply exB_dec | apply exB_intro) <;> intro _) | with_reducible refine exC_pure (nod _) ?_ | with_reducible refine exCq_pure (nod _) ?_)
    all_goals first | (exfalso; omega) | skip
    · exact ih (i + 1, true) ⟨by dsimp only; omega, by dsimp only; omega, by rw [← h2]; simp [*]⟩ (by dsimp only; omega)
    · exact ih (i + 1, noNode g (gi w.via i)) ⟨by dsimp only; omega, by dsimp only; omega, by rw [← h2]; simp [*]⟩ (by dsimp only; omega)
  rw [drop_end (by omega), List.any_nil, Bool.or_false] at h2
  repeat' (first | simp -implicitDefEqProofs only [go_sem, seval] | simp -implicitDefEqProofs (disch := omega) only [ars, if_pos, exV_some, Option.map_some] | ((with_reducible first | apply exB_dec | apply exB_intro) <;> intro _))
  all_goals first | (exfalso; omega) | skip
  refine exL_mod (fun p : Int × Bool => [(7, .v (bv p.2)), (9, .v (iv p.1))]) (fun _ => []) (fun p => 0 ≤ p.1 ∧ p.1 ≤ w.nodes.length ∧ (p.2 || (w.nodes.drop p.1.toNat).any (noNode g)) = (b || w.nodes.any (noNode g))) (fun p => (w.nodes.length - p.1).toNat) (0, b) rfl ⟨by simp, by simp, by simp⟩ ?_
  rintro ⟨i, b2⟩ ⟨h0, h1, h3⟩ ih
  dsimp only at h0 h1 h3 ih
  simp only [S.up, S.upH, ups, Abs.put, Nat.reduceEqDiff, ↓reduceIte, Nat.reduceAdd] at ih
  simp -implicitDefEqProofs only [congrArg KI.code sc_waymarkref1_RightWant_L2.eq_1, go_sem, seval]
  by_cases hi : i < w.nodes.length
  · rw [drop_gi h0 hi, List.any_cons] at h3
    repeat' (first | simp -implicitDefEqProofs only [go_sem, seval] | simp -implicitDefEqProofs (disch := omega) only [ars, if_pos, exV_some, Option.map_some] | ((with_reducible first | apply exB_dec | apply exB_intro) <;> intro _) | with_reducible refine exC_pure (nod _) ?_ | with_reducible refine exCq_pure (nod _) ?_)
    all_goals first | (exfalso; omega) | skip
    · exact ih (i + 1, true) ⟨by dsimp only; omega, by dsimp only; omega, by rw [← h3]; simp [*]⟩ (by dsimp only; omega)
    · exact ih (i + 1, noNode g (gi w.nodes i)) ⟨by dsimp only; omega, by dsimp only; omega, by rw [← h3]; simp [*]⟩ (by dsimp only; omega)
  rw [drop_end (by omega), List.any_nil, Bool.or_false] at h3
  have e : (noNode g w.src || noNode g w.dst || w.via.any (noNode g) || w.nodes.any (noNode g)) = b2 := by rw [h3, h2, hb0]
  repeat' (first | simp -implicitDefEqProofs only [go_sem, seval] | simp -implicitDefEqProofs (disch := omega) only [ars, if_pos, exV_some, Option.map_some] | ((with_reducible first | apply exB_dec | apply exB_intro) <;> intro _))
  all_goals first | (exfalso; omega) | skip
  · refine fin_ h ?_
    rw [‹b2 = true›] at e
    rw [rightErr, if_neg (by simpa using hc), if_pos (by simpa only [Bool.or_eq_true, or_assoc] using e)]
  rw [‹b2 = false›] at e
  simp only [Bool.or_eq_false_iff] at e
  obtain ⟨⟨⟨e1, e2⟩, e3⟩, e4⟩ := e
  have s4 : rightErr g w = if w.links.any (noLink g) = true then 5 else if w.colours.any noColour = true ∨ w.bound < 0 then 1 else if 4 < w.via.length then 6 else 0 := by
    rw [rightErr, if_neg (by simpa using hc), if_neg (by simp only [e1, e2, e3, e4, Bool.false_eq_true, or_self, not_false_eq_true])]
  refine exL_mod (fun i : Int => [(10, .v (iv i))]) (fun _ => []) (fun i => 0 ≤ i ∧ i ≤ w.links.length ∧ (w.links.drop i.toNat).any (noLink g) = w.links.any (noLink g)) (fun i => (w.links.length - i).toNat) 0 rfl ⟨by simp, by simp, by simp⟩ ?_
  rintro i ⟨h0, h1, h4⟩ ih
  simp only [S.up, S.upH, ups, Abs.put, Nat.reduceEqDiff, ↓reduceIte, Nat.reduceAdd] at ih
  simp -implicitDefEqProofs only [congrArg KI.code sc_waymarkref1_RightWant_L1.eq_1, go_sem, seval]
  by_cases hi : i < w.links.length
  · rw [drop_gi h0 hi, List.any_cons] at h4
    have bad : noLink g (gi w.links i) = true → rightErr g w = 5 := by
      intro hb
      rw [s4, if_pos (by rw [← h4, hb]; rfl)]
    simp only [noLink, decide_eq_true_eq] at bad
    repeat' (first | simp -implicitDefEqProofs only [go_sem, seval] | simp -implicitDefEqProofs (disch := omega) only [ars, if_pos, exV_some, Option.map_some] | ((with_reducible first | apply exB_dec | apply exB_intro) <;> intro _))
    all_goals first | (exfalso; omega) | skip
    · exact fin_ h (by rw [bad (by omega)])
    · exact fin_ h (by rw [bad (by omega)])
    · refine ih (i + 1) ⟨by omega, by omega, ?_⟩ (by omega)
      rw [← h4]
      have : noLink g (gi w.links i) = false := by simp only [noLink, decide_eq_false_iff_not]; omega
      simp [this]
  rw [drop_end (by omega), List.any_nil] at h4
  rw [if_neg (by rw [← h4]; simp)] at s4
  repeat' (first | simp -implicitDefEqProofs only [go_sem, seval] | simp -implicitDefEqProofs (disch := omega) only [ars, if_pos, exV_some, Option.map_some] | ((with_reducible first | apply exB_dec | apply exB_intro) <;> intro _))
  all_goals first | (exfalso; omega) | skip
  refine exL_mod (fun i : Int => [(11, .v (iv i))]) (fun _ => []) (fun i => 0 ≤ i ∧ i ≤ w.colours.length ∧ (w.colours.drop i.toNat).any noColour = w.colours.any noColour) (fun i => (w.colours.length - i).toNat) 0 rfl ⟨by simp, by simp, by simp⟩ ?_
  rintro i ⟨h0, h1, h5⟩ ih
  simp only [S.up, S.upH, ups, Abs.put, Nat.reduceEqDiff, ↓reduceIte, Nat.reduceAdd] at ih
  simp -implicitDefEqProofs only [congrArg KI.code sc_waymarkref1_RightWant_L0.eq_1, go_sem, seval]
  by_cases hi : i < w.colours.length
  · rw [drop_gi h0 hi, List.any_cons] at h5
    have bad : noColour (gi w.colours i) = true → rightErr g w = 1 := by
      intro hb
      rw [s4, if_pos (.inl (by rw [← h5, hb]; rfl))]
    simp only [noColour, decide_eq_true_eq] at bad
    repeat' (first | simp -implicitDefEqProofs only [go_sem, seval] | simp -implicitDefEqProofs (disch := omega) only [ars, if_pos, exV_some, Option.map_some] | ((with_reducible first | apply exB_dec | apply exB_intro) <;> intro _))
    all_goals first | (exfalso; omega) | skip
    · exact fin_ h (by rw [bad (by omega)])
    · exact fin_ h (by rw [bad (by omega)])
    · refine ih (i + 1) ⟨by omega, by omega, ?_⟩ (by omega)
      rw [← h5]
      have : noColour (gi w.colours i) = false := by simp only [noColour, decide_eq_false_iff_not]; omega
      simp [this]
  rw [drop_end (by omega), List.any_nil] at h5
  rw [← h5] at s4
  simp only [Bool.false_eq_true, false_or] at s4
  repeat' (first | simp -implicitDefEqProofs only [go_sem, seval] | simp -implicitDefEqProofs (disch := omega) only [ars, if_pos, exV_some, Option.map_some] | ((with_reducible first | apply exB_dec | apply exB_intro) <;> intro _))
  all_goals first | (exfalso; omega) | skip
  all_goals refine fin_ h ?_
  · rw [s4, if_pos (by omega)]
  · rw [s4, if_neg (by omega), if_pos (by omega)]
  · rw [s4, if_neg (by omega), if_neg (by omega)]
theorem pruned_ref_c (g : Graph) (w : Want) (nl : Bool) (down : List Bool) (hw : w.ok) (H : AHeap) (hrw : APure Try.prog 53 [g.av, w.av] H (iv (rightErr g w))) : APure Try.prog 55 [g.av, w.av, blv nl down] H (prunedAV g w down) := by
  intro Q h
  refine ACalls.of_code fn_waymarkref1_Pruned ?_
  simp -implicitDefEqProofs only [sc_waymarkref1_Pruned, Graph.av, Want.av, sl, blv, go_sem, seval]
  refine exC_pure hrw ?_
  repeat' (first | simp -implicitDefEqProofs only [go_sem, seval] | simp -implicitDefEqProofs (disch := omega) only [ars, if_pos, exV_some, Option.map_some] | ((with_reducible first | apply exB_dec | apply exB_intro) <;> intro _))
  · exact fin_ h (by rw [prunedAV, if_neg (by assumption)])
  have hr : rightErr g w = 0 := by omega
  have hc := rightErr_ok hr
  refine exMk_int (by omega) (by omega) (by simp only [maxLen]; omega) rfl ?_
  rw [zrep_one, show ((g.links.length : Nat) : Int).toNat = g.links.length by omega, show List.replicate g.links.length (cAV (.bool false)) = (List.replicate g.links.length false).map bv by rw [List.map_replicate]; rfl]
  repeat' (first | simp -implicitDefEqProofs only [go_sem, seval] | simp -implicitDefEqProofs (disch := omega) only [ars, if_pos, exV_some, Option.map_some] | ((with_reducible first | apply exB_dec | apply exB_intro) <;> intro _))
  obtain ⟨hw1, hw2, hw3, hw4⟩ := hw
  obtain ⟨hc1, hc2⟩ := hc
  rw [← fillTo_zero (prunedAt g w down)]
  refine exL_mod (fun i : Int => [(8, .v (iv i))]) (fun i => [(17, .arr false ((fillTo (prunedAt g w down) false g.links.length i).map bv) g.links.length 4 1)])
    (fun i => 0 ≤ i ∧ i ≤ g.links.length) (fun i => (g.links.length - i).toNat) 0 rfl ⟨by omega, by omega⟩ ?_
  rintro i ⟨h0, h1⟩ ih
  simp only [S.up, S.upH, ups, Abs.put, Nat.reduceEqDiff, ↓reduceIte, Nat.reduceAdd] at ih
  simp -implicitDefEqProofs only [congrArg KI.code sc_waymarkref1_Pruned_L0.eq_1, go_sem, seval]
  by_cases hi : i < g.links.length
  · have fin : ∀ b, b = prunedAt g w down i → exL Try.prog [2, 3, 4, 7, 8] [] sc_waymarkref1_Pruned_L0 _ _ _ := fun b hb => by
      have := ih (i + 1) ⟨by omega, by omega⟩ (by omega)
      rw [← fillTo_set (prunedAt g w down) false g.links.length i h0 hb] at this
      exact this
    have con := fun (nl : Bool) (l : List Int) (v : Int) (hl : l.length * 8 ≤ 140737488351232) => has_ref_c nl l v hl H
    have cod := isDown_c nl down i H
    simp only [sl] at con
    simp only [blv] at cod
    rw [decide_eq_true h0, Bool.true_and] at cod
    repeat' (first | simp -implicitDefEqProofs only [go_sem, seval] | simp -implicitDefEqProofs (disch := omega) only [rd_link, Link.av, fillTo_length, set_bools, ars, if_pos, exV_some, Option.map_some] | ((with_reducible first | apply exB_dec | apply exB_intro) <;> intro _) | with_reducible refine exC_pure (con _ _ _ (by assumption)) ?_ | with_reducible refine exCq_pure (con _ _ _ (by assumption)) ?_ | with_reducible refine exC_pure (cod) ?_ | with_reducible refine exCq_pure (cod) ?_)
    all_goals first | (exfalso; omega) | skip
    all_goals (refine fin _ ?_; simp only [prunedAt, *, decide_true, decide_false, Bool.true_and, Bool.false_and, Bool.true_or, Bool.or_true, Bool.false_or, Bool.or_false])
  · repeat' (first | simp -implicitDefEqProofs only [go_sem, seval] | simp -implicitDefEqProofs (disch := omega) only [ars, if_pos, exV_some, Option.map_some] | ((with_reducible first | apply exB_dec | apply exB_intro) <;> intro _))
    all_goals first | (exfalso; omega) | skip
    refine fin_ h ?_
    rw [prunedAV, if_pos hr, pruned, fillTo_full _ _ _ _ (by omega)]
end Go.Proofs.Ytejmcijcdhoogaa
end

section
namespace Go.Proofs.Ytejmcijcdhoogaa
open Go Abs
attribute [local irreducible] EX exL exG exC exCq exS exV exIf exGd exGq exB
set_option maxHeartbeats 400000

theorem pruned_length (g : Graph) (w : Want) (down : List Bool) : (pruned g w down).length = g.links.length := by simp [pruned]
def fewB (w : Want) : Bool := decide (w.via.length ≤ 20 ∧ w.nodes.length ≤ 60 ∧ w.links.length ≤ 60 ∧ w.colours.length ≤ 60)
theorem few_c (w : Want) (H : AHeap) : APure Try.prog 18 [w.av] H (bv (fewB w)) := by
  intro Q h
  refine ACalls.of_code fn_waymarklaw8_Few ?_
  simp -implicitDefEqProofs only [sc_waymarklaw8_Few, Want.av, sl, go_sem, seval]
  repeat' (first | simp -implicitDefEqProofs only [go_sem, seval] | simp -implicitDefEqProofs (disch := omega) only [ars, if_pos, exV_some, Option.map_some] | ((with_reducible first | apply exB_dec | apply exB_intro) <;> intro _))
  all_goals exact fin_ h (by simp only [fewB]; first | (rw [decide_eq_true (by omega), eq_comm, decide_eq_true_eq]; omega) | (rw [decide_eq_false (by omega)]) | exact congrArg (fun b => AV.raw (.bool b)) (decide_eq_decide.2 (by omega)) | (congr 2; rw [decide_eq_decide]; omega))

end Go.Proofs.Ytejmcijcdhoogaa
end

section
namespace Go.Proofs.Ytejmcijcdhoogaa
open Go Abs
attribute [local irreducible] EX exL exG exC exCq exS exV exIf exGd exGq exB
def tcWant : TC := .st [tcI, tcI, tcI, tcInts, tcInts, tcInts, tcInts]
def Want.fine (w : Want) : Prop := w.ok ∧ (-9223372036854775808 ≤ w.src ∧ w.src ≤ 9223372036854775807) ∧ (-9223372036854775808 ≤ w.dst ∧ w.dst ≤ 9223372036854775807) ∧ (-9223372036854775808 ≤ w.bound ∧ w.bound ≤ 9223372036854775807) ∧ I64s w.via ∧ I64s w.nodes ∧ I64s w.links ∧ I64s w.colours
theorem shape_wantL {r : List AV} (h : Shape tcWant r) : ∃ w : Want, .agg r = w.av ∧ w.fine := by
  simp only [tcWant, Shape, ShapeAll, tcI] at h
  obtain ⟨_, _, rfl, ⟨a, rfl, ha⟩, _, _, rfl, ⟨b, rfl, hb⟩, _, _, rfl, ⟨c, rfl, hc⟩, _, _, rfl, h1, _, _, rfl, h2, _, _, rfl, h3, _, _, rfl, h4, rfl⟩ := h
  obtain ⟨n1, l1, rfl, b1, -, i1⟩ := shape_intsL h1
  obtain ⟨n2, l2, rfl, b2, -, i2⟩ := shape_intsL h2
  obtain ⟨n3, l3, rfl, b3, -, i3⟩ := shape_intsL h3
  obtain ⟨n4, l4, rfl, b4, -, i4⟩ := shape_intsL h4
  exact ⟨⟨a, b, c, n1, l1, n2, l2, n3, l3, n4, l4⟩, by simp [Want.av, sl], ⟨b1, b2, b3, b4⟩, wf_i64 ha, wf_i64 hb, wf_i64 hc, i1, i2, i3, i4⟩
theorem shape_want {a : AV} (h : ArgShape tcWant a) : ∃ w : Want, a = w.av ∧ w.fine := by
  unfold ArgShape tcWant at h
  obtain ⟨r, rfl, h⟩ := h
  exact shape_wantL h
end Go.Proofs.Ytejmcijcdhoogaa
end

section
namespace Go.Proofs.Ytejmcijcdhoogaa
open Go Abs
attribute [local irreducible] EX exL exG exC exCq exS exV exIf exGd exGq exB

abbrev Pr := Int × Int
instance : Enc Pr where
  sz := 2
  cells p := [iv p.1, iv p.2]
  len _ := rfl
  pos := by decide
theorem Pr.sz_eq : Enc.sz Pr = 2 := rfl
def pr (p : Pr) : AV := .agg [iv p.1, iv p.2]
def ah (p q : Pr) : Prop := p.1 < q.1 ∨ p.1 = q.1 ∧ p.2 < q.2
instance (p q : Pr) : Decidable (ah p q) := inferInstanceAs (Decidable (_ ∨ _))
theorem ah_irr (p : Pr) : ¬ ah p p := by unfold ah; omega
theorem ah_asymm {p q : Pr} (h : ah p q) : ¬ ah q p := by unfold ah at *; omega
theorem ah_trans {p q r : Pr} (h : ah p q) (k : ah q r) : ah p r := by unfold ah at *; omega
theorem nah_trans {p q r : Pr} (h : ¬ ah p q) (k : ¬ ah q r) : ¬ ah p r := by unfold ah at *; omega
def IsHeap (l : List Pr) : Prop := ∀ k : Int, 0 < k → k < l.length → ¬ ah (gi l k) (gi l ((k - 1) / 2))
def UpAt (l : List Pr) (i : Int) : Prop := (∀ k : Int, 0 < k → k < l.length → k ≠ i → ¬ ah (gi l k) (gi l ((k - 1) / 2))) ∧ (0 < i → ∀ k : Int, 0 < k → k < l.length → (k - 1) / 2 = i → ¬ ah (gi l k) (gi l ((i - 1) / 2)))
def DownAt (l : List Pr) (i : Int) : Prop := (∀ k : Int, 0 < k → k < l.length → (k - 1) / 2 ≠ i → ¬ ah (gi l k) (gi l ((k - 1) / 2))) ∧ (0 < i → ∀ k : Int, 0 < k → k < l.length → (k - 1) / 2 = i → ¬ ah (gi l k) (gi l ((i - 1) / 2)))
def swapL (l : List Pr) (i j : Int) : List Pr := (l.set i.toNat (gi l j)).set j.toNat (gi l i)
theorem swapL_length (l : List Pr) (i j : Int) : (swapL l i j).length = l.length := by simp [swapL]
theorem gi_swapL {l : List Pr} {i j k : Int} (i0 : 0 ≤ i) (i1 : i < l.length) (j0 : 0 ≤ j) (j1 : j < l.length) (k0 : 0 ≤ k) : gi (swapL l i j) k = if k = j then gi l i else if k = i then gi l j else gi l k := by
  unfold swapL
  rw [gi_set j0 (by simp; omega) k0, gi_set i0 i1 k0]
theorem swapL_perm {l : List Pr} {i j : Int} (i0 : 0 ≤ i) (i1 : i < l.length) (j0 : 0 ≤ j) (j1 : j < l.length) : (swapL l i j).Perm l := by
  unfold swapL
  rw [gi_get (l := l) (i := j) (by omega), gi_get (l := l) (i := i) (by omega)]
  exact List.set_set_perm (by omega) (by omega)

theorem up_end {l : List Pr} {i : Int} (h : UpAt l i) (he : i ≤ 0 ∨ ¬ ah (gi l i) (gi l ((i - 1) / 2))) : IsHeap l := by
  intro k k0 k1
  by_cases e : k = i
  · subst e
    rcases he with he | he
    · omega
    · exact he
  · exact h.1 k k0 k1 e
theorem up_step {l : List Pr} {i : Int} (h : UpAt l i) (i0 : 0 < i) (i1 : i < l.length) (ha : ah (gi l i) (gi l ((i - 1) / 2))) : UpAt (swapL l i ((i - 1) / 2)) ((i - 1) / 2) := by
  obtain ⟨u, hu⟩ : ∃ u, u = (i - 1) / 2 := ⟨_, rfl⟩
  rw [← hu] at ha ⊢
  have g : ∀ k : Int, 0 ≤ k → gi (swapL l i u) k = if k = u then gi l i else if k = i then gi l u else gi l k := fun k k0 => gi_swapL (by omega) i1 (by omega) (by omega) k0
  refine ⟨fun k k0 k1 hk => ?_, fun hu0 k k0 k1 hk => ?_⟩
  · rw [swapL_length] at k1
    rw [g k (by omega), g _ (by omega), if_neg hk]
    by_cases e : k = i
    · subst e
      rw [if_pos rfl, if_pos hu.symm]
      exact ah_asymm ha
    · rw [if_neg e]
      by_cases e2 : (k - 1) / 2 = u
      · rw [if_pos e2]
        have := h.1 k k0 k1 e
        rw [e2] at this
        exact fun hh => this (ah_trans hh ha)
      · rw [if_neg e2]
        by_cases e3 : (k - 1) / 2 = i
        · rw [if_pos e3]
          have := h.2 i0 k k0 k1 e3
          rwa [← hu] at this
        · rw [if_neg e3]
          exact h.1 k k0 k1 e
  · rw [swapL_length] at k1
    rw [g k (by omega), g _ (by omega)]
    have hup := h.1 u (by omega) (by omega) (by omega)
    rw [if_neg (show ¬ k = u by omega), if_neg (show ¬ (u - 1) / 2 = u by omega), if_neg (show ¬ (u - 1) / 2 = i by omega)]
    by_cases e : k = i
    · rw [if_pos e]; exact hup
    · rw [if_neg e]
      have := h.1 k k0 k1 e
      rw [hk] at this
      exact nah_trans this hup

def leastOf (l : List Pr) (i : Int) : Int :=
  let b1 := if 2 * i + 1 < l.length ∧ ah (gi l (2 * i + 1)) (gi l i) then 2 * i + 1 else i
  if 2 * i + 2 < l.length ∧ ah (gi l (2 * i + 2)) (gi l b1) then 2 * i + 2 else b1
theorem leastOf_spec (l : List Pr) (i : Int) (i0 : 0 ≤ i) (i1 : i < l.length) :
    (leastOf l i = i ∨ ((leastOf l i - 1) / 2 = i ∧ leastOf l i < l.length ∧ 0 < leastOf l i ∧ ah (gi l (leastOf l i)) (gi l i))) ∧ ∀ k : Int, 0 < k → k < l.length → (k - 1) / 2 = i → ¬ ah (gi l k) (gi l (leastOf l i)) := by
  unfold leastOf
  simp only
  by_cases h1 : 2 * i + 1 < l.length ∧ ah (gi l (2 * i + 1)) (gi l i)
  · rw [if_pos h1]
    by_cases h2 : 2 * i + 2 < l.length ∧ ah (gi l (2 * i + 2)) (gi l (2 * i + 1))
    · rw [if_pos h2]
      refine ⟨.inr ⟨by omega, h2.1, by omega, ah_trans h2.2 h1.2⟩, fun k k0 k1 hk => ?_⟩
      rcases (show k = 2 * i + 1 ∨ k = 2 * i + 2 by omega) with rfl | rfl
      · exact ah_asymm h2.2
      · exact ah_irr _
    · rw [if_neg h2]
      refine ⟨.inr ⟨by omega, h1.1, by omega, h1.2⟩, fun k k0 k1 hk => ?_⟩
      rcases (show k = 2 * i + 1 ∨ k = 2 * i + 2 by omega) with rfl | rfl
      · exact ah_irr _
      · exact fun hh => h2 ⟨k1, hh⟩
  · rw [if_neg h1]
    by_cases h2 : 2 * i + 2 < l.length ∧ ah (gi l (2 * i + 2)) (gi l i)
    · rw [if_pos h2]
      refine ⟨.inr ⟨by omega, h2.1, by omega, h2.2⟩, fun k k0 k1 hk => ?_⟩
      rcases (show k = 2 * i + 1 ∨ k = 2 * i + 2 by omega) with rfl | rfl
      · have : ¬ ah (gi l (2 * i + 1)) (gi l i) := fun hh => h1 ⟨k1, hh⟩
        exact fun hh => this (ah_trans hh h2.2)
      · exact ah_irr _
    · rw [if_neg h2]
      refine ⟨.inl rfl, fun k k0 k1 hk => ?_⟩
      rcases (show k = 2 * i + 1 ∨ k = 2 * i + 2 by omega) with rfl | rfl
      · exact fun hh => h1 ⟨k1, hh⟩
      · exact fun hh => h2 ⟨k1, hh⟩
theorem down_end {l : List Pr} {i : Int} (h : DownAt l i) (i0 : 0 ≤ i) (he : (l.length : Int) ≤ i ∨ leastOf l i = i) : IsHeap l := by
  intro k k0 k1
  by_cases e : (k - 1) / 2 = i
  · rcases he with he | he
    · omega
    · have := (leastOf_spec l i i0 (by omega)).2 k k0 k1 e
      rw [he] at this
      rwa [e]
  · exact h.1 k k0 k1 e
theorem down_step {l : List Pr} {i : Int} (h : DownAt l i) (i0 : 0 ≤ i) (i1 : i < l.length) (hn : leastOf l i ≠ i) : DownAt (swapL l i (leastOf l i)) (leastOf l i) ∧ (leastOf l i - 1) / 2 = i ∧ leastOf l i < l.length ∧ 0 < leastOf l i := by
  obtain ⟨h1, h2⟩ := leastOf_spec l i i0 i1
  obtain ⟨j, hj⟩ : ∃ j, j = leastOf l i := ⟨_, rfl⟩
  rw [← hj] at h1 h2 hn ⊢
  rcases h1 with h1 | ⟨j1, j2, j3, j4⟩
  · exact absurd h1 hn
  refine ⟨?_, j1, j2, j3⟩
  have g : ∀ k : Int, 0 ≤ k → gi (swapL l i j) k = if k = j then gi l i else if k = i then gi l j else gi l k := fun k k0 => gi_swapL i0 i1 (by omega) j2 k0
  refine ⟨fun k k0 k1 hk => ?_, fun _ k k0 k1 hk => ?_⟩
  · rw [swapL_length] at k1
    rw [g k (by omega), g _ (by omega)]
    rw [if_neg hk]
    by_cases e : k = j
    · subst e
      rw [if_pos rfl, if_pos j1]
      exact ah_asymm j4
    · rw [if_neg e]
      by_cases e2 : k = i
      · subst e2
        rw [if_pos rfl, if_neg (by omega)]
        have := h.2 k0 j j3 j2 j1
        exact this
      · rw [if_neg e2]
        by_cases e3 : (k - 1) / 2 = i
        · rw [if_pos e3]
          exact h2 k k0 k1 e3
        · rw [if_neg e3]
          exact h.1 k k0 k1 e3
  · rw [swapL_length] at k1
    rw [g k (by omega), g _ (by omega), j1, if_neg (show ¬ k = j by omega), if_neg (show ¬ k = i by omega), if_neg (show ¬ i = j by omega), if_pos rfl]
    have := h.1 k k0 k1 (by omega)
    rwa [hk] at this
theorem heap_min {l : List Pr} (h : IsHeap l) : ∀ q ∈ l, ¬ ah q (gi l 0) := by
  have key : ∀ n : Nat, n < l.length → ¬ ah (gi l (n : Int)) (gi l 0) := by
    intro n
    induction n using Nat.strongRecOn with
    | _ n ih =>
      intro hn
      by_cases e : n = 0
      · subst e; exact ah_irr _
      · have h1 := h (n : Int) (by omega) (by omega)
        have h2 := ih ((((n : Int) - 1) / 2).toNat) (by omega) (by omega)
        rw [Int.toNat_of_nonneg (by omega)] at h2
        exact nah_trans h1 h2
  intro q hq
  obtain ⟨n, hn, rfl⟩ := List.getElem_of_mem hq
  have := key n hn
  rwa [gi_get (by omega), show l[((n : Nat) : Int).toNat] = l[n] by simp] at this
theorem leastOf_out (l : List Pr) (i : Int) (h : (l.length : Int) ≤ 2 * i + 1) : leastOf l i = i := by
  unfold leastOf
  simp only
  rw [if_neg fun hx => by omega, if_neg fun hx => by omega]
theorem pop_perm (l : List Pr) (h : 0 < l.length) : l.Perm (gi l 0 :: (l.set 0 (gi l (l.length - 1))).take (l.length - 1)) := by
  match l with
  | [] => simp at h
  | [a] => simp [gi]
  | a :: b :: t =>
    have e1 : gi (a :: b :: t) 0 = a := rfl
    have e2 : gi (a :: b :: t) (((a :: b :: t).length : Int) - 1) = (b :: t).getLast (by simp) := by
      rw [gi_get (by simp), List.getLast_eq_getElem]
      simp
    rw [e1, e2]
    refine List.Perm.cons a ?_
    have e3 : ((a :: b :: t).set 0 ((b :: t).getLast (by simp))).take ((a :: b :: t).length - 1) = (b :: t).getLast (by simp) :: (b :: t).dropLast := by
      rw [List.set_cons_zero, show (a :: b :: t).length - 1 = t.length + 1 by simp, List.take_succ_cons, List.dropLast_eq_take]
      simp
    rw [e3]
    have := List.dropLast_concat_getLast (l := b :: t) (by simp)
    exact (List.Perm.of_eq this.symm).trans (List.perm_append_comm)
end Go.Proofs.Ytejmcijcdhoogaa
end

section
namespace Go.Proofs.Ytejmcijcdhoogaa
open Go Abs
attribute [local irreducible] EX exL exG exC exCq exS exV exIf exGd exGq exB
set_option maxHeartbeats 400000

theorem Pr.cells_eq (p : Pr) : Enc.cells p = [iv p.1, iv p.2] := rfl
theorem ahead_c (p q : Pr) (H : AHeap) : APure Try.prog 112 [.agg [iv p.1, iv p.2], .agg [iv q.1, iv q.2]] H (bv (decide (ah p q))) := by
  intro Q h
  refine ACalls.of_code fn_heap_pair_ahead ?_
  simp -implicitDefEqProofs only [sc_heap_pair_ahead, go_sem, seval]
  repeat' (first | simp -implicitDefEqProofs only [go_sem, seval] | simp -implicitDefEqProofs (disch := omega) only [ars, if_pos, exV_some, Option.map_some] | ((with_reducible first | apply exB_dec | apply exB_intro) <;> intro _))
  all_goals
    refine fin_ h (congrArg (fun b => AV.raw (.bool b)) ?_)
    rw [Bool.eq_iff_iff, decide_eq_true_eq]
    unfold ah
    simp [*]

structure HeapAt (H0 H : AHeap) (b : Nat) (l : List Pr) : Prop where
  new : H0 b = none
  base : ∀ b' o, H0 b' = some o → H b' = some o
  at_ : ∃ sv th, H b = some (.cells [sv] th) ∧ ((l = [] ∧ sv = .vec true [] 0) ∨ ∃ b2 cap ex, sv = .raw (.slice (some ⟨b2, 0, none⟩) l.length cap) ∧ H b2 = some (.row (rows l ++ ex) cap 170 2) ∧ b2 ≠ b ∧ H0 b2 = none ∧ l.length ≤ cap)
structure HeapR (H0 H : AHeap) (b b2 cap th : Nat) (ex : List AV) (n : Nat) (l : List Pr) : Prop where
  new : H0 b = none
  base : ∀ b' o, H0 b' = some o → H b' = some o
  hb : H b = some (.cells [.raw (.slice (some ⟨b2, 0, none⟩) n cap)] th)
  hr : H b2 = some (.row (rows l ++ ex) cap 170 2)
  ne : b2 ≠ b
  new2 : H0 b2 = none
  le : l.length ≤ cap
theorem HeapR.at_ {H0 H : AHeap} {b b2 cap th : Nat} {ex : List AV} {l : List Pr} (h : HeapR H0 H b b2 cap th ex l.length l) : HeapAt H0 H b l :=
  ⟨h.new, h.base, _, th, h.hb, .inr ⟨b2, cap, ex, rfl, h.hr, h.ne, h.new2, h.le⟩⟩
theorem HeapR.set {H0 H : AHeap} {b b2 cap th n : Nat} {ex : List AV} {l l' : List Pr} (h : HeapR H0 H b b2 cap th ex n l) (hl : l'.length = l.length) : HeapR H0 (upd H b2 (some (.row (rows l' ++ ex) cap 170 2))) b b2 cap th ex n l' := by
  refine ⟨h.new, fun b' o ho => ?_, ?_, upd_self _ _ _, h.ne, h.new2, by rw [hl]; exact h.le⟩
  · rw [upd_ne _ _ (by rintro rfl; rw [h.new2] at ho; cases ho)]
    exact h.base b' o ho
  · rw [upd_ne _ _ h.ne]; exact h.hb
theorem upd_upd {H : AHeap} {b : Nat} {x y : Option HObj} : upd (upd H b x) b y = upd H b y := by
  funext z
  simp only [upd]
  split <;> rfl
theorem row2_set {l : List Pr} {ex : List AV} {i : Int} (h0 : 0 ≤ i) (h1 : i < l.length) (x : Pr) : (rows l ++ ex).take (i.toNat * 2) ++ [iv x.1, iv x.2] ++ (rows l ++ ex).drop (i.toNat * 2 + 2) = rows (l.set i.toNat x) ++ ex := by
  have := setA_rowx (l := l) (ex := ex) (i := i) (n := 2) Pr.sz_eq.symm x h0 h1 (Pr.cells_eq x).symm
  rw [← this, setA_eq _ _ _ (by simp [rows_length, Pr.sz_eq]; omega)]
  rfl
theorem rd_pair {l : List Pr} {ex : List AV} {i : Int} (h0 : 0 ≤ i) (h1 : i < l.length) : rdV (rows l ++ ex) (i.toNat * 2) 2 true = some (.agg [iv (gi l i).1, iv (gi l i).2]) := rd_rowx (n := 2) Pr.sz_eq.symm h0 h1
theorem rowx_length (l : List Pr) (ex : List AV) : (rows l ++ ex).length = l.length * 2 + ex.length := by rw [List.length_append, rows_length, Pr.sz_eq]

theorem hapK_pos {e sz by_ n cap m : Nat} {ob : Option Nat} {pre ds : List AV} {nly : Bool} {x : SV} {dst : Option Nat} {s : S} {K : S → Prop} (h1 : ds.length = m * sz) (h2 : (n + m) * by_ ≤ 140737488355328) (h3 : n + m ≤ maxLen) (hm : 0 < m)
    (k : ∀ b cap', ob = some b ∨ s.H b = none → n + m ≤ cap' → K ((s.newhd ob b (.row (pre ++ ds) cap' e sz)).put dst (.v (.raw (.slice (some ⟨b, 0, none⟩) (n + m) cap'))))) : hapK e sz by_ (some (ob, n, cap, pre)) x (.v (.vec nly ds m)) dst s K :=
  ⟨h1, h2, h3, fun h => by omega, fun _ => k⟩

theorem HeapAt.pre {H0 H : AHeap} {b : Nat} {l : List Pr} (h : HeapAt H0 H b l) : ∃ sv th ob cap, H b = some (.cells [sv] th) ∧ hpre H 170 2 (.v sv) = some (ob, l.length, cap, rows l) ∧ ∀ b', ob = some b' → b' ≠ b ∧ H0 b' = none := by
  obtain ⟨h1, h2, sv, th, hb, ⟨rfl, rfl⟩ | ⟨b2, cap, ex, rfl, h3, h4, h5, h6⟩⟩ := h
  · exact ⟨_, th, none, 0, hb, rfl, by simp⟩
  · refine ⟨_, th, some b2, cap, hb, ?_, ?_⟩
    · simp only [hpre, h3]
      rw [if_pos (by rw [rowx_length]; simp only [true_and]; omega)]
      congr 4
      have := rows_length l
      rw [Pr.sz_eq] at this
      rw [← this, List.take_left']
      rfl
    · intro b' hb'
      injection hb' with hb'
      subst hb'
      exact ⟨h4, h5⟩

theorem push_c (H0 H : AHeap) (b : Nat) (l : List Pr) (x : Pr) (hl : l.length ≤ 1099511627776) (hh : HeapAt H0 H b l) (hp : IsHeap l) :
    ACalls Try.prog 98 [.raw (.pointer (some ⟨b, 0, none⟩)), iv x.1, iv x.2] H fun r H' => r = .tup [] ∧ ∃ l', l'.Perm (x :: l) ∧ IsHeap l' ∧ HeapAt H0 H' b l' := by
  obtain ⟨sv, th, ob, cap0, hb, hpr, hob⟩ := hh.pre
  have hnew := hh.new
  have hbase := hh.base
  refine ACalls.of_code fn_heap_Heap_Push ?_
  simp -implicitDefEqProofs only [sc_heap_Heap_Push, go_sem, seval]
  repeat' (first | simp -implicitDefEqProofs only [go_sem, seval] | simp -implicitDefEqProofs (disch := omega) only [hb, ars, if_pos, exV_some, Option.map_some] | ((with_reducible first | apply exB_dec | apply exB_intro) <;> intro _))
  rw [hpr]
  refine hapK_pos rfl (by omega) (by simp only [maxLen]; omega) (by omega) ?_
  intro b2 cap hb2 hcap
  simp only [S.newhd]
  obtain ⟨H1, hH1⟩ : ∃ H1, H1 = upd (delH H ob) b2 (some (.row (rows l ++ [iv x.1, iv x.2]) cap 170 2)) := ⟨_, rfl⟩
  rw [← hH1]
  have hne : b2 ≠ b := by
    rcases hb2 with hb2 | hb2
    · exact (hob b2 hb2).1
    · rintro rfl; simp only at hb2; rw [hb] at hb2; cases hb2
  have hn2 : H0 b2 = none := by
    rcases hb2 with hb2 | hb2
    · exact (hob b2 hb2).2
    · cases hq : H0 b2 with
      | none => rfl
      | some o => simp only at hb2; rw [hbase b2 o hq] at hb2; cases hb2
  have hdel : ∀ b' o, H b' = some o → (∀ b0, ob = some b0 → b0 ≠ b') → delH H ob b' = some o := by
    intro b' o ho hh
    cases ob with
    | none => exact ho
    | some b0 => exact (upd_ne _ _ (hh b0 rfl)).trans ho
  have h1b : H1 b = some (.cells [sv] th) := by
    rw [hH1, upd_ne _ _ hne]
    exact hdel b _ hb fun b0 h0 => (hob b0 h0).1
  have h1r : H1 b2 = some (.row (rows (l ++ [x]) ++ []) cap 170 2) := by
    rw [hH1, upd_self, rows_append, rows_one, List.append_nil]; rfl
  have base1 : ∀ b' o, H0 b' = some o → H1 b' = some o := by
    intro b' o ho
    rw [hH1, upd_ne _ _ (by rintro rfl; rw [hn2] at ho; cases ho)]
    refine hdel b' o (hbase b' o ho) fun b0 h0 => ?_
    rintro rfl
    rw [(hob b0 h0).2] at ho; cases ho
  obtain ⟨ex, hex⟩ : ∃ ex : List AV, ex = [] := ⟨_, rfl⟩
  rw [← hex] at h1r
  have hR : HeapR H0 (upd H1 b (some (.cells [.raw (.slice (some ⟨b2, 0, none⟩) (l.length + 1) cap)] th))) b b2 cap th ex (l.length + 1) (l ++ [x]) := by
    refine ⟨hnew, fun b' o ho => ?_, upd_self _ _ _, by rw [upd_ne _ _ (Ne.symm hne)]; exact h1r, hne, hn2, by simpa using hcap⟩
    rw [upd_ne _ _ (by rintro rfl; rw [hnew] at ho; cases ho)]
    exact base1 b' o ho
  have hU : UpAt (l ++ [x]) l.length := by
    refine ⟨fun k k0 k1 hk => ?_, fun h0 k k0 k1 hk => ?_⟩
    · simp at k1
      have e1 : gi (l ++ [x]) k = gi l k := by rw [gi_get (by simp; omega), gi_get (by omega), List.getElem_append_left]
      have e2 : gi (l ++ [x]) ((k - 1) / 2) = gi l ((k - 1) / 2) := by rw [gi_get (by simp; omega), gi_get (by omega), List.getElem_append_left]
      rw [e1, e2]
      exact hp k k0 (by omega)
    · simp at k1
      omega
  clear hH1 hdel hob hb2 hpr hb hbase hh
  simp -implicitDefEqProofs only [go_sem, seval]
  repeat' (first | simp -implicitDefEqProofs only [go_sem, seval] | simp -implicitDefEqProofs (disch := omega) only [h1b, ars, if_pos, exV_some, Option.map_some] | ((with_reducible first | apply exB_dec | apply exB_intro) <;> intro _))
  refine exL_modH (fun a : Int × List Pr × AHeap => [(6, .v (iv a.1))]) (fun _ => []) (fun a => a.2.2)
    (fun a => 0 ≤ a.1 ∧ a.1 < a.2.1.length ∧ a.2.1.length = l.length + 1 ∧ UpAt a.2.1 a.1 ∧ a.2.1.Perm (l ++ [x]) ∧ HeapR H0 a.2.2 b b2 cap th ex (l.length + 1) a.2.1) (fun a => a.1.toNat) (_, l ++ [x], _) rfl
    ⟨by dsimp only; omega, by dsimp only; simp; omega, by simp, by simpa using hU, .refl _, hR⟩ ?_
  rintro ⟨i, l', H'⟩ ⟨h0, h1, hlen, hU', hP, hR'⟩ ih
  dsimp only at h0 h1 hlen hU' hP hR' ih
  simp only [S.up, S.upH, ups, Abs.put, Nat.reduceEqDiff, ↓reduceIte, Nat.reduceAdd] at ih
  obtain ⟨-, -, hb', hr', -, -, -⟩ := id hR'
  simp -implicitDefEqProofs only [congrArg KI.code sc_heap_Heap_Push_L0.eq_1, go_sem, seval]
  have fin : IsHeap l' → (∃ l', l'.Perm (x :: l) ∧ IsHeap l' ∧ HeapAt H0 H' b l') := fun hh => ⟨l', hP.trans (List.perm_append_singleton x l), hh, by rw [← hlen] at hR'; exact hR'.at_⟩
  have s1 := fun (u0 : 0 < i) => row2_set (l := l') (ex := ex) (i := i) h0 h1 (gi l' ((i - 1) / 2))
  have s2 := fun (u0 : 0 < i) => row2_set (l := l'.set i.toNat (gi l' ((i - 1) / 2))) (ex := ex) (i := (i - 1) / 2) (by omega) (by simp; omega) (gi l' i)
  repeat' (first | simp -implicitDefEqProofs only [go_sem, seval] | simp -implicitDefEqProofs (disch := omega) only [hb', hr', rd_pair, rowx_length, s1, s2, List.length_set, upd_upd, ars, if_pos, exV_some, Option.map_some] | ((with_reducible first | apply exB_dec | apply exB_intro) <;> intro _) | with_reducible refine exC_pure (ahead_c _ _ _) ?_ | with_reducible refine exCq_pure (ahead_c _ _ _) ?_)
  · exact fin (up_end hU' (.inr (by assumption)))
  · have i0 : 0 < i := by assumption
    have hst := up_step hU' i0 h1 (by simpa using ‹¬¬ah (gi l' i) (gi l' ((i - 1) / 2))›)
    have hl := swapL_length l' i ((i - 1) / 2)
    exact ih ((i - 1) / 2, swapL l' i ((i - 1) / 2), upd H' b2 (some (.row (rows (swapL l' i ((i - 1) / 2)) ++ ex) cap 170 2)))
      ⟨by dsimp only; omega, by dsimp only; omega, by dsimp only; omega, hst, (swapL_perm h0 h1 (by omega) (by omega)).trans hP, hR'.set hl⟩ (by dsimp only; omega)
  · exact fin (up_end hU' (.inl (by omega)))

theorem len_c (H : AHeap) (b b2 n cap th : Nat) (hb : H b = some (.cells [.raw (.slice (some ⟨b2, 0, none⟩) n cap)] th)) : APure Try.prog 113 [.raw (.pointer (some ⟨b, 0, none⟩))] H (iv n) := by
  intro Q h
  refine ACalls.of_code fn_heap_Heap_Len ?_
  simp -implicitDefEqProofs only [sc_heap_Heap_Len, go_sem, seval]
  repeat' (first | simp -implicitDefEqProofs only [go_sem, seval] | simp -implicitDefEqProofs (disch := omega) only [hb, ars, if_pos, exV_some, Option.map_some] | ((with_reducible first | apply exB_dec | apply exB_intro) <;> intro _))
  exact h
theorem len0_c (H : AHeap) (b th : Nat) (hb : H b = some (.cells [.vec true [] 0] th)) : APure Try.prog 113 [.raw (.pointer (some ⟨b, 0, none⟩))] H (iv 0) := by
  intro Q h
  refine ACalls.of_code fn_heap_Heap_Len ?_
  simp -implicitDefEqProofs only [sc_heap_Heap_Len, go_sem, seval]
  repeat' (first | simp -implicitDefEqProofs only [go_sem, seval] | simp -implicitDefEqProofs (disch := omega) only [hb, ars, if_pos, exV_some, Option.map_some] | ((with_reducible first | apply exB_dec | apply exB_intro) <;> intro _))
  exact h
theorem least_c (H : AHeap) (b b2 n cap cap' th : Nat) (ex : List AV) (l : List Pr) (hn : n = l.length) (hl : l.length ≤ 1099511627776) (hb : H b = some (.cells [.raw (.slice (some ⟨b2, 0, none⟩) n cap)] th)) (hr : H b2 = some (.row (rows l ++ ex) cap' 170 2)) (i : Int) (i0 : 0 ≤ i) (i1 : i < 1099511627776) :
    APure Try.prog 114 [.raw (.pointer (some ⟨b, 0, none⟩)), iv i] H (iv (leastOf l i)) := by
  subst hn
  intro Q h
  refine ACalls.of_code fn_heap_Heap_least ?_
  simp -implicitDefEqProofs only [sc_heap_Heap_least, go_sem, seval]
  repeat' (first | simp -implicitDefEqProofs only [go_sem, seval] | simp -implicitDefEqProofs (disch := omega) only [ars, if_pos, exV_some, Option.map_some] | ((with_reducible first | apply exB_dec | apply exB_intro) <;> intro _))
  refine exL_mod (fun a : Int × Int => [(5, .v (iv a.1)), (6, .v (iv a.2))]) (fun _ => [])
    (fun a => 2 * i + 1 ≤ a.2 ∧ a.2 ≤ 2 * i + 3 ∧ (0 ≤ a.1 ∧ (i < l.length → a.1 < l.length)) ∧ (a.2 = 2 * i + 1 → a.1 = i) ∧ (a.2 = 2 * i + 2 → a.1 = if 2 * i + 1 < l.length ∧ ah (gi l (2 * i + 1)) (gi l i) then 2 * i + 1 else i) ∧ (a.2 = 2 * i + 3 → a.1 = leastOf l i)) (fun a => (2 * i + 3 - a.2).toNat) (i, 2 * i + 1) rfl
    ⟨by simp, by simp, by simp [i0], by simp, by simp, by simp⟩ ?_
  rintro ⟨m, k⟩ ⟨k0, k1, ⟨m0, m1⟩, c1, c2, c3⟩ ih
  dsimp only at k0 k1 m0 m1 c1 c2 c3 ih
  simp only [S.up, S.upH, ups, Abs.put, Nat.reduceEqDiff, ↓reduceIte, Nat.reduceAdd] at ih
  simp -implicitDefEqProofs only [congrArg KI.code sc_heap_Heap_least_L0.eq_1, go_sem, seval]
  repeat' (first | simp -implicitDefEqProofs only [go_sem, seval] | simp -implicitDefEqProofs (disch := omega) only [hb, hr, rd_pair, rowx_length, ars, if_pos, exV_some, Option.map_some] | ((with_reducible first | apply exB_dec | apply exB_intro) <;> intro _) | with_reducible refine exC_pure (ahead_c _ _ _) ?_ | with_reducible refine exCq_pure (ahead_c _ _ _) ?_)
  · refine ih (k, k + 1) ⟨by dsimp only; omega, by dsimp only; omega, ⟨by dsimp only; omega, fun _ => by dsimp only; omega⟩, fun hh => by dsimp only at hh; omega, fun hh => ?_, fun hh => ?_⟩ (by dsimp only; omega)
    · dsimp only at hh ⊢
      obtain rfl : k = 2 * i + 1 := by omega
      rw [c1 rfl] at *
      rw [if_pos ⟨by assumption, by assumption⟩]
    · dsimp only at hh ⊢
      obtain rfl : k = 2 * i + 2 := by omega
      rw [leastOf, ← c2 rfl, if_pos ⟨by assumption, by assumption⟩]
  · have hna : ¬ ah (gi l k) (gi l m) := by assumption
    refine ih (m, k + 1) ⟨by dsimp only; omega, by dsimp only; omega, ⟨m0, m1⟩, fun hh => by dsimp only at hh; omega, fun hh => ?_, fun hh => ?_⟩ (by dsimp only; omega)
    · dsimp only at hh ⊢
      obtain rfl : k = 2 * i + 1 := by omega
      rw [c1 rfl] at hna ⊢
      rw [if_neg fun hx => hna hx.2]
    · dsimp only at hh ⊢
      obtain rfl : k = 2 * i + 2 := by omega
      rw [leastOf, ← c2 rfl, if_neg fun hx => hna hx.2]
  · refine fin_ h ?_
    congr 1
    rcases (show k = 2 * i + 1 ∨ k = 2 * i + 2 by omega) with rfl | rfl
    · rw [c1 rfl, leastOf, if_neg fun hx => by omega, if_neg fun hx => by omega]
    · rw [leastOf, ← c2 rfl, if_neg fun hx => by omega]
  · exact fin_ h (by rw [c3 (by omega)])

theorem pop_none_c (H0 H : AHeap) (b : Nat) (hh : HeapAt H0 H b []) : APure Try.prog 99 [.raw (.pointer (some ⟨b, 0, none⟩))] H (.tup [iv 0, iv 0, bv false]) := by
  obtain ⟨hnew, hbase, sv, th, hb, ⟨-, rfl⟩ | ⟨b2, cap, ex, rfl, hr, hne, hn2, hle⟩⟩ := hh
  · intro Q h
    refine ACalls.of_code fn_heap_Heap_Pop ?_
    simp -implicitDefEqProofs only [sc_heap_Heap_Pop, go_sem, seval]
    refine exC_pure (len0_c H b th hb) ?_
    repeat' (first | simp -implicitDefEqProofs only [go_sem, seval] | simp -implicitDefEqProofs (disch := omega) only [ars, if_pos, exV_some, Option.map_some] | ((with_reducible first | apply exB_dec | apply exB_intro) <;> intro _))
    exact h
  · intro Q h
    refine ACalls.of_code fn_heap_Heap_Pop ?_
    simp -implicitDefEqProofs only [sc_heap_Heap_Pop, go_sem, seval]
    refine exC_pure (len_c H b b2 0 cap th hb) ?_
    repeat' (first | simp -implicitDefEqProofs only [go_sem, seval] | simp -implicitDefEqProofs (disch := omega) only [ars, if_pos, exV_some, Option.map_some] | ((with_reducible first | apply exB_dec | apply exB_intro) <;> intro _))
    exact h
theorem pop_c (H0 H : AHeap) (b : Nat) (l : List Pr) (hl : l.length ≤ 1099511627776) (hl0 : l ≠ []) (hh : HeapAt H0 H b l) (hp : IsHeap l) :
    ACalls Try.prog 99 [.raw (.pointer (some ⟨b, 0, none⟩))] H fun r H' => ∃ (p : Pr) (l' : List Pr), r = .tup [iv p.1, iv p.2, bv true] ∧ l.Perm (p :: l') ∧ IsHeap l' ∧ (∀ q ∈ l, ¬ ah q p) ∧ HeapAt H0 H' b l' := by
  obtain ⟨hnew, hbase, sv, th, hb, ⟨e, -⟩ | ⟨b2, cap, ex, rfl, hr, hne, hn2, hle⟩⟩ := hh
  · exact absurd e hl0
  have hpos : 0 < l.length := List.length_pos_iff.2 hl0
  refine ACalls.of_code fn_heap_Heap_Pop ?_
  simp -implicitDefEqProofs only [sc_heap_Heap_Pop, go_sem, seval]
  refine exC_pure (len_c H b b2 l.length cap th hb) ?_
  have r0 := rd_pair (l := l) (ex := ex) (i := 0) (by omega) (by omega)
  rw [show (0 : Int).toNat * 2 = 0 from rfl] at r0
  repeat' (first | simp -implicitDefEqProofs only [go_sem, seval] | simp -implicitDefEqProofs (disch := omega) only [hb, hr, r0, rd_pair, ars, if_pos, exV_some, Option.map_some] | ((with_reducible first | apply exB_dec | apply exB_intro) <;> intro _))
  · omega
  rw [if_pos (by rw [rowx_length]; omega)]
  repeat' (first | simp -implicitDefEqProofs only [go_sem, seval] | simp -implicitDefEqProofs (disch := omega) only [ars, if_pos, exV_some, Option.map_some] | ((with_reducible first | apply exB_dec | apply exB_intro) <;> intro _))
  obtain ⟨q, hq⟩ : ∃ q, q = gi l (l.length - 1) := ⟨_, rfl⟩
  rw [← hq]
  have e0 : iv q.1 :: iv q.2 :: List.drop 2 (rows l ++ ex) = rows (l.set 0 q) ++ ex := by
    have := row2_set (l := l) (ex := ex) (i := 0) (by omega) (by omega) q
    simpa using this
  rw [e0]
  obtain ⟨l2, hl2⟩ : ∃ l2, l2 = (l.set 0 q).take (l.length - 1) := ⟨_, rfl⟩
  obtain ⟨ex2, hex2⟩ : ∃ ex2, ex2 = rows ((l.set 0 q).drop (l.length - 1)) ++ ex := ⟨_, rfl⟩
  have e1 : rows (l.set 0 q) ++ ex = rows l2 ++ ex2 := by
    rw [hl2, hex2, ← List.append_assoc, ← rows_append, List.take_append_drop]
  rw [e1]
  have l2l : l2.length = l.length - 1 := by rw [hl2]; simp
  obtain ⟨H1, hH1⟩ : ∃ H1, H1 = upd H b2 (some (.row (rows l2 ++ ex2) cap 170 2)) := ⟨_, rfl⟩
  rw [← hH1]
  have h1b : H1 b = some (.cells [.raw (.slice (some ⟨b2, 0, none⟩) l.length cap)] th) := by rw [hH1, upd_ne _ _ hne]; exact hb
  have h1r : H1 b2 = some (.row (rows l2 ++ ex2) cap 170 2) := by rw [hH1, upd_self]
  repeat' (first | simp -implicitDefEqProofs only [go_sem, seval] | simp -implicitDefEqProofs (disch := omega) only [h1b, h1r, ars, if_pos, exV_some, Option.map_some] | ((with_reducible first | apply exB_dec | apply exB_intro) <;> intro _))
  rw [if_neg (by omega), show ((l.length : Int) - 1).toNat - 0 = l.length - 1 by omega, show (cap : Int).toNat - 0 = cap by omega]
  repeat' (first | simp -implicitDefEqProofs only [go_sem, seval] | simp -implicitDefEqProofs (disch := omega) only [h1b, ars, if_pos, exV_some, Option.map_some] | ((with_reducible first | apply exB_dec | apply exB_intro) <;> intro _))
  obtain ⟨H2, hH2⟩ : ∃ H2, H2 = upd H1 b (some (.cells [.raw (.slice (some ⟨b2, 0, none⟩) (l.length - 1) cap)] th)) := ⟨_, rfl⟩
  rw [← hH2]
  have hR : HeapR H0 H2 b b2 cap th ex2 (l.length - 1) l2 := by
    refine ⟨hnew, fun b' o ho => ?_, by rw [hH2, upd_self], by rw [hH2, upd_ne _ _ (Ne.symm hne)]; exact h1r, hne, hn2, by omega⟩
    rw [hH2, upd_ne _ _ (by rintro rfl; rw [hnew] at ho; cases ho), hH1, upd_ne _ _ (by rintro rfl; rw [hn2] at ho; cases ho)]
    exact hbase b' o ho
  have gl2 : ∀ k : Int, 0 ≤ k → k < l2.length → gi l2 k = if k = 0 then q else gi l k := by
    intro k k0 k1
    have : gi l2 k = gi (l.set 0 q) k := by
      rw [gi_get (by omega), gi_get (by simp; omega)]
      subst hl2
      rw [List.getElem_take]
    rw [this]
    exact gi_set (i := 0) (by omega) (by omega) k0
  have hD : DownAt l2 0 := by
    refine ⟨fun k k0 k1 hk => ?_, fun h => by omega⟩
    rw [gl2 k (by omega) k1, gl2 _ (by omega) (by omega), if_neg (by omega), if_neg hk]
    exact hp k k0 (by omega)
  have hperm : l.Perm (gi l 0 :: l2) := by
    rw [hl2, hq]
    exact pop_perm l hpos
  clear hH1 hH2 h1b h1r hl2 hex2 e0 e1 gl2
  refine exL_modH (fun a : Int × List Pr × AHeap => [(7, .v (iv a.1))]) (fun _ => []) (fun a => a.2.2)
    (fun a => 0 ≤ a.1 ∧ (a.1 = 0 ∨ a.1 < l2.length) ∧ a.2.1.length = l2.length ∧ DownAt a.2.1 a.1 ∧ a.2.1.Perm l2 ∧ HeapR H0 a.2.2 b b2 cap th ex2 (l.length - 1) a.2.1) (fun a => (l2.length - a.1).toNat) (0, l2, H2) rfl
    ⟨by simp, by simp, by simp, hD, .refl _, hR⟩ ?_
  rintro ⟨i, l', H'⟩ ⟨h0, h1, hlen, hD', hP, hR'⟩ ih
  dsimp only at h0 h1 hlen hD' hP hR' ih
  simp only [S.up, S.upH, ups, Abs.put, Nat.reduceEqDiff, ↓reduceIte, Nat.reduceAdd] at ih
  obtain ⟨-, -, hb', hr', -, -, -⟩ := id hR'
  simp -implicitDefEqProofs only [congrArg KI.code sc_heap_Heap_Pop_L0.eq_1, go_sem, seval]
  refine exC_pure (least_c H' b b2 (l.length - 1) cap cap th ex2 l' (by omega) (by omega) hb' hr' i h0 (by omega)) ?_
  by_cases hn : leastOf l' i = i
  · repeat' (first | simp -implicitDefEqProofs only [go_sem, seval] | simp -implicitDefEqProofs (disch := omega) only [ars, if_pos, exV_some, Option.map_some] | ((with_reducible first | apply exB_dec | apply exB_intro) <;> intro _))
    all_goals first | contradiction | skip
    refine ⟨gi l 0, l', rfl, hperm.trans (hP.symm.cons _), down_end hD' h0 (.inr hn), heap_min hp, ?_⟩
    rw [show l.length - 1 = l'.length by omega] at hR'
    exact hR'.at_
  · have hi : i < l'.length := by
      rcases h1 with rfl | h1
      · by_cases hz : (l'.length : Int) ≤ 1
        · exact absurd (leastOf_out l' 0 (by omega)) hn
        · omega
      · omega
    obtain ⟨hst, p1, p2, p3⟩ := down_step hD' h0 hi hn
    have s1 := row2_set (l := l') (ex := ex2) (i := i) h0 hi (gi l' (leastOf l' i))
    have s2 := row2_set (l := l'.set i.toNat (gi l' (leastOf l' i))) (ex := ex2) (i := leastOf l' i) (by omega) (by simp; omega) (gi l' i)
    have hl := swapL_length l' i (leastOf l' i)
    repeat' (first | simp -implicitDefEqProofs only [go_sem, seval] | simp -implicitDefEqProofs (disch := omega) only [hb', hr', rd_pair, rowx_length, s1, s2, List.length_set, upd_upd, ars, if_pos, exV_some, Option.map_some] | ((with_reducible first | apply exB_dec | apply exB_intro) <;> intro _))
    all_goals first | contradiction | skip
    exact ih (leastOf l' i, swapL l' i (leastOf l' i), upd H' b2 (some (.row (rows (swapL l' i (leastOf l' i)) ++ ex2) cap 170 2)))
      ⟨by dsimp only; omega, by dsimp only; omega, by dsimp only; omega, hst, (swapL_perm h0 hi (by omega) p2).trans hP, hR'.set hl⟩ (by dsimp only; omega)
end Go.Proofs.Ytejmcijcdhoogaa
end

section
namespace Go.Proofs.Ytejmcijcdhoogaa
open Go Abs
attribute [local irreducible] EX exL exG exC exCq exS exV exIf exGd exGq exB
set_option maxHeartbeats 800000

def LinksAt (H H' : AHeap) (sv : AV) (l : List Link) : Prop := (∀ b o, H b = some o → H' b = some o) ∧ ((l = [] ∧ sv = .vec true [] 0) ∨ ∃ b cap, sv = .raw (.slice (some ⟨b, 0, none⟩) l.length cap) ∧ H' b = some (.row (rows l) cap 48 4) ∧ H b = none ∧ l.length ≤ cap)
theorem LinksAt.pre {H H' : AHeap} {sv : AV} {l : List Link} (h : LinksAt H H' sv l) : ∃ ob cap, hpre H' 48 4 (.v sv) = some (ob, l.length, cap, rows l) ∧ ∀ b, ob = some b → H b = none := by
  obtain ⟨-, ⟨rfl, rfl⟩ | ⟨b, cap, rfl, h1, h2, h3⟩⟩ := h
  · exact ⟨none, 0, rfl, by simp⟩
  · refine ⟨some b, cap, ?_, ?_⟩
    · have hr := rows_length l
      rw [Link.sz_eq] at hr
      simp only [hpre, h1]
      rw [if_pos (by simp only [true_and]; omega), ← hr, List.take_length]
    · rintro b' hb; injection hb with hb; rw [← hb]; exact h2
end Go.Proofs.Ytejmcijcdhoogaa
end

section
namespace Go.Proofs.Ytejmcijcdhoogaa
open Go Abs
attribute [local irreducible] EX exL exG exC exCq exS exV exIf exGd exGq exB

def upE (down : List Bool) (e : Int) : Bool := !(decide (e / 2 < down.length) && gi down (e / 2))
def wt (g : Graph) (e : Int) : Int := (gi g.links (e / 2)).metric
inductive Walk (g : Graph) (down : List Bool) (s : Int) : Int → Int → Prop
  | nil : Walk g down s s 0
  | step {a L e : Int} : Walk g down s a L → 0 ≤ e → e < 2 * g.links.length → upE down e = true → (ends g e).1 = a → Walk g down s (ends g e).2.1 (L + wt g e)

structure Fit (g : Graph) : Prop where
  ok : (check g).2 = 0
  few : g.links.length ≤ 120
  n1 : 1 ≤ g.nodes
  n2 : g.nodes ≤ 40
  w : ∀ e : Int, 0 ≤ e → e < 2 * g.links.length → 1 ≤ wt g e ∧ wt g e ≤ 16777216
  b : ∀ e : Int, 0 ≤ e → e < 2 * g.links.length → (0 ≤ (ends g e).1 ∧ (ends g e).1 < g.nodes) ∧ (0 ≤ (ends g e).2.1 ∧ (ends g e).2.1 < g.nodes)
theorem fit_of (g : Graph) (h : (check g).2 = 0) : Fit g := by
  obtain ⟨c1, c2, c3, c4⟩ := check_ok g h
  have hl : ∀ x ∈ g.links, linkErr g x = 0 := by
    have h' := h
    rw [check] at h'
    split at h'
    · simp at h'
    split at h'
    · simp at h'
    exact checkFrom_ok g _ _ h'
  have hm : ∀ e : Int, 0 ≤ e → e < 2 * g.links.length → gi g.links (e / 2) ∈ g.links := fun e h0 h1 => gi_mem (by omega) (by omega)
  refine ⟨h, c1, c2, c3, fun e h0 h1 => ?_, fun e h0 h1 => ⟨ends_in g h e h0 h1, ?_⟩⟩
  · have := hl _ (hm e h0 h1)
    rw [linkErr] at this
    split at this
    · omega
    split at this
    · omega
    · unfold wt; omega
  · have := c4 _ (hm e h0 h1)
    unfold ends
    rw [if_neg (by omega)]
    split
    · exact this.1
    · exact this.2
theorem Walk.nonneg {g : Graph} (hf : Fit g) {down : List Bool} {s v L : Int} (h : Walk g down s v L) : 0 ≤ L := by
  induction h with
  | nil => omega
  | step _ h0 h1 _ _ ih => have := (hf.w _ h0 h1).1; omega
theorem Walk.node {g : Graph} (hf : Fit g) {down : List Bool} {s v L : Int} (hs : 0 ≤ s ∧ s < g.nodes) (h : Walk g down s v L) : 0 ≤ v ∧ v < g.nodes := by
  induction h with
  | nil => exact hs
  | step _ h0 h1 _ _ _ => exact (hf.b _ h0 h1).2

structure IsDist (g : Graph) (down : List Bool) (s : Int) (d : List Int) : Prop where
  len : (d.length : Int) = g.nodes
  neg : ∀ v : Int, 0 ≤ v → v < g.nodes → gi d v < 0 → gi d v = -1
  way : ∀ v : Int, 0 ≤ v → v < g.nodes → 0 ≤ gi d v → Walk g down s v (gi d v)
  least : ∀ v L : Int, Walk g down s v L → 0 ≤ gi d v ∧ gi d v ≤ L
theorem IsDist.unique {g : Graph} {down : List Bool} {s : Int} {d d' : List Int} (h : IsDist g down s d) (h' : IsDist g down s d') : d = d' := by
  apply List.ext_getElem
  · have := h.len; have := h'.len; omega
  intro i h1 h2
  have e1 : d[i] = gi d (i : Int) := by rw [gi_get (by omega)]; simp
  have e2 : d'[i] = gi d' (i : Int) := by rw [gi_get (by omega)]; simp
  rw [e1, e2]
  have hi : (i : Int) < g.nodes := by have := h.len; omega
  by_cases p : 0 ≤ gi d i
  · have a := h'.least _ _ (h.way i (by omega) hi p)
    have b := h.least _ _ (h'.way i (by omega) hi a.1)
    omega
  · by_cases q : 0 ≤ gi d' i
    · have b := h.least _ _ (h'.way i (by omega) hi q)
      omega
    · rw [h.neg i (by omega) hi (by omega), h'.neg i (by omega) hi (by omega)]
open Classical in
noncomputable def distL (g : Graph) (down : List Bool) (s : Int) : List Int := if h : ∃ d, IsDist g down s d then h.choose else []
theorem distL_eq {g : Graph} {down : List Bool} {s : Int} {d : List Int} (h : IsDist g down s d) : distL g down s = d := by
  have hx : ∃ d, IsDist g down s d := ⟨d, h⟩
  unfold distL
  rw [dif_pos hx]
  exact hx.choose_spec.unique h

def unset (d : List Int) : Nat := d.count (-1)
structure DInv (g : Graph) (down : List Bool) (s : Int) (d : List Int) (l : List Pr) : Prop where
  len : (d.length : Int) = g.nodes
  way : ∀ v : Int, 0 ≤ v → v < g.nodes → gi d v = -1 ∨ (0 ≤ gi d v ∧ Walk g down s v (gi d v))
  heap : ∀ p ∈ l, (0 ≤ p.2 ∧ p.2 < g.nodes) ∧ Walk g down s p.2 p.1
  least : ∀ v : Int, 0 ≤ v → v < g.nodes → 0 ≤ gi d v → ∀ L, Walk g down s v L → gi d v ≤ L
  start : 0 ≤ gi d s ∨ ∃ p ∈ l, p.2 = s ∧ p.1 ≤ 0
  key : ∀ p ∈ l, p.1 ≤ 16777216 * (g.nodes - unset d)
  size : l.length + unset d * 240 ≤ 1 + 40 * 240
def Behind (g : Graph) (down : List Bool) (d : List Int) (l : List Pr) (e : Int) : Prop := upE down e = true → 0 ≤ gi d (ends g e).2.1 ∨ ∃ p ∈ l, p.2 = (ends g e).2.1 ∧ p.1 ≤ gi d (ends g e).1 + wt g e
def AllBehind (g : Graph) (down : List Bool) (d : List Int) (l : List Pr) : Prop := ∀ e : Int, 0 ≤ e → e < 2 * g.links.length → 0 ≤ gi d (ends g e).1 → Behind g down d l e

theorem front {g : Graph} (hf : Fit g) {down : List Bool} {s : Int} (hs : 0 ≤ s ∧ s < g.nodes) {d : List Int} {l : List Pr} (h : DInv g down s d l) (hb : AllBehind g down d l) {v L : Int} (hw : Walk g down s v L) : 0 ≤ gi d v ∨ ∃ p ∈ l, p.1 ≤ L := by
  induction hw with
  | nil =>
    rcases h.start with h1 | ⟨p, h1, h2, h3⟩
    · exact .inl h1
    · exact .inr ⟨p, h1, h3⟩
  | @step a L e hw h0 h1 hu ha ih =>
    have hwt := (hf.w e h0 h1).1
    rcases ih with ih | ⟨p, hp, hle⟩
    · have hn := Walk.node hf hs hw
      have hl := h.least a hn.1 hn.2 ih L hw
      rcases hb e h0 h1 (by rw [ha]; exact ih) hu with hh | ⟨p, hp, _, hle⟩
      · exact .inl hh
      · rw [ha] at hle
        exact .inr ⟨p, hp, by omega⟩
    · exact .inr ⟨p, hp, by omega⟩
theorem dinv_end {g : Graph} (hf : Fit g) {down : List Bool} {s : Int} (hs : 0 ≤ s ∧ s < g.nodes) {d : List Int} (h : DInv g down s d []) (hb : AllBehind g down d []) : IsDist g down s d := by
  refine ⟨h.len, fun v h0 h1 hn => ?_, fun v h0 h1 hp => ?_, fun v L hw => ?_⟩
  · rcases h.way v h0 h1 with hh | hh
    · exact hh
    · omega
  · rcases h.way v h0 h1 with hh | hh
    · omega
    · exact hh.2
  · have hn := Walk.node hf hs hw
    rcases front hf hs h hb hw with hh | ⟨p, hp, _⟩
    · exact ⟨hh, h.least v hn.1 hn.2 hh L hw⟩
    · cases hp
theorem unset_set {d : List Int} {k x : Int} (h0 : 0 ≤ k) (h1 : k < d.length) (hn : gi d k = -1) (hx : 0 ≤ x) : unset (d.set k.toNat x) + 1 = unset d := by
  unfold unset
  have hlt : k.toNat < d.length := by omega
  rw [List.count_set hlt]
  have hv : d[k.toNat] = -1 := by rw [← gi_get (by omega)]; exact hn
  have hpos : 0 < d.count (-1) := List.count_pos_iff.2 (by rw [← hv]; exact List.getElem_mem _)
  rw [hv]
  have : ¬ x = -1 := by omega
  simp [this]
  omega
theorem perm_cases {l l' : List Pr} {p : Pr} (h : l.Perm (p :: l')) {q : Pr} (hq : q ∈ l) : q = p ∨ q ∈ l' := by
  have := h.mem_iff.1 hq
  simpa using this
theorem dinv_skip {g : Graph} (hf : Fit g) {down : List Bool} {s : Int} {d : List Int} {l l' : List Pr} {p : Pr} (hp : l.Perm (p :: l')) (h : DInv g down s d l) (hb : AllBehind g down d l) (hd : gi d p.2 ≠ -1) : DInv g down s d l' ∧ AllBehind g down d l' := by
  have hm : ∀ q ∈ l', q ∈ l := fun q hq => hp.mem_iff.2 (by simp [hq])
  have hpl : p ∈ l := hp.mem_iff.2 (by simp)
  have hpo : 0 ≤ gi d p.2 := by
    rcases h.way p.2 (h.heap p hpl).1.1 (h.heap p hpl).1.2 with hh | hh
    · exact absurd hh hd
    · exact hh.1
  refine ⟨⟨h.len, h.way, fun q hq => h.heap q (hm q hq), h.least, ?_, fun q hq => h.key q (hm q hq), ?_⟩, fun e h0 h1 ha hu => ?_⟩
  · rcases h.start with hh | ⟨q, hq, h2, h3⟩
    · exact .inl hh
    · rcases perm_cases hp hq with rfl | hq
      · exact .inl (by rw [← h2]; exact hpo)
      · exact .inr ⟨q, hq, h2, h3⟩
  · have := h.size
    have := hp.length_eq
    simp at this
    omega
  · rcases hb e h0 h1 ha hu with hh | ⟨q, hq, h2, h3⟩
    · exact .inl hh
    · rcases perm_cases hp hq with rfl | hq
      · exact .inl (by rw [← h2]; exact hpo)
      · exact .inr ⟨q, hq, h2, h3⟩
structure DMid (g : Graph) (down : List Bool) (s at_ : Int) (d : List Int) (l : List Pr) (k : Nat) : Prop where
  inv : DInv g down s d l
  room : l.length + unset d * 240 + 240 ≤ 1 + 40 * 240 + k
  node : 0 ≤ at_ ∧ at_ < g.nodes
  done : 0 ≤ gi d at_
  keyat : gi d at_ + 16777216 ≤ 16777216 * (g.nodes - unset d)
  old : ∀ e : Int, 0 ≤ e → e < 2 * g.links.length → 0 ≤ gi d (ends g e).1 → ((ends g e).1 ≠ at_ ∨ e ∈ (out g at_).take k) → Behind g down d l e

theorem dmid_start {g : Graph} (hf : Fit g) {down : List Bool} {s : Int} (hs : 0 ≤ s ∧ s < g.nodes) {d : List Int} {l l' : List Pr} {p : Pr} (hp : l.Perm (p :: l')) (hmin : ∀ q ∈ l, ¬ ah q p) (h : DInv g down s d l) (hb : AllBehind g down d l) (hd : gi d p.2 = -1) :
    DMid g down s p.2 (d.set p.2.toNat p.1) l' 0 := by
  have hm : ∀ q ∈ l', q ∈ l := fun q hq => hp.mem_iff.2 (by simp [hq])
  have hpl : p ∈ l := hp.mem_iff.2 (by simp)
  obtain ⟨⟨n0, n1⟩, hw⟩ := h.heap p hpl
  have hlen := h.len
  have hp0 : 0 ≤ p.1 := hw.nonneg hf
  have g1 : ∀ v : Int, 0 ≤ v → gi (d.set p.2.toNat p.1) v = if v = p.2 then p.1 else gi d v := fun v v0 => gi_set n0 (by omega) v0
  have hu := unset_set n0 (by omega) hd hp0
  have hll := hp.length_eq
  simp only [List.length_cons] at hll
  have hsz := h.size
  have hk := h.key p hpl
  have up : ∀ v : Int, 0 ≤ v → 0 ≤ gi d v → 0 ≤ gi (d.set p.2.toNat p.1) v := by
    intro v v0 hv
    rw [g1 v v0]
    split
    · exact hp0
    · exact hv
  refine ⟨⟨by simpa using hlen, fun v v0 v1 => ?_, fun q hq => h.heap q (hm q hq), fun v v0 v1 hv L hL => ?_, ?_, fun q hq => ?_, by omega⟩, by omega, ⟨n0, n1⟩, ?_, ?_, fun e e0 e1 he hor => ?_⟩
  · rw [g1 v v0]
    by_cases e : v = p.2
    · rw [if_pos e, e]; exact .inr ⟨hp0, hw⟩
    · rw [if_neg e]; exact h.way v v0 v1
  · rw [g1 v v0] at hv ⊢
    by_cases e : v = p.2
    · rw [if_pos e]
      subst e
      rcases front hf hs h hb hL with hh | ⟨q, hq, hle⟩
      · omega
      · have := hmin q hq
        unfold ah at this
        omega
    · rw [if_neg e] at hv ⊢
      exact h.least v v0 v1 hv L hL
  · rcases h.start with hh | ⟨q, hq, h2, h3⟩
    · exact .inl (up s hs.1 hh)
    · rcases perm_cases hp hq with rfl | hq
      · exact .inl (by rw [← h2, g1 _ n0, if_pos rfl]; exact hp0)
      · exact .inr ⟨q, hq, h2, h3⟩
  · have := h.key q (hm q hq)
    omega
  · rw [g1 _ n0, if_pos rfl]; exact hp0
  · rw [g1 _ n0, if_pos rfl]; omega
  · rcases hor with hor | hor
    · have hbn := hf.b e e0 e1
      rw [g1 _ hbn.1.1, if_neg hor] at he
      intro hup
      rcases hb e e0 e1 he hup with hh | ⟨q, hq, h2, h3⟩
      · exact .inl (up _ hbn.2.1 hh)
      · rcases perm_cases hp hq with rfl | hq
        · exact .inl (by rw [← h2, g1 _ n0, if_pos rfl]; exact hp0)
        · exact .inr ⟨q, hq, h2, by rw [g1 _ hbn.1.1, if_neg hor]; exact h3⟩
    · simp at hor
theorem take_succ_mem {l : List Int} {k : Nat} (hk : k < l.length) {e : Int} (he : e ∈ l.take (k + 1)) : e ∈ l.take k ∨ e = gi l k := by
  rw [List.take_succ_eq_append_getElem hk] at he
  rcases List.mem_append.1 he with he | he
  · exact .inl he
  · right
    rw [gi_get (by omega)]
    simpa using he
theorem dmid_push {g : Graph} (hf : Fit g) {down : List Bool} {s at_ : Int} {d : List Int} {l l' : List Pr} {k : Nat} (h : DMid g down s at_ d l k) (hk : k < (out g at_).length) (hu : upE down (gi (out g at_) k) = true)
    (hp : l'.Perm ((gi d at_ + wt g (gi (out g at_) k), (ends g (gi (out g at_) k)).2.1) :: l)) : DMid g down s at_ d l' (k + 1) := by
  obtain ⟨e, he⟩ : ∃ e, e = gi (out g at_) k := ⟨_, rfl⟩
  rw [← he] at hu hp
  have hmem : e ∈ out g at_ := by rw [he]; exact gi_mem (by omega) (by omega)
  obtain ⟨e0, e1, e2⟩ := (out_mem g e at_).1 hmem
  have hbn := hf.b e e0 e1
  have hwt := hf.w e e0 e1
  have hol := out_length g at_
  have hfew := hf.few
  have hll := hp.length_eq
  simp only [List.length_cons] at hll
  have hm : ∀ q ∈ l, q ∈ l' := fun q hq => hp.mem_iff.2 (by simp [hq])
  have hx : (gi d at_ + wt g e, (ends g e).2.1) ∈ l' := hp.mem_iff.2 (by simp)
  have hi := h.inv
  have hway : Walk g down s at_ (gi d at_) := by
    rcases hi.way at_ h.node.1 h.node.2 with hh | hh
    · have := h.done; omega
    · exact hh.2
  have hroom := h.room
  have hka := h.keyat
  refine ⟨⟨hi.len, hi.way, fun q hq => ?_, hi.least, ?_, fun q hq => ?_, by omega⟩, by omega, h.node, h.done, h.keyat, fun e' a0 a1 a2 hor => ?_⟩
  · rcases perm_cases hp hq with rfl | hq
    · exact ⟨hbn.2, .step hway e0 e1 hu e2⟩
    · exact hi.heap q hq
  · rcases hi.start with hh | ⟨q, hq, h2, h3⟩
    · exact .inl hh
    · exact .inr ⟨q, hm q hq, h2, h3⟩
  · rcases perm_cases hp hq with rfl | hq
    · dsimp only; omega
    · exact hi.key q hq
  · have old : Behind g down d l e' → Behind g down d l' e' := by
      intro hh hup
      rcases hh hup with hh | ⟨q, hq, h2, h3⟩
      · exact .inl hh
      · exact .inr ⟨q, hm q hq, h2, h3⟩
    rcases hor with hor | hor
    · exact old (h.old e' a0 a1 a2 (.inl hor))
    · rcases take_succ_mem hk hor with hor | rfl
      · exact old (h.old e' a0 a1 a2 (.inr hor))
      · rw [← he]
        intro _
        refine .inr ⟨_, hx, rfl, ?_⟩
        rw [e2]
        exact Int.le_refl _
theorem dmid_skip {g : Graph} {down : List Bool} {s at_ : Int} {d : List Int} {l : List Pr} {k : Nat} (h : DMid g down s at_ d l k) (hk : k < (out g at_).length) (hu : upE down (gi (out g at_) k) = true → 0 ≤ gi d (ends g (gi (out g at_) k)).2.1) : DMid g down s at_ d l (k + 1) := by
  have hroom := h.room
  refine ⟨h.inv, by omega, h.node, h.done, h.keyat, fun e' a0 a1 a2 hor => ?_⟩
  rcases hor with hor | hor
  · exact h.old e' a0 a1 a2 (.inl hor)
  · rcases take_succ_mem hk hor with hor | rfl
    · exact h.old e' a0 a1 a2 (.inr hor)
    · exact fun hup => .inl (hu hup)
theorem dmid_end {g : Graph} {down : List Bool} {s at_ : Int} {d : List Int} {l : List Pr} {k : Nat} (h : DMid g down s at_ d l k) (hk : (out g at_).length ≤ k) : DInv g down s d l ∧ AllBehind g down d l := by
  refine ⟨h.inv, fun e e0 e1 ha => h.old e e0 e1 ha ?_⟩
  by_cases hh : (ends g e).1 = at_
  · right
    rw [List.take_of_length_le hk]
    exact (out_mem g e at_).2 ⟨e0, e1, hh⟩
  · exact .inl hh
theorem gi_replicate (n : Nat) (x v : Int) (h0 : 0 ≤ v) (h1 : v < n) : gi (List.replicate n x) v = x := by
  rw [gi_get (by simp; omega)]; simp
theorem dinv_first {g : Graph} (hf : Fit g) {down : List Bool} {s : Int} (hs : 0 ≤ s ∧ s < g.nodes) : DInv g down s (List.replicate g.nodes.toNat (-1)) [(0, s)] ∧ AllBehind g down (List.replicate g.nodes.toNat (-1)) [(0, s)] := by
  have n2 := hf.n2
  have n1 := hf.n1
  have g1 : ∀ v : Int, 0 ≤ v → v < g.nodes → gi (List.replicate g.nodes.toNat (-1)) v = -1 := fun v v0 v1 => gi_replicate _ _ _ v0 (by omega)
  have hu : unset (List.replicate g.nodes.toNat (-1)) = g.nodes.toNat := by simp [unset]
  refine ⟨⟨by simp; omega, fun v v0 v1 => .inl (g1 v v0 v1), fun q hq => ?_, fun v v0 v1 hv => by rw [g1 v v0 v1] at hv; omega, .inr ⟨(0, s), by simp, rfl, by simp⟩, fun q hq => ?_, ?_⟩, fun e e0 e1 ha => ?_⟩
  · simp only [List.mem_singleton] at hq
    subst hq
    exact ⟨hs, .nil⟩
  · simp only [List.mem_singleton] at hq
    subst hq
    rw [hu]
    dsimp only
    omega
  · rw [hu]
    simp only [List.length_cons, List.length_nil]
    omega
  · rw [g1 _ (hf.b e e0 e1).1.1 (hf.b e e0 e1).1.2] at ha
    omega
theorem dinv_perm {g : Graph} {down : List Bool} {s : Int} {d : List Int} {l l' : List Pr} (h : DInv g down s d l ∧ AllBehind g down d l) (hp : l'.Perm l) : DInv g down s d l' ∧ AllBehind g down d l' := by
  obtain ⟨h, hb⟩ := h
  have hm : ∀ q, q ∈ l' ↔ q ∈ l := fun q => hp.mem_iff
  refine ⟨⟨h.len, h.way, fun q hq => h.heap q ((hm q).1 hq), h.least, ?_, fun q hq => h.key q ((hm q).1 hq), by rw [hp.length_eq]; exact h.size⟩, fun e e0 e1 ha hu => ?_⟩
  · rcases h.start with hh | ⟨q, hq, h2, h3⟩
    · exact .inl hh
    · exact .inr ⟨q, (hm q).2 hq, h2, h3⟩
  · rcases hb e e0 e1 ha hu with hh | ⟨q, hq, h2, h3⟩
    · exact .inl hh
    · exact .inr ⟨q, (hm q).2 hq, h2, h3⟩
theorem nh_nil : IsHeap [] := fun k k0 k1 => by simp at k1; omega
end Go.Proofs.Ytejmcijcdhoogaa
end

section
namespace Go.Proofs.Ytejmcijcdhoogaa
open Go Abs
attribute [local irreducible] EX exL exG exC exCq exS exV exIf exGd exGq exB
set_option maxHeartbeats 400000

theorem graph_right_c (g : Graph) (H : AHeap) : APure Try.prog 88 [g.av] H (bv (decide ((check g).2 = 0))) := by
  intro Q h
  refine ACalls.of_code fn_graph_Right ?_
  simp -implicitDefEqProofs only [sc_graph_Right, Graph.av, go_sem, seval]
  refine exC_pure (check_c g _) ?_
  simp -implicitDefEqProofs only [pairI, go_sem, seval]
  repeat' (first | simp -implicitDefEqProofs only [go_sem, seval] | simp -implicitDefEqProofs (disch := omega) only [ars, if_pos, exV_some, Option.map_some] | ((with_reducible first | apply exB_dec | apply exB_intro) <;> intro _))
  exact h
theorem up_c (nl : Bool) (down : List Bool) (e : Int) (h0 : 0 ≤ e) (h1 : e ≤ 9223372036854775807) (H : AHeap) : APure Try.prog 83 [blv nl down, iv e] H (bv (upE down e)) := by
  intro Q h
  refine ACalls.of_code fn_spf_Up ?_
  simp -implicitDefEqProofs only [sc_spf_Up, blv, go_sem, seval]
  repeat' (first | simp -implicitDefEqProofs only [go_sem, seval] | simp -implicitDefEqProofs (disch := omega) only [ars, if_pos, exV_some, Option.map_some] | ((with_reducible first | apply exB_dec | apply exB_intro) <;> intro _))
  all_goals refine fin_ h (congrArg (fun b => AV.raw (.bool b)) ?_)
  · have : ¬ e / 2 < (down.length : Int) := by omega
    simp [upE, this]
  · have : e / 2 < (down.length : Int) := by omega
    simp [upE, this]

noncomputable def fromAV (g : Graph) (down : List Bool) (s : Int) : AV := if (check g).2 = 0 ∧ 0 ≤ s ∧ s < g.nodes then .vec false ((distL g down s).map iv) (distL g down s).length else .vec true [] 0

theorem from_c (g : Graph) (nl : Bool) (down : List Bool) (s : Int) (H : AHeap) : APure Try.prog 87 [g.av, blv nl down, iv s] H (fromAV g down s) := by
  intro Q h
  refine ACalls.forget ?_
  refine ACalls.of_code fn_spf_From ?_
  have iss := is_c g s H
  simp only [Graph.av] at iss
  simp -implicitDefEqProofs only [sc_spf_From, Graph.av, blv, go_sem, seval]
  refine exC_pure (graph_right_c g _) ?_
  repeat' (first | simp -implicitDefEqProofs only [go_sem, seval] | simp -implicitDefEqProofs (disch := omega) only [ars, if_pos, exV_some, Option.map_some] | ((with_reducible first | apply exB_dec | apply exB_intro) <;> intro _) | with_reducible refine exC_pure (iss) ?_ | with_reducible refine exCq_pure (iss) ?_)
  · refine ⟨fun _ _ h => h, fin_ h ?_⟩
    rw [fromAV, if_neg (fun hh => by omega)]
  · refine ⟨fun _ _ h => h, fin_ h ?_⟩
    rw [fromAV, if_neg (fun hh => by omega)]
  have hc : (check g).2 = 0 := by omega
  have hs : 0 ≤ s ∧ s < g.nodes := by omega
  have hf := fit_of g hc
  have n1 := hf.n1
  have n2 := hf.n2
  have hfew := hf.few
  have hfrom : fromAV g down s = .vec false ((distL g down s).map iv) (distL g down s).length := by rw [fromAV, if_pos ⟨hc, hs⟩]
  refine exMk_int (by omega) (by omega) (by simp only [maxLen]; omega) rfl ?_
  obtain ⟨n, hn⟩ : ∃ n, n = g.nodes.toNat := ⟨_, rfl⟩
  rw [← hn, zrep_one, show List.replicate n (cAV (.int .i64 0)) = (List.replicate n (0 : Int)).map iv by rw [List.map_replicate]; rfl]
  repeat' (first | simp -implicitDefEqProofs only [go_sem, seval] | simp -implicitDefEqProofs (disch := omega) only [ars, if_pos, exV_some, Option.map_some] | ((with_reducible first | apply exB_dec | apply exB_intro) <;> intro _))
  rw [← fillTo_zero (fun _ => -1) 0 n]
  refine exL_mod (fun i : Int => [(32, .v (iv i))]) (fun i => [(29, .arr false ((fillTo (fun _ => -1) 0 n i).map iv) n 3 1)]) (fun i => 0 ≤ i ∧ i ≤ n) (fun i => (n - i).toNat) 0 rfl ⟨by omega, by omega⟩ ?_
  rintro i ⟨i0, i1⟩ ih
  simp only [S.up, S.upH, ups, Abs.put, Nat.reduceEqDiff, ↓reduceIte, Nat.reduceAdd] at ih
  simp -implicitDefEqProofs only [congrArg KI.code sc_spf_From_L2.eq_1, go_sem, seval]
  by_cases hi : i < n
  · have nxt := ih (i + 1) ⟨by omega, by omega⟩ (by omega)
    rw [← fillTo_set (fun _ => -1) 0 n i i0 rfl] at nxt
    repeat' (first | simp -implicitDefEqProofs only [go_sem, seval] | simp -implicitDefEqProofs (disch := omega) only [fillTo_length, set_ints, ars, if_pos, exV_some, Option.map_some] | ((with_reducible first | apply exB_dec | apply exB_intro) <;> intro _))
    all_goals first | (exfalso; omega) | exact nxt
  repeat' (first | simp -implicitDefEqProofs only [go_sem, seval] | simp -implicitDefEqProofs (disch := omega) only [ars, if_pos, exV_some, Option.map_some] | ((with_reducible first | apply exB_dec | apply exB_intro) <;> intro _))
  all_goals first | (exfalso; omega) | skip
  rw [fillTo_full _ _ _ _ (show (n : Int) ≤ i by omega), show ((List.range n).map fun _ => (-1 : Int)) = List.replicate n (-1) by rw [List.map_const', List.length_range]]
  intro b hb
  have hat0 : HeapAt H (upd H b (some (.cells [.vec true [] 0] 158))) b [] := by
    refine ⟨hb, fun b' o ho => ?_, _, _, upd_self _ _ _, .inl ⟨rfl, rfl⟩⟩
    rw [upd_ne _ _ (by rintro rfl; rw [hb] at ho; cases ho)]
    exact ho
  refine exC_intro (push_c H _ b [] (0, s) (by simp) hat0 nh_nil) ?_
  rintro _ H1 ⟨rfl, l1, hp1, hh1, hat1⟩
  repeat' (first | simp -implicitDefEqProofs only [go_sem, seval] | simp -implicitDefEqProofs (disch := omega) only [ars, if_pos, exV_some, Option.map_some] | ((with_reducible first | apply exB_dec | apply exB_intro) <;> intro _))
  have first := dinv_perm (dinv_first (down := down) hf hs) hp1
  rw [← hn] at first
  refine exL_modH (fun a : List Int × List Pr × AHeap => []) (fun a => [(29, .arr false (a.1.map iv) n 3 1)]) (fun a => a.2.2)
    (fun a => (DInv g down s a.1 a.2.1 ∧ AllBehind g down a.1 a.2.1) ∧ IsHeap a.2.1 ∧ HeapAt H a.2.2 b a.2.1) (fun a => unset a.1 * 241 + a.2.1.length) (List.replicate n (-1), l1, H1) rfl ⟨first, hh1, hat1⟩ ?_
  rintro ⟨d, l, H2⟩ ⟨⟨hd, hb2⟩, hh, hat⟩ ih2
  dsimp only at hd hb2 hh hat ih2
  simp only [S.up, S.upH, ups, Abs.put, Nat.reduceEqDiff, ↓reduceIte, Nat.reduceAdd] at ih2
  have hdl := hd.len
  have hsz := hd.size
  simp -implicitDefEqProofs only [congrArg KI.code sc_spf_From_L1.eq_1, go_sem, seval]
  by_cases hl0 : l = []
  · subst hl0
    refine exC_pure (pop_none_c H H2 b hat) ?_
    repeat' (first | simp -implicitDefEqProofs only [go_sem, seval] | simp -implicitDefEqProofs (disch := omega) only [ars, if_pos, exV_some, Option.map_some] | ((with_reducible first | apply exB_dec | apply exB_intro) <;> intro _))
    refine ⟨hat.base, fin_ h ?_⟩
    rw [hfrom, distL_eq (dinv_end hf hs hd hb2), show n = d.length by omega]
  have hlen : l.length ≤ 1099511627776 := by omega
  have hpop := pop_c H H2 b l hlen hl0 hat hh
  refine exC_intro hpop ?_
  intro v H3 hq
  obtain ⟨p, l', hv, hpm, hh', hmin, hat'⟩ := hq
  simp -implicitDefEqProofs only [go_sem, seval]
  simp -implicitDefEqProofs only [hv, go_sem, seval]
  obtain ⟨⟨p0, p1⟩, hpw⟩ := hd.heap p (hpm.mem_iff.2 (by simp))
  have hll := hpm.length_eq
  simp only [List.length_cons] at hll
  repeat' (first | simp -implicitDefEqProofs only [go_sem, seval] | simp -implicitDefEqProofs (disch := omega) only [ars, if_pos, exV_some, Option.map_some] | ((with_reducible first | apply exB_dec | apply exB_intro) <;> intro _))
  · have hdi : gi d p.2 ≠ -1 := by assumption
    obtain ⟨q1, q2⟩ := dinv_skip hf hpm hd hb2 hdi
    exact ih2 (d, l', H3) ⟨⟨q1, q2⟩, hh', hat'⟩ (by dsimp only; omega)
  have hdi : gi d p.2 = -1 := by omega
  have mid := dmid_start hf hs hpm hmin hd hb2 hdi
  have hus := unset_set p0 (by omega) hdi (hpw.nonneg hf)
  have hlks : g.links.length * 32 ≤ 140737488351232 := by omega
  have hol := out_length g p.2
  refine exC_pure (out_c g hlks p.2 _) ?_
  simp -implicitDefEqProofs only [ints, go_sem, seval]
  repeat' (first | simp -implicitDefEqProofs only [go_sem, seval] | simp -implicitDefEqProofs (disch := omega) only [ars, if_pos, exV_some, Option.map_some] | ((with_reducible first | apply exB_dec | apply exB_intro) <;> intro _))
  rw [set_ints]
  obtain ⟨d1, hd1⟩ : ∃ d1, d1 = d.set p.2.toNat p.1 := ⟨_, rfl⟩
  rw [← hd1] at mid hus ⊢
  have hg1 : gi d1 p.2 = p.1 := by rw [hd1, gi_set p0 (by omega) p0, if_pos rfl]
  have hd1l : d1.length = n := by rw [hd1, List.length_set]; omega
  refine exL_modH (fun a : Int × List Pr × AHeap => [(66, .v (iv a.1))]) (fun a => []) (fun a => a.2.2)
    (fun a => 0 ≤ a.1 ∧ a.1 ≤ (out g p.2).length ∧ DMid g down s p.2 d1 a.2.1 a.1.toNat ∧ IsHeap a.2.1 ∧ HeapAt H a.2.2 b a.2.1 ∧ a.2.1.length ≤ l'.length + a.1.toNat) (fun a => ((out g p.2).length - a.1).toNat) (0, l', H3) rfl ⟨by simp, by simp, mid, hh', hat', by simp⟩ ?_
  rintro ⟨k, l2, H4⟩ ⟨k0, k1, hm, hh2, hat2, hgrow⟩ ih3
  dsimp only at k0 k1 hm hh2 hat2 hgrow ih3
  simp only [S.up, S.upH, ups, Abs.put, Nat.reduceEqDiff, ↓reduceIte, Nat.reduceAdd] at ih3
  simp -implicitDefEqProofs only [congrArg KI.code sc_spf_From_L0.eq_1, go_sem, seval]
  by_cases hk : k < (out g p.2).length
  · obtain ⟨e, he⟩ : ∃ e, e = gi (out g p.2) k := ⟨_, rfl⟩
    have hmem : e ∈ out g p.2 := by rw [he]; exact gi_mem k0 hk
    obtain ⟨e0, e1, e2⟩ := (out_mem g e p.2).1 hmem
    have hbn := hf.b e e0 e1
    have hwt := hf.w e e0 e1
    have endc := ends_c g e (by omega) H4
    have upc := up_c nl down e e0 (by omega) H4
    simp only [Graph.av, triIIB] at endc
    simp only [blv] at upc
    have hka := hm.keyat
    have hdn := hm.done
    repeat' (first | simp -implicitDefEqProofs only [go_sem, seval] | simp -implicitDefEqProofs (disch := omega) only [← he, rd_link2, wt, ars, if_pos, exV_some, Option.map_some] | ((with_reducible first | apply exB_dec | apply exB_intro) <;> intro _) | with_reducible refine exC_pure (endc) ?_ | with_reducible refine exCq_pure (endc) ?_ | with_reducible refine exC_pure (upc) ?_ | with_reducible refine exCq_pure (upc) ?_)
    · have hto : gi d1 (ends g e).2.1 = -1 := by assumption
      rw [wrap_id (by unfold wt at hwt; omega) (by unfold wt at hwt; omega)]
      have hl2 : l2.length ≤ 1099511627776 := by have := hm.inv.size; omega
      have hpush := push_c H H4 b l2 (p.1 + (gi g.links (e / 2)).metric, (ends g e).2.1) hl2 hat2 hh2
      refine exC_intro hpush ?_
      rintro v H5 ⟨hv, l3, hpm3, hh3, hat3⟩
      simp -implicitDefEqProofs only [go_sem, seval]
      repeat' (first | simp -implicitDefEqProofs only [go_sem, seval] | simp -implicitDefEqProofs (disch := omega) only [ars, if_pos, exV_some, Option.map_some] | ((with_reducible first | apply exB_dec | apply exB_intro) <;> intro _))
      have hl3 := hpm3.length_eq
      simp only [List.length_cons] at hl3
      have hk' : k.toNat < (out g p.2).length := by omega
      have hkk : ((k.toNat : Nat) : Int) = k := Int.toNat_of_nonneg k0
      refine ih3 (k + 1, l3, H5) ⟨by dsimp only; omega, by dsimp only; omega, ?_, hh3, hat3, by dsimp only; omega⟩ (by dsimp only; omega)
      dsimp only
      rw [show (k + 1).toNat = k.toNat + 1 by omega]
      refine dmid_push hf hm hk' (by rw [hkk, ← he]; assumption) ?_
      rw [hkk, ← he, hg1]
      exact hpm3
    · have hto : ¬ gi d1 (ends g e).2.1 = -1 := by assumption
      refine ih3 (k + 1, l2, H4) ⟨by dsimp only; omega, by dsimp only; omega, ?_, hh2, hat2, by dsimp only; omega⟩ (by dsimp only; omega)
      dsimp only
      rw [show (k + 1).toNat = k.toNat + 1 by omega]
      refine dmid_skip hm (by omega) fun _ => ?_
      rw [Int.toNat_of_nonneg k0, ← he]
      rcases hm.inv.way _ hbn.2.1 hbn.2.2 with hh | hh
      · exact absurd hh hto
      · exact hh.1
    · refine ih3 (k + 1, l2, H4) ⟨by dsimp only; omega, by dsimp only; omega, ?_, hh2, hat2, by dsimp only; omega⟩ (by dsimp only; omega)
      dsimp only
      rw [show (k + 1).toNat = k.toNat + 1 by omega]
      refine dmid_skip hm (by omega) fun hu => ?_
      rw [Int.toNat_of_nonneg k0, ← he, ‹upE down e = false›] at hu
      cases hu
    · exfalso; omega
  · obtain ⟨q1, q2⟩ := dmid_end hm (by omega)
    have hsz2 := hm.inv.size
    have hroom := hm.room
    repeat' (first | simp -implicitDefEqProofs only [go_sem, seval] | simp -implicitDefEqProofs (disch := omega) only [ars, if_pos, exV_some, Option.map_some] | ((with_reducible first | apply exB_dec | apply exB_intro) <;> intro _))
    all_goals first | (exfalso; omega) | skip
    exact ih2 (d1, l2, H4) ⟨⟨q1, q2⟩, hh2, hat2⟩ (by dsimp only; omega)
end Go.Proofs.Ytejmcijcdhoogaa
end

section
namespace Go.Proofs.Ytejmcijcdhoogaa
open Go Abs
attribute [local irreducible] EX exL exG exC exCq exS exV exIf exGd exGq exB

def far (x : Int) : Nat := if x < 0 then 1073741824 else x.toNat
def size (d : List Int) : Nat := (d.map far).sum
theorem size_set (x : Int) : ∀ (d : List Int) (k : Nat) (h : k < d.length), size (d.set k x) + far d[k] = size d + far x
  | [], k, h => by simp at h
  | y :: d, 0, h => by simp [size]; omega
  | y :: d, k + 1, h => by
    have := size_set x d k (by simpa using h)
    simp only [size, List.set_cons_succ, List.map_cons, List.sum_cons, List.getElem_cons_succ] at this ⊢
    omega
structure BInv (g : Graph) (down : List Bool) (s : Int) (d : List Int) : Prop where
  len : (d.length : Int) = g.nodes
  way : ∀ v : Int, 0 ≤ v → v < g.nodes → gi d v = -1 ∨ (0 ≤ gi d v ∧ Walk g down s v (gi d v))
  start : gi d s = 0
  bound : ∀ v : Int, 0 ≤ v → v < g.nodes → gi d v ≤ 16777216 * (g.nodes - unset d - 1)
def Relaxed (g : Graph) (down : List Bool) (d : List Int) (e : Int) : Prop := upE down e = true → 0 ≤ gi d (ends g e).1 → 0 ≤ gi d (ends g e).2.1 ∧ gi d (ends g e).2.1 ≤ gi d (ends g e).1 + wt g e
theorem binv_end {g : Graph} (hf : Fit g) {down : List Bool} {s : Int} (hs : 0 ≤ s ∧ s < g.nodes) {d : List Int} (h : BInv g down s d) (hr : ∀ e : Int, 0 ≤ e → e < 2 * g.links.length → Relaxed g down d e) : IsDist g down s d := by
  refine ⟨h.len, fun v v0 v1 hn => ?_, fun v v0 v1 hp => ?_, fun v L hw => ?_⟩
  · rcases h.way v v0 v1 with hh | hh
    · exact hh
    · omega
  · rcases h.way v v0 v1 with hh | hh
    · omega
    · exact hh.2
  · induction hw with
    | nil => rw [h.start]; omega
    | @step a L e hw e0 e1 hu ha ih =>
      have := hr e e0 e1 hu (by rw [ha]; exact ih.1)
      rw [ha] at this
      omega
theorem unset_same {d : List Int} {k x : Int} (h0 : 0 ≤ k) (h1 : k < d.length) (hn : 0 ≤ gi d k) (hx : 0 ≤ x) : unset (d.set k.toNat x) = unset d := by
  unfold unset
  have hlt : k.toNat < d.length := by omega
  rw [List.count_set hlt]
  have hv : d[k.toNat] = gi d k := by rw [gi_get (by omega)]
  rw [hv]
  have e1 : ¬ gi d k = -1 := by omega
  have e2 : ¬ x = -1 := by omega
  simp [e1, e2]
theorem binv_relax {g : Graph} (hf : Fit g) {down : List Bool} {s : Int} (hs : 0 ≤ s ∧ s < g.nodes) {d : List Int} (h : BInv g down s d) {e : Int} (e0 : 0 ≤ e) (e1 : e < 2 * g.links.length) (hu : upE down e = true) (ha : 0 ≤ gi d (ends g e).1)
    (hb : gi d (ends g e).2.1 < 0 ∨ gi d (ends g e).1 + wt g e < gi d (ends g e).2.1) :
    BInv g down s (d.set (ends g e).2.1.toNat (gi d (ends g e).1 + wt g e)) ∧ size (d.set (ends g e).2.1.toNat (gi d (ends g e).1 + wt g e)) < size d := by
  obtain ⟨⟨a0, a1⟩, b0, b1⟩ := hf.b e e0 e1
  have hw := hf.w e e0 e1
  have hlen := h.len
  have hn2 := hf.n2
  obtain ⟨b, hbd⟩ : ∃ b, b = (ends g e).2.1 := ⟨_, rfl⟩
  obtain ⟨a, had⟩ : ∃ a, a = (ends g e).1 := ⟨_, rfl⟩
  rw [← hbd] at hb b0 b1 ⊢
  rw [← had] at hb a0 a1 ha ⊢
  have hba := h.bound a a0 a1
  have hbb := h.bound b b0 b1
  have hbs : ¬ b = s := by rintro rfl; rw [h.start] at hb; omega
  have hway : Walk g down s a (gi d a) := by
    rcases h.way a a0 a1 with hh | hh
    · omega
    · exact hh.2
  have hwb : Walk g down s b (gi d a + wt g e) := by rw [hbd]; exact .step hway e0 e1 hu had.symm
  have g1 : ∀ v : Int, 0 ≤ v → gi (d.set b.toNat (gi d a + wt g e)) v = if v = b then gi d a + wt g e else gi d v := fun v v0 => gi_set b0 (by omega) v0
  have hub : unset (d.set b.toNat (gi d a + wt g e)) ≤ unset d ∧ gi d a + wt g e ≤ 16777216 * (g.nodes - unset (d.set b.toNat (gi d a + wt g e)) - 1) := by
    by_cases hneg : gi d b < 0
    · have hb1 : gi d b = -1 := by
        rcases h.way b b0 b1 with hh | hh
        · exact hh
        · omega
      have := unset_set b0 (by omega) hb1 (show 0 ≤ gi d a + wt g e by omega)
      omega
    · have := unset_same (d := d) b0 (by omega) (by omega) (show 0 ≤ gi d a + wt g e by omega)
      rw [this]
      omega
  refine ⟨⟨by simpa using hlen, fun v v0 v1 => ?_, ?_, fun v v0 v1 => ?_⟩, ?_⟩
  · rw [g1 v v0]
    by_cases ev : v = b
    · rw [if_pos ev, ev]; exact .inr ⟨by omega, hwb⟩
    · rw [if_neg ev]; exact h.way v v0 v1
  · rw [g1 s hs.1, if_neg (fun hh => hbs hh.symm)]; exact h.start
  · rw [g1 v v0]
    by_cases ev : v = b
    · rw [if_pos ev]; exact hub.2
    · rw [if_neg ev]
      have := h.bound v v0 v1
      omega
  · have hlt : b.toNat < d.length := by omega
    have hsz := size_set (gi d a + wt g e) d b.toNat hlt
    have hv : d[b.toNat] = gi d b := by rw [gi_get (by omega)]
    rw [hv] at hsz
    have h1 : far (gi d a + wt g e) = (gi d a + wt g e).toNat := by rw [far, if_neg (by omega)]
    have h2 : (gi d a + wt g e).toNat < far (gi d b) := by
      unfold far
      split
      · omega
      · omega
    omega
theorem binv_first {g : Graph} (hf : Fit g) {down : List Bool} {s : Int} (hs : 0 ≤ s ∧ s < g.nodes) : BInv g down s ((List.replicate g.nodes.toNat (-1)).set s.toNat 0) := by
  have n1 := hf.n1
  have g0 : ∀ v : Int, 0 ≤ v → v < g.nodes → gi (List.replicate g.nodes.toNat (-1)) v = -1 := fun v v0 v1 => gi_replicate _ _ _ v0 (by omega)
  have g1 : ∀ v : Int, 0 ≤ v → gi ((List.replicate g.nodes.toNat (-1)).set s.toNat 0) v = if v = s then 0 else gi (List.replicate g.nodes.toNat (-1)) v := fun v v0 => gi_set hs.1 (by simp; omega) v0
  have hu := unset_set hs.1 (by simp; omega) (g0 s hs.1 hs.2) (show (0 : Int) ≤ 0 by omega)
  have hu0 : unset (List.replicate g.nodes.toNat (-1)) = g.nodes.toNat := by simp [unset]
  refine ⟨by simp; omega, fun v v0 v1 => ?_, by rw [g1 s hs.1, if_pos rfl], fun v v0 v1 => ?_⟩
  · rw [g1 v v0]
    by_cases e : v = s
    · rw [if_pos e, e]; exact .inr ⟨by omega, .nil⟩
    · rw [if_neg e]; exact .inl (g0 v v0 v1)
  · rw [g1 v v0]
    split
    · omega
    · rw [g0 v v0 v1]; omega
end Go.Proofs.Ytejmcijcdhoogaa
end

section
namespace Go.Proofs.Ytejmcijcdhoogaa
open Go Abs
attribute [local irreducible] EX exL exG exC exCq exS exV exIf exGd exGq exB
set_option maxHeartbeats 400000

theorem upE_not (down : List Bool) (e : Int) : (!upE down e) = (decide (e / 2 < down.length) && gi down (e / 2)) := by simp [upE]
theorem downE_c (nl : Bool) (down : List Bool) (e : Int) (h0 : 0 ≤ e) (H : AHeap) : APure Try.prog 38 [blv nl down, iv (e / 2)] H (bv (!upE down e)) := by
  have := isDown_c nl down (e / 2) H
  rwa [decide_eq_true (by omega), Bool.true_and, ← upE_not] at this
theorem isNode_ref_c (g : Graph) (n : Int) (H : AHeap) : APure Try.prog 59 [g.av, iv n] H (bv (decide (0 ≤ n ∧ n < g.nodes))) := by
  intro Q h
  refine ACalls.of_code fn_waymarkref1_Node ?_
  simp -implicitDefEqProofs only [sc_waymarkref1_Node, Graph.av, go_sem, seval]
  repeat' (first | simp -implicitDefEqProofs only [go_sem, seval] | simp -implicitDefEqProofs (disch := omega) only [ars, if_pos, exV_some, Option.map_some] | ((with_reducible first | apply exB_dec | apply exB_intro) <;> intro _))
  all_goals exact fin_ h (by simp; omega)
theorem from_ref_c (g : Graph) (nl : Bool) (down : List Bool) (s : Int) (H : AHeap) : APure Try.prog 30 [g.av, blv nl down, iv s] H (fromAV g down s) := by
  intro Q h
  refine ACalls.of_code fn_waymarkref1_From ?_
  have iss := isNode_ref_c g s H
  simp only [Graph.av] at iss
  simp -implicitDefEqProofs only [sc_waymarkref1_From, Graph.av, blv, go_sem, seval]
  refine exC_pure (check_ref_c g _) ?_
  simp -implicitDefEqProofs only [pairI, go_sem, seval]
  repeat' (first | simp -implicitDefEqProofs only [go_sem, seval] | simp -implicitDefEqProofs (disch := omega) only [ars, if_pos, exV_some, Option.map_some] | ((with_reducible first | apply exB_dec | apply exB_intro) <;> intro _) | with_reducible refine exC_pure (iss) ?_ | with_reducible refine exCq_pure (iss) ?_)
  · refine fin_ h ?_
    rw [fromAV, if_neg (fun hh => by omega)]
  · refine fin_ h ?_
    rw [fromAV, if_neg (fun hh => by omega)]
  have hc : (check g).2 = 0 := by omega
  have hs : 0 ≤ s ∧ s < g.nodes := by omega
  have hf := fit_of g hc
  have n1 := hf.n1
  have n2 := hf.n2
  have hfew := hf.few
  have hfrom : fromAV g down s = .vec false ((distL g down s).map iv) (distL g down s).length := by rw [fromAV, if_pos ⟨hc, hs⟩]
  refine exMk_int (by omega) (by omega) (by simp only [maxLen]; omega) rfl ?_
  obtain ⟨n, hn⟩ : ∃ n, n = g.nodes.toNat := ⟨_, rfl⟩
  rw [← hn, zrep_one, show List.replicate n (cAV (.int .i64 0)) = (List.replicate n (0 : Int)).map iv by rw [List.map_replicate]; rfl]
  repeat' (first | simp -implicitDefEqProofs only [go_sem, seval] | simp -implicitDefEqProofs (disch := omega) only [ars, if_pos, exV_some, Option.map_some] | ((with_reducible first | apply exB_dec | apply exB_intro) <;> intro _))
  rw [← fillTo_zero (fun _ => -1) 0 n]
  refine exL_mod (fun i : Int => [(10, .v (iv i))]) (fun i => [(32, .arr false ((fillTo (fun _ => -1) 0 n i).map iv) n 3 1)]) (fun i => 0 ≤ i ∧ i ≤ n) (fun i => (n - i).toNat) 0 rfl ⟨by omega, by omega⟩ ?_
  rintro i ⟨i0, i1⟩ ih
  simp only [S.up, S.upH, ups, Abs.put, Nat.reduceEqDiff, ↓reduceIte, Nat.reduceAdd] at ih
  simp -implicitDefEqProofs only [congrArg KI.code sc_waymarkref1_From_L2.eq_1, go_sem, seval]
  by_cases hi : i < n
  · have nxt := ih (i + 1) ⟨by omega, by omega⟩ (by omega)
    rw [← fillTo_set (fun _ => -1) 0 n i i0 rfl] at nxt
    repeat' (first | simp -implicitDefEqProofs only [go_sem, seval] | simp -implicitDefEqProofs (disch := omega) only [fillTo_length, set_ints, ars, if_pos, exV_some, Option.map_some] | ((with_reducible first | apply exB_dec | apply exB_intro) <;> intro _))
    all_goals first | (exfalso; omega) | exact nxt
  rw [fillTo_full _ _ _ _ (show (n : Int) ≤ i by omega), show ((List.range n).map fun _ => (-1 : Int)) = List.replicate n (-1) by rw [List.map_const', List.length_range]]
  clear ih
  repeat' (first | simp -implicitDefEqProofs only [go_sem, seval] | simp -implicitDefEqProofs (disch := omega) only [List.length_replicate, set_ints, ars, if_pos, exV_some, Option.map_some] | ((with_reducible first | apply exB_dec | apply exB_intro) <;> intro _))
  all_goals first | (exfalso; omega) | skip
  have first := binv_first (down := down) hf hs
  rw [← hn] at first
  refine exL_mod (fun a : Bool × List Int => [(11, .v (bv a.1))]) (fun a => [(32, .arr false (a.2.map iv) n 3 1)])
    (fun a => BInv g down s a.2 ∧ (a.1 = false → ∀ e : Int, 0 ≤ e → e < 2 * g.links.length → Relaxed g down a.2 e)) (fun a => size a.2 * 2 + if a.1 then 1 else 0) (true, (List.replicate n (-1)).set s.toNat 0) rfl ⟨first, by simp⟩ ?_
  rintro ⟨more, d⟩ ⟨hd, hr⟩ ih
  dsimp only at hd hr ih
  simp only [S.up, S.upH, ups, Abs.put, Nat.reduceEqDiff, ↓reduceIte, Nat.reduceAdd] at ih
  have hdl := hd.len
  simp -implicitDefEqProofs only [congrArg KI.code sc_waymarkref1_From_L1.eq_1, go_sem, seval]
  repeat' (first | simp -implicitDefEqProofs only [go_sem, seval] | simp -implicitDefEqProofs (disch := omega) only [ars, if_pos, exV_some, Option.map_some] | ((with_reducible first | apply exB_dec | apply exB_intro) <;> intro _))
  · refine exL_mod (fun a : Int × Bool × List Int => [(11, .v (bv a.2.1)), (12, .v (iv a.1))]) (fun a => [(32, .arr false (a.2.2.map iv) n 3 1)])
      (fun a => 0 ≤ a.1 ∧ a.1 ≤ 2 * g.links.length ∧ BInv g down s a.2.2 ∧ size a.2.2 ≤ size d ∧ (a.2.1 = true → size a.2.2 < size d) ∧ (a.2.1 = false → ∀ e : Int, 0 ≤ e → e < a.1 → Relaxed g down a.2.2 e)) (fun a => (2 * g.links.length - a.1).toNat) (0, false, d) rfl ⟨by simp, by dsimp only; omega, hd, Nat.le_refl _, by simp, fun _ e e0 e1 => by dsimp only at e1; omega⟩ ?_
    rintro ⟨k, m2, d2⟩ ⟨k0, k1, hd2, hz1, hz2, hr2⟩ ih2
    dsimp only at k0 k1 hd2 hz1 hz2 hr2 ih2
    simp only [S.up, S.upH, ups, Abs.put, Nat.reduceEqDiff, ↓reduceIte, Nat.reduceAdd] at ih2
    have hdl2 := hd2.len
    simp -implicitDefEqProofs only [congrArg KI.code sc_waymarkref1_From_L0.eq_1, go_sem, seval]
    by_cases hk : k < 2 * g.links.length
    · have hbn := hf.b k k0 hk
      have hwt := hf.w k k0 hk
      unfold wt at hwt
      have hba := hd2.bound _ hbn.1.1 hbn.1.2
      have hwa := hd2.way _ hbn.1.1 hbn.1.2
      have endc := ends_ref_c g k (by omega) H
      have upc := downE_c nl down k k0 H
      simp only [Graph.av, triIIB] at endc
      simp only [blv] at upc
      repeat' (first | simp -implicitDefEqProofs only [go_sem, seval] | simp -implicitDefEqProofs (disch := omega) only [rd_link2, set_ints, ars, if_pos, exV_some, Option.map_some] | ((with_reducible first | apply exB_dec | apply exB_intro) <;> intro _) | with_reducible refine exC_pure (endc) ?_ | with_reducible refine exCq_pure (endc) ?_ | with_reducible refine exC_pure (upc) ?_ | with_reducible refine exCq_pure (upc) ?_)
      · obtain ⟨q1, q2⟩ := binv_relax hf hs hd2 k0 hk (by assumption) (by assumption) (.inl (by assumption))
        exact ih2 (k + 1, true, d2.set (ends g k).2.1.toNat (gi d2 (ends g k).1 + wt g k)) ⟨by dsimp only; omega, by dsimp only; omega, q1, by dsimp only; omega, fun _ => by dsimp only; omega, by simp⟩ (by dsimp only; omega)
      · obtain ⟨q1, q2⟩ := binv_relax hf hs hd2 k0 hk (by assumption) (by assumption) (.inr (by assumption))
        exact ih2 (k + 1, true, d2.set (ends g k).2.1.toNat (gi d2 (ends g k).1 + wt g k)) ⟨by dsimp only; omega, by dsimp only; omega, q1, by dsimp only; omega, fun _ => by dsimp only; omega, by simp⟩ (by dsimp only; omega)
      · refine ih2 (k + 1, m2, d2) ⟨by dsimp only; omega, by dsimp only; omega, hd2, hz1, hz2, fun hm e e0 e1 => ?_⟩ (by dsimp only; omega)
        dsimp only at e1
        show Relaxed g down d2 e
        by_cases hek : e = k
        · subst hek
          intro hu ha
          unfold wt
          omega
        · exact hr2 hm e e0 (by omega)
      · refine ih2 (k + 1, m2, d2) ⟨by dsimp only; omega, by dsimp only; omega, hd2, hz1, hz2, fun hm e e0 e1 => ?_⟩ (by dsimp only; omega)
        dsimp only at e1
        show Relaxed g down d2 e
        by_cases hek : e = k
        · subst hek
          intro hu ha
          rw [‹upE down e = false›] at hu
          cases hu
        · exact hr2 hm e e0 (by omega)
      · refine ih2 (k + 1, m2, d2) ⟨by dsimp only; omega, by dsimp only; omega, hd2, hz1, hz2, fun hm e e0 e1 => ?_⟩ (by dsimp only; omega)
        dsimp only at e1
        show Relaxed g down d2 e
        by_cases hek : e = k
        · subst hek
          intro hu ha
          omega
        · exact hr2 hm e e0 (by omega)
      · exfalso; omega
    · repeat' (first | simp -implicitDefEqProofs only [go_sem, seval] | simp -implicitDefEqProofs (disch := omega) only [ars, if_pos, exV_some, Option.map_some] | ((with_reducible first | apply exB_dec | apply exB_intro) <;> intro _))
      all_goals first | (exfalso; omega) | skip
      refine ih (m2, d2) ⟨hd2, fun hm e e0 e1 => hr2 hm e e0 (by omega)⟩ ?_
      dsimp only
      rw [‹more = true›]
      cases m2 with
      | true => have := hz2 rfl; simp; omega
      | false => simp; omega
  · refine fin_ h ?_
    have e := distL_eq (binv_end hf hs hd (hr (by assumption)))
    rw [hfrom, e, show n = d.length by omega]
end Go.Proofs.Ytejmcijcdhoogaa
end

section
namespace Go.Proofs.Ytejmcijcdhoogaa
open Go Abs
attribute [local irreducible] EX exL exG exC exCq exS exV exIf exGd exGq exB
set_option maxHeartbeats 400000

theorem to_c (g : Graph) (nl : Bool) (down : List Bool) (s : Int) (H : AHeap) : APure Try.prog 67 [g.av, blv nl down, iv s] H (fromAV g down s) := by
  have fc := from_c g nl down s H
  simp only [Graph.av, blv] at fc
  intro Q h
  refine ACalls.of_code fn_spf_To ?_
  simp -implicitDefEqProofs only [sc_spf_To, Graph.av, blv, go_sem, seval]
  refine exC_pure fc ?_
  repeat' (first | simp -implicitDefEqProofs only [go_sem, seval] | simp -implicitDefEqProofs (disch := omega) only [ars, if_pos, exV_some, Option.map_some] | ((with_reducible first | apply exB_dec | apply exB_intro) <;> intro _))
  exact h

def onB (g : Graph) (down : List Bool) (to : List Int) (node e : Int) : Bool := upE down e && (decide (0 ≤ gi to (ends g e).2.1) && decide (gi to node - wt g e = gi to (ends g e).2.1))
def nextOk (g : Graph) (to : List Int) (node : Int) : Prop := (check g).2 = 0 ∧ (to.length : Int) = g.nodes ∧ (0 ≤ node ∧ node < g.nodes) ∧ 0 < gi to node
instance (g : Graph) (to : List Int) (node : Int) : Decidable (nextOk g to node) := inferInstanceAs (Decidable (_ ∧ _))
def nextL (g : Graph) (down : List Bool) (to : List Int) (node : Int) : List Int := if nextOk g to node then (out g node).filter (onB g down to node) else []
theorem nextL_length (g : Graph) (down : List Bool) (to : List Int) (node : Int) : (nextL g down to node).length ≤ 2 * g.links.length := by
  unfold nextL
  split
  · exact Nat.le_trans (List.length_filter_le _ _) (out_length g node)
  · simp
theorem I64s.gi {l : List Int} (h : I64s l) {i : Int} (h0 : 0 ≤ i) (h1 : i < l.length) : -9223372036854775808 ≤ gi l i ∧ gi l i ≤ 9223372036854775807 := h _ (gi_mem h0 h1)
theorem filter_step (p : Int → Bool) (l : List Int) {k : Int} (h0 : 0 ≤ k) (h1 : k < l.length) : (l.take (k + 1).toNat).filter p = if p (gi l k) = true then (l.take k.toNat).filter p ++ [gi l k] else (l.take k.toNat).filter p := by
  rw [take_gi h0 h1, List.filter_append, List.filter_cons, List.filter_nil]
  split <;> simp

theorem next_c (g : Graph) (nl : Bool) (down : List Bool) (nt : Bool) (to : List Int) (hto : I64s to) (node : Int) (H : AHeap) : APure Try.prog 68 [g.av, blv nl down, .vec nt (to.map iv) to.length, iv node] H (ints (nextL g down to node)) := by
  have iss := is_c g node H
  simp only [Graph.av] at iss
  intro Q h
  refine ACalls.of_code fn_spf_Next ?_
  simp -implicitDefEqProofs only [sc_spf_Next, Graph.av, blv, go_sem, seval]
  refine exC_pure (graph_right_c g _) ?_
  repeat' (first | simp -implicitDefEqProofs only [go_sem, seval] | simp -implicitDefEqProofs (disch := omega) only [ars, if_pos, exV_some, Option.map_some] | ((with_reducible first | apply exB_dec | apply exB_intro) <;> intro _) | with_reducible refine exC_pure (iss) ?_ | with_reducible refine exCq_pure (iss) ?_)
  all_goals first | (refine fin_ h ?_; rw [nextL, if_neg (by unfold nextOk; omega)]; rfl) | skip
  have hc : (check g).2 = 0 := by omega
  have hok : nextOk g to node := by unfold nextOk; omega
  have hf := fit_of g hc
  have hfew := hf.few
  have hol := out_length g node
  refine exC_pure (out_c g (by omega) node _) ?_
  simp -implicitDefEqProofs only [ints, go_sem, seval]
  repeat' (first | simp -implicitDefEqProofs only [go_sem, seval] | simp -implicitDefEqProofs (disch := omega) only [ars, if_pos, exV_some, Option.map_some] | ((with_reducible first | apply exB_dec | apply exB_intro) <;> intro _))
  obtain ⟨f, hfl⟩ : ∃ f : Int → List Int, f = fun k => ((out g node).take k.toNat).filter (onB g down to node) := ⟨_, rfl⟩
  have f0 : f 0 = [] := by rw [hfl]; simp
  have fl : ∀ k : Int, (f k).length ≤ (out g node).length := fun k => by
    rw [hfl]
    exact Nat.le_trans (List.length_filter_le _ _) (by rw [List.length_take]; omega)
  have fs : ∀ k : Int, 0 ≤ k → k < (out g node).length → f (k + 1) = if onB g down to node (gi (out g node) k) = true then f k ++ [gi (out g node) k] else f k := fun k k0 k1 => by
    rw [hfl]; exact filter_step _ _ k0 k1
  have fe : ∀ k : Int, ((out g node).length : Int) ≤ k → f k = nextL g down to node := fun k hk => by
    rw [hfl]
    simp only
    rw [List.take_of_length_le (by omega), nextL, if_pos hok]
  clear hfl
  refine exL_mod (fun k : Int => [(42, .v (iv k))]) (fun k => [(85, .arr (f k).isEmpty ((f k).map iv) (f k).length 3 1)]) (fun k => 0 ≤ k ∧ k ≤ (out g node).length) (fun k => ((out g node).length - k).toNat) 0 (by rw [f0]; rfl) ⟨by omega, by omega⟩ ?_
  rintro k ⟨k0, k1⟩ ih
  simp only [S.up, S.upH, ups, Abs.put, Nat.reduceEqDiff, ↓reduceIte, Nat.reduceAdd] at ih
  simp -implicitDefEqProofs only [congrArg KI.code sc_spf_Next_L0.eq_1, go_sem, seval]
  by_cases hk : k < (out g node).length
  · obtain ⟨e, he⟩ : ∃ e, e = gi (out g node) k := ⟨_, rfl⟩
    have hmem : e ∈ out g node := by rw [he]; exact gi_mem k0 hk
    obtain ⟨e0, e1, e2⟩ := (out_mem g e node).1 hmem
    obtain ⟨⟨a0, a1⟩, b0, b1⟩ := hf.b e e0 e1
    have hwt := hf.w e e0 e1
    unfold wt at hwt
    have hok2 := hok.2
    have hx := (hto.gi hok2.2.1.1 (by omega)).2
    have hy := (hto.gi b0 (by omega)).2
    have endc := ends_c g e (by omega) H
    have upc := up_c nl down e e0 (by omega) H
    simp only [Graph.av, triIIB] at endc
    simp only [blv] at upc
    have hfl := fl k
    have hs := fs k k0 hk
    rw [← he] at hs
    have nxt := ih (k + 1) ⟨by omega, by omega⟩ (by omega)
    repeat' (first | simp -implicitDefEqProofs only [go_sem, seval] | simp -implicitDefEqProofs (disch := omega) only [← he, rd_link2, ars, if_pos, exV_some, Option.map_some] | ((with_reducible first | apply exB_dec | apply exB_intro) <;> intro _) | with_reducible refine exC_pure (endc) ?_ | with_reducible refine exCq_pure (endc) ?_ | with_reducible refine exC_pure (upc) ?_ | with_reducible refine exCq_pure (upc) ?_)
    · rw [if_pos (by simp only [onB, decide_eq_true_eq, Bool.and_eq_true]; exact ⟨by assumption, by assumption, by unfold wt; omega⟩)] at hs
      refine exS_ints rfl (by omega) (by simp only [maxLen]; omega) ?_
      rw [← hs]
      repeat' (first | simp -implicitDefEqProofs only [go_sem, seval] | simp -implicitDefEqProofs (disch := omega) only [ars, if_pos, exV_some, Option.map_some] | ((with_reducible first | apply exB_dec | apply exB_intro) <;> intro _))
      exact nxt
    · rw [if_neg (fun hh => by simp only [onB, decide_eq_true_eq, Bool.and_eq_true] at hh; obtain ⟨_, x1, x2⟩ := hh; unfold wt at x2; omega)] at hs
      rw [hs] at nxt
      exact nxt
    · rw [if_neg (fun hh => by simp only [onB, decide_eq_true_eq, Bool.and_eq_true] at hh; obtain ⟨_, x1, x2⟩ := hh; unfold wt at x2; omega)] at hs
      rw [hs] at nxt
      exact nxt
    · rw [if_neg (by simp only [onB, ‹upE down e = false›, Bool.false_and, Bool.false_eq_true, not_false_eq_true])] at hs
      rw [hs] at nxt
      exact nxt
    · exfalso; omega
  · repeat' (first | simp -implicitDefEqProofs only [go_sem, seval] | simp -implicitDefEqProofs (disch := omega) only [ars, if_pos, exV_some, Option.map_some] | ((with_reducible first | apply exB_dec | apply exB_intro) <;> intro _))
    all_goals first | (exfalso; omega) | skip
    rw [fe k (by omega)]
    exact h

theorem next_ref_c (g : Graph) (nl : Bool) (down : List Bool) (nt : Bool) (to : List Int) (hto : I64s to) (node : Int) (H : AHeap) : APure Try.prog 60 [g.av, blv nl down, .vec nt (to.map iv) to.length, iv node] H (ints (nextL g down to node)) := by
  have iss := isNode_ref_c g node H
  simp only [Graph.av] at iss
  intro Q h
  refine ACalls.of_code fn_waymarkref1_Next ?_
  simp -implicitDefEqProofs only [sc_waymarkref1_Next, Graph.av, blv, go_sem, seval]
  refine exC_pure (check_ref_c g _) ?_
  simp -implicitDefEqProofs only [pairI, go_sem, seval]
  repeat' (first | simp -implicitDefEqProofs only [go_sem, seval] | simp -implicitDefEqProofs (disch := omega) only [ars, if_pos, exV_some, Option.map_some] | ((with_reducible first | apply exB_dec | apply exB_intro) <;> intro _) | with_reducible refine exC_pure (iss) ?_ | with_reducible refine exCq_pure (iss) ?_)
  all_goals first | (refine fin_ h ?_; rw [nextL, if_neg (by unfold nextOk; omega)]; rfl) | skip
  have hc : (check g).2 = 0 := by omega
  have hok : nextOk g to node := by unfold nextOk; omega
  have hf := fit_of g hc
  have hfew := hf.few
  have hol := out_length g node
  refine exC_pure (out_ref_c g (by omega) node _) ?_
  simp -implicitDefEqProofs only [ints, go_sem, seval]
  repeat' (first | simp -implicitDefEqProofs only [go_sem, seval] | simp -implicitDefEqProofs (disch := omega) only [ars, if_pos, exV_some, Option.map_some] | ((with_reducible first | apply exB_dec | apply exB_intro) <;> intro _))
  obtain ⟨f, hfl⟩ : ∃ f : Int → List Int, f = fun k => ((out g node).take k.toNat).filter (onB g down to node) := ⟨_, rfl⟩
  have f0 : f 0 = [] := by rw [hfl]; simp
  have fl : ∀ k : Int, (f k).length ≤ (out g node).length := fun k => by
    rw [hfl]
    exact Nat.le_trans (List.length_filter_le _ _) (by rw [List.length_take]; omega)
  have fs : ∀ k : Int, 0 ≤ k → k < (out g node).length → f (k + 1) = if onB g down to node (gi (out g node) k) = true then f k ++ [gi (out g node) k] else f k := fun k k0 k1 => by
    rw [hfl]; exact filter_step _ _ k0 k1
  have fe : ∀ k : Int, ((out g node).length : Int) ≤ k → f k = nextL g down to node := fun k hk => by
    rw [hfl]
    simp only
    rw [List.take_of_length_le (by omega), nextL, if_pos hok]
  clear hfl
  refine exL_mod (fun k : Int => [(13, .v (iv k))]) (fun k => [(106, .arr (f k).isEmpty ((f k).map iv) (f k).length 3 1)]) (fun k => 0 ≤ k ∧ k ≤ (out g node).length) (fun k => ((out g node).length - k).toNat) 0 (by rw [f0]; rfl) ⟨by omega, by omega⟩ ?_
  rintro k ⟨k0, k1⟩ ih
  simp only [S.up, S.upH, ups, Abs.put, Nat.reduceEqDiff, ↓reduceIte, Nat.reduceAdd] at ih
  simp -implicitDefEqProofs only [congrArg KI.code sc_waymarkref1_Next_L0.eq_1, go_sem, seval]
  by_cases hk : k < (out g node).length
  · obtain ⟨e, he⟩ : ∃ e, e = gi (out g node) k := ⟨_, rfl⟩
    have hmem : e ∈ out g node := by rw [he]; exact gi_mem k0 hk
    obtain ⟨e0, e1, e2⟩ := (out_mem g e node).1 hmem
    obtain ⟨⟨a0, a1⟩, b0, b1⟩ := hf.b e e0 e1
    have hwt := hf.w e e0 e1
    unfold wt at hwt
    have hok2 := hok.2
    have hx := (hto.gi hok2.2.1.1 (by omega)).2
    have hy := (hto.gi b0 (by omega)).2
    have endc := ends_ref_c g e (by omega) H
    have upc := downE_c nl down e e0 H
    simp only [Graph.av, triIIB] at endc
    simp only [blv] at upc
    have hfl := fl k
    have hs := fs k k0 hk
    rw [← he] at hs
    have nxt := ih (k + 1) ⟨by omega, by omega⟩ (by omega)
    repeat' (first | simp -implicitDefEqProofs only [go_sem, seval] | simp -implicitDefEqProofs (disch := omega) only [← he, rd_link2, ars, if_pos, exV_some, Option.map_some] | ((with_reducible first | apply exB_dec | apply exB_intro) <;> intro _) | with_reducible refine exC_pure (endc) ?_ | with_reducible refine exCq_pure (endc) ?_ | with_reducible refine exC_pure (upc) ?_ | with_reducible refine exCq_pure (upc) ?_)
    · rw [if_pos (by simp only [onB, decide_eq_true_eq, Bool.and_eq_true]; exact ⟨by assumption, by assumption, by unfold wt; omega⟩)] at hs
      refine exS_ints rfl (by omega) (by simp only [maxLen]; omega) ?_
      rw [← hs]
      repeat' (first | simp -implicitDefEqProofs only [go_sem, seval] | simp -implicitDefEqProofs (disch := omega) only [ars, if_pos, exV_some, Option.map_some] | ((with_reducible first | apply exB_dec | apply exB_intro) <;> intro _))
      exact nxt
    · rw [if_neg (fun hh => by simp only [onB, decide_eq_true_eq, Bool.and_eq_true] at hh; obtain ⟨_, x1, x2⟩ := hh; unfold wt at x2; omega)] at hs
      rw [hs] at nxt
      exact nxt
    · rw [if_neg (fun hh => by simp only [onB, decide_eq_true_eq, Bool.and_eq_true] at hh; obtain ⟨_, x1, x2⟩ := hh; unfold wt at x2; omega)] at hs
      rw [hs] at nxt
      exact nxt
    · rw [if_neg (by simp only [onB, ‹upE down e = false›, Bool.false_and, Bool.false_eq_true, not_false_eq_true])] at hs
      rw [hs] at nxt
      exact nxt
    · exfalso; omega
  · repeat' (first | simp -implicitDefEqProofs only [go_sem, seval] | simp -implicitDefEqProofs (disch := omega) only [ars, if_pos, exV_some, Option.map_some] | ((with_reducible first | apply exB_dec | apply exB_intro) <;> intro _))
    all_goals first | (exfalso; omega) | skip
    rw [fe k (by omega)]
    exact h

end Go.Proofs.Ytejmcijcdhoogaa
end

section
namespace Go.Proofs.Ytejmcijcdhoogaa
open Go Abs
attribute [local irreducible] EX exL exG exC exCq exS exV exIf exGd exGq exB
set_option maxHeartbeats 400000

theorem isDist_exists {g : Graph} (hf : Fit g) {down : List Bool} {s : Int} (hs : 0 ≤ s ∧ s < g.nodes) : ∃ d, IsDist g down s d ∧ BInv g down s d := by
  have key : ∀ (n : Nat) (d : List Int), size d = n → BInv g down s d → ∃ d, IsDist g down s d ∧ BInv g down s d := by
    intro n
    induction n using Nat.strongRecOn with
    | _ n ih =>
      intro d hn hd
      by_cases hr : ∀ e : Int, 0 ≤ e → e < 2 * g.links.length → Relaxed g down d e
      · exact ⟨d, binv_end hf hs hd hr, hd⟩
      · obtain ⟨e, he⟩ := Classical.not_forall.1 hr
        obtain ⟨e0, he⟩ := Classical.not_imp.1 he
        obtain ⟨e1, he⟩ := Classical.not_imp.1 he
        obtain ⟨hu, he⟩ := Classical.not_imp.1 he
        obtain ⟨ha, he⟩ := Classical.not_imp.1 he
        obtain ⟨h1, h2⟩ := binv_relax hf hs hd e0 e1 hu ha (by omega)
        exact ih _ (by omega) _ rfl h1
  exact key _ _ rfl (binv_first hf hs)
theorem distL_spec {g : Graph} (hf : Fit g) (down : List Bool) {s : Int} (hs : 0 ≤ s ∧ s < g.nodes) : IsDist g down s (distL g down s) ∧ BInv g down s (distL g down s) := by
  obtain ⟨d, h1, h2⟩ := isDist_exists (down := down) hf hs
  rw [distL_eq h1]
  exact ⟨h1, h2⟩
noncomputable def fromL (g : Graph) (down : List Bool) (s : Int) : List Int := if (check g).2 = 0 ∧ 0 ≤ s ∧ s < g.nodes then distL g down s else []
theorem dist_bound {g : Graph} (hf : Fit g) (down : List Bool) {s : Int} (hs : 0 ≤ s ∧ s < g.nodes) {v : Int} (v0 : 0 ≤ v) (v1 : v < g.nodes) : -1 ≤ gi (distL g down s) v ∧ gi (distL g down s) v ≤ 671088640 := by
  obtain ⟨h1, h2⟩ := distL_spec hf down hs
  have := h2.bound v v0 v1
  have n2 := hf.n2
  rcases h2.way v v0 v1 with hh | hh <;> omega
theorem mem_gi {l : List Int} {x : Int} (h : x ∈ l) : ∃ i : Int, 0 ≤ i ∧ i < l.length ∧ x = gi l i := by
  obtain ⟨n, hn, rfl⟩ := List.getElem_of_mem h
  exact ⟨n, by omega, by omega, by rw [gi_get (by omega)]; simp⟩
theorem fromL_i64 (g : Graph) (down : List Bool) (s : Int) : I64s (fromL g down s) := by
  intro x hx
  unfold fromL at hx
  split at hx
  · rename_i h
    have hf := fit_of g h.1
    obtain ⟨i, i0, i1, rfl⟩ := mem_gi hx
    have hl := (distL_spec hf down h.2).1.len
    have := dist_bound hf down h.2 i0 (by omega)
    omega
  · cases hx
def g2_ : Graph := ⟨2, false, [⟨0, 1, 7, 0⟩]⟩
theorem from2 : fromAV g2_ [] 0 = .vec false [iv 0, iv 7] 2 := by
  have hf : Fit g2_ := fit_of _ (by decide)
  have e0' : (ends g2_ 0) = (0, 1, true) := rfl
  have e1' : (ends g2_ 1) = (1, 0, true) := rfl
  have w0 : wt g2_ 0 = 7 := rfl
  have w1 : wt g2_ 1 = 7 := rfl
  have hd : IsDist g2_ [] 0 [0, 7] := by
    refine binv_end hf ⟨by decide, by decide⟩ ⟨rfl, fun v v0 v1 => ?_, rfl, fun v v0 v1 => ?_⟩ fun e a0 a1 => ?_
    · simp only [g2_] at v1
      rcases (show v = 0 ∨ v = 1 by omega) with rfl | rfl
      · exact .inr ⟨by decide, .nil⟩
      · refine .inr ⟨by decide, ?_⟩
        have := Walk.step (e := 0) (Walk.nil (g := g2_) (down := []) (s := 0)) (by omega) (by simp [g2_]) rfl rfl
        rw [e0', w0, Int.zero_add] at this
        exact this
    · simp only [g2_] at v1
      rcases (show v = 0 ∨ v = 1 by omega) with rfl | rfl
      · decide
      · decide
    · simp only [g2_, List.length_cons, List.length_nil] at a1
      rcases (show e = 0 ∨ e = 1 by omega) with rfl | rfl
      · intro _ _
        rw [e0', w0]
        decide
      · intro _ _
        rw [e1', w1]
        decide
  rw [fromAV, if_pos ⟨by decide, by decide, by decide⟩, distL_eq hd]
  rfl
theorem IsDist.zero {g : Graph} (hf : Fit g) {down : List Bool} {s : Int} (hs : 0 ≤ s ∧ s < g.nodes) {d : List Int} (h : IsDist g down s d) : gi d s = 0 := by
  have := h.least s 0 .nil
  have h1 := (h.way s hs.1 hs.2 this.1).nonneg hf
  omega
theorem IsDist.edge {g : Graph} (hf : Fit g) {down : List Bool} {s : Int} {d : List Int} (h : IsDist g down s d) {e : Int} (e0 : 0 ≤ e) (e1 : e < 2 * g.links.length) (hu : upE down e = true) (ha : 0 ≤ gi d (ends g e).1) : 0 ≤ gi d (ends g e).2.1 ∧ gi d (ends g e).2.1 ≤ gi d (ends g e).1 + wt g e :=
  h.least _ _ (.step (h.way _ (hf.b e e0 e1).1.1 (hf.b e e0 e1).1.2 ha) e0 e1 hu rfl)
theorem IsDist.made {g : Graph} (hf : Fit g) {down : List Bool} {s : Int} (hs : 0 ≤ s ∧ s < g.nodes) {d : List Int} (h : IsDist g down s d) {v : Int} (v0 : 0 ≤ v) (v1 : v < g.nodes) (hv : 0 ≤ gi d v) :
    v = s ∨ ∃ e : Int, 0 ≤ e ∧ e < 2 * g.links.length ∧ upE down e = true ∧ 0 ≤ gi d (ends g e).1 ∧ (ends g e).2.1 = v ∧ gi d (ends g e).1 + wt g e = gi d v := by
  have hw := h.way v v0 v1 hv
  generalize hL : gi d v = L at hw
  cases hw with
  | nil => exact .inl rfl
  | @step a L e hw e0 e1 hu ha =>
    right
    have h1 := h.least _ _ hw
    have h2 := h.edge hf e0 e1 hu (by rw [ha]; exact h1.1)
    rw [ha] at h2
    refine ⟨e, e0, e1, hu, by rw [ha]; exact h1.1, rfl, ?_⟩
    rw [ha]
    omega
theorem walk_trans {g : Graph} {down : List Bool} {s v u L M : Int} (h1 : Walk g down s v L) (h2 : Walk g down v u M) : Walk g down s u (L + M) := by
  induction h2 with
  | nil => rw [Int.add_zero]; exact h1
  | step _ e0 e1 hu ha ih => rw [← Int.add_assoc]; exact .step ih e0 e1 hu ha
theorem edge_back {g : Graph} {e : Int} (e0 : 0 ≤ e) (e1 : e < 2 * g.links.length) : ∃ e' : Int, 0 ≤ e' ∧ e' < 2 * g.links.length ∧ e' / 2 = e / 2 ∧ (ends g e').1 = (ends g e).2.1 ∧ (ends g e').2.1 = (ends g e).1 := by
  by_cases hp : e % 2 = 1
  · refine ⟨e - 1, by omega, by omega, by omega, ?_, ?_⟩ <;>
    · rw [ends, if_neg (by omega), if_neg (by omega), ends, if_neg (by omega), if_pos hp, show (e - 1) / 2 = e / 2 by omega]
  · refine ⟨e + 1, by omega, by omega, by omega, ?_, ?_⟩ <;>
    · rw [ends, if_neg (by omega), if_pos (by omega), ends, if_neg (by omega), if_neg hp, show (e + 1) / 2 = e / 2 by omega]
theorem walk_back {g : Graph} {down : List Bool} {s v L : Int} (h : Walk g down s v L) : Walk g down v s L := by
  induction h with
  | nil => exact .nil
  | @step a L e h1 e0 e1 hu ha ih =>
    obtain ⟨e', q0, q1, q2, q3, q4⟩ := edge_back e0 e1
    have hw := Walk.step (e := e') (Walk.nil (g := g) (down := down) (s := (ends g e).2.1)) q0 q1 (by unfold upE at hu ⊢; rw [q2]; exact hu) q3
    rw [q4, ha, Int.zero_add] at hw
    have := walk_trans hw ih
    rwa [show wt g e' = wt g e by unfold wt; rw [q2], Int.add_comm] at this
theorem dist_sym {g : Graph} (hf : Fit g) (down : List Bool) {a b : Int} (ha : 0 ≤ a ∧ a < g.nodes) (hb : 0 ≤ b ∧ b < g.nodes) : gi (distL g down a) b = gi (distL g down b) a := by
  have h1 := (distL_spec hf down ha).1
  have h2 := (distL_spec hf down hb).1
  by_cases p : 0 ≤ gi (distL g down a) b
  · have q := h2.least _ _ (walk_back (h1.way b hb.1 hb.2 p))
    have r := h1.least _ _ (walk_back (h2.way a ha.1 ha.2 q.1))
    omega
  · by_cases q : 0 ≤ gi (distL g down b) a
    · have r := h1.least _ _ (walk_back (h2.way a ha.1 ha.2 q))
      omega
    · rw [h1.neg b hb.1 hb.2 (by omega), h2.neg a ha.1 ha.2 (by omega)]
theorem dist2 : distL g2_ [] 0 = [0, 7] ∧ distL g2_ [] 1 = [7, 0] := by
  have hf : Fit g2_ := fit_of _ (by decide)
  have f2 := from2
  rw [fromAV, if_pos ⟨by decide, by decide, by decide⟩] at f2
  simp only [AV.vec.injEq, true_and] at f2
  have e0 : distL g2_ [] 0 = [0, 7] := by
    obtain ⟨h1, h2⟩ := f2
    match hh : distL g2_ [] 0 with
    | [a, b] =>
      rw [hh] at h1
      simp only [iv, List.map_cons, List.map_nil, List.cons.injEq, AV.raw.injEq, Value.int.injEq, true_and, and_true] at h1
      rw [h1.1, h1.2]
    | [] => rw [hh] at h2; simp at h2
    | [_] => rw [hh] at h2; simp at h2
    | _ :: _ :: _ :: _ => rw [hh] at h2; simp at h2
  refine ⟨e0, ?_⟩
  have s1 := dist_sym hf [] (a := 1) (b := 0) (by decide) (by decide)
  rw [e0] at s1
  have z : gi (distL g2_ [] 1) 1 = 0 := by have := (distL_spec hf [] (s := 1) (by decide)).1.least 1 0 .nil; omega
  have hl := (distL_spec hf [] (s := 1) (by decide)).1.len
  match hh : distL g2_ [] 1 with
  | [a, b] =>
    rw [hh] at s1 z
    simp [gi] at s1 z
    rw [s1, z]
  | [] => rw [hh] at hl; simp [g2_] at hl
  | [_] => rw [hh] at hl; simp [g2_] at hl
  | _ :: _ :: _ :: _ => rw [hh] at hl; simp [g2_] at hl; omega
theorem walk_congr {g : Graph} {d1 d2 : List Bool} {s v L : Int} (h : ∀ e : Int, 0 ≤ e → e < 2 * g.links.length → upE d1 e = true → upE d2 e = true) (hw : Walk g d1 s v L) : Walk g d2 s v L := by
  induction hw with
  | nil => exact .nil
  | step _ e0 e1 hu ha ih => exact .step ih e0 e1 (h _ e0 e1 hu) ha
theorem distL_congr {g : Graph} (hf : Fit g) {d1 d2 : List Bool} {s : Int} (hs : 0 ≤ s ∧ s < g.nodes) (h : ∀ e : Int, 0 ≤ e → e < 2 * g.links.length → upE d1 e = upE d2 e) : distL g d1 s = distL g d2 s := by
  have hd := (distL_spec hf d1 hs).1
  refine (distL_eq ⟨hd.len, hd.neg, fun v v0 v1 hp => walk_congr (fun e e0 e1 hu => by rw [← h e e0 e1]; exact hu) (hd.way v v0 v1 hp), fun v L hw => hd.least v L (walk_congr (fun e e0 e1 hu => by rw [h e e0 e1]; exact hu) hw)⟩).symm
end Go.Proofs.Ytejmcijcdhoogaa
end

section
namespace Go.Proofs.Ytejmcijcdhoogaa
open Go Abs
attribute [local irreducible] EX exL exG exC exCq exS exV exIf exGd exGq exB
set_option maxHeartbeats 400000

def pre (w : Int → Int) (k : Int) : Int := ((List.range k.toNat).map fun (j : Nat) => w (j : Int)).sum
theorem pre_succ (w : Int → Int) {k : Int} (h : 0 ≤ k) : pre w (k + 1) = pre w k + w k := by
  unfold pre
  rw [show (k + 1).toNat = k.toNat + 1 by omega, List.range_succ, List.map_append, List.sum_append]
  simp [Int.toNat_of_nonneg h]
theorem mem_giA {α : Type} [Inhabited α] {l : List α} {x : α} (h : x ∈ l) : ∃ i : Int, 0 ≤ i ∧ i < l.length ∧ x = gi l i := by
  obtain ⟨n, hn, rfl⟩ := List.getElem_of_mem h
  exact ⟨n, by omega, by omega, by rw [gi_get (by omega)]; simp⟩
structure RowG (g : Graph) (w : Int → Int) : Prop where
  few : g.links.length ≤ 29
  nodes : g.nodes = g.links.length + 1
  link : ∀ k : Int, 0 ≤ k → k < g.links.length → gi g.links k = ⟨k, k + 1, w k, 0⟩
  w1 : ∀ k : Int, 0 ≤ k → k < g.links.length → 1 ≤ w k ∧ w k ≤ 1024
theorem checkFrom_fine (g : Graph) : ∀ (l : List Link) (i : Int), (∀ x ∈ l, linkErr g x = 0) → checkFrom g l i = (-1, 0)
  | [], i, _ => rfl
  | x :: l, i, h => by
    unfold checkFrom
    rw [if_pos (h x (by simp))]
    exact checkFrom_fine g l (i + 1) fun y hy => h y (by simp [hy])
theorem RowG.ok {g : Graph} {w : Int → Int} (h : RowG g w) : (check g).2 = 0 := by
  have h1 := h.few
  have h2 := h.nodes
  unfold check
  rw [if_neg (by omega), if_neg (by omega), checkFrom_fine]
  intro x hx
  obtain ⟨k, k0, k1, rfl⟩ := mem_giA hx
  have hw := h.w1 k k0 k1
  rw [h.link k k0 k1]
  unfold linkErr
  dsimp only
  rw [if_neg (by omega), if_neg (by omega)]
theorem RowG.step {g : Graph} {w : Int → Int} (h : RowG g w) {e : Int} (e0 : 0 ≤ e) (e1 : e < 2 * g.links.length) : wt g e = w (e / 2) ∧ (((ends g e).1 = e / 2 ∧ (ends g e).2.1 = e / 2 + 1) ∨ ((ends g e).1 = e / 2 + 1 ∧ (ends g e).2.1 = e / 2)) := by
  have hl := h.link (e / 2) (by omega) (by omega)
  refine ⟨by rw [wt, hl], ?_⟩
  rw [ends, if_neg (by omega), hl]
  split
  · exact .inr ⟨rfl, rfl⟩
  · exact .inl ⟨rfl, rfl⟩
theorem RowG.least {g : Graph} {w : Int → Int} (h : RowG g w) {down : List Bool} {gone : Int} (hup : ∀ e : Int, 0 ≤ e → e < 2 * g.links.length → upE down e = true → e / 2 ≠ gone) {s v L : Int} (hw : Walk g down s v L) :
    (pre w v - pre w s ≤ L ∧ pre w s - pre w v ≤ L) ∧ (v ≤ gone ↔ s ≤ gone) := by
  induction hw with
  | nil => exact ⟨⟨by omega, by omega⟩, Iff.rfl⟩
  | @step a L e _ e0 e1 hu ha ih =>
    obtain ⟨h1, h2⟩ := h.step e0 e1
    have hg := hup e e0 e1 hu
    have hp := pre_succ w (k := e / 2) (by omega)
    have hw1 := h.w1 (e / 2) (by omega) (by omega)
    rw [h1]
    rcases h2 with ⟨h3, h4⟩ | ⟨h3, h4⟩
    · rw [h4]
      rw [← ha, h3] at ih
      refine ⟨⟨by omega, by omega⟩, ?_⟩
      rw [← ih.2]
      omega
    · rw [h4]
      rw [← ha, h3] at ih
      refine ⟨⟨by omega, by omega⟩, ?_⟩
      rw [← ih.2]
      omega
end Go.Proofs.Ytejmcijcdhoogaa
end

section
namespace Go.Proofs.Ytejmcijcdhoogaa
open Go Abs
attribute [local irreducible] EX exL exG exC exCq exS exV exIf exGd exGq exB

theorem hpre_row {H : AHeap} {b n cap e sz : Nat} {cs : List AV} (hH : H b = some (.row cs cap e sz)) (h1 : n ≤ cap) (h2 : n * sz ≤ cs.length) : hpre H e sz (.v (.raw (.slice (some ⟨b, 0, none⟩) n cap))) = some (some b, n, cap, cs.take (n * sz)) := by
  simp only [hpre, hH, h1, h2, and_self, if_true]
theorem relax_slice {P : Program} {f : FuncId} {args : List AV} {H : AHeap} {Q : AV → AHeap → Prop} {ds : List AV} {n : Nat} (h : Q (.vec false ds n) H) (hne : n ≠ 0 → ds ≠ [])
    (k : ACalls P f args H fun r H1 => ∃ b cap cap' e sz, r = .raw (.slice (some ⟨b, 0, none⟩) n cap) ∧ H1 b = some (.row ds cap' e sz) ∧ H b = none ∧ (∀ b' o, H b' = some o → H1 b' = some o) ∧ n ≤ cap ∧ cap ≤ cap') : ACalls P f args H Q := by
  refine ACalls.relax (k.mono ?_)
  rintro r H1 ⟨b, cap, cap', e, sz, rfl, h1, h2, h3, h4, h5⟩
  refine ⟨fun x => x = b, H, _, h3, ?_, Fz.slice (o := 0) (ds := ds) rfl h1 h4 h5 (fun j u hj => by simpa using hj) hne (FzL.refl _ _ _), h⟩
  rintro x rfl
  exact ⟨by rw [h1]; simp, h2⟩
theorem upd_base {H : AHeap} {b : Nat} {o : HObj} (hb : H b = none) : ∀ b' o', H b' = some o' → upd H b (some o) b' = some o' := by
  intro b' o' h
  rw [upd_ne _ _ (by rintro rfl; rw [hb] at h; cases h)]
  exact h

def dv (l : List Int) : AV := .vec false (l.map iv) l.length
theorem rd_range {f : Nat → AV} {n m : Nat} {i : Int} (h0 : 0 ≤ i) (h1 : i < n) : rdV ((List.range n).map f) (i.toNat * 1) m false = some (f i.toNat) := by
  have hlt : i.toNat < n := by omega
  simp [rdV, hlt]
theorem exS_ints' {P : Program} {s : S} {dst : Option Nat} {e by_ d : Nat} {nly : Bool} {l m : List Int} {r : List KI} {K : AEx → S → Prop} (hg : get s.loc d = some (.arr l.isEmpty (l.map iv) l.length e 1)) (h2 : (l.length + m.length) * by_ ≤ 140737488355328) (h3 : l.length + m.length ≤ maxLen)
    (k : EX P r K (s.arr d dst (l ++ m).isEmpty ((l ++ m).map iv) (l ++ m).length e 1)) : exS P (appq s dst e 1 by_ (.own d) (.v (.vec nly (m.map iv) m.length))) r K := by
  rw [appq_own hg (by simp) h2 h3]
  have e1 : (l.isEmpty && m.length == 0) = (l ++ m).isEmpty := by cases l <;> cases m <;> rfl
  have e2 : l.map iv ++ m.map iv = (l ++ m).map iv := by simp
  have e3 : l.length + m.length = (l ++ m).length := by simp
  rw [e1, e2, e3, exS_some]
  exact k
theorem exS_avs {P : Program} {s : S} {dst : Option Nat} {e by_ d : Nat} {nly : Bool} {l : List AV} {x : AV} {r : List KI} {K : AEx → S → Prop} (hg : get s.loc d = some (.arr l.isEmpty l l.length e 1)) (h2 : (l.length + 1) * by_ ≤ 140737488355328) (h3 : l.length + 1 ≤ maxLen)
    (k : EX P r K (s.arr d dst (l ++ [x]).isEmpty (l ++ [x]) (l ++ [x]).length e 1)) : exS P (appq s dst e 1 by_ (.own d) (.v (.vec nly [x] 1))) r K := by
  rw [appq_own hg rfl h2 h3]
  have e1 : (l.isEmpty && (1 : Nat) == 0) = (l ++ [x]).isEmpty := by cases l <;> rfl
  have e3 : l.length + 1 = (l ++ [x]).length := by simp
  rw [e1, e3, exS_some]
  exact k
theorem range_succ_map {f : Nat → AV} {i : Int} (h0 : 0 ≤ i) : (List.range (i + 1).toNat).map f = (List.range i.toNat).map f ++ [f i.toNat] := by
  rw [show (i + 1).toNat = i.toNat + 1 by omega, List.range_succ, List.map_append]
  rfl
def RowAt (H H' : AHeap) (bt e : Nat) (sv : AV) (l : List AV) (ob : Option Nat) : Prop := (ob = none ∧ l = [] ∧ sv = .vec true [] 0) ∨ ∃ b cap, ob = some b ∧ sv = .raw (.slice (some ⟨b, 0, none⟩) l.length cap) ∧ H' b = some (.row l cap e 1) ∧ b ≠ bt ∧ H b = none ∧ l.length ≤ cap
theorem RowAt.pre {H H' : AHeap} {bt e : Nat} {sv : AV} {l : List AV} {ob : Option Nat} (h : RowAt H H' bt e sv l ob) : ∃ cap, hpre H' e 1 (.v sv) = some (ob, l.length, cap, l) := by
  rcases h with ⟨rfl, rfl, rfl⟩ | ⟨b, cap, rfl, rfl, h1, h2, h3, h4⟩
  · exact ⟨0, rfl⟩
  · refine ⟨cap, ?_⟩
    rw [hpre_row h1 h4 (by omega), Nat.mul_one, List.take_length]
theorem RowAt.some_of {H H' : AHeap} {bt e : Nat} {sv : AV} {l : List AV} {ob : Option Nat} (h : RowAt H H' bt e sv l ob) {b : Nat} (hb : ob = some b) : b ≠ bt ∧ H b = none ∧ H' b ≠ none := by
  rcases h with ⟨rfl, rfl, rfl⟩ | ⟨b', cap, rfl, rfl, h1, h2, h3, h4⟩
  · cases hb
  · injection hb with hb
    subst hb
    exact ⟨h2, h3, by rw [h1]; simp⟩
theorem row_step {H H' : AHeap} {bt e : Nat} {sv : AV} {l : List AV} {ob : Option Nat} (h : RowAt H H' bt e sv l ob) (base : ∀ b o, H b = some o → H' b = some o) (hbt : H' bt ≠ none) {b cap : Nat} (hb : ob = some b ∨ H' b = none) (hc : l.length + 1 ≤ cap) (x : AV)
    {H1 : AHeap} (hH1 : H1 = upd (delH H' ob) b (some (.row (l ++ [x]) cap e 1))) :
    RowAt H H1 bt e (.raw (.slice (some ⟨b, 0, none⟩) (l.length + 1) cap)) (l ++ [x]) (some b) ∧ (∀ b o, H b = some o → H1 b = some o) ∧ (∀ b' o, H' b' = some o → ob ≠ some b' → H1 b' = some o ∧ b' ≠ b) := by
  have hne : ∀ b', H' b' ≠ none → ob ≠ some b' → b' ≠ b := by
    rintro b' h1 h2 rfl
    rcases hb with hb | hb
    · exact h2 hb
    · exact h1 hb
  have hobt : ob ≠ some bt := fun hh => (h.some_of hh).1 rfl
  have hbn : H b = none := by
    rcases hb with hb | hb
    · exact (h.some_of hb).2.1
    · cases hq : H b with
      | none => rfl
      | some o => rw [base b o hq] at hb; cases hb
  have keep : ∀ b' o, H' b' = some o → ob ≠ some b' → H1 b' = some o ∧ b' ≠ b := by
    intro b' o h1 h2
    have h3 := hne b' (by rw [h1]; simp) h2
    refine ⟨?_, h3⟩
    rw [hH1, upd_ne _ _ (Ne.symm h3)]
    cases ob with
    | none => exact h1
    | some b0 => exact (upd_ne _ _ (by rintro rfl; exact h2 rfl)).trans h1
  have hbbt : b ≠ bt := fun e => hne bt hbt hobt e.symm
  refine ⟨.inr ⟨b, cap, rfl, by simp, by rw [hH1, upd_self], hbbt, hbn, by simpa using hc⟩, fun b' o h1 => ?_, keep⟩
  refine (keep b' o (base b' o h1) fun hh => ?_).1
  have := (h.some_of hh).2.1
  rw [this] at h1; cases h1
theorem RowAt.keep {H H' H1 : AHeap} {bt e : Nat} {sv : AV} {l : List AV} {ob : Option Nat} (h : RowAt H H' bt e sv l ob) (hk : ∀ b, ob = some b → H1 b = H' b) : RowAt H H1 bt e sv l ob := by
  rcases h with h | ⟨b, cap, rfl, rfl, h1, h2, h3, h4⟩
  · exact .inl h
  · exact .inr ⟨b, cap, rfl, rfl, by rw [hk b rfl]; exact h1, h2, h3, h4⟩
def OnH (H H' : AHeap) (e sz : Nat) (v : AV) (cs : List AV) (n : Nat) : Prop := (∀ b o, H b = some o → H' b = some o) ∧ n * sz = cs.length ∧ ∃ b cap, v = .raw (.slice (some ⟨b, 0, none⟩) n cap) ∧ H' b = some (.row cs cap e sz) ∧ H b = none ∧ n ≤ cap
theorem OnH.first {H : AHeap} {b e sz n : Nat} {cs : List AV} (hb : H b = none) (hl : n * sz = cs.length) : OnH H (upd H b (some (.row cs n e sz))) e sz (.raw (.slice (some ⟨b, 0, none⟩) n n)) cs n :=
  ⟨upd_base hb, hl, b, n, rfl, upd_self _ _ _, hb, Nat.le_refl _⟩
theorem OnH.app {H H' : AHeap} {e sz by_ n m : Nat} {v : AV} {cs ds : List AV} {nly : Bool} {dst : Option Nat} {s : S} {K : S → Prop} (h : OnH H H' e sz v cs n) (hs : s.H = H') (h1 : ds.length = m * sz) (h2 : (n + m) * by_ ≤ 140737488355328) (h3 : n + m ≤ maxLen)
    (k : ∀ H1 v1, OnH H H1 e sz v1 (cs ++ ds) (n + m) → K ({ s with H := H1 }.put dst (.v v1))) : hapK e sz by_ (hpre H' e sz (.v v)) (.v v) (.v (.vec nly ds m)) dst s K := by
  subst hs
  obtain ⟨hbase, hl, b, cap, rfl, hat, hbn, hcap⟩ := h
  rw [hpre_row hat hcap (by omega), hl, List.take_length]
  refine ⟨h1, h2, h3, fun hm => ?_, fun hm b2 cap' hb2 hc => ?_⟩
  · subst hm
    rw [Nat.zero_mul] at h1
    obtain rfl := List.eq_nil_of_length_eq_zero h1
    exact k s.H _ ⟨hbase, by rw [List.append_nil]; exact hl, b, cap, rfl, by rw [List.append_nil]; exact hat, hbn, hcap⟩
  · have hb2' : H b2 = none := by
      rcases hb2 with hb2 | hb2
      · injection hb2 with hb2; rw [← hb2]; exact hbn
      · cases hq : H b2 with
        | none => rfl
        | some o => rw [hbase b2 o hq] at hb2; cases hb2
    refine k _ _ ⟨fun b' o ho => ?_, by rw [List.length_append, h1, ← hl, Nat.add_mul], b2, cap', rfl, upd_self _ _ _, hb2', hc⟩
    rw [upd_ne _ _ (by rintro rfl; rw [hb2'] at ho; cases ho)]
    exact (upd_ne _ _ (by rintro rfl; rw [hbn] at ho; cases ho)).trans (hbase b' o ho)
def OnN (H H' : AHeap) (e sz : Nat) (v : AV) (cs : List AV) (n : Nat) : Prop := (v = .vec true [] 0 ∧ cs = [] ∧ n = 0 ∧ H' = H) ∨ OnH H H' e sz v cs n
theorem OnN.nil (H : AHeap) (e sz : Nat) : OnN H H e sz (.vec true [] 0) [] 0 := .inl ⟨rfl, rfl, rfl, rfl⟩
theorem OnN.app {H H' : AHeap} {e sz by_ n m : Nat} {v : AV} {cs ds : List AV} {nly : Bool} {dst : Option Nat} {s : S} {K : S → Prop} (h : OnN H H' e sz v cs n) (hs : s.H = H') (h1 : ds.length = m * sz) (h2 : (n + m) * by_ ≤ 140737488355328) (h3 : n + m ≤ maxLen)
    (k : ∀ H1 v1, OnN H H1 e sz v1 (cs ++ ds) (n + m) → (0 < m → OnH H H1 e sz v1 (cs ++ ds) (n + m)) → K ({ s with H := H1 }.put dst (.v v1))) : hapK e sz by_ (hpre H' e sz (.v v)) (.v v) (.v (.vec nly ds m)) dst s K := by
  rcases h with ⟨rfl, rfl, rfl, rfl⟩ | h
  · subst hs
    refine ⟨h1, h2, h3, fun hm => ?_, fun hm b2 cap' hb2 hc => ?_⟩
    · subst hm
      rw [Nat.zero_mul] at h1
      obtain rfl := List.eq_nil_of_length_eq_zero h1
      exact k s.H _ (.inl ⟨rfl, rfl, rfl, rfl⟩) (fun h => absurd h (by decide))
    · have hb2' : s.H b2 = none := by
        rcases hb2 with hb2 | hb2
        · cases hb2
        · exact hb2
      have hh : OnH s.H (upd s.H b2 (some (.row ([] ++ ds) cap' e sz))) e sz (.raw (.slice (some ⟨b2, 0, none⟩) (0 + m) cap')) ([] ++ ds) (0 + m) := ⟨upd_base hb2', by rw [List.nil_append, h1, Nat.zero_add], b2, cap', rfl, upd_self _ _ _, hb2', hc⟩
      exact k _ _ (.inr hh) fun _ => hh
  · exact OnH.app h hs h1 h2 h3 fun H1 v1 hh => k H1 v1 (.inr hh) fun _ => hh
theorem OnH.fz {H H' : AHeap} {e sz n : Nat} {v : AV} {cs : List AV} (h : OnH H H' e sz v cs n) (hz : 0 < sz) : ∃ H1, fzL H' [v] = ([.vec false cs n], H1) ∧ ∀ b o, H b = some o → H1 b = some o := by
  obtain ⟨hbase, hl, b, cap, rfl, hat, hbn, hcap⟩ := h
  refine ⟨upd H' b none, ?_, fun b' o ho => ?_⟩
  · simp only [fzL, hat]
    rw [if_pos ⟨by omega, hz, hcap, Nat.le_refl _⟩, hl, List.take_length]
  · rw [upd_ne _ _ (by rintro rfl; rw [hbn] at ho; cases ho)]
    exact hbase b' o ho
theorem OnH.done {H H' : AHeap} {e sz n : Nat} {v : AV} {cs : List AV} (h : OnH H H' e sz v cs n) : ∃ b cap cap' e sz, v = .raw (.slice (some ⟨b, 0, none⟩) n cap) ∧ H' b = some (.row cs cap' e sz) ∧ H b = none ∧ (∀ b' o, H b' = some o → H' b' = some o) ∧ n ≤ cap ∧ cap ≤ cap' := by
  obtain ⟨hbase, _, b, cap, rfl, hat, hbn, hcap⟩ := h
  exact ⟨b, cap, cap, e, sz, rfl, hat, hbn, hbase, hcap, Nat.le_refl _⟩
end Go.Proofs.Ytejmcijcdhoogaa
end

section
namespace Go.Proofs.Ytejmcijcdhoogaa
open Go Abs
attribute [local irreducible] EX exL exG exC exCq exS exV exIf exGd exGq exB
set_option maxHeartbeats 400000

theorem cloneInts_c (nl : Bool) (l : List Int) (hl : l.length * 8 ≤ 140737488355328) (hn : nl = true → l = []) (H : AHeap) : APure Try.prog 110 [.vec nl (l.map iv) l.length] H (.vec nl (l.map iv) l.length) := by
  intro Q h
  cases nl with
  | true =>
    obtain rfl := hn rfl
    refine ACalls.of_code fn_slices_Clone_int_int ?_
    simp -implicitDefEqProofs only [sc_slices_Clone_int_int, go_sem, seval]
    repeat' (first | simp -implicitDefEqProofs only [go_sem, seval] | simp -implicitDefEqProofs (disch := omega) only [ars, if_pos, exV_some, Option.map_some] | ((with_reducible first | apply exB_dec | apply exB_intro) <;> intro _))
    exact h
  | false =>
    refine relax_slice h (fun h0 hh => h0 (by simpa using hh)) ?_
    refine ACalls.of_code fn_slices_Clone_int_int ?_
    simp -implicitDefEqProofs only [sc_slices_Clone_int_int, go_sem, seval]
    repeat' (first | simp -implicitDefEqProofs only [go_sem, seval] | simp -implicitDefEqProofs (disch := omega) only [ars, if_pos, exV_some, Option.map_some] | ((with_reducible first | apply exB_dec | apply exB_intro) <;> intro _))
    intro b hb
    rw [hpre_row (upd_self _ _ _) (Nat.le_refl _) (by simp)]
    refine ⟨by simp, by omega, by simp only [maxLen]; omega, fun hm => ?_, fun hm b2 cap hb2 hcap => ?_⟩
    · simp -implicitDefEqProofs only [go_sem, seval]
      have : l = [] := List.eq_nil_of_length_eq_zero hm
      subst this
      exact ⟨b, 0, 0, _, _, rfl, upd_self _ _ _, hb, upd_base hb, Nat.le_refl _, Nat.le_refl _⟩
    · simp -implicitDefEqProofs only [go_sem, seval]
      have hb2' : H b2 = none := by
        rcases hb2 with hb2 | hb2
        · injection hb2 with hb2; rw [← hb2]; exact hb
        · by_cases e : b = b2
          · rw [← e]; exact hb
          · have hb2 : upd H b _ b2 = none := hb2
            rwa [upd_ne _ _ e] at hb2
      refine ⟨b2, cap, cap, _, _, by simp, upd_self _ _ _, hb2', fun b' o' ho => ?_, by simpa using hcap, Nat.le_refl _⟩
      rw [upd_ne _ _ (by rintro rfl; rw [hb2'] at ho; cases ho), upd_ne _ _ (by rintro rfl; rw [hb] at ho; cases ho), upd_ne _ _ (by rintro rfl; rw [hb] at ho; cases ho)]
      exact ho
theorem cloneLinks_c (nl : Bool) (l : List Link) (hl : l.length * 32 ≤ 140737488355328) (hn : nl = true → l = []) (H : AHeap) : APure Try.prog 66 [.vec nl (rows l) l.length] H (.vec nl (rows l) l.length) := by
  intro Q h
  cases nl with
  | true =>
    obtain rfl := hn rfl
    refine ACalls.of_code fn_slices_Clone_api_Link_api_Link ?_
    simp -implicitDefEqProofs only [sc_slices_Clone_api_Link_api_Link, go_sem, seval]
    repeat' (first | simp -implicitDefEqProofs only [go_sem, seval] | simp -implicitDefEqProofs (disch := omega) only [ars, if_pos, exV_some, Option.map_some] | ((with_reducible first | apply exB_dec | apply exB_intro) <;> intro _))
    exact h
  | false =>
    have hrl := rows_length l
    rw [Link.sz_eq] at hrl
    refine relax_slice h (fun h0 hh => h0 (by rw [hh] at hrl; simp at hrl; omega)) ?_
    refine ACalls.of_code fn_slices_Clone_api_Link_api_Link ?_
    simp -implicitDefEqProofs only [sc_slices_Clone_api_Link_api_Link, go_sem, seval]
    repeat' (first | simp -implicitDefEqProofs only [go_sem, seval] | simp -implicitDefEqProofs (disch := omega) only [ars, if_pos, exV_some, Option.map_some] | ((with_reducible first | apply exB_dec | apply exB_intro) <;> intro _))
    intro b hb
    rw [hpre_row (upd_self _ _ _) (Nat.le_refl _) (by simp)]
    refine ⟨by omega, by omega, by simp only [maxLen]; omega, fun hm => ?_, fun hm b2 cap hb2 hcap => ?_⟩
    · simp -implicitDefEqProofs only [go_sem, seval]
      have : l = [] := List.eq_nil_of_length_eq_zero hm
      subst this
      exact ⟨b, 0, 0, _, _, rfl, upd_self _ _ _, hb, upd_base hb, Nat.le_refl _, Nat.le_refl _⟩
    · simp -implicitDefEqProofs only [go_sem, seval]
      have hb2' : H b2 = none := by
        rcases hb2 with hb2 | hb2
        · injection hb2 with hb2; rw [← hb2]; exact hb
        · by_cases e : b = b2
          · rw [← e]; exact hb
          · have hb2 : upd H b _ b2 = none := hb2
            rwa [upd_ne _ _ e] at hb2
      refine ⟨b2, cap, cap, _, _, by simp, upd_self _ _ _, hb2', fun b' o' ho => ?_, by simpa using hcap, Nat.le_refl _⟩
      rw [upd_ne _ _ (by rintro rfl; rw [hb2'] at ho; cases ho), upd_ne _ _ (by rintro rfl; rw [hb] at ho; cases ho), upd_ne _ _ (by rintro rfl; rw [hb] at ho; cases ho)]
      exact ho

end Go.Proofs.Ytejmcijcdhoogaa
end

section
namespace Go.Proofs.Ytejmcijcdhoogaa
open Go Abs
attribute [local irreducible] EX exL exG exC exCq exS exV exIf exGd exGq exB
set_option maxHeartbeats 800000

noncomputable def toR (g : Graph) (n : Nat) : List AV := (List.range n).map fun (k : Nat) => dv (distL g [] (k : Int))
noncomputable def nextRow (g : Graph) (k : Int) (n : Nat) : List AV := (List.range n).map fun (j : Nat) => ints (nextL g [] (distL g [] k) (j : Int))
noncomputable def nextR (g : Graph) (m n : Nat) : List AV := (List.range n).map fun (k : Nat) => .vec (nextRow g (k : Int) m).isEmpty (nextRow g (k : Int) m) (nextRow g (k : Int) m).length
noncomputable def tabCells (g : Graph) : List AV := [iv g.nodes, .vec g.nl (rows g.links) g.links.length, .vec false (toR g g.nodes.toNat) g.nodes.toNat, .vec false (nextR g g.nodes.toNat g.nodes.toNat) g.nodes.toNat]
noncomputable def tab (g : Graph) : AV := .box (tabCells g) 0

structure TInv (H H' : AHeap) (bt tt : Nat) (c0 c1 : AV) (l2 l3 : List AV) : Prop where
  new : H bt = none
  base : ∀ b o, H b = some o → H' b = some o
  at_ : ∃ sv2 sv3 o2 o3, H' bt = some (.cells [c0, c1, sv2, sv3] tt) ∧ RowAt H H' bt 25 sv2 l2 o2 ∧ RowAt H H' bt 98 sv3 l3 o3 ∧ ∀ b, o2 = some b → o3 ≠ some b

theorem new_c (g : Graph) (hb : g.links.length * 32 ≤ 140737488351232) (hn : g.nl = true → g.links = []) (H : AHeap) : APure Try.prog 39 [g.av] H (if (check g).2 = 0 then .tup [tab g, iv 0] else .tup [.raw (.pointer none), iv (check g).2]) := by
  intro Q h
  by_cases hc : (check g).2 = 0
  · rw [if_pos hc] at h
    have hf := fit_of g hc
    have n1 := hf.n1
    have n2 := hf.n2
    obtain ⟨N, hN⟩ : ∃ N, N = g.nodes.toNat := ⟨_, rfl⟩
    refine ACalls.relax (ACalls.mono (Q := fun r H1 => ∃ bt tt, r = .tup [.raw (.pointer (some ⟨bt, 0, none⟩)), iv 0] ∧ TInv H H1 bt tt (iv g.nodes) (.vec g.nl (rows g.links) g.links.length) (toR g N) (nextR g N N)) ?_ ?_)
    · have tc := fun n H => to_c g true [] n H
      have tov : ∀ n : Int, 0 ≤ n → n < g.nodes → fromAV g [] n = dv (distL g [] n) := fun n n0 n1 => by rw [fromAV, if_pos ⟨hc, n0, n1⟩]; rfl
      have nx : ∀ (k j : Int), 0 ≤ k ∧ k < g.nodes → ∀ H, APure Try.prog 68 [.agg [iv g.nodes, .vec g.nl (rows g.links) g.links.length], .vec true [] 0, dv (distL g [] k), iv j] H (ints (nextL g [] (distL g [] k) j)) :=
        fun k j k0 H => next_c g true [] false (distL g [] k) (by have := fromL_i64 g [] k; rwa [fromL, if_pos ⟨hc, k0⟩] at this) j H
      have cl := cloneLinks_c g.nl g.links (by omega) hn
      simp only [Graph.av, blv, List.map_nil, List.length_nil] at tc
      refine ACalls.of_code fn_tables_New ?_
      simp -implicitDefEqProofs only [sc_tables_New, Graph.av, go_sem, seval]
      refine exC_pure (check_c g _) ?_
      simp -implicitDefEqProofs only [pairI, go_sem, seval]
      repeat' (first | simp -implicitDefEqProofs only [go_sem, seval] | simp -implicitDefEqProofs (disch := omega) only [hc, ars, if_pos, exV_some, Option.map_some] | ((with_reducible first | apply exB_dec | apply exB_intro) <;> intro _) | with_reducible refine exC_pure (cl _) ?_ | with_reducible refine exCq_pure (cl _) ?_)
      intro bt hbt
      have first : TInv H (upd H bt (some (.cells [iv g.nodes, .vec g.nl (rows g.links) g.links.length, .vec true [] 0, .vec true [] 0] 126))) bt 126 (iv g.nodes) (.vec g.nl (rows g.links) g.links.length) (toR g 0) (nextR g N 0) :=
        ⟨hbt, upd_base hbt, _, _, none, none, upd_self _ _ _, .inl ⟨rfl, rfl, rfl⟩, .inl ⟨rfl, rfl, rfl⟩, by simp⟩
      refine exL_modH (fun a : Int × AHeap => [(29, .v (iv a.1))]) (fun _ => []) (fun a => a.2)
        (fun a => 0 ≤ a.1 ∧ a.1 ≤ g.nodes ∧ TInv H a.2 bt 126 (iv g.nodes) (.vec g.nl (rows g.links) g.links.length) (toR g a.1.toNat) (nextR g N a.1.toNat)) (fun a => (g.nodes - a.1).toNat) (0, _) rfl ⟨by simp, by dsimp only; omega, first⟩ ?_
      rintro ⟨i, H'⟩ ⟨i0, i1, hT⟩ ih
      dsimp only at i0 i1 hT ih
      simp only [S.up, S.upH, ups, Abs.put, Nat.reduceEqDiff, ↓reduceIte, Nat.reduceAdd] at ih
      obtain ⟨hbt0, hbase, sv2, sv3, o2, o3, hat, hr2, hr3, hdis⟩ := hT
      simp -implicitDefEqProofs only [congrArg KI.code sc_tables_New_L1.eq_1, go_sem, seval]
      by_cases hi : i < g.nodes
      · have tci := tc i H'
        rw [tov i i0 hi] at tci
        repeat' (first | simp -implicitDefEqProofs only [go_sem, seval] | simp -implicitDefEqProofs (disch := omega) only [hat, ars, if_pos, exV_some, Option.map_some] | ((with_reducible first | apply exB_dec | apply exB_intro) <;> intro _) | with_reducible refine exC_pure (tci) ?_ | with_reducible refine exCq_pure (tci) ?_)
        all_goals first | (exfalso; omega) | skip
        obtain ⟨fr, hfr⟩ : ∃ fr : Int → List AV, fr = fun j => nextRow g i j.toNat := ⟨_, rfl⟩
        have fr0 : fr 0 = [] := by rw [hfr]; rfl
        have frl : ∀ j : Int, 0 ≤ j → j ≤ g.nodes → (fr j).length = j.toNat := fun j _ _ => by rw [hfr]; simp [nextRow]
        have frs : ∀ j : Int, 0 ≤ j → fr (j + 1) = fr j ++ [ints (nextL g [] (distL g [] i) j)] := fun j j0 => by
          rw [hfr]
          simp only [nextRow]
          rw [range_succ_map j0]
          simp only [Int.toNat_of_nonneg j0]
        have frN : fr g.nodes = nextRow g i N := by rw [hfr, hN]
        clear hfr
        refine exL_mod (fun j : Int => [(40, .v (iv j))]) (fun j => [(52, .arr (fr j).isEmpty (fr j) (fr j).length 25 1)]) (fun j => 0 ≤ j ∧ j ≤ g.nodes) (fun j => (g.nodes - j).toNat) 0 (by rw [fr0]; rfl) ⟨by omega, by omega⟩ ?_
        rintro j ⟨j0, j1⟩ ih2
        simp only [S.up, S.upH, ups, Abs.put, Nat.reduceEqDiff, ↓reduceIte, Nat.reduceAdd] at ih2
        simp -implicitDefEqProofs only [congrArg KI.code sc_tables_New_L0.eq_1, go_sem, seval]
        by_cases hj : j < g.nodes
        · have nxt := ih2 (j + 1) ⟨by omega, by omega⟩ (by omega)
          have nxj := nx i j ⟨i0, hi⟩ H'
          have hfl := frl j j0 j1
          rw [frs j j0] at nxt
          repeat' (first | simp -implicitDefEqProofs only [go_sem, seval] | simp -implicitDefEqProofs (disch := omega) only [hat, ints, ars, if_pos, exV_some, Option.map_some] | ((with_reducible first | apply exB_dec | apply exB_intro) <;> intro _) | with_reducible refine exC_pure (nxj) ?_ | with_reducible refine exCq_pure (nxj) ?_)
          all_goals first | (exfalso; omega) | skip
          refine exS_avs rfl (by omega) (by simp only [maxLen]; omega) ?_
          repeat' (first | simp -implicitDefEqProofs only [go_sem, seval] | simp -implicitDefEqProofs (disch := omega) only [ars, if_pos, exV_some, Option.map_some] | ((with_reducible first | apply exB_dec | apply exB_intro) <;> intro _))
          exact nxt
        · obtain rfl : j = g.nodes := by omega
          rw [frN]
          repeat' (first | simp -implicitDefEqProofs only [go_sem, seval] | simp -implicitDefEqProofs (disch := omega) only [hat, dv, ars, if_pos, exV_some, Option.map_some] | ((with_reducible first | apply exB_dec | apply exB_intro) <;> intro _))
          all_goals first | (exfalso; omega) | skip
          have lR : (toR g i.toNat).length = i.toNat := by simp [toR]
          have lN : (nextR g N i.toNat).length = i.toNat := by simp [nextR]
          have eR : toR g (i + 1).toNat = toR g i.toNat ++ [dv (distL g [] i)] := by
            simp only [toR]; rw [range_succ_map i0]; simp only [Int.toNat_of_nonneg i0]
          have eN : nextR g N (i + 1).toNat = nextR g N i.toNat ++ [.vec (nextRow g i N).isEmpty (nextRow g i N) (nextRow g i N).length] := by
            simp only [nextR]; rw [range_succ_map i0]; simp only [Int.toNat_of_nonneg i0]
          obtain ⟨cap2, hp2⟩ := hr2.pre
          rw [hp2]
          have hl2 : (toR g i.toNat).length + 1 ≤ maxLen := by rw [lR]; simp only [maxLen]; omega
          have hl2' : ((toR g i.toNat).length + 1) * 24 ≤ 140737488355328 := by rw [lR]; omega
          refine hapK_pos rfl hl2' hl2 (by omega) ?_
          intro b2 cap hb2 hcap
          simp only [S.newhd]
          have hbtn : H' bt ≠ none := by rw [hat]; simp
          obtain ⟨H1, hH1⟩ : ∃ H1, H1 = upd (delH H' o2) b2 (some (.row (toR g i.toNat ++ [dv (distL g [] i)]) cap 25 1)) := ⟨_, rfl⟩
          obtain ⟨r2, base1, keep1⟩ := row_step hr2 hbase hbtn hb2 hcap (dv (distL g [] i)) hH1
          obtain ⟨h1bt, nebt⟩ := keep1 bt _ hat (fun hh => (hr2.some_of hh).1 rfl)
          have r3 : RowAt H H1 bt 98 sv3 (nextR g N i.toNat) o3 := hr3.keep fun b hb => by
            have h0 := (hr3.some_of hb).2.2
            cases hq : H' b with
            | none => exact absurd hq h0
            | some o => exact (keep1 b o hq (fun hh => hdis b hh hb)).1
          have hd3 : o3 ≠ some b2 := fun hh => by
            have h0 := (hr3.some_of hh).2.2
            cases hq : H' b2 with
            | none => exact h0 hq
            | some o => exact (keep1 b2 o hq (fun hh' => hdis b2 hh' hh)).2 rfl
          have h1b2 : H1 b2 = some (.row (toR g i.toNat ++ [dv (distL g [] i)]) cap 25 1) := by rw [hH1, upd_self]
          rw [show upd (delH H' o2) b2 (some (.row (toR g i.toNat ++ [.vec false ((distL g [] i).map iv) (distL g [] i).length]) cap 25 1)) = H1 from hH1.symm]
          clear hH1 keep1 hb2 hp2
          repeat' (first | simp -implicitDefEqProofs only [go_sem, seval] | simp -implicitDefEqProofs (disch := omega) only [h1bt, ars, if_pos, exV_some, Option.map_some] | ((with_reducible first | apply exB_dec | apply exB_intro) <;> intro _))
          obtain ⟨cap3, hp3⟩ := r3.pre
          rw [hp3]
          have hl3 : (nextR g N i.toNat).length + 1 ≤ maxLen := by rw [lN]; simp only [maxLen]; omega
          have hl3' : ((nextR g N i.toNat).length + 1) * 24 ≤ 140737488355328 := by rw [lN]; omega
          refine hapK_pos rfl hl3' hl3 (by omega) ?_
          intro b3 capn hb3 hcap3
          simp only [S.newhd]
          have h1btn : H1 bt ≠ none := by rw [h1bt]; simp
          obtain ⟨H2, hH2⟩ : ∃ H2, H2 = upd (delH H1 o3) b3 (some (.row (nextR g N i.toNat ++ [.vec (nextRow g i N).isEmpty (nextRow g i N) (nextRow g i N).length]) capn 98 1)) := ⟨_, rfl⟩
          obtain ⟨r3', base2, keep2⟩ := row_step r3 base1 h1btn hb3 hcap3 (.vec (nextRow g i N).isEmpty (nextRow g i N) (nextRow g i N).length) hH2
          obtain ⟨h2bt, nebt3⟩ := keep2 bt _ h1bt (fun hh => (r3.some_of hh).1 rfl)
          obtain ⟨h2b2, ne23⟩ := keep2 b2 _ h1b2 hd3
          have h2b3 : H2 b3 = some (.row (nextR g N i.toNat ++ [.vec (nextRow g i N).isEmpty (nextRow g i N) (nextRow g i N).length]) capn 98 1) := by rw [hH2, upd_self]
          rw [← hH2]
          clear hH2 keep2 hb3 hp3
          repeat' (first | simp -implicitDefEqProofs only [go_sem, seval] | simp -implicitDefEqProofs (disch := omega) only [h2bt, upd_upd, lR, lN, ars, if_pos, exV_some, Option.map_some] | ((with_reducible first | apply exB_dec | apply exB_intro) <;> intro _))
          rw [lR] at r2
          rw [lN] at r3'
          have rr := ih (i + 1, upd H2 bt (some (.cells [iv g.nodes, .vec g.nl (rows g.links) g.links.length, .raw (.slice (some ⟨b2, 0, none⟩) (i.toNat + 1) cap), .raw (.slice (some ⟨b3, 0, none⟩) (i.toNat + 1) capn)] 126)))
          refine rr ⟨by dsimp only; omega, by dsimp only; omega, ?_⟩ (by dsimp only; omega)
          dsimp only
          rw [eR, eN]
          have nb : ∀ b x, b ≠ bt → upd H2 bt x b = H2 b := fun b x hb => upd_ne _ _ (Ne.symm hb)
          refine ⟨hbt0, fun b o ho => ?_, _, _, some b2, some b3, upd_self _ _ _, ?_, ?_, ?_⟩
          · rw [nb b _ (by rintro rfl; rw [hbt0] at ho; cases ho)]
            exact base2 b o ho
          · refine RowAt.keep (H' := H2) (RowAt.keep (H' := H1) r2 fun b hb => ?_) fun b hb => ?_
            · injection hb with hb; subst hb; rw [h2b2, h1b2]
            · injection hb with hb; subst hb; exact nb _ _ (r2.some_of rfl).1
          · refine RowAt.keep (H' := H2) r3' fun b hb => ?_
            injection hb with hb; subst hb; exact nb _ _ (r3'.some_of rfl).1
          · rintro b hb hb'
            injection hb with hb; injection hb' with hb'; exact ne23 (hb.trans hb'.symm)
      · obtain rfl : i = g.nodes := by omega
        repeat' (first | simp -implicitDefEqProofs only [go_sem, seval] | simp -implicitDefEqProofs (disch := omega) only [ars, if_pos, exV_some, Option.map_some] | ((with_reducible first | apply exB_dec | apply exB_intro) <;> intro _))
        all_goals first | (exfalso; omega) | skip
        exact ⟨bt, _, rfl, hbt, hbase, sv2, sv3, o2, o3, hat, by rw [hN]; exact hr2, by rw [hN] at *; exact hr3, hdis⟩
    · rintro r H1 ⟨bt, tt, rfl, hT⟩
      obtain ⟨hbt, hbase, sv2, sv3, o2, o3, hat, hr2, hr3, -⟩ := hT
      have l2 : (toR g N).length = N := by simp [toR]
      have l3 : (nextR g N N).length = N := by simp [nextR]
      have hN1 : N ≠ 0 := by omega
      have n2' : toR g N ≠ [] := fun e => hN1 (by rw [← l2, e]; rfl)
      have n3' : nextR g N N ≠ [] := fun e => hN1 (by rw [← l3, e]; rfl)
      obtain ⟨b2, c2, rfl, rfl, e2, m2, k2, u2⟩ : ∃ b cap, o2 = some b ∧ sv2 = .raw (.slice (some ⟨b, 0, none⟩) (toR g N).length cap) ∧ H1 b = some (.row (toR g N) cap 25 1) ∧ b ≠ bt ∧ H b = none ∧ (toR g N).length ≤ cap := by
        rcases hr2 with ⟨_, h2, _⟩ | h2
        · exact absurd h2 n2'
        · exact h2
      obtain ⟨b3, c3, rfl, rfl, e3, m3, k3, u3⟩ : ∃ b cap, o3 = some b ∧ sv3 = .raw (.slice (some ⟨b, 0, none⟩) (nextR g N N).length cap) ∧ H1 b = some (.row (nextR g N N) cap 98 1) ∧ b ≠ bt ∧ H b = none ∧ (nextR g N N).length ≤ cap := by
        rcases hr3 with ⟨_, h2, _⟩ | h2
        · exact absurd h2 n3'
        · exact h2
      refine ⟨fun b => b = bt ∨ b = b2 ∨ b = b3, H, .tup [tab g, iv 0], hbase, ?_, ?_, h⟩
      · rintro b (rfl | rfl | rfl)
        · exact ⟨by rw [hat]; simp, hbt⟩
        · exact ⟨by rw [e2]; simp, k2⟩
        · exact ⟨by rw [e3]; simp, k3⟩
      · refine Fz.tup (.cons (Fz.ptr (.inl rfl) hat ?_) (FzL.refl _ _ _))
        rw [l2] at *
        rw [l3] at *
        rw [tabCells, ← hN]
        refine .cons (Fz.refl _ _ _) (.cons (Fz.refl _ _ _) (.cons ?_ (.cons ?_ .nil)))
        · exact Fz.slice (.inr (.inl rfl)) e2 u2 (Nat.le_refl _) (fun j u hj => by rw [Nat.zero_add]; exact hj) (fun _ => n2') (FzL.refl _ _ _)
        · exact Fz.slice (.inr (.inr rfl)) e3 u3 (Nat.le_refl _) (fun j u hj => by rw [Nat.zero_add]; exact hj) (fun _ => n3') (FzL.refl _ _ _)
  · rw [if_neg hc] at h
    refine ACalls.of_code fn_tables_New ?_
    simp -implicitDefEqProofs only [sc_tables_New, Graph.av, go_sem, seval]
    refine exC_pure (check_c g _) ?_
    simp -implicitDefEqProofs only [pairI, go_sem, seval]
    repeat' (first | simp -implicitDefEqProofs only [go_sem, seval] | simp -implicitDefEqProofs (disch := omega) only [ars, if_pos, exV_some, Option.map_some] | ((with_reducible first | apply exB_dec | apply exB_intro) <;> intro _))
    all_goals first | contradiction | exact h
end Go.Proofs.Ytejmcijcdhoogaa
end

section
namespace Go.Proofs.Ytejmcijcdhoogaa
open Go Abs
attribute [local irreducible] EX exL exG exC exCq exS exV exIf exGd exGq exB
set_option maxHeartbeats 800000

noncomputable def distOf (g : Graph) (a b : Int) : Int := if (0 ≤ a ∧ a < g.nodes) ∧ (0 ≤ b ∧ b < g.nodes) then gi (distL g [] b) a else -1
noncomputable def nxtOf (g : Graph) (a b : Int) : List Int := if (0 ≤ a ∧ a < g.nodes) ∧ (0 ≤ b ∧ b < g.nodes) then nextL g [] (distL g [] b) a else []
theorem rd_to {g : Graph} {n : Int} (h0 : 0 ≤ n) (h1 : n < g.nodes) : rdV (toR g g.nodes.toNat) (n.toNat * 1) 1 false = some (.vec false ((distL g [] n).map iv) (distL g [] n).length) := by
  rw [toR, rd_range h0 (by omega), Int.toNat_of_nonneg h0]; rfl
theorem rd_nextRow {g : Graph} {a b : Int} (h0 : 0 ≤ a) (h1 : a < g.nodes) : rdV (nextRow g b g.nodes.toNat) (a.toNat * 1) 1 false = some (.vec (nextL g [] (distL g [] b) a).isEmpty ((nextL g [] (distL g [] b) a).map iv) (nextL g [] (distL g [] b) a).length) := by
  rw [nextRow, rd_range h0 (by omega), Int.toNat_of_nonneg h0]; rfl
theorem nextRow_length (g : Graph) (b : Int) (n : Nat) : (nextRow g b n).length = n := by simp [nextRow]
theorem nextRow_ne {g : Graph} {b : Int} (h : 0 < g.nodes) : (nextRow g b g.nodes.toNat).isEmpty = false := by
  cases hh : nextRow g b g.nodes.toNat with
  | nil => have := nextRow_length g b g.nodes.toNat; rw [hh] at this; simp at this; omega
  | cons x l => rfl
theorem rd_next {g : Graph} {n : Int} (h0 : 0 ≤ n) (h1 : n < g.nodes) : rdV (nextR g g.nodes.toNat g.nodes.toNat) (n.toNat * 1) 1 false = some (.vec false (nextRow g n g.nodes.toNat) g.nodes.toNat) := by
  rw [nextR, rd_range h0 (by omega), Int.toNat_of_nonneg h0, nextRow_ne (by omega), nextRow_length]

theorem tis_c (g : Graph) (n : Int) (H : AHeap) : APure Try.prog 109 [tab g, iv n] H (bv (decide (0 ≤ n ∧ n < g.nodes))) := by
  intro Q h
  refine ACalls.of_code fn_tables_Tables_is ?_
  have ic := is_c g n
  simp only [Graph.av] at ic
  simp -implicitDefEqProofs only [sc_tables_Tables_is, tab, tabCells, go_sem, seval]
  repeat' (first | simp -implicitDefEqProofs only [go_sem, seval] | simp -implicitDefEqProofs (disch := omega) only [ars, if_pos, exV_some, Option.map_some] | ((with_reducible first | apply exB_dec | apply exB_intro) <;> intro _) | with_reducible refine exC_pure (ic _) ?_ | with_reducible refine exCq_pure (ic _) ?_)
  all_goals exact h
theorem tdist_c (g : Graph) (hc : (check g).2 = 0) (a b : Int) (H : AHeap) : APure Try.prog 105 [tab g, iv a, iv b] H (iv (distOf g a b)) := by
  intro Q h
  refine ACalls.of_code fn_tables_Tables_Dist ?_
  have hf := fit_of g hc
  have tis := tis_c g
  have hl : (0 ≤ b ∧ b < g.nodes) → ((distL g [] b).length : Int) = g.nodes := fun hb => (distL_spec hf [] hb).1.len
  have h0 : ¬ ((0 ≤ a ∧ a < g.nodes) ∧ (0 ≤ b ∧ b < g.nodes)) → distOf g a b = -1 := fun hh => by rw [distOf, if_neg hh]
  simp only [tab, tabCells] at tis
  simp -implicitDefEqProofs only [sc_tables_Tables_Dist, tab, tabCells, go_sem, seval]
  repeat' (first | simp -implicitDefEqProofs only [go_sem, seval] | simp -implicitDefEqProofs (disch := omega) only [rd_to, ars, if_pos, exV_some, Option.map_some] | ((with_reducible first | apply exB_dec | apply exB_intro) <;> intro _) | with_reducible refine exC_pure (tis _ _) ?_ | with_reducible refine exCq_pure (tis _ _) ?_)
  · rw [h0 (by omega)] at h; exact h
  · rw [h0 (by omega)] at h; exact h
  · rw [distOf, if_pos ⟨by omega, by omega⟩] at h; exact h
theorem tnext_c (g : Graph) (hc : (check g).2 = 0) (a b : Int) (H : AHeap) : APure Try.prog 95 [tab g, iv a, iv b] H (ints (nxtOf g a b)) := by
  intro Q h
  refine ACalls.of_code fn_tables_Tables_Next ?_
  have hf := fit_of g hc
  have tis := tis_c g
  have hfew := hf.few
  have hl := nextL_length g [] (distL g [] b) a
  have cl := cloneInts_c (nextL g [] (distL g [] b) a).isEmpty (nextL g [] (distL g [] b) a) (by omega) (fun e => by simpa using e) H
  have h0 : ¬ ((0 ≤ a ∧ a < g.nodes) ∧ (0 ≤ b ∧ b < g.nodes)) → nxtOf g a b = [] := fun hh => by rw [nxtOf, if_neg hh]
  simp only [tab, tabCells] at tis
  simp -implicitDefEqProofs only [sc_tables_Tables_Next, tab, tabCells, go_sem, seval]
  repeat' (first | simp -implicitDefEqProofs only [go_sem, seval] | simp -implicitDefEqProofs (disch := omega) only [rd_next, rd_nextRow, ars, if_pos, exV_some, Option.map_some] | ((with_reducible first | apply exB_dec | apply exB_intro) <;> intro _) | with_reducible refine exC_pure (tis _ _) ?_ | with_reducible refine exCq_pure (tis _ _) ?_ | with_reducible refine exC_pure (cl) ?_ | with_reducible refine exCq_pure (cl) ?_)
  · rw [h0 (by omega)] at h; exact h
  · rw [h0 (by omega)] at h; exact h
  · rw [nxtOf, if_pos ⟨by omega, by omega⟩] at h; exact h
theorem tgraph_c (g : Graph) (hb : g.links.length * 32 ≤ 140737488351232) (hn : g.nl = true → g.links = []) (H : AHeap) : APure Try.prog 56 [tab g] H g.av := by
  intro Q h
  refine ACalls.of_code fn_tables_Tables_Graph ?_
  have cl := cloneLinks_c g.nl g.links (by omega) hn H
  simp -implicitDefEqProofs only [sc_tables_Tables_Graph, tab, tabCells, go_sem, seval]
  repeat' (first | simp -implicitDefEqProofs only [go_sem, seval] | simp -implicitDefEqProofs (disch := omega) only [ars, if_pos, exV_some, Option.map_some] | ((with_reducible first | apply exB_dec | apply exB_intro) <;> intro _) | with_reducible refine exC_pure (cl) ?_ | with_reducible refine exCq_pure (cl) ?_)
  all_goals exact h
end Go.Proofs.Ytejmcijcdhoogaa
end

section
namespace Go.Proofs.Ytejmcijcdhoogaa
open Go Abs
attribute [local irreducible] EX exL exG exC exCq exS exV exIf exGd exGq exB
set_option maxHeartbeats 800000

theorem copyGraph_c (g : Graph) (hb : g.links.length * 32 ≤ 140737488351232) (H : AHeap) : APure Try.prog 69 [g.av] H (.agg [iv g.nodes, .vec g.links.isEmpty (rows g.links) g.links.length]) := by
  intro Q h
  have hrl := rows_length g.links
  rw [Link.sz_eq] at hrl
  refine ACalls.relax (ACalls.of_code fn_waymarkref1_CopyGraph ?_)
  simp -implicitDefEqProofs only [sc_waymarkref1_CopyGraph, Graph.av, go_sem, seval]
  repeat' (first | simp -implicitDefEqProofs only [go_sem, seval] | simp -implicitDefEqProofs (disch := omega) only [ars, if_pos, exV_some, Option.map_some] | ((with_reducible first | apply exB_dec | apply exB_intro) <;> intro _))
  refine ⟨by omega, by omega, by simp only [maxLen]; omega, fun hm => ?_, fun hm b cap hob hcap => ?_⟩
  · have hl : g.links = [] := List.eq_nil_of_length_eq_zero hm
    rw [hl] at h
    repeat' (first | simp -implicitDefEqProofs only [go_sem, seval] | simp -implicitDefEqProofs (disch := omega) only [ars, if_pos, exV_some, Option.map_some] | ((with_reducible first | apply exB_dec | apply exB_intro) <;> intro _))
    exact ⟨fun _ => False, H, _, fun b o h => h, by simp, Fz.refl _ _ _, h⟩
  · have hbn : H b = none := by
      rcases hob with hob | hob
      · cases hob
      · exact hob
    have hne : g.links.isEmpty = false := by
      cases hh : g.links with
      | nil => rw [hh] at hm; simp at hm
      | cons _ _ => rfl
    rw [hne] at h
    simp only [Nat.zero_add, List.nil_append, S.newhd, delH] at hcap ⊢
    repeat' (first | simp -implicitDefEqProofs only [go_sem, seval] | simp -implicitDefEqProofs (disch := omega) only [ars, if_pos, exV_some, Option.map_some] | ((with_reducible first | apply exB_dec | apply exB_intro) <;> intro _))
    refine ⟨fun x => x = b, H, _, upd_base hbn, ?_, Fz.agg (.cons (Fz.refl _ _ _) (.cons (Fz.slice (ds' := rows g.links) (o := 0) rfl (upd_self _ _ _) hcap (Nat.le_refl _) (fun j u hj => by rw [Nat.zero_add]; exact hj) (fun _ hh => ?_) (FzL.refl _ _ _)) .nil)), h⟩
    · rintro x rfl
      exact ⟨by rw [upd_self]; simp, hbn⟩
    · rw [hh] at hrl; simp at hrl; omega

noncomputable def refTabCells (g : Graph) : List AV := [iv g.nodes, .vec g.links.isEmpty (rows g.links) g.links.length, .vec false (toR g g.nodes.toNat) g.nodes.toNat]
noncomputable def refTab (g : Graph) : AV := .box (refTabCells g) 0
structure RInv (H H' : AHeap) (bt tt : Nat) (c0 c1 : AV) (l : List AV) : Prop where
  new : H bt = none
  base : ∀ b o, H b = some o → H' b = some o
  at_ : ∃ sv o, H' bt = some (.cells [c0, c1, sv] tt) ∧ RowAt H H' bt 25 sv l o

theorem newTables_ref_c (g : Graph) (hb : g.links.length * 32 ≤ 140737488351232) (H : AHeap) : APure Try.prog 40 [g.av] H (if (check g).2 = 0 then .tup [refTab g, iv 0] else .tup [.raw (.pointer none), iv (check g).2]) := by
  intro Q h
  by_cases hc : (check g).2 = 0
  · rw [if_pos hc] at h
    have hf := fit_of g hc
    have n1 := hf.n1
    have n2 := hf.n2
    obtain ⟨N, hN⟩ : ∃ N, N = g.nodes.toNat := ⟨_, rfl⟩
    refine ACalls.relax (ACalls.mono (Q := fun r H1 => ∃ bt tt, r = .tup [.raw (.pointer (some ⟨bt, 0, none⟩)), iv 0] ∧ RInv H H1 bt tt (iv g.nodes) (.vec g.links.isEmpty (rows g.links) g.links.length) (toR g N)) ?_ ?_)
    · have fc := fun n H => from_ref_c g true [] n H
      have tov : ∀ n : Int, 0 ≤ n → n < g.nodes → fromAV g [] n = dv (distL g [] n) := fun n n0 n1 => by rw [fromAV, if_pos ⟨hc, n0, n1⟩]; rfl
      have cg := copyGraph_c g hb
      simp only [Graph.av, blv, List.map_nil, List.length_nil] at fc cg
      refine ACalls.of_code fn_waymarkref1_NewTables ?_
      simp -implicitDefEqProofs only [sc_waymarkref1_NewTables, Graph.av, go_sem, seval]
      refine exC_pure (check_ref_c g _) ?_
      simp -implicitDefEqProofs only [pairI, go_sem, seval]
      repeat' (first | simp -implicitDefEqProofs only [go_sem, seval] | simp -implicitDefEqProofs (disch := omega) only [hc, ars, if_pos, exV_some, Option.map_some] | ((with_reducible first | apply exB_dec | apply exB_intro) <;> intro _) | with_reducible refine exC_pure (cg _) ?_ | with_reducible refine exCq_pure (cg _) ?_)
      intro bt hbt
      have first : RInv H (upd H bt (some (.cells [iv g.nodes, .vec g.links.isEmpty (rows g.links) g.links.length, .vec true [] 0] 100))) bt 100 (iv g.nodes) (.vec g.links.isEmpty (rows g.links) g.links.length) (toR g 0) :=
        ⟨hbt, upd_base hbt, _, none, upd_self _ _ _, .inl ⟨rfl, rfl, rfl⟩⟩
      refine exL_modH (fun a : Int × AHeap => [(7, .v (iv a.1))]) (fun _ => []) (fun a => a.2)
        (fun a => 0 ≤ a.1 ∧ a.1 ≤ g.nodes ∧ RInv H a.2 bt 100 (iv g.nodes) (.vec g.links.isEmpty (rows g.links) g.links.length) (toR g a.1.toNat)) (fun a => (g.nodes - a.1).toNat) (0, _) rfl ⟨by simp, by dsimp only; omega, first⟩ ?_
      rintro ⟨i, H'⟩ ⟨i0, i1, hT⟩ ih
      dsimp only at i0 i1 hT ih
      simp only [S.up, S.upH, ups, Abs.put, Nat.reduceEqDiff, ↓reduceIte, Nat.reduceAdd] at ih
      obtain ⟨hbt0, hbase, sv, o, hat, hr⟩ := hT
      simp -implicitDefEqProofs only [congrArg KI.code sc_waymarkref1_NewTables_L0.eq_1, go_sem, seval]
      by_cases hi : i < g.nodes
      · have fci := fc i H'
        rw [tov i i0 hi] at fci
        repeat' (first | simp -implicitDefEqProofs only [go_sem, seval] | simp -implicitDefEqProofs (disch := omega) only [hat, dv, ars, if_pos, exV_some, Option.map_some] | ((with_reducible first | apply exB_dec | apply exB_intro) <;> intro _) | with_reducible refine exC_pure (fci) ?_ | with_reducible refine exCq_pure (fci) ?_)
        all_goals first | (exfalso; omega) | skip
        have lR : (toR g i.toNat).length = i.toNat := by simp [toR]
        have eR : toR g (i + 1).toNat = toR g i.toNat ++ [dv (distL g [] i)] := by
          simp only [toR]; rw [range_succ_map i0]; simp only [Int.toNat_of_nonneg i0]
        obtain ⟨cap2, hp2⟩ := hr.pre
        rw [hp2]
        have hl2 : (toR g i.toNat).length + 1 ≤ maxLen := by rw [lR]; simp only [maxLen]; omega
        have hl2' : ((toR g i.toNat).length + 1) * 24 ≤ 140737488355328 := by rw [lR]; omega
        refine hapK_pos rfl hl2' hl2 (by omega) ?_
        intro b2 cap hb2 hcap
        simp only [S.newhd]
        have hbtn : H' bt ≠ none := by rw [hat]; simp
        obtain ⟨H1, hH1⟩ : ∃ H1, H1 = upd (delH H' o) b2 (some (.row (toR g i.toNat ++ [dv (distL g [] i)]) cap 25 1)) := ⟨_, rfl⟩
        obtain ⟨r2, base1, keep1⟩ := row_step hr hbase hbtn hb2 hcap (dv (distL g [] i)) hH1
        obtain ⟨h1bt, nebt⟩ := keep1 bt _ hat (fun hh => (hr.some_of hh).1 rfl)
        rw [show upd (delH H' o) b2 (some (.row (toR g i.toNat ++ [.vec false ((distL g [] i).map iv) (distL g [] i).length]) cap 25 1)) = H1 from hH1.symm]
        clear hH1 keep1 hb2 hp2
        repeat' (first | simp -implicitDefEqProofs only [go_sem, seval] | simp -implicitDefEqProofs (disch := omega) only [h1bt, lR, ars, if_pos, exV_some, Option.map_some] | ((with_reducible first | apply exB_dec | apply exB_intro) <;> intro _))
        rw [lR] at r2
        have rr := ih (i + 1, upd H1 bt (some (.cells [iv g.nodes, .vec g.links.isEmpty (rows g.links) g.links.length, .raw (.slice (some ⟨b2, 0, none⟩) (i.toNat + 1) cap)] 100)))
        refine rr ⟨by dsimp only; omega, by dsimp only; omega, ?_⟩ (by dsimp only; omega)
        dsimp only
        rw [eR]
        have nb : ∀ b x, b ≠ bt → upd H1 bt x b = H1 b := fun b x hb => upd_ne _ _ (Ne.symm hb)
        refine ⟨hbt0, fun b o ho => ?_, _, some b2, upd_self _ _ _, ?_⟩
        · rw [nb b _ (by rintro rfl; rw [hbt0] at ho; cases ho)]
          exact base1 b o ho
        · refine RowAt.keep (H' := H1) r2 fun b hb => ?_
          injection hb with hb; subst hb; exact nb _ _ (r2.some_of rfl).1
      · obtain rfl : i = g.nodes := by omega
        repeat' (first | simp -implicitDefEqProofs only [go_sem, seval] | simp -implicitDefEqProofs (disch := omega) only [ars, if_pos, exV_some, Option.map_some] | ((with_reducible first | apply exB_dec | apply exB_intro) <;> intro _))
        all_goals first | (exfalso; omega) | skip
        exact ⟨bt, _, rfl, hbt, hbase, sv, o, hat, by rw [hN]; exact hr⟩
    · rintro r H1 ⟨bt, tt, rfl, hT⟩
      obtain ⟨hbt, hbase, sv2, o2, hat, hr2⟩ := hT
      have l2 : (toR g N).length = N := by simp [toR]
      have hN1 : N ≠ 0 := by omega
      have n2' : toR g N ≠ [] := fun e => hN1 (by rw [← l2, e]; rfl)
      obtain ⟨b2, c2, rfl, rfl, e2, m2, k2, u2⟩ : ∃ b cap, o2 = some b ∧ sv2 = .raw (.slice (some ⟨b, 0, none⟩) (toR g N).length cap) ∧ H1 b = some (.row (toR g N) cap 25 1) ∧ b ≠ bt ∧ H b = none ∧ (toR g N).length ≤ cap := by
        rcases hr2 with ⟨_, h2, _⟩ | h2
        · exact absurd h2 n2'
        · exact h2
      refine ⟨fun b => b = bt ∨ b = b2, H, .tup [refTab g, iv 0], hbase, ?_, ?_, h⟩
      · rintro b (rfl | rfl)
        · exact ⟨by rw [hat]; simp, hbt⟩
        · exact ⟨by rw [e2]; simp, k2⟩
      · refine Fz.tup (.cons (Fz.ptr (.inl rfl) hat ?_) (FzL.refl _ _ _))
        rw [l2] at *
        rw [refTabCells, ← hN]
        refine .cons (Fz.refl _ _ _) (.cons (Fz.refl _ _ _) (.cons ?_ .nil))
        exact Fz.slice (.inr rfl) e2 u2 (Nat.le_refl _) (fun j u hj => by rw [Nat.zero_add]; exact hj) (fun _ => n2') (FzL.refl _ _ _)
  · rw [if_neg hc] at h
    refine ACalls.of_code fn_waymarkref1_NewTables ?_
    simp -implicitDefEqProofs only [sc_waymarkref1_NewTables, Graph.av, go_sem, seval]
    refine exC_pure (check_ref_c g _) ?_
    simp -implicitDefEqProofs only [pairI, go_sem, seval]
    repeat' (first | simp -implicitDefEqProofs only [go_sem, seval] | simp -implicitDefEqProofs (disch := omega) only [ars, if_pos, exV_some, Option.map_some] | ((with_reducible first | apply exB_dec | apply exB_intro) <;> intro _))
    all_goals first | contradiction | exact h
end Go.Proofs.Ytejmcijcdhoogaa
end

section
namespace Go.Proofs.Ytejmcijcdhoogaa
open Go Abs
attribute [local irreducible] EX exL exG exC exCq exS exV exIf exGd exGq exB
set_option maxHeartbeats 800000

theorem nxtOf_length (g : Graph) (a b : Int) : (nxtOf g a b).length ≤ 2 * g.links.length := by
  unfold nxtOf
  split
  · exact nextL_length _ _ _ _
  · simp
theorem shape_graphN {a : AV} (h : ArgShape tcGraph a) : ∃ g : Graph, a = g.av ∧ g.fine ∧ (g.nl = true → g.links = []) := by
  simp only [tcGraph, ArgShape, tcI, Shape, ShapeAll] at h
  obtain ⟨_, rfl, _, _, rfl, ⟨n, rfl, hn⟩, _, _, rfl, ⟨nl, rs, rfl, hnl, hb, hr⟩, rfl⟩ := h
  obtain ⟨l, rfl, hl⟩ := each_map fun r hr' => shape_link (hr r hr')
  rw [rows_map]
  exact ⟨⟨n, nl, l⟩, by simp [Graph.av], ⟨by simpa [reachBytes] using hb, wf_i64 hn, hl⟩, fun e => by simpa using hnl e⟩
end Go.Proofs.Ytejmcijcdhoogaa
end

section
namespace Go.Proofs.Ytejmcijcdhoogaa
open Go Abs
attribute [local irreducible] EX exL exG exC exCq exS exV exIf exGd exGq exB
set_option maxHeartbeats 800000

end Go.Proofs.Ytejmcijcdhoogaa
end

section
namespace Go.Proofs.Ytejmcijcdhoogaa
open Go Abs
attribute [local irreducible] EX exL exG exC exCq exS exV exIf exGd exGq exB
set_option maxHeartbeats 800000

theorem nxt_mem {g : Graph} (hf : Fit g) {a b e : Int} (h : e ∈ nxtOf g a b) : 0 ≤ e ∧ e < 2 * g.links.length ∧ (ends g e).1 = a ∧ (ends g e).2.2 = true ∧ distOf g (ends g e).2.1 b = distOf g a b - wt g e ∧ 0 < distOf g a b := by
  unfold nxtOf at h
  split at h
  · rename_i hab
    unfold nextL at h
    split at h
    · rename_i hok
      obtain ⟨h1, h2⟩ := List.mem_filter.1 h
      obtain ⟨e0, e1, e2⟩ := (out_mem g e a).1 h1
      have hb := (hf.b e e0 e1).2
      unfold onB at h2
      simp only [Bool.and_eq_true, decide_eq_true_eq] at h2
      refine ⟨e0, e1, e2, ?_, ?_, ?_⟩
      · unfold ends; rw [if_neg (by omega)]; split <;> rfl
      · rw [distOf, if_pos ⟨hb, hab.2⟩, distOf, if_pos hab]
        exact h2.2.2.symm
      · rw [distOf, if_pos hab]; exact hok.2.2.2
    · cases h
  · cases h
theorem nxt_some {g : Graph} (hc : (check g).2 = 0) {a b : Int} : 0 < ((nxtOf g a b).length : Int) ↔ 0 < distOf g a b := by
  have hf := fit_of g hc
  constructor
  · intro h
    exact (nxt_mem hf (gi_mem (l := nxtOf g a b) (Int.le_refl 0) h)).2.2.2.2.2
  · intro h
    by_cases hab : (0 ≤ a ∧ a < g.nodes) ∧ (0 ≤ b ∧ b < g.nodes)
    · rw [distOf, if_pos hab] at h
      have hd := (distL_spec hf [] hab.2).1
      have hw := hd.way a hab.1.1 hab.1.2 (by omega)
      have hsome : ∃ e : Int, 0 ≤ e ∧ e < 2 * g.links.length ∧ (ends g e).1 = a ∧ 0 ≤ gi (distL g [] b) (ends g e).2.1 ∧ gi (distL g [] b) a - wt g e = gi (distL g [] b) (ends g e).2.1 := by
        generalize hL : gi (distL g [] b) a = L at hw h
        cases hw with
        | nil => omega
        | @step x L e hw e0 e1 hu ha =>
          have h1 := hd.least _ _ hw
          obtain ⟨e', q0, q1, q2, q3, q4⟩ := edge_back e0 e1
          have hx := (hf.b e e0 e1).1
          have h3 := hd.least _ _ (.step (hd.way _ hx.1 hx.2 (by rw [ha]; exact h1.1)) e0 e1 hu rfl)
          rw [ha] at h3
          have hwe : wt g e' = wt g e := by unfold wt; rw [q2]
          refine ⟨e', q0, q1, q3, by rw [q4, ha]; exact h1.1, ?_⟩
          rw [q4, ha, hwe]
          omega
      obtain ⟨e, e0, e1, e2, e3, e4⟩ := hsome
      have hm : e ∈ nxtOf g a b := by
        rw [nxtOf, if_pos hab, nextL, if_pos ⟨hc, hd.len, hab.1, h⟩]
        refine List.mem_filter.2 ⟨(out_mem g e a).2 ⟨e0, e1, e2⟩, ?_⟩
        unfold onB
        simp only [Bool.and_eq_true, decide_eq_true_eq]
        exact ⟨by simp [upE]; left; omega, e3, e4⟩
      have := List.length_pos_of_mem hm
      omega
    · rw [distOf, if_neg hab] at h; omega
end Go.Proofs.Ytejmcijcdhoogaa
end

section
namespace Go.Proofs.Ytejmcijcdhoogaa
open Go Abs
attribute [local irreducible] EX exL exG exC exCq exS exV exIf exGd exGq exB

def pts (w : Want) : List Int := w.src :: (w.via ++ [w.dst])
theorem pts_length (w : Want) : (pts w).length = w.via.length + 2 := by simp [pts]
theorem pts_zero (w : Want) : gi (pts w) 0 = w.src := rfl
theorem pts_last (w : Want) : gi (pts w) (w.via.length + 1) = w.dst := by
  rw [gi_get (by rw [pts_length]; omega)]
  simp [pts, show ((w.via.length : Int) + 1).toNat = w.via.length + 1 by omega]
def come (l : List Int) (node n : Int) : Int := n + ((l.drop (n + 1).toNat).takeWhile fun x => decide (x = node)).length
theorem come_stop {l : List Int} {node n : Int} (n0 : 0 ≤ n) (h : ¬ (n + 1 < l.length ∧ gi l (n + 1) = node)) : come l node n = n := by
  unfold come
  by_cases h1 : n + 1 < l.length
  · rw [drop_gi (by omega) h1, List.takeWhile_cons, if_neg (by simpa using fun e => h ⟨h1, e⟩)]
    simp
  · rw [drop_end (by omega)]
    simp
theorem come_go {l : List Int} {node n : Int} (n0 : 0 ≤ n) (h1 : n + 1 < l.length) (h2 : gi l (n + 1) = node) : come l node n = come l node (n + 1) := by
  unfold come
  rw [drop_gi (by omega) h1, List.takeWhile_cons, if_pos (by simpa using h2), List.length_cons]
  omega
theorem come_le {l : List Int} {node n : Int} (n0 : 0 ≤ n) (n1 : n < l.length) : n ≤ come l node n ∧ come l node n < l.length := by
  unfold come
  have := (List.takeWhile_sublist (fun x => decide (x = node)) (l := l.drop (n + 1).toNat)).length_le
  rw [List.length_drop] at this
  omega
theorem come_end {l : List Int} {node n : Int} (n0 : 0 ≤ n) (n1 : n < l.length) : ¬ (come l node n + 1 < l.length ∧ gi l (come l node n + 1) = node) := by
  obtain ⟨k, hk⟩ : ∃ k : Nat, k = l.length - (n + 1).toNat := ⟨_, rfl⟩
  induction k generalizing n with
  | zero => rw [come_stop n0 (by omega)]; omega
  | succ k ih =>
    by_cases h : n + 1 < l.length ∧ gi l (n + 1) = node
    · rw [come_go n0 h.1 h.2]
      exact ih (by omega) h.1 (by omega)
    · rwa [come_stop n0 h]
theorem come_at {l : List Int} {node n j : Int} (n0 : 0 ≤ n) (n1 : n < l.length) (j0 : n < j) (j1 : j ≤ come l node n) : gi l j = node := by
  obtain ⟨k, hk⟩ : ∃ k : Nat, k = l.length - (n + 1).toNat := ⟨_, rfl⟩
  induction k generalizing n with
  | zero => rw [come_stop n0 (by omega)] at j1; omega
  | succ k ih =>
    by_cases h : n + 1 < l.length ∧ gi l (n + 1) = node
    · rw [come_go n0 h.1 h.2] at j1
      by_cases e : j = n + 1
      · rw [e]; exact h.2
      · exact ih (by omega) h.1 (by omega) j1 (by omega)
    · rw [come_stop n0 h] at j1; omega

noncomputable def leg (g : Graph) (w : Want) (down : List Bool) (i : Int) : Int := gi (distL g (pruned g w down) (gi (pts w) (i + 1))) (gi (pts w) i)
noncomputable def legs (g : Graph) (w : Want) (down : List Bool) : Nat → Int
  | 0 => 0
  | n + 1 => legs g w down n + leg g w down n
noncomputable def noLeg (g : Graph) (w : Want) (down : List Bool) (n : Nat) : Bool := (List.range n).any fun (i : Nat) => decide (leg g w down i < 0)
noncomputable def optErr (g : Graph) (w : Want) (down : List Bool) : Int :=
  if rightErr g w ≠ 0 then rightErr g w
  else if noLeg g w down (w.via.length + 1) = true then 8
  else if 0 < w.bound ∧ w.bound < legs g w down (w.via.length + 1) then 8
  else 0
noncomputable def optCost (g : Graph) (w : Want) (down : List Bool) : Int := if optErr g w down = 0 then legs g w down (w.via.length + 1) else 0
noncomputable def farOf (g : Graph) (w : Want) (down : List Bool) (i : Int) : List Int := distL g (pruned g w down) (gi (pts w) i)
noncomputable def tosR (g : Graph) (w : Want) (down : List Bool) (n : Nat) : List AV := (List.range n).map fun (k : Nat) => dv (farOf g w down ((k : Int) + 1))
noncomputable def waysCells (g : Graph) (w : Want) (down : List Bool) : List AV :=
  [iv g.nodes, .vec g.nl (rows g.links) g.links.length, sl false (pts w), .vec false ((pruned g w down).map bv) g.links.length, .vec false (tosR g w down (w.via.length + 1)) (w.via.length + 1), iv (legs g w down (w.via.length + 1))]
noncomputable def ways (g : Graph) (w : Want) (down : List Bool) : AV := .box (waysCells g w down) 0
noncomputable def waysAV (g : Graph) (w : Want) (down : List Bool) : AV := if optErr g w down = 0 then ways g w down else .raw (.pointer none)
theorem noLeg_succ (g : Graph) (w : Want) (down : List Bool) (n : Nat) : noLeg g w down (n + 1) = (noLeg g w down n || decide (leg g w down n < 0)) := by
  simp [noLeg, List.range_succ]

structure WFit (g : Graph) (w : Want) : Prop where
  fit : Fit g
  src : 0 ≤ w.src ∧ w.src < g.nodes
  dst : 0 ≤ w.dst ∧ w.dst < g.nodes
  via : ∀ x ∈ w.via, 0 ≤ x ∧ x < g.nodes
  few : w.via.length ≤ 4
  bound : 0 ≤ w.bound
theorem wfit_of {g : Graph} {w : Want} (h : rightErr g w = 0) : WFit g w := by
  have hc := (rightErr_ok h).1
  unfold rightErr at h
  rw [if_neg (by omega)] at h
  split at h
  · cases h
  split at h
  · cases h
  split at h
  · cases h
  split at h
  · cases h
  rename_i h1 h2 h3 h4
  simp only [Bool.or_eq_true, not_or, Bool.not_eq_true, noNode, decide_eq_false_iff_not, Decidable.not_not, List.any_eq_false] at h1
  exact ⟨fit_of g hc, h1.1, h1.2.1, h1.2.2.1, by omega, by omega⟩
theorem WFit.point {g : Graph} {w : Want} (h : WFit g w) {i : Int} (i0 : 0 ≤ i) (i1 : i ≤ w.via.length + 1) : 0 ≤ gi (pts w) i ∧ gi (pts w) i < g.nodes := by
  have hm := gi_mem (l := pts w) i0 (by rw [pts_length]; omega)
  simp only [pts, List.mem_cons, List.mem_append, List.not_mem_nil, or_false] at hm
  rcases hm with hm | hm | hm
  · rw [pts, hm]; exact h.src
  · exact h.via _ hm
  · rw [pts, hm]; exact h.dst
end Go.Proofs.Ytejmcijcdhoogaa
end

section
namespace Go.Proofs.Ytejmcijcdhoogaa
open Go Abs
attribute [local irreducible] EX exL exG exC exCq exS exV exIf exGd exGq exB
set_option maxHeartbeats 1000000

theorem points_c (w : Want) (hw : w.ok) (H : AHeap) : APure Try.prog 71 [w.av] H (sl false (pts w)) := by
  obtain ⟨w1, -⟩ := hw
  intro Q h
  refine ACalls.of_code fn_opt_points ?_
  simp -implicitDefEqProofs only [sc_opt_points, Want.av, sl, go_sem, seval]
  repeat' (first | simp -implicitDefEqProofs only [go_sem, seval] | simp -implicitDefEqProofs (disch := omega) only [ars, if_pos, exV_some, Option.map_some] | ((with_reducible first | apply exB_dec | apply exB_intro) <;> intro _))
  refine exS_ints' (l := [w.src]) rfl (by simp; omega) (by simp only [maxLen, List.length_singleton]; omega) ?_
  repeat' (first | simp -implicitDefEqProofs only [go_sem, seval] | simp -implicitDefEqProofs (disch := omega) only [ars, if_pos, exV_some, Option.map_some] | ((with_reducible first | apply exB_dec | apply exB_intro) <;> intro _))
  refine exS_ints (l := [w.src] ++ w.via) rfl (by simp; omega) (by simp only [maxLen, List.length_append, List.length_singleton]; omega) ?_
  repeat' (first | simp -implicitDefEqProofs only [go_sem, seval] | simp -implicitDefEqProofs (disch := omega) only [ars, if_pos, exV_some, Option.map_some] | ((with_reducible first | apply exB_dec | apply exB_intro) <;> intro _))
  exact fin_ h (by simp [sl, pts])
theorem come_c (nl : Bool) (l : List Int) (hl : l.length ≤ 140737488351232) (node n : Int) (n0 : 0 ≤ n) (n1 : n < l.length) (H : AHeap) : APure Try.prog 72 [sl nl l, iv node, iv n] H (.agg [iv node, iv (come l node n)]) := by
  intro Q h
  refine ACalls.of_code fn_opt_come ?_
  simp -implicitDefEqProofs only [sc_opt_come, sl, go_sem, seval]
  repeat' (first | simp -implicitDefEqProofs only [go_sem, seval] | simp -implicitDefEqProofs (disch := omega) only [ars, if_pos, exV_some, Option.map_some] | ((with_reducible first | apply exB_dec | apply exB_intro) <;> intro _))
  refine exL_mod (fun i : Int => [(2, .v (iv i))]) (fun _ => []) (fun i => 0 ≤ i ∧ i < l.length ∧ come l node n = come l node i) (fun i => (l.length - i).toNat) n rfl ⟨n0, n1, rfl⟩ ?_
  rintro i ⟨i0, i1, hi⟩ ih
  simp only [S.up, S.upH, ups, Abs.put, Nat.reduceEqDiff, ↓reduceIte, Nat.reduceAdd] at ih
  simp -implicitDefEqProofs only [congrArg KI.code sc_opt_come_L0.eq_1, go_sem, seval]
  by_cases hc : i + 1 < l.length ∧ gi l (i + 1) = node
  · have nxt := ih (i + 1) ⟨by omega, hc.1, by rw [hi, come_go i0 hc.1 hc.2]⟩ (by omega)
    repeat' (first | simp -implicitDefEqProofs only [go_sem, seval] | simp -implicitDefEqProofs (disch := omega) only [ars, if_pos, exV_some, Option.map_some] | ((with_reducible first | apply exB_dec | apply exB_intro) <;> intro _))
    all_goals first | exact nxt | (exfalso; omega)
  · have hs := come_stop i0 hc
    rw [hi, hs] at h
    repeat' (first | simp -implicitDefEqProofs only [go_sem, seval] | simp -implicitDefEqProofs (disch := omega) only [ars, if_pos, exV_some, Option.map_some] | ((with_reducible first | apply exB_dec | apply exB_intro) <;> intro _))
    all_goals first | exact h | (exfalso; omega)
theorem start_c (w : Want) (hw : w.ok) (H : AHeap) : APure Try.prog 43 [w.av] H (.agg [iv w.src, iv (come (pts w) w.src 0)]) := by
  have hp := points_c w hw
  have hl := pts_length w
  have hc := come_c false (pts w) (by have := hw.1; omega) w.src 0 (Int.le_refl _) (by omega)
  simp only [Want.av, sl] at hp hc
  intro Q h
  refine ACalls.of_code fn_opt_Start ?_
  simp -implicitDefEqProofs only [sc_opt_Start, Want.av, sl, go_sem, seval]
  repeat' (first | simp -implicitDefEqProofs only [go_sem, seval] | simp -implicitDefEqProofs (disch := omega) only [ars, if_pos, exV_some, Option.map_some] | ((with_reducible first | apply exB_dec | apply exB_intro) <;> intro _) | with_reducible refine exC_pure (hp _) ?_ | with_reducible refine exCq_pure (hp _) ?_ | with_reducible refine exC_pure (hc _) ?_ | with_reducible refine exCq_pure (hc _) ?_)
  exact h
theorem goal_c (w : Want) (hw : w.ok) (H : AHeap) : APure Try.prog 42 [w.av] H (.agg [iv w.dst, iv (w.via.length + 1)]) := by
  have hp := points_c w hw
  have hl := pts_length w
  have hw1 := hw.1
  simp only [Want.av, sl] at hp
  intro Q h
  refine ACalls.of_code fn_opt_Goal ?_
  simp -implicitDefEqProofs only [sc_opt_Goal, Want.av, sl, go_sem, seval]
  repeat' (first | simp -implicitDefEqProofs only [go_sem, seval] | simp -implicitDefEqProofs (disch := omega) only [ars, if_pos, exV_some, Option.map_some] | ((with_reducible first | apply exB_dec | apply exB_intro) <;> intro _) | with_reducible refine exC_pure (hp _) ?_ | with_reducible refine exCq_pure (hp _) ?_)
  rw [hl, show ((w.via.length + 2 : Nat) : Int) - 1 = w.via.length + 1 by omega]
  exact h
end Go.Proofs.Ytejmcijcdhoogaa
end

section
namespace Go.Proofs.Ytejmcijcdhoogaa
open Go Abs
attribute [local irreducible] EX exL exG exC exCq exS exV exIf exGd exGq exB
set_option maxHeartbeats 2000000

theorem leg_bound {g : Graph} {w : Want} (hw : WFit g w) (down : List Bool) {i : Int} (i0 : 0 ≤ i) (i1 : i ≤ w.via.length) : -1 ≤ leg g w down i ∧ leg g w down i ≤ 671088640 :=
  let p := hw.point i0 (show i ≤ w.via.length + 1 by omega)
  dist_bound hw.fit _ (hw.point (by omega) (by omega)) p.1 p.2
theorem legs_bound {g : Graph} {w : Want} (hw : WFit g w) (down : List Bool) : ∀ n : Nat, n ≤ w.via.length + 1 → noLeg g w down n = false → 0 ≤ legs g w down n ∧ legs g w down n ≤ 671088640 * n
  | 0, _, _ => by simp [legs]
  | n + 1, hn, h => by
    rw [noLeg_succ, Bool.or_eq_false_iff, decide_eq_false_iff_not] at h
    have h1 := legs_bound hw down n (by omega) h.1
    have h2 := leg_bound hw down (i := n) (by omega) (by omega)
    simp only [legs]
    omega
theorem tosR_length (g : Graph) (w : Want) (down : List Bool) (n : Nat) : (tosR g w down n).length = n := by simp [tosR]
theorem tosR_succ (g : Graph) (w : Want) (down : List Bool) {i : Int} (i0 : 0 ≤ i) : tosR g w down (i + 1).toNat = tosR g w down i.toNat ++ [dv (farOf g w down (i + 1))] := by
  simp only [tosR]
  rw [range_succ_map i0]
  simp only [Int.toNat_of_nonneg i0]
theorem noLeg_mono {g : Graph} {w : Want} {down : List Bool} {n m : Nat} (h : n ≤ m) (hn : noLeg g w down n = true) : noLeg g w down m = true := by
  simp only [noLeg, List.any_eq_true, List.mem_range] at hn ⊢
  obtain ⟨i, hi, hl⟩ := hn
  exact ⟨i, by omega, hl⟩

theorem onew_c (g : Graph) (w : Want) (nl : Bool) (down : List Bool) (hw : w.ok) (H : AHeap) : APure Try.prog 70 [g.av, w.av, blv nl down] H (.tup [waysAV g w down, iv (optErr g w down)]) := by
  intro Q h
  have rc := fun H => right_c g w hw H
  have pc := fun H => points_c w hw H
  have dc := fun H => down_c g w nl down hw H
  simp only [Graph.av, Want.av, blv, sl] at rc pc dc
  by_cases hr : rightErr g w = 0
  · have wf := wfit_of hr
    have hf := wf.fit
    have f1 := hf.n1
    have f2 := hf.n2
    have f3 := hf.few
    have f4 := wf.few
    have pl := pts_length w
    obtain ⟨gone, hgone⟩ : ∃ gone, gone = pruned g w down := ⟨_, rfl⟩
    have gl : gone.length = g.links.length := by rw [hgone]; simp [pruned]
    have tc := fun n H => to_c g false gone n H
    have tov : ∀ n : Int, 0 ≤ n → n < g.nodes → fromAV g gone n = dv (distL g gone n) := fun n n0 n1 => by rw [fromAV, if_pos ⟨hf.ok, n0, n1⟩]; rfl
    simp only [Graph.av, blv, gl] at tc
    have hdc : prunedAV g w down = .vec false (gone.map bv) g.links.length := by rw [prunedAV, if_pos hr, hgone]
    obtain ⟨m, hm⟩ : ∃ m, m = w.via.length + 1 := ⟨_, rfl⟩
    have dcl : gi (pts w) 0 = w.src := pts_zero w
    refine ACalls.relax (ACalls.mono (Q := fun r H1 =>
      (∀ b o, H b = some o → H1 b = some o) ∧ ((optErr g w down ≠ 0 ∧ r = .tup [.raw (.pointer none), iv (optErr g w down)]) ∨
        (optErr g w down = 0 ∧ ∃ bt tt sv ob, r = .tup [.raw (.pointer (some ⟨bt, 0, none⟩)), iv 0] ∧ H bt = none ∧ H1 bt = some (.cells [iv g.nodes, .vec g.nl (rows g.links) g.links.length, sl false (pts w), .vec false (gone.map bv) g.links.length, sv, iv (legs g w down m)] tt) ∧ RowAt H H1 bt 25 sv (tosR g w down m) ob))) ?_ ?_)
    · refine ACalls.of_code fn_opt_New ?_
      simp -implicitDefEqProofs only [sc_opt_New, Graph.av, Want.av, blv, sl, go_sem, seval]
      refine exC_pure (rc _) ?_
      rw [hr]
      repeat' (first | simp -implicitDefEqProofs only [go_sem, seval] | simp -implicitDefEqProofs (disch := omega) only [ars, if_pos, exV_some, Option.map_some] | ((with_reducible first | apply exB_dec | apply exB_intro) <;> intro _) | with_reducible refine exC_pure (pc _) ?_ | with_reducible refine exCq_pure (pc _) ?_ | with_reducible refine exC_pure (dc _) ?_ | with_reducible refine exCq_pure (dc _) ?_)
      rw [hdc]
      obtain ⟨q, hq⟩ : ∃ q, q = w.via ++ [w.dst] := ⟨_, rfl⟩
      have ql : q.length = m := by rw [hq, hm]; simp
      have qg : ∀ i : Int, 0 ≤ i → i < m → gi q i = gi (pts w) (i + 1) := by
        intro i i0 i1
        rw [gi_get (by omega), gi_get (by rw [pl]; omega)]
        simp only [hq, pts, show (i + 1).toNat = i.toNat + 1 by omega, List.getElem_cons_succ]
      have e33 : ((((pts w).length : Nat) : Int).toNat - 1) = m := by rw [pl]; omega
      have e34 : List.take (m * 1) (List.drop 1 ((pts w).map iv)) = q.map iv := by
        rw [pts, ← hq, List.map_cons, List.drop_succ_cons, List.drop_zero, List.take_of_length_le (by simp; omega)]
      have pl' : (pts w).length = m + 1 := by omega
      repeat' (first | simp -implicitDefEqProofs only [go_sem, seval] | simp -implicitDefEqProofs (disch := omega) only [e33, e34, ars, if_pos, exV_some, Option.map_some] | ((with_reducible first | apply exB_dec | apply exB_intro) <;> intro _))
      intro bt hbt
      refine exL_modH (fun a : Int × AHeap => [(35, .v (iv a.1))]) (fun _ => []) (fun a => a.2)
        (fun a => 0 ≤ a.1 ∧ a.1 ≤ m ∧ noLeg g w down a.1.toNat = false ∧ (∀ b o, H b = some o → a.2 b = some o) ∧ ∃ sv ob, a.2 bt = some (.cells [iv g.nodes, .vec g.nl (rows g.links) g.links.length, .vec false ((pts w).map iv) (pts w).length, .vec false (gone.map bv) g.links.length, sv, iv (legs g w down a.1.toNat)] 152) ∧ RowAt H a.2 bt 25 sv (tosR g w down a.1.toNat) ob)
        (fun a => (m - a.1).toNat) (0, _) rfl ⟨by simp, by simp, rfl, upd_base hbt, _, none, upd_self _ _ _, .inl ⟨rfl, rfl, rfl⟩⟩ ?_
      rintro ⟨i, H'⟩ ⟨i0, i1, hnl, hbase, sv, ob, hat, hrow⟩ ih
      dsimp only at i0 i1 hnl hbase hat hrow ih
      simp only [S.up, S.upH, ups, Abs.put, Nat.reduceEqDiff, ↓reduceIte, Nat.reduceAdd] at ih
      simp -implicitDefEqProofs only [congrArg KI.code sc_opt_New_L0.eq_1, go_sem, seval]
      by_cases hi : i < m
      · obtain ⟨p, hp⟩ : ∃ p, p = gi (pts w) (i + 1) := ⟨_, rfl⟩
        obtain ⟨p0, p1⟩ := wf.point (i := i + 1) (by omega) (by omega)
        obtain ⟨a0, a1⟩ := wf.point (i := i) (by omega) (by omega)
        have tci := tc p H'
        rw [tov p (by omega) (by omega)] at tci
        have hd := (distL_spec hf gone (s := p) (by omega)).1
        have hlg : leg g w down i = gi (distL g gone p) (gi (pts w) i) := by rw [leg, hp, hgone]
        have hfar : farOf g w down (i + 1) = distL g gone p := by rw [farOf, hp, hgone]
        have hdl := hd.len
        repeat' (first | simp -implicitDefEqProofs only [go_sem, seval] | simp -implicitDefEqProofs (disch := omega) only [hat, qg, ← hp, dv, rd_map, ars, if_pos, exV_some, Option.map_some] | ((with_reducible first | apply exB_dec | apply exB_intro) <;> intro _) | with_reducible refine exC_pure (tci) ?_ | with_reducible refine exCq_pure (tci) ?_)
        all_goals first | (exfalso; omega) | skip
        · refine ⟨hbase, .inl ?_⟩
          have : optErr g w down = 8 := by
            rw [optErr, if_neg (by simpa using hr), if_pos]
            refine noLeg_mono (n := (i + 1).toNat) (by omega) ?_
            rw [show (i + 1).toNat = i.toNat + 1 by omega, noLeg_succ, Int.toNat_of_nonneg i0, hlg, decide_eq_true (by omega), Bool.or_true]
          rw [this]
          exact ⟨by omega, rfl⟩
        · have hlR := tosR_length g w down i.toNat
          obtain ⟨cap2, hp2⟩ := hrow.pre
          rw [hp2]
          have hl2 : (tosR g w down i.toNat).length + 1 ≤ maxLen := by rw [hlR]; simp only [maxLen]; omega
          have hl2' : ((tosR g w down i.toNat).length + 1) * 24 ≤ 140737488355328 := by rw [hlR]; omega
          refine hapK_pos rfl hl2' hl2 (by omega) ?_
          intro b2 cap hb2 hcap
          simp only [S.newhd]
          have hbtn : H' bt ≠ none := by rw [hat]; simp
          obtain ⟨H1, hH1⟩ : ∃ H1, H1 = upd (delH H' ob) b2 (some (.row (tosR g w down i.toNat ++ [dv (distL g gone p)]) cap 25 1)) := ⟨_, rfl⟩
          obtain ⟨r2, base1, keep1⟩ := row_step hrow hbase hbtn hb2 hcap (dv (distL g gone p)) hH1
          obtain ⟨h1bt, nebt⟩ := keep1 bt _ hat (fun hh => (hrow.some_of hh).1 rfl)
          rw [show upd (delH H' ob) b2 (some (.row (tosR g w down i.toNat ++ [.vec false ((distL g gone p).map iv) (distL g gone p).length]) cap 25 1)) = H1 from hH1.symm]
          have lb1 := legs_bound wf down i.toNat (by omega) hnl
          have lb2 := leg_bound wf down i0 (by omega)
          rw [hlg] at lb2
          clear hH1 keep1 hb2 hp2
          repeat' (first | simp -implicitDefEqProofs only [go_sem, seval] | simp -implicitDefEqProofs (disch := omega) only [h1bt, hlR, upd_self, ars, if_pos, exV_some, Option.map_some] | ((with_reducible first | apply exB_dec | apply exB_intro) <;> intro _))
          all_goals first | (exfalso; omega) | skip
          rw [hlR] at r2
          refine ih (i + 1, upd (upd H1 bt (some (.cells [iv g.nodes, .vec g.nl (rows g.links) g.links.length, .vec false ((pts w).map iv) (pts w).length, .vec false (gone.map bv) g.links.length, .raw (.slice (some ⟨b2, 0, none⟩) (i.toNat + 1) cap), iv (legs g w down i.toNat)] 152))) bt (some (.cells [iv g.nodes, .vec g.nl (rows g.links) g.links.length, .vec false ((pts w).map iv) (pts w).length, .vec false (gone.map bv) g.links.length, .raw (.slice (some ⟨b2, 0, none⟩) (i.toNat + 1) cap), iv (legs g w down i.toNat + gi (distL g gone p) (gi (pts w) i))] 152))) ⟨by dsimp only; omega, by dsimp only; omega, ?_, ?_, .raw (.slice (some ⟨b2, 0, none⟩) (i.toNat + 1) cap), some b2, ?_, ?_⟩ (by dsimp only; omega)
          all_goals dsimp only
          · rw [show (i + 1).toNat = i.toNat + 1 by omega, noLeg_succ, hnl, Int.toNat_of_nonneg i0, hlg, decide_eq_false (by omega)]; rfl
          · intro b o ho
            rw [upd_upd, upd_ne _ _ (by rintro rfl; rw [hbt] at ho; cases ho)]
            exact base1 b o ho
          · rw [upd_self, show (i + 1).toNat = i.toNat + 1 by omega, legs, Int.toNat_of_nonneg i0, hlg]
          · rw [tosR_succ g w down i0, hfar]
            refine RowAt.keep (H' := H1) r2 fun b hb => ?_
            injection hb with hb
            subst hb
            rw [upd_upd]
            exact upd_ne _ _ (Ne.symm (r2.some_of rfl).1)
      · obtain rfl : i = m := by omega
        rw [Int.toNat_natCast] at hat hrow hnl
        have lb1 := legs_bound wf down m (by omega) hnl
        have e0 : optErr g w down = if 0 < w.bound ∧ w.bound < legs g w down m then 8 else 0 := by
          rw [optErr, if_neg (by simpa using hr), if_neg (by rw [← hm, hnl]; simp), hm]
        repeat' (first | simp -implicitDefEqProofs only [go_sem, seval] | simp -implicitDefEqProofs (disch := omega) only [hat, ars, if_pos, exV_some, Option.map_some] | ((with_reducible first | apply exB_dec | apply exB_intro) <;> intro _))
        all_goals first | (exfalso; omega) | skip
        · rw [if_pos ⟨by assumption, by assumption⟩] at e0
          exact ⟨hbase, .inl ⟨by omega, by rw [e0]⟩⟩
        · rw [if_neg (by omega)] at e0
          exact ⟨hbase, .inr ⟨e0, bt, _, sv, ob, rfl, hbt, hat, hrow⟩⟩
        · rw [if_neg (by omega)] at e0
          exact ⟨hbase, .inr ⟨e0, bt, _, sv, ob, rfl, hbt, hat, hrow⟩⟩
    · rintro r H1 ⟨hbase, ⟨he, rfl⟩ | ⟨he, bt, tt, sv, ob, rfl, hbt, hat, hrow⟩⟩
      · refine ⟨fun _ => False, H, _, hbase, by simp, Fz.refl _ _ _, ?_⟩
        rw [waysAV, if_neg he] at h
        exact h
      · have l2 := tosR_length g w down m
        have n2' : tosR g w down m ≠ [] := fun e => by rw [e] at l2; simp at l2; omega
        obtain ⟨b2, c2, rfl, rfl, e2, m2, k2, u2⟩ : ∃ b cap, ob = some b ∧ sv = .raw (.slice (some ⟨b, 0, none⟩) (tosR g w down m).length cap) ∧ H1 b = some (.row (tosR g w down m) cap 25 1) ∧ b ≠ bt ∧ H b = none ∧ (tosR g w down m).length ≤ cap := by
          rcases hrow with ⟨_, h2, _⟩ | h2
          · exact absurd h2 n2'
          · exact h2
        rw [waysAV, if_pos he, he] at h
        refine ⟨fun b => b = bt ∨ b = b2, H, .tup [ways g w down, iv 0], hbase, ?_, ?_, h⟩
        · rintro b (rfl | rfl)
          · exact ⟨by rw [hat]; simp, hbt⟩
          · exact ⟨by rw [e2]; simp, k2⟩
        · refine Fz.tup (.cons (Fz.ptr (.inl rfl) hat ?_) (FzL.refl _ _ _))
          rw [l2] at *
          rw [waysCells, ← hm, ← hgone]
          refine .cons (Fz.refl _ _ _) (.cons (Fz.refl _ _ _) (.cons (Fz.refl _ _ _) (.cons (Fz.refl _ _ _) (.cons ?_ (.cons (Fz.refl _ _ _) .nil)))))
          exact Fz.slice (.inr rfl) e2 u2 (Nat.le_refl _) (fun j u hj => by rw [Nat.zero_add]; exact hj) (fun _ => n2') (FzL.refl _ _ _)
  · refine ACalls.of_code fn_opt_New ?_
    simp -implicitDefEqProofs only [sc_opt_New, Graph.av, Want.av, blv, sl, go_sem, seval]
    refine exC_pure (rc _) ?_
    repeat' (first | simp -implicitDefEqProofs only [go_sem, seval] | simp -implicitDefEqProofs (disch := omega) only [ars, if_pos, exV_some, Option.map_some] | ((with_reducible first | apply exB_dec | apply exB_intro) <;> intro _))
    all_goals first | contradiction | skip
    have e : optErr g w down = rightErr g w := by rw [optErr, if_pos hr]
    rw [waysAV, if_neg (by rw [e]; exact hr), e] at h
    exact h
end Go.Proofs.Ytejmcijcdhoogaa
end

section
namespace Go.Proofs.Ytejmcijcdhoogaa
open Go Abs
attribute [local irreducible] EX exL exG exC exCq exS exV exIf exGd exGq exB
set_option maxHeartbeats 2000000

def stepOk (g : Graph) (w : Want) (down : List Bool) (node n e : Int) : Prop :=
  optErr g w down = 0 ∧ (0 ≤ n ∧ n < w.via.length + 1) ∧ (0 ≤ node ∧ node < g.nodes) ∧ gi (pts w) (n + 1) ≠ node ∧ (ends g e).2.2 = true ∧ (ends g e).1 = node ∧ upE (pruned g w down) e = true ∧
    0 ≤ gi (farOf g w down (n + 1)) (ends g e).2.1 ∧ gi (farOf g w down (n + 1)) node = gi (farOf g w down (n + 1)) (ends g e).2.1 + wt g e
noncomputable instance (g : Graph) (w : Want) (down : List Bool) (node n e : Int) : Decidable (stepOk g w down node n e) := Classical.propDecidable _
noncomputable def stepW (g : Graph) (w : Want) (down : List Bool) (at_ : Int × Int) (e : Int) : Option (Int × Int) :=
  if stepOk g w down at_.1 at_.2 e then some ((ends g e).2.1, come (pts w) (ends g e).2.1 at_.2) else none
def stateAV (a : Int × Int) : AV := .agg [iv a.1, iv a.2]
def stepAV : Option (Int × Int) → AV
  | some a => .tup [stateAV a, bv true]
  | none => .tup [.agg [iv 0, iv 0], bv false]
theorem rd_tos {g : Graph} {w : Want} {down : List Bool} {m : Nat} {n : Int} (h0 : 0 ≤ n) (h1 : n < m) : rdV (tosR g w down m) (n.toNat * 1) 1 false = some (.vec false ((farOf g w down (n + 1)).map iv) (farOf g w down (n + 1)).length) := by
  rw [tosR, rd_range h0 h1, Int.toNat_of_nonneg h0]; rfl
theorem ends_ok {g : Graph} {e : Int} (h : (ends g e).2.2 = true) : 0 ≤ e ∧ e < 2 * g.links.length := by
  unfold ends at h
  split at h
  · cases h
  · omega
theorem optErr_right {g : Graph} {w : Want} {down : List Bool} (h : optErr g w down = 0) : rightErr g w = 0 := by
  unfold optErr at h
  split at h
  · exact absurd h ‹_›
  · omega
theorem wstep_c (g : Graph) (w : Want) (down : List Bool) (node n e : Int) (he : -9223372036854775808 ≤ e ∧ e ≤ 9223372036854775807) (H : AHeap) :
    APure Try.prog 92 [waysAV g w down, .agg [iv node, iv n], iv e] H (stepAV (stepW g w down (node, n) e)) := by
  intro Q h
  refine ACalls.of_code fn_opt_Ways_Step ?_
  by_cases h0 : optErr g w down = 0
  · have wf := wfit_of (optErr_right h0)
    have hf := wf.fit
    have f1 := hf.n1
    have f2 := hf.n2
    have f3 := hf.few
    have f4 := wf.few
    have pl := pts_length w
    have hno : ¬ stepOk g w down node n e → Q (.tup [.agg [iv 0, iv 0], bv false]) H := fun hn => by rw [stepW, if_neg hn] at h; exact h
    have hyes : stepOk g w down node n e → Q (.tup [.agg [iv (ends g e).2.1, iv (come (pts w) (ends g e).2.1 n)], bv true]) H := fun hn => by rw [stepW, if_pos hn] at h; exact h
    clear h
    rw [waysAV, if_pos h0, ways, waysCells]
    have ic := is_c g
    have ec := ends_c g e he
    simp only [Graph.av, triIIB] at ic ec
    simp -implicitDefEqProofs only [sc_opt_Ways_Step, sl, go_sem, seval]
    repeat' (first | simp -implicitDefEqProofs only [go_sem, seval] | simp -implicitDefEqProofs (disch := omega) only [rd_tos, ars, if_pos, exV_some, Option.map_some] | ((with_reducible first | apply exB_dec | apply exB_intro) <;> intro _) | with_reducible refine exC_pure (ic _ _) ?_ | with_reducible refine exCq_pure (ic _ _) ?_)
    all_goals first | (exfalso; omega) | skip
    rotate_left
    rotate_left
    rotate_left
    rotate_left
    · have hnode : 0 ≤ node ∧ node < g.nodes := by omega
      have hn : 0 ≤ n ∧ n < w.via.length + 1 := by omega
      have hd := (distL_spec hf (pruned g w down) (wf.point (i := n + 1) (by omega) (by omega))).1
      have hfl : ((farOf g w down (n + 1)).length : Int) = g.nodes := hd.len
      have hcm := come_c false (pts w) (by omega)
      refine exC_pure (ec _) ?_
      cases hok : (ends g e).2.2 with
      | false =>
        repeat' (first | simp -implicitDefEqProofs only [go_sem, seval] | simp -implicitDefEqProofs (disch := omega) only [rd_tos, ars, if_pos, exV_some, Option.map_some] | ((with_reducible first | apply exB_dec | apply exB_intro) <;> intro _))
        all_goals first | (exact hno fun hs => by have h5 := hs.2.2.2.2.1; rw [hok] at h5; cases h5) | (exfalso; omega)
      | true =>
        obtain ⟨e0, e1⟩ := ends_ok hok
        have hb := hf.b e e0 e1
        have hwt := hf.w e e0 e1
        have gb := dist_bound hf (pruned g w down) (wf.point (i := n + 1) (by omega) (by omega)) hb.2.1 hb.2.2
        have upc := up_c false (pruned g w down) e e0 (by omega)
        have hpl : (pruned g w down).length = g.links.length := by simp [pruned]
        have cm := hcm (ends g e).2.1 n hn.1 (by omega)
        simp only [blv, hpl] at upc
        simp only [sl] at cm
        simp only [farOf] at hfl
        unfold wt at hwt
        repeat' (first | simp -implicitDefEqProofs only [go_sem, seval] | simp -implicitDefEqProofs (disch := omega) only [rd_tos, rd_link2, farOf, rd_map, ars, if_pos, exV_some, Option.map_some] | ((with_reducible first | apply exB_dec | apply exB_intro) <;> intro _) | with_reducible refine exC_pure (upc _) ?_ | with_reducible refine exCq_pure (upc _) ?_ | with_reducible refine exC_pure (cm _) ?_ | with_reducible refine exCq_pure (cm _) ?_)
        all_goals rename_i hlast
        · exact hno fun hs => hlast hs.2.2.2.2.2.1
        · exact hno fun hs => by have h6 := hs.2.2.2.2.2.2.1; rw [h6] at hlast; cases hlast
        · refine hno fun hs => ?_
          have h6 := hs.2.2.2.2.2.2.2.1
          rw [farOf] at h6
          omega
        · exact hno fun hs => hlast hs.2.2.2.2.2.2.2.2
        · rename_i hup hlt
          rw [Bool.not_eq_false'] at hup
          refine hyes ⟨h0, hn, hnode, by assumption, hok, by omega, hup, ?_, by rw [farOf, wt]; omega⟩
          rw [farOf]
          omega
    all_goals
      refine hno fun hs => ?_
      obtain ⟨_, a1, a2, a3, _⟩ := hs
      first | omega | contradiction
  · have e : stepW g w down (node, n) e = none := by rw [stepW, if_neg fun hs => h0 hs.1]
    rw [e] at h
    rw [waysAV, if_neg h0]
    simp -implicitDefEqProofs only [sc_opt_Ways_Step, go_sem, seval]
    repeat' (first | simp -implicitDefEqProofs only [go_sem, seval] | simp -implicitDefEqProofs (disch := omega) only [ars, if_pos, exV_some, Option.map_some] | ((with_reducible first | apply exB_dec | apply exB_intro) <;> intro _))
    exact h
end Go.Proofs.Ytejmcijcdhoogaa
end

section
namespace Go.Proofs.Ytejmcijcdhoogaa
open Go Abs
attribute [local irreducible] EX exL exG exC exCq exS exV exIf exGd exGq exB
set_option maxHeartbeats 2000000

theorem rpoints_c (w : Want) (hw : w.ok) (H : AHeap) : APure Try.prog 54 [w.av] H (sl false (pts w)) := by
  obtain ⟨w1, -⟩ := hw
  intro Q h
  refine relax_slice (n := (pts w).length) (ds := (pts w).map iv) h (fun h0 hh => h0 (by simpa using hh)) ?_
  refine ACalls.of_code fn_waymarkref15_points ?_
  simp -implicitDefEqProofs only [sc_waymarkref15_points, Want.av, sl, go_sem, seval]
  repeat' (first | simp -implicitDefEqProofs only [go_sem, seval] | simp -implicitDefEqProofs (disch := omega) only [ars, if_pos, exV_some, Option.map_some] | ((with_reducible first | apply exB_dec | apply exB_intro) <;> intro _))
  intro b hb
  refine OnH.app (OnH.first hb rfl) rfl (by simp) (by omega) (by simp only [maxLen]; omega) fun H1 v1 h1 => ?_
  clear hb
  repeat' (first | simp -implicitDefEqProofs only [go_sem, seval] | simp -implicitDefEqProofs (disch := omega) only [ars, if_pos, exV_some, Option.map_some] | ((with_reducible first | apply exB_dec | apply exB_intro) <;> intro _))
  refine OnH.app h1 rfl rfl (by omega) (by simp only [maxLen]; omega) fun H2 v2 h2 => ?_
  clear h1
  repeat' (first | simp -implicitDefEqProofs only [go_sem, seval] | simp -implicitDefEqProofs (disch := omega) only [ars, if_pos, exV_some, Option.map_some] | ((with_reducible first | apply exB_dec | apply exB_intro) <;> intro _))
  have := h2.done
  rw [pts_length]
  simpa [pts, Nat.add_comm, Nat.add_left_comm] using this
theorem rcome_c (nl : Bool) (l : List Int) (hl : l.length ≤ 140737488351232) (node n : Int) (n0 : 0 ≤ n) (n1 : n < l.length) (H : AHeap) : APure Try.prog 77 [sl nl l, .agg [iv node, iv n]] H (.agg [iv node, iv (come l node n)]) := by
  intro Q h
  refine ACalls.of_code fn_waymarkref15_come ?_
  simp -implicitDefEqProofs only [sc_waymarkref15_come, sl, go_sem, seval]
  repeat' (first | simp -implicitDefEqProofs only [go_sem, seval] | simp -implicitDefEqProofs (disch := omega) only [ars, if_pos, exV_some, Option.map_some] | ((with_reducible first | apply exB_dec | apply exB_intro) <;> intro _))
  refine exL_mod (fun i : Int => []) (fun i => [(3, .cells [iv node, iv i] 82)]) (fun i => 0 ≤ i ∧ i < l.length ∧ come l node n = come l node i) (fun i => (l.length - i).toNat) n rfl ⟨n0, n1, rfl⟩ ?_
  rintro i ⟨i0, i1, hi⟩ ih
  simp only [S.up, S.upH, ups, Abs.put, Nat.reduceEqDiff, ↓reduceIte, Nat.reduceAdd] at ih
  simp -implicitDefEqProofs only [congrArg KI.code sc_waymarkref15_come_L0.eq_1, go_sem, seval]
  by_cases hc : i + 1 < l.length ∧ gi l (i + 1) = node
  · have nxt := ih (i + 1) ⟨by omega, hc.1, by rw [hi, come_go i0 hc.1 hc.2]⟩ (by omega)
    repeat' (first | simp -implicitDefEqProofs only [go_sem, seval] | simp -implicitDefEqProofs (disch := omega) only [ars, if_pos, exV_some, Option.map_some] | ((with_reducible first | apply exB_dec | apply exB_intro) <;> intro _))
    all_goals first | exact nxt | (exfalso; omega)
  · have hs := come_stop i0 hc
    rw [hi, hs] at h
    repeat' (first | simp -implicitDefEqProofs only [go_sem, seval] | simp -implicitDefEqProofs (disch := omega) only [ars, if_pos, exV_some, Option.map_some] | ((with_reducible first | apply exB_dec | apply exB_intro) <;> intro _))
    all_goals first | exact h | (exfalso; omega)
theorem rstart_c (w : Want) (hw : w.ok) (H : AHeap) : APure Try.prog 50 [w.av] H (.agg [iv w.src, iv (come (pts w) w.src 0)]) := by
  have hp := rpoints_c w hw
  have hl := pts_length w
  have hc := rcome_c false (pts w) (by have := hw.1; omega) w.src 0 (Int.le_refl _) (by omega)
  simp only [Want.av, sl] at hp hc
  intro Q h
  refine ACalls.of_code fn_waymarkref15_Start ?_
  simp -implicitDefEqProofs only [sc_waymarkref15_Start, Want.av, sl, go_sem, seval]
  repeat' (first | simp -implicitDefEqProofs only [go_sem, seval] | simp -implicitDefEqProofs (disch := omega) only [ars, if_pos, exV_some, Option.map_some] | ((with_reducible first | apply exB_dec | apply exB_intro) <;> intro _) | with_reducible refine exC_pure (hp _) ?_ | with_reducible refine exCq_pure (hp _) ?_ | with_reducible refine exC_pure (hc _) ?_ | with_reducible refine exCq_pure (hc _) ?_)
  exact h
theorem rgoal_c (w : Want) (hw : w.ok) (H : AHeap) : APure Try.prog 52 [w.av] H (.agg [iv w.dst, iv (w.via.length + 1)]) := by
  have hw1 := hw.1
  intro Q h
  refine ACalls.of_code fn_waymarkref15_Goal ?_
  simp -implicitDefEqProofs only [sc_waymarkref15_Goal, Want.av, sl, go_sem, seval]
  repeat' (first | simp -implicitDefEqProofs only [go_sem, seval] | simp -implicitDefEqProofs (disch := omega) only [ars, if_pos, exV_some, Option.map_some] | ((with_reducible first | apply exB_dec | apply exB_intro) <;> intro _))
  exact h
end Go.Proofs.Ytejmcijcdhoogaa
end

section
namespace Go.Proofs.Ytejmcijcdhoogaa
open Go Abs
attribute [local irreducible] EX exL exG exC exCq exS exV exIf exGd exGq exB
set_option maxHeartbeats 2000000

theorem leg_sym {g : Graph} {w : Want} (hw : WFit g w) (down : List Bool) {i : Int} (i0 : 0 ≤ i) (i1 : i ≤ w.via.length) : gi (distL g (pruned g w down) (gi (pts w) i)) (gi (pts w) (i + 1)) = leg g w down i :=
  dist_sym hw.fit _ (hw.point i0 (by omega)) (hw.point (by omega) (by omega))
theorem rcost_c (g : Graph) (w : Want) (nl : Bool) (down : List Bool) (hw : w.ok) (H : AHeap) : APure Try.prog 24 [g.av, w.av, blv nl down] H (.tup [iv (optCost g w down), iv (optErr g w down)]) := by
  intro Q h
  have rc := fun H => rightWant_c g w hw H
  have pc := fun H => rpoints_c w hw H
  have dc := fun H => pruned_ref_c g w nl down hw H (rightWant_c g w hw H)
  simp only [Graph.av, Want.av, blv, sl] at rc pc dc
  refine ACalls.of_code fn_waymarkref15_Cost ?_
  simp -implicitDefEqProofs only [sc_waymarkref15_Cost, Graph.av, Want.av, blv, sl, go_sem, seval]
  refine exC_pure (rc _) ?_
  by_cases hr : rightErr g w = 0
  · have wf := wfit_of hr
    have hf := wf.fit
    have f1 := hf.n1
    have f2 := hf.n2
    have f3 := hf.few
    have f4 := wf.few
    have pl := pts_length w
    obtain ⟨gone, hgone⟩ : ∃ gone, gone = pruned g w down := ⟨_, rfl⟩
    have gl : gone.length = g.links.length := by rw [hgone]; simp [pruned]
    have tc := fun n H => from_ref_c g false gone n H
    have tov : ∀ n : Int, 0 ≤ n → n < g.nodes → fromAV g gone n = dv (distL g gone n) := fun n n0 n1 => by rw [fromAV, if_pos ⟨hf.ok, n0, n1⟩]; rfl
    simp only [Graph.av, blv, gl] at tc
    have hdc : prunedAV g w down = .vec false (gone.map bv) g.links.length := by rw [prunedAV, if_pos hr, hgone]
    obtain ⟨m, hm⟩ : ∃ m, m = w.via.length + 1 := ⟨_, rfl⟩
    rw [hr]
    repeat' (first | simp -implicitDefEqProofs only [go_sem, seval] | simp -implicitDefEqProofs (disch := omega) only [ars, if_pos, exV_some, Option.map_some] | ((with_reducible first | apply exB_dec | apply exB_intro) <;> intro _) | with_reducible refine exC_pure (pc _) ?_ | with_reducible refine exCq_pure (pc _) ?_ | with_reducible refine exC_pure (dc _) ?_ | with_reducible refine exCq_pure (dc _) ?_)
    rw [hdc]
    repeat' (first | simp -implicitDefEqProofs only [go_sem, seval] | simp -implicitDefEqProofs (disch := omega) only [ars, if_pos, exV_some, Option.map_some] | ((with_reducible first | apply exB_dec | apply exB_intro) <;> intro _))
    refine exL_mod (fun a : Int × Int => [(11, .v (iv a.2)), (12, .v (iv a.1))]) (fun _ => []) (fun a => 0 ≤ a.1 ∧ a.1 ≤ m ∧ noLeg g w down a.1.toNat = false ∧ a.2 = legs g w down a.1.toNat) (fun a => (m - a.1).toNat) (0, 0) rfl ⟨by simp, by simp, rfl, rfl⟩ ?_
    rintro ⟨i, sum⟩ ⟨i0, i1, hnl, hsum⟩ ih
    dsimp only at i0 i1 hnl hsum ih
    simp only [S.up, S.upH, ups, Abs.put, Nat.reduceEqDiff, ↓reduceIte, Nat.reduceAdd] at ih
    simp -implicitDefEqProofs only [congrArg KI.code sc_waymarkref15_Cost_L0.eq_1, go_sem, seval]
    by_cases hi : i < m
    · obtain ⟨p0, p1⟩ := wf.point (i := i + 1) (by omega) (by omega)
      obtain ⟨a0, a1⟩ := wf.point (i := i) (by omega) (by omega)
      have tci := tc (gi (pts w) i) H
      rw [tov _ a0 a1] at tci
      have hd := (distL_spec hf gone (s := gi (pts w) i) (by omega)).1
      have hdl := hd.len
      have hlg := leg_sym wf down (i := i) i0 (by omega)
      rw [← hgone] at hlg
      have lb1 := legs_bound wf down i.toNat (by omega) hnl
      have lb2 := leg_bound wf down i0 (by omega)
      repeat' (first | simp -implicitDefEqProofs only [go_sem, seval] | simp -implicitDefEqProofs (disch := omega) only [dv, rd_map, hlg, ars, if_pos, exV_some, Option.map_some] | ((with_reducible first | apply exB_dec | apply exB_intro) <;> intro _) | with_reducible refine exC_pure (tci) ?_ | with_reducible refine exCq_pure (tci) ?_)
      all_goals first | (exfalso; omega) | skip
      · have e : optErr g w down = 8 := by
          rw [optErr, if_neg (by simpa using hr), if_pos]
          refine noLeg_mono (n := (i + 1).toNat) (by omega) ?_
          rw [show (i + 1).toNat = i.toNat + 1 by omega, noLeg_succ, Int.toNat_of_nonneg i0, decide_eq_true (by omega), Bool.or_true]
        rw [optCost, if_neg (by omega), e] at h
        exact h
      · refine ih (i + 1, sum + leg g w down i) ⟨by dsimp only; omega, by dsimp only; omega, ?_, ?_⟩ (by dsimp only; omega)
        · dsimp only
          rw [show (i + 1).toNat = i.toNat + 1 by omega, noLeg_succ, hnl, Int.toNat_of_nonneg i0, decide_eq_false (by omega)]; rfl
        · dsimp only
          rw [show (i + 1).toNat = i.toNat + 1 by omega, legs, Int.toNat_of_nonneg i0, hsum]
    · obtain rfl : i = m := by omega
      rw [Int.toNat_natCast] at hnl hsum
      subst hsum
      have lb1 := legs_bound wf down m (by omega) hnl
      have e0 : optErr g w down = if 0 < w.bound ∧ w.bound < legs g w down m then 8 else 0 := by
        rw [optErr, if_neg (by simpa using hr), if_neg (by rw [← hm, hnl]; simp), hm]
      clear ih
      repeat' (first | simp -implicitDefEqProofs only [go_sem, seval] | simp -implicitDefEqProofs (disch := omega) only [ars, if_pos, exV_some, Option.map_some] | ((with_reducible first | apply exB_dec | apply exB_intro) <;> intro _))
      all_goals first | (exfalso; omega) | skip
      · rw [if_pos ⟨by assumption, by assumption⟩] at e0
        rw [optCost, if_neg (by omega), e0] at h
        exact h
      · rw [if_neg (by omega)] at e0
        rw [optCost, if_pos e0, e0, ← hm] at h
        exact h
      · rw [if_neg (by omega)] at e0
        rw [optCost, if_pos e0, e0, ← hm] at h
        exact h
  · repeat' (first | simp -implicitDefEqProofs only [go_sem, seval] | simp -implicitDefEqProofs (disch := omega) only [ars, if_pos, exV_some, Option.map_some] | ((with_reducible first | apply exB_dec | apply exB_intro) <;> intro _))
    all_goals first | contradiction | skip
    have e : optErr g w down = rightErr g w := by rw [optErr, if_pos hr]
    rw [optCost, if_neg (by rw [e]; exact hr), e] at h
    exact h
end Go.Proofs.Ytejmcijcdhoogaa
end
