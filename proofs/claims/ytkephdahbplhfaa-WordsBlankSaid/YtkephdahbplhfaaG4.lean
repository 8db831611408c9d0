import Derived.Test.YtkephdahbplhfaaG1
import Derived.Test.YtkephdahbplhfaaAbsR
import Derived.Test.YtkephdahbplhfaaRows
import Derived.WalkKit
import Derived.ProofKit
set_option linter.unusedSimpArgs false
set_option linter.unusedVariables false
/- What the arguments of a law are, as lists and numbers. -/
namespace Go.Proofs.Ytkephdahbplhfaa
open Go Abs
attribute [local irreducible] EX exL exG exC exCq exS exV exIf exGd exGq

theorem rows_map {α : Type} [Enc α] (l : List α) : (l.map Enc.cells).flatten = rows l := by simp [rows, List.flatMap]
theorem each_map {β : Type} {f : β → List AV} {p : β → Prop} : ∀ {rs : List (List AV)}, (∀ r ∈ rs, ∃ b, r = f b ∧ p b) → ∃ l : List β, rs = l.map f ∧ ∀ b ∈ l, p b
  | [], _ => ⟨[], rfl, by simp⟩
  | r :: rs, h => by
    obtain ⟨b, rfl, hb⟩ := h r (by simp)
    obtain ⟨l, rfl, hl⟩ := each_map (rs := rs) fun r hr => h r (by simp [hr])
    exact ⟨b :: l, rfl, by simpa using ⟨hb, hl⟩⟩
theorem wf_i64 {n : Int} (h : (Lit.int .i64 n).wf = true) : -9223372036854775808 ≤ n ∧ n ≤ 9223372036854775807 := by
  simp [Lit.wf, IntKind.min, IntKind.max, IntKind.signed, IntKind.bits] at h
  try omega

def tcI : TC := .int .i64
def tcLink : TC := .st [tcI, tcI, tcI, tcI]
def tcGraph : TC := .st [tcI, .sl 32 tcLink]
theorem shape_int {a : AV} (h : ArgShape tcI a) : ∃ n, a = iv n ∧ -9223372036854775808 ≤ n ∧ n ≤ 9223372036854775807 := by
  unfold ArgShape tcI Shape at h
  obtain ⟨n, h1, h2⟩ := h
  simp only [List.cons.injEq, and_true] at h1
  exact ⟨n, h1, wf_i64 h2⟩
def Link.fine (l : Link) : Prop := (-9223372036854775808 ≤ l.A ∧ l.A ≤ 9223372036854775807) ∧ (-9223372036854775808 ≤ l.B ∧ l.B ≤ 9223372036854775807) ∧ (-9223372036854775808 ≤ l.metric ∧ l.metric ≤ 9223372036854775807) ∧ (-9223372036854775808 ≤ l.colour ∧ l.colour ≤ 9223372036854775807)
def Graph.fine (g : Graph) : Prop := g.links.length * 32 ≤ 140737488351232 ∧ (-9223372036854775808 ≤ g.nodes ∧ g.nodes ≤ 9223372036854775807) ∧ ∀ l ∈ g.links, l.fine
theorem shape_link {r : List AV} (h : Shape tcLink r) : ∃ l : Link, r = Enc.cells l ∧ l.fine := by
  simp only [tcLink, tcI, Shape, ShapeAll] at h
  obtain ⟨_, _, rfl, ⟨a, rfl, ha⟩, _, _, rfl, ⟨b, rfl, hb⟩, _, _, rfl, ⟨c, rfl, hc⟩, _, _, rfl, ⟨d, rfl, hd⟩, rfl⟩ := h
  exact ⟨⟨a, b, c, d⟩, rfl, wf_i64 ha, wf_i64 hb, wf_i64 hc, wf_i64 hd⟩
theorem shape_graph {a : AV} (h : ArgShape tcGraph a) : ∃ g : Graph, a = g.av ∧ g.fine := by
  simp only [tcGraph, ArgShape, tcI, Shape, ShapeAll] at h
  obtain ⟨_, rfl, _, _, rfl, ⟨n, rfl, hn⟩, _, _, rfl, ⟨nl, rs, rfl, _, hb, hr⟩, rfl⟩ := h
  obtain ⟨l, rfl, hl⟩ := each_map fun r hr' => shape_link (hr r hr')
  rw [rows_map]
  exact ⟨⟨n, nl, l⟩, by simp [Graph.av], by simpa [reachBytes] using hb, wf_i64 hn, hl⟩
def tcInts : TC := .sl 8 tcI
def tcBools : TC := .sl 1 .bool
theorem one_map {f : Int → AV} : ∀ (l : List Int), (l.map fun x => [f x]).flatten = l.map f
  | [] => rfl
  | x :: l => by simpa using one_map l
theorem one_mapB {f : Bool → AV} : ∀ (l : List Bool), (l.map fun x => [f x]).flatten = l.map f
  | [] => rfl
  | x :: l => by simpa using one_mapB l
theorem shape_intsL {r : List AV} (h : Shape tcInts r) : ∃ nl l, r = [.vec nl (l.map iv) l.length] ∧ l.length * 8 ≤ 140737488351232 ∧ (nl = true → l = []) ∧ ∀ x ∈ l, -9223372036854775808 ≤ x ∧ x ≤ 9223372036854775807 := by
  simp only [tcInts, tcI, Shape] at h
  obtain ⟨nl, rs, rfl, hn, hb, hr⟩ := h
  obtain ⟨l, rfl, hl⟩ := each_map (f := fun x : Int => [iv x]) (p := fun x => -9223372036854775808 ≤ x ∧ x ≤ 9223372036854775807) fun r hr' => by
    obtain ⟨n, rfl, hn⟩ := hr r hr'
    exact ⟨n, rfl, wf_i64 hn⟩
  rw [one_map]
  exact ⟨nl, l, by simp, by simpa [reachBytes] using hb, fun e => by simpa using hn e, hl⟩
theorem shape_ints {a : AV} (h : ArgShape tcInts a) : ∃ nl l, a = .vec nl (l.map iv) l.length ∧ l.length * 8 ≤ 140737488351232 ∧ (nl = true → l = []) ∧ ∀ x ∈ l, -9223372036854775808 ≤ x ∧ x ≤ 9223372036854775807 := by
  unfold ArgShape tcInts at h
  obtain ⟨nl, l, h1, h2⟩ := shape_intsL h
  simp only [List.cons.injEq, and_true] at h1
  exact ⟨nl, l, h1, h2⟩
theorem shape_bools {a : AV} (h : ArgShape tcBools a) : ∃ nl l, a = .vec nl (l.map bv) l.length ∧ l.length ≤ 140737488351232 ∧ (nl = true → l = []) := by
  simp only [tcBools, ArgShape, Shape] at h
  obtain ⟨nl, rs, h1, hn, hb, hr⟩ := h
  obtain ⟨l, rfl, hl⟩ := each_map (f := fun x : Bool => [bv x]) (p := fun _ => True) fun r hr' => by
    obtain ⟨n, rfl⟩ := hr r hr'
    exact ⟨n, rfl, trivial⟩
  rw [one_mapB] at h1
  simp only [List.cons.injEq, and_true, List.length_map] at h1
  exact ⟨nl, l, h1, by simpa [reachBytes] using hb, fun e => by simpa using hn e⟩
theorem laid : laidOutB Try.prog = true := by kernel_rfl
theorem own : ownKnob Try.prog.godebug = none := by kernel_rfl
end Go.Proofs.Ytkephdahbplhfaa
