import Derived.Test.YtkephdahbplhfaaG4
import Derived.Test.YtkephdahbplhfaaG7
set_option linter.unusedSimpArgs false
set_option linter.unusedVariables false
/- A want as an argument. -/
namespace Go.Proofs.Ytkephdahbplhfaa
open Go Abs
def tcWant : TC := .st [tcI, tcI, tcI, tcInts, tcInts, tcInts, tcInts]
def I64s (l : List Int) : Prop := ∀ x ∈ l, -9223372036854775808 ≤ x ∧ x ≤ 9223372036854775807
def Want.fine (w : Want) : Prop := w.ok ∧ (-9223372036854775808 ≤ w.src ∧ w.src ≤ 9223372036854775807) ∧ (-9223372036854775808 ≤ w.dst ∧ w.dst ≤ 9223372036854775807) ∧ (-9223372036854775808 ≤ w.bound ∧ w.bound ≤ 9223372036854775807) ∧ I64s w.via ∧ I64s w.nodes ∧ I64s w.links ∧ I64s w.colours
theorem shape_wantL {r : List AV} (h : Shape tcWant r) : ∃ w : Want, .agg r = w.av ∧ w.fine := by
  simp only [tcWant, Shape, ShapeAll, tcI] at h
  obtain ⟨_, _, rfl, ⟨a, rfl, ha⟩, _, _, rfl, ⟨b, rfl, hb⟩, _, _, rfl, ⟨c, rfl, hc⟩, _, _, rfl, h1, _, _, rfl, h2, _, _, rfl, h3, _, _, rfl, h4, rfl⟩ := h
  obtain ⟨n1, l1, rfl, b1, -, i1⟩ := shape_intsL h1
  obtain ⟨n2, l2, rfl, b2, -, i2⟩ := shape_intsL h2
  obtain ⟨n3, l3, rfl, b3, -, i3⟩ := shape_intsL h3
  obtain ⟨n4, l4, rfl, b4, -, i4⟩ := shape_intsL h4
  exact ⟨⟨a, b, c, n1, l1, n2, l2, n3, l3, n4, l4⟩, by simp [Want.av, sl], ⟨b1, b2, b3, b4⟩, wf_i64 ha, wf_i64 hb, wf_i64 hc, i1, i2, i3, i4⟩
theorem shape_want {a : AV} (h : ArgShape tcWant a) : ∃ w : Want, a = w.av ∧ w.fine := by
  unfold ArgShape tcWant at h
  obtain ⟨r, rfl, h⟩ := h
  exact shape_wantL h
end Go.Proofs.Ytkephdahbplhfaa
