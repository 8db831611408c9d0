import Derived.Test.YtkephdahbplhfaaG11
import Derived.Test.YtkephdahbplhfaaG4
/- The law GraphLimits of chapter 6 answers true for every number and truth value, and leaves its arguments as they were. -/
namespace Go.Proofs.Ytkephdahbplhfaa
open Go Abs
theorem shape_bool {a : AV} (h : ArgShape .bool a) : ∃ b, a = bv b := by
  unfold ArgShape Shape at h
  obtain ⟨b, h1⟩ := h
  simp only [List.cons.injEq, and_true] at h1
  exact ⟨b, h1⟩
set_option maxRecDepth 100000 in
theorem graphLimits_lifted (os : Os) (started : os.Started) (H : Type) (enc : TypeId × Value → H) :
    ReturnsInHanded {} Try.checked os 5 .any (Rows.graphLimitsSpec.pre6 enc Try.prog Try.f5 Rows.graphLimitsRow.domain false) (Rows.graphLimitsSpec.post enc Try.prog Try.f5 false true false false) := by
  refine row_lifted (C := Try.checked) (tcs := [tcI, .bool]) (tb := Try.f5.resultTypes.getD 0 0) started own (by kernel_rfl) Try.func5
    (ChangeSpec.witness6 (enc := enc) (C := Try.checked) false ⟨#[], #[.int .i64 0, .bool false], []⟩ 8 (by kernel_rfl) (by kernel_rfl) (by kernel_rfl) (by kernel_rfl))
    laid (by kernel_rfl) (by kernel_rfl) (by kernel_rfl) rfl ?_ ?_
  · intro H ds hd
    match ds, hd with
    | [d0, d1], _ => exact ⟨rfl, rfl, rfl⟩
  · intro avs h K
    simp only [ArgShapes] at h
    obtain ⟨_, _, rfl, h1, _, _, rfl, h2, rfl⟩ := h
    obtain ⟨x1, rfl, hx1⟩ := shape_int h1
    obtain ⟨x2, rfl⟩ := shape_bool h2
    exact graphLimits_c x1 x2 K
theorem graphLimits_holds : Rows.GraphLimitsSaid :=
  OpenClaim.holds_of_wide 5 Try.f5 rfl rfl rfl rfl rfl rfl rfl ⟨rfl, rfl, rfl, rfl, rfl⟩ rfl rfl rfl rfl rfl (by kernel_rfl) Try.func5 (by kernel_rfl)
    (of_decide_eq_true (by kernel_rfl)) (by unfold Func.isWrapper; first | (rw [if_pos (by decide +kernel)]; kernel_rfl) | (rw [if_neg (by decide +kernel)]; exact ⟨rfl, rfl⟩))
    (fun os started H enc _ => graphLimits_lifted os started H enc)
#print axioms graphLimits_holds

end Go.Proofs.Ytkephdahbplhfaa
