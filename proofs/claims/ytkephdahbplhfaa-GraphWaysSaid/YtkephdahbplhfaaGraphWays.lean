import Derived.Test.YtkephdahbplhfaaG3
import Derived.Test.YtkephdahbplhfaaG4
/- The law GraphWays of chapter 6 answers true for every graph and edge, and leaves its arguments as they were. -/
namespace Go.Proofs.Ytkephdahbplhfaa
open Go Abs

set_option maxRecDepth 100000 in
theorem graphWays_lifted (os : Os) (started : os.Started) (H : Type) (enc : TypeId × Value → H) :
    ReturnsInHanded {} Try.checked os 4 .any (Rows.graphWaysSpec.pre6 enc Try.prog Try.f4 Rows.graphWaysRow.domain false) (Rows.graphWaysSpec.post enc Try.prog Try.f4 false true false false) := by
  refine row_lifted (C := Try.checked) (tcs := [tcGraph, tcI]) (tb := Try.f4.resultTypes.getD 0 0) started own (by kernel_rfl) Try.func4
    (ChangeSpec.witness6 (enc := enc) (C := Try.checked) false ⟨#[], #[.agg #[.int .i64 0, .slice none 0 0], .int .i64 0], []⟩ 8 (by kernel_rfl) (by kernel_rfl) (by kernel_rfl) (by kernel_rfl))
    laid (by kernel_rfl) (by kernel_rfl) (by kernel_rfl) rfl ?_ ?_
  · intro H ds hd
    match ds, hd with
    | [a, b], _ => exact ⟨rfl, rfl, rfl⟩
  · intro avs h K
    simp only [ArgShapes] at h
    obtain ⟨_, _, rfl, h1, _, _, rfl, h2, rfl⟩ := h
    obtain ⟨g, rfl, hg⟩ := shape_graph h1
    obtain ⟨e, rfl, he⟩ := shape_int h2
    exact graphWays_c g hg.1 e he K
theorem graphWays_holds : Rows.GraphWaysSaid :=
  OpenClaim.holds_of_wide 4 Try.f4 rfl rfl rfl rfl rfl rfl rfl ⟨rfl, rfl, rfl, rfl, rfl⟩ rfl rfl rfl rfl rfl (by kernel_rfl) Try.func4 (by kernel_rfl)
    (of_decide_eq_true (by kernel_rfl)) (by unfold Func.isWrapper; first | (rw [if_pos (by decide +kernel)]; kernel_rfl) | (rw [if_neg (by decide +kernel)]; exact ⟨rfl, rfl⟩))
    (fun os started H enc _ => graphWays_lifted os started H enc)
#print axioms graphWays_holds
end Go.Proofs.Ytkephdahbplhfaa
