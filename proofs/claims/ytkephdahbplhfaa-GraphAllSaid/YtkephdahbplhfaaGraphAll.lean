import Derived.Test.YtkephdahbplhfaaG5
import Derived.Test.YtkephdahbplhfaaG4
/- The law GraphAll of chapter 6 answers true for every graph, and leaves its arguments as they were. -/
namespace Go.Proofs.Ytkephdahbplhfaa
open Go Abs

set_option maxRecDepth 100000 in
theorem graphAll_lifted (os : Os) (started : os.Started) (H : Type) (enc : TypeId × Value → H) :
    ReturnsInHanded {} Try.checked os 6 .any (Rows.graphAllSpec.pre6 enc Try.prog Try.f6 Rows.graphAllRow.domain false) (Rows.graphAllSpec.post enc Try.prog Try.f6 false true false false) := by
  refine row_lifted (C := Try.checked) (tcs := [tcGraph]) (tb := Try.f6.resultTypes.getD 0 0) started own (by kernel_rfl) Try.func6
    (ChangeSpec.witness6 (enc := enc) (C := Try.checked) false ⟨#[], #[.agg #[.int .i64 0, .slice none 0 0]], []⟩ 8 (by kernel_rfl) (by kernel_rfl) (by kernel_rfl) (by kernel_rfl))
    laid (by kernel_rfl) (by kernel_rfl) (by kernel_rfl) rfl ?_ ?_
  · intro H ds hd
    match ds, hd with
    | [a], _ => exact ⟨rfl, rfl, rfl⟩
  · intro avs h K
    simp only [ArgShapes] at h
    obtain ⟨_, _, rfl, h1, rfl⟩ := h
    obtain ⟨g, rfl, hg⟩ := shape_graph h1
    exact graphAll_c g hg.1 K
theorem graphAll_holds : Rows.GraphAllSaid :=
  OpenClaim.holds_of_wide 6 Try.f6 rfl rfl rfl rfl rfl rfl rfl ⟨rfl, rfl, rfl, rfl, rfl⟩ rfl rfl rfl rfl rfl (by kernel_rfl) Try.func6 (by kernel_rfl)
    (of_decide_eq_true (by kernel_rfl)) (by unfold Func.isWrapper; first | (rw [if_pos (by decide +kernel)]; kernel_rfl) | (rw [if_neg (by decide +kernel)]; exact ⟨rfl, rfl⟩))
    (fun os started H enc _ => graphAll_lifted os started H enc)
#print axioms graphAll_holds
end Go.Proofs.Ytkephdahbplhfaa
