import Derived.Test.YtkephdahbplhfaaG9
import Derived.Test.YtkephdahbplhfaaG10
/- The law PruneTells of chapter 8 answers true for every graph, want and list of links that are down, and leaves its arguments as they were. -/
namespace Go.Proofs.Ytkephdahbplhfaa
open Go Abs
set_option maxRecDepth 100000 in
theorem pruneTells_lifted (os : Os) (started : os.Started) (H : Type) (enc : TypeId × Value → H) :
    ReturnsInHanded {} Try.checked os 9 .any (Rows.pruneTellsSpec.pre6 enc Try.prog Try.f9 Rows.pruneTellsRow.domain false) (Rows.pruneTellsSpec.post enc Try.prog Try.f9 false true false false) := by
  refine row_lifted (C := Try.checked) (tcs := [tcGraph, tcWant, tcBools]) (tb := Try.f9.resultTypes.getD 0 0) started own (by kernel_rfl) Try.func9
    (ChangeSpec.witness6 (enc := enc) (C := Try.checked) false ⟨#[], #[.agg #[.int .i64 0, .slice none 0 0], .agg #[.int .i64 0, .int .i64 0, .int .i64 0, .slice none 0 0, .slice none 0 0, .slice none 0 0, .slice none 0 0], .slice none 0 0], []⟩ 8 (by kernel_rfl) (by kernel_rfl) (by kernel_rfl) (by kernel_rfl))
    laid (by kernel_rfl) (by kernel_rfl) (by kernel_rfl) rfl ?_ ?_
  · intro H ds hd
    match ds, hd with
    | [d0, d1, d2], _ => exact ⟨rfl, rfl, rfl⟩
  · intro avs h K
    simp only [ArgShapes] at h
    obtain ⟨_, _, rfl, h1, _, _, rfl, h2, _, _, rfl, h3, rfl⟩ := h
    obtain ⟨g, rfl, hg⟩ := shape_graph h1
    obtain ⟨w, rfl, hw⟩ := shape_want h2
    obtain ⟨nl, l, rfl, hl⟩ := shape_bools h3
    exact pruneTells_c g w hw.1 nl l K
theorem pruneTells_holds : Rows.PruneTellsSaid :=
  OpenClaim.holds_of_wide 9 Try.f9 rfl rfl rfl rfl rfl rfl rfl ⟨rfl, rfl, rfl, rfl, rfl⟩ rfl rfl rfl rfl rfl (by kernel_rfl) Try.func9 (by kernel_rfl)
    (of_decide_eq_true (by kernel_rfl)) (by unfold Func.isWrapper; first | (rw [if_pos (by decide +kernel)]; kernel_rfl) | (rw [if_neg (by decide +kernel)]; exact ⟨rfl, rfl⟩))
    (fun os started H enc _ => pruneTells_lifted os started H enc)
#print axioms pruneTells_holds

end Go.Proofs.Ytkephdahbplhfaa
