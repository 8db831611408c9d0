import Derived.Test.YtkephdahbplhfaaG9
import Derived.Test.YtkephdahbplhfaaG10
/- The law PruneMore of chapter 8 answers true for every graph, want, list of links that are down, and node, link and colour more, and leaves its arguments as they were. -/
namespace Go.Proofs.Ytkephdahbplhfaa
open Go Abs
set_option maxRecDepth 100000 in
theorem pruneMore_lifted (os : Os) (started : os.Started) (H : Type) (enc : TypeId × Value → H) :
    ReturnsInHanded {} Try.checked os 10 .any (Rows.pruneMoreSpec.pre6 enc Try.prog Try.f10 Rows.pruneMoreRow.domain false) (Rows.pruneMoreSpec.post enc Try.prog Try.f10 false true false false) := by
  refine row_lifted (C := Try.checked) (tcs := [tcGraph, tcWant, tcBools, tcI, tcI, tcI]) (tb := Try.f10.resultTypes.getD 0 0) started own (by kernel_rfl) Try.func10
    (ChangeSpec.witness6 (enc := enc) (C := Try.checked) false ⟨#[], #[.agg #[.int .i64 0, .slice none 0 0], .agg #[.int .i64 0, .int .i64 0, .int .i64 0, .slice none 0 0, .slice none 0 0, .slice none 0 0, .slice none 0 0], .slice none 0 0, .int .i64 0, .int .i64 0, .int .i64 0], []⟩ 8 (by kernel_rfl) (by kernel_rfl) (by kernel_rfl) (by kernel_rfl))
    laid (by kernel_rfl) (by kernel_rfl) (by kernel_rfl) rfl ?_ ?_
  · intro H ds hd
    match ds, hd with
    | [d0, d1, d2, d3, d4, d5], _ => exact ⟨rfl, rfl, rfl⟩
  · intro avs h K
    simp only [ArgShapes] at h
    obtain ⟨_, _, rfl, h1, _, _, rfl, h2, _, _, rfl, h3, _, _, rfl, h4, _, _, rfl, h5, _, _, rfl, h6, rfl⟩ := h
    obtain ⟨g, rfl, hg⟩ := shape_graph h1
    obtain ⟨w, rfl, hw⟩ := shape_want h2
    obtain ⟨nl, l, rfl, hl⟩ := shape_bools h3
    obtain ⟨n, rfl, hn⟩ := shape_int h4
    obtain ⟨e, rfl, he⟩ := shape_int h5
    obtain ⟨c, rfl, hc⟩ := shape_int h6
    exact pruneMore_c g w hw.1 nl l n e c K
theorem pruneMore_holds : Rows.PruneMoreSaid :=
  OpenClaim.holds_of_wide 10 Try.f10 rfl rfl rfl rfl rfl rfl rfl ⟨rfl, rfl, rfl, rfl, rfl⟩ rfl rfl rfl rfl rfl (by kernel_rfl) Try.func10 (by kernel_rfl)
    (of_decide_eq_true (by kernel_rfl)) (by unfold Func.isWrapper; first | (rw [if_pos (by decide +kernel)]; kernel_rfl) | (rw [if_neg (by decide +kernel)]; exact ⟨rfl, rfl⟩))
    (fun os started H enc _ => pruneMore_lifted os started H enc)
#print axioms pruneMore_holds

end Go.Proofs.Ytkephdahbplhfaa
