import Derived.Test.YtkephdahbplhfaaS7
import Derived.Test.YtkephdahbplhfaaG4
/- The law SpfLess of chapter 7 answers true for every graph, list of links that are down, and node, and leaves its arguments as they were. -/
namespace Go.Proofs.Ytkephdahbplhfaa
open Go Abs
set_option maxRecDepth 100000 in
theorem spfLess_lifted (os : Os) (started : os.Started) (H : Type) (enc : TypeId × Value → H) :
    ReturnsInHanded {} Try.checked os 13 .any (Rows.spfLessSpec.pre6 enc Try.prog Try.f13 Rows.spfLessRow.domain false) (Rows.spfLessSpec.post enc Try.prog Try.f13 false true false false) := by
  refine row_lifted (C := Try.checked) (tcs := [tcGraph, tcBools, tcI]) (tb := Try.f13.resultTypes.getD 0 0) started own (by kernel_rfl) Try.func13
    (ChangeSpec.witness6 (enc := enc) (C := Try.checked) false ⟨#[], #[.agg #[.int .i64 0, .slice none 0 0], .slice none 0 0, .int .i64 0], []⟩ 8 (by kernel_rfl) (by kernel_rfl) (by kernel_rfl) (by kernel_rfl))
    laid (by kernel_rfl) (by kernel_rfl) (by kernel_rfl) rfl ?_ ?_
  · intro H ds hd
    match ds, hd with
    | [d0, d1, d2], _ => exact ⟨rfl, rfl, rfl⟩
  · intro avs h K
    simp only [ArgShapes] at h
    obtain ⟨_, _, rfl, h1, _, _, rfl, h2, _, _, rfl, h3, rfl⟩ := h
    obtain ⟨g, rfl, hg⟩ := shape_graph h1
    obtain ⟨nl, l, rfl, hl⟩ := shape_bools h2
    obtain ⟨n, rfl, hn⟩ := shape_int h3
    exact spfLess_c g nl l n K
theorem spfLess_holds : Rows.SpfLessSaid :=
  OpenClaim.holds_of_wide 13 Try.f13 rfl rfl rfl rfl rfl rfl rfl ⟨rfl, rfl, rfl, rfl, rfl⟩ rfl rfl rfl rfl rfl (by kernel_rfl) Try.func13 (by kernel_rfl)
    (of_decide_eq_true (by kernel_rfl)) (by unfold Func.isWrapper; first | (rw [if_pos (by decide +kernel)]; kernel_rfl) | (rw [if_neg (by decide +kernel)]; exact ⟨rfl, rfl⟩))
    (fun os started H enc _ => spfLess_lifted os started H enc)
#print axioms spfLess_holds

end Go.Proofs.Ytkephdahbplhfaa
