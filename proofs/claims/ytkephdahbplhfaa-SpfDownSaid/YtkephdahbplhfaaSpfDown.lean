import Derived.Test.YtkephdahbplhfaaS8
import Derived.Test.YtkephdahbplhfaaG4
/- The law SpfDown of chapter 7 answers true for every graph, list of links that are down, node, and link, and leaves its arguments as they were. -/
namespace Go.Proofs.Ytkephdahbplhfaa
open Go Abs
set_option maxRecDepth 100000 in
theorem spfDown_lifted (os : Os) (started : os.Started) (H : Type) (enc : TypeId × Value → H) :
    ReturnsInHanded {} Try.checked os 12 .any (Rows.spfDownSpec.pre6 enc Try.prog Try.f12 Rows.spfDownRow.domain false) (Rows.spfDownSpec.post enc Try.prog Try.f12 false true false false) := by
  refine row_lifted (C := Try.checked) (tcs := [tcGraph, tcBools, tcI, tcI]) (tb := Try.f12.resultTypes.getD 0 0) started own (by kernel_rfl) Try.func12
    (ChangeSpec.witness6 (enc := enc) (C := Try.checked) false ⟨#[], #[.agg #[.int .i64 0, .slice none 0 0], .slice none 0 0, .int .i64 0, .int .i64 0], []⟩ 8 (by kernel_rfl) (by kernel_rfl) (by kernel_rfl) (by kernel_rfl))
    laid (by kernel_rfl) (by kernel_rfl) (by kernel_rfl) rfl ?_ ?_
  · intro H ds hd
    match ds, hd with
    | [d0, d1, d2, d3], _ => exact ⟨rfl, rfl, rfl⟩
  · intro avs h K
    simp only [ArgShapes] at h
    obtain ⟨_, _, rfl, h1, _, _, rfl, h2, _, _, rfl, h3, _, _, rfl, h4, rfl⟩ := h
    obtain ⟨g, rfl, hg⟩ := shape_graph h1
    obtain ⟨nl, l, rfl, hl⟩ := shape_bools h2
    obtain ⟨n, rfl, hn⟩ := shape_int h3
    obtain ⟨e, rfl, he⟩ := shape_int h4
    exact spfDown_c g nl l n e K
theorem spfDown_holds : Rows.SpfDownSaid :=
  OpenClaim.holds_of_wide 12 Try.f12 rfl rfl rfl rfl rfl rfl rfl ⟨rfl, rfl, rfl, rfl, rfl⟩ rfl rfl rfl rfl rfl (by kernel_rfl) Try.func12 (by kernel_rfl)
    (of_decide_eq_true (by kernel_rfl)) (by unfold Func.isWrapper; first | (rw [if_pos (by decide +kernel)]; kernel_rfl) | (rw [if_neg (by decide +kernel)]; exact ⟨rfl, rfl⟩))
    (fun os started H enc _ => spfDown_lifted os started H enc)
#print axioms spfDown_holds

end Go.Proofs.Ytkephdahbplhfaa
