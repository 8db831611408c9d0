import Derived.Test.YtkephdahbplhfaaS6
import Derived.Test.YtkephdahbplhfaaG4
/- The law SpfTells of chapter 7 answers true for every graph, list of links that are down, and two nodes, and leaves its arguments as they were. -/
namespace Go.Proofs.Ytkephdahbplhfaa
open Go Abs
set_option maxRecDepth 100000 in
theorem spfTells_lifted (os : Os) (started : os.Started) (H : Type) (enc : TypeId × Value → H) :
    ReturnsInHanded {} Try.checked os 15 .any (Rows.spfTellsSpec.pre6 enc Try.prog Try.f15 Rows.spfTellsRow.domain false) (Rows.spfTellsSpec.post enc Try.prog Try.f15 false true false false) := by
  refine row_lifted (C := Try.checked) (tcs := [tcGraph, tcBools, tcI, tcI]) (tb := Try.f15.resultTypes.getD 0 0) started own (by kernel_rfl) Try.func15
    (ChangeSpec.witness6 (enc := enc) (C := Try.checked) false ⟨#[], #[.agg #[.int .i64 0, .slice none 0 0], .slice none 0 0, .int .i64 0, .int .i64 0], []⟩ 8 (by kernel_rfl) (by kernel_rfl) (by kernel_rfl) (by kernel_rfl))
    laid (by kernel_rfl) (by kernel_rfl) (by kernel_rfl) rfl ?_ ?_
  · intro H ds hd
    match ds, hd with
    | [d0, d1, d2, d3], _ => exact ⟨rfl, rfl, rfl⟩
  · intro avs h K
    simp only [ArgShapes] at h
    obtain ⟨_, _, rfl, h1, _, _, rfl, h2, _, _, rfl, h3, _, _, rfl, h4, rfl⟩ := h
    obtain ⟨g, rfl, hg⟩ := shape_graph h1
    obtain ⟨nl, l, rfl, hl⟩ := shape_bools h2
    obtain ⟨n, rfl, hn⟩ := shape_int h3
    obtain ⟨m, rfl, hm⟩ := shape_int h4
    exact spfTells_c g nl l n m K
theorem spfTells_holds : Rows.SpfTellsSaid :=
  OpenClaim.holds_of_wide 15 Try.f15 rfl rfl rfl rfl rfl rfl rfl ⟨rfl, rfl, rfl, rfl, rfl⟩ rfl rfl rfl rfl rfl (by kernel_rfl) Try.func15 (by kernel_rfl)
    (of_decide_eq_true (by kernel_rfl)) (by unfold Func.isWrapper; first | (rw [if_pos (by decide +kernel)]; kernel_rfl) | (rw [if_neg (by decide +kernel)]; exact ⟨rfl, rfl⟩))
    (fun os started H enc _ => spfTells_lifted os started H enc)
#print axioms spfTells_holds

end Go.Proofs.Ytkephdahbplhfaa
