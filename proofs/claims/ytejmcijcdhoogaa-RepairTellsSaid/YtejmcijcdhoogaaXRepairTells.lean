import Derived.Test.YtejmcijcdhoogaaMB3
/- The law RepairTells of chapter 18 answers true for every graph, edge, node and depth, and leaves its arguments as they were: the list that leads around the edge's link, or why there is none, is the one that the document tells. -/
namespace Go.Proofs.Ytejmcijcdhoogaa
open Go Abs
attribute [local irreducible] EX exL exG exC exCq exS exV exIf exGd exGq exB
set_option maxRecDepth 100000 in
theorem repairTells_lifted (os : Os) (started : os.Started) (H : Type) (enc : TypeId × Value → H) :
    ReturnsInHanded {} Try.checked os 7 .any (Rows.repairTellsSpec.pre6 enc Try.prog Try.f7 Rows.repairTellsRow.domain false) (Rows.repairTellsSpec.post enc Try.prog Try.f7 false true false false) := by
  refine row_lifted (C := Try.checked) (tcs := [tcGraph, tcI, tcI, tcI]) (tb := Try.f7.resultTypes.getD 0 0) started own (by kernel_rfl) Try.func7
    (ChangeSpec.witness6 (enc := enc) (C := Try.checked) false ⟨#[], #[.agg #[.int .i64 0, .slice none 0 0], .int .i64 0, .int .i64 0, .int .i64 0], []⟩ 8 (by kernel_rfl) (by kernel_rfl) (by kernel_rfl) (by kernel_rfl))
    laid (by kernel_rfl) (by kernel_rfl) (by kernel_rfl) rfl ?_ ?_
  · intro H ds hd
    match ds, hd with
    | [d0, d1, d2, d3], _ => exact ⟨rfl, rfl, rfl⟩
  · intro avs h K
    simp only [ArgShapes] at h
    obtain ⟨_, _, rfl, h1, _, _, rfl, h2, _, _, rfl, h3, _, _, rfl, h4, rfl⟩ := h
    obtain ⟨g, rfl, hg, hn⟩ := shape_graphN h1
    obtain ⟨x2, rfl, hx2⟩ := shape_int h2
    obtain ⟨x3, rfl, hx3⟩ := shape_int h3
    obtain ⟨x4, rfl, hx4⟩ := shape_int h4
    exact repairTells_c g hg.1 hn x2 x3 x4 hx2 K
theorem repairTells_holds : Rows.RepairTellsSaid :=
  OpenClaim.holds_of_wide 7 Try.f7 rfl rfl rfl rfl rfl rfl rfl ⟨rfl, rfl, rfl, rfl, rfl⟩ rfl rfl rfl rfl rfl (by kernel_rfl) Try.func7 (by kernel_rfl)
    (of_decide_eq_true (by kernel_rfl)) (by unfold Func.isWrapper; first | (rw [if_pos (by decide +kernel)]; kernel_rfl) | (rw [if_neg (by decide +kernel)]; exact ⟨rfl, rfl⟩))
    (fun os started H enc _ => repairTells_lifted os started H enc)
#print axioms repairTells_holds

end Go.Proofs.Ytejmcijcdhoogaa
