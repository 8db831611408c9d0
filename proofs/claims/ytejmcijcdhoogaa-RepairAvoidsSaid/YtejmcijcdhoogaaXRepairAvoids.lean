import Derived.Test.YtejmcijcdhoogaaMB3
/- The law RepairAvoids of chapter 18 answers true for every graph, edge, node and list of picks, and leaves its arguments as they were: whichever of the ways of the tables is gone, the link is not crossed, and the way is a shortest one without it. -/
namespace Go.Proofs.Ytejmcijcdhoogaa
open Go Abs
attribute [local irreducible] EX exL exG exC exCq exS exV exIf exGd exGq
set_option maxRecDepth 100000 in
theorem repairAvoids_lifted (os : Os) (started : os.Started) (H : Type) (enc : TypeId × Value → H) :
    ReturnsInHanded {} Try.checked os 8 .any (Rows.repairAvoidsSpec.pre6 enc Try.prog Try.f8 Rows.repairAvoidsRow.domain false) (Rows.repairAvoidsSpec.post enc Try.prog Try.f8 false true false false) := by
  refine row_lifted (C := Try.checked) (tcs := [tcGraph, tcI, tcI, tcInts]) (tb := Try.f8.resultTypes.getD 0 0) started own (by kernel_rfl) Try.func8
    (ChangeSpec.witness6 (enc := enc) (C := Try.checked) false ⟨#[], #[.agg #[.int .i64 0, .slice none 0 0], .int .i64 0, .int .i64 0, .slice none 0 0], []⟩ 8 (by kernel_rfl) (by kernel_rfl) (by kernel_rfl) (by kernel_rfl))
    laid (by kernel_rfl) (by kernel_rfl) (by kernel_rfl) rfl ?_ ?_
  · intro H ds hd
    match ds, hd with
    | [d0, d1, d2, d3], _ => exact ⟨rfl, rfl, rfl⟩
  · intro avs h K
    simp only [ArgShapes] at h
    obtain ⟨_, _, rfl, h1, _, _, rfl, h2, _, _, rfl, h3, _, _, rfl, h4, rfl⟩ := h
    obtain ⟨g, rfl, hg, hn⟩ := shape_graphN h1
    obtain ⟨x2, rfl, hx2⟩ := shape_int h2
    obtain ⟨x3, rfl, hx3⟩ := shape_int h3
    obtain ⟨ne, es, rfl, he1, -, he2⟩ := shape_ints h4
    exact repairAvoids_c g hg.1 hn x2 x3 hx2 ne es he2 he1 K
theorem repairAvoids_holds : Rows.RepairAvoidsSaid :=
  OpenClaim.holds_of_wide 8 Try.f8 rfl rfl rfl rfl rfl rfl rfl ⟨rfl, rfl, rfl, rfl, rfl⟩ rfl rfl rfl rfl rfl (by kernel_rfl) Try.func8 (by kernel_rfl)
    (of_decide_eq_true (by kernel_rfl)) (by unfold Func.isWrapper; first | (rw [if_pos (by decide +kernel)]; kernel_rfl) | (rw [if_neg (by decide +kernel)]; exact ⟨rfl, rfl⟩))
    (fun os started H enc _ => repairAvoids_lifted os started H enc)
#print axioms repairAvoids_holds

end Go.Proofs.Ytejmcijcdhoogaa
