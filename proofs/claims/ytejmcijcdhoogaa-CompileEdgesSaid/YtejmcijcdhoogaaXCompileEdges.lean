import Derived.Test.YtejmcijcdhoogaaMB3
/- The law CompileEdges of chapter 17 answers true for all numbers: a want over a dear link is met by a segment over that edge, where the tables would go another way. -/
namespace Go.Proofs.Ytejmcijcdhoogaa
open Go Abs
attribute [local irreducible] EX exL exG exC exCq exS exV exIf exGd exGq
set_option maxRecDepth 100000 in
theorem compileEdges_lifted (os : Os) (started : os.Started) (H : Type) (enc : TypeId × Value → H) :
    ReturnsInHanded {} Try.checked os 5 .any (Rows.compileEdgesSpec.pre6 enc Try.prog Try.f5 Rows.compileEdgesRow.domain false) (Rows.compileEdgesSpec.post enc Try.prog Try.f5 false true false false) := by
  refine row_lifted (C := Try.checked) (tcs := [tcI, tcI]) (tb := Try.f5.resultTypes.getD 0 0) started own (by kernel_rfl) Try.func5
    (ChangeSpec.witness6 (enc := enc) (C := Try.checked) false ⟨#[], #[.int .i64 0, .int .i64 0], []⟩ 8 (by kernel_rfl) (by kernel_rfl) (by kernel_rfl) (by kernel_rfl))
    laid (by kernel_rfl) (by kernel_rfl) (by kernel_rfl) rfl ?_ ?_
  · intro H ds hd
    match ds, hd with
    | [d0, d1], _ => exact ⟨rfl, rfl, rfl⟩
  · intro avs h K
    simp only [ArgShapes] at h
    obtain ⟨_, _, rfl, h1, _, _, rfl, h2, rfl⟩ := h
    obtain ⟨x1, rfl, hx1⟩ := shape_int h1
    obtain ⟨x2, rfl, hx2⟩ := shape_int h2
    exact compileEdges_c x1 x2 hx1 hx2 K
theorem compileEdges_holds : Rows.CompileEdgesSaid :=
  OpenClaim.holds_of_wide 5 Try.f5 rfl rfl rfl rfl rfl rfl rfl ⟨rfl, rfl, rfl, rfl, rfl⟩ rfl rfl rfl rfl rfl (by kernel_rfl) Try.func5 (by kernel_rfl)
    (of_decide_eq_true (by kernel_rfl)) (by unfold Func.isWrapper; first | (rw [if_pos (by decide +kernel)]; kernel_rfl) | (rw [if_neg (by decide +kernel)]; exact ⟨rfl, rfl⟩))
    (fun os started H enc _ => compileEdges_lifted os started H enc)
#print axioms compileEdges_holds

end Go.Proofs.Ytejmcijcdhoogaa
