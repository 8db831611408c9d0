import Derived.Test.YtejmcijcdhoogaaMB3
set_option linter.unusedSimpArgs false
set_option linter.unusedVariables false
/- The law CompileDeeper of chapter 17 answers true for every graph, want and list of links that are down, and leaves its arguments as they were: with more depth a list stays as it is, and what was too deep is met with as many segments as it has, or never. -/
namespace Go.Proofs.Ytejmcijcdhoogaa
open Go Abs
attribute [local irreducible] EX exL exG exC exCq exS exV exIf exGd exGq
set_option maxRecDepth 100000 in
theorem compileDeeper_lifted (os : Os) (started : os.Started) (H : Type) (enc : TypeId × Value → H) :
    ReturnsInHanded {} Try.checked os 6 .any (Rows.compileDeeperSpec.pre6 enc Try.prog Try.f6 Rows.compileDeeperRow.domain false) (Rows.compileDeeperSpec.post enc Try.prog Try.f6 false true false false) := by
  refine row_lifted (C := Try.checked) (tcs := [tcGraph, tcWant, tcBools]) (tb := Try.f6.resultTypes.getD 0 0) started own (by kernel_rfl) Try.func6
    (ChangeSpec.witness6 (enc := enc) (C := Try.checked) false ⟨#[], #[.agg #[.int .i64 0, .slice none 0 0], .agg #[.int .i64 0, .int .i64 0, .int .i64 0, .slice none 0 0, .slice none 0 0, .slice none 0 0, .slice none 0 0], .slice none 0 0], []⟩ 8 (by kernel_rfl) (by kernel_rfl) (by kernel_rfl) (by kernel_rfl))
    laid (by kernel_rfl) (by kernel_rfl) (by kernel_rfl) rfl ?_ ?_
  · intro H ds hd
    match ds, hd with
    | [d0, d1, d2], _ => exact ⟨rfl, rfl, rfl⟩
  · intro avs h K
    simp only [ArgShapes] at h
    obtain ⟨_, _, rfl, h1, _, _, rfl, h2, _, _, rfl, h3, rfl⟩ := h
    obtain ⟨g, rfl, hg, hn⟩ := shape_graphN h1
    obtain ⟨w, rfl, hw⟩ := shape_want h2
    obtain ⟨nl, l, rfl, hl⟩ := shape_bools h3
    exact compileDeeper_c g hg.1 hn w hw.1 nl l K
theorem compileDeeper_holds : Rows.CompileDeeperSaid :=
  OpenClaim.holds_of_wide 6 Try.f6 rfl rfl rfl rfl rfl rfl rfl ⟨rfl, rfl, rfl, rfl, rfl⟩ rfl rfl rfl rfl rfl (by kernel_rfl) Try.func6 (by kernel_rfl)
    (of_decide_eq_true (by kernel_rfl)) (by unfold Func.isWrapper; first | (rw [if_pos (by decide +kernel)]; kernel_rfl) | (rw [if_neg (by decide +kernel)]; exact ⟨rfl, rfl⟩))
    (fun os started H enc _ => compileDeeper_lifted os started H enc)
#print axioms compileDeeper_holds

end Go.Proofs.Ytejmcijcdhoogaa
