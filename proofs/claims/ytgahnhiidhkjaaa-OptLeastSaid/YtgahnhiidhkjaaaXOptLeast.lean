import Derived.Test.YtgahnhiidhkjaaaMB2
set_option linter.unusedSimpArgs false
set_option linter.unusedVariables false
/- The law OptLeast of chapter 15 answers true for every graph, want, list of links that are down and list of edges, and leaves its arguments as they were: no walk by a want's points costs less than the best ones, and it is one of them if it costs as much. -/
namespace Go.Proofs.Ytgahnhiidhkjaaa
open Go Abs
attribute [local irreducible] EX exL exG exC exCq exS exV exIf exGd exGq
set_option maxRecDepth 100000 in
theorem optLeast_lifted (os : Os) (started : os.Started) (H : Type) (enc : TypeId × Value → H) :
    ReturnsInHanded {} Try.checked os 5 .any (Rows.optLeastSpec.pre6 enc Try.prog Try.f5 Rows.optLeastRow.domain false) (Rows.optLeastSpec.post enc Try.prog Try.f5 false true false false) := by
  refine row_lifted (C := Try.checked) (tcs := [tcGraph, tcWant, tcBools, tcInts]) (tb := Try.f5.resultTypes.getD 0 0) started own (by kernel_rfl) Try.func5
    (ChangeSpec.witness6 (enc := enc) (C := Try.checked) false ⟨#[], #[.agg #[.int .i64 0, .slice none 0 0], .agg #[.int .i64 0, .int .i64 0, .int .i64 0, .slice none 0 0, .slice none 0 0, .slice none 0 0, .slice none 0 0], .slice none 0 0, .slice none 0 0], []⟩ 8 (by kernel_rfl) (by kernel_rfl) (by kernel_rfl) (by kernel_rfl))
    laid (by kernel_rfl) (by kernel_rfl) (by kernel_rfl) rfl ?_ ?_
  · intro H ds hd
    match ds, hd with
    | [d0, d1, d2, d3], _ => exact ⟨rfl, rfl, rfl⟩
  · intro avs h K
    simp only [ArgShapes] at h
    obtain ⟨_, _, rfl, h1, _, _, rfl, h2, _, _, rfl, h3, _, _, rfl, h4, rfl⟩ := h
    obtain ⟨g, rfl, hg⟩ := shape_graph h1
    obtain ⟨w, rfl, hw⟩ := shape_want h2
    obtain ⟨nl, l, rfl, hl⟩ := shape_bools h3
    obtain ⟨ne, es, rfl, he1, -, he2⟩ := shape_ints h4
    exact optLeast_c g hg.1 w hw.1 nl l ne es he2 he1 K
theorem optLeast_holds : Rows.OptLeastSaid :=
  OpenClaim.holds_of_wide 5 Try.f5 rfl rfl rfl rfl rfl rfl rfl ⟨rfl, rfl, rfl, rfl, rfl⟩ rfl rfl rfl rfl rfl (by kernel_rfl) Try.func5 (by kernel_rfl)
    (of_decide_eq_true (by kernel_rfl)) (by unfold Func.isWrapper; first | (rw [if_pos (by decide +kernel)]; kernel_rfl) | (rw [if_neg (by decide +kernel)]; exact ⟨rfl, rfl⟩))
    (fun os started H enc _ => optLeast_lifted os started H enc)
#print axioms optLeast_holds

end Go.Proofs.Ytgahnhiidhkjaaa
