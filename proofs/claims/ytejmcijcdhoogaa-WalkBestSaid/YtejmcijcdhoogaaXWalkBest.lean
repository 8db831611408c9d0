import Derived.Test.YtejmcijcdhoogaaMB3
set_option linter.unusedSimpArgs false
set_option linter.unusedVariables false
/- The law WalkBest of chapter 21 answers true for every graph, want, list of links that are down and hash, and leaves its arguments as they were: a packet with the compiled list walks a best way to its end. -/
namespace Go.Proofs.Ytejmcijcdhoogaa
open Go Abs
attribute [local irreducible] EX exL exG exC exCq exS exV exIf exGd exGq exB
set_option maxRecDepth 100000 in
theorem walkBest_lifted (os : Os) (started : os.Started) (H : Type) (enc : TypeId × Value → H) :
    ReturnsInHanded {} Try.checked os 11 .any (Rows.walkBestSpec.pre6 enc Try.prog Try.f11 Rows.walkBestRow.domain false) (Rows.walkBestSpec.post enc Try.prog Try.f11 false true false false) := by
  refine row_lifted (C := Try.checked) (tcs := [tcGraph, tcWant, tcBools, tcI]) (tb := Try.f11.resultTypes.getD 0 0) started own (by kernel_rfl) Try.func11
    (ChangeSpec.witness6 (enc := enc) (C := Try.checked) false ⟨#[], #[.agg #[.int .i64 0, .slice none 0 0], .agg #[.int .i64 0, .int .i64 0, .int .i64 0, .slice none 0 0, .slice none 0 0, .slice none 0 0, .slice none 0 0], .slice none 0 0, .int .i64 0], []⟩ 8 (by kernel_rfl) (by kernel_rfl) (by kernel_rfl) (by kernel_rfl))
    laid (by kernel_rfl) (by kernel_rfl) (by kernel_rfl) rfl ?_ ?_
  · intro H ds hd
    match ds, hd with
    | [d0, d1, d2, d3], _ => exact ⟨rfl, rfl, rfl⟩
  · intro avs h K
    simp only [ArgShapes] at h
    obtain ⟨_, _, rfl, h1, _, _, rfl, h2, _, _, rfl, h3, _, _, rfl, h4, rfl⟩ := h
    obtain ⟨g, rfl, hg, hn⟩ := shape_graphN h1
    obtain ⟨w, rfl, hw⟩ := shape_want h2
    obtain ⟨nl, l, rfl, hl⟩ := shape_bools h3
    obtain ⟨x4, rfl, hx4⟩ := shape_int h4
    exact walkBest_c g hg.1 hn w hw.1 nl l x4 hx4 K
theorem walkBest_holds : Rows.WalkBestSaid :=
  OpenClaim.holds_of_wide 11 Try.f11 rfl rfl rfl rfl rfl rfl rfl ⟨rfl, rfl, rfl, rfl, rfl⟩ rfl rfl rfl rfl rfl (by kernel_rfl) Try.func11 (by kernel_rfl)
    (of_decide_eq_true (by kernel_rfl)) (by unfold Func.isWrapper; first | (rw [if_pos (by decide +kernel)]; kernel_rfl) | (rw [if_neg (by decide +kernel)]; exact ⟨rfl, rfl⟩))
    (fun os started H enc _ => walkBest_lifted os started H enc)
#print axioms walkBest_holds

end Go.Proofs.Ytejmcijcdhoogaa
