import Derived.Test.YtgahnhiidhkjaaaMB2
set_option linter.unusedSimpArgs false
set_option linter.unusedVariables false
/- The law OptVia of chapter 15 answers true for every graph and every two nodes, and leaves its arguments as they were: what a want costs that bars nothing is how far it is from one node to the other, whatever the bound that is no less, and whatever points it names where it already is. -/
namespace Go.Proofs.Ytgahnhiidhkjaaa
open Go Abs
attribute [local irreducible] EX exL exG exC exCq exS exV exIf exGd exGq
set_option maxRecDepth 100000 in
theorem optVia_lifted (os : Os) (started : os.Started) (H : Type) (enc : TypeId × Value → H) :
    ReturnsInHanded {} Try.checked os 6 .any (Rows.optViaSpec.pre6 enc Try.prog Try.f6 Rows.optViaRow.domain false) (Rows.optViaSpec.post enc Try.prog Try.f6 false true false false) := by
  refine row_lifted (C := Try.checked) (tcs := [tcGraph, tcI, tcI]) (tb := Try.f6.resultTypes.getD 0 0) started own (by kernel_rfl) Try.func6
    (ChangeSpec.witness6 (enc := enc) (C := Try.checked) false ⟨#[], #[.agg #[.int .i64 0, .slice none 0 0], .int .i64 0, .int .i64 0], []⟩ 8 (by kernel_rfl) (by kernel_rfl) (by kernel_rfl) (by kernel_rfl))
    laid (by kernel_rfl) (by kernel_rfl) (by kernel_rfl) rfl ?_ ?_
  · intro H ds hd
    match ds, hd with
    | [d0, d1, d2], _ => exact ⟨rfl, rfl, rfl⟩
  · intro avs h K
    simp only [ArgShapes] at h
    obtain ⟨_, _, rfl, h1, _, _, rfl, h2, _, _, rfl, h3, rfl⟩ := h
    obtain ⟨g, rfl, hg⟩ := shape_graph h1
    obtain ⟨a, rfl, ha⟩ := shape_int h2
    obtain ⟨b, rfl, hb⟩ := shape_int h3
    exact optVia_c g hg.1 a b K
theorem optVia_holds : Rows.OptViaSaid :=
  OpenClaim.holds_of_wide 6 Try.f6 rfl rfl rfl rfl rfl rfl rfl ⟨rfl, rfl, rfl, rfl, rfl⟩ rfl rfl rfl rfl rfl (by kernel_rfl) Try.func6 (by kernel_rfl)
    (of_decide_eq_true (by kernel_rfl)) (by unfold Func.isWrapper; first | (rw [if_pos (by decide +kernel)]; kernel_rfl) | (rw [if_neg (by decide +kernel)]; exact ⟨rfl, rfl⟩))
    (fun os started H enc _ => optVia_lifted os started H enc)
#print axioms optVia_holds

end Go.Proofs.Ytgahnhiidhkjaaa
