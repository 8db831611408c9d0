import Derived.Test.YtejmcijcdhoogaaMB3
set_option linter.unusedSimpArgs false
set_option linter.unusedVariables false
/- The law WalkLabels of chapter 21 answers true for every number: a packet ends as the segments of its list say. -/
namespace Go.Proofs.Ytejmcijcdhoogaa
open Go Abs
attribute [local irreducible] EX exL exG exC exCq exS exV exIf exGd exGq exB
set_option maxRecDepth 100000 in
theorem walkLabels_lifted (os : Os) (started : os.Started) (H : Type) (enc : TypeId × Value → H) :
    ReturnsInHanded {} Try.checked os 15 .any (Rows.walkLabelsSpec.pre6 enc Try.prog Try.f15 Rows.walkLabelsRow.domain false) (Rows.walkLabelsSpec.post enc Try.prog Try.f15 false true false false) := by
  refine row_lifted (C := Try.checked) (tcs := [tcI]) (tb := Try.f15.resultTypes.getD 0 0) started own (by kernel_rfl) Try.func15
    (ChangeSpec.witness6 (enc := enc) (C := Try.checked) false ⟨#[], #[.int .i64 0], []⟩ 8 (by kernel_rfl) (by kernel_rfl) (by kernel_rfl) (by kernel_rfl))
    laid (by kernel_rfl) (by kernel_rfl) (by kernel_rfl) rfl ?_ ?_
  · intro H ds hd
    match ds, hd with
    | [d0], _ => exact ⟨rfl, rfl, rfl⟩
  · intro avs h K
    simp only [ArgShapes] at h
    obtain ⟨_, _, rfl, h1, rfl⟩ := h
    obtain ⟨x1, rfl, hx1⟩ := shape_int h1
    exact walkLabels_c x1 K
theorem walkLabels_holds : Rows.WalkLabelsSaid :=
  OpenClaim.holds_of_wide 15 Try.f15 rfl rfl rfl rfl rfl rfl rfl ⟨rfl, rfl, rfl, rfl, rfl⟩ rfl rfl rfl rfl rfl (by kernel_rfl) Try.func15 (by kernel_rfl)
    (of_decide_eq_true (by kernel_rfl)) (by unfold Func.isWrapper; first | (rw [if_pos (by decide +kernel)]; kernel_rfl) | (rw [if_neg (by decide +kernel)]; exact ⟨rfl, rfl⟩))
    (fun os started H enc _ => walkLabels_lifted os started H enc)
#print axioms walkLabels_holds

end Go.Proofs.Ytejmcijcdhoogaa
