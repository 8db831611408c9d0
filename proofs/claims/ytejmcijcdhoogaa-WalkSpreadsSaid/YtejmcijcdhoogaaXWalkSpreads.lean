import Derived.Test.YtejmcijcdhoogaaMB3
set_option linter.unusedSimpArgs false
set_option linter.unusedVariables false
/- The law WalkSpreads of chapter 21 answers true for every number of ways and hash: of equal ways each hash takes one, and all are taken. -/
namespace Go.Proofs.Ytejmcijcdhoogaa
open Go Abs
attribute [local irreducible] EX exL exG exC exCq exS exV exIf exGd exGq exB
set_option maxRecDepth 100000 in
theorem walkSpreads_lifted (os : Os) (started : os.Started) (H : Type) (enc : TypeId × Value → H) :
    ReturnsInHanded {} Try.checked os 14 .any (Rows.walkSpreadsSpec.pre6 enc Try.prog Try.f14 Rows.walkSpreadsRow.domain false) (Rows.walkSpreadsSpec.post enc Try.prog Try.f14 false true false false) := by
  refine row_lifted (C := Try.checked) (tcs := [tcI, tcI]) (tb := Try.f14.resultTypes.getD 0 0) started own (by kernel_rfl) Try.func14
    (ChangeSpec.witness6 (enc := enc) (C := Try.checked) false ⟨#[], #[.int .i64 0, .int .i64 0], []⟩ 8 (by kernel_rfl) (by kernel_rfl) (by kernel_rfl) (by kernel_rfl))
    laid (by kernel_rfl) (by kernel_rfl) (by kernel_rfl) rfl ?_ ?_
  · intro H ds hd
    match ds, hd with
    | [d0, d1], _ => exact ⟨rfl, rfl, rfl⟩
  · intro avs h K
    simp only [ArgShapes] at h
    obtain ⟨_, _, rfl, h1, _, _, rfl, h2, rfl⟩ := h
    obtain ⟨x1, rfl, hx1⟩ := shape_int h1
    obtain ⟨x2, rfl, hx2⟩ := shape_int h2
    exact walkSpreads_c x1 x2 hx2 K
theorem walkSpreads_holds : Rows.WalkSpreadsSaid :=
  OpenClaim.holds_of_wide 14 Try.f14 rfl rfl rfl rfl rfl rfl rfl ⟨rfl, rfl, rfl, rfl, rfl⟩ rfl rfl rfl rfl rfl (by kernel_rfl) Try.func14 (by kernel_rfl)
    (of_decide_eq_true (by kernel_rfl)) (by unfold Func.isWrapper; first | (rw [if_pos (by decide +kernel)]; kernel_rfl) | (rw [if_neg (by decide +kernel)]; exact ⟨rfl, rfl⟩))
    (fun os started H enc _ => walkSpreads_lifted os started H enc)
#print axioms walkSpreads_holds

end Go.Proofs.Ytejmcijcdhoogaa
