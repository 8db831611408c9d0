import Derived.Test.YtgahnhiidhkjaaaMB3
/- The law SoundWrong of chapter 14 answers true for all numbers that pick a wrong rule and its place, and leaves its arguments as they were: which rule is wrong, and why. -/
namespace Go.Proofs.Ytgahnhiidhkjaaa
open Go Abs
attribute [local irreducible] EX exL exG exC exCq exS exV exIf exGd exGq
set_option maxRecDepth 100000 in
theorem soundWrong_lifted (os : Os) (started : os.Started) (H : Type) (enc : TypeId × Value → H) :
    ReturnsInHanded {} Try.checked os 11 .any (Rows.soundWrongSpec.pre6 enc Try.prog Try.f11 Rows.soundWrongRow.domain false) (Rows.soundWrongSpec.post enc Try.prog Try.f11 false true false false) := by
  refine row_lifted (C := Try.checked) (tcs := [tcI, tcI]) (tb := Try.f11.resultTypes.getD 0 0) started own (by kernel_rfl) Try.func11
    (ChangeSpec.witness6 (enc := enc) (C := Try.checked) false ⟨#[], #[.int .i64 0, .int .i64 0], []⟩ 8 (by kernel_rfl) (by kernel_rfl) (by kernel_rfl) (by kernel_rfl))
    laid (by kernel_rfl) (by kernel_rfl) (by kernel_rfl) rfl ?_ ?_
  · intro H ds hd
    match ds, hd with
    | [d0, d1], _ => exact ⟨rfl, rfl, rfl⟩
  · intro avs h K
    simp only [ArgShapes] at h
    obtain ⟨_, _, rfl, h1, _, _, rfl, h2, rfl⟩ := h
    obtain ⟨a, rfl, ha⟩ := shape_int h1
    obtain ⟨b, rfl, hb⟩ := shape_int h2
    exact soundWrong_c a b K
theorem soundWrong_holds : Rows.SoundWrongSaid :=
  OpenClaim.holds_of_wide 11 Try.f11 rfl rfl rfl rfl rfl rfl rfl ⟨rfl, rfl, rfl, rfl, rfl⟩ rfl rfl rfl rfl rfl (by kernel_rfl) Try.func11 (by kernel_rfl)
    (of_decide_eq_true (by kernel_rfl)) (by unfold Func.isWrapper; first | (rw [if_pos (by decide +kernel)]; kernel_rfl) | (rw [if_neg (by decide +kernel)]; exact ⟨rfl, rfl⟩))
    (fun os started H enc _ => soundWrong_lifted os started H enc)
#print axioms soundWrong_holds

end Go.Proofs.Ytgahnhiidhkjaaa
