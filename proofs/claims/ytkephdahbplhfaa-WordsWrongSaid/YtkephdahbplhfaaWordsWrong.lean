import Derived.Test.YtkephdahbplhfaaW5
import Derived.Test.YtkephdahbplhfaaG12
/- The law WordsWrong of chapter 12 answers true for every byte and every two numbers, and leaves its arguments as they were: which bytes begin nothing, and how long a text may be. -/
namespace Go.Proofs.Ytkephdahbplhfaa
open Go Abs
attribute [local irreducible] EX exL exG exC exCq exS exV exIf exGd exGq
set_option maxRecDepth 100000 in
theorem wordsWrong_lifted (os : Os) (started : os.Started) (H : Type) (enc : TypeId × Value → H) :
    ReturnsInHanded {} Try.checked os 8 .any (Rows.wordsWrongSpec.pre6 enc Try.prog Try.f8 Rows.wordsWrongRow.domain false) (Rows.wordsWrongSpec.post enc Try.prog Try.f8 false true false false) := by
  refine row_lifted (C := Try.checked) (tcs := [tcByte, tcI, tcI]) (tb := Try.f8.resultTypes.getD 0 0) started own (by kernel_rfl) Try.func8
    (ChangeSpec.witness6 (enc := enc) (C := Try.checked) false ⟨#[], #[.int .u8 0, .int .i64 0, .int .i64 0], []⟩ 8 (by kernel_rfl) (by kernel_rfl) (by kernel_rfl) (by kernel_rfl))
    laid (by kernel_rfl) (by kernel_rfl) (by kernel_rfl) rfl ?_ ?_
  · intro H ds hd
    match ds, hd with
    | [d0, d1, d2], _ => exact ⟨rfl, rfl, rfl⟩
  · intro avs h K
    simp only [ArgShapes] at h
    obtain ⟨_, _, rfl, h1, _, _, rfl, h2, _, _, rfl, h3, rfl⟩ := h
    obtain ⟨c, rfl⟩ := shape_byte h1
    obtain ⟨a, rfl, ha⟩ := shape_int h2
    obtain ⟨n, rfl, hn⟩ := shape_int h3
    exact wordsWrong_c c a n hn.1 K
theorem wordsWrong_holds : Rows.WordsWrongSaid :=
  OpenClaim.holds_of_wide 8 Try.f8 rfl rfl rfl rfl rfl rfl rfl ⟨rfl, rfl, rfl, rfl, rfl⟩ rfl rfl rfl rfl rfl (by kernel_rfl) Try.func8 (by kernel_rfl)
    (of_decide_eq_true (by kernel_rfl)) (by unfold Func.isWrapper; first | (rw [if_pos (by decide +kernel)]; kernel_rfl) | (rw [if_neg (by decide +kernel)]; exact ⟨rfl, rfl⟩))
    (fun os started H enc _ => wordsWrong_lifted os started H enc)
#print axioms wordsWrong_holds

end Go.Proofs.Ytkephdahbplhfaa
