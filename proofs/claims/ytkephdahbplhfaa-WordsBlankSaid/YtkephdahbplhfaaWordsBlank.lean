import Derived.Test.YtkephdahbplhfaaW6
import Derived.Test.YtkephdahbplhfaaG12
/- The law WordsBlank of chapter 12 answers true for every text and list of texts, and leaves its arguments as they were: blanks and notes between tokens turn nothing but where these begin. -/
namespace Go.Proofs.Ytkephdahbplhfaa
open Go Abs
attribute [local irreducible] EX exL exG exC exCq exS exV exIf exGd exGq
set_option maxRecDepth 100000 in
theorem wordsBlank_lifted (os : Os) (started : os.Started) (H : Type) (enc : TypeId × Value → H) :
    ReturnsInHanded {} Try.checked os 7 .any (Rows.wordsBlankSpec.pre6 enc Try.prog Try.f7 Rows.wordsBlankRow.domain false) (Rows.wordsBlankSpec.post enc Try.prog Try.f7 false true false false) := by
  refine row_lifted (C := Try.checked) (tcs := [.str, tcStrs]) (tb := Try.f7.resultTypes.getD 0 0) started own (by kernel_rfl) Try.func7
    (ChangeSpec.witness6 (enc := enc) (C := Try.checked) false ⟨#[], #[.string ⟨#[]⟩, .slice none 0 0], []⟩ 8 (by kernel_rfl) (by kernel_rfl) (by kernel_rfl) (by kernel_rfl))
    laid (by kernel_rfl) (by kernel_rfl) (by kernel_rfl) rfl ?_ ?_
  · intro H ds hd
    match ds, hd with
    | [d0, d1], _ => exact ⟨rfl, rfl, rfl⟩
  · intro avs h K
    simp only [ArgShapes] at h
    obtain ⟨_, _, rfl, h1, _, _, rfl, h2, rfl⟩ := h
    obtain ⟨l, rfl, hl⟩ := shape_str h1
    obtain ⟨nl, ps, rfl, hp1, hp2⟩ := shape_strs h2
    exact wordsBlank_c l hl nl ps hp1 hp2 K
theorem wordsBlank_holds : Rows.WordsBlankSaid :=
  OpenClaim.holds_of_wide 7 Try.f7 rfl rfl rfl rfl rfl rfl rfl ⟨rfl, rfl, rfl, rfl, rfl⟩ rfl rfl rfl rfl rfl (by kernel_rfl) Try.func7 (by kernel_rfl)
    (of_decide_eq_true (by kernel_rfl)) (by unfold Func.isWrapper; first | (rw [if_pos (by decide +kernel)]; kernel_rfl) | (rw [if_neg (by decide +kernel)]; exact ⟨rfl, rfl⟩))
    (fun os started H enc _ => wordsBlank_lifted os started H enc)
#print axioms wordsBlank_holds

end Go.Proofs.Ytkephdahbplhfaa
