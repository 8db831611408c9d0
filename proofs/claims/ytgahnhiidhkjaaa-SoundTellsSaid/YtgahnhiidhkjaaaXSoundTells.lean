import Derived.Test.YtgahnhiidhkjaaaMB3
/- The law SoundTells of chapter 14 answers true for every graph, list of rules and node, and leaves its arguments as they were: which rules may be, or which is wrong and why, and which count at a node, in order. -/
namespace Go.Proofs.Ytgahnhiidhkjaaa
open Go Abs
attribute [local irreducible] EX exL exG exC exCq exS exV exIf exGd exGq
set_option maxRecDepth 100000 in
theorem soundTells_lifted (os : Os) (started : os.Started) (H : Type) (enc : TypeId × Value → H) :
    ReturnsInHanded {} Try.checked os 9 .any (Rows.soundTellsSpec.pre6 enc Try.prog Try.f9 Rows.soundTellsRow.domain false) (Rows.soundTellsSpec.post enc Try.prog Try.f9 false true false false) := by
  refine row_lifted (C := Try.checked) (tcs := [tcGraph, tcRules, tcI]) (tb := Try.f9.resultTypes.getD 0 0) started own (by kernel_rfl) Try.func9
    (ChangeSpec.witness6 (enc := enc) (C := Try.checked) false ⟨#[], #[.agg #[.int .i64 0, .slice none 0 0], .slice none 0 0, .int .i64 0], []⟩ 8 (by kernel_rfl) (by kernel_rfl) (by kernel_rfl) (by kernel_rfl))
    laid (by kernel_rfl) (by kernel_rfl) (by kernel_rfl) rfl ?_ ?_
  · intro H ds hd
    match ds, hd with
    | [d0, d1, d2], _ => exact ⟨rfl, rfl, rfl⟩
  · intro avs h K
    simp only [ArgShapes] at h
    obtain ⟨_, _, rfl, h1, _, _, rfl, h2, _, _, rfl, h3, rfl⟩ := h
    obtain ⟨g, rfl, hg⟩ := shape_graph h1
    obtain ⟨nl, l, rfl, hl, hr⟩ := shape_rules h2
    obtain ⟨node, rfl, hn⟩ := shape_int h3
    exact soundTells_c g hg.1 nl l (by omega) (fun r h => (hr r h).name) (fun r h => (hr r h).nils) node K
theorem soundTells_holds : Rows.SoundTellsSaid :=
  OpenClaim.holds_of_wide 9 Try.f9 rfl rfl rfl rfl rfl rfl rfl ⟨rfl, rfl, rfl, rfl, rfl⟩ rfl rfl rfl rfl rfl (by kernel_rfl) Try.func9 (by kernel_rfl)
    (of_decide_eq_true (by kernel_rfl)) (by unfold Func.isWrapper; first | (rw [if_pos (by decide +kernel)]; kernel_rfl) | (rw [if_neg (by decide +kernel)]; exact ⟨rfl, rfl⟩))
    (fun os started H enc _ => soundTells_lifted os started H enc)
#print axioms soundTells_holds

end Go.Proofs.Ytgahnhiidhkjaaa
