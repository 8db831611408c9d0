import Derived.Test.YtgahnhiidhkjaaaMB3
/- The law SoundOrder of chapter 14 answers true for all lists of priorities and nodes and every node, and leaves its arguments as they were: a node's rules are all of it, the greater priority first, and those of one as they stood. -/
namespace Go.Proofs.Ytgahnhiidhkjaaa
open Go Abs
attribute [local irreducible] EX exL exG exC exCq exS exV exIf exGd exGq
set_option maxRecDepth 100000 in
theorem soundOrder_lifted (os : Os) (started : os.Started) (H : Type) (enc : TypeId × Value → H) :
    ReturnsInHanded {} Try.checked os 10 .any (Rows.soundOrderSpec.pre6 enc Try.prog Try.f10 Rows.soundOrderRow.domain false) (Rows.soundOrderSpec.post enc Try.prog Try.f10 false true false false) := by
  refine row_lifted (C := Try.checked) (tcs := [tcInts, tcInts, tcI]) (tb := Try.f10.resultTypes.getD 0 0) started own (by kernel_rfl) Try.func10
    (ChangeSpec.witness6 (enc := enc) (C := Try.checked) false ⟨#[], #[.slice none 0 0, .slice none 0 0, .int .i64 0], []⟩ 8 (by kernel_rfl) (by kernel_rfl) (by kernel_rfl) (by kernel_rfl))
    laid (by kernel_rfl) (by kernel_rfl) (by kernel_rfl) rfl ?_ ?_
  · intro H ds hd
    match ds, hd with
    | [d0, d1, d2], _ => exact ⟨rfl, rfl, rfl⟩
  · intro avs h K
    simp only [ArgShapes] at h
    obtain ⟨_, _, rfl, h1, _, _, rfl, h2, _, _, rfl, h3, rfl⟩ := h
    obtain ⟨na, pris, rfl, ha, -, -⟩ := shape_ints h1
    obtain ⟨nb, nodes, rfl, hb, -, -⟩ := shape_ints h2
    obtain ⟨node, rfl, hn⟩ := shape_int h3
    exact soundOrder_c na nb pris nodes ha hb node K
theorem soundOrder_holds : Rows.SoundOrderSaid :=
  OpenClaim.holds_of_wide 10 Try.f10 rfl rfl rfl rfl rfl rfl rfl ⟨rfl, rfl, rfl, rfl, rfl⟩ rfl rfl rfl rfl rfl (by kernel_rfl) Try.func10 (by kernel_rfl)
    (of_decide_eq_true (by kernel_rfl)) (by unfold Func.isWrapper; first | (rw [if_pos (by decide +kernel)]; kernel_rfl) | (rw [if_neg (by decide +kernel)]; exact ⟨rfl, rfl⟩))
    (fun os started H enc _ => soundOrder_lifted os started H enc)
#print axioms soundOrder_holds

end Go.Proofs.Ytgahnhiidhkjaaa
