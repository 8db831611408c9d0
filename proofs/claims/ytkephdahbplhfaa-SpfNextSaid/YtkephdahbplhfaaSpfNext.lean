import Derived.Test.YtkephdahbplhfaaS6
import Derived.Test.YtkephdahbplhfaaG4
/- The law SpfNext of chapter 7 answers true for every graph, list of links that are down, list of lengths, and node, and leaves its arguments as they were. -/
namespace Go.Proofs.Ytkephdahbplhfaa
open Go Abs
set_option maxRecDepth 100000 in
theorem spfNext_lifted (os : Os) (started : os.Started) (H : Type) (enc : TypeId × Value → H) :
    ReturnsInHanded {} Try.checked os 14 .any (Rows.spfNextSpec.pre6 enc Try.prog Try.f14 Rows.spfNextRow.domain false) (Rows.spfNextSpec.post enc Try.prog Try.f14 false true false false) := by
  refine row_lifted (C := Try.checked) (tcs := [tcGraph, tcBools, tcInts, tcI]) (tb := Try.f14.resultTypes.getD 0 0) started own (by kernel_rfl) Try.func14
    (ChangeSpec.witness6 (enc := enc) (C := Try.checked) false ⟨#[], #[.agg #[.int .i64 0, .slice none 0 0], .slice none 0 0, .slice none 0 0, .int .i64 0], []⟩ 8 (by kernel_rfl) (by kernel_rfl) (by kernel_rfl) (by kernel_rfl))
    laid (by kernel_rfl) (by kernel_rfl) (by kernel_rfl) rfl ?_ ?_
  · intro H ds hd
    match ds, hd with
    | [d0, d1, d2, d3], _ => exact ⟨rfl, rfl, rfl⟩
  · intro avs h K
    simp only [ArgShapes] at h
    obtain ⟨_, _, rfl, h1, _, _, rfl, h2, _, _, rfl, h3, _, _, rfl, h4, rfl⟩ := h
    obtain ⟨g, rfl, hg⟩ := shape_graph h1
    obtain ⟨nl, l, rfl, hl⟩ := shape_bools h2
    obtain ⟨nt, to, rfl, ht1, -, ht2⟩ := shape_ints h3
    obtain ⟨n, rfl, hn⟩ := shape_int h4
    exact spfNext_c g nl l nt to ht2 ht1 n K
theorem spfNext_holds : Rows.SpfNextSaid :=
  OpenClaim.holds_of_wide 14 Try.f14 rfl rfl rfl rfl rfl rfl rfl ⟨rfl, rfl, rfl, rfl, rfl⟩ rfl rfl rfl rfl rfl (by kernel_rfl) Try.func14 (by kernel_rfl)
    (of_decide_eq_true (by kernel_rfl)) (by unfold Func.isWrapper; first | (rw [if_pos (by decide +kernel)]; kernel_rfl) | (rw [if_neg (by decide +kernel)]; exact ⟨rfl, rfl⟩))
    (fun os started H enc _ => spfNext_lifted os started H enc)
#print axioms spfNext_holds

end Go.Proofs.Ytkephdahbplhfaa
