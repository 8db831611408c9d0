import Derived.Test.YtkephdahbplhfaaS10
import Derived.Test.YtkephdahbplhfaaG4
/- The law SpfRow of chapter 7 answers true for every list of metrics, node and link, and leaves its arguments as they were: how far the nodes of a row of links are, with and without one of them. -/
namespace Go.Proofs.Ytkephdahbplhfaa
open Go Abs
set_option maxRecDepth 100000 in
theorem spfRow_lifted (os : Os) (started : os.Started) (H : Type) (enc : TypeId × Value → H) :
    ReturnsInHanded {} Try.checked os 11 .any (Rows.spfRowSpec.pre6 enc Try.prog Try.f11 Rows.spfRowRow.domain false) (Rows.spfRowSpec.post enc Try.prog Try.f11 false true false false) := by
  refine row_lifted (C := Try.checked) (tcs := [tcInts, tcI, tcI]) (tb := Try.f11.resultTypes.getD 0 0) started own (by kernel_rfl) Try.func11
    (ChangeSpec.witness6 (enc := enc) (C := Try.checked) false ⟨#[], #[.slice none 0 0, .int .i64 0, .int .i64 0], []⟩ 8 (by kernel_rfl) (by kernel_rfl) (by kernel_rfl) (by kernel_rfl))
    laid (by kernel_rfl) (by kernel_rfl) (by kernel_rfl) rfl ?_ ?_
  · intro H ds hd
    match ds, hd with
    | [d0, d1, d2], _ => exact ⟨rfl, rfl, rfl⟩
  · intro avs h K
    simp only [ArgShapes] at h
    obtain ⟨_, _, rfl, h1, _, _, rfl, h2, _, _, rfl, h3, rfl⟩ := h
    obtain ⟨nl, ms, rfl, hm1, -, hm2⟩ := shape_ints h1
    obtain ⟨s, rfl, hs⟩ := shape_int h2
    obtain ⟨gone, rfl, hg⟩ := shape_int h3
    exact spfRow_c nl ms hm1 hm2 s gone K
theorem spfRow_holds : Rows.SpfRowSaid :=
  OpenClaim.holds_of_wide 11 Try.f11 rfl rfl rfl rfl rfl rfl rfl ⟨rfl, rfl, rfl, rfl, rfl⟩ rfl rfl rfl rfl rfl (by kernel_rfl) Try.func11 (by kernel_rfl)
    (of_decide_eq_true (by kernel_rfl)) (by unfold Func.isWrapper; first | (rw [if_pos (by decide +kernel)]; kernel_rfl) | (rw [if_neg (by decide +kernel)]; exact ⟨rfl, rfl⟩))
    (fun os started H enc _ => spfRow_lifted os started H enc)
#print axioms spfRow_holds

end Go.Proofs.Ytkephdahbplhfaa
