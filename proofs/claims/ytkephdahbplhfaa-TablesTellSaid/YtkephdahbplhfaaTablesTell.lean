import Derived.Test.YtkephdahbplhfaaT7
import Derived.Test.YtkephdahbplhfaaG4
/- The law TablesTell of chapter 9 answers true for every graph and all nodes, and leaves its arguments as they were. -/
namespace Go.Proofs.Ytkephdahbplhfaa
open Go Abs
set_option maxRecDepth 100000 in
theorem tablesTell_lifted (os : Os) (started : os.Started) (H : Type) (enc : TypeId × Value → H) :
    ReturnsInHanded {} Try.checked os 18 .any (Rows.tablesTellSpec.pre6 enc Try.prog Try.f18 Rows.tablesTellRow.domain false) (Rows.tablesTellSpec.post enc Try.prog Try.f18 false true false false) := by
  refine row_lifted (C := Try.checked) (tcs := [tcGraph, tcI, tcI]) (tb := Try.f18.resultTypes.getD 0 0) started own (by kernel_rfl) Try.func18
    (ChangeSpec.witness6 (enc := enc) (C := Try.checked) false ⟨#[], #[.agg #[.int .i64 0, .slice none 0 0], .int .i64 0, .int .i64 0], []⟩ 8 (by kernel_rfl) (by kernel_rfl) (by kernel_rfl) (by kernel_rfl))
    laid (by kernel_rfl) (by kernel_rfl) (by kernel_rfl) rfl ?_ ?_
  · intro H ds hd
    match ds, hd with
    | [d0, d1, d2], _ => exact ⟨rfl, rfl, rfl⟩
  · intro avs h K
    simp only [ArgShapes] at h
    obtain ⟨_, _, rfl, h1, _, _, rfl, h2, _, _, rfl, h3, rfl⟩ := h
    obtain ⟨g, rfl, hg, hn⟩ := shape_graphN h1
    obtain ⟨x2, rfl, hx2⟩ := shape_int h2
    obtain ⟨x3, rfl, hx3⟩ := shape_int h3
    exact tablesTell_c g hg.1 hn x2 x3 K
theorem tablesTell_holds : Rows.TablesTellSaid :=
  OpenClaim.holds_of_wide 18 Try.f18 rfl rfl rfl rfl rfl rfl rfl ⟨rfl, rfl, rfl, rfl, rfl⟩ rfl rfl rfl rfl rfl (by kernel_rfl) Try.func18 (by kernel_rfl)
    (of_decide_eq_true (by kernel_rfl)) (by unfold Func.isWrapper; first | (rw [if_pos (by decide +kernel)]; kernel_rfl) | (rw [if_neg (by decide +kernel)]; exact ⟨rfl, rfl⟩))
    (fun os started H enc _ => tablesTell_lifted os started H enc)
#print axioms tablesTell_holds

end Go.Proofs.Ytkephdahbplhfaa
