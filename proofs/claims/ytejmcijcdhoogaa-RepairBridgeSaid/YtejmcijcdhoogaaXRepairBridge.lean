import Derived.Test.YtejmcijcdhoogaaMB3
/- The law RepairBridge of chapter 18 answers true for all numbers: around a link that alone joins two parts there is no way, and around one of two there is. -/
namespace Go.Proofs.Ytejmcijcdhoogaa
open Go Abs
attribute [local irreducible] EX exL exG exC exCq exS exV exIf exGd exGq
theorem shape_bool {a : AV} (h : ArgShape .bool a) : ∃ b, a = bv b := by
  unfold ArgShape Shape at h
  obtain ⟨b, h1⟩ := h
  simp only [List.cons.injEq, and_true] at h1
  exact ⟨b, h1⟩
set_option maxRecDepth 100000 in
theorem repairBridge_lifted (os : Os) (started : os.Started) (H : Type) (enc : TypeId × Value → H) :
    ReturnsInHanded {} Try.checked os 9 .any (Rows.repairBridgeSpec.pre6 enc Try.prog Try.f9 Rows.repairBridgeRow.domain false) (Rows.repairBridgeSpec.post enc Try.prog Try.f9 false true false false) := by
  refine row_lifted (C := Try.checked) (tcs := [tcI, tcI, .bool]) (tb := Try.f9.resultTypes.getD 0 0) started own (by kernel_rfl) Try.func9
    (ChangeSpec.witness6 (enc := enc) (C := Try.checked) false ⟨#[], #[.int .i64 0, .int .i64 0, .bool false], []⟩ 8 (by kernel_rfl) (by kernel_rfl) (by kernel_rfl) (by kernel_rfl))
    laid (by kernel_rfl) (by kernel_rfl) (by kernel_rfl) rfl ?_ ?_
  · intro H ds hd
    match ds, hd with
    | [d0, d1, d2], _ => exact ⟨rfl, rfl, rfl⟩
  · intro avs h K
    simp only [ArgShapes] at h
    obtain ⟨_, _, rfl, h1, _, _, rfl, h2, _, _, rfl, h3, rfl⟩ := h
    obtain ⟨x1, rfl, hx1⟩ := shape_int h1
    obtain ⟨x2, rfl, hx2⟩ := shape_int h2
    obtain ⟨b, rfl⟩ := shape_bool h3
    exact repairBridge_c x1 x2 hx1 b K
theorem repairBridge_holds : Rows.RepairBridgeSaid :=
  OpenClaim.holds_of_wide 9 Try.f9 rfl rfl rfl rfl rfl rfl rfl ⟨rfl, rfl, rfl, rfl, rfl⟩ rfl rfl rfl rfl rfl (by kernel_rfl) Try.func9 (by kernel_rfl)
    (of_decide_eq_true (by kernel_rfl)) (by unfold Func.isWrapper; first | (rw [if_pos (by decide +kernel)]; kernel_rfl) | (rw [if_neg (by decide +kernel)]; exact ⟨rfl, rfl⟩))
    (fun os started H enc _ => repairBridge_lifted os started H enc)
#print axioms repairBridge_holds

end Go.Proofs.Ytejmcijcdhoogaa
