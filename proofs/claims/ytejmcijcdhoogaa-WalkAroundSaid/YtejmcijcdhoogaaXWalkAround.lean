import Derived.Test.YtejmcijcdhoogaaMB3
set_option linter.unusedSimpArgs false
set_option linter.unusedVariables false
/- The law WalkAround of chapter 21 answers true for every graph, want, link, hash and strictness, and leaves its arguments as they were: with one link down that its list did not know a packet never crosses it; a strict one ends before it, others come to their end, if there is a way around each time. -/
namespace Go.Proofs.Ytejmcijcdhoogaa
open Go Abs
attribute [local irreducible] EX exL exG exC exCq exS exV exIf exGd exGq exB
theorem shape_bool {a : AV} (h : ArgShape .bool a) : ∃ b, a = bv b := by
  unfold ArgShape Shape at h
  obtain ⟨b, h1⟩ := h
  simp only [List.cons.injEq, and_true] at h1
  exact ⟨b, h1⟩
set_option maxRecDepth 100000 in
theorem walkAround_lifted (os : Os) (started : os.Started) (H : Type) (enc : TypeId × Value → H) :
    ReturnsInHanded {} Try.checked os 12 .any (Rows.walkAroundSpec.pre6 enc Try.prog Try.f12 Rows.walkAroundRow.domain false) (Rows.walkAroundSpec.post enc Try.prog Try.f12 false true false false) := by
  refine row_lifted (C := Try.checked) (tcs := [tcGraph, tcWant, tcI, tcI, .bool]) (tb := Try.f12.resultTypes.getD 0 0) started own (by kernel_rfl) Try.func12
    (ChangeSpec.witness6 (enc := enc) (C := Try.checked) false ⟨#[], #[.agg #[.int .i64 0, .slice none 0 0], .agg #[.int .i64 0, .int .i64 0, .int .i64 0, .slice none 0 0, .slice none 0 0, .slice none 0 0, .slice none 0 0], .int .i64 0, .int .i64 0, .bool false], []⟩ 8 (by kernel_rfl) (by kernel_rfl) (by kernel_rfl) (by kernel_rfl))
    laid (by kernel_rfl) (by kernel_rfl) (by kernel_rfl) rfl ?_ ?_
  · intro H ds hd
    match ds, hd with
    | [d0, d1, d2, d3, d4], _ => exact ⟨rfl, rfl, rfl⟩
  · intro avs h K
    simp only [ArgShapes] at h
    obtain ⟨_, _, rfl, h1, _, _, rfl, h2, _, _, rfl, h3, _, _, rfl, h4, _, _, rfl, h5, rfl⟩ := h
    obtain ⟨g, rfl, hg, hn⟩ := shape_graphN h1
    obtain ⟨w, rfl, hw⟩ := shape_want h2
    obtain ⟨x3, rfl, hx3⟩ := shape_int h3
    obtain ⟨x4, rfl, hx4⟩ := shape_int h4
    obtain ⟨b, rfl⟩ := shape_bool h5
    exact walkAround_c g hg.1 hn w hw.1 x3 x4 hx4 b K
theorem walkAround_holds : Rows.WalkAroundSaid :=
  OpenClaim.holds_of_wide 12 Try.f12 rfl rfl rfl rfl rfl rfl rfl ⟨rfl, rfl, rfl, rfl, rfl⟩ rfl rfl rfl rfl rfl (by kernel_rfl) Try.func12 (by kernel_rfl)
    (of_decide_eq_true (by kernel_rfl)) (by unfold Func.isWrapper; first | (rw [if_pos (by decide +kernel)]; kernel_rfl) | (rw [if_neg (by decide +kernel)]; exact ⟨rfl, rfl⟩))
    (fun os started H enc _ => walkAround_lifted os started H enc)
#print axioms walkAround_holds

end Go.Proofs.Ytejmcijcdhoogaa
