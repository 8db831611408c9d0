import Derived.Test.YtgahnhiidhkjaaaMB3
/- The law ClassifyFirst of chapter 20 answers true for every list of rules, node and flow, and leaves its arguments as they were: no rule of the node with a greater priority takes the flow, nor one of the same ahead of it. -/
namespace Go.Proofs.Ytgahnhiidhkjaaa
open Go Abs
attribute [local irreducible] EX exL exG exC exCq exS exV exIf exGd exGq
set_option maxRecDepth 100000 in
theorem classifyFirst_lifted (os : Os) (started : os.Started) (H : Type) (enc : TypeId × Value → H) :
    ReturnsInHanded {} Try.checked os 4 .any (Rows.classifyFirstSpec.pre6 enc Try.prog Try.f4 Rows.classifyFirstRow.domain false) (Rows.classifyFirstSpec.post enc Try.prog Try.f4 false true false false) := by
  refine row_lifted (C := Try.checked) (tcs := [tcRules, tcI, tcFlow]) (tb := Try.f4.resultTypes.getD 0 0) started own (by kernel_rfl) Try.func4
    (ChangeSpec.witness6 (enc := enc) (C := Try.checked) false ⟨#[], #[.slice none 0 0, .int .i64 0, .agg #[.int .u32 0, .int .u32 0, .int .i64 0, .int .i64 0, .int .i64 0]], []⟩ 8 (by kernel_rfl) (by kernel_rfl) (by kernel_rfl) (by kernel_rfl))
    laid (by kernel_rfl) (by kernel_rfl) (by kernel_rfl) rfl ?_ ?_
  · intro H ds hd
    match ds, hd with
    | [d0, d1, d2], _ => exact ⟨rfl, rfl, rfl⟩
  · intro avs h K
    simp only [ArgShapes] at h
    obtain ⟨_, _, rfl, h1, _, _, rfl, h2, _, _, rfl, h3, rfl⟩ := h
    obtain ⟨nl, l, rfl, hl, hr⟩ := shape_rules h1
    obtain ⟨node, rfl, hn⟩ := shape_int h2
    obtain ⟨t, rfl, ht⟩ := shape_flow h3
    exact classifyFirst_c nl l (by omega) (fun r h => ⟨(hr r h).name, (hr r h).m, (hr r h).nils⟩) node t ht K
theorem classifyFirst_holds : Rows.ClassifyFirstSaid :=
  OpenClaim.holds_of_wide 4 Try.f4 rfl rfl rfl rfl rfl rfl rfl ⟨rfl, rfl, rfl, rfl, rfl⟩ rfl rfl rfl rfl rfl (by kernel_rfl) Try.func4 (by kernel_rfl)
    (of_decide_eq_true (by kernel_rfl)) (by unfold Func.isWrapper; first | (rw [if_pos (by decide +kernel)]; kernel_rfl) | (rw [if_neg (by decide +kernel)]; exact ⟨rfl, rfl⟩))
    (fun os started H enc _ => classifyFirst_lifted os started H enc)
#print axioms classifyFirst_holds

end Go.Proofs.Ytgahnhiidhkjaaa
