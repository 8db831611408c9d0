import Derived.Test.YtejmcijcdhoogaaMB3
set_option linter.unusedSimpArgs false
set_option linter.unusedVariables false
/- The law WalkHops of chapter 21 answers true for every graph, node, list, hash, list of links that are down and depth, and leaves its arguments as they were: a packet's edges join, one after the other, and none of them is down. -/
namespace Go.Proofs.Ytejmcijcdhoogaa
open Go Abs
attribute [local irreducible] EX exL exG exC exCq exS exV exIf exGd exGq exB
def tcSeg : TC := .st [.bool, tcI]
def tcSegs : TC := .sl 16 tcSeg
theorem shape_seg {r : List AV} (h : Shape tcSeg r) : ∃ s : Sg, r = Enc.cells s ∧ i64 s.to := by
  simp only [tcSeg, tcI, Shape, ShapeAll] at h
  obtain ⟨_, _, rfl, ⟨b, rfl⟩, _, _, rfl, ⟨n, rfl, hn⟩, rfl⟩ := h
  exact ⟨⟨b, n⟩, rfl, wf_i64 hn⟩
theorem shape_segs {a : AV} (h : ArgShape tcSegs a) : ∃ (nl : Bool) (l : List Sg), a = .vec nl (rows l) l.length ∧ ∀ s ∈ l, i64 s.to := by
  simp only [tcSegs, ArgShape, Shape] at h
  obtain ⟨nl, rs, h1, hn, hb, hr⟩ := h
  obtain ⟨l, rfl, hl⟩ := each_map fun r hr' => shape_seg (by simpa only [tcSeg] using hr r hr')
  rw [rows_map] at h1
  simp only [List.cons.injEq, and_true, List.length_map] at h1
  exact ⟨nl, l, h1, hl⟩
set_option maxRecDepth 100000 in
theorem walkHops_lifted (os : Os) (started : os.Started) (H : Type) (enc : TypeId × Value → H) :
    ReturnsInHanded {} Try.checked os 13 .any (Rows.walkHopsSpec.pre6 enc Try.prog Try.f13 Rows.walkHopsRow.domain false) (Rows.walkHopsSpec.post enc Try.prog Try.f13 false true false false) := by
  refine row_lifted (C := Try.checked) (tcs := [tcGraph, tcI, tcSegs, tcI, tcBools, tcI]) (tb := Try.f13.resultTypes.getD 0 0) started own (by kernel_rfl) Try.func13
    (ChangeSpec.witness6 (enc := enc) (C := Try.checked) false ⟨#[], #[.agg #[.int .i64 0, .slice none 0 0], .int .i64 0, .slice none 0 0, .int .i64 0, .slice none 0 0, .int .i64 0], []⟩ 8 (by kernel_rfl) (by kernel_rfl) (by kernel_rfl) (by kernel_rfl))
    laid (by kernel_rfl) (by kernel_rfl) (by kernel_rfl) rfl ?_ ?_
  · intro H ds hd
    match ds, hd with
    | [d0, d1, d2, d3, d4, d5], _ => exact ⟨rfl, rfl, rfl⟩
  · intro avs h K
    simp only [ArgShapes] at h
    obtain ⟨_, _, rfl, h1, _, _, rfl, h2, _, _, rfl, h3, _, _, rfl, h4, _, _, rfl, h5, _, _, rfl, h6, rfl⟩ := h
    obtain ⟨g, rfl, hg, hn⟩ := shape_graphN h1
    obtain ⟨x2, rfl, hx2⟩ := shape_int h2
    obtain ⟨nl3, l3, rfl, hl3⟩ := shape_segs h3
    obtain ⟨x4, rfl, hx4⟩ := shape_int h4
    obtain ⟨nl, l, rfl, hl⟩ := shape_bools h5
    obtain ⟨x6, rfl, hx6⟩ := shape_int h6
    exact walkHops_c g hg.1 hn x2 nl3 l3 hl3 x4 hx4 nl l x6 K
theorem walkHops_holds : Rows.WalkHopsSaid :=
  OpenClaim.holds_of_wide 13 Try.f13 rfl rfl rfl rfl rfl rfl rfl ⟨rfl, rfl, rfl, rfl, rfl⟩ rfl rfl rfl rfl rfl (by kernel_rfl) Try.func13 (by kernel_rfl)
    (of_decide_eq_true (by kernel_rfl)) (by unfold Func.isWrapper; first | (rw [if_pos (by decide +kernel)]; kernel_rfl) | (rw [if_neg (by decide +kernel)]; exact ⟨rfl, rfl⟩))
    (fun os started H enc _ => walkHops_lifted os started H enc)
#print axioms walkHops_holds

end Go.Proofs.Ytejmcijcdhoogaa
