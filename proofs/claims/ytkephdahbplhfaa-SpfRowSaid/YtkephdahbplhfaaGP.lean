import Derived.Test.YtkephdahbplhfaaG2
set_option linter.unusedSimpArgs false
set_option linter.unusedVariables false
/- Plain facts of graphs. -/
namespace Go.Proofs.Ytkephdahbplhfaa
open Go Abs

/-- what an argument's size gives -/
def Graph.ok (g : Graph) : Prop := g.links.length * 32 ≤ 140737488351232
def I64 (e : Int) : Prop := -9223372036854775808 ≤ e ∧ e ≤ 9223372036854775807
theorem out_length (g : Graph) (n : Int) : (out g n).length ≤ 2 * g.links.length := outs_length g n _
theorem ends_back (g : Graph) (e : Int) (h0 : 0 ≤ e) (h1 : e < 2 * g.links.length) : (ends g e).2.2 = true ∧ (ends g (back e)).2.2 = true ∧ (ends g (back e)).2.1 = (ends g e).1 ∧ (ends g (back e)).1 = (ends g e).2.1 ∧ back e / 2 = e / 2 ∧ back (back e) = e ∧ 0 ≤ back e := by
  have hb : back e / 2 = e / 2 := by unfold back; split <;> (try split) <;> omega
  have hp : back e % 2 = 1 - e % 2 := by unfold back; split <;> (try split) <;> omega
  have hn : 0 ≤ back e := by unfold back; split <;> (try split) <;> omega
  have hr : back (back e) = e := by
    generalize back e = b at hb hp hn
    unfold back; split <;> (try split) <;> omega
  refine ⟨?_, ?_, ?_, ?_, hb, hr, hn⟩
  · unfold ends; rw [if_neg (by omega)]; split <;> rfl
  · unfold ends; rw [if_neg (by omega)]; split <;> rfl
  · simp only [ends, if_neg (show ¬ (e < 0 ∨ (g.links.length : Int) ≤ e / 2) by omega), hb, if_neg (show ¬ (back e < 0 ∨ (g.links.length : Int) ≤ e / 2) by omega)]
    split <;> split <;> first | rfl | (exfalso; omega)
  · simp only [ends, if_neg (show ¬ (e < 0 ∨ (g.links.length : Int) ≤ e / 2) by omega), hb, if_neg (show ¬ (back e < 0 ∨ (g.links.length : Int) ≤ e / 2) by omega)]
    split <;> split <;> first | rfl | (exfalso; omega)
theorem out_mem (g : Graph) (e n : Int) : e ∈ out g n ↔ 0 ≤ e ∧ e < 2 * g.links.length ∧ (ends g e).1 = n := by
  simp only [out, outs, List.mem_filter, List.mem_map, List.mem_range, beq_iff_eq]
  constructor
  · rintro ⟨⟨k, hk, rfl⟩, h⟩
    simp only [Int.ofNat_eq_natCast] at h ⊢
    exact ⟨by omega, by omega, h⟩
  · rintro ⟨h0, h1, h2⟩
    exact ⟨⟨e.toNat, by omega, by simp; omega⟩, h2⟩
theorem checkFrom_ok (g : Graph) : ∀ (l : List Link) (i : Int), (checkFrom g l i).2 = 0 → ∀ x ∈ l, linkErr g x = 0
  | [], _, _, x, hx => by cases hx
  | y :: l, i, h, x, hx => by
    rw [checkFrom] at h
    split at h
    · rcases List.mem_cons.1 hx with rfl | hx
      · assumption
      · exact checkFrom_ok g l (i + 1) h x hx
    · rename_i hne
      exact absurd h hne
theorem check_ok (g : Graph) (h : (check g).2 = 0) : g.links.length ≤ 120 ∧ 1 ≤ g.nodes ∧ g.nodes ≤ 40 ∧ ∀ x ∈ g.links, (0 ≤ x.A ∧ x.A < g.nodes) ∧ (0 ≤ x.B ∧ x.B < g.nodes) := by
  rw [check] at h
  split at h
  · simp at h
  split at h
  · simp at h
  refine ⟨by omega, by omega, by omega, fun x hx => ?_⟩
  have := checkFrom_ok g _ _ h x hx
  rw [linkErr] at this
  split at this
  · omega
  · omega
theorem ends_in (g : Graph) (h : (check g).2 = 0) (e : Int) (h0 : 0 ≤ e) (h1 : e < 2 * g.links.length) : 0 ≤ (ends g e).1 ∧ (ends g e).1 < g.nodes := by
  obtain ⟨_, _, _, hl⟩ := check_ok g h
  have hm : gi g.links (e / 2) ∈ g.links := by
    rw [gi_eq (by omega)]
    exact List.getElem_mem _
  have := hl _ hm
  unfold ends
  rw [if_neg (by omega)]
  split
  · exact this.2
  · exact this.1
theorem out_sorted (g : Graph) (n : Int) : (out g n).Pairwise (· < ·) := by
  unfold out outs
  refine List.Pairwise.filter _ ?_
  rw [List.pairwise_map]
  refine List.Pairwise.imp ?_ List.pairwise_lt_range
  intro a b h
  simpa using h
theorem out_none (g : Graph) (hc : (check g).2 = 0) (n : Int) (h : n < 0 ∨ g.nodes ≤ n) : out g n = [] := by
  rw [List.eq_nil_iff_forall_not_mem]
  intro e he
  rw [out_mem] at he
  have := ends_in g hc e he.1 he.2.1
  omega
end Go.Proofs.Ytkephdahbplhfaa
