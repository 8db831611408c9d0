import Derived.Test.YtkephdahbplhfaaSP
set_option linter.unusedSimpArgs false
set_option linter.unusedVariables false
/- A row of links: how far its nodes are (plain). -/
namespace Go.Proofs.Ytkephdahbplhfaa
open Go Abs
set_option maxHeartbeats 400000

/-- the sum of the first k numbers -/
def pre (w : Int → Int) (k : Int) : Int := ((List.range k.toNat).map fun (j : Nat) => w (j : Int)).sum
theorem pre_zero (w : Int → Int) : pre w 0 = 0 := rfl
theorem pre_succ (w : Int → Int) {k : Int} (h : 0 ≤ k) : pre w (k + 1) = pre w k + w k := by
  unfold pre
  rw [show (k + 1).toNat = k.toNat + 1 by omega, List.range_succ, List.map_append, List.sum_append]
  simp [Int.toNat_of_nonneg h]
theorem mem_giA {α : Type} [Inhabited α] {l : List α} {x : α} (h : x ∈ l) : ∃ i : Int, 0 ≤ i ∧ i < l.length ∧ x = gi l i := by
  obtain ⟨n, hn, rfl⟩ := List.getElem_of_mem h
  exact ⟨n, by omega, by omega, by rw [gi_get (by omega)]; simp⟩
/-- a row of links -/
structure RowG (g : Graph) (w : Int → Int) : Prop where
  few : g.links.length ≤ 29
  nodes : g.nodes = g.links.length + 1
  link : ∀ k : Int, 0 ≤ k → k < g.links.length → gi g.links k = ⟨k, k + 1, w k, 0⟩
  w1 : ∀ k : Int, 0 ≤ k → k < g.links.length → 1 ≤ w k ∧ w k ≤ 1024
theorem checkFrom_fine (g : Graph) : ∀ (l : List Link) (i : Int), (∀ x ∈ l, linkErr g x = 0) → checkFrom g l i = (-1, 0)
  | [], i, _ => rfl
  | x :: l, i, h => by
    unfold checkFrom
    rw [if_pos (h x (by simp))]
    exact checkFrom_fine g l (i + 1) fun y hy => h y (by simp [hy])
theorem RowG.ok {g : Graph} {w : Int → Int} (h : RowG g w) : (check g).2 = 0 := by
  have h1 := h.few
  have h2 := h.nodes
  unfold check
  rw [if_neg (by omega), if_neg (by omega), checkFrom_fine]
  intro x hx
  obtain ⟨k, k0, k1, rfl⟩ := mem_giA hx
  have hw := h.w1 k k0 k1
  rw [h.link k k0 k1]
  unfold linkErr
  dsimp only
  rw [if_neg (by omega), if_neg (by omega)]
theorem RowG.ends_even {g : Graph} {w : Int → Int} (h : RowG g w) {k : Int} (k0 : 0 ≤ k) (k1 : k < g.links.length) : ends g (2 * k) = (k, k + 1, true) := by
  rw [ends, if_neg (by omega), if_neg (by omega), show 2 * k / 2 = k by omega, h.link k k0 k1]
theorem RowG.step {g : Graph} {w : Int → Int} (h : RowG g w) {e : Int} (e0 : 0 ≤ e) (e1 : e < 2 * g.links.length) : wt g e = w (e / 2) ∧ (((ends g e).1 = e / 2 ∧ (ends g e).2.1 = e / 2 + 1) ∨ ((ends g e).1 = e / 2 + 1 ∧ (ends g e).2.1 = e / 2)) := by
  have hl := h.link (e / 2) (by omega) (by omega)
  refine ⟨by rw [wt, hl], ?_⟩
  rw [ends, if_neg (by omega), hl]
  split
  · exact .inr ⟨rfl, rfl⟩
  · exact .inl ⟨rfl, rfl⟩
/-- no way is shorter, and none leads over the link that is gone -/
theorem RowG.least {g : Graph} {w : Int → Int} (h : RowG g w) {down : List Bool} {gone : Int} (hup : ∀ e : Int, 0 ≤ e → e < 2 * g.links.length → upE down e = true → e / 2 ≠ gone) {s v L : Int} (hw : Walk g down s v L) :
    (pre w v - pre w s ≤ L ∧ pre w s - pre w v ≤ L) ∧ (v ≤ gone ↔ s ≤ gone) := by
  induction hw with
  | nil => exact ⟨⟨by omega, by omega⟩, Iff.rfl⟩
  | @step a L e _ e0 e1 hu ha ih =>
    obtain ⟨h1, h2⟩ := h.step e0 e1
    have hg := hup e e0 e1 hu
    have hp := pre_succ w (k := e / 2) (by omega)
    have hw1 := h.w1 (e / 2) (by omega) (by omega)
    rw [h1]
    rcases h2 with ⟨h3, h4⟩ | ⟨h3, h4⟩
    · rw [h4]
      rw [← ha, h3] at ih
      refine ⟨⟨by omega, by omega⟩, ?_⟩
      rw [← ih.2]
      omega
    · rw [h4]
      rw [← ha, h3] at ih
      refine ⟨⟨by omega, by omega⟩, ?_⟩
      rw [← ih.2]
      omega
theorem RowG.ahead {g : Graph} {w : Int → Int} (h : RowG g w) {down : List Bool} {s : Int} (s0 : 0 ≤ s) : ∀ (n : Nat), s + n ≤ g.links.length → (∀ k : Int, s ≤ k → k < s + n → upE down (2 * k) = true) → Walk g down s (s + n) (pre w (s + n) - pre w s)
  | 0, _, _ => by
    rw [show s + ((0 : Nat) : Int) = s by omega, Int.sub_self]
    exact .nil
  | n + 1, hn, hu => by
    have ih := RowG.ahead h s0 n (by omega) fun k k0 k1 => hu k k0 (by omega)
    have he := h.ends_even (k := s + n) (by omega) (by omega)
    have := Walk.step (e := 2 * (s + n)) ih (by omega) (by omega) (hu _ (by omega) (by omega)) (by rw [he])
    rw [he, (h.step (e := 2 * (s + n)) (by omega) (by omega)).1, show 2 * (s + (n : Int)) / 2 = s + n by omega] at this
    rw [show s + ((n + 1 : Nat) : Int) = s + n + 1 by omega, pre_succ w (by omega)]
    rw [show pre w (s + n) + w (s + n) - pre w s = pre w (s + n) - pre w s + w (s + n) by omega]
    exact this
theorem RowG.dist {g : Graph} {w : Int → Int} (h : RowG g w) {down : List Bool} {gone : Int} (hup : ∀ e : Int, 0 ≤ e → e < 2 * g.links.length → (upE down e = true ↔ e / 2 ≠ gone)) {s v : Int} (hs : 0 ≤ s ∧ s < g.nodes) (hv : 0 ≤ v ∧ v < g.nodes) :
    gi (distL g down s) v = if (s ≤ gone ∧ gone < v) ∨ (v ≤ gone ∧ gone < s) then -1 else if s ≤ v then pre w v - pre w s else pre w s - pre w v := by
  have hf := fit_of g h.ok
  have hn := h.nodes
  have hd := (distL_spec hf down hs).1
  have lw := fun (L : Int) (hw : Walk g down s v L) => h.least (fun e e0 e1 hu => (hup e e0 e1).1 hu) hw
  have go : ∀ a b : Int, 0 ≤ a → a ≤ b → b < g.nodes → ¬ (a ≤ gone ∧ gone < b) → Walk g down a b (pre w b - pre w a) := by
    intro a b a0 hab b1 hg
    have := h.ahead (down := down) a0 (b - a).toNat (by omega) fun k k0 k1 => (hup (2 * k) (by omega) (by omega)).2 (by omega)
    rwa [show a + ((b - a).toNat : Int) = b by omega] at this
  by_cases hb : (s ≤ gone ∧ gone < v) ∨ (v ≤ gone ∧ gone < s)
  · rw [if_pos hb]
    refine hd.neg v hv.1 hv.2 ?_
    by_cases hp : 0 ≤ gi (distL g down s) v
    · have := (lw _ (hd.way v hv.1 hv.2 hp)).2
      omega
    · omega
  · rw [if_neg hb]
    have key : ∀ L, Walk g down s v L → pre w v - pre w s ≤ L ∧ pre w s - pre w v ≤ L → (L = pre w v - pre w s ∨ L = pre w s - pre w v) → gi (distL g down s) v = L := by
      intro L hw _ hL
      have h1 := hd.least v L hw
      have h2 := (lw _ (hd.way v hv.1 hv.2 h1.1)).1
      omega
    split
    · rename_i hsv
      have hw := go s v hs.1 hsv hv.2 (by omega)
      exact key _ hw (lw _ hw).1 (.inl rfl)
    · rename_i hsv
      have hw := walk_back (go v s hv.1 (by omega) hs.2 (by omega))
      exact key _ hw (lw _ hw).1 (.inr rfl)
end Go.Proofs.Ytkephdahbplhfaa
