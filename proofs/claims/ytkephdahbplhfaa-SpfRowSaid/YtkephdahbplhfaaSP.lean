import Derived.Test.YtkephdahbplhfaaS5
import Derived.Test.YtkephdahbplhfaaG4
set_option linter.unusedSimpArgs false
set_option linter.unusedVariables false
/- Lengths of ways: more plain facts. -/
namespace Go.Proofs.Ytkephdahbplhfaa
open Go Abs
set_option maxHeartbeats 400000

theorem isDist_exists {g : Graph} (hf : Fit g) {down : List Bool} {s : Int} (hs : 0 ≤ s ∧ s < g.nodes) : ∃ d, IsDist g down s d ∧ BInv g down s d := by
  have key : ∀ (n : Nat) (d : List Int), size d = n → BInv g down s d → ∃ d, IsDist g down s d ∧ BInv g down s d := by
    intro n
    induction n using Nat.strongRecOn with
    | _ n ih =>
      intro d hn hd
      by_cases hr : ∀ e : Int, 0 ≤ e → e < 2 * g.links.length → Relaxed g down d e
      · exact ⟨d, binv_end hf hs hd hr, hd⟩
      · obtain ⟨e, he⟩ := Classical.not_forall.1 hr
        obtain ⟨e0, he⟩ := Classical.not_imp.1 he
        obtain ⟨e1, he⟩ := Classical.not_imp.1 he
        obtain ⟨hu, he⟩ := Classical.not_imp.1 he
        obtain ⟨ha, he⟩ := Classical.not_imp.1 he
        obtain ⟨h1, h2⟩ := binv_relax hf hs hd e0 e1 hu ha (by omega)
        exact ih _ (by omega) _ rfl h1
  exact key _ _ rfl (binv_first hf hs)
theorem distL_spec {g : Graph} (hf : Fit g) (down : List Bool) {s : Int} (hs : 0 ≤ s ∧ s < g.nodes) : IsDist g down s (distL g down s) ∧ BInv g down s (distL g down s) := by
  obtain ⟨d, h1, h2⟩ := isDist_exists (down := down) hf hs
  rw [distL_eq h1]
  exact ⟨h1, h2⟩
/-- the lengths; none, if there is no such graph, or node -/
noncomputable def fromL (g : Graph) (down : List Bool) (s : Int) : List Int := if (check g).2 = 0 ∧ 0 ≤ s ∧ s < g.nodes then distL g down s else []
def fromNl (g : Graph) (s : Int) : Bool := decide (¬ ((check g).2 = 0 ∧ 0 ≤ s ∧ s < g.nodes))
theorem fromAV_eq (g : Graph) (down : List Bool) (s : Int) : fromAV g down s = .vec (fromNl g s) ((fromL g down s).map iv) (fromL g down s).length := by
  unfold fromAV fromL fromNl
  by_cases h : (check g).2 = 0 ∧ 0 ≤ s ∧ s < g.nodes
  · rw [if_pos h, if_pos h, decide_eq_false (by simpa using h)]
  · rw [if_neg h, if_neg h, decide_eq_true h]; rfl
theorem dist_bound {g : Graph} (hf : Fit g) (down : List Bool) {s : Int} (hs : 0 ≤ s ∧ s < g.nodes) {v : Int} (v0 : 0 ≤ v) (v1 : v < g.nodes) : -1 ≤ gi (distL g down s) v ∧ gi (distL g down s) v ≤ 671088640 := by
  obtain ⟨h1, h2⟩ := distL_spec hf down hs
  have := h2.bound v v0 v1
  have n2 := hf.n2
  rcases h2.way v v0 v1 with hh | hh <;> omega
theorem mem_gi {l : List Int} {x : Int} (h : x ∈ l) : ∃ i : Int, 0 ≤ i ∧ i < l.length ∧ x = gi l i := by
  obtain ⟨n, hn, rfl⟩ := List.getElem_of_mem h
  exact ⟨n, by omega, by omega, by rw [gi_get (by omega)]; simp⟩
theorem fromL_i64 (g : Graph) (down : List Bool) (s : Int) : I64s (fromL g down s) := by
  intro x hx
  unfold fromL at hx
  split at hx
  · rename_i h
    have hf := fit_of g h.1
    obtain ⟨i, i0, i1, rfl⟩ := mem_gi hx
    have hl := (distL_spec hf down h.2).1.len
    have := dist_bound hf down h.2 i0 (by omega)
    omega
  · cases hx
theorem fromL_length (g : Graph) (down : List Bool) (s : Int) : (fromL g down s).length ≤ 40 := by
  unfold fromL
  split
  · rename_i h
    have hf := fit_of g h.1
    have hl := (distL_spec hf down h.2).1.len
    have := hf.n2
    omega
  · simp

/-! two small graphs -/
def g1_ : Graph := ⟨1, true, []⟩
def g2_ : Graph := ⟨2, false, [⟨0, 1, 7, 0⟩]⟩
theorem from1 : fromAV g1_ [] 0 = .vec false [iv 0] 1 := by
  have hf : Fit g1_ := fit_of _ (by decide)
  have hd : IsDist g1_ [] 0 [0] := by
    refine binv_end hf ⟨by decide, by decide⟩ ⟨rfl, fun v v0 v1 => ?_, rfl, fun v v0 v1 => ?_⟩ fun e e0 e1 => by simp [g1_] at e1; omega
    · simp only [g1_] at v1
      obtain rfl : v = 0 := by omega
      exact .inr ⟨by decide, .nil⟩
    · simp only [g1_] at v1
      obtain rfl : v = 0 := by omega
      decide
  rw [fromAV, if_pos ⟨by decide, by decide, by decide⟩, distL_eq hd]
  rfl
theorem from2 : fromAV g2_ [] 0 = .vec false [iv 0, iv 7] 2 := by
  have hf : Fit g2_ := fit_of _ (by decide)
  have e0' : (ends g2_ 0) = (0, 1, true) := rfl
  have e1' : (ends g2_ 1) = (1, 0, true) := rfl
  have w0 : wt g2_ 0 = 7 := rfl
  have w1 : wt g2_ 1 = 7 := rfl
  have hd : IsDist g2_ [] 0 [0, 7] := by
    refine binv_end hf ⟨by decide, by decide⟩ ⟨rfl, fun v v0 v1 => ?_, rfl, fun v v0 v1 => ?_⟩ fun e a0 a1 => ?_
    · simp only [g2_] at v1
      rcases (show v = 0 ∨ v = 1 by omega) with rfl | rfl
      · exact .inr ⟨by decide, .nil⟩
      · refine .inr ⟨by decide, ?_⟩
        have := Walk.step (e := 0) (Walk.nil (g := g2_) (down := []) (s := 0)) (by omega) (by simp [g2_]) rfl rfl
        rw [e0', w0, Int.zero_add] at this
        exact this
    · simp only [g2_] at v1
      rcases (show v = 0 ∨ v = 1 by omega) with rfl | rfl
      · decide
      · decide
    · simp only [g2_, List.length_cons, List.length_nil] at a1
      rcases (show e = 0 ∨ e = 1 by omega) with rfl | rfl
      · intro _ _
        rw [e0', w0]
        decide
      · intro _ _
        rw [e1', w1]
        decide
  rw [fromAV, if_pos ⟨by decide, by decide, by decide⟩, distL_eq hd]
  rfl
theorem IsDist.zero {g : Graph} (hf : Fit g) {down : List Bool} {s : Int} (hs : 0 ≤ s ∧ s < g.nodes) {d : List Int} (h : IsDist g down s d) : gi d s = 0 := by
  have := h.least s 0 .nil
  have h1 := (h.way s hs.1 hs.2 this.1).nonneg hf
  omega
theorem IsDist.edge {g : Graph} (hf : Fit g) {down : List Bool} {s : Int} {d : List Int} (h : IsDist g down s d) {e : Int} (e0 : 0 ≤ e) (e1 : e < 2 * g.links.length) (hu : upE down e = true) (ha : 0 ≤ gi d (ends g e).1) : 0 ≤ gi d (ends g e).2.1 ∧ gi d (ends g e).2.1 ≤ gi d (ends g e).1 + wt g e :=
  h.least _ _ (.step (h.way _ (hf.b e e0 e1).1.1 (hf.b e e0 e1).1.2 ha) e0 e1 hu rfl)
theorem IsDist.made {g : Graph} (hf : Fit g) {down : List Bool} {s : Int} (hs : 0 ≤ s ∧ s < g.nodes) {d : List Int} (h : IsDist g down s d) {v : Int} (v0 : 0 ≤ v) (v1 : v < g.nodes) (hv : 0 ≤ gi d v) :
    v = s ∨ ∃ e : Int, 0 ≤ e ∧ e < 2 * g.links.length ∧ upE down e = true ∧ 0 ≤ gi d (ends g e).1 ∧ (ends g e).2.1 = v ∧ gi d (ends g e).1 + wt g e = gi d v := by
  have hw := h.way v v0 v1 hv
  generalize hL : gi d v = L at hw
  cases hw with
  | nil => exact .inl rfl
  | @step a L e hw e0 e1 hu ha =>
    right
    have h1 := h.least _ _ hw
    have h2 := h.edge hf e0 e1 hu (by rw [ha]; exact h1.1)
    rw [ha] at h2
    refine ⟨e, e0, e1, hu, by rw [ha]; exact h1.1, rfl, ?_⟩
    rw [ha]
    omega
theorem walk_trans {g : Graph} {down : List Bool} {s v u L M : Int} (h1 : Walk g down s v L) (h2 : Walk g down v u M) : Walk g down s u (L + M) := by
  induction h2 with
  | nil => rw [Int.add_zero]; exact h1
  | step _ e0 e1 hu ha ih => rw [← Int.add_assoc]; exact .step ih e0 e1 hu ha
theorem edge_back {g : Graph} {e : Int} (e0 : 0 ≤ e) (e1 : e < 2 * g.links.length) : ∃ e' : Int, 0 ≤ e' ∧ e' < 2 * g.links.length ∧ e' / 2 = e / 2 ∧ (ends g e').1 = (ends g e).2.1 ∧ (ends g e').2.1 = (ends g e).1 := by
  by_cases hp : e % 2 = 1
  · refine ⟨e - 1, by omega, by omega, by omega, ?_, ?_⟩ <;>
    · rw [ends, if_neg (by omega), if_neg (by omega), ends, if_neg (by omega), if_pos hp, show (e - 1) / 2 = e / 2 by omega]
  · refine ⟨e + 1, by omega, by omega, by omega, ?_, ?_⟩ <;>
    · rw [ends, if_neg (by omega), if_pos (by omega), ends, if_neg (by omega), if_neg hp, show (e + 1) / 2 = e / 2 by omega]
theorem walk_back {g : Graph} {down : List Bool} {s v L : Int} (h : Walk g down s v L) : Walk g down v s L := by
  induction h with
  | nil => exact .nil
  | @step a L e h1 e0 e1 hu ha ih =>
    obtain ⟨e', q0, q1, q2, q3, q4⟩ := edge_back e0 e1
    have hw := Walk.step (e := e') (Walk.nil (g := g) (down := down) (s := (ends g e).2.1)) q0 q1 (by unfold upE at hu ⊢; rw [q2]; exact hu) q3
    rw [q4, ha, Int.zero_add] at hw
    have := walk_trans hw ih
    rwa [show wt g e' = wt g e by unfold wt; rw [q2], Int.add_comm] at this
end Go.Proofs.Ytkephdahbplhfaa
