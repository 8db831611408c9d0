import Derived.Test.YtkephdahbplhfaaS1
set_option linter.unusedSimpArgs false
set_option linter.unusedVariables false
/- Shortest ways, edge by edge, as long as something gets shorter: as lists. -/
namespace Go.Proofs.Ytkephdahbplhfaa
open Go Abs

def far (x : Int) : Nat := if x < 0 then 1073741824 else x.toNat
def size (d : List Int) : Nat := (d.map far).sum
theorem size_set (x : Int) : ∀ (d : List Int) (k : Nat) (h : k < d.length), size (d.set k x) + far d[k] = size d + far x
  | [], k, h => by simp at h
  | y :: d, 0, h => by simp [size]; omega
  | y :: d, k + 1, h => by
    have := size_set x d k (by simpa using h)
    simp only [size, List.set_cons_succ, List.map_cons, List.sum_cons, List.getElem_cons_succ] at this ⊢
    omega
structure BInv (g : Graph) (down : List Bool) (s : Int) (d : List Int) : Prop where
  len : (d.length : Int) = g.nodes
  way : ∀ v : Int, 0 ≤ v → v < g.nodes → gi d v = -1 ∨ (0 ≤ gi d v ∧ Walk g down s v (gi d v))
  start : gi d s = 0
  bound : ∀ v : Int, 0 ≤ v → v < g.nodes → gi d v ≤ 16777216 * (g.nodes - unset d - 1)
def Relaxed (g : Graph) (down : List Bool) (d : List Int) (e : Int) : Prop := upE down e = true → 0 ≤ gi d (ends g e).1 → 0 ≤ gi d (ends g e).2.1 ∧ gi d (ends g e).2.1 ≤ gi d (ends g e).1 + wt g e
theorem binv_end {g : Graph} (hf : Fit g) {down : List Bool} {s : Int} (hs : 0 ≤ s ∧ s < g.nodes) {d : List Int} (h : BInv g down s d) (hr : ∀ e : Int, 0 ≤ e → e < 2 * g.links.length → Relaxed g down d e) : IsDist g down s d := by
  refine ⟨h.len, fun v v0 v1 hn => ?_, fun v v0 v1 hp => ?_, fun v L hw => ?_⟩
  · rcases h.way v v0 v1 with hh | hh
    · exact hh
    · omega
  · rcases h.way v v0 v1 with hh | hh
    · omega
    · exact hh.2
  · induction hw with
    | nil => rw [h.start]; omega
    | @step a L e hw e0 e1 hu ha ih =>
      have := hr e e0 e1 hu (by rw [ha]; exact ih.1)
      rw [ha] at this
      omega
theorem unset_le (d : List Int) : unset d ≤ d.length := List.count_le_length
theorem unset_same {d : List Int} {k x : Int} (h0 : 0 ≤ k) (h1 : k < d.length) (hn : 0 ≤ gi d k) (hx : 0 ≤ x) : unset (d.set k.toNat x) = unset d := by
  unfold unset
  have hlt : k.toNat < d.length := by omega
  rw [List.count_set hlt]
  have hv : d[k.toNat] = gi d k := by rw [gi_get (by omega)]
  rw [hv]
  have e1 : ¬ gi d k = -1 := by omega
  have e2 : ¬ x = -1 := by omega
  simp [e1, e2]
theorem binv_relax {g : Graph} (hf : Fit g) {down : List Bool} {s : Int} (hs : 0 ≤ s ∧ s < g.nodes) {d : List Int} (h : BInv g down s d) {e : Int} (e0 : 0 ≤ e) (e1 : e < 2 * g.links.length) (hu : upE down e = true) (ha : 0 ≤ gi d (ends g e).1)
    (hb : gi d (ends g e).2.1 < 0 ∨ gi d (ends g e).1 + wt g e < gi d (ends g e).2.1) :
    BInv g down s (d.set (ends g e).2.1.toNat (gi d (ends g e).1 + wt g e)) ∧ size (d.set (ends g e).2.1.toNat (gi d (ends g e).1 + wt g e)) < size d := by
  obtain ⟨⟨a0, a1⟩, b0, b1⟩ := hf.b e e0 e1
  have hw := hf.w e e0 e1
  have hlen := h.len
  have hn2 := hf.n2
  obtain ⟨b, hbd⟩ : ∃ b, b = (ends g e).2.1 := ⟨_, rfl⟩
  obtain ⟨a, had⟩ : ∃ a, a = (ends g e).1 := ⟨_, rfl⟩
  rw [← hbd] at hb b0 b1 ⊢
  rw [← had] at hb a0 a1 ha ⊢
  have hba := h.bound a a0 a1
  have hbb := h.bound b b0 b1
  have hbs : ¬ b = s := by rintro rfl; rw [h.start] at hb; omega
  have hway : Walk g down s a (gi d a) := by
    rcases h.way a a0 a1 with hh | hh
    · omega
    · exact hh.2
  have hwb : Walk g down s b (gi d a + wt g e) := by rw [hbd]; exact .step hway e0 e1 hu had.symm
  have g1 : ∀ v : Int, 0 ≤ v → gi (d.set b.toNat (gi d a + wt g e)) v = if v = b then gi d a + wt g e else gi d v := fun v v0 => gi_set b0 (by omega) v0
  have hub : unset (d.set b.toNat (gi d a + wt g e)) ≤ unset d ∧ gi d a + wt g e ≤ 16777216 * (g.nodes - unset (d.set b.toNat (gi d a + wt g e)) - 1) := by
    by_cases hneg : gi d b < 0
    · have hb1 : gi d b = -1 := by
        rcases h.way b b0 b1 with hh | hh
        · exact hh
        · omega
      have := unset_set b0 (by omega) hb1 (show 0 ≤ gi d a + wt g e by omega)
      omega
    · have := unset_same (d := d) b0 (by omega) (by omega) (show 0 ≤ gi d a + wt g e by omega)
      rw [this]
      omega
  refine ⟨⟨by simpa using hlen, fun v v0 v1 => ?_, ?_, fun v v0 v1 => ?_⟩, ?_⟩
  · rw [g1 v v0]
    by_cases ev : v = b
    · rw [if_pos ev, ev]; exact .inr ⟨by omega, hwb⟩
    · rw [if_neg ev]; exact h.way v v0 v1
  · rw [g1 s hs.1, if_neg (fun hh => hbs hh.symm)]; exact h.start
  · rw [g1 v v0]
    by_cases ev : v = b
    · rw [if_pos ev]; exact hub.2
    · rw [if_neg ev]
      have := h.bound v v0 v1
      omega
  · have hlt : b.toNat < d.length := by omega
    have hsz := size_set (gi d a + wt g e) d b.toNat hlt
    have hv : d[b.toNat] = gi d b := by rw [gi_get (by omega)]
    rw [hv] at hsz
    have h1 : far (gi d a + wt g e) = (gi d a + wt g e).toNat := by rw [far, if_neg (by omega)]
    have h2 : (gi d a + wt g e).toNat < far (gi d b) := by
      unfold far
      split
      · omega
      · omega
    omega
theorem binv_first {g : Graph} (hf : Fit g) {down : List Bool} {s : Int} (hs : 0 ≤ s ∧ s < g.nodes) : BInv g down s ((List.replicate g.nodes.toNat (-1)).set s.toNat 0) := by
  have n1 := hf.n1
  have g0 : ∀ v : Int, 0 ≤ v → v < g.nodes → gi (List.replicate g.nodes.toNat (-1)) v = -1 := fun v v0 v1 => gi_replicate _ _ _ v0 (by omega)
  have g1 : ∀ v : Int, 0 ≤ v → gi ((List.replicate g.nodes.toNat (-1)).set s.toNat 0) v = if v = s then 0 else gi (List.replicate g.nodes.toNat (-1)) v := fun v v0 => gi_set hs.1 (by simp; omega) v0
  have hu := unset_set hs.1 (by simp; omega) (g0 s hs.1 hs.2) (show (0 : Int) ≤ 0 by omega)
  have hu0 : unset (List.replicate g.nodes.toNat (-1)) = g.nodes.toNat := by simp [unset]
  refine ⟨by simp; omega, fun v v0 v1 => ?_, by rw [g1 s hs.1, if_pos rfl], fun v v0 v1 => ?_⟩
  · rw [g1 v v0]
    by_cases e : v = s
    · rw [if_pos e, e]; exact .inr ⟨by omega, .nil⟩
    · rw [if_neg e]; exact .inl (g0 v v0 v1)
  · rw [g1 v v0]
    split
    · omega
    · rw [g0 v v0 v1]; omega
end Go.Proofs.Ytkephdahbplhfaa
