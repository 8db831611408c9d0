import Derived.Test.YtkephdahbplhfaaAbsZ
set_option linter.unusedSimpArgs false
set_option linter.unusedVariables false
/- Heaps of pairs, as lists: what coming up and going down does to them. -/
namespace Go.Proofs.Ytkephdahbplhfaa
open Go Abs

abbrev Pr := Int × Int
instance : Enc Pr where
  sz := 2
  cells p := [iv p.1, iv p.2]
  len _ := rfl
  pos := by decide
theorem Pr.sz_eq : Enc.sz Pr = 2 := rfl
def pr (p : Pr) : AV := .agg [iv p.1, iv p.2]
def ah (p q : Pr) : Prop := p.1 < q.1 ∨ p.1 = q.1 ∧ p.2 < q.2
instance (p q : Pr) : Decidable (ah p q) := inferInstanceAs (Decidable (_ ∨ _))
theorem ah_irr (p : Pr) : ¬ ah p p := by unfold ah; omega
theorem ah_asymm {p q : Pr} (h : ah p q) : ¬ ah q p := by unfold ah at *; omega
theorem ah_trans {p q r : Pr} (h : ah p q) (k : ah q r) : ah p r := by unfold ah at *; omega
theorem nah_trans {p q r : Pr} (h : ¬ ah p q) (k : ¬ ah q r) : ¬ ah p r := by unfold ah at *; omega
theorem nah_of_ah {p q : Pr} (h : ah p q) : ¬ ah q p := ah_asymm h

def IsHeap (l : List Pr) : Prop := ∀ k : Int, 0 < k → k < l.length → ¬ ah (gi l k) (gi l ((k - 1) / 2))
/-- a heap but at i, which may go up -/
def UpAt (l : List Pr) (i : Int) : Prop := (∀ k : Int, 0 < k → k < l.length → k ≠ i → ¬ ah (gi l k) (gi l ((k - 1) / 2))) ∧ (0 < i → ∀ k : Int, 0 < k → k < l.length → (k - 1) / 2 = i → ¬ ah (gi l k) (gi l ((i - 1) / 2)))
/-- a heap but below i, which may go down -/
def DownAt (l : List Pr) (i : Int) : Prop := (∀ k : Int, 0 < k → k < l.length → (k - 1) / 2 ≠ i → ¬ ah (gi l k) (gi l ((k - 1) / 2))) ∧ (0 < i → ∀ k : Int, 0 < k → k < l.length → (k - 1) / 2 = i → ¬ ah (gi l k) (gi l ((i - 1) / 2)))
def swapL (l : List Pr) (i j : Int) : List Pr := (l.set i.toNat (gi l j)).set j.toNat (gi l i)
theorem swapL_length (l : List Pr) (i j : Int) : (swapL l i j).length = l.length := by simp [swapL]
theorem gi_swapL {l : List Pr} {i j k : Int} (i0 : 0 ≤ i) (i1 : i < l.length) (j0 : 0 ≤ j) (j1 : j < l.length) (k0 : 0 ≤ k) : gi (swapL l i j) k = if k = j then gi l i else if k = i then gi l j else gi l k := by
  unfold swapL
  rw [gi_set j0 (by simp; omega) k0, gi_set i0 i1 k0]
theorem swapL_perm {l : List Pr} {i j : Int} (i0 : 0 ≤ i) (i1 : i < l.length) (j0 : 0 ≤ j) (j1 : j < l.length) : (swapL l i j).Perm l := by
  unfold swapL
  rw [gi_get (l := l) (i := j) (by omega), gi_get (l := l) (i := i) (by omega)]
  exact List.set_set_perm (by omega) (by omega)

theorem up_end {l : List Pr} {i : Int} (h : UpAt l i) (he : i ≤ 0 ∨ ¬ ah (gi l i) (gi l ((i - 1) / 2))) : IsHeap l := by
  intro k k0 k1
  by_cases e : k = i
  · subst e
    rcases he with he | he
    · omega
    · exact he
  · exact h.1 k k0 k1 e
theorem up_step {l : List Pr} {i : Int} (h : UpAt l i) (i0 : 0 < i) (i1 : i < l.length) (ha : ah (gi l i) (gi l ((i - 1) / 2))) : UpAt (swapL l i ((i - 1) / 2)) ((i - 1) / 2) := by
  obtain ⟨u, hu⟩ : ∃ u, u = (i - 1) / 2 := ⟨_, rfl⟩
  rw [← hu] at ha ⊢
  have g : ∀ k : Int, 0 ≤ k → gi (swapL l i u) k = if k = u then gi l i else if k = i then gi l u else gi l k := fun k k0 => gi_swapL (by omega) i1 (by omega) (by omega) k0
  refine ⟨fun k k0 k1 hk => ?_, fun hu0 k k0 k1 hk => ?_⟩
  · rw [swapL_length] at k1
    rw [g k (by omega), g _ (by omega), if_neg hk]
    by_cases e : k = i
    · subst e
      rw [if_pos rfl, if_pos hu.symm]
      exact ah_asymm ha
    · rw [if_neg e]
      by_cases e2 : (k - 1) / 2 = u
      · rw [if_pos e2]
        have := h.1 k k0 k1 e
        rw [e2] at this
        exact fun hh => this (ah_trans hh ha)
      · rw [if_neg e2]
        by_cases e3 : (k - 1) / 2 = i
        · rw [if_pos e3]
          have := h.2 i0 k k0 k1 e3
          rwa [← hu] at this
        · rw [if_neg e3]
          exact h.1 k k0 k1 e
  · rw [swapL_length] at k1
    rw [g k (by omega), g _ (by omega)]
    have hup := h.1 u (by omega) (by omega) (by omega)
    rw [if_neg (show ¬ k = u by omega), if_neg (show ¬ (u - 1) / 2 = u by omega), if_neg (show ¬ (u - 1) / 2 = i by omega)]
    by_cases e : k = i
    · rw [if_pos e]; exact hup
    · rw [if_neg e]
      have := h.1 k k0 k1 e
      rw [hk] at this
      exact nah_trans this hup

/-- which of a place and the two below it comes first -/
def leastOf (l : List Pr) (i : Int) : Int :=
  let b1 := if 2 * i + 1 < l.length ∧ ah (gi l (2 * i + 1)) (gi l i) then 2 * i + 1 else i
  if 2 * i + 2 < l.length ∧ ah (gi l (2 * i + 2)) (gi l b1) then 2 * i + 2 else b1
theorem leastOf_spec (l : List Pr) (i : Int) (i0 : 0 ≤ i) (i1 : i < l.length) :
    (leastOf l i = i ∨ ((leastOf l i - 1) / 2 = i ∧ leastOf l i < l.length ∧ 0 < leastOf l i ∧ ah (gi l (leastOf l i)) (gi l i))) ∧ ∀ k : Int, 0 < k → k < l.length → (k - 1) / 2 = i → ¬ ah (gi l k) (gi l (leastOf l i)) := by
  unfold leastOf
  simp only
  by_cases h1 : 2 * i + 1 < l.length ∧ ah (gi l (2 * i + 1)) (gi l i)
  · rw [if_pos h1]
    by_cases h2 : 2 * i + 2 < l.length ∧ ah (gi l (2 * i + 2)) (gi l (2 * i + 1))
    · rw [if_pos h2]
      refine ⟨.inr ⟨by omega, h2.1, by omega, ah_trans h2.2 h1.2⟩, fun k k0 k1 hk => ?_⟩
      rcases (show k = 2 * i + 1 ∨ k = 2 * i + 2 by omega) with rfl | rfl
      · exact ah_asymm h2.2
      · exact ah_irr _
    · rw [if_neg h2]
      refine ⟨.inr ⟨by omega, h1.1, by omega, h1.2⟩, fun k k0 k1 hk => ?_⟩
      rcases (show k = 2 * i + 1 ∨ k = 2 * i + 2 by omega) with rfl | rfl
      · exact ah_irr _
      · exact fun hh => h2 ⟨k1, hh⟩
  · rw [if_neg h1]
    by_cases h2 : 2 * i + 2 < l.length ∧ ah (gi l (2 * i + 2)) (gi l i)
    · rw [if_pos h2]
      refine ⟨.inr ⟨by omega, h2.1, by omega, h2.2⟩, fun k k0 k1 hk => ?_⟩
      rcases (show k = 2 * i + 1 ∨ k = 2 * i + 2 by omega) with rfl | rfl
      · have : ¬ ah (gi l (2 * i + 1)) (gi l i) := fun hh => h1 ⟨k1, hh⟩
        exact fun hh => this (ah_trans hh h2.2)
      · exact ah_irr _
    · rw [if_neg h2]
      refine ⟨.inl rfl, fun k k0 k1 hk => ?_⟩
      rcases (show k = 2 * i + 1 ∨ k = 2 * i + 2 by omega) with rfl | rfl
      · exact fun hh => h1 ⟨k1, hh⟩
      · exact fun hh => h2 ⟨k1, hh⟩
theorem down_end {l : List Pr} {i : Int} (h : DownAt l i) (i0 : 0 ≤ i) (he : (l.length : Int) ≤ i ∨ leastOf l i = i) : IsHeap l := by
  intro k k0 k1
  by_cases e : (k - 1) / 2 = i
  · rcases he with he | he
    · omega
    · have := (leastOf_spec l i i0 (by omega)).2 k k0 k1 e
      rw [he] at this
      rwa [e]
  · exact h.1 k k0 k1 e
theorem down_step {l : List Pr} {i : Int} (h : DownAt l i) (i0 : 0 ≤ i) (i1 : i < l.length) (hn : leastOf l i ≠ i) : DownAt (swapL l i (leastOf l i)) (leastOf l i) ∧ (leastOf l i - 1) / 2 = i ∧ leastOf l i < l.length ∧ 0 < leastOf l i := by
  obtain ⟨h1, h2⟩ := leastOf_spec l i i0 i1
  obtain ⟨j, hj⟩ : ∃ j, j = leastOf l i := ⟨_, rfl⟩
  rw [← hj] at h1 h2 hn ⊢
  rcases h1 with h1 | ⟨j1, j2, j3, j4⟩
  · exact absurd h1 hn
  refine ⟨?_, j1, j2, j3⟩
  have g : ∀ k : Int, 0 ≤ k → gi (swapL l i j) k = if k = j then gi l i else if k = i then gi l j else gi l k := fun k k0 => gi_swapL i0 i1 (by omega) j2 k0
  refine ⟨fun k k0 k1 hk => ?_, fun _ k k0 k1 hk => ?_⟩
  · rw [swapL_length] at k1
    rw [g k (by omega), g _ (by omega)]
    rw [if_neg hk]
    by_cases e : k = j
    · subst e
      rw [if_pos rfl, if_pos j1]
      exact ah_asymm j4
    · rw [if_neg e]
      by_cases e2 : k = i
      · subst e2
        rw [if_pos rfl, if_neg (by omega)]
        have := h.2 k0 j j3 j2 j1
        exact this
      · rw [if_neg e2]
        by_cases e3 : (k - 1) / 2 = i
        · rw [if_pos e3]
          exact h2 k k0 k1 e3
        · rw [if_neg e3]
          exact h.1 k k0 k1 e3
  · rw [swapL_length] at k1
    rw [g k (by omega), g _ (by omega), j1, if_neg (show ¬ k = j by omega), if_neg (show ¬ k = i by omega), if_neg (show ¬ i = j by omega), if_pos rfl]
    have := h.1 k k0 k1 (by omega)
    rwa [hk] at this
theorem heap_min {l : List Pr} (h : IsHeap l) : ∀ q ∈ l, ¬ ah q (gi l 0) := by
  have key : ∀ n : Nat, n < l.length → ¬ ah (gi l (n : Int)) (gi l 0) := by
    intro n
    induction n using Nat.strongRecOn with
    | _ n ih =>
      intro hn
      by_cases e : n = 0
      · subst e; exact ah_irr _
      · have h1 := h (n : Int) (by omega) (by omega)
        have h2 := ih ((((n : Int) - 1) / 2).toNat) (by omega) (by omega)
        rw [Int.toNat_of_nonneg (by omega)] at h2
        exact nah_trans h1 h2
  intro q hq
  obtain ⟨n, hn, rfl⟩ := List.getElem_of_mem hq
  have := key n hn
  rwa [gi_get (by omega), show l[((n : Nat) : Int).toNat] = l[n] by simp] at this
theorem leastOf_out (l : List Pr) (i : Int) (h : (l.length : Int) ≤ 2 * i + 1) : leastOf l i = i := by
  unfold leastOf
  simp only
  rw [if_neg fun hx => by omega, if_neg fun hx => by omega]
theorem pop_perm (l : List Pr) (h : 0 < l.length) : l.Perm (gi l 0 :: (l.set 0 (gi l (l.length - 1))).take (l.length - 1)) := by
  match l with
  | [] => simp at h
  | [a] => simp [gi]
  | a :: b :: t =>
    have e1 : gi (a :: b :: t) 0 = a := rfl
    have e2 : gi (a :: b :: t) (((a :: b :: t).length : Int) - 1) = (b :: t).getLast (by simp) := by
      rw [gi_get (by simp), List.getLast_eq_getElem]
      simp
    rw [e1, e2]
    refine List.Perm.cons a ?_
    have e3 : ((a :: b :: t).set 0 ((b :: t).getLast (by simp))).take ((a :: b :: t).length - 1) = (b :: t).getLast (by simp) :: (b :: t).dropLast := by
      rw [List.set_cons_zero, show (a :: b :: t).length - 1 = t.length + 1 by simp, List.take_succ_cons, List.dropLast_eq_take]
      simp
    rw [e3]
    have := List.dropLast_concat_getLast (l := b :: t) (by simp)
    exact (List.Perm.of_eq this.symm).trans (List.perm_append_comm)
end Go.Proofs.Ytkephdahbplhfaa
