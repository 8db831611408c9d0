import Derived.Test.YtkephdahbplhfaaH1
import Derived.Test.YtkephdahbplhfaaGP
set_option linter.unusedSimpArgs false
set_option linter.unusedVariables false
/- Shortest ways, as lists: what a list of lengths must be, and what the search from the nearest on does. -/
namespace Go.Proofs.Ytkephdahbplhfaa
open Go Abs

/-- is an edge's link there? -/
def upE (down : List Bool) (e : Int) : Bool := !(decide (e / 2 < down.length) && gi down (e / 2))
def wt (g : Graph) (e : Int) : Int := (gi g.links (e / 2)).metric
inductive Walk (g : Graph) (down : List Bool) (s : Int) : Int → Int → Prop
  | nil : Walk g down s s 0
  | step {a L e : Int} : Walk g down s a L → 0 ≤ e → e < 2 * g.links.length → upE down e = true → (ends g e).1 = a → Walk g down s (ends g e).2.1 (L + wt g e)

/-- what every graph that may be has -/
structure Fit (g : Graph) : Prop where
  ok : (check g).2 = 0
  few : g.links.length ≤ 120
  n1 : 1 ≤ g.nodes
  n2 : g.nodes ≤ 40
  w : ∀ e : Int, 0 ≤ e → e < 2 * g.links.length → 1 ≤ wt g e ∧ wt g e ≤ 16777216
  b : ∀ e : Int, 0 ≤ e → e < 2 * g.links.length → (0 ≤ (ends g e).1 ∧ (ends g e).1 < g.nodes) ∧ (0 ≤ (ends g e).2.1 ∧ (ends g e).2.1 < g.nodes)
theorem fit_of (g : Graph) (h : (check g).2 = 0) : Fit g := by
  obtain ⟨c1, c2, c3, c4⟩ := check_ok g h
  have hl : ∀ x ∈ g.links, linkErr g x = 0 := by
    have h' := h
    rw [check] at h'
    split at h'
    · simp at h'
    split at h'
    · simp at h'
    exact checkFrom_ok g _ _ h'
  have hm : ∀ e : Int, 0 ≤ e → e < 2 * g.links.length → gi g.links (e / 2) ∈ g.links := fun e h0 h1 => gi_mem (by omega) (by omega)
  refine ⟨h, c1, c2, c3, fun e h0 h1 => ?_, fun e h0 h1 => ⟨ends_in g h e h0 h1, ?_⟩⟩
  · have := hl _ (hm e h0 h1)
    rw [linkErr] at this
    split at this
    · omega
    split at this
    · omega
    · unfold wt; omega
  · have := c4 _ (hm e h0 h1)
    unfold ends
    rw [if_neg (by omega)]
    split
    · exact this.1
    · exact this.2
theorem Walk.nonneg {g : Graph} (hf : Fit g) {down : List Bool} {s v L : Int} (h : Walk g down s v L) : 0 ≤ L := by
  induction h with
  | nil => omega
  | step _ h0 h1 _ _ ih => have := (hf.w _ h0 h1).1; omega
theorem Walk.node {g : Graph} (hf : Fit g) {down : List Bool} {s v L : Int} (hs : 0 ≤ s ∧ s < g.nodes) (h : Walk g down s v L) : 0 ≤ v ∧ v < g.nodes := by
  induction h with
  | nil => exact hs
  | step _ h0 h1 _ _ _ => exact (hf.b _ h0 h1).2

/-- the lengths of the shortest ways -/
structure IsDist (g : Graph) (down : List Bool) (s : Int) (d : List Int) : Prop where
  len : (d.length : Int) = g.nodes
  neg : ∀ v : Int, 0 ≤ v → v < g.nodes → gi d v < 0 → gi d v = -1
  way : ∀ v : Int, 0 ≤ v → v < g.nodes → 0 ≤ gi d v → Walk g down s v (gi d v)
  least : ∀ v L : Int, Walk g down s v L → 0 ≤ gi d v ∧ gi d v ≤ L
theorem IsDist.unique {g : Graph} {down : List Bool} {s : Int} {d d' : List Int} (h : IsDist g down s d) (h' : IsDist g down s d') : d = d' := by
  apply List.ext_getElem
  · have := h.len; have := h'.len; omega
  intro i h1 h2
  have e1 : d[i] = gi d (i : Int) := by rw [gi_get (by omega)]; simp
  have e2 : d'[i] = gi d' (i : Int) := by rw [gi_get (by omega)]; simp
  rw [e1, e2]
  have hi : (i : Int) < g.nodes := by have := h.len; omega
  by_cases p : 0 ≤ gi d i
  · have a := h'.least _ _ (h.way i (by omega) hi p)
    have b := h.least _ _ (h'.way i (by omega) hi a.1)
    omega
  · by_cases q : 0 ≤ gi d' i
    · have b := h.least _ _ (h'.way i (by omega) hi q)
      omega
    · rw [h.neg i (by omega) hi (by omega), h'.neg i (by omega) hi (by omega)]
open Classical in
noncomputable def distL (g : Graph) (down : List Bool) (s : Int) : List Int := if h : ∃ d, IsDist g down s d then h.choose else []
theorem distL_eq {g : Graph} {down : List Bool} {s : Int} {d : List Int} (h : IsDist g down s d) : distL g down s = d := by
  have hx : ∃ d, IsDist g down s d := ⟨d, h⟩
  unfold distL
  rw [dif_pos hx]
  exact hx.choose_spec.unique h

/-! ### the search from the nearest on -/
def unset (d : List Int) : Nat := d.count (-1)
structure DInv (g : Graph) (down : List Bool) (s : Int) (d : List Int) (l : List Pr) : Prop where
  len : (d.length : Int) = g.nodes
  way : ∀ v : Int, 0 ≤ v → v < g.nodes → gi d v = -1 ∨ (0 ≤ gi d v ∧ Walk g down s v (gi d v))
  heap : ∀ p ∈ l, (0 ≤ p.2 ∧ p.2 < g.nodes) ∧ Walk g down s p.2 p.1
  least : ∀ v : Int, 0 ≤ v → v < g.nodes → 0 ≤ gi d v → ∀ L, Walk g down s v L → gi d v ≤ L
  start : 0 ≤ gi d s ∨ ∃ p ∈ l, p.2 = s ∧ p.1 ≤ 0
  key : ∀ p ∈ l, p.1 ≤ 16777216 * (g.nodes - unset d)
  size : l.length + unset d * 240 ≤ 1 + 40 * 240
/-- the edges of a node that is done are behind it -/
def Behind (g : Graph) (down : List Bool) (d : List Int) (l : List Pr) (e : Int) : Prop := upE down e = true → 0 ≤ gi d (ends g e).2.1 ∨ ∃ p ∈ l, p.2 = (ends g e).2.1 ∧ p.1 ≤ gi d (ends g e).1 + wt g e
def AllBehind (g : Graph) (down : List Bool) (d : List Int) (l : List Pr) : Prop := ∀ e : Int, 0 ≤ e → e < 2 * g.links.length → 0 ≤ gi d (ends g e).1 → Behind g down d l e

theorem front {g : Graph} (hf : Fit g) {down : List Bool} {s : Int} (hs : 0 ≤ s ∧ s < g.nodes) {d : List Int} {l : List Pr} (h : DInv g down s d l) (hb : AllBehind g down d l) {v L : Int} (hw : Walk g down s v L) : 0 ≤ gi d v ∨ ∃ p ∈ l, p.1 ≤ L := by
  induction hw with
  | nil =>
    rcases h.start with h1 | ⟨p, h1, h2, h3⟩
    · exact .inl h1
    · exact .inr ⟨p, h1, h3⟩
  | @step a L e hw h0 h1 hu ha ih =>
    have hwt := (hf.w e h0 h1).1
    rcases ih with ih | ⟨p, hp, hle⟩
    · have hn := Walk.node hf hs hw
      have hl := h.least a hn.1 hn.2 ih L hw
      rcases hb e h0 h1 (by rw [ha]; exact ih) hu with hh | ⟨p, hp, _, hle⟩
      · exact .inl hh
      · rw [ha] at hle
        exact .inr ⟨p, hp, by omega⟩
    · exact .inr ⟨p, hp, by omega⟩
/-- nothing is left: all lengths are told -/
theorem dinv_end {g : Graph} (hf : Fit g) {down : List Bool} {s : Int} (hs : 0 ≤ s ∧ s < g.nodes) {d : List Int} (h : DInv g down s d []) (hb : AllBehind g down d []) : IsDist g down s d := by
  refine ⟨h.len, fun v h0 h1 hn => ?_, fun v h0 h1 hp => ?_, fun v L hw => ?_⟩
  · rcases h.way v h0 h1 with hh | hh
    · exact hh
    · omega
  · rcases h.way v h0 h1 with hh | hh
    · omega
    · exact hh.2
  · have hn := Walk.node hf hs hw
    rcases front hf hs h hb hw with hh | ⟨p, hp, _⟩
    · exact ⟨hh, h.least v hn.1 hn.2 hh L hw⟩
    · cases hp
theorem unset_set {d : List Int} {k x : Int} (h0 : 0 ≤ k) (h1 : k < d.length) (hn : gi d k = -1) (hx : 0 ≤ x) : unset (d.set k.toNat x) + 1 = unset d := by
  unfold unset
  have hlt : k.toNat < d.length := by omega
  rw [List.count_set hlt]
  have hv : d[k.toNat] = -1 := by rw [← gi_get (by omega)]; exact hn
  have hpos : 0 < d.count (-1) := List.count_pos_iff.2 (by rw [← hv]; exact List.getElem_mem _)
  rw [hv]
  have : ¬ x = -1 := by omega
  simp [this]
  omega
theorem perm_cases {l l' : List Pr} {p : Pr} (h : l.Perm (p :: l')) {q : Pr} (hq : q ∈ l) : q = p ∨ q ∈ l' := by
  have := h.mem_iff.1 hq
  simpa using this
/-- a node that was come to before is left d -/
theorem dinv_skip {g : Graph} (hf : Fit g) {down : List Bool} {s : Int} {d : List Int} {l l' : List Pr} {p : Pr} (hp : l.Perm (p :: l')) (h : DInv g down s d l) (hb : AllBehind g down d l) (hd : gi d p.2 ≠ -1) : DInv g down s d l' ∧ AllBehind g down d l' := by
  have hm : ∀ q ∈ l', q ∈ l := fun q hq => hp.mem_iff.2 (by simp [hq])
  have hpl : p ∈ l := hp.mem_iff.2 (by simp)
  have hpo : 0 ≤ gi d p.2 := by
    rcases h.way p.2 (h.heap p hpl).1.1 (h.heap p hpl).1.2 with hh | hh
    · exact absurd hh hd
    · exact hh.1
  refine ⟨⟨h.len, h.way, fun q hq => h.heap q (hm q hq), h.least, ?_, fun q hq => h.key q (hm q hq), ?_⟩, fun e h0 h1 ha hu => ?_⟩
  · rcases h.start with hh | ⟨q, hq, h2, h3⟩
    · exact .inl hh
    · rcases perm_cases hp hq with rfl | hq
      · exact .inl (by rw [← h2]; exact hpo)
      · exact .inr ⟨q, hq, h2, h3⟩
  · have := h.size
    have := hp.length_eq
    simp at this
    omega
  · rcases hb e h0 h1 ha hu with hh | ⟨q, hq, h2, h3⟩
    · exact .inl hh
    · rcases perm_cases hp hq with rfl | hq
      · exact .inl (by rw [← h2]; exact hpo)
      · exact .inr ⟨q, hq, h2, h3⟩
/-- while the edges of one node are being looked at: those of the first k of its edges are behind -/
structure DMid (g : Graph) (down : List Bool) (s at_ : Int) (d : List Int) (l : List Pr) (k : Nat) : Prop where
  inv : DInv g down s d l
  room : l.length + unset d * 240 + 240 ≤ 1 + 40 * 240 + k
  node : 0 ≤ at_ ∧ at_ < g.nodes
  done : 0 ≤ gi d at_
  keyat : gi d at_ + 16777216 ≤ 16777216 * (g.nodes - unset d)
  old : ∀ e : Int, 0 ≤ e → e < 2 * g.links.length → 0 ≤ gi d (ends g e).1 → ((ends g e).1 ≠ at_ ∨ e ∈ (out g at_).take k) → Behind g down d l e

theorem dmid_start {g : Graph} (hf : Fit g) {down : List Bool} {s : Int} (hs : 0 ≤ s ∧ s < g.nodes) {d : List Int} {l l' : List Pr} {p : Pr} (hp : l.Perm (p :: l')) (hmin : ∀ q ∈ l, ¬ ah q p) (h : DInv g down s d l) (hb : AllBehind g down d l) (hd : gi d p.2 = -1) :
    DMid g down s p.2 (d.set p.2.toNat p.1) l' 0 := by
  have hm : ∀ q ∈ l', q ∈ l := fun q hq => hp.mem_iff.2 (by simp [hq])
  have hpl : p ∈ l := hp.mem_iff.2 (by simp)
  obtain ⟨⟨n0, n1⟩, hw⟩ := h.heap p hpl
  have hlen := h.len
  have hp0 : 0 ≤ p.1 := hw.nonneg hf
  have g1 : ∀ v : Int, 0 ≤ v → gi (d.set p.2.toNat p.1) v = if v = p.2 then p.1 else gi d v := fun v v0 => gi_set n0 (by omega) v0
  have hu := unset_set n0 (by omega) hd hp0
  have hll := hp.length_eq
  simp only [List.length_cons] at hll
  have hsz := h.size
  have hk := h.key p hpl
  have up : ∀ v : Int, 0 ≤ v → 0 ≤ gi d v → 0 ≤ gi (d.set p.2.toNat p.1) v := by
    intro v v0 hv
    rw [g1 v v0]
    split
    · exact hp0
    · exact hv
  refine ⟨⟨by simpa using hlen, fun v v0 v1 => ?_, fun q hq => h.heap q (hm q hq), fun v v0 v1 hv L hL => ?_, ?_, fun q hq => ?_, by omega⟩, by omega, ⟨n0, n1⟩, ?_, ?_, fun e e0 e1 he hor => ?_⟩
  · rw [g1 v v0]
    by_cases e : v = p.2
    · rw [if_pos e, e]; exact .inr ⟨hp0, hw⟩
    · rw [if_neg e]; exact h.way v v0 v1
  · rw [g1 v v0] at hv ⊢
    by_cases e : v = p.2
    · rw [if_pos e]
      subst e
      rcases front hf hs h hb hL with hh | ⟨q, hq, hle⟩
      · omega
      · have := hmin q hq
        unfold ah at this
        omega
    · rw [if_neg e] at hv ⊢
      exact h.least v v0 v1 hv L hL
  · rcases h.start with hh | ⟨q, hq, h2, h3⟩
    · exact .inl (up s hs.1 hh)
    · rcases perm_cases hp hq with rfl | hq
      · exact .inl (by rw [← h2, g1 _ n0, if_pos rfl]; exact hp0)
      · exact .inr ⟨q, hq, h2, h3⟩
  · have := h.key q (hm q hq)
    omega
  · rw [g1 _ n0, if_pos rfl]; exact hp0
  · rw [g1 _ n0, if_pos rfl]; omega
  · rcases hor with hor | hor
    · have hbn := hf.b e e0 e1
      rw [g1 _ hbn.1.1, if_neg hor] at he
      intro hup
      rcases hb e e0 e1 he hup with hh | ⟨q, hq, h2, h3⟩
      · exact .inl (up _ hbn.2.1 hh)
      · rcases perm_cases hp hq with rfl | hq
        · exact .inl (by rw [← h2, g1 _ n0, if_pos rfl]; exact hp0)
        · exact .inr ⟨q, hq, h2, by rw [g1 _ hbn.1.1, if_neg hor]; exact h3⟩
    · simp at hor
theorem take_succ_mem {l : List Int} {k : Nat} (hk : k < l.length) {e : Int} (he : e ∈ l.take (k + 1)) : e ∈ l.take k ∨ e = gi l k := by
  rw [List.take_succ_eq_append_getElem hk] at he
  rcases List.mem_append.1 he with he | he
  · exact .inl he
  · right
    rw [gi_get (by omega)]
    simpa using he
/-- an edge that leads on: what it leads to is put into the heap -/
theorem dmid_push {g : Graph} (hf : Fit g) {down : List Bool} {s at_ : Int} {d : List Int} {l l' : List Pr} {k : Nat} (h : DMid g down s at_ d l k) (hk : k < (out g at_).length) (hu : upE down (gi (out g at_) k) = true)
    (hp : l'.Perm ((gi d at_ + wt g (gi (out g at_) k), (ends g (gi (out g at_) k)).2.1) :: l)) : DMid g down s at_ d l' (k + 1) := by
  obtain ⟨e, he⟩ : ∃ e, e = gi (out g at_) k := ⟨_, rfl⟩
  rw [← he] at hu hp
  have hmem : e ∈ out g at_ := by rw [he]; exact gi_mem (by omega) (by omega)
  obtain ⟨e0, e1, e2⟩ := (out_mem g e at_).1 hmem
  have hbn := hf.b e e0 e1
  have hwt := hf.w e e0 e1
  have hol := out_length g at_
  have hfew := hf.few
  have hll := hp.length_eq
  simp only [List.length_cons] at hll
  have hm : ∀ q ∈ l, q ∈ l' := fun q hq => hp.mem_iff.2 (by simp [hq])
  have hx : (gi d at_ + wt g e, (ends g e).2.1) ∈ l' := hp.mem_iff.2 (by simp)
  have hi := h.inv
  have hway : Walk g down s at_ (gi d at_) := by
    rcases hi.way at_ h.node.1 h.node.2 with hh | hh
    · have := h.done; omega
    · exact hh.2
  have hroom := h.room
  have hka := h.keyat
  refine ⟨⟨hi.len, hi.way, fun q hq => ?_, hi.least, ?_, fun q hq => ?_, by omega⟩, by omega, h.node, h.done, h.keyat, fun e' a0 a1 a2 hor => ?_⟩
  · rcases perm_cases hp hq with rfl | hq
    · exact ⟨hbn.2, .step hway e0 e1 hu e2⟩
    · exact hi.heap q hq
  · rcases hi.start with hh | ⟨q, hq, h2, h3⟩
    · exact .inl hh
    · exact .inr ⟨q, hm q hq, h2, h3⟩
  · rcases perm_cases hp hq with rfl | hq
    · dsimp only; omega
    · exact hi.key q hq
  · have old : Behind g down d l e' → Behind g down d l' e' := by
      intro hh hup
      rcases hh hup with hh | ⟨q, hq, h2, h3⟩
      · exact .inl hh
      · exact .inr ⟨q, hm q hq, h2, h3⟩
    rcases hor with hor | hor
    · exact old (h.old e' a0 a1 a2 (.inl hor))
    · rcases take_succ_mem hk hor with hor | rfl
      · exact old (h.old e' a0 a1 a2 (.inr hor))
      · rw [← he]
        intro _
        refine .inr ⟨_, hx, rfl, ?_⟩
        rw [e2]
        exact Int.le_refl _
/-- an edge that is down, or leads to what is done -/
theorem dmid_skip {g : Graph} {down : List Bool} {s at_ : Int} {d : List Int} {l : List Pr} {k : Nat} (h : DMid g down s at_ d l k) (hk : k < (out g at_).length) (hu : upE down (gi (out g at_) k) = true → 0 ≤ gi d (ends g (gi (out g at_) k)).2.1) : DMid g down s at_ d l (k + 1) := by
  have hroom := h.room
  refine ⟨h.inv, by omega, h.node, h.done, h.keyat, fun e' a0 a1 a2 hor => ?_⟩
  rcases hor with hor | hor
  · exact h.old e' a0 a1 a2 (.inl hor)
  · rcases take_succ_mem hk hor with hor | rfl
    · exact h.old e' a0 a1 a2 (.inr hor)
    · exact fun hup => .inl (hu hup)
theorem dmid_end {g : Graph} {down : List Bool} {s at_ : Int} {d : List Int} {l : List Pr} {k : Nat} (h : DMid g down s at_ d l k) (hk : (out g at_).length ≤ k) : DInv g down s d l ∧ AllBehind g down d l := by
  refine ⟨h.inv, fun e e0 e1 ha => h.old e e0 e1 ha ?_⟩
  by_cases hh : (ends g e).1 = at_
  · right
    rw [List.take_of_length_le hk]
    exact (out_mem g e at_).2 ⟨e0, e1, hh⟩
  · exact .inl hh
theorem gi_replicate (n : Nat) (x v : Int) (h0 : 0 ≤ v) (h1 : v < n) : gi (List.replicate n x) v = x := by
  rw [gi_get (by simp; omega)]; simp
/-- the beginning -/
theorem dinv_first {g : Graph} (hf : Fit g) {down : List Bool} {s : Int} (hs : 0 ≤ s ∧ s < g.nodes) : DInv g down s (List.replicate g.nodes.toNat (-1)) [(0, s)] ∧ AllBehind g down (List.replicate g.nodes.toNat (-1)) [(0, s)] := by
  have n2 := hf.n2
  have n1 := hf.n1
  have g1 : ∀ v : Int, 0 ≤ v → v < g.nodes → gi (List.replicate g.nodes.toNat (-1)) v = -1 := fun v v0 v1 => gi_replicate _ _ _ v0 (by omega)
  have hu : unset (List.replicate g.nodes.toNat (-1)) = g.nodes.toNat := by simp [unset]
  refine ⟨⟨by simp; omega, fun v v0 v1 => .inl (g1 v v0 v1), fun q hq => ?_, fun v v0 v1 hv => by rw [g1 v v0 v1] at hv; omega, .inr ⟨(0, s), by simp, rfl, by simp⟩, fun q hq => ?_, ?_⟩, fun e e0 e1 ha => ?_⟩
  · simp only [List.mem_singleton] at hq
    subst hq
    exact ⟨hs, .nil⟩
  · simp only [List.mem_singleton] at hq
    subst hq
    rw [hu]
    dsimp only
    omega
  · rw [hu]
    simp only [List.length_cons, List.length_nil]
    omega
  · rw [g1 _ (hf.b e e0 e1).1.1 (hf.b e e0 e1).1.2] at ha
    omega
theorem dinv_perm {g : Graph} {down : List Bool} {s : Int} {d : List Int} {l l' : List Pr} (h : DInv g down s d l ∧ AllBehind g down d l) (hp : l'.Perm l) : DInv g down s d l' ∧ AllBehind g down d l' := by
  obtain ⟨h, hb⟩ := h
  have hm : ∀ q, q ∈ l' ↔ q ∈ l := fun q => hp.mem_iff
  refine ⟨⟨h.len, h.way, fun q hq => h.heap q ((hm q).1 hq), h.least, ?_, fun q hq => h.key q ((hm q).1 hq), by rw [hp.length_eq]; exact h.size⟩, fun e e0 e1 ha hu => ?_⟩
  · rcases h.start with hh | ⟨q, hq, h2, h3⟩
    · exact .inl hh
    · exact .inr ⟨q, (hm q).2 hq, h2, h3⟩
  · rcases hb e e0 e1 ha hu with hh | ⟨q, hq, h2, h3⟩
    · exact .inl hh
    · exact .inr ⟨q, (hm q).2 hq, h2, h3⟩
theorem nh_nil : IsHeap [] := fun k k0 k1 => by simp at k1; omega
end Go.Proofs.Ytkephdahbplhfaa
