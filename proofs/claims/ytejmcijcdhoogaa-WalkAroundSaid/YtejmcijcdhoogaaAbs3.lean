import Derived.Test.YtejmcijcdhoogaaAbs2
import Derived.Laws.Slices
namespace Go.Proofs.Ytejmcijcdhoogaa.Abs
open Go

/-! ### one step of the machine, as the tags see it -/
structure Step (c : Cx) (w : World) (c' : Cx) (w' : World) : Prop where
  os : w'.os = w.os
  tape : w'.tape = w.tape
  output : w'.output = w.output
  size : w.heap.size ≤ w'.heap.size
  blk : ∀ b, b < w.heap.size → c.ow b = .free ∨ c.ow b = .imm → w'.heap[b]? = w.heap[b]?
  tag : ∀ b, b < w.heap.size → (c.ow b = .free → c'.ow b = .free) ∧ (c.ow b = .imm → c'.ow b = .imm)

theorem Step.refl (c : Cx) (w : World) : Step c w c w := ⟨rfl, rfl, rfl, Nat.le_refl _, fun _ _ _ => rfl, fun _ _ => ⟨id, id⟩⟩
theorem Step.trans {c c' c'' : Cx} {w w' w'' : World} (h : Step c w c' w') (k : Step c' w' c'' w'') : Step c w c'' w'' where
  os := k.os.trans h.os
  tape := k.tape.trans h.tape
  output := k.output.trans h.output
  size := Nat.le_trans h.size k.size
  blk b hb ht := by
    rw [k.blk b (Nat.lt_of_lt_of_le hb h.size) ?_, h.blk b hb ht]
    rcases ht with ht | ht
    · exact .inl ((h.tag b hb).1 ht)
    · exact .inr ((h.tag b hb).2 ht)
  tag b hb := ⟨fun ht => (k.tag b (Nat.lt_of_lt_of_le hb h.size)).1 ((h.tag b hb).1 ht), fun ht => (k.tag b (Nat.lt_of_lt_of_le hb h.size)).2 ((h.tag b hb).2 ht)⟩
theorem Step.keep {c c' : Cx} {w w' : World} (h : Step c w c' w') (hlt : ∀ b, c.ow b ≠ .free → b < w.heap.size) : Keep c.I c'.I w w' := by
  intro b hb
  have hb' : c.ow b = .imm := hb
  have hl : b < w.heap.size := hlt b (by rw [hb']; simp)
  exact ⟨(h.tag b hl).2 hb', h.blk b hl (.inr hb')⟩

/-- what grows: nothing of what is owned turns -/
structure Grow (c : Cx) (w : World) (c' : Cx) (w' : World) : Prop where
  step : Step c w c' w'
  β : c'.β = c.β
  ν : c'.ν = c.ν
  old : ∀ b, c.ow b ≠ .free → c'.ow b = c.ow b ∧ w'.heap[b]? = w.heap[b]?
  lt : ∀ b, c'.ow b ≠ .free → b < w'.heap.size

theorem Grow.refl (c : Cx) (w : World) (hlt : ∀ b, c.ow b ≠ .free → b < w.heap.size) : Grow c w c w := ⟨Step.refl c w, rfl, rfl, fun _ _ => ⟨rfl, rfl⟩, hlt⟩
theorem Grow.trans {c c' c'' : Cx} {w w' w'' : World} (h : Grow c w c' w') (k : Grow c' w' c'' w'') : Grow c w c'' w'' where
  step := h.step.trans k.step
  β := k.β.trans h.β
  ν := k.ν.trans h.ν
  old b hb := by
    obtain ⟨h1, h2⟩ := h.old b hb
    obtain ⟨k1, k2⟩ := k.old b (by rw [h1]; exact hb)
    exact ⟨k1.trans h1, k2.trans h2⟩
  lt := k.lt
theorem Grow.keep {c c' : Cx} {w w' : World} (h : Grow c w c' w') : Keep c.I c'.I w w' := by
  intro b hb
  have hb' : c.ow b = .imm := hb
  obtain ⟨h1, h2⟩ := h.old b (by rw [hb']; simp)
  exact ⟨h1.trans hb', h2⟩
theorem Grow.mrel {c c' : Cx} {w w' : World} {L : List (Nat × LObj)} {H : AHeap} (h : Grow c w c' w') (m : MRel c L H w) : MRel c' L H w' :=
  m.upd h.keep h.lt (fun d o ho => .inr ⟨ho, by rw [h.β], by rw [h.ν], fun b hb => by
    obtain ⟨h1, h2⟩ := h.old b (by rw [hb]; simp)
    exact ⟨h1.trans hb, h2⟩⟩) (fun b o ho => .inr ⟨ho, fun hb => by
    obtain ⟨h1, h2⟩ := h.old b (by rw [hb]; simp)
    exact ⟨h1.trans hb, h2⟩⟩)
theorem Grow.erel {c c' : Cx} {w w' : World} {env : List (Nat × SV)} {t : Array Value} (h : Grow c w c' w') (e : ERel c w env t) : ERel c' w' env t := e.same h.keep h.β h.ν
theorem Grow.rs {c c' : Cx} {w w' : World} (h : Grow c w c' w') {s : SV} {v : Value} (e : RS c w s v) : RS c' w' s v := e.keep h.keep fun _ _ => by rw [h.β, h.ν]; exact ⟨rfl, rfl⟩

/-- a new immutable block -/
theorem Grow.imm {c : Cx} {w : World} (hlt : ∀ b, c.ow b ≠ .free → b < w.heap.size) (o : Obj) : Grow c w { c with ow := upd c.ow w.heap.size .imm } (w.alloc o) := by
  have hne : ∀ b, b < w.heap.size → upd c.ow w.heap.size .imm b = c.ow b := fun b hb => upd_ne _ _ (by omega)
  refine ⟨⟨rfl, rfl, rfl, by simp, fun b hb _ => heap_alloc_old w o b hb, fun b hb => ?_⟩, rfl, rfl, fun b hb => ?_, fun b hb => ?_⟩
  · simp only [hne b hb]; exact ⟨id, id⟩
  · exact ⟨hne b (hlt b hb), heap_alloc_old w o b (hlt b hb)⟩
  · by_cases e : w.heap.size = b
    · subst e; simp
    · have hb' : c.ow b ≠ .free := by
        have : upd c.ow w.heap.size Ow.imm b = c.ow b := upd_ne _ _ e
        rw [← this]; exact hb
      have := hlt b hb'
      simp; omega

/-! ### reading -/
theorem RL_length {I : Nat → Prop} {w : World} : ∀ {cs : List AV} {vs : List Value}, RL I w cs vs → vs.length = cs.length
  | [], vs, h => by simp only [RL] at h; simp [h]
  | c :: cs, vs, h => by
    simp only [RL] at h
    obtain ⟨u, us, rfl, _, h2⟩ := h
    simp [RL_length h2]
theorem RL_get {I : Nat → Prop} {w : World} : ∀ {cs : List AV} {vs : List Value} {j : Nat} {u : AV}, RL I w cs vs → cs[j]? = some u → ∃ v, vs[j]? = some v ∧ RV I w u v
  | [], _, _, _, _, h => by simp at h
  | c :: cs, vs, 0, u, h, hj => by
    simp only [RL] at h
    obtain ⟨v, us, rfl, h1, h2⟩ := h
    simp at hj; subst hj
    exact ⟨v, by simp, h1⟩
  | c :: cs, vs, j + 1, u, h, hj => by
    simp only [RL] at h
    obtain ⟨v, us, rfl, h1, h2⟩ := h
    obtain ⟨x, hx, hr⟩ := RL_get h2 (by simpa using hj)
    exact ⟨x, by simpa using hx, hr⟩
theorem RCells_get {I : Nat → Prop} {w : World} : ∀ {cs : List AV} {b s j : Nat} {u : AV}, RCells I w cs b s → cs[j]? = some u → ∃ v, w.cell? ⟨b, s + j, none⟩ = some v ∧ v.oneCell' = true ∧ RV I w u v
  | [], _, _, _, _, _, h => by simp at h
  | c :: cs, b, s, 0, u, h, hj => by
    simp only [RCells] at h
    simp at hj; subst hj
    obtain ⟨⟨v, h1, h2, h3⟩, _⟩ := h
    exact ⟨v, by simpa using h1, h2, h3⟩
  | c :: cs, b, s, j + 1, u, h, hj => by
    simp only [RCells] at h
    obtain ⟨x, hx, h1, hr⟩ := RCells_get h.2 (by simpa using hj)
    exact ⟨x, by rw [show s + (j + 1) = s + 1 + j by omega]; exact hx, h1, hr⟩
theorem RL_append {I : Nat → Prop} {w : World} : ∀ {cs ds : List AV} {vs us : List Value}, RL I w cs vs → RL I w ds us → RL I w (cs ++ ds) (vs ++ us)
  | [], _, vs, _, h, k => by simp only [RL] at h; subst h; simpa using k
  | c :: cs, ds, vs, us, h, k => by
    simp only [RL] at h
    obtain ⟨u, vs', rfl, h1, h2⟩ := h
    simp only [List.cons_append, RL]
    exact ⟨u, vs' ++ us, rfl, h1, RL_append h2 k⟩
theorem RL_drop {I : Nat → Prop} {w : World} : ∀ {cs : List AV} {vs : List Value} (n : Nat), RL I w cs vs → RL I w (cs.drop n) (vs.drop n)
  | _, _, 0, h => by simpa using h
  | [], vs, n + 1, h => by simp only [RL] at h; subst h; simp [RL]
  | c :: cs, vs, n + 1, h => by
    simp only [RL] at h
    obtain ⟨u, us, rfl, _, h2⟩ := h
    simpa using RL_drop n h2
theorem RL_take {I : Nat → Prop} {w : World} : ∀ {cs : List AV} {vs : List Value} (n : Nat), RL I w cs vs → RL I w (cs.take n) (vs.take n)
  | _, _, 0, _ => by simp [RL]
  | [], vs, n + 1, h => by simp only [RL] at h; subst h; simp [RL]
  | c :: cs, vs, n + 1, h => by
    simp only [RL] at h
    obtain ⟨u, us, rfl, h1, h2⟩ := h
    simp only [List.take_succ_cons, RL]
    exact ⟨u, us.take n, rfl, h1, RL_take n h2⟩
theorem RL_raw (I : Nat → Prop) (w : World) : ∀ (vs : List Value), RL I w (vs.map .raw) vs
  | [] => by simp [RL]
  | v :: vs => by simp only [List.map_cons, RL]; exact ⟨v, vs, rfl, by simp [RV], RL_raw I w vs⟩
theorem RL_set {I : Nat → Prop} {w : World} {u : AV} {v : Value} (hv : RV I w u v) : ∀ {cs : List AV} {vs : List Value} (j : Nat), RL I w cs vs → RL I w (cs.set j u) (vs.set j v)
  | [], vs, j, h => by simp only [RL] at h; subst h; simp [RL]
  | c :: cs, vs, 0, h => by
    simp only [RL] at h
    obtain ⟨x, us, rfl, _, h2⟩ := h
    simp only [List.set_cons_zero, RL]
    exact ⟨v, us, rfl, hv, h2⟩
  | c :: cs, vs, j + 1, h => by
    simp only [RL] at h
    obtain ⟨x, us, rfl, h1, h2⟩ := h
    simp only [List.set_cons_succ, RL]
    exact ⟨x, us.set j v, rfl, h1, RL_set hv j h2⟩
theorem RCells_of {I : Nat → Prop} {w : World} {b : Nat} : ∀ {cs : List AV} {s : Nat}, (∀ j u, cs[j]? = some u → ∃ v, w.cell? ⟨b, s + j, none⟩ = some v ∧ v.oneCell' = true ∧ RV I w u v) → RCells I w cs b s
  | [], _, _ => by simp [RCells]
  | c :: cs, s, h => by
    simp only [RCells]
    refine ⟨by simpa using h 0 c (by simp), RCells_of fun j u hj => ?_⟩
    obtain ⟨v, h1, h2⟩ := h (j + 1) u (by simpa using hj)
    exact ⟨v, by rw [show s + 1 + j = s + (j + 1) by omega]; exact h1, h2⟩

theorem cell_block {w : World} {b : Nat} {vs : List Value} {t : TypeId} {fr : Nat × Nat} (h : w.heap[b]? = some (.cells vs.toArray t fr)) (j : Nat) : w.cell? ⟨b, j, none⟩ = vs[j]? := by
  simp [World.cell?, h]

/-- where an address leads: the row of cells, and the place in it -/
def rdA (L : List (Nat × LObj)) (H : AHeap) : SV → Option (List AV × Nat)
  | .loc d o => match get L d with
    | some (.cells cs _) => some (cs, o)
    | some (.arr _ cs _ _ _) => some (cs, o)
    | none => none
  | .v (.box cs o) => some (cs, o)
  | .v (.raw (.pointer (some ⟨b, o, none⟩))) => match H b with
    | some (.cells cs _) => some (cs, o)
    | some (.row cs _ _ _) => some (cs, o)
    | _ => none
  | _ => none

theorem rdA_sound {c : Cx} {L : List (Nat × LObj)} {H : AHeap} {w : World} (m : MRel c L H w) {s : SV} {v : Value} (hs : RS c w s v) {cs : List AV} {o : Nat} (h : rdA L H s = some (cs, o)) :
    ∃ b p, v = .pointer (some ⟨b, p, none⟩) ∧ ∀ j u, cs[o + j]? = some u → ∃ x, w.cell? ⟨b, p + j, none⟩ = some x ∧ x.oneCell' = true ∧ RV c.I w u x := by
  have r1 : ∀ {cs : List AV} {vs : List Value} {b : Nat} {t : TypeId}, w.heap[b]? = some (.cells vs.toArray t (0, 0)) → R1 c.I w cs vs → ∀ j u, cs[j]? = some u → ∃ x, w.cell? ⟨b, j, none⟩ = some x ∧ x.oneCell' = true ∧ RV c.I w u x := by
    intro cs vs b t hb hr j u hj
    obtain ⟨x, hx, hv⟩ := RL_get hr.1 hj
    exact ⟨x, (cell_block hb j).trans hx, hr.2 x (List.mem_of_getElem? hx), hv⟩
  cases s with
  | loc d o' =>
    simp only [rdA] at h
    cases hg : get L d with
    | none => rw [hg] at h; cases h
    | some ob =>
      rw [hg] at h
      have hl := m.loc d ob hg
      cases ob with
      | cells cs' t =>
        simp only [Option.some.injEq, Prod.mk.injEq] at h
        obtain ⟨rfl, rfl⟩ := h
        obtain ⟨_, vs, h1, h2⟩ := hl
        exact ⟨c.β d, o', hs, fun j u hj => r1 h1 h2 _ u hj⟩
      | arr nl cs' n e sz =>
        simp only [Option.some.injEq, Prod.mk.injEq] at h
        obtain ⟨rfl, rfl⟩ := h
        obtain ⟨h0, _, _, vs, h1, h2⟩ := hl
        refine ⟨c.β d, o', hs, fun j u hj => ?_⟩
        obtain ⟨x, hx, hv⟩ := RL_get h2.1 hj
        rcases h1.2 with ⟨he, hn⟩ | ⟨g, cap, cur, he, _⟩
        · have : vs.length = 0 := by rw [h1.1, hn]; simp
          have := List.eq_nil_of_length_eq_zero this
          subst this; simp at hx
        · have hgb : g = c.β d := (h0 g (by rw [he]; simp [Value.ownBlock])).2
          have hc := h1.cells (g := g) (by rw [he]; simp [Value.ownBlock]) _ x hx
          rw [Addr.add_lit, Nat.zero_add, hgb] at hc
          exact ⟨x, hc, h2.2 x (List.mem_of_getElem? hx), hv⟩
  | own d => simp [rdA] at h
  | v a =>
    cases a with
    | box cs' off =>
      simp only [rdA, Option.some.injEq, Prod.mk.injEq] at h
      obtain ⟨rfl, rfl⟩ := h
      simp only [RS, RV] at hs
      obtain ⟨b, s, rfl, _, hc⟩ := hs
      refine ⟨b, s + off, rfl, fun j u hj => ?_⟩
      obtain ⟨x, hx⟩ := RCells_get hc hj
      exact ⟨x, by rw [Nat.add_assoc]; exact hx⟩
    | raw u =>
      simp only [RS, RV] at hs
      subst hs
      cases v <;> simp only [rdA] at h <;> try (cases h; done)
      rename_i a
      rcases a with _ | ⟨b, p, _ | sp⟩ <;> simp only at h <;> try (cases h; done)
      cases hh : H b with
      | none => rw [hh] at h; cases h
      | some ob =>
        rw [hh] at h
        cases ob with
        | map es => cases h
        | cells cs' t =>
          simp only [Option.some.injEq, Prod.mk.injEq] at h
          obtain ⟨rfl, rfl⟩ := h
          obtain ⟨_, vs, h1, h2⟩ := m.hp b _ hh
          exact ⟨b, p, rfl, fun j u hj => r1 h1 h2 _ u hj⟩
        | row cs' cap e sz =>
          simp only [Option.some.injEq, Prod.mk.injEq] at h
          obtain ⟨rfl, rfl⟩ := h
          obtain ⟨_, cur, h1, h2, h3, h4, h5⟩ := m.hp b _ hh
          refine ⟨b, p, rfl, fun j u hj => ?_⟩
          obtain ⟨x, hx, hv⟩ := RL_get h5.1 hj
          refine ⟨x, ?_, h5.2 x (List.mem_of_getElem? hx), hv⟩
          rw [cell_block h1]
          rw [List.getElem?_take] at hx
          split at hx
          · exact hx
          · cases hx
    | top | vec | agg | tup | fn | ifc => simp [rdA] at h

def rdV (cs : List AV) (o n : Nat) (agg : Bool) : Option AV :=
  if agg then (if o + n ≤ cs.length then some (.agg ((cs.drop o).take n)) else none) else cs[o]?

theorem RL_of_get {I : Nat → Prop} {w : World} (f : Nat → Value) : ∀ (cs : List AV), (∀ j u, cs[j]? = some u → RV I w u (f j)) → RL I w cs ((List.range cs.length).map f)
  | [], _ => by simp [RL]
  | c :: cs, h => by
    simp only [RL, List.length_cons, List.range_succ_eq_map, List.map_cons, List.map_map]
    exact ⟨_, _, rfl, h 0 c (by simp), RL_of_get (fun j => f (j + 1)) cs fun j u hj => h (j + 1) u (by simpa using hj)⟩

theorem tag_some {P : Program} {t : TypeId} {agg : Bool} (h : tag P t = some agg) (w : World) : (isAgg t).run P w = .ok agg w := by
  unfold tag at h
  obtain ⟨d, hd, he⟩ := Option.map_eq_some_iff.1 h
  unfold isAgg
  rw [Sem.run_bind, run_underlying hd, Result.andThen_ok]
  cases d <;> simp at he <;> subst he <;> rfl
theorem tsz_some {P : Program} {t : TypeId} {n : Nat} (h : tsz P t = some n) (w : World) : (sizeOf t).run P w = .ok n w := by
  unfold tsz at h
  obtain ⟨i, hi, he⟩ := Option.map_eq_some_iff.1 h
  unfold sizeOf
  simp [typeInfo, hi, he]

theorem loadAt_sound {P : Program} {t : TypeId} {n : Nat} {agg : Bool} (hn : tsz P t = some n) (ha : tag P t = some agg) {c : Cx} {L : List (Nat × LObj)} {H : AHeap} {w : World} (m : MRel c L H w)
    {s : SV} {v : Value} (hs : RS c w s v) {cs : List AV} {o : Nat} (h : rdA L H s = some (cs, o)) {a : AV} (hv : rdV cs o n agg = some a) :
    ∃ u, (Instr.loadAt t v).run P w = .ok u w ∧ RV c.I w a u := by
  obtain ⟨b, p, rfl, hr⟩ := rdA_sound m hs h
  unfold Instr.loadAt Instr.sureAddr loadVar
  simp only [Sem.run_bind, Sem.run_pure, Result.andThen_ok, tag_some ha]
  unfold rdV at hv
  cases agg with
  | true =>
    simp only [if_true] at hv ⊢
    split at hv
    · rename_i hle
      simp only [Option.some.injEq] at hv
      subst hv
      have hcell : ∀ j, j < n → ∃ x, w.cell? ⟨b, p + j, none⟩ = some x ∧ x.oneCell' = true ∧ RV c.I w (cs[o + j]?.getD .top) x := by
        intro j hj
        have hlt : o + j < cs.length := by omega
        obtain ⟨x, h1, h2, h3⟩ := hr j cs[o + j] (List.getElem?_eq_getElem hlt)
        exact ⟨x, h1, h2, by rw [List.getElem?_eq_getElem hlt]; exact h3⟩
      have hlc := run_loadCells (P := P) (w := w) (a := ⟨b, p, none⟩) (n := n) (fun j => (w.cell? ⟨b, p + j, none⟩).getD undef) (by
        intro j hj
        obtain ⟨x, h1, _⟩ := hcell j hj
        rw [Addr.add_lit, h1]; rfl)
      simp only [Sem.run_bind, tsz_some hn, Result.andThen_ok, hlc, Sem.run_pure]
      refine ⟨_, rfl, ?_⟩
      simp only [RV]
      refine ⟨(List.range n).map fun j => (w.cell? ⟨b, p + j, none⟩).getD undef, by simp, ?_⟩
      have hlen : ((cs.drop o).take n).length = n := by simp; omega
      have := RL_of_get (I := c.I) (w := w) (fun j => (w.cell? ⟨b, p + j, none⟩).getD undef) ((cs.drop o).take n) (by
        intro j u hj
        have hjn : j < n := by
          have := (List.getElem?_eq_some_iff.1 hj).1
          omega
        obtain ⟨x, h1, _, h3⟩ := hcell j hjn
        rw [List.getElem?_take, if_pos hjn, List.getElem?_drop] at hj
        rw [hj] at h3
        rw [h1]
        exact h3)
      rwa [hlen] at this
    · cases hv
  | false =>
    simp only [Bool.false_eq_true, if_false] at hv ⊢
    obtain ⟨x, h1, _, h3⟩ := hr 0 a (by simpa using hv)
    rw [Nat.add_zero] at h1
    rw [run_load]
    simp only [h1]
    exact ⟨x, rfl, h3⟩

end Go.Proofs.Ytejmcijcdhoogaa.Abs
