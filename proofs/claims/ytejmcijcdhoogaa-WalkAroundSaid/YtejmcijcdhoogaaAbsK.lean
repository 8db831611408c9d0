import Derived.Lib.AppendZerosOnto
import Derived.Test.YtejmcijcdhoogaaAbs10
set_option linter.unusedSimpArgs false
set_option linter.unusedVariables false
namespace Go.Proofs.Ytejmcijcdhoogaa.Abs
open Go

/-! ### what is made on the heap from the start -/
def delH (H : AHeap) : Option Nat → AHeap
  | none => H
  | some b => upd H b none
/-- a block that is new, or takes the place of another one -/
def S.newhd (s : S) (row : Option Nat) (b : Nat) (o : HObj) : S := { s with H := upd (delH s.H row) b (some o) }
def S.newh (s : S) (b : Nat) (o : HObj) : S := { s with H := upd s.H b (some o) }
theorem delH_some {H : AHeap} {row : Option Nat} {b : Nat} {o : HObj} (h : delH H row b = some o) : H b = some o ∧ row ≠ some b := by
  cases row with
  | none => exact ⟨h, by simp⟩
  | some b0 =>
    simp only [delH] at h
    by_cases e : b0 = b
    · subst e; rw [upd_self] at h; cases h
    · rw [upd_ne _ _ e] at h
      exact ⟨h, by simpa using e⟩

section
variable {P : Program} {o : Oper} {so : SOp} {c c' : Cx} {w w' : World} {a : Act} {s : S}

def cxH (c : Cx) (g : Nat) : Cx := { ow := upd c.ow g .hp, β := c.β, ν := c.ν }

theorem fresh_none (h : Good c s a w) {b : Nat} (hb : w.heap.size ≤ b) : s.H b = none := by
  cases hh : s.H b with
  | none => rfl
  | some o =>
    have h1 := (h.1.hp b o hh).1
    have := h.1.lt b (by rw [h1]; simp)
    omega

theorem setH (h : Good c s a w) {row : Option Nat} (hg : w.grownBy w' row) {g : Nat} (hrow : ∀ b, row = some b → c.ow b = .hp) (hat : row = some g ∨ w.heap.size ≤ g) (hlt : g < w'.heap.size)
    {ob : HObj} (hr : ∀ I' : Nat → Prop, Keep c.I I' w w' → HRel I' w' g ob) : Good (cxH c g) (s.newhd row g ob) a w' ∧ Step c w (cxH c g) w' := by
  obtain ⟨h1, h2, h3⟩ := h
  have htag : ∀ b, b ≠ g → (cxH c g).ow b = c.ow b := fun b hb => upd_ne _ _ (Ne.symm hb)
  have hgt : ∀ b, b < w.heap.size → b = g → c.ow b = .hp := by
    intro b hb e
    subst e
    rcases hat with hh | hh
    · exact hrow _ hh
    · omega
  have hblk : ∀ b, b < w.heap.size → row ≠ some b → w'.heap[b]? = w.heap[b]? := fun b hb hne => hg.block b hb fun e => hne e.symm
  have hnr : ∀ b, c.ow b ≠ .hp → row ≠ some b := fun b hh e => hh (hrow b e)
  have hne : ∀ b, b < w.heap.size → c.ow b ≠ .hp → b ≠ g := fun b hb hh e => hh (hgt b hb e)
  have hst : Step c w (cxH c g) w' := by
    refine ⟨hg.os, hg.tape, hg.output, hg.size, fun b hb ht => hblk b hb (hnr b ?_), fun b hb => ⟨fun ht => ?_, fun ht => ?_⟩⟩
    · rcases ht with ht | ht <;> rw [ht] <;> simp
    · rw [htag b (hne b hb (by rw [ht]; simp))]; exact ht
    · rw [htag b (hne b hb (by rw [ht]; simp))]; exact ht
  have hk := hst.keep h1.lt
  refine ⟨⟨?_, h2.same hk rfl rfl, h3⟩, hst⟩
  refine h1.upd hk ?_ ?_ ?_
  · intro b hb
    by_cases e : b = g
    · subst e; exact hlt
    · rw [htag b e] at hb
      exact Nat.lt_of_lt_of_le (h1.lt b hb) hg.size
  · intro d ob hd
    right
    refine ⟨hd, rfl, rfl, fun b hb => ?_⟩
    have hbl := h1.lt b (by rw [hb]; simp)
    exact ⟨(htag b (hne b hbl (by rw [hb]; simp))).trans hb, hblk b hbl (hnr b (by rw [hb]; simp))⟩
  · intro b ob' hb
    by_cases e : g = b
    · subst e
      have hb' : ob' = ob := by
        simp only [S.newhd, upd_self, Option.some.injEq] at hb
        exact hb.symm
      subst hb'
      left
      exact ⟨upd_self _ _ _, hr _ hk⟩
    · right
      have hb' : delH s.H row b = some ob' := by rw [← hb]; exact (upd_ne _ _ e).symm
      obtain ⟨hb1, hb2⟩ := delH_some hb'
      refine ⟨hb1, fun ht => ?_⟩
      have hbl := h1.lt b (by rw [ht]; simp)
      exact ⟨(htag b (Ne.symm e)).trans ht, hblk b hbl hb2⟩

/-- the slice that is appended to: its block, length, capacity, elements -/
def hpre (H : AHeap) (e sz : Nat) : SV → Option (Option Nat × Nat × Nat × List AV)
  | .v (.vec true [] 0) => some (none, 0, 0, [])
  | .v (.raw (.slice none 0 0)) => some (none, 0, 0, [])
  | .v (.raw (.slice (some ⟨b, 0, none⟩) n cap)) => match H b with
    | some (.row cs cap' e' sz') => if cap' = cap ∧ e' = e ∧ sz' = sz ∧ n ≤ cap ∧ n * sz ≤ cs.length then some (some b, n, cap, cs.take (n * sz)) else none
    | _ => none
  | _ => none

theorem hpre_nil {H : AHeap} {e sz : Nat} : hpre H e sz (.v (.vec true [] 0)) = some (none, 0, 0, []) := rfl
def hapK (e sz by_ : Nat) (p : Option (Option Nat × Nat × Nat × List AV)) (x y : SV) (dst : Option Nat) (s : S) (K : S → Prop) : Prop :=
  match p, y with
  | some (ob, n, cap, pre), .v (.vec _ ds m) => ds.length = m * sz ∧ (n + m) * by_ ≤ 140737488355328 ∧ n + m ≤ maxLen ∧ (m = 0 → K (s.put dst x)) ∧
      (0 < m → ∀ b cap', ob = some b ∨ s.H b = none → n + m ≤ cap' → K ((s.newhd ob b (.row (pre ++ ds) cap' e sz)).put dst (.v (.raw (.slice (some ⟨b, 0, none⟩) (n + m) cap')))))
  | _, _ => False

/-- an entry of a map -/
def msetK (kd : KD) (x k v : SV) (dst : Option Nat) (s : S) (K : S → Prop) : Prop :=
  match x, k, v with
  | .v (.raw (.map (some b))), .v ka, .v u => match s.H b, keyq kd ka with
    | some (.map kd' es), some key => kd' = kd ∧ dst = none ∧ K { s with H := upd s.H b (some (.map kd (mput es key u))) }
    | _, _ => False
  | _, _, _ => False
def runH (op : SOp) (dst : Option Nat) (s : S) (K : S → Prop) : Prop :=
  match op with
  | .alloc t z => (z.map cAV).all aone = true ∧ ∀ b, s.H b = none → K ((s.newh b (.cells (z.map cAV) t)).put dst (.v (.raw (.pointer (some ⟨b, 0, none⟩)))))
  | .box t x => match oval s.env x with
    | .v u => match acells u with
      | some cs => cs.all aone = true ∧ ∀ b, s.H b = none → K ((s.newh b (.cells cs t)).put dst (.v (.raw (.pointer (some ⟨b, 0, none⟩)))))
      | none => False
    | _ => False
  | .mksl e sz by_ z l k => match oval s.env l, oval s.env k with
    | .v (.raw (.int _ n)), .v (.raw (.int _ m)) => 0 ≤ n ∧ m = n ∧ by_ * n.toNat ≤ 281474976710656 ∧ n.toNat ≤ maxLen ∧ z.all (·.oneCell') = true ∧
        ∀ b, s.H b = none → K ((s.newh b (.row (zrep z n.toNat) n.toNat e sz)).put dst (.v (.raw (.slice (some ⟨b, 0, none⟩) n.toNat n.toNat))))
    | _, _ => False
  | .bsl e sz _ len ps => match partsq (oval s.env) ps with
    | some l => match catA sz 0 l with
      | some cs => l.length = len ∧ 0 < sz ∧ ∀ b, s.H b = none → K ((s.newh b (.row cs len e sz)).put dst (.v (.raw (.slice (some ⟨b, 0, none⟩) len len))))
      | none => False
    | none => False
  | .app _ e sz by_ _ x y => hapK e sz by_ (hpre s.H e sz (oval s.env x)) (oval s.env x) (oval s.env y) dst s K
  | .mkmap kd => ∀ b, s.H b = none → K ((s.newh b (.map kd [])).put dst (.v (.raw (.map (some b)))))
  | .appz _ e sz by_ z x y => match oval s.env x, oval s.env y with
    | .v (.vec true _ _), .v (.raw (.int _ n)) => 0 < n ∧ n.toNat * by_ ≤ 140737488355328 ∧ n.toNat ≤ 4611686018427387904 ∧ z.all (·.oneCell') = true ∧
        ∀ b cap, s.H b = none → n.toNat ≤ cap → K ((s.newh b (.row (zrep z n.toNat) cap e sz)).put dst (.v (.raw (.slice (some ⟨b, 0, none⟩) n.toNat cap))))
    | _, _ => False
  | .mset kd x k v => msetK kd (oval s.env x) (oval s.env k) (oval s.env v) dst s K
  | _ => False

theorem runH_mono {op : SOp} {dst : Option Nat} {s : S} {K K' : S → Prop} (hk : ∀ s, K s → K' s) (h : runH op dst s K) : runH op dst s K' := by
  cases op <;> simp only [runH] at h ⊢
  case alloc => exact ⟨h.1, fun b hb => hk _ (h.2 b hb)⟩
  case box =>
    split at h
    · split at h <;> first | exact ⟨h.1, fun b hb => hk _ (h.2 b hb)⟩ | exact h
    · exact h
  case mksl =>
    split at h
    · obtain ⟨h1, h2, h3, h4, h5, h6⟩ := h; exact ⟨h1, h2, h3, h4, h5, fun b hb => hk _ (h6 b hb)⟩
    · exact h
  case bsl =>
    split at h
    · split at h <;> first | exact ⟨h.1, h.2.1, fun b hb => hk _ (h.2.2 b hb)⟩ | exact h
    · exact h
  case app =>
    unfold hapK at h ⊢
    split at h
    · obtain ⟨h1, h2, h3, h4, h5⟩ := h; exact ⟨h1, h2, h3, fun hm => hk _ (h4 hm), fun hm b c hb hc => hk _ (h5 hm b c hb hc)⟩
    · exact h
  case mkmap => exact fun b hb => hk _ (h b hb)
  case appz =>
    split at h
    · obtain ⟨h1, h2, h3, h4, h5⟩ := h; exact ⟨h1, h2, h3, h4, fun b c hb hc => hk _ (h5 b c hb hc)⟩
    · exact h
  case mset =>
    unfold msetK at h ⊢
    split at h
    · split at h
      · exact ⟨h.1, h.2.1, hk _ h.2.2⟩
      · exact h
    · exact h
  all_goals exact h

theorem newh_wp (h : Good c s a w) (hd : ∀ d, o.dst = some d → d < a.tmps.size) {v : Value} {row : Option Nat} {g : Nat} {ob : HObj} (he : (execOp a.eval o).run P w = .ok (.value v) w') (hg : w.grownBy w' row)
    (hrow : ∀ b, row = some b → c.ow b = .hp) (hat : row = some g ∨ w.heap.size ≤ g) (hlt : g < w'.heap.size) (hr : ∀ I' : Nat → Prop, Keep c.I I' w w' → HRel I' w' g ob)
    {K : S → Prop} (hK : K ((s.newhd row g ob).put o.dst (.v (.raw v)))) {next : Act → World → Prop} {Q : Exit → Act → World → Prop} (hn : ∀ c' s' a' w', K s' → Good c' s' a' w' → Step c w c' w' → a'.tmps.size = a.tmps.size → next a' w') : o.wp P a w next Q := by
  obtain ⟨hgood, hst⟩ := setH h hg hrow hat hlt hr
  unfold Oper.wp
  rw [he, Oper.upon_value]
  exact hn _ _ _ w' hK (hgood.put hd (by simp [RS, RV])) hst (by cases o.dst <;> simp [Act.put])

theorem R1.of_keep {I I' : Nat → Prop} {cs : List AV} {vs : List Value} (hr : R1 I w cs vs) (hk : Keep I I' w w') : R1 I' w' cs vs := R1.keep hk hr

theorem alloc_grown (w : World) (ob : Obj) : w.grownBy (w.alloc ob) none := ⟨rfl, rfl, rfl, by simp, fun k hk _ => heap_alloc_old w ob k hk⟩

def tagOf : Op → Nat
  | .alloc _ => 1
  | .box _ _ => 2
  | .store _ _ _ => 3
  | .makeSlice _ _ _ => 4
  | .buildSlice _ _ _ => 5
  | .call _ => 6
  | .makeMap _ _ => 8
  | .mapUpdate _ _ _ _ => 9
  | .insert _ _ _ _ => 9
  | _ => 0
def sTag : SOp → Nat
  | .alloc _ _ => 1
  | .box _ _ => 2
  | .store _ _ _ => 3
  | .mksl _ _ _ _ _ _ => 4
  | .bsl _ _ _ _ _ => 5
  | .call _ _ => 6
  | .cald _ _ => 6
  | .app _ _ _ _ _ _ _ => 6
  | .len _ _ => 6
  | .mnx _ _ _ => 6
  | .cap _ => 6
  | .appz _ _ _ _ _ _ _ => 6
  | .hp _ => 7
  | .ow _ => 7
  | .mkmap _ => 8
  | .mset _ _ _ _ => 9
  | _ => 0

theorem opOf_tag {so : SOp} (hop : opOf P o = some so) : sTag so = tagOf o.op := by
  cases ho : o.op <;> simp only [opOf, ho, Option.bind_eq_bind] at hop <;> try (cases hop; done)
  all_goals first
    | (simp only [Option.some.injEq] at hop; subst hop; rfl)
    | skip
  case load => obtain ⟨_, _, hop⟩ := Option.bind_eq_some_iff.1 hop; obtain ⟨_, _, hop⟩ := Option.bind_eq_some_iff.1 hop; simp only [Option.some.injEq] at hop; subst hop; rfl
  case build => obtain ⟨_, _, hop⟩ := Option.bind_eq_some_iff.1 hop; obtain ⟨_, _, hop⟩ := Option.bind_eq_some_iff.1 hop; simp only [Option.some.injEq] at hop; subst hop; rfl
  case alloc => obtain ⟨_, _, hop⟩ := Option.bind_eq_some_iff.1 hop; simp only [Option.some.injEq] at hop; subst hop; rfl
  case store => obtain ⟨_, _, hop⟩ := Option.bind_eq_some_iff.1 hop; simp only [Option.some.injEq] at hop; subst hop; rfl
  case buildSlice =>
    obtain ⟨d, _, hop⟩ := Option.bind_eq_some_iff.1 hop
    cases d <;> simp only at hop <;> try (cases hop; done)
    obtain ⟨_, _, hop⟩ := Option.bind_eq_some_iff.1 hop
    split at hop
    · cases hop
    · obtain ⟨_, _, hop⟩ := Option.bind_eq_some_iff.1 hop
      simp only [Option.some.injEq] at hop; subst hop; rfl
  case makeSlice =>
    obtain ⟨d, _, hop⟩ := Option.bind_eq_some_iff.1 hop
    cases d <;> simp only at hop <;> try (cases hop; done)
    obtain ⟨_, _, hop⟩ := Option.bind_eq_some_iff.1 hop
    obtain ⟨_, _, hop⟩ := Option.bind_eq_some_iff.1 hop
    obtain ⟨_, _, hop⟩ := Option.bind_eq_some_iff.1 hop
    split at hop
    · simp only [Option.some.injEq] at hop; subst hop; rfl
    · cases hop
  case fieldAddr =>
    obtain ⟨d, _, hop⟩ := Option.bind_eq_some_iff.1 hop
    cases d <;> simp only at hop <;> try (cases hop; done)
    obtain ⟨_, _, hop⟩ := Option.bind_eq_some_iff.1 hop
    obtain ⟨_, _, hop⟩ := Option.bind_eq_some_iff.1 hop
    split at hop
    · cases hop
    · simp only [Option.some.injEq] at hop; subst hop; rfl
  case field =>
    obtain ⟨d, _, hop⟩ := Option.bind_eq_some_iff.1 hop
    cases d <;> simp only at hop <;> try (cases hop; done)
    obtain ⟨_, _, hop⟩ := Option.bind_eq_some_iff.1 hop
    obtain ⟨_, _, hop⟩ := Option.bind_eq_some_iff.1 hop
    obtain ⟨_, _, hop⟩ := Option.bind_eq_some_iff.1 hop
    simp only [Option.some.injEq] at hop; subst hop; rfl
  case indexAddr =>
    split at hop
    · obtain ⟨_, _, hop⟩ := Option.bind_eq_some_iff.1 hop
      simp only [Option.some.injEq] at hop; subst hop; rfl
    · obtain ⟨_, _, hop⟩ := Option.bind_eq_some_iff.1 hop
      simp only [Option.some.injEq] at hop; subst hop; rfl
    · cases hop
  case index =>
    split at hop
    · obtain ⟨_, _, hop⟩ := Option.bind_eq_some_iff.1 hop
      obtain ⟨_, _, hop⟩ := Option.bind_eq_some_iff.1 hop
      simp only [Option.some.injEq] at hop; subst hop; rfl
    · simp only [Option.some.injEq] at hop; subst hop; rfl
    · cases hop
  case slice =>
    split at hop
    · split at hop
      · cases hop
      · simp only [Option.some.injEq] at hop; subst hop; rfl
    · split at hop
      · cases hop
      · obtain ⟨_, _, hop⟩ := Option.bind_eq_some_iff.1 hop
        simp only [Option.some.injEq] at hop; subst hop; rfl
    · cases hop
  case makeMap t r =>
    split at hop
    · cases hop
    · split at hop
      · obtain ⟨kd, -, rfl⟩ := Option.map_eq_some_iff.1 hop; rfl
      · cases hop
  case lookup =>
    split at hop
    · obtain ⟨_, _, hop⟩ := Option.bind_eq_some_iff.1 hop
      obtain ⟨_, _, hop⟩ := Option.bind_eq_some_iff.1 hop
      simp only [Option.some.injEq] at hop; subst hop; rfl
    · cases hop
  case mapUpdate =>
    split at hop
    · obtain ⟨kd, -, rfl⟩ := Option.map_eq_some_iff.1 hop; rfl
    · cases hop
  case insert =>
    split at hop
    · obtain ⟨kd, -, rfl⟩ := Option.map_eq_some_iff.1 hop; rfl
    · cases hop
  case convert =>
    split at hop
    · simp only [Option.some.injEq] at hop; subst hop; rfl
    · split at hop
      · simp only [Option.some.injEq] at hop; subst hop; rfl
      · cases hop
    · cases hop
  case binOp =>
    split at hop
    · rename_i so' hso
      simp only [Option.some.injEq] at hop; subst hop
      unfold binOf at hso
      split at hso
      · obtain ⟨_, _, rfl⟩ := Option.map_eq_some_iff.1 hso; rfl
      · obtain ⟨_, _, rfl⟩ := Option.map_eq_some_iff.1 hso; rfl
      · cases hso
    split at hop <;> (simp only [Option.some.injEq] at hop; subst hop; rfl)
  case call cl =>
    unfold callOf at hop
    split at hop
    · rename_i op' hxc
      simp only [Option.some.injEq] at hop
      subst hop
      rcases xcall_spec hxc with ⟨x, t, e, h1, h2, h3, h4, rfl⟩ | ⟨_, _, _, _, _, _, _, _, _, _, _, _, _, _, _, _, _, _, _, rfl⟩ <;> rfl
    unfold callOf0 at hop
    split at hop
    · split at hop
      · split at hop
        · cases hop
        · simp only [Option.some.injEq] at hop; subst hop; rfl
      · cases hop
    · simp only [Option.some.injEq] at hop; subst hop; rfl
    · split at hop
      · simp only [Option.some.injEq] at hop; subst hop; rfl
      · simp only [Option.some.injEq] at hop; subst hop; rfl
      · cases hop
    · simp only [Option.some.injEq] at hop; subst hop; rfl
    · simp only [Option.some.injEq] at hop; subst hop; rfl
    · split at hop
      · simp only [Option.bind_eq_bind] at hop
        obtain ⟨d, _, hop⟩ := Option.bind_eq_some_iff.1 hop
        cases d <;> simp only at hop <;> try (cases hop; done)
        obtain ⟨_, _, hop⟩ := Option.bind_eq_some_iff.1 hop
        obtain ⟨_, _, hop⟩ := Option.bind_eq_some_iff.1 hop
        obtain ⟨_, _, hop⟩ := Option.bind_eq_some_iff.1 hop
        split at hop
        · simp only [Option.some.injEq] at hop; subst hop; rfl
        · cases hop
      · cases hop
    · cases hop

/-- what is shown of each such operation -/
def HSound (P : Program) (o : Oper) (op : SOp) (c : Cx) (s : S) (a : Act) (w : World) : Prop := ∀ {K : S → Prop}, runH op o.dst s K →
  ∀ {next : Act → World → Prop} {Q : Exit → Act → World → Prop}, (∀ c' s' a' w', K s' → Good c' s' a' w' → Step c w c' w' → a'.tmps.size = a.tmps.size → next a' w') → o.wp P a w next Q

theorem halloc_sound {t : TypeId} {op : SOp} (ho : o.op = .alloc t) (hop : opOf P o = some op) (h : Good c s a w) (hd : ∀ d, o.dst = some d → d < a.tmps.size) : HSound P o op c s a w := by
  intro K hr next Q hn
  simp only [opOf, ho, Option.bind_eq_bind] at hop
  obtain ⟨z', hz, hop⟩ := Option.bind_eq_some_iff.1 hop
  simp only [Option.some.injEq] at hop
  subst hop
  simp only [runH] at hr
  obtain ⟨zv, hz1, hz2⟩ := tz_some hz w
  have hrl := RL_cAV c.I w z'
  refine newh_wp (g := w.heap.size) (w' := w.alloc (.cells z'.toArray t)) h hd ?_ (alloc_grown w _) (by intro b hb; cases hb) (.inr (Nat.le_refl _)) (by simp) ?_ (hr.2 _ (fresh_none h (Nat.le_refl _))) hn
  · simp only [execOp, ho]
    unfold Instr.alloc
    simp only [Sem.run_bind, hz1, Result.andThen_ok, newVar, newRow, run_newObj, Sem.run_pure]
    rw [show zv.cells = z'.toArray by rw [← hz2]]
    rfl
  · intro I' hk
    exact ⟨z', heap_alloc_new w _, R1.of_keep ⟨hrl, RL_one hrl (List.all_eq_true.1 hr.1)⟩ hk⟩

theorem hbox_sound {t : TypeId} {x : Operand} {op : SOp} (ho : o.op = .box t x) (hop : opOf P o = some op) (h : Good c s a w) (hd : ∀ d, o.dst = some d → d < a.tmps.size) : HSound P o op c s a w := by
  intro K hr next Q hn
  simp only [opOf, ho, Option.some.injEq] at hop
  subst hop
  simp only [runH] at hr
  split at hr
  · rename_i u hu
    split at hr
    · rename_i cs hcs
      have hx := oval_rs h.2.1 x
      rw [hu] at hx
      have hrl := acells_sound hx hcs
      refine newh_wp (g := w.heap.size) (w' := w.alloc (.cells (a.eval x).cells t)) h hd ?_ (alloc_grown w _) (by intro b hb; cases hb) (.inr (Nat.le_refl _)) (by simp) ?_ (hr.2 _ (fresh_none h (Nat.le_refl _))) hn
      · simp only [execOp, ho]
        unfold Instr.box
        simp only [Sem.run_bind, Result.andThen_ok, newVar, newRow, run_newObj, Sem.run_pure]
        rfl
      · intro I' hk
        refine ⟨(a.eval x).cells.toList, ?_, R1.of_keep ⟨hrl, RL_one hrl (List.all_eq_true.1 hr.1)⟩ hk⟩
        rw [heap_alloc_new]
    · exact hr.elim
  · exact hr.elim

theorem ownsRow_hrow {g n cap e sz : Nat} {cs : List AV} {us : List Value} {ad : Option Addr} (hown : w'.ownsRow 0 e sz (.slice (some ⟨g, 0, none⟩) n cap) n us) (hr : R1 c.I w cs us) {I' : Nat → Prop} (hk : Keep c.I I' w w') : HRel I' w' g (.row cs cap e sz) := by
  rcases hown.2 with ⟨hv, _⟩ | ⟨g', cap', cur, hv, _, hheap, hnc, hcm, hcs, htake⟩
  · cases hv
  · simp only [Value.slice.injEq, Option.some.injEq, Addr.mk.injEq] at hv
    obtain ⟨⟨rfl, _, _⟩, _, rfl⟩ := hv
    have hl := RL_length hr.1
    refine ⟨cur.toList, by simpa using hheap, by simpa using hcs, ?_, hcm, ?_⟩
    · rw [← hl, hown.1, Array.length_toList, hcs]
      exact Nat.mul_le_mul_right _ hnc
    · rw [← hl, hown.1, htake]
      exact R1.of_keep hr hk

theorem hmksl_sound {t : TypeId} {l k : Operand} {op : SOp} (ho : o.op = .makeSlice t l k) (hop : opOf P o = some op) (h : Good c s a w) (hd : ∀ d, o.dst = some d → d < a.tmps.size) : HSound P o op c s a w := by
  intro K hr next Q hn
  simp only [opOf, ho] at hop
  cases hu : P.underlying t with
  | none => simp [hu] at hop
  | some ds =>
    cases ds <;> simp only [hu, Option.bind_eq_bind, Option.bind_some] at hop <;> try (cases hop; done)
    rename_i e
    obtain ⟨sz, hsz, hop⟩ := Option.bind_eq_some_iff.1 hop
    obtain ⟨by_, hby, hop⟩ := Option.bind_eq_some_iff.1 hop
    obtain ⟨z, hz, hop⟩ := Option.bind_eq_some_iff.1 hop
    split at hop
    · rename_i hzl
      simp only [Option.some.injEq] at hop
      subst hop
      simp only [runH] at hr
      split at hr
      · rename_i kl n kc m hl hk
        obtain ⟨h0, rfl, hb, h63, hz1, hK⟩ := hr
        have hl' := oval_rs h.2.1 l
        have hk' := oval_rs h.2.1 k
        rw [hl] at hl'
        rw [hk] at hk'
        have hm : ((m.toNat : Nat) : Int) = m := by omega
        have el : a.eval l = .int kl (m.toNat : Nat) := by rw [hm]; exact hl'
        have ek : a.eval k = .int kc (m.toNat : Nat) := by rw [hm]; exact hk'
        obtain ⟨i, hi, hi1⟩ := Option.map_eq_some_iff.1 hsz
        obtain ⟨i', hi', hi2⟩ := Option.map_eq_some_iff.1 hby
        rw [hi] at hi'; injection hi' with hi'; subst hi'
        unfold tz tzv at hz
        obtain ⟨zv, hzv, hz2⟩ := Option.map_eq_some_iff.1 hz
        rw [hi, Option.bind_some] at hzv
        obtain ⟨w1, hrun, hown, hg⟩ := run_make_full (P := P) w 0 t e i zv sz hu hi hzv hi1 kl kc m.toNat (by rw [hi2]; exact hb) h63 (Nat.zero_le _)
        have hcs : (madeCells zv.cells (m.toNat * sz)).toList = (List.replicate m.toNat z).flatten := by
          have hzs : zv.cells.size = sz := by rw [← hzl.1, ← hz2]; simp
          rw [← hzs, ← hz2]
          exact range_rep zv.cells m.toNat (by rw [hzs]; exact hzl.2)
        rw [hcs] at hown
        have hrl := zrep_raw c.I w z m.toNat
        refine newh_wp (g := w.heap.size) h hd (v := .slice (some ⟨w.heap.size, 0, none⟩) m.toNat m.toNat) ?_ hg (by intro b hb; cases hb) (.inr (Nat.le_refl _)) (hown.lt w.heap.size (by simp [Value.ownBlock])).2 ?_ (hK _ (fresh_none h (Nat.le_refl _))) hn
        · simp only [execOp, ho, el, ek, Sem.run_bind, hrun, Result.andThen_ok, Sem.run_pure]
        · intro I' hk
          exact ownsRow_hrow (ad := none) hown ⟨hrl, fun u hu => by
            obtain ⟨l', hl', hu'⟩ := List.mem_flatten.1 hu
            rw [(List.mem_replicate.1 hl').2] at hu'
            exact List.all_eq_true.1 hz1 u hu'⟩ hk
      · exact hr.elim
    · cases hop

theorem hbsl_sound {t n : Nat} {ps : Array (Nat × Operand)} {op : SOp} (ho : o.op = .buildSlice t n ps) (hop : opOf P o = some op) (h : Good c s a w) (hd : ∀ d, o.dst = some d → d < a.tmps.size) : HSound P o op c s a w := by
  intro K hr next Q hn
  simp only [opOf, ho] at hop
  cases hu : P.underlying t with
  | none => simp [hu] at hop
  | some d =>
    cases d <;> simp only [hu, Option.bind_eq_bind, Option.bind_some] at hop <;> try (cases hop; done)
    rename_i e
    obtain ⟨sz, hsz, hop⟩ := Option.bind_eq_some_iff.1 hop
    split at hop
    · cases hop
    · rename_i hlim
      obtain ⟨z, hz, hop⟩ := Option.bind_eq_some_iff.1 hop
      simp only [Option.some.injEq] at hop
      subst hop
      simp only [runH] at hr
      split at hr
      · rename_i l hl
        split at hr
        · rename_i cs hcs
          obtain ⟨hlen, hpos, hK⟩ := hr
          obtain ⟨zv, hz1, hz2⟩ := tz_some hz w
          obtain ⟨k1, k2⟩ := partsq_sound h.2.1 _ hl
          have hk1 : l.length = ps.toList.length := by rw [k1]; simp
          obtain ⟨zc, hzc⟩ : ∃ zc : Array Value, zc = if n * sz = 0 then #[] else zv.cells := ⟨_, rfl⟩
          obtain ⟨zs, hzs0⟩ : ∃ zs : Array Value, zs = (Array.range (n * sz)).map (zc[· % zc.size]!) := ⟨_, rfl⟩
          have hzs : zs.size = n * sz := by simp [hzs0]
          have hfill := fillA_cat (sz := sz) l [] (zs.toList.map AV.raw) hcs (by simp [hzs, hlen])
          simp only [List.nil_append] at hfill
          obtain ⟨us, h1, h2⟩ := fill_sound (I := c.I) (w := w) (place := fun i => some (i * sz, sz)) (ps.toList.map fun (i, x) => (i, a.eval x)) l (zs.toList.map AV.raw) zs.toList (RL_raw _ _ _) (by simpa using hk1) (by
            intro j p q hj hq
            rw [List.getElem?_map] at hj
            obtain ⟨⟨i, x⟩, hx, rfl⟩ := Option.map_eq_some_iff.1 hj
            obtain ⟨e1, e2, e3⟩ := k2 j (i * sz, sz, x) q (by simp [List.getElem?_map, hx]) hq
            exact ⟨by rw [e1, e2], e3⟩) hfill
          have hcl := catA_length hcs
          have hul := RL_length h2
          refine newh_wp (g := w.heap.size) (w' := w.alloc (.cells us.toArray e)) h hd ?_ (alloc_grown w _) (by intro b hb; cases hb) (.inr (Nat.le_refl _)) (by simp) ?_ (hK _ (fresh_none h (Nat.le_refl _))) hn
          · have he : execOp a.eval o = (do pure (.value (← Instr.buildSlice t n (ps.map fun (i, x) => (i, a.eval x))))) := by simp [execOp, ho]
            rw [he, Sem.run_bind]
            have hb : (Instr.buildSlice t n (ps.map fun (i, x) => (i, a.eval x))).run P w = .ok (.slice (some ⟨w.heap.size, 0, none⟩) n n) (w.alloc (.cells us.toArray e)) := by
              unfold Instr.buildSlice
              have hps : (ps.map fun (i, x) => (i, a.eval x)).toList = ps.toList.map fun (i, x) => (i, a.eval x) := by simp
              rw [Sem.run_bind, run_underlying hu, Result.andThen_ok]
              simp only
              rw [Sem.run_bind, tsz_some hsz, Result.andThen_ok, Sem.run_ite, if_neg hlim, Sem.run_ite]
              by_cases h0 : n * sz = 0
              · rw [if_pos h0] at hzc ⊢
                rw [Sem.run_bind, Sem.run_pure, Result.andThen_ok, ← hzc, ← hzs0, hps, show zs = zs.toList.toArray by simp, h1]
                simp only [newRow, Sem.run_bind, run_newObj, Sem.run_pure, Result.andThen_ok]
                rfl
              · rw [if_neg h0] at hzc ⊢
                rw [Sem.run_bind, hz1, Result.andThen_ok, Sem.run_bind, Sem.run_pure, Result.andThen_ok, ← hzc, ← hzs0, hps, show zs = zs.toList.toArray by simp, h1]
                simp only [newRow, Sem.run_bind, run_newObj, Sem.run_pure, Result.andThen_ok]
                rfl
            rw [hb]; rfl
          · intro I' hk
            refine ⟨us, heap_alloc_new w _, ?_, by omega, ?_, ?_⟩
            · rw [hul, hcl, hlen]
            · simp only [maxLen]
              have : n ≤ n * sz := Nat.le_mul_of_pos_right _ hpos
              omega
            · rw [← hul, List.take_length]
              exact R1.of_keep ⟨h2, RL_one h2 (catA_one hcs)⟩ hk
        · exact hr.elim
      · exact hr.elim

theorem hmkmap_sound {t : TypeId} {r : Option Operand} {op : SOp} (ho : o.op = .makeMap t r) (hop : opOf P o = some op) (h : Good c s a w) (hd : ∀ d, o.dst = some d → d < a.tmps.size) : HSound P o op c s a w := by
  intro K hr next Q hn
  simp only [opOf, ho] at hop
  cases r with
  | some r => simp at hop
  | none =>
    rw [if_neg (by simp)] at hop
    split at hop
    · obtain ⟨kd, -, rfl⟩ := Option.map_eq_some_iff.1 hop
      simp only [runH] at hr
      refine newh_wp (g := w.heap.size) (w' := w.alloc (.map #[] 0)) h hd ?_ (alloc_grown w _) (by intro b hb; cases hb) (.inr (Nat.le_refl _)) (by simp) ?_ (hr _ (fresh_none h (Nat.le_refl _))) hn
      · have : (Instr.makeMap t none).run P w = .ok (.map (some w.heap.size)) (w.alloc (.map #[] 0)) := rfl
        simp only [execOp, ho, Option.map_none, Sem.run_bind, this, Result.andThen_ok, Sem.run_pure]
      · intro I' hk
        exact ⟨[], 0, heap_alloc_new w _, rfl, by simp, by simp [RL]⟩
    · cases hop

theorem mput_sound {I : Nat → Prop} {kd : KD} {key : MK} {u : AV} {v : Value} (hv : RV I w u v) (hf : key.fits kd = true) : ∀ {es : List (MK × AV)} {en : List MapEntry}, en.map (fun e : MapEntry => e.key) = es.map (fun e => e.1.val kd) → (∀ e ∈ es, e.1.fits kd = true) → RL I w (es.map (·.2)) (en.map (fun e : MapEntry => e.val)) → ∀ i clock,
    (fnd key (es.map (·.1)) en i = none ∧ (en ++ [(⟨key.val kd, v, clock⟩ : MapEntry)]).map (fun e : MapEntry => e.key) = (mput es key u).map (fun e => e.1.val kd) ∧ (∀ e ∈ mput es key u, e.1.fits kd = true) ∧ RL I w ((mput es key u).map (·.2)) ((en ++ [(⟨key.val kd, v, clock⟩ : MapEntry)]).map (fun e : MapEntry => e.val))) ∨
    ∃ j x, fnd key (es.map (·.1)) en i = some (i + j, x) ∧ (en[j]?.map (fun e : MapEntry => e.key)) = some (key.val kd) ∧ (en.modify j fun (e : MapEntry) => { e with key := key.val kd, val := v }).map (fun e : MapEntry => e.key) = (mput es key u).map (fun e => e.1.val kd) ∧ (∀ e ∈ mput es key u, e.1.fits kd = true) ∧ RL I w ((mput es key u).map (·.2)) ((en.modify j fun (e : MapEntry) => { e with key := key.val kd, val := v }).map (fun e : MapEntry => e.val))
  | [], en, h1, h2, h3, i, clock => by
    simp only [List.map_nil, List.map_eq_nil_iff] at h1
    subst h1
    refine .inl ⟨rfl, by simp [mput], by simp [mput, hf], ?_⟩
    simp only [mput, List.map_cons, List.map_nil, List.nil_append, RL]
    exact ⟨v, [], rfl, hv, rfl⟩
  | (k, u') :: es, en, h1, h2, h3, i, clock => by
    cases en with
    | nil => simp at h1
    | cons e en =>
      simp only [List.map_cons, List.cons.injEq] at h1
      simp only [List.map_cons, RL] at h3
      obtain ⟨x, xs, e1, hx, hr⟩ := h3
      simp only [List.cons.injEq] at e1
      obtain ⟨rfl, rfl⟩ := e1
      by_cases hk : k = key
      · subst hk
        refine .inr ⟨0, e.val, by simp [fnd], by simp [h1.1], ?_, ?_, ?_⟩
        · simp [mput, h1.2]
        · intro p hp
          simp only [mput, if_true, List.mem_cons] at hp
          rcases hp with rfl | hp
          · exact hf
          · exact h2 p (by simp [hp])
        · simp only [mput, if_true, List.map_cons, List.modify_zero_cons, RL]
          exact ⟨v, _, rfl, hv, hr⟩
      · have hne : mput ((k, u') :: es) key u = (k, u') :: mput es key u := by simp [mput, hk]
        have hfit : ∀ q : List (MK × AV), (∀ e ∈ q, e.1.fits kd = true) → ∀ e ∈ (k, u') :: q, e.1.fits kd = true := by
          intro q hq p hp
          rcases List.mem_cons.1 hp with rfl | hp
          · exact h2 _ (by simp)
          · exact hq p hp
        rcases mput_sound hv hf h1.2 (fun p hp => h2 p (by simp [hp])) hr (i + 1) clock with ⟨g1, g2, g3, g4⟩ | ⟨j, y, g1, g2, g3, g4, g5⟩
        · refine .inl ⟨by simp [fnd, hk, g1], ?_, ?_, ?_⟩
          · rw [hne, List.cons_append, List.map_cons, List.map_cons, g2, h1.1]
          · rw [hne]; exact hfit _ g3
          · rw [hne, List.cons_append]
            simp only [List.map_cons, RL]
            exact ⟨e.val, _, rfl, hx, by simpa using g4⟩
        · refine .inr ⟨j + 1, y, by simp [fnd, hk, g1]; omega, by simpa using g2, ?_, ?_, ?_⟩
          · rw [hne, List.modify_succ_cons, List.map_cons, List.map_cons, g3, h1.1]
          · rw [hne]; exact hfit _ g4
          · rw [hne, List.modify_succ_cons]
            simp only [List.map_cons, RL]
            exact ⟨e.val, _, rfl, hx, g5⟩
theorem sameBits_key {kd : KD} {key : MK} (hf : key.fits kd = true) : Instr.sameBits 10000 (key.val kd) (key.val kd) = true := by
  cases kd with
  | i q => obtain ⟨n, rfl⟩ := fits_i hf; simp [MK.val, Instr.sameBits]
  | s =>
    obtain ⟨b, rfl⟩ := fits_s hf
    show (b == b) = true
    rw [ba_beq, decide_eq_true rfl]
  | a n q =>
    obtain ⟨l, rfl, -⟩ := fits_a hf
    show Instr.sameBits (9999 + 1) _ _ = true
    simp only [MK.val, Instr.sameBits, beq_self_eq_true, Bool.true_and, List.all_eq_true]
    intro p hp
    obtain ⟨i, hi, e⟩ := List.getElem_of_mem hp
    rw [List.getElem_zip] at e
    rw [← e]
    simp [Instr.sameBits]
theorem run_mapUpdate {t kt e : TypeId} (hu : P.underlying t = some (.map kt e)) {kd : KD} (hkd : kdOf P kt = some kd) {key : MK} (hf : key.fits kd = true) {b : Nat} {es : List (MK × AV)} {I : Nat → Prop} {u : AV} {v : Value} (hv : RV I w u v) (hH : HRel I w b (.map kd es)) :
    ∃ (en' : List MapEntry) (clock' : Nat), (Instr.mapUpdate t (.map (some b)) (key.val kd) v).run P w = .ok () { w with heap := w.heap.setIfInBounds b (.map en'.toArray clock') } ∧ en'.map (fun e : MapEntry => e.key) = (mput es key u).map (fun e => e.1.val kd) ∧ (∀ e ∈ mput es key u, e.1.fits kd = true) ∧ RL I w ((mput es key u).map (·.2)) (en'.map (fun e : MapEntry => e.val)) := by
  obtain ⟨en, clock, hb, h1, h2, h3⟩ := hH
  have hfk := run_find (w := w) hkd hf (ks := es.map (·.1)) (en := en) (by rw [h1, List.map_map]; rfl) (fun k hk => by
    obtain ⟨p, hp, rfl⟩ := List.mem_map.1 hk
    exact h2 p hp)
  have hget : (getObj b).run P w = .ok (.map en.toArray clock) w := by simp [getObj, Sem.run, hb]
  have hset : ∀ o : Obj, (setObj b o).run P w = .ok () { w with heap := w.heap.setIfInBounds b o } := fun o => by simp [setObj, Sem.run, hb]
  have hck := run_check (w := w) hkd hf false
  rcases mput_sound hv hf h1 h2 h3 0 clock with ⟨g1, g2, g3, g4⟩ | ⟨j, y, g1, g2, g3, g4, g5⟩
  · refine ⟨en ++ [(⟨key.val kd, v, clock⟩ : MapEntry)], clock + 1, ?_, g2, g3, g4⟩
    unfold Instr.mapUpdate
    simp only [Sem.run_bind, run_underlying hu, Result.andThen_ok, hget, hck]
    rw [hfk, g1]
    simp only [Result.andThen_ok, hset]
    simp
  · refine ⟨en.modify j fun (e : MapEntry) => { e with key := key.val kd, val := v }, clock, ?_, g3, g4, g5⟩
    unfold Instr.mapUpdate
    simp only [Sem.run_bind, run_underlying hu, Result.andThen_ok, hget, hck]
    rw [hfk, g1]
    have hst : (Instr.keyThatStays (((en.toArray[0 + j]?).map (fun e : MapEntry => e.key)).getD (key.val kd)) (key.val kd)).run P w = .ok (key.val kd) w := by
      rw [Nat.zero_add, List.getElem?_toArray, g2, Option.getD_some]
      simp [Instr.keyThatStays, sameBits_key hf]
    simp only [Result.andThen_ok, Sem.run_bind, hst, hset]
    rw [Nat.zero_add]
    simp
theorem hmset_sound {t : TypeId} {mo ko vo : Operand} {op : SOp} (ho : o.op = .mapUpdate t mo ko vo ∨ o.op = .insert t mo ko vo) (hop : opOf P o = some op) (h : Good c s a w) (hd : ∀ d, o.dst = some d → d < a.tmps.size) : HSound P o op c s a w := by
  intro K hr next Q hn
  have hop' : ∃ kt e kd, P.underlying t = some (.map kt e) ∧ kdOf P kt = some kd ∧ op = .mset kd mo ko vo := by
    rcases ho with ho | ho <;> simp only [opOf, ho] at hop <;> split at hop
    · rename_i kt e hu
      obtain ⟨kd, hkd, rfl⟩ := Option.map_eq_some_iff.1 hop
      exact ⟨kt, e, kd, hu, hkd, rfl⟩
    · cases hop
    · rename_i kt e hu
      obtain ⟨kd, hkd, rfl⟩ := Option.map_eq_some_iff.1 hop
      exact ⟨kt, e, kd, hu, hkd, rfl⟩
    · cases hop
  obtain ⟨kt, e, kd, hu, hkd, rfl⟩ := hop'
  simp only [runH] at hr
  unfold msetK at hr
  split at hr
  · rename_i b ka u hx hk hv
    split at hr
    · rename_i kd' es key hH hkey
      obtain ⟨rfl, hdst, hK⟩ := hr
      have ex := oval_rs h.2.1 mo
      have ek := oval_rs h.2.1 ko
      have ev := oval_rs h.2.1 vo
      rw [hx] at ex
      rw [hk] at ek
      rw [hv] at ev
      simp only [RS] at ex ek ev
      simp only [RV] at ex
      obtain ⟨hkv, hkf⟩ := keyq_sound ek hkey
      obtain ⟨htag, hrel⟩ := h.1.hp b _ hH
      obtain ⟨en', clock', hrun, g1, g2, g3⟩ := run_mapUpdate hu hkd hkf ev hrel
      have hbl := h.1.lt b (by rw [htag]; simp)
      have hb' : ({ w with heap := w.heap.setIfInBounds b (.map en'.toArray clock') } : World).heap[b]? = some (.map en'.toArray clock') := by
        simp [hbl]
      have hg : w.grownBy { w with heap := w.heap.setIfInBounds b (.map en'.toArray clock') } (some b) := ⟨rfl, rfl, rfl, by simp, fun k hk hne => by
        have : b ≠ k := fun e => hne (by rw [e])
        simp [Array.getElem?_setIfInBounds, this]⟩
      obtain ⟨hgood, hst⟩ := setH h hg (row := some b) (g := b) (ob := .map kd' (mput es key u)) (by intro b' hb'; injection hb' with hb'; subst hb'; exact htag) (.inl rfl) (by simpa using hbl) (fun I' hk' => ⟨en', clock', hb', g1, g2, RL.keep hk' _ _ g3⟩)
      have heq : s.newhd (some b) b (.map kd' (mput es key u)) = { s with H := upd s.H b (some (.map kd' (mput es key u))) } := by
        unfold S.newhd delH
        congr 1
        funext z
        simp only [upd]
        split <;> rfl
      rw [heq] at hgood
      have hexec : (execOp a.eval o).run P w = .ok .skip { w with heap := w.heap.setIfInBounds b (.map en'.toArray clock') } := by
        rcases ho with ho | ho <;> simp [execOp, ho, ex, hkv, hrun]
      unfold Oper.wp
      rw [hexec, Oper.upon_skip]
      exact hn _ _ _ _ hK (hgood.putUndef o.dst hdst) hst (by cases o.dst <;> simp [Act.put])
    · exact hr.elim
  · exact hr.elim

/-- a slice that is written down, as the function's own -/
def runO (op : SOp) (dst : Option Nat) (s : S) (K : S → Prop) : Prop :=
  match op, dst with
  | .bsl e sz _ len ps, some d => match partsq (oval s.env) ps with
    | some l => match catA sz 0 l with
      | some cs => l.length = len ∧ 0 < sz ∧ K (s.arr d (some d) false cs len e sz)
      | none => False
    | none => False
  | _, _ => False
theorem runO_mono {op : SOp} {dst : Option Nat} {s : S} {K K' : S → Prop} (hk : ∀ s, K s → K' s) (h : runO op dst s K) : runO op dst s K' := by
  unfold runO at h ⊢
  split at h
  · split at h
    · split at h <;> first | exact ⟨h.1, h.2.1, hk _ h.2.2⟩ | exact h
    · exact h
  · exact h
def OSound (P : Program) (o : Oper) (op : SOp) (c : Cx) (s : S) (a : Act) (w : World) : Prop :=
  ∀ {K : S → Prop}, runO op o.dst s K → ∀ {next : Act → World → Prop} {Q : Exit → Act → World → Prop}, (∀ c' s' a' w', K s' → Good c' s' a' w' → Step c w c' w' → a'.tmps.size = a.tmps.size → next a' w') → o.wp P a w next Q
theorem obsl_sound {t n : Nat} {ps : Array (Nat × Operand)} {op : SOp} (ho : o.op = .buildSlice t n ps) (hop : opOf P o = some op) (h : Good c s a w) (hd : ∀ d, o.dst = some d → d < a.tmps.size) : OSound P o op c s a w := by
  intro K hr next Q hn
  simp only [opOf, ho] at hop
  cases hu : P.underlying t with
  | none => simp [hu] at hop
  | some d =>
    cases d <;> simp only [hu, Option.bind_eq_bind, Option.bind_some] at hop <;> try (cases hop; done)
    rename_i e
    obtain ⟨sz, hsz, hop⟩ := Option.bind_eq_some_iff.1 hop
    split at hop
    · cases hop
    · rename_i hlim
      obtain ⟨z, hz, hop⟩ := Option.bind_eq_some_iff.1 hop
      simp only [Option.some.injEq] at hop
      subst hop
      cases hdd : o.dst with
      | none => rw [hdd] at hr; exact hr.elim
      | some d =>
      rw [hdd] at hr
      simp only [runO] at hr
      split at hr
      · rename_i l hl
        split at hr
        · rename_i cs hcs
          obtain ⟨hlen, hpos, hK⟩ := hr
          obtain ⟨zv, hz1, hz2⟩ := tz_some hz w
          obtain ⟨k1, k2⟩ := partsq_sound h.2.1 _ hl
          have hk1 : l.length = ps.toList.length := by rw [k1]; simp
          obtain ⟨zc, hzc⟩ : ∃ zc : Array Value, zc = if n * sz = 0 then #[] else zv.cells := ⟨_, rfl⟩
          obtain ⟨zs, hzs0⟩ : ∃ zs : Array Value, zs = (Array.range (n * sz)).map (zc[· % zc.size]!) := ⟨_, rfl⟩
          have hzs : zs.size = n * sz := by simp [hzs0]
          have hfill := fillA_cat (sz := sz) l [] (zs.toList.map AV.raw) hcs (by simp [hzs, hlen])
          simp only [List.nil_append] at hfill
          obtain ⟨us, h1, h2⟩ := fill_sound (I := c.I) (w := w) (place := fun i => some (i * sz, sz)) (ps.toList.map fun (i, x) => (i, a.eval x)) l (zs.toList.map AV.raw) zs.toList (RL_raw _ _ _) (by simpa using hk1) (by
            intro j p q hj hq
            rw [List.getElem?_map] at hj
            obtain ⟨⟨i, x⟩, hx, rfl⟩ := Option.map_eq_some_iff.1 hj
            obtain ⟨e1, e2, e3⟩ := k2 j (i * sz, sz, x) q (by simp [List.getElem?_map, hx]) hq
            exact ⟨by rw [e1, e2], e3⟩) hfill
          have hcl := catA_length hcs
          have hul := RL_length h2
          have hrun : (execOp a.eval o).run P w = .ok (.value (.slice (some ⟨w.heap.size, 0, none⟩) n n)) (w.alloc (.cells us.toArray e)) := by
            have he : execOp a.eval o = (do pure (.value (← Instr.buildSlice t n (ps.map fun (i, x) => (i, a.eval x))))) := by simp [execOp, ho]
            rw [he, Sem.run_bind]
            have hb : (Instr.buildSlice t n (ps.map fun (i, x) => (i, a.eval x))).run P w = .ok (.slice (some ⟨w.heap.size, 0, none⟩) n n) (w.alloc (.cells us.toArray e)) := by
              unfold Instr.buildSlice
              have hps : (ps.map fun (i, x) => (i, a.eval x)).toList = ps.toList.map fun (i, x) => (i, a.eval x) := by simp
              rw [Sem.run_bind, run_underlying hu, Result.andThen_ok]
              simp only
              rw [Sem.run_bind, tsz_some hsz, Result.andThen_ok, Sem.run_ite, if_neg hlim, Sem.run_ite]
              by_cases h0 : n * sz = 0
              · rw [if_pos h0] at hzc ⊢
                rw [Sem.run_bind, Sem.run_pure, Result.andThen_ok, ← hzc, ← hzs0, hps, show zs = zs.toList.toArray by simp, h1]
                simp only [newRow, Sem.run_bind, run_newObj, Sem.run_pure, Result.andThen_ok]
                rfl
              · rw [if_neg h0] at hzc ⊢
                rw [Sem.run_bind, hz1, Result.andThen_ok, Sem.run_bind, Sem.run_pure, Result.andThen_ok, ← hzc, ← hzs0, hps, show zs = zs.toList.toArray by simp, h1]
                simp only [newRow, Sem.run_bind, run_newObj, Sem.run_pure, Result.andThen_ok]
                rfl
            rw [hb]; rfl
          have hown : (w.alloc (.cells us.toArray e)).ownsRow 0 e sz (.slice (some ⟨w.heap.size, 0, none⟩) n n) n us := by
            refine ⟨by rw [hul, hcl, hlen], .inr ⟨w.heap.size, n, us.toArray, rfl, Nat.zero_le _, heap_alloc_new w _, Nat.le_refl _, ?_, ?_, ?_⟩⟩
            · simp only [maxLen]
              have : n ≤ n * sz := Nat.le_mul_of_pos_right _ hpos
              omega
            · simp; rw [hul, hcl, hlen]
            · rw [List.toList_toArray, List.take_of_length_le (by rw [hul, hcl, hlen]; exact Nat.le_refl _)]
          obtain ⟨hgood, hst⟩ := setArr h d (dst := some d) (by intro x hx; injection hx with hx; subst hx; exact hd _ hdd) (alloc_grown w _) (by intro b hb; cases hb) hpos hown (nl := false) (by simp) (by intro b hb; simp only [Value.ownBlock, Option.some.injEq] at hb; right; omega) ⟨h2, RL_one h2 (catA_one hcs)⟩
          unfold Oper.wp
          rw [hrun, Oper.upon_value, hdd]
          exact hn _ _ _ _ hK hgood hst (by simp [Act.put])
        · exact hr.elim
      · exact hr.elim

theorem happ_sound {cl : Call} {op : SOp} (ho : o.op = .call cl) (hop : opOf P o = some op) (h : Good c s a w) (hd : ∀ d, o.dst = some d → d < a.tmps.size) {t e sz by_ : Nat} {z : Value} {x y : Operand} (he : op = .app t e sz by_ z x y) : HSound P o op c s a w := by
  intro K hr next Q hn
  subst he
  have hop' := hop
  simp only [opOf, ho] at hop'
  have hop' := callOf_old hop' rfl
  unfold callOf0 at hop'
  split at hop'
  · split at hop'
    · split at hop' <;> cases hop'
    · cases hop'
  · cases hop'
  · split at hop' <;> cases hop'
  · cases hop'
  · cases hop'
  · rename_i x' y' t' u' hc hargs htypes
    split at hop'
    · rename_i htu
      subst htu
      simp only [Option.bind_eq_bind] at hop'
      obtain ⟨d, hu, hop'⟩ := Option.bind_eq_some_iff.1 hop'
      cases d <;> simp only at hop' <;> try (cases hop'; done)
      rename_i ety
      obtain ⟨sz', hsz, hop'⟩ := Option.bind_eq_some_iff.1 hop'
      obtain ⟨by', hby, hop'⟩ := Option.bind_eq_some_iff.1 hop'
      obtain ⟨z', hz, hop'⟩ := Option.bind_eq_some_iff.1 hop'
      split at hop'
      · rename_i hzs
        simp only [Option.some.injEq, SOp.app.injEq] at hop'
        obtain ⟨rfl, rfl, rfl, rfl, rfl, rfl, rfl⟩ := hop'
        have hA : cl.args = #[x', y'] := by cases h : cl.args; simp [h] at hargs; subst hargs; rfl
        have hT : cl.argTypes = #[t', t'] := by cases h : cl.argTypes; simp [h] at htypes; subst htypes; rfl
        have he : execOp a.eval o = (do pure (.value (← Builtin.append_ #[t', t'] o.type #[a.eval x', a.eval y']))) := by
          simp [execOp, ho, resolve, hc, hA, hT, invoke, builtin]
        have hx := oval_rs h.2.1 x'
        have hy := oval_rs h.2.1 y'
        simp only [runH] at hr
        unfold hapK at hr
        split at hr
        · rename_i ob n cap pre nly ds m hp hye
          rw [hye] at hy
          obtain ⟨hdl, hb, h63, hK0, hK1⟩ := hr
          -- what is appended to
          have key : ∃ vs, w.ownsRow 0 ety sz' (a.eval x') n vs ∧ R1 c.I w pre vs ∧ (∀ b, (a.eval x').ownBlock = some b → ob = some b ∧ c.ow b = .hp) ∧ (a.eval x').ownBlock = ob := by
            unfold hpre at hp
            split at hp
            · rename_i hxe
              simp only [Option.some.injEq, Prod.mk.injEq] at hp
              obtain ⟨rfl, rfl, rfl, rfl⟩ := hp
              rw [hxe] at hx
              simp only [RS, RV] at hx
              obtain ⟨ad, cap, h1, _, _, h3, _⟩ := hx
              obtain ⟨rfl, rfl⟩ := h3 trivial
              rw [h1]
              exact ⟨[], World.ownsRow_nil w 0 _ _, ⟨by simp [RL], by simp⟩, (by intro b hb; cases hb), rfl⟩
            · rename_i hxe
              simp only [Option.some.injEq, Prod.mk.injEq] at hp
              obtain ⟨rfl, rfl, rfl, rfl⟩ := hp
              rw [hxe] at hx
              have h1 : a.eval x' = .slice none 0 0 := hx
              rw [h1]
              exact ⟨[], World.ownsRow_nil w 0 _ _, ⟨by simp [RL], by simp⟩, (by intro b hb; cases hb), rfl⟩
            · rename_i b n' cap' hxe
              rw [hxe] at hx
              have h1 : a.eval x' = _ := hx
              split at hp
              · rename_i cs cap'' e' sz'' hH
                split at hp
                · rename_i hcond
                  obtain ⟨rfl, rfl, rfl, hnc, hcs⟩ := hcond
                  simp only [Option.some.injEq, Prod.mk.injEq] at hp
                  obtain ⟨rfl, rfl, rfl, rfl⟩ := hp
                  obtain ⟨htag, cur, hb1, hb2, hb3, hb4, hb5⟩ := h.1.hp b _ hH
                  rw [h1]
                  have htk : (cur.take cs.length).take (n' * sz'') = cur.take (n' * sz'') := by rw [List.take_take, Nat.min_eq_left hcs]
                  refine ⟨cur.take (n' * sz''), ⟨by rw [List.length_take, Nat.min_eq_left (by omega)], .inr ⟨b, _, cur.toArray, rfl, Nat.zero_le _, hb1, hnc, hb4, by simpa using hb2, by simp⟩⟩, ?_, ?_, ?_⟩
                  · rw [← htk]
                    exact ⟨RL_take _ hb5.1, fun u hu => hb5.2 u (List.mem_of_mem_take hu)⟩
                  · intro b' hb'
                    simp only [Value.ownBlock, Option.some.injEq] at hb'
                    subst hb'
                    exact ⟨rfl, htag⟩
                  · rfl
                · cases hp
              · cases hp
            · cases hp
          obtain ⟨vs, hown, hr1, hblk, hval⟩ := key
          obtain ⟨nl, hnl⟩ : ∃ nl : Bool, nl = true ↔ a.eval x' = .slice none 0 0 := by
            by_cases hh : a.eval x' = .slice none 0 0
            · exact ⟨true, by simp [hh]⟩
            · exact ⟨false, by simp [hh]⟩
          obtain ⟨v', w', us, hrun, ho', hr', hg, hnl', hat⟩ := app_run (s := s) (ty := o.type) hu hsz hby hz hzs.1 hzs.2 h.1 hown hr1 hnl hy hdl hb h63
          by_cases hm : m = 0
          · -- nothing is appended
            subst hm
            have hrun0 : (Builtin.append_ #[t', t'] o.type #[a.eval x', a.eval y']).run P w = .ok (a.eval x') w := by
              have hy' := hy
              simp only [RS, RV] at hy'
              obtain ⟨ad, cap2, hy2, _⟩ := hy'
              rw [hy2]
              exact app_zero hu hsz hown
            unfold Oper.wp
            rw [he, Sem.run_bind, hrun0, Result.andThen_ok]
            exact hn c _ _ w (hK0 rfl) (h.put hd hx) (Step.refl c w) (by cases o.dst <;> simp [Act.put])
          · rcases ho'.2 with ⟨hv, hn0⟩ | ⟨g, cap', cur, hv, hgb, hheap, hnc, hcm, hcs, htake⟩
            · omega
            · have hgl : g < w'.heap.size := (Array.getElem?_eq_some_iff.1 hheap).1
              have hvb : v'.ownBlock = some g := by rw [hv]; rfl
              have hat' := hat g hvb
              have hcs' : us.length = (pre ++ ds).length := RL_length hr'.1
              rw [hval] at hg hat'
              refine newh_wp (g := g) (v := .slice (some ⟨g, 0, none⟩) (n + m) cap') (ob := .row (pre ++ ds) cap' ety sz') h hd ?_ hg ?_ ?_ hgl ?_ (hK1 (Nat.pos_of_ne_zero hm) g cap' ?_ hnc) hn
              · rw [he, Sem.run_bind, hrun, Result.andThen_ok, hv]; rfl
              · intro b hb; exact (hblk b (by rw [hval]; exact hb)).2
              · exact hat'
              · intro I' hk
                rw [hv] at ho'
                exact ownsRow_hrow (ad := none) ho' hr' hk
              · rcases hat' with hh | hh
                · exact .inl hh
                · exact .inr (fresh_none h hh)
        · exact hr.elim
      · cases hop'
    · cases hop'
  · cases hop'

theorem happz_sound {cl : Call} {op : SOp} (ho : o.op = .call cl) (hop : opOf P o = some op) (h : Good c s a w) (hd : ∀ d, o.dst = some d → d < a.tmps.size) {t e sz by_ : Nat} {z : List Value} {x y : Operand} (he : op = .appz t e sz by_ z x y) : HSound P o op c s a w := by
  intro K hr next Q hn
  subst he
  simp only [opOf, ho] at hop
  unfold callOf at hop
  split at hop
  · rename_i op' hxc
    simp only [Option.some.injEq] at hop
    subst hop
    rcases xcall_spec hxc with ⟨_, _, _, _, _, _, _, hh⟩ | ⟨x', y', t', u, k, e', sz', by', z', h1, h2, h3, h4, h5, hsz, hby, hz, hzl, hs0, hh⟩
    · cases hh
    simp only [SOp.appz.injEq] at hh
    obtain ⟨rfl, rfl, rfl, rfl, rfl, rfl, rfl⟩ := hh
    have hA : cl.args = #[x, y] := by cases h : cl.args; simp [h] at h2; subst h2; rfl
    have hT : cl.argTypes = #[t, u] := by cases h : cl.argTypes; simp [h] at h3; subst h3; rfl
    have he : execOp a.eval o = (do pure (.value (← Builtin.append_ #[t, u] o.type #[a.eval x, a.eval y]))) := by
      simp [execOp, ho, resolve, h1, hA, hT, invoke, builtin]
    have hx := oval_rs h.2.1 x
    have hy := oval_rs h.2.1 y
    simp only [runH] at hr
    split at hr
    · rename_i cs nn kk n hxe hye
      rw [hxe] at hx
      rw [hye] at hy
      obtain ⟨hn0, hb, h62, hz1, hK⟩ := hr
      simp only [RS, RV] at hx
      obtain ⟨ad, cap, hx1, hx2, _, hx3, _⟩ := hx
      obtain ⟨rfl, rfl⟩ := hx3 trivial
      have hnn : nn = 0 := by omega
      subst hnn
      have hm : ((n.toNat : Nat) : Int) = n := by omega
      have ey : a.eval y = .int kk (n.toNat : Nat) := by rw [hm]; exact hy
      obtain ⟨i, hi, hi1⟩ := Option.map_eq_some_iff.1 hsz
      obtain ⟨i', hi', hi2⟩ := Option.map_eq_some_iff.1 hby
      rw [hi] at hi'; injection hi' with hi'; subst hi'
      unfold tz tzv at hz
      obtain ⟨zv, hzv, hz2⟩ := Option.map_eq_some_iff.1 hz
      rw [hi, Option.bind_some] at hzv
      have hpos : 0 < n.toNat := by omega
      have hfit : Builtin.nextslicecap (0 + n.toNat) 0 * i.bytes ≤ 281474976710656 := by
        unfold Builtin.nextslicecap
        rw [if_pos (by omega), hi2, Nat.zero_add]
        omega
      have hrun := Lib.run_append_grow_zeros (P := P) w t u o.type e i zv kk k h5 h4 hi hzv none 0 0 [] (run_firstCells_none w.drew i.size 0 0 0) n.toNat hpos (by rw [hi1]; exact hs0) (by omega) (by omega) (by rw [hi2]; omega) hfit
      have hge := grownCap_ge w (0 + n.toNat) 0 e
      have hle := grownCap_le_maxLen w (0 + n.toNat) 0 e (by unfold maxLen; omega)
      obtain ⟨G, hG⟩ : ∃ G, G = grownCap w (0 + n.toNat) 0 e := ⟨_, rfl⟩
      rw [← hG] at hrun hge hle
      have hzs : zv.cells.size = sz := by rw [← hzl, ← hz2]; simp
      have hzc : ∀ m, (Builtin.zeroCells zv.cells m).toList = (List.replicate m z).flatten := fun m => by
        have := range_rep zv.cells m (by rw [hzs]; exact hs0)
        rw [← hz2, ← this]
        rfl
      have hlen : ∀ m, (List.replicate m z).flatten.length = m * sz := fun m => by
        rw [List.length_flatten]; simp [hzl]
      have hrl := zrep_raw c.I w z n.toNat
      have hcl : ∀ m, (Builtin.zeroCells zv.cells m).size = m * sz := fun m => by rw [← hlen m, ← hzc m]; simp
      refine newh_wp (g := w.heap.size) (w' := w.drew.alloc (.cells (#[] ++ Builtin.zeroCells zv.cells n.toNat ++ Builtin.zeroCells zv.cells (G - (0 + n.toNat))) e)) h hd (v := .slice (some ⟨w.heap.size, 0, none⟩) (0 + n.toNat) G) (row := none) ?_ ?_ (by intro b hb; cases hb) (.inr (Nat.le_refl _)) ?_ (ob := .row (zrep z n.toNat) G e sz) ?_ ?_ hn
      · rw [he, hx1, ey, Sem.run_bind]
        have := hrun
        simp only [List.toArray] at this
        rw [show (Builtin.append_ #[t, u] o.type #[Value.slice none 0 0, .int kk (n.toNat : Nat)]).run P w = _ from hrun, Result.andThen_ok]
        rfl
      · exact ⟨rfl, rfl, rfl, by rw [show (w.drew.alloc _).heap.size = w.drew.heap.size + 1 by simp]; exact Nat.le_succ _, fun k hk _ => heap_alloc_old w.drew _ k hk⟩
      · rw [show (w.drew.alloc _).heap.size = w.drew.heap.size + 1 by simp]
        exact Nat.lt_succ_self _
      · intro I' hk
        refine ⟨(Builtin.zeroCells zv.cells n.toNat).toList ++ (Builtin.zeroCells zv.cells (G - (0 + n.toNat))).toList, ?_, ?_, ?_, hle, ?_⟩
        · have := heap_alloc_new w.drew (.cells (#[] ++ Builtin.zeroCells zv.cells n.toNat ++ Builtin.zeroCells zv.cells (G - (0 + n.toNat))) e)
          rw [show w.drew.heap.size = w.heap.size from rfl] at this
          rw [this]
          simp
        · simp only [List.length_append, hzc, hlen]
          rw [← Nat.add_mul]
          congr 1
          omega
        · rw [← RL_length hrl, hlen, List.length_append, hzc, hlen]; omega
        · have hll := RL_length hrl
          rw [← hll, hzc, List.take_left]
          exact R1.of_keep ⟨hrl, fun u hu => by
            obtain ⟨l', hl', hu'⟩ := List.mem_flatten.1 hu
            rw [(List.mem_replicate.1 hl').2] at hu'
            exact List.all_eq_true.1 hz1 u hu'⟩ hk
      · rw [Nat.zero_add]
        exact hK _ G (fresh_none h (Nat.le_refl _)) (by omega)
    · exact hr.elim
  · have := hop
    exfalso
    unfold callOf0 at hop
    repeat' split at hop
    all_goals first
      | (cases hop; done)
      | (simp only [Option.bind_eq_bind] at hop
         obtain ⟨d, hu, hop⟩ := Option.bind_eq_some_iff.1 hop
         cases d <;> simp only at hop <;> try (cases hop; done)
         obtain ⟨z1, _, hop⟩ := Option.bind_eq_some_iff.1 hop
         obtain ⟨z2, _, hop⟩ := Option.bind_eq_some_iff.1 hop
         obtain ⟨z3, _, hop⟩ := Option.bind_eq_some_iff.1 hop
         split at hop <;> cases hop)
theorem runH_sound {op : SOp} (hop : opOf P o = some op) (h : Good c s a w) (hd : ∀ d, o.dst = some d → d < a.tmps.size) : HSound P o op c s a w := by
  intro K hr next Q hn
  have htag := opOf_tag hop
  cases op
  case alloc t z => cases ho : o.op <;> simp only [ho, tagOf, sTag] at htag <;> first | (cases htag; done) | exact halloc_sound ho hop h hd hr hn
  case box t x => cases ho : o.op <;> simp only [ho, tagOf, sTag] at htag <;> first | (cases htag; done) | exact hbox_sound ho hop h hd hr hn
  case mksl e sz by_ z l k => cases ho : o.op <;> simp only [ho, tagOf, sTag] at htag <;> first | (cases htag; done) | exact hmksl_sound ho hop h hd hr hn
  case bsl e sz z n ps => cases ho : o.op <;> simp only [ho, tagOf, sTag] at htag <;> first | (cases htag; done) | exact hbsl_sound ho hop h hd hr hn
  case app => cases ho : o.op <;> simp only [ho, tagOf, sTag] at htag <;> first | (cases htag; done) | exact happ_sound ho hop h hd rfl hr hn
  case appz => cases ho : o.op <;> simp only [ho, tagOf, sTag] at htag <;> first | (cases htag; done) | exact happz_sound ho hop h hd rfl hr hn
  case mkmap kd => cases ho : o.op <;> simp only [ho, tagOf, sTag] at htag <;> first | (cases htag; done) | exact hmkmap_sound ho hop h hd hr hn
  case mset kd x k v => cases ho : o.op <;> simp only [ho, tagOf, sTag] at htag <;> first | (cases htag; done) | exact hmset_sound (.inl ho) hop h hd hr hn | exact hmset_sound (.inr ho) hop h hd hr hn
  all_goals exact hr.elim

end
end Go.Proofs.Ytejmcijcdhoogaa.Abs
