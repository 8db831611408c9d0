import Derived.Test.YtejmcijcdhoogaaAbs7
set_option linter.unusedSimpArgs false
set_option linter.unusedVariables false
namespace Go.Proofs.Ytejmcijcdhoogaa.Abs
open Go

structure S where
  env : List (Nat × SV)
  loc : List (Nat × LObj)
  H : AHeap

def Good (c : Cx) (s : S) (a : Act) (w : World) : Prop := MRel c s.loc s.H w ∧ ERel c w s.env a.tmps ∧ a.defers = []

def OS (P : Program) (o : Oper) (c : Cx) (w : World) (a : Act) (s' : S) : Prop :=
  ∃ v w' c', ((execOp a.eval o).run P w = .ok (.value v) w' ∨ ((execOp a.eval o).run P w = .ok .skip w' ∧ v = undef)) ∧ Good c' s' (a.put o.dst v) w' ∧ Step c w c' w'

def S.put (s : S) (dst : Option Nat) (v : SV) : S :=
  match dst with
  | some d => { s with env := Abs.put s.env d v }
  | none => s
/-- the slot of what was not done -/
def S.drop (s : S) (dst : Option Nat) : S :=
  match dst with
  | some d => { s with env := Abs.put s.env d (.v (.raw (.tuple #[]))) }
  | none => s

section
variable {P : Program} {o : Oper} {so : SOp} {c c' : Cx} {w w' : World} {a : Act} {s : S}

theorem ERel.putD {env : List (Nat × SV)} (h : ERel c w env a.tmps) {dst : Option Nat} (hd : ∀ d, dst = some d → d < a.tmps.size) {sv : SV} {v : Value} (hs : RS c w sv v) :
    ERel c w (match dst with | some d => Abs.put env d sv | none => env) (a.put dst v).tmps := by
  cases dst with
  | none => exact h
  | some d => exact h.put (hd d rfl) hs

theorem Good.put (h : Good c s a w) (hd : ∀ d, o.dst = some d → d < a.tmps.size) {sv : SV} {v : Value} (hs : RS c w sv v) : Good c (s.put o.dst sv) (a.put o.dst v) w := by
  obtain ⟨h1, h2, h3⟩ := h
  cases hdst : o.dst with
  | none => exact ⟨h1, h2, h3⟩
  | some d => exact ⟨h1, h2.put (hd d hdst) hs, h3⟩
theorem Good.drop (h : Good c s a w) (dst : Option Nat) (hd : ∀ d, dst = some d → d < a.tmps.size) : Good c (s.drop dst) (a.put dst undef) w := by
  obtain ⟨h1, h2, h3⟩ := h
  cases dst with
  | none => exact ⟨h1, h2, h3⟩
  | some d => exact ⟨h1, h2.put (hd d rfl) (by simp [RS, RV, undef]), h3⟩

theorem Good.grow (h : Good c s a w) (hg : Grow c w c' w') : Good c' s a w' := ⟨hg.mrel h.1, hg.erel h.2.1, h.2.2⟩

theorem OS.quiet (hop : opOf P o = some so) (h : Good c s a w) (hd : ∀ d, o.dst = some d → d < a.tmps.size) {sv : SV} (hq : qop s.loc s.H (oval s.env) so = some sv) : OS P o c w a (s.put o.dst sv) := by
  obtain ⟨v, hr, hs⟩ := qop_sound hop h.1 h.2.1 hq
  exact ⟨v, w, c, .inl hr, h.put hd hs, Step.refl c w⟩

/-! ### a slice of given elements: immutable -/
def catA (sz : Nat) : Nat → List (Nat × Nat × AV) → Option (List AV)
  | _, [] => some []
  | k, (off, n, a) :: r => if off = k ∧ n = sz then
      match acells a, catA sz (k + sz) r with
      | some ds, some l => if ds.length = sz ∧ ds.all aone then some (ds ++ l) else none
      | _, _ => none
    else none

theorem catA_length {sz : Nat} : ∀ {l : List (Nat × Nat × AV)} {k : Nat} {cs : List AV}, catA sz k l = some cs → cs.length = l.length * sz
  | [], k, cs, h => by simp [catA] at h; subst h; simp
  | (off, n, a) :: r, k, cs, h => by
    simp only [catA] at h
    split at h
    · split at h
      · rename_i ds l h1 h2
        split at h
        · rename_i hl
          simp only [Option.some.injEq] at h; subst h
          simp [catA_length h2, hl.1, Nat.add_mul, Nat.add_comm]
        · cases h
      · cases h
    · cases h

theorem catA_one {sz : Nat} : ∀ {l : List (Nat × Nat × AV)} {k : Nat} {cs : List AV}, catA sz k l = some cs → ∀ u ∈ cs, aone u = true
  | [], k, cs, h => by simp [catA] at h; subst h; simp
  | (off, n, a) :: r, k, cs, h => by
    simp only [catA] at h
    split at h
    · split at h
      · rename_i ds l h1 h2
        split at h
        · rename_i hl
          simp only [Option.some.injEq] at h; subst h
          intro u hu
          rcases List.mem_append.1 hu with hu | hu
          · exact List.all_eq_true.1 hl.2 u hu
          · exact catA_one h2 u hu
        · cases h
      · cases h
    · cases h

theorem fillA_cat {sz : Nat} : ∀ (l : List (Nat × Nat × AV)) (pre rest : List AV) {cs : List AV}, catA sz pre.length l = some cs → rest.length = l.length * sz → fillA (pre ++ rest) l = some (pre ++ cs)
  | [], pre, rest, cs, h, hr => by
    simp [catA] at h; subst h
    have : rest = [] := List.eq_nil_of_length_eq_zero (by simpa using hr)
    subst this; simp [fillA]
  | (off, n, a) :: r, pre, rest, cs, h, hr => by
    simp only [catA] at h
    split at h
    · rename_i ho
      obtain ⟨rfl, rfl⟩ := ho
      split at h
      · rename_i ds l h1 h2
        split at h
        · rename_i hl
          simp only [Option.some.injEq] at h; subst h
          simp only [List.length_cons, Nat.add_mul, Nat.one_mul] at hr
          simp only [fillA, h1]
          rw [if_pos ⟨hl.1, by simp; omega⟩]
          rw [List.take_left', List.drop_append, show pre.length + n - pre.length = n by omega, List.drop_of_length_le (by omega : pre.length ≤ pre.length + n), List.nil_append]
          · have := fillA_cat r (pre ++ ds) (rest.drop n) (cs := l) (by rw [List.length_append, hl.1]; exact h2) (by simp; omega)
            rw [this]
            simp
          · rfl
        · cases h
      · cases h
    · cases h

theorem RL_one {I : Nat → Prop} {w : World} : ∀ {cs : List AV} {vs : List Value}, RL I w cs vs → (∀ u ∈ cs, aone u = true) → ∀ v ∈ vs, v.oneCell' = true
  | [], vs, h, _ => by simp only [RL] at h; subst h; simp
  | c :: cs, vs, h, h1 => by
    simp only [RL] at h
    obtain ⟨u, us, rfl, h2, h3⟩ := h
    intro v hv
    rcases List.mem_cons.1 hv with rfl | hv
    · exact aone_sound h2 (h1 c (by simp))
    · exact RL_one h3 (fun u hu => h1 u (by simp [hu])) v hv

/-- the value of a slice of given elements -/
def bslq (e : Operand → SV) (sz len : Nat) (ps : List (Nat × Nat × Operand)) : Option SV :=
  match partsq e ps with
  | some l => match catA sz 0 l with
    | some cs => if l.length = len ∧ 0 < sz then some (.v (.vec false cs len)) else none
    | none => none
  | none => none

theorem bsl_sound {t n : Nat} {ps : Array (Nat × Operand)} (ho : o.op = .buildSlice t n ps) (hop : opOf P o = some so) (h : Good c s a w) :
    ∃ e sz z qs, so = .bsl e sz z n qs ∧ ∀ sv, bslq (oval s.env) sz n qs = some sv → ∃ v w' c', (execOp a.eval o).run P w = .ok (.value v) w' ∧ Grow c w c' w' ∧ RS c' w' sv v := by
  simp only [opOf, ho] at hop
  cases hu : P.underlying t with
  | none => simp [hu] at hop
  | some d =>
    cases d <;> simp only [hu, Option.bind_eq_bind, Option.bind_some] at hop <;> try (cases hop; done)
    rename_i e
    obtain ⟨sz, hsz, hop⟩ := Option.bind_eq_some_iff.1 hop
    split at hop
    · cases hop
    · rename_i hlim
      obtain ⟨z, hz, hop⟩ := Option.bind_eq_some_iff.1 hop
      simp only [Option.some.injEq] at hop
      refine ⟨e, sz, z, _, hop.symm, fun sv hq => ?_⟩
      unfold bslq at hq
      split at hq
      · rename_i l hl
        split at hq
        · rename_i cs hcs
          split at hq
          · rename_i hlen
            obtain ⟨hlen, hpos⟩ := hlen
            simp only [Option.some.injEq] at hq; subst hq
            obtain ⟨zv, hz1, hz2⟩ := tz_some hz w
            obtain ⟨k1, k2⟩ := partsq_sound h.2.1 _ hl
            have hk1 : l.length = ps.toList.length := by rw [k1]; simp
            obtain ⟨zc, hzc⟩ : ∃ zc : Array Value, zc = if n * sz = 0 then #[] else zv.cells := ⟨_, rfl⟩
            obtain ⟨zs, hzs0⟩ : ∃ zs : Array Value, zs = (Array.range (n * sz)).map (zc[· % zc.size]!) := ⟨_, rfl⟩
            have hzs : zs.size = n * sz := by simp [hzs0]
            have hfill := fillA_cat (sz := sz) l [] (zs.toList.map AV.raw) hcs (by simp [hzs, hlen])
            simp only [List.nil_append] at hfill
            obtain ⟨us, h1, h2⟩ := fill_sound (I := c.I) (w := w) (place := fun i => some (i * sz, sz)) (ps.toList.map fun (i, x) => (i, a.eval x)) l (zs.toList.map AV.raw) zs.toList (RL_raw _ _ _) (by simpa using hk1) (by
              intro j p q hj hq
              rw [List.getElem?_map] at hj
              obtain ⟨⟨i, x⟩, hx, rfl⟩ := Option.map_eq_some_iff.1 hj
              obtain ⟨e1, e2, e3⟩ := k2 j (i * sz, sz, x) q (by simp [List.getElem?_map, hx]) hq
              exact ⟨by rw [e1, e2], e3⟩) hfill
            have hcl := catA_length hcs
            refine ⟨.slice (some ⟨w.heap.size, 0, none⟩) n n, w.alloc (.cells us.toArray e), _, ?_, Grow.imm h.1.lt _, ?_⟩
            · have he : execOp a.eval o = (do pure (.value (← Instr.buildSlice t n (ps.map fun (i, x) => (i, a.eval x))))) := by simp [execOp, ho]
              rw [he, Sem.run_bind]
              have hb : (Instr.buildSlice t n (ps.map fun (i, x) => (i, a.eval x))).run P w = .ok (.slice (some ⟨w.heap.size, 0, none⟩) n n) (w.alloc (.cells us.toArray e)) := by
                unfold Instr.buildSlice
                have hps : (ps.map fun (i, x) => (i, a.eval x)).toList = ps.toList.map fun (i, x) => (i, a.eval x) := by simp
                rw [Sem.run_bind, run_underlying hu, Result.andThen_ok]
                simp only
                rw [Sem.run_bind, tsz_some hsz, Result.andThen_ok, Sem.run_ite, if_neg hlim, Sem.run_ite]
                by_cases h0 : n * sz = 0
                · rw [if_pos h0] at hzc ⊢
                  rw [Sem.run_bind, Sem.run_pure, Result.andThen_ok, ← hzc, ← hzs0, hps, show zs = zs.toList.toArray by simp, h1]
                  simp only [newRow, Sem.run_bind, run_newObj, Sem.run_pure, Result.andThen_ok]
                  rfl
                · rw [if_neg h0] at hzc ⊢
                  rw [Sem.run_bind, hz1, Result.andThen_ok, Sem.run_bind, Sem.run_pure, Result.andThen_ok, ← hzc, ← hzs0, hps, show zs = zs.toList.toArray by simp, h1]
                  simp only [newRow, Sem.run_bind, run_newObj, Sem.run_pure, Result.andThen_ok]
                  rfl
              rw [hb]; rfl
            · simp only [RS, RV]
              refine ⟨_, _, rfl, Nat.le_refl _, ?_, by simp, by simp, ?_, ?_⟩
              · simp only [maxLen]
                have : n ≤ n * sz := Nat.le_mul_of_pos_right _ hpos
                omega
              · intro hn hcs0
                have h0 : n * sz = 0 := by rw [← hlen, ← hcl, hcs0]; rfl
                have := Nat.mul_pos (Nat.pos_of_ne_zero hn) hpos
                omega
              · intro hne
                refine ⟨w.heap.size, 0, rfl, by simp [Cx.I, upd_self], RCells_of fun j u hj => ?_⟩
                have h2' := RL.keep (Grow.imm h.1.lt (.cells us.toArray e)).keep _ _ h2
                obtain ⟨x, hx, hr⟩ := RL_get h2' hj
                exact ⟨x, by rw [Nat.zero_add, cell_block (heap_alloc_new w _)]; exact hx, RL_one h2 (catA_one hcs) x (List.mem_of_getElem? hx), hr⟩
          · cases hq
        · cases hq
      · cases hq

/-! ### a new local object -/
def S.newc (s : S) (d : Nat) (cs : List AV) (t : TypeId) : S := { env := Abs.put (clr s.env d) d (.loc d 0), loc := Abs.put s.loc d (.cells cs t), H := s.H }

theorem newc_good (h : Good c s a w) {d : Nat} (hd : d < a.tmps.size) (ho : o.dst = some d) {cs : List AV} {vs : List Value} (t : TypeId) (hr : R1 c.I w cs vs) :
    Good { ow := upd c.ow w.heap.size (.loc d), β := upd c.β d w.heap.size, ν := c.ν } (s.newc d cs t) (a.put o.dst (.pointer (some ⟨w.heap.size, 0, none⟩))) (w.alloc (.cells vs.toArray t)) ∧
    Step c w { ow := upd c.ow w.heap.size (.loc d), β := upd c.β d w.heap.size, ν := c.ν } (w.alloc (.cells vs.toArray t)) := by
  obtain ⟨h1, h2, h3⟩ := h
  have hne : ∀ b, b < w.heap.size → upd c.ow w.heap.size (.loc d) b = c.ow b := fun b hb => upd_ne _ _ (by omega)
  have hst : Step c w { ow := upd c.ow w.heap.size (.loc d), β := upd c.β d w.heap.size, ν := c.ν } (w.alloc (.cells vs.toArray t)) :=
    ⟨rfl, rfl, rfl, by simp, fun b hb _ => heap_alloc_old w _ b hb, fun b hb => by simp only [hne b hb]; exact ⟨id, id⟩⟩
  have hk := hst.keep h1.lt
  refine ⟨⟨?_, ?_, by cases o.dst <;> exact h3⟩, hst⟩
  · refine h1.upd hk ?_ ?_ ?_
    · intro b hb
      by_cases e : w.heap.size = b
      · subst e; simp
      · have hb' : c.ow b ≠ .free := by
          have : upd c.ow w.heap.size (Ow.loc d) b = c.ow b := upd_ne _ _ e
          rw [← this]; exact hb
        have := h1.lt b hb'
        simp; omega
    · intro d' ob hg
      simp only [S.newc, get_put] at hg
      by_cases e : d = d'
      · subst e
        simp only [if_true, Option.some.injEq] at hg; subst hg
        left
        refine ⟨by simp [upd_self], vs, ?_, hr.keep hk⟩
        show (w.alloc _).heap[upd c.β d w.heap.size d]? = _
        rw [upd_self]
        exact heap_alloc_new w _
      · rw [if_neg e] at hg
        right
        refine ⟨hg, upd_ne _ _ e, rfl, fun b hb => ?_⟩
        have hlt := h1.lt b (by rw [hb]; simp)
        exact ⟨(hne b hlt).trans hb, heap_alloc_old w _ b hlt⟩
    · intro b ob hb
      right
      refine ⟨hb, fun htag => ?_⟩
      have hlt := h1.lt b (by rw [htag]; simp)
      exact ⟨(hne b hlt).trans htag, heap_alloc_old w _ b hlt⟩
  · rw [ho]
    refine ERel.put (h2.clr hk d fun d' hd' => ⟨upd_ne _ _ (Ne.symm hd'), rfl⟩) hd ?_
    simp [RS, upd_self]

end
end Go.Proofs.Ytejmcijcdhoogaa.Abs
