import Derived.Test.YtejmcijcdhoogaaAbsK
set_option linter.unusedSimpArgs false
set_option linter.unusedVariables false
namespace Go.Proofs.Ytejmcijcdhoogaa.Abs
open Go

/-! ### contracts -/
structure HOK (I : Nat → Prop) (H : AHeap) (w : World) : Prop where
  im : ∀ b, I b → b < w.heap.size ∧ H b = none
  hp : ∀ b o, H b = some o → b < w.heap.size ∧ HRel I w b o

structure Fr (I : Nat → Prop) (H : AHeap) (w : World) (I' : Nat → Prop) (H' : AHeap) (w' : World) : Prop where
  os : w'.os = w.os
  tape : w'.tape = w.tape
  output : w'.output = w.output
  size : w.heap.size ≤ w'.heap.size
  blk : ∀ b, b < w.heap.size → H b = none → w'.heap[b]? = w.heap[b]?
  imm : ∀ b, I b → I' b
  imm' : ∀ b, I' b → I b ∨ H b ≠ none ∨ w.heap.size ≤ b
  hp' : ∀ b, H' b ≠ none → H b ≠ none ∨ w.heap.size ≤ b

def callable (P : Program) (f : FuncId) : Bool :=
  match P.funcs[f]? with
  | some fn => !(fn.name == "runtime.NumGoroutine") && fn.body.isSome
  | none => false

def ACalls (P : Program) (f : FuncId) (args : List AV) (H : AHeap) (Q : AV → AHeap → Prop) : Prop :=
  callable P f = true ∧ ∀ (I : Nat → Prop) (w : World) (vs : List Value), HOK I H w → RL I w args vs →
    Calls P f vs.toArray w fun e w' => ∃ r H' I' v, e = .returned v ∧ Q r H' ∧ HOK I' H' w' ∧ RV I' w' r v ∧ Fr I H w I' H' w'

theorem ACalls.mono {P : Program} {f : FuncId} {args : List AV} {H : AHeap} {Q Q' : AV → AHeap → Prop} (h : ACalls P f args H Q) (hq : ∀ r H', Q r H' → Q' r H') : ACalls P f args H Q' :=
  ⟨h.1, fun I w vs h1 h2 => (h.2 I w vs h1 h2).mono fun e w' ⟨r, H', I', v, e1, e2, e3⟩ => ⟨r, H', I', v, e1, hq r H' e2, e3⟩⟩

/-- a call leaves alone what it is not told of -/
theorem ACalls.frame {P : Program} {f : FuncId} {args : List AV} {H : AHeap} {Q : AV → AHeap → Prop} {b : Nat} {o : HObj} (hb : H b = none) (h : ACalls P f args H Q) : ACalls P f args (upd H b (some o)) fun r H1 => ∃ H', Q r H' ∧ H1 = upd H' b (some o) := by
  refine ⟨h.1, fun I w vs hok hrl => ?_⟩
  have hne : ∀ b', upd H b (some o) b' = none → b' ≠ b ∧ H b' = none := fun b' hh => by
    by_cases e : b = b'
    · subst e; rw [upd_self] at hh; cases hh
    · rw [upd_ne _ _ e] at hh; exact ⟨Ne.symm e, hh⟩
  have hok' : HOK I H w := ⟨fun b' hi => ⟨(hok.im b' hi).1, (hne b' (hok.im b' hi).2).2⟩, fun b' o' ho => hok.hp b' o' (by
    rw [upd_ne _ _ (by rintro rfl; rw [hb] at ho; cases ho)]; exact ho)⟩
  obtain ⟨hbl, hbr⟩ := hok.hp b o (upd_self _ _ _)
  have hIb : ¬ I b := fun hi => (hne b (hok.im b hi).2).1 rfl
  refine (h.2 I w vs hok' hrl).mono fun e w' ⟨r, H', I', v, e1, e2, e3, e4, e5⟩ => ?_
  have hHb : H' b = none := by
    cases hq : H' b with
    | none => rfl
    | some o' => rcases e5.hp' b (by rw [hq]; simp) with h1 | h1
                 · exact absurd hb h1
                 · omega
  have hIb' : ¬ I' b := fun hi => by
    rcases e5.imm' b hi with h1 | h1 | h1
    · exact hIb h1
    · exact h1 hb
    · omega
  have hk : Keep I I' w w' := fun b' hi => ⟨e5.imm b' hi, e5.blk b' (hok'.im b' hi).1 (hok'.im b' hi).2⟩
  refine ⟨r, upd H' b (some o), I', v, e1, ⟨H', e2, rfl⟩, ⟨fun b' hi => ⟨(e3.im b' hi).1, ?_⟩, fun b' o' ho => ?_⟩, e4, ⟨e5.os, e5.tape, e5.output, e5.size, fun b' hl hn => e5.blk b' hl (hne b' hn).2, e5.imm, fun b' hi => ?_, fun b' hn => ?_⟩⟩
  · rw [upd_ne _ _ (by rintro rfl; exact hIb' hi)]
    exact (e3.im b' hi).2
  · by_cases e : b = b'
    · subst e
      rw [upd_self, Option.some.injEq] at ho
      subst ho
      exact ⟨Nat.lt_of_lt_of_le hbl e5.size, hbr.keep hk (e5.blk b hbl hb)⟩
    · rw [upd_ne _ _ e] at ho
      exact e3.hp b' o' ho
  · rcases e5.imm' b' hi with h1 | h1 | h1
    · exact .inl h1
    · exact .inr (.inl (by rw [upd_ne _ _ (by rintro rfl; exact h1 hb)]; exact h1))
    · exact .inr (.inr h1)
  · by_cases e : b = b'
    · subst e; exact .inl (by rw [upd_self]; simp)
    · rw [upd_ne _ _ e] at hn ⊢
      exact e5.hp' b' hn

theorem callFunc_ok {P : Program} {f : FuncId} (h : callable P f = true) (args : Array Value) (w : World) : (callFunc f args).run P w = .ok (.enter f args) w := by
  unfold callable at h
  unfold callFunc
  rw [Sem.run_bind, run_program, Result.andThen_ok]
  cases hf : P.funcs[f]? with
  | none => rw [hf] at h; cases h
  | some fn =>
    rw [hf] at h
    simp only [Bool.and_eq_true, Bool.not_eq_true', Option.isSome_iff_exists] at h
    obtain ⟨h1, body, h2⟩ := h
    simp only [hf]
    rw [if_neg (by simpa using h1), if_neg (by simp [h2])]
    rfl

section
variable {P : Program} {o : Oper} {c c' : Cx} {w w' : World} {a : Act} {s : S}

theorem Good.hok (h : Good c s a w) : HOK c.I s.H w where
  im b hb := by
    have hb' : c.ow b = .imm := hb
    refine ⟨h.1.lt b (by rw [hb']; simp), ?_⟩
    cases hh : s.H b with
    | none => rfl
    | some o => have := (h.1.hp b o hh).1; rw [hb'] at this; cases this
  hp b o ho := ⟨h.1.lt b (by rw [(h.1.hp b o ho).1]; simp), (h.1.hp b o ho).2⟩

open Classical in
/-- the tags behind a call -/
noncomputable def cxCall (c : Cx) (I' : Nat → Prop) (H' : AHeap) : Cx :=
  { ow := fun b => if I' b then .imm else if H' b ≠ none then .hp else match c.ow b with
      | .loc d => .loc d
      | _ => .free
    β := c.β, ν := c.ν }

theorem call_good (h : Good c s a w) {I' : Nat → Prop} {H' : AHeap} (hok : HOK I' H' w') (hf : Fr c.I s.H w I' H' w') :
    Good (cxCall c I' H') { s with H := H' } a w' ∧ Step c w (cxCall c I' H') w' ∧ (cxCall c I' H').I = I' := by
  have hH : ∀ b, s.H b ≠ none → c.ow b = .hp := by
    intro b hb
    cases hh : s.H b with
    | none => exact absurd hh hb
    | some o => exact (h.1.hp b o hh).1
  have hnI : ∀ b, b < w.heap.size → c.ow b ≠ .imm → c.ow b ≠ .hp → ¬ I' b ∧ H' b = none := by
    intro b hb h1 h2
    constructor
    · intro hi
      rcases hf.imm' b hi with h | h | h
      · exact h1 h
      · exact h2 (hH b h)
      · omega
    · cases hh : H' b with
      | none => rfl
      | some o =>
        rcases hf.hp' b (by rw [hh]; simp) with h | h
        · exact absurd (hH b h) h2
        · omega
  have hloc : ∀ b d, c.ow b = .loc d → (cxCall c I' H').ow b = .loc d ∧ w'.heap[b]? = w.heap[b]? := by
    intro b d hb
    have hlt := h.1.lt b (by rw [hb]; simp)
    obtain ⟨h1, h2⟩ := hnI b hlt (by rw [hb]; simp) (by rw [hb]; simp)
    refine ⟨by simp [cxCall, h1, h2, hb], hf.blk b hlt ?_⟩
    cases hh : s.H b with
    | none => rfl
    | some o => have := hH b (by rw [hh]; simp); rw [hb] at this; cases this
  have hI : (cxCall c I' H').I = I' := by
    funext b
    apply propext
    constructor
    · intro hb
      have hb' : (cxCall c I' H').ow b = .imm := hb
      unfold cxCall at hb'
      simp only at hb'
      split at hb'
      · assumption
      · split at hb'
        · cases hb'
        · split at hb' <;> cases hb'
    · intro hb
      show (cxCall c I' H').ow b = .imm
      simp [cxCall, hb]
  have hst : Step c w (cxCall c I' H') w' := by
    refine ⟨hf.os, hf.tape, hf.output, hf.size, fun b hb ht => hf.blk b hb ?_, fun b hb => ⟨fun ht => ?_, fun ht => ?_⟩⟩
    · cases hh : s.H b with
      | none => rfl
      | some o => have := hH b (by rw [hh]; simp); rw [this] at ht; rcases ht with ht | ht <;> cases ht
    · obtain ⟨h1, h2⟩ := hnI b hb (by rw [ht]; simp) (by rw [ht]; simp)
      simp [cxCall, h1, h2, ht]
    · simp [cxCall, hf.imm b ht]
  have hk := hst.keep h.1.lt
  refine ⟨⟨?_, h.2.1.same hk rfl rfl, h.2.2⟩, hst, hI⟩
  refine h.1.upd hk ?_ ?_ ?_
  · intro b hb
    unfold cxCall at hb
    simp only at hb
    split at hb
    · rename_i hi; exact (hok.im b hi).1
    · split at hb
      · rename_i hh
        cases hq : H' b with
        | none => exact absurd hq hh
        | some o => exact (hok.hp b o hq).1
      · split at hb
        · rename_i d hd; exact Nat.lt_of_lt_of_le (h.1.lt b (by rw [hd]; simp)) hf.size
        · exact absurd rfl hb
  · intro d ob hg
    exact .inr ⟨hg, rfl, rfl, fun b hb => hloc b d hb⟩
  · intro b ob hb
    left
    have hb' : H' b = some ob := hb
    have hni : ¬ I' b := fun hi => by have := (hok.im b hi).2; rw [hb'] at this; cases this
    refine ⟨by simp [cxCall, hni, hb'], ?_⟩
    rw [hI]
    exact (hok.hp b ob hb').2

/-! ### the statements of a region -/
def esc : SOp → List Operand
  | .box _ x => [x]
  | .store _ _ y => [y]
  | .app _ _ _ _ _ _ y => [y]
  | .bsl _ _ _ _ ps => ps.map (·.2.2)
  | .build _ ps => ps.map (·.2.2)
  | .mkfn _ xs ys => xs ++ ys
  | .call _ xs => xs
  | .cald _ xs => xs
  | .mset _ _ k v => [k, v]
  | .slc (some _) x _ _ _ => [x]
  | .hp op => esc op
  | .ow op => esc op
  | _ => []

def frzAll (s : S) : List Operand → S
  | [] => s
  | x :: r => frzAll (match (oval s.env x).key with | some d => s.frz d | none => s) r

theorem frzAll_good : ∀ (xs : List Operand) {s : S} {c : Cx}, Good c s a w → ∃ c', Good c' (frzAll s xs) a w ∧ Step c w c' w
  | [], s, c, h => ⟨c, h, Step.refl c w⟩
  | x :: r, s, c, h => by
    simp only [frzAll]
    cases (oval s.env x).key with
    | none => exact frzAll_good r h
    | some d =>
      obtain ⟨c1, h1, s1⟩ := frz_good h d
      obtain ⟨c2, h2, s2⟩ := frzAll_good r h1
      exact ⟨c2, h2, s1.trans s2⟩

def fnOf : SV → Option (FuncId × List AV × List AV)
  | .v (.fn (.func f) xs ys) => some (f, xs, ys)
  | .v (.raw (.func (.func f) xs ys)) => some (f, xs.toList.map .raw, ys.toList.map .raw)
  | _ => none

def runOp1 (P : Program) (st : Stmt) (s : S) (K : S → Prop) : Prop :=
  match st.op with
  | .alloc t z => match st.dst with
    | some d => (z.map cAV).all aone = true ∧ K (s.newc d (z.map cAV) t)
    | none => False
  | .box t x => match oval s.env x, st.dst with
    | .v u, some d => match acells u with
      | some cs => cs.all aone = true ∧ K (s.newc d cs t)
      | none => False
    | _, _ => False
  | .store n x y => match oval s.env y with
    | .v u => match acells u with
      | some ds => match storeq s n (oval s.env x) ds with
        | some s' => st.dst = none ∧ K s'
        | none => False
      | none => False
    | _ => False
  | .mksl e sz by_ z l k => match oval s.env l, oval s.env k, st.dst with
    | .v (.raw (.int _ n)), .v (.raw (.int _ m)), some d => 0 ≤ n ∧ m = n ∧ by_ * n.toNat ≤ 281474976710656 ∧ n.toNat ≤ maxLen ∧ z.all (·.oneCell') = true ∧ K (s.arr d (some d) false (zrep z n.toNat) n.toNat e sz)
    | _, _, _ => False
  | .app _ e sz by_ _ x y => match appq s st.dst e sz by_ (oval s.env x) (oval s.env y) with
    | some s' => K s'
    | none => False
  | .bsl _ sz _ len ps => match bslq (oval s.env) sz len ps with
    | some sv => K (s.put st.dst sv)
    | none => False
  | .call f xs => match allAV (xs.map (oval s.env)) with
    | some us => ACalls P f us s.H fun r H' => K ({ s with H := H' }.put st.dst (.v r))
    | none => False
  | .cald x xs => match fnOf (oval s.env x), allAV (xs.map (oval s.env)) with
    | some (f, first, cap), some us => ACalls P f (first ++ us ++ cap) s.H fun r H' => K ({ s with H := H' }.put st.dst (.v r))
    | _, _ => False
  | .hp op => runH op st.dst s K
  | .ow op => runO op st.dst s K
  | op => match qop s.loc s.H (oval s.env) op with
    | some sv => K (s.put st.dst sv)
    | none => False

def runStmt (P : Program) (st : Stmt) (s : S) (K : S → Prop) : Prop :=
  match st.guard with
  | none => runOp1 P st (frzAll s (esc st.op)) K
  | some (g, want) => match oval s.env (.tmp g) with
    | .v (.raw (.bool b)) => if b = want then runOp1 P st (frzAll s (esc st.op)) K else K (s.drop st.dst)
    | .v (.raw (.tuple _)) => K (s.drop st.dst)
    | _ => False

def runOps (P : Program) : List Stmt → S → (S → Prop) → Prop
  | [], s, K => K s
  | st :: r, s, K => runStmt P st s fun s' => runOps P r s' K

theorem Oper.wp_OS {next : Act → World → Prop} {Q : Exit → Act → World → Prop} {s' : S} (h : OS P o c w a s') (hn : ∀ c' a' w', Good c' s' a' w' → Step c w c' w' → a'.tmps.size = a.tmps.size → next a' w') : o.wp P a w next Q := by
  obtain ⟨v, w', c', hr, hg, hst⟩ := h
  have hsz : (a.put o.dst v).tmps.size = a.tmps.size := by cases o.dst <;> simp [Act.put]
  unfold Oper.wp
  rcases hr with hr | ⟨hr, rfl⟩
  · rw [hr, Oper.upon_value]
    exact hn c' _ w' hg hst hsz
  · rw [hr, Oper.upon_skip]
    exact hn c' _ w' hg hst hsz

theorem call_wp {f : FuncId} {us : List AV} {vs : List Value} (he : (execOp a.eval o).run P w = .ok (.enter f vs.toArray) w) (h : Good c s a w) (hd : ∀ d, o.dst = some d → d < a.tmps.size) {K : S → Prop} (hrl : RL c.I w us vs)
    (hc : ACalls P f us s.H fun r H' => K ({ s with H := H' }.put o.dst (.v r))) {next : Act → World → Prop} {Q : Exit → Act → World → Prop}
    (hn : ∀ c' s' a' w', K s' → Good c' s' a' w' → Step c w c' w' → a'.tmps.size = a.tmps.size → next a' w') : o.wp P a w next Q := by
  unfold Oper.wp
  rw [he, Oper.upon_enter]
  refine (hc.2 c.I w vs h.hok hrl).mono ?_
  rintro e w' ⟨r, H', I', v, rfl, hK, hok, hv, hf⟩
  obtain ⟨hg, hst, hI⟩ := call_good h hok hf
  refine hn _ _ _ _ hK (hg.put hd (v := v) ?_) hst (by cases o.dst <;> simp [Act.put])
  show RV (cxCall c I' H').I w' r v
  rw [hI]; exact hv

theorem RL_eval (h : Good c s a w) (xs : List Operand) {us : List AV} (hu : allAV (xs.map (oval s.env)) = some us) : RL c.I w us (xs.map a.eval) := allAV_sound h.2.1 xs hu

theorem runOp1_sound {st : Stmt} (hop : opOf P o = some st.op) (hdst : st.dst = o.dst) (h : Good c s a w) (hd : ∀ d, o.dst = some d → d < a.tmps.size) {K : S → Prop} (hr : runOp1 P st s K)
    {next : Act → World → Prop} {Q : Exit → Act → World → Prop} (hn : ∀ c' s' a' w', K s' → Good c' s' a' w' → Step c w c' w' → a'.tmps.size = a.tmps.size → next a' w') : o.wp P a w next Q := by
  have quiet : ∀ {sv}, qop s.loc s.H (oval s.env) st.op = some sv → K (s.put st.dst sv) → o.wp P a w next Q := by
    intro sv hq hK
    rw [hdst] at hK
    exact Oper.wp_OS (OS.quiet hop h hd hq) fun c' a' w' hg hst hsz => hn c' _ a' w' hK hg hst hsz
  have htag := opOf_tag hop
  obtain ⟨dst, guard, op⟩ := st
  simp only at hop hdst quiet htag
  subst hdst
  cases op
  case alloc t z =>
    simp only [runOp1] at hr
    cases ho : o.op <;> simp only [ho, tagOf, sTag] at htag <;> try (cases htag; done)
    obtain ⟨z', hso, hos⟩ := alloc_sound ho hop h
    simp only [SOp.alloc.injEq] at hso
    obtain ⟨rfl, rfl⟩ := hso
    split at hr
    · rename_i d hdd
      exact Oper.wp_OS (hos d hdd (hd d hdd) hr.1) fun c' a' w' hg hst hsz => hn c' _ a' w' hr.2 hg hst hsz
    · exact hr.elim
  case box t x =>
    simp only [runOp1] at hr
    cases ho : o.op <;> simp only [ho, tagOf, sTag] at htag <;> try (cases htag; done)
    split at hr
    · rename_i u d hu hdd
      split at hr
      · rename_i cs hcs
        have hxt : opOf P o = some (.box t x) := hop
        simp only [opOf, ho, Option.some.injEq, SOp.box.injEq] at hop
        obtain ⟨rfl, rfl⟩ := hop
        obtain ⟨_, hos⟩ := box_sound ho hxt h hu hcs hr.1 hdd (hd d hdd)
        exact Oper.wp_OS hos fun c' a' w' hg hst hsz => hn c' _ a' w' hr.2 hg hst hsz
      · exact hr.elim
    · exact hr.elim
  case store n x y =>
    simp only [runOp1] at hr
    cases ho : o.op <;> simp only [ho, tagOf, sTag] at htag <;> try (cases htag; done)
    obtain ⟨n', hso, hos⟩ := store_sound ho hop h
    simp only [SOp.store.injEq] at hso
    obtain ⟨rfl, rfl, rfl⟩ := hso
    split at hr
    · rename_i u hu
      split at hr
      · rename_i ds hds
        split at hr
        · rename_i s' hs'
          exact Oper.wp_OS (hos u ds s' hu hds hs' hr.1) fun c' a' w' hg hst hsz => hn c' _ a' w' hr.2 hg hst hsz
        · exact hr.elim
      · exact hr.elim
    · exact hr.elim
  case mksl e sz by_ z l k =>
    simp only [runOp1] at hr
    cases ho : o.op <;> simp only [ho, tagOf, sTag] at htag <;> try (cases htag; done)
    obtain ⟨e', sz', by', z', hso, hos⟩ := mksl_sound ho hop h
    simp only [SOp.mksl.injEq] at hso
    obtain ⟨rfl, rfl, rfl, rfl, rfl, rfl⟩ := hso
    split at hr
    · rename_i kl n kc m d hl hk hdd
      obtain ⟨h0, rfl, h1, h2, h3, hK⟩ := hr
      have hc : ((m.toNat : Nat) : Int) = m := by omega
      exact Oper.wp_OS (hos m.toNat kl kc d (by rw [hc]; exact hl) (by rw [hc]; exact hk) hdd (hd d hdd) h1 h2 h3) fun c' a' w' hg hst hsz => hn c' _ a' w' hK hg hst hsz
    · exact hr.elim
  case bsl e sz z len ps =>
    simp only [runOp1] at hr
    cases ho : o.op <;> simp only [ho, tagOf, sTag] at htag <;> try (cases htag; done)
    obtain ⟨e', sz', z', qs, hso, hos⟩ := bsl_sound ho hop h
    simp only [SOp.bsl.injEq] at hso
    obtain ⟨rfl, rfl, rfl, rfl, rfl⟩ := hso
    split at hr
    · rename_i sv hsv
      obtain ⟨v, w', c', hrun, hg, hrs⟩ := hos sv hsv
      unfold Oper.wp
      rw [hrun, Oper.upon_value]
      exact hn c' _ _ w' hr ((h.grow hg).put hd hrs) hg.step (by cases o.dst <;> simp [Act.put])
    · exact hr.elim
  case app t e sz by_ z x y =>
    simp only [runOp1] at hr
    cases ho : o.op <;> simp only [ho, tagOf, sTag] at htag <;> try (cases htag; done)
    rename_i cl
    have hop' := hop
    simp only [opOf, ho] at hop'
    have hop' := callOf_old hop' rfl
    have hop0 := hop'
    unfold callOf0 at hop'
    split at hop'
    · split at hop'
      · split at hop' <;> cases hop'
      · cases hop'
    · cases hop'
    · split at hop' <;> cases hop'
    · cases hop'
    · cases hop'
    · rename_i x' y' t' u' hc hargs htypes
      obtain ⟨e', sz', by', z', hso, hos⟩ := app_sound ho hc hargs htypes hop0 h
      simp only [SOp.app.injEq] at hso
      obtain ⟨rfl, rfl, rfl, rfl, rfl, rfl, rfl⟩ := hso
      split at hr
      · rename_i s' hs'
        exact Oper.wp_OS (hos s' hs' hd) fun c' a' w' hg hst hsz => hn c' _ a' w' hr hg hst hsz
      · exact hr.elim
    · cases hop'
  case call f xs =>
    simp only [runOp1] at hr
    cases ho : o.op <;> simp only [ho, tagOf, sTag] at htag <;> try (cases htag; done)
    rename_i cl
    simp only [opOf, ho] at hop
    have hop := callOf_old hop rfl
    unfold callOf0 at hop
    split at hop
    · rename_i f' hc
      split at hop
      · rename_i fn hf
        split at hop
        · cases hop
        · rename_i hnb
          simp only [Option.some.injEq, SOp.call.injEq] at hop
          obtain ⟨rfl, rfl⟩ := hop
          split at hr
          · rename_i us hus
            refine call_wp (vs := cl.args.toList.map a.eval) ?_ h hd (RL_eval h _ hus) hr hn
            have hcl := callFunc_ok (P := P) hr.1 (cl.args.map a.eval) w
            simp only [execOp, ho, resolve, hc, Act.eval, Deferred.ofValue, invoke, Sem.run_bind, Sem.run_pure, Result.andThen_ok]
            simp only [Array.empty_append, Array.append_empty]
            rw [hcl]
            congr 2
            apply Array.ext'
            simp
          · exact hr.elim
      · cases hop
    · cases hop
    · split at hop <;> cases hop
    · cases hop
    · cases hop
    · split at hop
      · simp only [Option.bind_eq_bind] at hop
        obtain ⟨d, _, hop⟩ := Option.bind_eq_some_iff.1 hop
        cases d <;> simp only at hop <;> try (cases hop; done)
        obtain ⟨_, _, hop⟩ := Option.bind_eq_some_iff.1 hop
        obtain ⟨_, _, hop⟩ := Option.bind_eq_some_iff.1 hop
        obtain ⟨_, _, hop⟩ := Option.bind_eq_some_iff.1 hop
        split at hop <;> cases hop
      · cases hop
    · cases hop
  case cald x xs =>
    simp only [runOp1] at hr
    cases ho : o.op <;> simp only [ho, tagOf, sTag] at htag <;> try (cases htag; done)
    rename_i cl
    simp only [opOf, ho] at hop
    have hop := callOf_old hop rfl
    unfold callOf0 at hop
    split at hop
    · split at hop
      · split at hop <;> cases hop
      · cases hop
    · rename_i t hc
      simp only [Option.some.injEq, SOp.cald.injEq] at hop
      obtain ⟨rfl, rfl⟩ := hop
      split at hr
      · rename_i f first cap us hfn hus
        have hx := oval_rs h.2.1 (.tmp t)
        have key : ∃ fs cs : List Value, a.eval (.tmp t) = .func (.func f) fs.toArray cs.toArray ∧ RL c.I w first fs ∧ RL c.I w cap cs := by
          unfold fnOf at hfn
          split at hfn
          · rename_i he
            simp only [Option.some.injEq, Prod.mk.injEq] at hfn
            obtain ⟨rfl, rfl, rfl⟩ := hfn
            rw [he] at hx
            simp only [RS, RV] at hx
            obtain ⟨fs, cs, h1, h2, h3⟩ := hx
            exact ⟨fs, cs, h1, h2, h3⟩
          · rename_i xs' ys' he
            simp only [Option.some.injEq, Prod.mk.injEq] at hfn
            obtain ⟨rfl, rfl, rfl⟩ := hfn
            rw [he] at hx
            have hx' : a.eval (.tmp t) = _ := hx
            exact ⟨xs'.toList, ys'.toList, by rw [hx'], RL_raw _ _ _, RL_raw _ _ _⟩
          · cases hfn
        obtain ⟨fs, cs, h1, h2, h3⟩ := key
        refine call_wp (vs := fs ++ cl.args.toList.map a.eval ++ cs) ?_ h hd (RL_append (RL_append h2 (RL_eval h _ hus)) h3) hr hn
        have hcl := callFunc_ok (P := P) hr.1 (fs.toArray ++ cl.args.map a.eval ++ cs.toArray) w
        simp only [execOp, ho, resolve, hc, h1, Deferred.ofValue, invoke, Sem.run_bind, Sem.run_pure, Result.andThen_ok]
        rw [hcl]
        congr 2
        apply Array.ext'
        simp
      · exact hr.elim
    · split at hop <;> cases hop
    · cases hop
    · cases hop
    · split at hop
      · simp only [Option.bind_eq_bind] at hop
        obtain ⟨d, _, hop⟩ := Option.bind_eq_some_iff.1 hop
        cases d <;> simp only at hop <;> try (cases hop; done)
        obtain ⟨_, _, hop⟩ := Option.bind_eq_some_iff.1 hop
        obtain ⟨_, _, hop⟩ := Option.bind_eq_some_iff.1 hop
        obtain ⟨_, _, hop⟩ := Option.bind_eq_some_iff.1 hop
        split at hop <;> cases hop
      · cases hop
    · cases hop
  case hp op =>
    exfalso
    cases ho : o.op <;> simp only [ho, tagOf, sTag] at htag <;> cases htag
  case ow op =>
    exfalso
    cases ho : o.op <;> simp only [ho, tagOf, sTag] at htag <;> cases htag
  all_goals
    simp only [runOp1] at hr
    split at hr
    · rename_i sv hq
      exact quiet hq hr
    · exact hr.elim

theorem runOp1_soundE {st : Stmt} (hop : opOf P o = some st.op.erase) (hdst : st.dst = o.dst) (h : Good c s a w) (hd : ∀ d, o.dst = some d → d < a.tmps.size) {K : S → Prop} (hr : runOp1 P st s K)
    {next : Act → World → Prop} {Q : Exit → Act → World → Prop} (hn : ∀ c' s' a' w', K s' → Good c' s' a' w' → Step c w c' w' → a'.tmps.size = a.tmps.size → next a' w') : o.wp P a w next Q := by
  obtain ⟨dst, guard, op⟩ := st
  cases op
  case hp op =>
    simp only [runOp1] at hr
    simp only at hdst
    subst hdst
    have hs : op.strip = op := by cases op <;> first | rfl | exact hr.elim
    exact runH_sound (by rw [← hs]; exact hop) h hd hr hn
  case ow op =>
    simp only [runOp1] at hr
    simp only at hdst
    subst hdst
    cases op
    case bsl =>
      have htag := opOf_tag hop
      cases ho : o.op <;> simp only [ho, tagOf, sTag, SOp.erase] at htag <;> first | (cases htag; done) | exact obsl_sound ho hop h hd hr hn
    all_goals exact hr.elim
  all_goals exact runOp1_sound hop hdst h hd hr hn

end
end Go.Proofs.Ytejmcijcdhoogaa.Abs
