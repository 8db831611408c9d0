import Derived.Test.YtejmcijcdhoogaaAbsD
import Derived.Test.YtejmcijcdhoogaaAbs12
set_option linter.unusedSimpArgs false
set_option linter.unusedVariables false
namespace Go.Proofs.Ytejmcijcdhoogaa.Abs
open Go

def toS (d : D) (N : Nat) : S := { env := (List.range N).map fun i => (i, d.f i), loc := d.L, H := d.H }

theorem get_map (f : Nat → SV) : ∀ (l : List Nat) (x : Nat), get (l.map fun i => (i, f i)) x = if x ∈ l then some (f x) else none
  | [], x => by simp [get]
  | y :: l, x => by
    simp only [List.map_cons, get, get_map f l x]
    by_cases e : y = x
    · subst e; simp
    · have : ¬ x = y := fun h => e h.symm
      simp [e, this]
theorem get_toS (d : D) (N x : Nat) : get (toS d N).env x = if x < N then some (d.f x) else none := by
  unfold toS
  rw [get_map]
  simp

def GoodD (c : Cx) (d : D) (a : Act) (w : World) : Prop := (∀ x, a.tmps.size ≤ x → d.f x = .v .top) ∧ Good c (toS d a.tmps.size) a w

section
variable {P : Program} {o : Oper} {c c' : Cx} {w w' : World} {a : Act} {d : D}

theorem oval_toS {N : Nat} (h : ∀ x, N ≤ x → d.f x = .v .top) : oval (toS d N).env = dval d.f := by
  funext x
  cases x with
  | tmp t =>
    simp only [oval, dval, get_toS]
    by_cases ht : t < N
    · simp [ht]
    · have hle : N ≤ t := Nat.le_of_not_lt ht
      simp [ht, h t hle]
  | const v => rfl
  | global g => rfl
  | func f => rfl

theorem GoodD.rs (h : GoodD c d a w) (x : Operand) : RS c w (dval d.f x) (a.eval x) := by
  rw [← oval_toS h.1]; exact oval_rs h.2.2.1 x

theorem GoodD.mk' {t : Array Value} {ds : List Deferred} (hds : ds = []) (hm : MRel c d.L d.H w) (hf : ∀ x, x < t.size → RS c w (d.f x) (t.getD x undef)) (ht : ∀ x, t.size ≤ x → d.f x = .v .top) : GoodD c d ⟨t, ds⟩ w := by
  refine ⟨ht, hm, fun x sv hx => ?_, hds⟩
  rw [get_toS] at hx
  split at hx
  · rename_i hlt
    simp only [Option.some.injEq] at hx; subst hx
    exact ⟨hlt, hf x hlt⟩
  · cases hx

theorem GoodD.put (h : GoodD c d a w) {dst : Option Nat} (hd : ∀ x, dst = some x → x < a.tmps.size) {sv : SV} {v : Value} (hs : RS c w sv v) : GoodD c (d.put dst sv) (a.put dst v) w := by
  cases dst with
  | none => exact h
  | some x =>
    have hx := hd x rfl
    obtain ⟨h1, h2, h3, h4⟩ := h
    refine GoodD.mk' (t := a.tmps.setIfInBounds x v) h4 h2 (fun y hy => ?_) (fun y hy => ?_)
    · have hy' : y < a.tmps.size := by simpa using hy
      rw [getD_set hy']
      show RS c w (upd d.f x sv y) _
      simp only [upd]
      by_cases e : x = y
      · subst e; simpa using hs
      · rw [if_neg e, if_neg e]
        exact (h3 y (d.f y) (by rw [get_toS]; simp [hy'])).2
    · have hy' : a.tmps.size ≤ y := by simpa using hy
      show upd d.f x sv y = _
      rw [upd_ne _ _ (by omega)]
      exact h1 y hy'

theorem GoodD.grow (h : GoodD c d a w) (hg : Grow c w c' w') : GoodD c' d a w' := ⟨h.1, h.2.grow hg⟩

theorem actD_sound {st : Stmt} {d' : D} (hop : opOf P o = some st.op) (hdst : st.dst = o.dst) (h : GoodD c d a w) (hd : ∀ x, o.dst = some x → x < a.tmps.size) (hr : actD P st d d')
    {next : Act → World → Prop} {Q : Exit → Act → World → Prop} (hn : ∀ c' a' w', GoodD c' d' a' w' → Step c w c' w' → a'.tmps.size = a.tmps.size → next a' w') : o.wp P a w next Q := by
  have hov := oval_toS (d := d) h.1
  have hpsz : ∀ v, (a.put o.dst v).tmps.size = a.tmps.size := by intro v; cases o.dst <;> simp [Act.put]
  have quiet : ∀ {sv}, qop d.L d.H (dval d.f) st.op = some sv → d' = d.put st.dst sv → o.wp P a w next Q := by
    intro sv hq he
    subst he
    rw [← hov] at hq
    obtain ⟨v, hrun, hs⟩ := qop_sound hop h.2.1 h.2.2.1 hq
    unfold Oper.wp
    rw [hrun, Oper.upon_value]
    refine hn c _ w ?_ (Step.refl c w) (hpsz v)
    rw [hdst]
    exact h.put hd hs
  have callc : ∀ {f : FuncId} {us : List AV} {vs : List Value} {r : AV}, (execOp a.eval o).run P w = .ok (.enter f vs.toArray) w → RL c.I w us vs → ACalls P f us d.H (fun r' H' => r' = r ∧ H' = d.H) → d' = d.put st.dst (.v r) → o.wp P a w next Q := by
    intro f us vs r he hrl hc hd'
    subst hd'
    unfold Oper.wp
    rw [he, Oper.upon_enter]
    refine (hc.2 c.I w vs h.2.hok hrl).mono ?_
    rintro e w' ⟨r', H', I', v, rfl, ⟨rfl, rfl⟩, hok, hv, hf⟩
    obtain ⟨hg, hst, hI⟩ := call_good h.2 hok hf
    have hg' : GoodD (cxCall c I' d.H) d a w' := ⟨h.1, hg⟩
    refine hn _ _ _ ?_ hst (hpsz v)
    rw [hdst]
    refine hg'.put hd ?_
    show RV (cxCall c I' d.H).I w' r' v
    rw [hI]; exact hv
  have htag := opOf_tag hop
  obtain ⟨dst, guard, op⟩ := st
  simp only at hop hdst quiet htag callc
  subst hdst
  unfold actD at hr
  cases op
  case bsl e sz z len ps =>
    obtain ⟨sv, h1, rfl⟩ := hr
    cases ho : o.op <;> simp only [ho, tagOf, sTag] at htag <;> try (cases htag; done)
    obtain ⟨e', sz', z', qs, hso, hos⟩ := bsl_sound ho hop h.2
    simp only [SOp.bsl.injEq] at hso
    obtain ⟨rfl, rfl, rfl, rfl, rfl⟩ := hso
    obtain ⟨v, w', c', hrun, hg, hrs⟩ := hos sv (by rw [hov]; exact h1)
    unfold Oper.wp
    rw [hrun, Oper.upon_value]
    exact hn c' _ w' ((h.grow hg).put hd hrs) hg.step (hpsz v)
  case app t e sz by_ z x y =>
    obtain ⟨sv, h1, rfl⟩ := hr
    cases ho : o.op <;> simp only [ho, tagOf, sTag] at htag <;> try (cases htag; done)
    rename_i cl
    have hop' := hop
    simp only [opOf, ho] at hop'
    have hop' := callOf_old hop' rfl
    unfold callOf0 at hop'
    split at hop'
    · split at hop'
      · split at hop' <;> cases hop'
      · cases hop'
    · cases hop'
    · split at hop' <;> cases hop'
    · cases hop'
    · cases hop'
    · rename_i x' y' t' u' hc hargs htypes
      split at hop'
      · rename_i htu
        subst htu
        simp only [Option.bind_eq_bind] at hop'
        obtain ⟨dd, hu, hop'⟩ := Option.bind_eq_some_iff.1 hop'
        cases dd <;> simp only at hop' <;> try (cases hop'; done)
        obtain ⟨sz', hsz, hop'⟩ := Option.bind_eq_some_iff.1 hop'
        obtain ⟨by', hby, hop'⟩ := Option.bind_eq_some_iff.1 hop'
        obtain ⟨z', hz, hop'⟩ := Option.bind_eq_some_iff.1 hop'
        split at hop'
        · rename_i hzs
          simp only [Option.some.injEq, SOp.app.injEq] at hop'
          obtain ⟨rfl, rfl, rfl, rfl, rfl, rfl, rfl⟩ := hop'
          have hA : cl.args = #[x', y'] := by cases h : cl.args; simp [h] at hargs; subst hargs; rfl
          have hT : cl.argTypes = #[t', t'] := by cases h : cl.argTypes; simp [h] at htypes; subst htypes; rfl
          have he : execOp a.eval o = (do pure (.value (← Builtin.append_ #[t', t'] o.type #[a.eval x', a.eval y']))) := by
            simp [execOp, ho, resolve, hc, hA, hT, invoke, builtin]
          unfold nilappq at h1
          split at h1
          · rename_i nly ds m hxe hye
            split at h1
            · rename_i hcond
              obtain ⟨hdl, hb, h63⟩ := hcond
              simp only [Option.some.injEq] at h1; subst h1
              have hx := h.rs x'
              have hy := h.rs y'
              rw [hxe] at hx
              rw [hye] at hy
              have hx' : a.eval x' = .slice none 0 0 := by
                simp only [RS, RV] at hx
                obtain ⟨ad, cap, h1, _, _, h3, _⟩ := hx
                obtain ⟨rfl, rfl⟩ := h3 trivial
                exact h1
              obtain ⟨v', w', us, hrun, ho', hr', hg, hnl', hat⟩ := app_run (s := toS d a.tmps.size) (ty := o.type) (cs := []) (vs := []) (nl := true) hu hsz hby hz hzs.1 hzs.2 h.2.1 (World.ownsRow_nil w 0 _ _) ⟨by simp [RL], by simp⟩ (by simp) hy hdl (by simpa using hb) (by simpa using h63)
              simp only [Nat.zero_add, List.nil_append, Bool.true_and] at ho' hr' hnl'
              have hkeepb : ∀ b, b < w.heap.size → w'.heap[b]? = w.heap[b]? := fun b hb => hg.block b hb (by simp [Value.ownBlock])
              -- the tags
              have key : ∃ c', Grow c w c' w' ∧ RV c'.I w' (.vec (m == 0) ds m) v' := by
                rcases ho'.2 with ⟨hv0, hm0⟩ | ⟨g, cap, cur, hv, hgb, hheap, hnc, hcm, hcs, htake⟩
                · refine ⟨c, ⟨⟨hg.os, hg.tape, hg.output, hg.size, fun b hb _ => hkeepb b hb, fun b _ => ⟨id, id⟩⟩, rfl, rfl, fun b hb => ⟨rfl, hkeepb b (h.2.1.lt b hb)⟩, fun b hb => Nat.lt_of_lt_of_le (h.2.1.lt b hb) hg.size⟩, ?_⟩
                  subst hm0
                  have hds : ds = [] := List.eq_nil_of_length_eq_zero (by simpa using hdl)
                  subst hds
                  simp only [RV]
                  exact ⟨none, 0, hv0, by omega, by simp [maxLen], by simp, by simp, by simp, by simp⟩
                · have hgs : w.heap.size ≤ g := by
                    rcases hat g (by rw [hv]; simp [Value.ownBlock]) with hh | hh
                    · simp [Value.ownBlock] at hh
                    · exact hh
                  have hgl : g < w'.heap.size := (Array.getElem?_eq_some_iff.1 hheap).1
                  have hnetag : ∀ b, b < w.heap.size → upd c.ow g .imm b = c.ow b := fun b hb => upd_ne _ _ (by omega)
                  have hgrow : Grow c w { ow := upd c.ow g .imm, β := c.β, ν := c.ν } w' := by
                    refine ⟨⟨hg.os, hg.tape, hg.output, hg.size, fun b hb _ => hkeepb b hb, fun b hb => by simp only [hnetag b hb]; exact ⟨id, id⟩⟩, rfl, rfl, fun b hb => ⟨hnetag b (h.2.1.lt b hb), hkeepb b (h.2.1.lt b hb)⟩, fun b hb => ?_⟩
                    by_cases e : g = b
                    · subst e; exact hgl
                    · have hb' : c.ow b ≠ .free := by
                        have : upd c.ow g Ow.imm b = c.ow b := upd_ne _ _ e
                        rw [← this]; exact hb
                      exact Nat.lt_of_lt_of_le (h.2.1.lt b hb') hg.size
                  refine ⟨_, hgrow, ?_⟩
                  have hm0 : m ≠ 0 := by
                    intro hm
                    have := hnl'.1 (by simp [hm])
                    rw [hv] at this; cases this
                  simp only [RV]
                  refine ⟨_, _, hv, hnc, hcm, by simp [hm0], by simp, ?_, ?_⟩
                  · intro _ hds
                    rw [hds] at hdl
                    have := Nat.mul_pos (Nat.pos_of_ne_zero hm0) hzs.2
                    simp at hdl
                    omega
                  · intro _
                    refine ⟨g, 0, rfl, by simp [Cx.I, upd_self], RCells_of fun j u hj => ?_⟩
                    obtain ⟨x, hx1, hx2⟩ := RL_get (RL.keep hgrow.keep _ _ hr'.1) hj
                    have hcell := ho'.cells (g := g) (by rw [hv]; simp [Value.ownBlock]) j x hx1
                    rw [Addr.add_lit] at hcell
                    exact ⟨x, hcell, hr'.2 x (List.mem_of_getElem? hx1), hx2⟩
              obtain ⟨c', hgrow, hrv⟩ := key
              unfold Oper.wp
              rw [he, hx', Sem.run_bind, hrun, Result.andThen_ok]
              exact hn c' _ w' ((h.grow hgrow).put hd hrv) hgrow.step (hpsz v')
            · cases h1
          · cases h1
        · cases hop'
      · cases hop'
    · cases hop'
  case store n x y =>
    obtain ⟨u, ds, s', h1, h2, h3, h4, rfl⟩ := hr
    cases ho : o.op <;> simp only [ho, tagOf, sTag] at htag <;> try (cases htag; done)
    obtain ⟨n', hso, hos⟩ := store_sound ho hop h.2
    simp only [SOp.store.injEq] at hso
    obtain ⟨rfl, rfl, rfl⟩ := hso
    -- the same store over the slots that are there
    have hse : ∃ s2, storeq (toS d a.tmps.size) n (oval (toS d a.tmps.size).env x) ds = some s2 ∧ s2.env = (toS d a.tmps.size).env ∧ s2.loc = s'.loc ∧ s2.H = s'.H := by
      rw [hov]
      unfold storeq at h3 ⊢
      split at h3
      · rename_i hc
        rw [if_pos hc]
        split at h3
        · split at h3
          · rename_i hget
            split at h3
            · rename_i hle
              simp only [Option.some.injEq] at h3; subst h3
              simp only [toS, hget, if_pos hle]
              exact ⟨_, rfl, rfl, rfl, rfl⟩
            · cases h3
          · rename_i hget
            split at h3
            · rename_i hle
              simp only [Option.some.injEq] at h3; subst h3
              simp only [toS, hget, if_pos hle]
              exact ⟨_, rfl, rfl, rfl, rfl⟩
            · cases h3
          · cases h3
        · split at h3
          · rename_i hget
            split at h3
            · rename_i hle
              simp only [Option.some.injEq] at h3; subst h3
              simp only [toS, hget, if_pos hle]
              exact ⟨_, rfl, rfl, rfl, rfl⟩
            · cases h3
          · rename_i hget
            split at h3
            · rename_i hle
              simp only [Option.some.injEq] at h3; subst h3
              simp only [toS, hget, if_pos hle]
              exact ⟨_, rfl, rfl, rfl, rfl⟩
            · cases h3
          · cases h3
        · cases h3
      · cases h3
    obtain ⟨s2, hs2, e1, e2, e3⟩ := hse
    refine Oper.wp_OS (hos u ds s2 (by rw [hov]; exact h1) h2 hs2 h4) fun c' a' w' hg hst hsz => ?_
    refine hn c' a' w' ⟨by rw [hsz]; exact h.1, ?_⟩ hst hsz
    obtain ⟨g1, g2, g3⟩ := hg
    refine ⟨by rw [e2, e3] at g1; exact g1, ?_, g3⟩
    rw [e1] at g2
    rw [hsz]
    exact g2
  case call f xs =>
    obtain ⟨us, r, h1, h2, hd'⟩ := hr
    cases ho : o.op <;> simp only [ho, tagOf, sTag] at htag <;> try (cases htag; done)
    rename_i cl
    simp only [opOf, ho] at hop
    have hop := callOf_old hop rfl
    unfold callOf0 at hop
    split at hop
    · rename_i f' hc
      split at hop
      · rename_i fn hf
        split at hop
        · cases hop
        · simp only [Option.some.injEq, SOp.call.injEq] at hop
          obtain ⟨rfl, rfl⟩ := hop
          have hrl := allAV_sound h.2.2.1 cl.args.toList (us := us) (by rw [hov]; exact h1)
          refine callc (vs := cl.args.toList.map a.eval) ?_ hrl h2 hd'
          have hcl := callFunc_ok (P := P) h2.1 (cl.args.map a.eval) w
          simp only [execOp, ho, resolve, hc, Act.eval, Deferred.ofValue, invoke, Sem.run_bind, Sem.run_pure, Result.andThen_ok]
          simp only [Array.empty_append, Array.append_empty]
          rw [hcl]
          congr 2
          apply Array.ext'
          simp
      · cases hop
    · cases hop
    · split at hop <;> cases hop
    · cases hop
    · cases hop
    · split at hop
      · simp only [Option.bind_eq_bind] at hop
        obtain ⟨d, _, hop⟩ := Option.bind_eq_some_iff.1 hop
        cases d <;> simp only at hop <;> try (cases hop; done)
        obtain ⟨_, _, hop⟩ := Option.bind_eq_some_iff.1 hop
        obtain ⟨_, _, hop⟩ := Option.bind_eq_some_iff.1 hop
        obtain ⟨_, _, hop⟩ := Option.bind_eq_some_iff.1 hop
        split at hop <;> cases hop
      · cases hop
    · cases hop
  case cald x xs =>
    obtain ⟨f, first, cap, us, r, hfn, h1, h2, hd'⟩ := hr
    cases ho : o.op <;> simp only [ho, tagOf, sTag] at htag <;> try (cases htag; done)
    rename_i cl
    simp only [opOf, ho] at hop
    have hop := callOf_old hop rfl
    unfold callOf0 at hop
    split at hop
    · split at hop
      · split at hop <;> cases hop
      · cases hop
    · rename_i t hc
      simp only [Option.some.injEq, SOp.cald.injEq] at hop
      obtain ⟨rfl, rfl⟩ := hop
      have hx := h.rs (.tmp t)
      have key : ∃ fs cs : List Value, a.eval (.tmp t) = .func (.func f) fs.toArray cs.toArray ∧ RL c.I w first fs ∧ RL c.I w cap cs := by
        unfold fnOf at hfn
        split at hfn
        · rename_i he
          simp only [Option.some.injEq, Prod.mk.injEq] at hfn
          obtain ⟨rfl, rfl, rfl⟩ := hfn
          rw [he] at hx
          simp only [RS, RV] at hx
          obtain ⟨fs, cs, h1, h2, h3⟩ := hx
          exact ⟨fs, cs, h1, h2, h3⟩
        · rename_i xs' ys' he
          simp only [Option.some.injEq, Prod.mk.injEq] at hfn
          obtain ⟨rfl, rfl, rfl⟩ := hfn
          rw [he] at hx
          have hx' : a.eval (.tmp t) = _ := hx
          exact ⟨xs'.toList, ys'.toList, by rw [hx'], RL_raw _ _ _, RL_raw _ _ _⟩
        · cases hfn
      obtain ⟨fs, cs, k1, k2, k3⟩ := key
      have hrl := allAV_sound h.2.2.1 cl.args.toList (us := us) (by rw [hov]; exact h1)
      refine callc (vs := fs ++ cl.args.toList.map a.eval ++ cs) ?_ (RL_append (RL_append k2 hrl) k3) h2 hd'
      have hcl := callFunc_ok (P := P) h2.1 (fs.toArray ++ cl.args.map a.eval ++ cs.toArray) w
      simp only [execOp, ho, resolve, hc, k1, Deferred.ofValue, invoke, Sem.run_bind, Sem.run_pure, Result.andThen_ok]
      rw [hcl]
      congr 2
      apply Array.ext'
      simp
    · split at hop <;> cases hop
    · cases hop
    · cases hop
    · split at hop
      · simp only [Option.bind_eq_bind] at hop
        obtain ⟨d, _, hop⟩ := Option.bind_eq_some_iff.1 hop
        cases d <;> simp only at hop <;> try (cases hop; done)
        obtain ⟨_, _, hop⟩ := Option.bind_eq_some_iff.1 hop
        obtain ⟨_, _, hop⟩ := Option.bind_eq_some_iff.1 hop
        obtain ⟨_, _, hop⟩ := Option.bind_eq_some_iff.1 hop
        split at hop <;> cases hop
      · cases hop
    · cases hop
  case hp op =>
    exfalso
    cases ho : o.op <;> simp only [ho, tagOf, sTag] at htag <;> cases htag
  case ow op =>
    exfalso
    cases ho : o.op <;> simp only [ho, tagOf, sTag] at htag <;> cases htag
  all_goals
    obtain ⟨sv, hq, hd'⟩ := hr
    exact quiet hq hd'

theorem hldq_qop {L : List (Nat × LObj)} {H : AHeap} {e : Operand → SV} {n : Nat} {agg : Bool} {x : Operand} {sv : SV} (h : hldq H n agg (e x) = some sv) : qop L H e (.load n agg x) = some sv := by
  unfold hldq at h
  split at h
  · rename_i b o' he
    split at h
    · rename_i cs t hH
      simp only [qop, he, rdA, hH]
      exact h
    · cases h
  · cases h
theorem lldq_qop {L : List (Nat × LObj)} {H : AHeap} {e : Operand → SV} {n : Nat} {agg : Bool} {x : Operand} {sv : SV} (h : lldq L n agg (e x) = some sv) : qop L H e (.load n agg x) = some sv := by
  unfold lldq at h
  split at h
  · rename_i d o he
    split at h
    · rename_i hg; simp only [qop, he, rdA, hg]; exact h
    · rename_i hg; simp only [qop, he, rdA, hg]; exact h
    · cases h
  · rename_i cs o he; simp only [qop, he, rdA]; exact h
  · cases h
theorem hrdq_qop {L : List (Nat × LObj)} {H : AHeap} {e : Operand → SV} {n : Nat} {agg : Bool} {x : Operand} {sv : SV} (h : hrdq H n agg (e x) = some sv) : qop L H e (.load n agg x) = some sv := by
  cases he : e x with
  | v u =>
    rw [he] at h
    have hr : rdA L H (.v u) = rdA [] H (.v u) := by
      cases u <;> try rfl
      rename_i v
      cases v <;> try rfl
      rename_i p
      cases p <;> try rfl
      rename_i a
      obtain ⟨b, o, m⟩ := a
      cases m <;> rfl
    simp only [qop, he, hr]
    exact h
  | _ => rw [he] at h; cases h
theorem actD_soundE {st : Stmt} {d' : D} (hop : opOf P o = some st.op.erase) (hdst : st.dst = o.dst) (h : GoodD c d a w) (hd : ∀ x, o.dst = some x → x < a.tmps.size) (hr : actD P st d d')
    {next : Act → World → Prop} {Q : Exit → Act → World → Prop} (hn : ∀ c' a' w', GoodD c' d' a' w' → Step c w c' w' → a'.tmps.size = a.tmps.size → next a' w') : o.wp P a w next Q := by
  obtain ⟨dst, guard, op⟩ := st
  cases op
  case hp op =>
    obtain ⟨sv, h1, h2⟩ := hr
    cases op <;> simp only [hpq] at h1 <;> try (cases h1; done)
    case load n agg x => exact actD_sound (st := ⟨dst, guard, .load n agg x⟩) hop hdst h hd ⟨sv, hldq_qop h1, h2⟩ hn
    case hp op =>
      cases op <;> simp only [hpq] at h1 <;> try (cases h1; done)
      rename_i n agg x
      exact actD_sound (st := ⟨dst, guard, .load n agg x⟩) hop hdst h hd ⟨sv, hrdq_qop h1, h2⟩ hn
  case ow op =>
    cases op
    case store n x y => exact actD_sound (st := ⟨dst, guard, .store n x y⟩) hop hdst h hd hr.2 hn
    all_goals
      obtain ⟨sv, h1, h2⟩ := hr
      simp only [lpq] at h1
      try (cases h1; done)
    rename_i n agg x
    exact actD_sound (st := ⟨dst, guard, .load n agg x⟩) hop hdst h hd ⟨sv, lldq_qop h1, h2⟩ hn
  all_goals exact actD_sound hop hdst h hd hr hn

theorem stepD_sound {ops : Array Oper} {i : Nat} {st : Stmt} {d' : D} (hi : ops[i]? = some o) (hst : stmtOf P ops o = some st.erase) (h : GoodD c d a w) (hd : ∀ x, o.dst = some x → x < a.tmps.size) (hr : stepD P st d d')
    {next : Act → World → Prop} {Q : Exit → Act → World → Prop} (hn : ∀ c' a' w', GoodD c' d' a' w' → Step c w c' w' → a'.tmps.size = a.tmps.size → next a' w') : wpOp P ops Q i next a w := by
  obtain ⟨hop, hdst, hg⟩ := stmtOf_inv hst
  have hop : opOf P o = some st.op.erase := hop
  have hdst : st.dst = o.dst := hdst
  unfold wpOp
  simp only [hi]
  unfold stepD at hr
  rcases hg with ⟨g1, g2⟩ | ⟨j, b, og, g, g1, g2, g3, g4⟩
  · have g2 : st.guard = none := g2
    rw [g2] at hr
    rw [if_pos (wanted_none g1)]
    exact .inl (actD_soundE hop hdst h hd hr hn)
  · have g4 : st.guard = some (g, b) := g4
    rw [g4] at hr
    simp only at hr
    split at hr
    · rename_i v hv
      have hv' : oval (toS d a.tmps.size).env (.tmp g) = .v (.raw (.bool v)) := by rw [oval_toS h.1]; exact hv
      rw [wanted_some g1 g2 g3 h.2.2.1 hv']
      by_cases e : v = b
      · subst e
        rw [if_pos (by simp)]
        rw [if_pos rfl] at hr
        exact .inl (actD_soundE hop hdst h hd hr hn)
      · rw [if_neg (by simpa using e)]
        rw [if_neg e, hdst] at hr
        subst hr
        exact hn c _ w (h.put hd (by simp [RS, RV, undef])) (Step.refl c w) (by cases o.dst <;> simp [Act.put])
    · rename_i vs hv
      have hv' : oval (toS d a.tmps.size).env (.tmp g) = .v (.raw (.tuple vs)) := by rw [oval_toS h.1]; exact hv
      rw [wanted_undef g1 g2 g3 h.2.2.1 hv', if_neg (by simp)]
      rw [hdst] at hr
      subst hr
      exact hn c _ w (h.put hd (by simp [RS, RV, undef])) (Step.refl c w) (by cases o.dst <;> simp [Act.put])
    · exact hr.elim

theorem runH_of {s : S} {op : SOp} {dst : Option Nat} {K : S → Prop} (hms : isMs (.hp op) = true → dst = none) (h1 : HSafe (oval s.env) s.H op) (h2 : ∀ H1 v, HOut (oval s.env) s.H op H1 v → K ({ s with H := H1 }.put dst v)) : runH op dst s K := by
  cases op
  case bsl e sz z len ps =>
    obtain ⟨l, cs, e1, e2, e3, e4⟩ := h1
    simp only [runH, e1, e2]
    exact ⟨e3, e4, fun b hb => h2 _ _ ⟨l, cs, b, e1, e2, hb, rfl, rfl⟩⟩
  case alloc t z => exact ⟨h1, fun b hb => h2 _ _ ⟨b, hb, rfl, rfl⟩⟩
  case box t x =>
    obtain ⟨u, cs, e1, e2, e3⟩ := h1
    simp only [runH, e1, e2]
    exact ⟨e3, fun b hb => h2 _ _ ⟨u, cs, b, e1, e2, hb, rfl, rfl⟩⟩
  case app t e sz by_ z x y =>
    obtain ⟨ob, n, cap, pre, nly, ds, m, e1, e2, e3, e4, e5⟩ := h1
    simp only [runH, e1, e2, hapK]
    refine ⟨e3, e4, e5, fun hm => ?_, fun hm b cap' hb hc => h2 _ _ ⟨ob, n, cap, pre, nly, ds, m, e1, e2, .inr ⟨hm, b, cap', hb, hc, rfl, rfl⟩⟩⟩
    have := h2 s.H (oval s.env x) ⟨ob, n, cap, pre, nly, ds, m, e1, e2, .inl ⟨hm, rfl, rfl⟩⟩
    exact this
  case mksl e sz by_ z x y =>
    obtain ⟨q, q', n, e1, e2, e3, e4, e5, e6⟩ := h1
    simp only [runH, e1, e2]
    exact ⟨e3, trivial, e4, e5, e6, fun b hb => h2 _ _ ⟨q, n, b, e1, hb, rfl, rfl⟩⟩
  case mkmap kd => exact fun b hb => h2 _ _ ⟨b, hb, rfl, rfl⟩
  case mset kd x k v =>
    obtain ⟨b, ka, u, es, key, e1, e2, e3, e4, e5⟩ := h1
    have hd := hms rfl
    subst hd
    simp only [runH, msetK, e1, e2, e3, e4, e5]
    exact ⟨trivial, trivial, h2 _ _ ⟨b, ka, u, es, key, e1, e2, e3, e4, e5, rfl, rfl⟩⟩
  all_goals exact h1.elim
theorem runH_out {s : S} {op : SOp} {dst : Option Nat} {K : S → Prop} (he : isEff (.hp op) = true) (h : runH op dst s K) : HSafe (oval s.env) s.H op ∧ ∀ H1 v, HOut (oval s.env) s.H op H1 v → K ({ s with H := H1 }.put dst v) := by
  cases op <;> simp only [isEff] at he <;> try (cases he; done)
  case bsl e sz z len ps =>
    simp only [runH] at h
    split at h
    · rename_i l hl
      split at h
      · rename_i cs hcs
        refine ⟨⟨l, cs, hl, hcs, h.1, h.2.1⟩, ?_⟩
        rintro H1 v ⟨l', cs', b, e1, e2, hb, rfl, rfl⟩
        rw [hl] at e1
        injection e1 with e1
        subst e1
        rw [hcs] at e2
        injection e2 with e2
        subst e2
        exact h.2.2 b hb
      · exact h.elim
    · exact h.elim
  case alloc =>
    refine ⟨h.1, ?_⟩
    rintro H1 v ⟨b, hb, rfl, rfl⟩
    exact h.2 b hb
  case box =>
    simp only [runH] at h
    split at h
    · rename_i u hu
      split at h
      · rename_i cs hcs
        refine ⟨⟨u, cs, hu, hcs, h.1⟩, ?_⟩
        rintro H1 v ⟨u', cs', b, e1, e2, hb, rfl, rfl⟩
        rw [hu] at e1
        injection e1 with e1
        subst e1
        rw [hcs] at e2
        injection e2 with e2
        subst e2
        exact h.2 b hb
      · exact h.elim
    · exact h.elim
  case app =>
    simp only [runH] at h
    unfold hapK at h
    split at h
    · rename_i ob n cap pre nly ds m hp hy
      obtain ⟨h1, h2, h3, h4, h5⟩ := h
      refine ⟨⟨ob, n, cap, pre, nly, ds, m, hp, hy, h1, h2, h3⟩, ?_⟩
      rintro H1 v ⟨ob', n', cap', pre', nly', ds', m', e1, e2, hh⟩
      rw [hp] at e1
      simp only [Option.some.injEq, Prod.mk.injEq] at e1
      obtain ⟨rfl, rfl, rfl, rfl⟩ := e1
      rw [hy] at e2
      simp only [SV.v.injEq, AV.vec.injEq] at e2
      obtain ⟨rfl, rfl, rfl⟩ := e2
      rcases hh with ⟨hm, rfl, rfl⟩ | ⟨hm, b, c', hb, hc, rfl, rfl⟩
      · exact h4 hm
      · exact h5 hm b c' hb hc
    · exact h.elim
  case mksl e sz by_ z x y =>
    simp only [runH] at h
    split at h
    · rename_i q n q' m hx hy
      obtain ⟨h1, h2, h3, h4, h5, h6⟩ := h
      subst h2
      refine ⟨⟨q, q', _, hx, hy, h1, h3, h4, h5⟩, ?_⟩
      rintro H1 v ⟨q2, n2, b, f1, hb, rfl, rfl⟩
      rw [hx] at f1
      simp only [SV.v.injEq, AV.raw.injEq, Value.int.injEq] at f1
      obtain ⟨rfl, rfl⟩ := f1
      exact h6 b hb
    · exact h.elim
  case mkmap kd =>
    refine ⟨trivial, ?_⟩
    rintro H1 v ⟨b, hb, rfl, rfl⟩
    exact h b hb
  case mset kd x k v =>
    simp only [runH] at h
    unfold msetK at h
    split at h
    · rename_i b ka u e1 e2 e3
      split at h
      · rename_i kd' es key e4 e5
        obtain ⟨rfl, rfl, hK⟩ := h
        refine ⟨⟨b, ka, u, es, key, e1, e2, e3, e4, e5⟩, ?_⟩
        rintro H1 v ⟨b', ka', u', es', key', f1, f2, f3, f4, f5, rfl, rfl⟩
        rw [e1] at f1
        simp only [SV.v.injEq, AV.raw.injEq, Value.map.injEq, Option.some.injEq] at f1
        subst f1
        rw [e2] at f2
        simp only [SV.v.injEq] at f2
        subst f2
        rw [e3] at f3
        simp only [SV.v.injEq] at f3
        subst f3
        rw [e4] at f4
        simp only [Option.some.injEq, HObj.map.injEq, true_and] at f4
        subst f4
        rw [e5] at f5
        simp only [Option.some.injEq] at f5
        subst f5
        exact hK
      · exact h.elim
    · exact h.elim
theorem GoodD.cof (h : GoodD c d a w) : Cof d.H := ⟨w.heap.size, fun b hb => fresh_none h.2 hb⟩
theorem stepW_sound {ops : Array Oper} {i : Nat} {st : Stmt} {K : D → Prop} (hi : ops[i]? = some o) (hst : stmtOf P ops o = some st.erase) (h : GoodD c d a w) (hd : ∀ x, o.dst = some x → x < a.tmps.size) (hr : stepW P st d K)
    {next : Act → World → Prop} {Q : Exit → Act → World → Prop} (hn : ∀ c' d' a' w', K d' → GoodD c' d' a' w' → Step c w c' w' → a'.tmps.size = a.tmps.size → next a' w') : wpOp P ops Q i next a w := by
  cases he : isEff st.op with
  | false =>
    rw [stepW_not he] at hr
    obtain ⟨d1, h1, hK⟩ := hr
    exact stepD_sound hi hst h hd h1 fun c' a' w' hg hs hsz => hn c' d1 a' w' hK hg hs hsz
  | true =>
    obtain ⟨op, ho⟩ := eff_hp he
    rw [stepW_eff ho he] at hr
    obtain ⟨hg, hsafe, hall⟩ := hr
    obtain ⟨hop, hdst, hgd⟩ := stmtOf_inv hst
    have hop : opOf P o = some op := by
      have : opOf P o = some st.op.erase := hop
      rw [ho] at this
      have hs : op.strip = op := by
        rw [ho] at he
        cases op <;> first | rfl | (cases he; done)
      rw [← hs]
      exact this
    have hdst : st.dst = o.dst := hdst
    have hgn : o.guard = none := by
      rcases hgd with ⟨g1, _⟩ | ⟨j, b, og, g, _, _, _, g4⟩
      · exact g1
      · have g4 : st.guard = some (g, b) := g4
        rw [hg.1] at g4; cases g4
    unfold wpOp
    simp only [hi]
    rw [if_pos (wanted_none hgn)]
    left
    have hov := oval_toS (d := d) h.1
    have hrun : runH op o.dst (toS d a.tmps.size) fun s' => ∃ H1 v, HOut (dval d.f) d.H op H1 v ∧ s' = { toS d a.tmps.size with H := H1 }.put o.dst v := by
      refine runH_of (fun hh => by rw [← hdst]; exact hg.2 (by rw [ho]; exact hh)) (by rw [hov]; exact hsafe) fun H1 v ho => ?_
      rw [hov] at ho
      exact ⟨H1, v, ho, rfl⟩
    refine runH_sound hop h.2 hd hrun fun c' s' a' w' hs' hg' hst' hsz => ?_
    obtain ⟨H1, v, hout, rfl⟩ := hs'
    refine hn c' _ a' w' (hall H1 v hout) ?_ hst' hsz
    rw [hdst]
    obtain ⟨k1, k2, k3⟩ := hg'
    refine ⟨fun x hx => ?_, ?_, ?_, k3⟩
    · rw [hsz] at hx
      cases hod : o.dst with
      | none => exact h.1 x hx
      | some y =>
        show upd d.f y v x = _
        have hy := hd y hod
        have hne : y ≠ x := Nat.ne_of_lt (Nat.lt_of_lt_of_le hy hx)
        rw [upd_ne _ _ hne]
        exact h.1 x hx
    · have e1 : (({ toS d a.tmps.size with H := H1 } : S).put o.dst v).loc = d.L := by cases o.dst <;> rfl
      have e2 : (({ toS d a.tmps.size with H := H1 } : S).put o.dst v).H = H1 := by cases o.dst <;> rfl
      rw [e1, e2] at k1
      show MRel c' ({ d with H := H1 }.put o.dst v).L ({ d with H := H1 }.put o.dst v).H w'
      rw [put_L, put_H]
      exact k1
    · intro x sv hx
      rw [hsz, get_toS] at hx
      split at hx
      · rename_i hlt
        refine k2 x sv ?_
        cases hod : o.dst with
        | none =>
          rw [hod] at hx
          show get (toS d a.tmps.size).env x = some sv
          rw [get_toS, if_pos hlt]
          exact hx
        | some y =>
          rw [hod] at hx
          show get (Abs.put (toS d a.tmps.size).env y v) x = some sv
          rw [get_put, get_toS, if_pos hlt]
          simp only [Option.some.injEq] at hx
          have hx' : upd d.f y v x = sv := hx
          simp only [upd] at hx'
          split
          · rename_i e; rw [if_pos e] at hx'; rw [hx']
          · rename_i e; rw [if_neg e] at hx'; rw [hx']
      · cases hx

theorem Good.drew {s : S} (h : Good c s a w) : Good c s a { w with drawn := w.drawn + 1 } ∧ Step c w c { w with drawn := w.drawn + 1 } := by
  have hst : Step c w c { w with drawn := w.drawn + 1 } := ⟨rfl, rfl, rfl, Nat.le_refl _, fun _ _ _ => rfl, fun _ _ => ⟨id, id⟩⟩
  have hk := hst.keep h.1.lt
  refine ⟨⟨h.1.upd hk h.1.lt (fun d o ho => .inr ⟨ho, rfl, rfl, fun b hb => ⟨hb, rfl⟩⟩) (fun b o ho => .inr ⟨ho, fun hb => ⟨hb, rfl⟩⟩), h.2.1.same hk rfl rfl, h.2.2⟩, hst⟩

/-- what is still to be done, and what has been listed -/
structure Pend (ops : Array Oper) (listed : Array Bool) (rem : List Nat) : Prop where
  size : listed.size = ops.size
  mem : ∀ i, i ∈ rem ↔ i < ops.size ∧ listed.getD i true = false
  sorted : rem.Pairwise (· < ·)
  closed : ∀ i o, ops[i]? = some o → listed.getD i false = true → ∀ e ∈ edgesOf o, listed.getD e false = true

theorem edges_mem {o : Oper} {e : Edge} (he : e ∈ o.after) (hb : Region.binds .any e = true) : e.on ∈ edgesOf o := by
  unfold edgesOf
  exact List.mem_map.2 ⟨e, List.mem_filter.2 ⟨by simpa using he, hb⟩, rfl⟩
theorem mem_edges {o : Oper} {x : Nat} (h : x ∈ edgesOf o) : ∃ e ∈ o.after, Region.binds .any e = true ∧ e.on = x := by
  unfold edgesOf at h
  obtain ⟨e, he, rfl⟩ := List.mem_map.1 h
  obtain ⟨h1, h2⟩ := List.mem_filter.1 he
  exact ⟨e, by simpa using h1, h2, rfl⟩

theorem getD_flip {listed : Array Bool} {i : Nat} (hi : i < listed.size) : listed.getD i true = listed.getD i false := by
  simp [Array.getD_eq_getD_getElem?, hi]

theorem reach_listed {ops : Array Oper} {listed : Array Bool} {rem : List Nat} (hp : Pend ops listed rem) {i p : Nat} (h : Reach (ops.toList.map edgesOf) i p) : (∀ o, ops[i]? = some o → ∀ e ∈ edgesOf o, listed.getD e false = true) → listed.getD p false = true := by
  induction h with
  | one hE hm =>
    intro hd
    rw [List.getElem?_map] at hE
    obtain ⟨o, ho, rfl⟩ := Option.map_eq_some_iff.1 hE
    exact hd o (by simpa using ho) _ hm
  | step hE hm _ ih =>
    intro hd
    rw [List.getElem?_map] at hE
    obtain ⟨o, ho, rfl⟩ := Option.map_eq_some_iff.1 hE
    have hl := hd o (by simpa using ho) _ hm
    exact ih fun o' ho' e' he' => hp.closed _ o' ho' hl e' he'

theorem pairwise_split {i : Nat} : ∀ {l : List Nat}, i ∈ l → l.Pairwise (· < ·) → ∃ pre post, l = pre ++ i :: post ∧ ∀ p ∈ pre, p < i
  | [], h, _ => by cases h
  | x :: l, h, hp => by
    rw [List.pairwise_cons] at hp
    by_cases e : i = x
    · subst e; exact ⟨[], l, rfl, by simp⟩
    · obtain ⟨pre, post, rfl, hlt⟩ := pairwise_split (List.mem_of_ne_of_mem e h) hp.2
      refine ⟨x :: pre, post, rfl, fun p hp' => ?_⟩
      rcases List.mem_cons.1 hp' with rfl | hp'
      · exact hp.1 i (by simp)
      · exact hlt p hp'

theorem region_draw {ops : Array Oper} {id : Nat} {sts : List Stmt} (hm : P.follows .mixedOrders = true) (hsts : ops.toList.mapM (stmtOf P ops) = some (sts.map Stmt.erase)) (hok : drawOk ops sts = true)
    {K : D → Prop} (hr : RunW P sts d K) (h : GoodD c d a w) (hdst : dstB a.tmps.size ops = true) :
    (Code.region id ops true).wp P (fun e a' w' => e = .normal ∧ ∃ c' d', K d' ∧ GoodD c' d' a' w' ∧ Step c w c' w' ∧ a'.tmps.size = a.tmps.size) a w := by
  obtain ⟨m1, m2⟩ := mapM_get _ _ hsts
  simp only [Array.length_toList, List.length_map] at m1
  unfold drawOk at hok
  simp only [Bool.and_eq_true] at hok
  obtain ⟨⟨_, hlow⟩, hpairs⟩ := hok
  have hlow' : ∀ i o, ops[i]? = some o → ∀ e ∈ edgesOf o, e < i := by
    intro i o hi e he
    have hmem : (o, i) ∈ ops.toList.zipIdx := by
      rw [List.mem_iff_getElem?]
      exact ⟨i, by simp [List.getElem?_zipIdx, hi]⟩
    have := List.all_eq_true.1 (List.all_eq_true.1 hlow (o, i) hmem) e he
    simpa using this
  have hpair : ∀ i k p q, i < k → sts[i]? = some p → sts[k]? = some q → Reach (ops.toList.map edgesOf) k i ∨ indepW p q = true := by
    intro i k p q hik hp hq
    rcases pairsB_spec _ sts [] 0 rfl hpairs i k p q hik (by simpa using hp) (by simpa using hq) (by simp) with hh | hh
    · exact .inl (closA_reach _ (ops.toList.map edgesOf) [] (by simp) (by simp) k i hh)
    · exact .inr hh
  have key : ∀ (fuel : Nat) (listed : Array Bool) (rem : List Nat) (c1 : Cx) (d1 : D) (a1 : Act) (w1 : World), rem.length ≤ fuel → Pend ops listed rem → RunW P (rem.map fun i => sts.getD i default) d1 K → GoodD c1 d1 a1 w1 → Step c w c1 w1 → a1.tmps.size = a.tmps.size →
      wpAny P .any ops (fun e a' w' => e = .normal ∧ ∃ c' d', K d' ∧ GoodD c' d' a' w' ∧ Step c w c' w' ∧ a'.tmps.size = a.tmps.size) fuel listed a1 w1 := by
    intro fuel
    induction fuel with
    | zero =>
      intro listed rem c1 d1 a1 w1 hlen hp hrun hg hs hsz
      have hrem : rem = [] := List.eq_nil_of_length_eq_zero (by omega)
      subst hrem
      simp only [List.map_nil, RunW] at hrun
      refine ⟨?_, rfl, c1, d1, hrun, hg, hs, hsz⟩
      rw [List.eq_nil_iff_forall_not_mem]
      intro i hi
      obtain ⟨h1, o, ho, _⟩ := mem_ready.1 hi
      have := (hp.mem i).2 ⟨(Array.getElem?_eq_some_iff.1 ho).1, h1⟩
      cases this
    | succ fuel ih =>
      intro listed rem c1 d1 a1 w1 hlen hp hrun hg hs hsz
      refine ⟨fun hready => ?_, fun i hi => ?_⟩
      · -- nothing is ready: nothing is left
        cases rem with
        | nil =>
          simp only [List.map_nil, RunW] at hrun
          exact ⟨rfl, c1, d1, hrun, hg, hs, hsz⟩
        | cons x r =>
          exfalso
          obtain ⟨hx1, hx2⟩ := (hp.mem x).1 (by simp)
          have : x ∈ Region.ready .any ops listed := by
            refine mem_ready.2 ⟨hx2, ops[x], Array.getElem?_eq_getElem hx1, fun e he hb => ?_⟩
            have helow := hlow' x ops[x] (Array.getElem?_eq_getElem hx1) e.on (edges_mem he hb)
            -- e.on is smaller than the least that is left
            cases hl : listed.getD e.on false with
            | true => rfl
            | false =>
              exfalso
              have hmem := (hp.mem e.on).2 ⟨by omega, by rw [getD_flip (by rw [hp.size]; omega)]; exact hl⟩
              have hso := hp.sorted
              rw [List.pairwise_cons] at hso
              rcases List.mem_cons.1 hmem with he' | he'
              · omega
              · have := hso.1 _ he'; omega
          rw [hready] at this; cases this
      · obtain ⟨hi1, o, ho, hdeps⟩ := mem_ready.1 hi
        have hilt : i < ops.size := (Array.getElem?_eq_some_iff.1 ho).1
        have himem := (hp.mem i).2 ⟨hilt, hi1⟩
        obtain ⟨pre, post, rfl, hlt⟩ := pairwise_split himem hp.sorted
        have hstI : sts[i]? = some (sts.getD i default) := by
          rw [List.getD_eq_getElem?_getD, List.getElem?_eq_getElem (by omega)]; rfl
        have hind : ∀ p ∈ pre.map (fun i => sts.getD i default), indepW p (sts.getD i default) = true := by
          intro p hpm
          obtain ⟨j, hj, rfl⟩ := List.mem_map.1 hpm
          obtain ⟨hj1, hj2⟩ := (hp.mem j).1 (by simp [hj])
          have hstJ : sts[j]? = some (sts.getD j default) := by
            rw [List.getD_eq_getElem?_getD, List.getElem?_eq_getElem (by omega)]; rfl
          rcases hpair j i _ _ (hlt j hj) hstJ hstI with hre | hin
          · have := reach_listed hp hre (fun o' ho' e' he' => by
              rw [ho] at ho'; injection ho' with ho'; subst ho'
              obtain ⟨e, he1, he2, rfl⟩ := mem_edges he'
              exact hdeps e he1 he2)
            rw [getD_flip (by rw [hp.size]; exact hj1)] at hj2
            rw [this] at hj2; cases hj2
          · exact hin
        rw [List.map_append, List.map_cons] at hrun
        have hfront := frontW _ _ hg.cof hrun hind
        simp only [RunW] at hfront
        have hstmt : stmtOf P ops o = some (sts.getD i default).erase := m2 i o _ (by simpa using ho) (by rw [List.getElem?_map, hstI]; rfl)
        refine stepW_sound ho hstmt hg (by intro x hx; rw [hsz]; exact dstB_get hdst ho x hx) hfront fun c2 d2 a2 w2 hrest hg2 hs2 hsz2 => ?_
        refine ih _ (pre ++ post) c2 d2 a2 w2 (by simp at hlen ⊢; omega) ?_ (by rw [List.map_append]; exact hrest) hg2 (hs.trans hs2) (hsz2.trans hsz)
        refine ⟨by simp [hp.size], fun k => ?_, ?_, fun k o' ho' hl e he => ?_⟩
        · have hso := hp.sorted
          have hk0 := hp.mem k
          by_cases hki : k = i
          · subst hki
            constructor
            · intro hk
              exfalso
              rw [List.pairwise_append] at hso
              rcases List.mem_append.1 hk with hk | hk
              · have := hlt k hk; omega
              · have := (List.pairwise_cons.1 hso.2.1).1 k hk; omega
            · rintro ⟨_, hk⟩
              rw [Array.getD_eq_getD_getElem?] at hk
              simp [hp.size, hilt] at hk
          · rw [getD_set_ne true (Ne.symm hki)]
            rw [← hk0]
            simp [hki]
        · have hso := hp.sorted
          rw [List.pairwise_append] at hso ⊢
          refine ⟨hso.1, (List.pairwise_cons.1 hso.2.1).2, fun x hx y hy => hso.2.2 x hx y (by simp [hy])⟩
        · by_cases hki : k = i
          · subst hki
            rw [ho] at ho'; injection ho' with ho'; subst ho'
            obtain ⟨e', he1, he2, rfl⟩ := mem_edges he
            exact getD_set_true (hdeps e' he1 he2)
          · rw [getD_set_ne false (Ne.symm hki)] at hl
            exact getD_set_true (hp.closed k o' ho' hl e he)
  have hdrew := h.2.drew
  refine wp_region_any hm ?_
  refine key ops.size _ (List.range ops.size) c d a _ (by simp) ?_ ?_ ⟨h.1, hdrew.1⟩ hdrew.2 rfl
  · refine ⟨by simp, fun i => ?_, List.pairwise_lt_range, fun i o ho hl e he => ?_⟩
    · rw [List.mem_range]
      constructor
      · intro hi
        exact ⟨hi, by simp [Array.getD_eq_getD_getElem?, hi]⟩
      · exact fun hi => hi.1
    · exfalso
      have hi := (Array.getElem?_eq_some_iff.1 ho).1
      simp [Array.getD_eq_getD_getElem?, hi] at hl
  · have : (List.range ops.size).map (fun i => sts.getD i default) = sts := by
      rw [← m1]
      apply List.ext_getElem?
      intro j
      by_cases hj : j < sts.length
      · simp [hj, List.getD_eq_getElem?_getD]
      · simp [hj]
    rw [this]
    exact hr

end
end Go.Proofs.Ytejmcijcdhoogaa.Abs
