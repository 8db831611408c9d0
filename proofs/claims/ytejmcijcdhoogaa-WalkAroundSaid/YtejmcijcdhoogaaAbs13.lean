import Derived.Test.YtejmcijcdhoogaaAbsF
set_option linter.unusedSimpArgs false
set_option linter.unusedVariables false
namespace Go.Proofs.Ytejmcijcdhoogaa.Abs
open Go

inductive SRes where
  | tmp (t : Nat)
  | cell (t n : Nat) (agg : Bool)

def resOf (P : Program) : ResultVar → Option SRes
  | .tmp t => some (.tmp t)
  | .cell a t => do some (.cell a (← tsz P t) (← tag P t))

def SRes.opnds : SRes → List Operand
  | .tmp t => [.tmp t]
  | _ => []

def resOne (s : S) : SRes → Option AV
  | .tmp t => toAV (oval s.env (.tmp t))
  | .cell a n agg => match rdA s.loc s.H (oval s.env (.tmp a)) with
    | some (cs, o) => rdV cs o n agg
    | none => none

def resAll (s : S) : List SRes → Option (List AV)
  | [] => some []
  | r :: l => match resOne s r, resAll s l with
    | some a, some as => some (a :: as)
    | _, _ => none

def tupOf : List AV → AV
  | [a] => a
  | l => .tup l

/-- the results, what is the function's own frozen -/
def retq (rs : List SRes) (s : S) : Option AV := (resAll (frzAll s (rs.flatMap SRes.opnds)) rs).map tupOf

def retK (rs : List SRes) (Q : AV → AHeap → Prop) (e : AEx) (s : S) : Prop :=
  match e with
  | .normal | .ret => match retq rs s with
    | some r => Q r s.H
    | none => False
  | _ => False

def envOf : Nat → List AV → List (Nat × SV)
  | _, [] => []
  | k, a :: r => (k, .v a) :: envOf (k + 1) r

def resRun (tmps : Array Value) : ResultVar → Go.Sem Value
  | .tmp t => pure (tmps.getD t undef)
  | .cell q t => do loadVar t (← asAddr (tmps.getD q undef))
theorem results_eq (fn : Func) (tmps : Array Value) : results fn tmps = (do
    let vs ← fn.results.mapM (resRun tmps)
    pure (if h : vs.size = 1 then vs[0] else .tuple vs)) := by
  unfold results
  rfl

section
variable {P : Program} {c : Cx} {w : World} {a : Act} {s : S}

theorem frz_H (s : S) (d : Nat) : (s.frz d).H = s.H := by
  unfold S.frz
  split <;> rfl
theorem frzAll_H : ∀ (xs : List Operand) (s : S), (frzAll s xs).H = s.H
  | [], _ => rfl
  | x :: r, s => by
    simp only [frzAll]
    rw [frzAll_H r]
    split
    · exact frz_H s _
    · rfl

theorem resOne_sound (h : Good c s a w) {rv : ResultVar} {r : SRes} (hr : resOf P rv = some r) {u : AV} (hu : resOne s r = some u) :
    ∃ v, (resRun a.tmps rv).run P w = .ok v w ∧ RV c.I w u v := by
  cases rv with
  | tmp t =>
    simp only [resOf, Option.some.injEq] at hr; subst hr
    simp only [resOne] at hu
    have hx := oval_rs h.2.1 (.tmp t)
    cases hv : oval s.env (.tmp t) with
    | v q =>
      rw [hv] at hu hx
      simp only [toAV, Option.some.injEq] at hu; subst hu
      exact ⟨_, rfl, hx⟩
    | loc d o => rw [hv] at hu; simp [toAV] at hu
    | own d => rw [hv] at hu; simp [toAV] at hu
  | cell q t =>
    simp only [resOf, Option.bind_eq_bind] at hr
    obtain ⟨n, hn, hr⟩ := Option.bind_eq_some_iff.1 hr
    obtain ⟨g, hg, hr⟩ := Option.bind_eq_some_iff.1 hr
    simp only [Option.some.injEq] at hr; subst hr
    simp only [resOne] at hu
    split at hu
    · rename_i cs o he
      have hx := oval_rs h.2.1 (.tmp q)
      obtain ⟨y, h3, h4⟩ := loadAt_sound (P := P) hn hg h.1 hx he hu
      obtain ⟨b, p, hb, _⟩ := rdA_sound h.1 hx he
      have hb' : a.tmps.getD q undef = _ := hb
      refine ⟨y, ?_, h4⟩
      simp only [resRun, hb', asAddr, Sem.run_bind, Sem.run_pure, Result.andThen_ok]
      have hev : a.eval (.tmp q) = _ := hb
      rw [hev] at h3
      unfold Instr.loadAt Instr.sureAddr at h3
      simpa using h3
    · cases hu

theorem results_sound {fn : Func} {rs : List SRes} (hrs : fn.results.toList.mapM (resOf P) = some rs) (h : Good c s a w) {us : List AV} (hu : resAll s rs = some us) :
    ∃ v, (results fn a.tmps).run P w = .ok v w ∧ RV c.I w (tupOf us) v := by
  obtain ⟨m1, m2⟩ := mapM_get _ _ hrs
  have key : ∀ (l : List ResultVar) (r : List SRes) (us : List AV), r.length = l.length → (∀ (j : Nat) (x : ResultVar) (y : SRes), l[j]? = some x → r[j]? = some y → resOf P x = some y) → resAll s r = some us →
      ∃ vs : List Value, (l.mapM (resRun a.tmps)).run P w = .ok vs w ∧ RL c.I w us vs := by
    intro l
    induction l with
    | nil =>
      intro r us hl _ hu
      have : r = [] := List.eq_nil_of_length_eq_zero (by simpa using hl)
      subst this
      simp only [resAll, Option.some.injEq] at hu; subst hu
      exact ⟨[], by simp, by simp [RL]⟩
    | cons x l ih =>
      intro r us hl hj hu
      cases r with
      | nil => simp at hl
      | cons y r =>
        simp only [resAll] at hu
        split at hu
        · rename_i q qs h1 h2
          simp only [Option.some.injEq] at hu; subst hu
          obtain ⟨v, hv1, hv2⟩ := resOne_sound h (hj 0 x y (by simp) (by simp)) h1
          obtain ⟨vs, hvs1, hvs2⟩ := ih r qs (by simpa using hl) (fun j p q hp hq => hj (j + 1) p q (by simpa using hp) (by simpa using hq)) h2
          refine ⟨v :: vs, ?_, by simp only [RL]; exact ⟨v, vs, rfl, hv2, hvs2⟩⟩
          rw [List.mapM_cons, Sem.run_bind, hv1, Result.andThen_ok, Sem.run_bind, hvs1, Result.andThen_ok]
          rfl
        · cases hu
  obtain ⟨vs, hvs, hrl⟩ := key fn.results.toList rs us m1 m2 hu
  rw [results_eq, Sem.run_bind, Array.mapM_eq_mapM_toList, Sem.run_map]
  rw [hvs, Result.andThen_ok, Result.andThen_ok]
  have hlen := RL_length hrl
  match us, vs, hrl, hlen with
  | [], [], hrl, _ => exact ⟨.tuple #[], by simp, by simp only [tupOf, RV]; exact ⟨[], rfl, hrl⟩⟩
  | [u], [v], hrl, _ =>
    refine ⟨v, by simp, ?_⟩
    simp only [RL] at hrl
    obtain ⟨v', us', he, h1, _⟩ := hrl
    simp only [List.cons.injEq] at he
    rw [he.1]
    exact h1
  | u :: u2 :: us, v :: v2 :: vs, hrl, _ =>
    refine ⟨.tuple (v :: v2 :: vs).toArray, ?_, by simp only [tupOf, RV]; exact ⟨_, rfl, hrl⟩⟩
    simp

theorem get_envOf : ∀ (as : List AV) (k x : Nat) (sv : SV), get (envOf k as) x = some sv → ∃ j u, x = k + j ∧ as[j]? = some u ∧ sv = .v u
  | [], _, _, _, h => by simp [envOf, get] at h
  | a :: as, k, x, sv, h => by
    simp only [envOf, get] at h
    split at h
    · rename_i e
      simp only [Option.some.injEq] at h
      exact ⟨0, a, by omega, by simp, h.symm⟩
    · obtain ⟨j, u, h1, h2, h3⟩ := get_envOf as (k + 1) x sv h
      exact ⟨j + 1, u, by omega, by simpa using h2, h3⟩

structure FnOk (P : Program) (f : FuncId) (fn : Func) (sc : SCode) (rs : List SRes) (n : Nat) : Prop where
  get : P.funcs[f]? = some fn
  body : fn.body.bind (codeOf P) = some sc.erase
  ok : (fn.body.map fun c => codeB fn.ntmps c && drawsB c sc).getD false = true
  mixed : P.follows .mixedOrders = true
  res : fn.results.toList.mapM (resOf P) = some rs
  name : (fn.name == "runtime.NumGoroutine") = false
  size : Nat.ble n fn.ntmps = true

open Classical in
/-- A FUNCTION'S CONTRACT OUT OF ITS BODY -/
theorem ACalls.of_body {f : FuncId} {fn : Func} {sc : SCode} {rs : List SRes} {args : List AV} {H : AHeap} {Q : AV → AHeap → Prop} (hF : FnOk P f fn sc rs args.length)
    (h : AWP P sc (retK rs Q) { env := envOf 0 args, loc := [], H := H }) : ACalls P f args H Q := by
  obtain ⟨hf, hb, hok, hmix, hres, hname, hsize0⟩ := hF
  have hsize := Nat.le_of_ble_eq_true hsize0
  obtain ⟨cd, hcd, hsc⟩ := Option.bind_eq_some_iff.1 hb
  have hcb : codeB fn.ntmps cd = true ∧ drawsB cd sc = true := by rw [hcd] at hok; simpa using hok
  refine ⟨?_, ?_⟩
  · unfold callable
    rw [hf]
    simp [hname, hcd]
  intro I w vs hI hrl
  have hlen := RL_length hrl
  refine calls_of_wp hf hcd ?_
  let c : Cx := { ow := fun b => if I b then .imm else if H b ≠ none then .hp else .free, β := fun _ => 0, ν := fun _ => undef }
  have hcI : c.I = I := by
    funext b
    apply propext
    constructor
    · intro hb
      have hb' : (if I b then Ow.imm else if H b ≠ none then .hp else .free) = .imm := hb
      split at hb'
      · assumption
      · split at hb' <;> cases hb'
    · intro hb
      show (if I b then Ow.imm else if H b ≠ none then .hp else .free) = .imm
      rw [if_pos hb]
  have hm : MRel c [] H w := by
    refine ⟨fun d o h => by simp [get] at h, fun b o ho => ?_, fun b hb => ?_⟩
    · have hni : ¬ I b := fun hi => by have := (hI.im b hi).2; rw [ho] at this; cases this
      refine ⟨by show (if I b then Ow.imm else if H b ≠ none then .hp else .free) = .hp; rw [if_neg hni, if_pos (by rw [ho]; simp)], ?_⟩
      rw [hcI]
      exact (hI.hp b o ho).2
    · have hb' : (if I b then Ow.imm else if H b ≠ none then .hp else .free) ≠ .free := hb
      split at hb'
      · rename_i hi; exact (hI.im b hi).1
      · split at hb'
        · rename_i hh
          cases hq : H b with
          | none => exact absurd hq hh
          | some o => exact (hI.hp b o hq).1
        · exact absurd rfl hb'
  have hsz : vs.toArray.size ≤ fn.ntmps := by simp; omega
  have hgood : Good c { env := envOf 0 args, loc := [], H := H } { tmps := vs.toArray ++ Array.replicate (fn.ntmps - vs.toArray.size) undef, defers := [] } w := by
    refine ⟨hm, fun x sv hx => ?_, rfl⟩
    obtain ⟨j, u, h1, h2, rfl⟩ := get_envOf args 0 x sv hx
    have hjl := (List.getElem?_eq_some_iff.1 h2).1
    refine ⟨by simp; omega, ?_⟩
    obtain ⟨v, hv1, hv2⟩ := RL_get hrl h2
    have : x = j := by omega
    subst this
    have hget : (vs.toArray ++ Array.replicate (fn.ntmps - vs.toArray.size) undef).getD x undef = v := by
      rw [Array.getD_eq_getD_getElem?, Array.getElem?_append_left (by simp; omega)]
      simp [hv1]
    show RV c.I w u _
    rw [hget, hcI]
    exact hv2
  refine wp_mono (sem_sound hmix cd _ hsc hcb.1 hcb.2 h c _ w hgood (by simp; omega)) ?_
  rintro e a' w' ⟨x, c', s', rfl, hK, hg, hst, hsz'⟩
  have fin : (match retq rs s' with | some r => Q r s'.H | none => False) →
      ∃ v, (results fn a'.tmps).run P w' = .ok v w' ∧ ∃ r H' I' v', Ending.returned v = .returned v' ∧ Q r H' ∧ HOK I' H' w' ∧ RV I' w' r v' ∧ Fr I H w I' H' w' := by
    intro hq
    split at hq
    · rename_i r hr
      unfold retq at hr
      obtain ⟨us, hus, rfl⟩ := Option.map_eq_some_iff.1 hr
      obtain ⟨c2, hg2, hst2⟩ := frzAll_good (rs.flatMap SRes.opnds) hg
      obtain ⟨v, hv1, hv2⟩ := results_sound hres hg2 hus
      have hstep := hst.trans hst2
      have hHe : (frzAll s' (rs.flatMap SRes.opnds)).H = s'.H := frzAll_H _ _
      have hhok := hg2.hok
      rw [hHe] at hhok
      refine ⟨v, hv1, _, s'.H, c2.I, v, rfl, hq, hhok, hv2, ⟨hstep.os, hstep.tape, hstep.output, hstep.size, ?_, ?_, ?_, ?_⟩⟩
      · intro b hb hH
        refine hstep.blk b hb ?_
        show (if I b then Ow.imm else if H b ≠ none then .hp else .free) = .free ∨ (if I b then Ow.imm else if H b ≠ none then .hp else .free) = .imm
        by_cases hi : I b
        · rw [if_pos hi]; exact .inr rfl
        · rw [if_neg hi, if_neg (by simp [hH])]; exact .inl rfl
      · intro b hb
        have := (hstep.tag b (hI.im b hb).1).2 (by show (if I b then Ow.imm else if H b ≠ none then .hp else .free) = .imm; rw [if_pos hb])
        exact this
      · intro b hb
        by_cases hlt : b < w.heap.size
        · by_cases hi : I b
          · exact .inl hi
          · by_cases hh : H b ≠ none
            · exact .inr (.inl hh)
            · have := (hstep.tag b hlt).1 (by show (if I b then Ow.imm else if H b ≠ none then .hp else .free) = .free; rw [if_neg hi, if_neg hh])
              have hb' : c2.ow b = .imm := hb
              rw [this] at hb'; cases hb'
        · exact .inr (.inr (by omega))
      · intro b hb
        by_cases hlt : b < w.heap.size
        · left
          intro hh
          cases hq' : s'.H b with
          | none => exact hb hq'
          | some o =>
            have htag := (hg2.1.hp b o (by rw [hHe]; exact hq')).1
            by_cases hi : I b
            · have := (hstep.tag b hlt).2 (by show (if I b then Ow.imm else if H b ≠ none then .hp else .free) = .imm; rw [if_pos hi])
              rw [this] at htag; cases htag
            · have := (hstep.tag b hlt).1 (by show (if I b then Ow.imm else if H b ≠ none then .hp else .free) = .free; rw [if_neg hi, if_neg (by simp [hh])])
              rw [this] at htag; cases htag
        · exact .inr (by omega)
    · exact hq.elim
  cases x with
  | normal =>
    obtain ⟨v, h1, h2⟩ := fin hK
    exact ⟨hg.2.2, v, h1, h2⟩
  | ret =>
    obtain ⟨v, h1, h2⟩ := fin hK
    exact ⟨hg.2.2, v, h1, h2⟩
  | exit id => exact hK.elim
  | goto l => exact hK.elim

end
end Go.Proofs.Ytejmcijcdhoogaa.Abs
