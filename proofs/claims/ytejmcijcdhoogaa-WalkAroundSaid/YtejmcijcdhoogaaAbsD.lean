import Derived.Test.YtejmcijcdhoogaaAbs11
set_option linter.unusedSimpArgs false
set_option linter.unusedVariables false
namespace Go.Proofs.Ytejmcijcdhoogaa.Abs
open Go

/-! ### a region whose order is open: the state, slots as a function -/
structure D where
  f : Nat → SV
  L : List (Nat × LObj)
  H : AHeap

def dval (f : Nat → SV) : Operand → SV
  | .tmp t => f t
  | .const v => .v (cAV v)
  | .global g => .v (.raw (.pointer (some ⟨g, 0, none⟩)))
  | .func f => .v (.raw (.func (.func f) #[] #[]))

def D.put (d : D) (dst : Option Nat) (v : SV) : D :=
  match dst with
  | some x => { d with f := upd d.f x v }
  | none => d

def SOp.reads : SOp → List Operand
  | .mv x => [x]
  | .pick c a b => [c, a, b]
  | .nilc x => [x]
  | .load _ _ x => [x]
  | .bin _ _ x y => [x, y]
  | .beq _ x y => [x, y]
  | .eqs _ _ x y => [x, y]
  | .isnil _ _ x => [x]
  | .un _ x => [x]
  | .cnv _ x => [x]
  | .b2s x => [x]
  | .fld _ x => [x]
  | .prt _ _ _ x => [x]
  | .ia _ _ x i => [x, i]
  | .ixs x i => [x, i]
  | .ixa _ _ _ x i => [x, i]
  | .ext x _ => [x]
  | .len _ x => [x]
  | .build _ ps => ps.map (·.2.2)
  | .mkfn _ xs ys => xs ++ ys
  | .slc _ x lo hi mx => x :: (lo.toList ++ hi.toList ++ mx.toList)
  | .mnx _ x y => [x, y]
  | .cap x => [x]
  | .halt => []
  | .appz _ _ _ _ _ x y => [x, y]
  | .lk _ _ _ x k => [x, k]
  | .mkmap _ => []
  | .mset _ x k v => [x, k, v]
  | .bsl _ _ _ _ ps => ps.map (·.2.2)
  | .alloc _ _ => []
  | .box _ x => [x]
  | .store _ x y => [x, y]
  | .mksl _ _ _ _ l k => [l, k]
  | .app _ _ _ _ _ x y => [x, y]
  | .call _ xs => xs
  | .cald f xs => f :: xs
  | .hp op => op.reads
  | .ow op => op.reads

def Stmt.reads (st : Stmt) : List Operand := (match st.guard with | some (g, _) => [.tmp g] | none => []) ++ st.op.reads

/-- an append onto nothing: a new slice that is read only -/
def nilappq (sz by_ : Nat) (x y : SV) : Option SV :=
  match x, y with
  | .v (.vec true [] 0), .v (.vec _ ds m) => if ds.length = m * sz ∧ m * by_ ≤ 140737488355328 ∧ m ≤ maxLen then some (.v (.vec (m == 0) ds m)) else none
  | _, _ => none

/-- a load from a struct on the heap, no row -/
def hldq (H : AHeap) (n : Nat) (agg : Bool) : SV → Option SV
  | .v (.raw (.pointer (some ⟨b, o, none⟩))) => match H b with
    | some (.cells cs _) => (rdV cs o n agg).map .v
    | _ => none
  | _ => none
/-- a load from what is no local object -/
def hrdq (H : AHeap) (n : Nat) (agg : Bool) : SV → Option SV
  | .v u => match rdA [] H (.v u) with
    | some (cs, o) => (rdV cs o n agg).map .v
    | none => none
  | _ => none
def hpq (H : AHeap) (e : Operand → SV) : SOp → Option SV
  | .load n agg x => hldq H n agg (e x)
  | .hp (.load n agg x) => hrdq H n agg (e x)
  | _ => none
def isLocV : SV → Bool
  | .loc _ _ => true
  | _ => false

/-- a load from what is the function's own, or read only -/
def lldq (L : List (Nat × LObj)) (n : Nat) (agg : Bool) : SV → Option SV
  | .loc d o => match get L d with
    | some (.cells cs _) => (rdV cs o n agg).map .v
    | some (.arr _ cs _ _ _) => (rdV cs o n agg).map .v
    | _ => none
  | .v (.box cs o) => (rdV cs o n agg).map .v
  | _ => none
def lpq (L : List (Nat × LObj)) (e : Operand → SV) : SOp → Option SV
  | .load n agg x => lldq L n agg (e x)
  | _ => none

def actD (P : Program) (st : Stmt) (d d' : D) : Prop :=
  match st.op with
  | .bsl _ sz _ len ps => ∃ sv, bslq (dval d.f) sz len ps = some sv ∧ d' = d.put st.dst sv
  | .app _ _ sz by_ _ x y => ∃ sv, nilappq sz by_ (dval d.f x) (dval d.f y) = some sv ∧ d' = d.put st.dst sv
  | .call f xs => ∃ us r, allAV (xs.map (dval d.f)) = some us ∧ ACalls P f us d.H (fun r' H' => r' = r ∧ H' = d.H) ∧ d' = d.put st.dst (.v r)
  | .cald x xs => ∃ f first cap us r, fnOf (dval d.f x) = some (f, first, cap) ∧ allAV (xs.map (dval d.f)) = some us ∧ ACalls P f (first ++ us ++ cap) d.H (fun r' H' => r' = r ∧ H' = d.H) ∧ d' = d.put st.dst (.v r)
  | .store n x y => ∃ u ds s', dval d.f y = .v u ∧ acells u = some ds ∧ storeq ⟨[], d.L, d.H⟩ n (dval d.f x) ds = some s' ∧ st.dst = none ∧ d' = ⟨d.f, s'.loc, s'.H⟩
  | .hp op => ∃ sv, hpq d.H (dval d.f) op = some sv ∧ d' = d.put st.dst sv
  | .ow op => match op with
    | .store n x y => isLocV (dval d.f x) = true ∧ ∃ u ds s', dval d.f y = .v u ∧ acells u = some ds ∧ storeq ⟨[], d.L, d.H⟩ n (dval d.f x) ds = some s' ∧ st.dst = none ∧ d' = ⟨d.f, s'.loc, s'.H⟩
    | op => ∃ sv, lpq d.L (dval d.f) op = some sv ∧ d' = d.put st.dst sv
  | op => ∃ sv, qop d.L d.H (dval d.f) op = some sv ∧ d' = d.put st.dst sv

def stepD (P : Program) (st : Stmt) (d d' : D) : Prop :=
  match st.guard with
  | none => actD P st d d'
  | some (g, want) => match d.f g with
    | .v (.raw (.bool b)) => if b = want then actD P st d d' else d' = d.put st.dst (.v (.raw (.tuple #[])))
    | .v (.raw (.tuple _)) => d' = d.put st.dst (.v (.raw (.tuple #[])))
    | _ => False

def RunD (P : Program) : List Stmt → D → D → Prop
  | [], d, d' => d = d'
  | st :: r, d, d' => ∃ d1, stepD P st d d1 ∧ RunD P r d1 d'

def isStore : SOp → Bool
  | .store _ _ _ => true
  | .ow (.store _ _ _) => true
  | _ => false
/-- a store to what is local; a load from what is not -/
def isLst : SOp → Bool
  | .ow (.store _ _ _) => true
  | _ => false
def isHrd : SOp → Bool
  | .hp (.load _ _ _) => true
  | .hp (.hp (.load _ _ _)) => true
  | _ => false
/-- such a load, or an element's address -/
def isHrx : SOp → Bool
  | .hp (.load _ _ _) => true
  | .hp (.hp (.load _ _ _)) => true
  | .ia none _ _ _ => true
  | _ => false
/-- the state beside the slots does not matter -/
def stateless : SOp → Bool
  | .mv _ | .pick _ _ _ | .nilc _ | .bin _ _ _ _ | .beq _ _ _ | .eqs _ _ _ _ | .un _ _ | .cnv _ _ | .fld _ _ | .prt _ _ _ _ | .ia (some _) _ _ _ | .ixs _ _ | .ixa _ _ _ _ _ | .ext _ _ | .build _ _ | .mkfn _ _ _ | .slc _ _ _ _ _ | .mnx _ _ _ => true
  | .bsl _ _ _ _ _ | .app _ _ _ _ _ _ _ => true
  | _ => false

def slotOf : Operand → Option Nat
  | .tmp t => some t
  | _ => none
def Stmt.touches (st : Stmt) (x : Nat) : Bool := st.reads.any fun o => slotOf o == some x
def disjB (p q : Stmt) : Bool :=
  (match p.dst with | some x => !q.touches x && q.dst != some x | none => true) && (match q.dst with | some x => !p.touches x | none => true)
def indepB (p q : Stmt) : Bool := disjB p q && (if isStore p.op then !isStore q.op && (stateless q.op || isLst p.op && isHrx q.op) else if isStore q.op then stateless p.op || isLst q.op && isHrx p.op else true)

theorem dval_upd {f : Nat → SV} {x : Nat} {v : SV} {o : Operand} (h : slotOf o ≠ some x) : dval (upd f x v) o = dval f o := by
  cases o with
  | tmp t => exact upd_ne _ _ (fun e => h (by simp [slotOf, e]))
  | const v => rfl
  | global g => rfl
  | func f => rfl

theorem partsq_congr {e e' : Operand → SV} : ∀ (ps : List (Nat × Nat × Operand)), (∀ p ∈ ps, e p.2.2 = e' p.2.2) → partsq e ps = partsq e' ps
  | [], _ => rfl
  | (o, n, x) :: r, h => by
    simp only [partsq]
    rw [h (o, n, x) (by simp), partsq_congr r fun p hp => h p (by simp [hp])]

theorem qop_congr {L : List (Nat × LObj)} {H : AHeap} {e e' : Operand → SV} (op : SOp) (h : ∀ x ∈ op.reads, e x = e' x) : qop L H e op = qop L H e' op := by
  cases op with
  | build z ps =>
    simp only [qop]
    rw [partsq_congr ps fun p hp => h p.2.2 (by simp only [SOp.reads, List.mem_map]; exact ⟨p, hp, rfl⟩)]
  | mkfn f xs ys =>
    simp only [qop]
    rw [List.map_congr_left (f := e) (g := e') (l := xs) fun x hx => h x (by simp [SOp.reads, hx]), List.map_congr_left (f := e) (g := e') (l := ys) fun x hx => h x (by simp [SOp.reads, hx])]
  | slc sz x lo hi mx =>
    have hx := h x (by simp [SOp.reads])
    have hlo : lo.map e = lo.map e' := by cases lo with | none => rfl | some y => simp [h y (by simp [SOp.reads])]
    have hhi : hi.map e = hi.map e' := by cases hi with | none => rfl | some y => simp [h y (by simp [SOp.reads])]
    have hmx : mx.map e = mx.map e' := by cases mx with | none => rfl | some y => simp [h y (by simp [SOp.reads])]
    cases sz <;> simp only [qop, hx, hlo, hhi, hmx]
  | ia arr sz x i =>
    have hx := h x (by simp [SOp.reads])
    have hi := h i (by simp [SOp.reads])
    cases arr <;> simp only [qop, hx, hi]
  | _ => simp only [SOp.reads, List.mem_cons, List.not_mem_nil, or_false, forall_eq_or_imp, forall_eq] at h <;> simp only [qop, h]

theorem qop_stateless {L L' : List (Nat × LObj)} {H H' : AHeap} {e : Operand → SV} (op : SOp) (h : stateless op = true) : qop L H e op = qop L' H' e op := by
  cases op with
  | ia arr sz x i =>
    cases arr with
    | none => simp [stateless] at h
    | some n => rfl
  | slc sz x lo hi mx => cases sz <;> rfl
  | _ => first | rfl | (simp [stateless] at h)

theorem put_f (d : D) (x : Nat) (v : SV) : d.put (some x) v = { d with f := upd d.f x v } := rfl
theorem put_comm (d : D) {x y : Option Nat} (v u : SV) (h : ∀ a, x = some a → y ≠ some a) : (d.put x v).put y u = (d.put y u).put x v := by
  cases x with
  | none => rfl
  | some a =>
    cases y with
    | none => rfl
    | some b =>
      have hne : a ≠ b := fun e => h a rfl (by rw [e])
      simp only [D.put]
      congr 1
      funext z
      simp only [upd]
      by_cases h1 : b = z
      · subst h1; simp [hne]
      · by_cases h2 : a = z
        · subst h2; simp [h1]
        · simp [h1, h2]

/-- the action at slots that read alike -/
theorem actD_congr {P : Program} {st : Stmt} {d d1 : D} {x : Option Nat} {v : SV} (hd : ∀ a, x = some a → st.touches a = false ∧ st.dst ≠ some a) (h : actD P st d d1) :
    actD P st (d.put x v) (d1.put x v) := by
  cases x with
  | none => exact h
  | some a =>
    obtain ⟨ht, hne⟩ := hd a rfl
    have he : ∀ o ∈ st.op.reads, dval (upd d.f a v) o = dval d.f o := by
      intro o ho
      refine dval_upd fun e => ?_
      unfold Stmt.touches at ht
      have := List.any_eq_false.1 ht o (by simp [Stmt.reads, ho])
      simp [e] at this
    have hpc : ∀ sv, (d.put st.dst sv).put (some a) v = (d.put (some a) v).put st.dst sv := fun sv => put_comm d sv v fun b hb => by rw [hb] at hne; intro e; exact hne e.symm
    obtain ⟨dst, guard, op⟩ := st
    simp only at hne he hpc
    unfold actD at h ⊢
    cases op
    case bsl e sz z len ps =>
      obtain ⟨sv, h1, rfl⟩ := h
      refine ⟨sv, ?_, hpc sv⟩
      unfold bslq at h1 ⊢
      rw [show partsq (dval (d.put (some a) v).f) ps = partsq (dval d.f) ps from partsq_congr ps fun p hp => he p.2.2 (by simp only [SOp.reads, List.mem_map]; exact ⟨p, hp, rfl⟩)]
      exact h1
    case app t e sz by_ z y1 y2 =>
      obtain ⟨sv, h1, rfl⟩ := h
      refine ⟨sv, ?_, hpc sv⟩
      show nilappq sz by_ (dval (upd d.f a v) y1) (dval (upd d.f a v) y2) = some sv
      rw [he y1 (by simp [SOp.reads]), he y2 (by simp [SOp.reads])]
      exact h1
    case call f xs =>
      obtain ⟨us, r, h1, h2, rfl⟩ := h
      refine ⟨us, r, ?_, h2, hpc _⟩
      rw [← h1]
      congr 1
      exact List.map_congr_left fun y hy => he y (by simp [SOp.reads, hy])
    case cald f xs =>
      obtain ⟨g, first, cap, us, r, h0, h1, h2, rfl⟩ := h
      refine ⟨g, first, cap, us, r, ?_, ?_, h2, hpc _⟩
      · rw [← h0]
        congr 1
        exact he f (by simp [SOp.reads])
      · rw [← h1]
        congr 1
        exact List.map_congr_left fun y hy => he y (by simp [SOp.reads, hy])
    case hp op =>
      obtain ⟨sv, h1, rfl⟩ := h
      refine ⟨sv, ?_, hpc sv⟩
      rw [← h1]
      cases op <;> simp only [hpq]
      case load n agg y =>
        have := he y (by simp [SOp.reads])
        show hldq d.H n agg (dval (upd d.f a v) y) = _
        rw [this]
      case hp op =>
        cases op <;> simp only [hpq]
        rename_i n agg y
        have := he y (by simp [SOp.reads])
        show hrdq d.H n agg (dval (upd d.f a v) y) = _
        rw [this]
    case ow op =>
      cases op
      case store n y1 y2 =>
        obtain ⟨h0, u, ds, s', h1, h2, h3, h4, rfl⟩ := h
        have e1 : dval (upd d.f a v) y1 = dval d.f y1 := he y1 (by simp [SOp.reads])
        refine ⟨by show isLocV (dval (upd d.f a v) y1) = true; rw [e1]; exact h0, u, ds, s', ?_, h2, ?_, h4, rfl⟩
        · rw [← h1]; exact he y2 (by simp [SOp.reads])
        · rw [← h3]
          congr 1
      all_goals
        obtain ⟨sv, h1, rfl⟩ := h
        refine ⟨sv, ?_, hpc sv⟩
        rw [← h1]
        simp only [lpq]
      rename_i n agg y
      have := he y (by simp [SOp.reads])
      show lldq d.L n agg (dval (upd d.f a v) y) = _
      rw [this]
    case store n y1 y2 =>
      obtain ⟨u, ds, s', h1, h2, h3, h4, rfl⟩ := h
      refine ⟨u, ds, s', ?_, h2, ?_, h4, rfl⟩
      · rw [← h1]; exact he y2 (by simp [SOp.reads])
      · rw [← h3]
        congr 1
        exact he y1 (by simp [SOp.reads])
    all_goals
      obtain ⟨sv, h1, rfl⟩ := h
      refine ⟨sv, ?_, hpc sv⟩
      rw [← h1]
      exact qop_congr _ he

theorem stepD_congr {P : Program} {st : Stmt} {d d1 : D} {x : Option Nat} {v : SV} (hd : ∀ a, x = some a → st.touches a = false ∧ st.dst ≠ some a) (h : stepD P st d d1) :
    stepD P st (d.put x v) (d1.put x v) := by
  unfold stepD at h ⊢
  cases hg : st.guard with
  | none =>
    rw [hg] at h
    exact actD_congr hd h
  | some gw =>
    obtain ⟨g, want⟩ := gw
    rw [hg] at h
    simp only at h ⊢
    have hgx : (d.put x v).f g = d.f g := by
      cases x with
      | none => rfl
      | some a =>
        obtain ⟨ht, _⟩ := hd a rfl
        refine upd_ne _ _ fun e => ?_
        subst e
        unfold Stmt.touches at ht
        have := List.any_eq_false.1 ht (.tmp a) (by simp [Stmt.reads, hg])
        simp [slotOf] at this
    rw [hgx]
    split at h
    · split at h
      · rename_i hb; rw [if_pos hb]; exact actD_congr hd h
      · rename_i hb
        rw [if_neg hb]
        subst h
        exact put_comm d _ v fun b hb' => by
          intro e
          exact (hd b e).2 hb'
    · subst h
      exact put_comm d _ v fun b hb' => by
        intro e
        exact (hd b e).2 hb'
    · exact h.elim

/-- what a statement that stores nothing does: one slot -/
theorem stepD_form {P : Program} {st : Stmt} {d d1 : D} (hs : isStore st.op = false) (h : stepD P st d d1) : ∃ v, d1 = d.put st.dst v := by
  have act : actD P st d d1 → ∃ v, d1 = d.put st.dst v := by
    clear h
    intro h
    obtain ⟨dst, guard, op⟩ := st
    unfold actD at h
    cases op
    case call => obtain ⟨us, r, _, _, rfl⟩ := h; exact ⟨_, rfl⟩
    case cald => obtain ⟨g, first, cap, us, r, _, _, _, rfl⟩ := h; exact ⟨_, rfl⟩
    case store => simp [isStore] at hs
    case ow op =>
      cases op
      case store => simp [isStore] at hs
      all_goals
        obtain ⟨sv, _, rfl⟩ := h
        exact ⟨_, rfl⟩
    all_goals
      obtain ⟨sv, _, rfl⟩ := h
      exact ⟨_, rfl⟩
  unfold stepD at h
  split at h
  · exact act h
  · split at h
    · split at h
      · exact act h
      · exact ⟨_, h⟩
    · exact ⟨_, h⟩
    · exact h.elim

/-- a statement that needs no state, at another state -/
theorem stepD_state {P : Program} {st : Stmt} {d d1 : D} {L : List (Nat × LObj)} {H : AHeap} (hs : stateless st.op = true) (h : stepD P st d d1) : stepD P st ⟨d.f, L, H⟩ ⟨d1.f, L, H⟩ := by
  have hput : ∀ (d : D) (x : Option Nat) (v : SV), (⟨(d.put x v).f, L, H⟩ : D) = (⟨d.f, L, H⟩ : D).put x v := by
    intro d x v; cases x <;> rfl
  have act : actD P st d d1 → actD P st ⟨d.f, L, H⟩ ⟨d1.f, L, H⟩ := by
    intro h
    obtain ⟨dst, guard, op⟩ := st
    unfold actD at h ⊢
    cases op
    case call => simp [stateless] at hs
    case cald => simp [stateless] at hs
    case store => simp [stateless] at hs
    case hp => simp [stateless] at hs
    case ow => simp [stateless] at hs
    case bsl => obtain ⟨sv, h1, rfl⟩ := h; exact ⟨sv, h1, hput _ _ _⟩
    case app => obtain ⟨sv, h1, rfl⟩ := h; exact ⟨sv, h1, hput _ _ _⟩
    all_goals
      obtain ⟨sv, h1, rfl⟩ := h
      refine ⟨sv, ?_, hput _ _ _⟩
      rw [← h1]
      exact qop_stateless _ hs
  unfold stepD at h ⊢
  cases hg : st.guard with
  | none => rw [hg] at h; exact act h
  | some gw =>
    obtain ⟨g, want⟩ := gw
    rw [hg] at h
    simp only at h ⊢
    split at h
    · rename_i b he
      split at h
      · rename_i hb; rw [if_pos hb]; exact act h
      · rename_i hb; rw [if_neg hb]; subst h; exact hput _ _ _
    · subst h; exact hput _ _ _
    · exact h.elim

theorem disj_spec {p q : Stmt} (h : disjB p q = true) : (∀ a, p.dst = some a → q.touches a = false ∧ q.dst ≠ some a) ∧ (∀ a, q.dst = some a → p.touches a = false ∧ p.dst ≠ some a) := by
  unfold disjB at h
  simp only [Bool.and_eq_true] at h
  obtain ⟨h1, h2⟩ := h
  constructor
  · intro a ha
    rw [ha] at h1
    simpa using h1
  · intro a ha
    rw [ha] at h2
    refine ⟨by simpa using h2, fun e => ?_⟩
    rw [e] at h1
    simp [ha] at h1

theorem actD_store {P : Program} {st : Stmt} {d d1 : D} (hs : isStore st.op = true) (h : stepD P st d d1) : d1.f = d.f ∨ ∃ v, d1 = d.put st.dst v := by
  have act : actD P st d d1 → d1.f = d.f := by
    clear h
    intro h
    obtain ⟨dst, guard, op⟩ := st
    cases op <;> simp only [isStore] at hs <;> try (cases hs; done)
    case store =>
      unfold actD at h
      obtain ⟨u, ds, s', _, _, _, _, rfl⟩ := h
      rfl
    case ow op =>
      cases op <;> simp only at hs <;> try (cases hs; done)
      unfold actD at h
      obtain ⟨_, u, ds, s', _, _, _, _, rfl⟩ := h
      rfl
  unfold stepD at h
  split at h
  · exact .inl (act h)
  · split at h
    · split at h
      · exact .inl (act h)
      · exact .inr ⟨_, h⟩
    · exact .inr ⟨_, h⟩
    · exact h.elim

theorem storeq_locH {s s' : S} {n : Nat} {x : SV} {ds : List AV} (h0 : isLocV x = true) (h : storeq s n x ds = some s') : s'.H = s.H := by
  cases x with
  | loc d o =>
    unfold storeq at h
    split at h
    · simp only at h
      split at h
      · split at h
        · injection h with h; rw [← h]
        · cases h
      · split at h
        · injection h with h; rw [← h]
        · cases h
      · cases h
    · cases h
  | _ => cases h0
theorem put_H0 (d : D) (x : Option Nat) (v : SV) : (d.put x v).H = d.H := by cases x <;> rfl
/-- a store to what is local leaves the heap -/
theorem actD_lst {P : Program} {st : Stmt} {d d1 : D} (hs : isLst st.op = true) (h : stepD P st d d1) : d1.H = d.H := by
  have act : actD P st d d1 → d1.H = d.H := by
    clear h
    intro h
    obtain ⟨dst, guard, op⟩ := st
    cases op <;> simp only [isLst] at hs <;> try (cases hs; done)
    rename_i op
    cases op <;> simp only at hs <;> try (cases hs; done)
    unfold actD at h
    obtain ⟨h0, u, ds, s', _, _, h3, _, rfl⟩ := h
    exact storeq_locH h0 h3
  unfold stepD at h
  split at h
  · exact act h
  · split at h
    · split at h
      · exact act h
      · rw [h, put_H0]
    · rw [h, put_H0]
    · exact h.elim
def alen (L : List (Nat × LObj)) (d : Nat) : Option Nat :=
  match get L d with
  | some (.arr _ _ n _ _) => some n
  | _ => none
theorem iaq_len {L L' : List (Nat × LObj)} (h : ∀ x, alen L x = alen L' x) (sz : Nat) (i : Int) (v : SV) : iaq L sz i v = iaq L' sz i v := by
  have key : ∀ (L : List (Nat × LObj)) (d : Nat), iaq L sz i (.own d) = (match alen L d with | some n => if 0 ≤ i ∧ i < n then some (.loc d (i.toNat * sz)) else none | none => none) := by
    intro L d
    show (match get L d with | some (.arr _ _ n _ _) => if 0 ≤ i ∧ i < n then some (SV.loc d (i.toNat * sz)) else none | _ => none) = _
    unfold alen
    cases hq : get L d with
    | none => rfl
    | some o => cases o <;> rfl
  cases v with
  | own d => rw [key, key, h d]
  | v a => unfold iaq; split <;> first | rfl | (rename_i hh; cases hh) | simp_all
  | loc d o => unfold iaq; rfl
theorem alen_put (L : List (Nat × LObj)) (d x : Nat) (o : LObj) : alen (Abs.put L d o) x = if d = x then (match o with | .arr _ _ n _ _ => some n | _ => none) else alen L x := by
  unfold alen
  rw [get_put]
  by_cases e : d = x
  · rw [if_pos e, if_pos e]; cases o <;> rfl
  · rw [if_neg e, if_neg e]
theorem storeq_locL {s s' : S} {n : Nat} {x : SV} {ds : List AV} (h0 : isLocV x = true) (h : storeq s n x ds = some s') (y : Nat) : alen s'.loc y = alen s.loc y := by
  cases x with
  | loc d o =>
    unfold storeq at h
    split at h
    · simp only at h
      split at h
      · rename_i hg
        split at h
        · injection h with h; rw [← h, alen_put]
          split
          · rename_i e; subst e; rw [alen, hg]
          · rfl
        · cases h
      · rename_i hg
        split at h
        · injection h with h; rw [← h, alen_put]
          split
          · rename_i e; subst e; rw [alen, hg]
          · rfl
        · cases h
      · cases h
    · cases h
  | _ => cases h0
theorem put_L0 (d : D) (x : Option Nat) (v : SV) : (d.put x v).L = d.L := by cases x <;> rfl
theorem actD_lstL {P : Program} {st : Stmt} {d d1 : D} (hs : isLst st.op = true) (h : stepD P st d d1) (y : Nat) : alen d1.L y = alen d.L y := by
  have act : actD P st d d1 → alen d1.L y = alen d.L y := by
    clear h
    intro h
    obtain ⟨dst, guard, op⟩ := st
    cases op <;> simp only [isLst] at hs <;> try (cases hs; done)
    rename_i op
    cases op <;> simp only at hs <;> try (cases hs; done)
    unfold actD at h
    obtain ⟨h0, u, ds, s', _, _, h3, _, rfl⟩ := h
    exact storeq_locL h0 h3 y
  unfold stepD at h
  split at h
  · exact act h
  · split at h
    · split at h
      · exact act h
      · rw [h, put_L0]
    · rw [h, put_L0]
    · exact h.elim
/-- a load from the heap, at other local objects -/
theorem stepD_hrd {P : Program} {st : Stmt} {d d1 : D} {L : List (Nat × LObj)} (hL : ∀ x, alen d.L x = alen L x) (hs : isHrx st.op = true) (h : stepD P st d d1) : stepD P st ⟨d.f, L, d.H⟩ ⟨d1.f, L, d.H⟩ := by
  have hput : ∀ (d : D) (x : Option Nat) (v : SV), (⟨(d.put x v).f, L, d.H⟩ : D) = (⟨d.f, L, d.H⟩ : D).put x v := by
    intro d x v; cases x <;> rfl
  have act : actD P st d d1 → actD P st ⟨d.f, L, d.H⟩ ⟨d1.f, L, d.H⟩ := by
    clear h
    intro h
    obtain ⟨dst, guard, op⟩ := st
    cases op <;> simp only [isHrx] at hs <;> try (cases hs; done)
    case hp op =>
      obtain ⟨sv, h1, rfl⟩ := h
      exact ⟨sv, h1, hput _ _ _⟩
    case ia arr sz x i =>
      cases arr with
      | some _ => cases hs
      | none =>
        obtain ⟨sv, h1, rfl⟩ := h
        refine ⟨sv, ?_, hput _ _ _⟩
        simp only [qop] at h1 ⊢
        split at h1
        · rw [← iaq_len hL]; exact h1
        · cases h1
  unfold stepD at h ⊢
  cases hg : st.guard with
  | none => rw [hg] at h; exact act h
  | some gw =>
    obtain ⟨g, want⟩ := gw
    rw [hg] at h
    simp only at h ⊢
    split at h
    · rename_i b he
      split at h
      · rename_i hb; rw [if_pos hb]; exact act h
      · rename_i hb; rw [if_neg hb]; subst h; exact hput _ _ _
    · subst h; exact hput _ _ _
    · exact h.elim
theorem swapD {P : Program} {p q : Stmt} {d d1 d2 : D} (hi : indepB p q = true) (h1 : stepD P p d d1) (h2 : stepD P q d1 d2) : ∃ d3, stepD P q d d3 ∧ stepD P p d3 d2 := by
  unfold indepB at hi
  simp only [Bool.and_eq_true] at hi
  obtain ⟨hd, hk⟩ := hi
  obtain ⟨hpq, hqp⟩ := disj_spec hd
  by_cases hp : isStore p.op = true
  · rw [if_pos hp] at hk
    simp only [Bool.and_eq_true, Bool.not_eq_true'] at hk
    obtain ⟨hq, hsl⟩ := hk
    obtain ⟨v, rfl⟩ := stepD_form hq h2
    rcases actD_store hp h1 with hf | ⟨u, rfl⟩
    · -- q at d
      have h2' : stepD P q ⟨d1.f, d.L, d.H⟩ ⟨(d1.put q.dst v).f, d.L, d.H⟩ := by
        simp only [Bool.or_eq_true, Bool.and_eq_true] at hsl
        rcases hsl with hsl | ⟨hl, hr⟩
        · exact stepD_state (L := d.L) (H := d.H) hsl h2
        · have := stepD_hrd (L := d.L) (actD_lstL hl h1) hr h2
          rw [actD_lst hl h1] at this
          exact this
      have e1 : (⟨d1.f, d.L, d.H⟩ : D) = d := by rw [hf]
      have e2 : (⟨(d1.put q.dst v).f, d.L, d.H⟩ : D) = d.put q.dst v := by
        cases q.dst <;> simp [D.put, hf]
      rw [e1, e2] at h2'
      refine ⟨_, h2', stepD_congr hqp h1⟩
    · -- p's guard said no
      have h2' := stepD_congr (x := p.dst) (v := d.f (p.dst.getD 0)) hpq h2
      have e1 : (d.put p.dst u).put p.dst (d.f (p.dst.getD 0)) = d := by
        cases hpd : p.dst with
        | none => rfl
        | some a =>
          simp only [D.put, Option.getD_some]
          have : upd (upd d.f a u) a (d.f a) = d.f := by
            funext z; simp only [upd]; by_cases e : a = z
            · subst e; simp
            · simp [e]
          rw [this]
      have e2 : ((d.put p.dst u).put q.dst v).put p.dst (d.f (p.dst.getD 0)) = d.put q.dst v := by
        rw [put_comm (d.put p.dst u) v (d.f (p.dst.getD 0)) fun a ha e => (hpq a e).2 ha, e1]
      rw [e1, e2] at h2'
      exact ⟨_, h2', stepD_congr hqp h1⟩
  · have hp' : isStore p.op = false := by simpa using hp
    obtain ⟨u, rfl⟩ := stepD_form hp' h1
    -- q at d: p's slot is not q's
    have back : ∀ (d : D), (d.put p.dst u).put p.dst (d.f (p.dst.getD 0)) = d := by
      intro d
      cases hpd : p.dst with
      | none => rfl
      | some a =>
        simp only [D.put, Option.getD_some]
        have : upd (upd d.f a u) a (d.f a) = d.f := by
          funext z; simp only [upd]; by_cases e : a = z
          · subst e; simp
          · simp [e]
        rw [this]
    have h2' := stepD_congr (x := p.dst) (v := d.f (p.dst.getD 0)) hpq h2
    rw [back d] at h2'
    by_cases hq : isStore q.op = true
    · rw [if_neg hp, if_pos hq] at hk
      rcases actD_store hq h2 with hf | ⟨v, hv⟩
      · refine ⟨_, h2', ?_⟩
        have h1' : stepD P p ⟨d.f, d2.L, d2.H⟩ ⟨(d.put p.dst u).f, d2.L, d2.H⟩ := by
          simp only [Bool.or_eq_true, Bool.and_eq_true] at hk
          rcases hk with hk | ⟨hl, hr⟩
          · exact stepD_state (L := d2.L) (H := d2.H) hk h1
          · have := stepD_hrd (L := d2.L) (fun x => by rw [actD_lstL hl h2, put_L0]) hr h1
            rw [show d.H = d2.H by rw [actD_lst hl h2, put_H0]] at this
            exact this
        have e1 : (d2.put p.dst (d.f (p.dst.getD 0))) = ⟨d.f, d2.L, d2.H⟩ := by
          have := back d
          cases hpd : p.dst with
          | none => rw [hpd] at hf; simp only [D.put] at hf ⊢; rw [← hf]
          | some a =>
            rw [hpd] at hf this
            simp only [D.put, Option.getD_some] at hf this ⊢
            rw [hf]
            congr 1
            exact congrArg D.f this
        have e2 : (⟨(d.put p.dst u).f, d2.L, d2.H⟩ : D) = d2 := by rw [← hf]
        rw [e2] at h1'
        rw [e1]
        exact h1'
      · subst hv
        have e : ((d.put p.dst u).put q.dst v).put p.dst (d.f (p.dst.getD 0)) = d.put q.dst v := by
          rw [put_comm (d.put p.dst u) v (d.f (p.dst.getD 0)) fun a ha e => (hpq a e).2 ha, back]
        rw [e] at h2'
        refine ⟨_, h2', ?_⟩
        have := stepD_congr (x := q.dst) (v := v) hqp h1
        exact this
    · obtain ⟨v, rfl⟩ := stepD_form (by simpa using hq) h2
      have e : ((d.put p.dst u).put q.dst v).put p.dst (d.f (p.dst.getD 0)) = d.put q.dst v := by
        rw [put_comm (d.put p.dst u) v (d.f (p.dst.getD 0)) fun a ha e => (hpq a e).2 ha, back]
      rw [e] at h2'
      refine ⟨_, h2', ?_⟩
      have := stepD_congr (x := q.dst) (v := v) hqp h1
      exact this

theorem frontD {P : Program} {q : Stmt} {post : List Stmt} {d' : D} : ∀ (pre : List Stmt) (d : D), RunD P (pre ++ q :: post) d d' → (∀ p ∈ pre, indepB p q = true) → RunD P (q :: (pre ++ post)) d d'
  | [], d, h, _ => h
  | p :: pre, d, h, hi => by
    simp only [List.cons_append, RunD] at h
    obtain ⟨d1, h1, h2⟩ := h
    have := frontD pre d1 h2 fun p' hp' => hi p' (by simp [hp'])
    simp only [RunD] at this
    obtain ⟨d2, h3, h4⟩ := this
    obtain ⟨d3, h5, h6⟩ := swapD (hi p (by simp)) h1 h3
    exact ⟨d3, h5, d2, h6, h4⟩


/-! ### what makes something on the heap, in a region whose order is open -/
def isEff : SOp → Bool
  | .hp (.alloc _ _) | .hp (.box _ _) | .hp (.app _ _ _ _ _ _ _) | .hp (.bsl _ _ _ _ _) | .hp (.mksl _ _ _ _ _ _) | .hp (.mkmap _) | .hp (.mset _ _ _ _) => true
  | _ => false
/-- it has no result -/
def isMs : SOp → Bool
  | .hp (.mset _ _ _ _) => true
  | _ => false
def effG (st : Stmt) : Prop := st.guard = none ∧ (isMs st.op = true → st.dst = none)
def isHap : SOp → Bool
  | .hp (.app _ _ _ _ _ _ _) | .hp (.bsl _ _ _ _ _) => true
  | _ => false
def isLld : SOp → Bool
  | .ow (.load _ _ _) => true
  | .ia none _ _ _ => true
  | _ => false
def isCal : SOp → Bool
  | .call _ _ | .cald _ _ => true
  | _ => false
/-- makes one block, and changes none -/
def isNew : SOp → Bool
  | .hp (.alloc _ _) | .hp (.box _ _) | .hp (.bsl _ _ _ _ _) | .hp (.mksl _ _ _ _ _ _) | .hp (.mkmap _) => true
  | _ => false
def isHld : SOp → Bool
  | .hp (.load _ _ _) => true
  | _ => false
def HSafe (e : Operand → SV) (H : AHeap) : SOp → Prop
  | .alloc _ z => (z.map cAV).all aone = true
  | .bsl _ sz _ len ps => ∃ l cs, partsq e ps = some l ∧ catA sz 0 l = some cs ∧ l.length = len ∧ 0 < sz
  | .box _ x => ∃ u cs, e x = .v u ∧ acells u = some cs ∧ cs.all aone = true
  | .app _ t sz by_ _ x y => ∃ ob n cap pre nly ds m, hpre H t sz (e x) = some (ob, n, cap, pre) ∧ e y = .v (.vec nly ds m) ∧ ds.length = m * sz ∧ (n + m) * by_ ≤ 140737488355328 ∧ n + m ≤ maxLen
  | .mksl _ _ by_ z l k => ∃ q q' n, e l = .v (.raw (.int q n)) ∧ e k = .v (.raw (.int q' n)) ∧ 0 ≤ n ∧ by_ * n.toNat ≤ 281474976710656 ∧ n.toNat ≤ maxLen ∧ z.all (·.oneCell') = true
  | .mkmap _ => True
  | .mset kd x k v => ∃ b ka u es key, e x = .v (.raw (.map (some b))) ∧ e k = .v ka ∧ e v = .v u ∧ H b = some (.map kd es) ∧ keyq kd ka = some key
  | _ => False
def HOut (e : Operand → SV) (H : AHeap) (op : SOp) (H1 : AHeap) (v : SV) : Prop :=
  match op with
  | .bsl t sz _ len ps => ∃ l cs b, partsq e ps = some l ∧ catA sz 0 l = some cs ∧ H b = none ∧ H1 = upd H b (some (.row cs len t sz)) ∧ v = .v (.raw (.slice (some ⟨b, 0, none⟩) len len))
  | .alloc t z => ∃ b, H b = none ∧ H1 = upd H b (some (.cells (z.map cAV) t)) ∧ v = .v (.raw (.pointer (some ⟨b, 0, none⟩)))
  | .box t x => ∃ u cs b, e x = .v u ∧ acells u = some cs ∧ H b = none ∧ H1 = upd H b (some (.cells cs t)) ∧ v = .v (.raw (.pointer (some ⟨b, 0, none⟩)))
  | .app _ t sz _ _ x y => ∃ ob n cap pre nly ds m, hpre H t sz (e x) = some (ob, n, cap, pre) ∧ e y = .v (.vec nly ds m) ∧
      ((m = 0 ∧ H1 = H ∧ v = e x) ∨ (0 < m ∧ ∃ b cap', (ob = some b ∨ H b = none) ∧ n + m ≤ cap' ∧ H1 = upd (delH H ob) b (some (.row (pre ++ ds) cap' t sz)) ∧ v = .v (.raw (.slice (some ⟨b, 0, none⟩) (n + m) cap'))))
  | .mksl t sz _ z l _ => ∃ q n b, e l = .v (.raw (.int q n)) ∧ H b = none ∧ H1 = upd H b (some (.row (zrep z n.toNat) n.toNat t sz)) ∧ v = .v (.raw (.slice (some ⟨b, 0, none⟩) n.toNat n.toNat))
  | .mkmap kd => ∃ b, H b = none ∧ H1 = upd H b (some (.map kd [])) ∧ v = .v (.raw (.map (some b)))
  | .mset kd x k vo => ∃ b ka u es key, e x = .v (.raw (.map (some b))) ∧ e k = .v ka ∧ e vo = .v u ∧ H b = some (.map kd es) ∧ keyq kd ka = some key ∧ H1 = upd H b (some (.map kd (mput es key u))) ∧ v = .v .top
  | _ => False

theorem HSafe_congr {e e' : Operand → SV} {H : AHeap} {op : SOp} (h : ∀ x ∈ op.reads, e x = e' x) (k : HSafe e H op) : HSafe e' H op := by
  cases op
  case bsl t sz z len ps =>
    simp only [HSafe] at k ⊢
    rw [← partsq_congr ps fun p hp => h p.2.2 (by simp only [SOp.reads, List.mem_map]; exact ⟨p, hp, rfl⟩)]
    exact k
  all_goals simp only [HSafe, SOp.reads, List.mem_cons, List.not_mem_nil, or_false, forall_eq_or_imp, forall_eq] at h k ⊢
  all_goals first
    | exact k
    | (rw [← h]; exact k)
    | (rw [← h.1, ← h.2]; exact k)
    | (rw [← h.1]; exact k)
    | (rw [← h.1, ← h.2.1, ← h.2.2]; exact k)
theorem HOut_congr {e e' : Operand → SV} {H H1 : AHeap} {op : SOp} {v : SV} (h : ∀ x ∈ op.reads, e x = e' x) (k : HOut e H op H1 v) : HOut e' H op H1 v := by
  cases op
  case bsl t sz z len ps =>
    simp only [HOut] at k ⊢
    rw [← partsq_congr ps fun p hp => h p.2.2 (by simp only [SOp.reads, List.mem_map]; exact ⟨p, hp, rfl⟩)]
    exact k
  all_goals simp only [HOut, SOp.reads, List.mem_cons, List.not_mem_nil, or_false, forall_eq_or_imp, forall_eq] at h k ⊢
  all_goals first
    | exact k
    | (rw [← h]; exact k)
    | (rw [← h.1, ← h.2]; exact k)
    | (rw [← h.1]; exact k)
    | (rw [← h.1, ← h.2.1, ← h.2.2]; exact k)
/-- but for finitely many, all blocks are free -/
def Cof (H : AHeap) : Prop := ∃ n, ∀ b, n ≤ b → H b = none
theorem Cof.upd {H : AHeap} (h : Cof H) (b : Nat) (o : Option HObj) : Cof (Abs.upd H b o) := by
  obtain ⟨n, hn⟩ := h
  refine ⟨max n (b + 1), fun b' hb => ?_⟩
  rw [upd_ne _ _ (by omega)]
  exact hn b' (by omega)
theorem Cof.del {H : AHeap} (h : Cof H) (ob : Option Nat) : Cof (delH H ob) := by
  cases ob with
  | none => exact h
  | some b => exact h.upd b none
theorem HOut.cof {e : Operand → SV} {H H1 : AHeap} {op : SOp} {v : SV} (h : Cof H) (k : HOut e H op H1 v) : Cof H1 := by
  cases op <;> simp only [HOut] at k
  case bsl => obtain ⟨l, cs, b, _, _, _, rfl, _⟩ := k; exact h.upd _ _
  case alloc => obtain ⟨b, _, rfl, _⟩ := k; exact h.upd _ _
  case box => obtain ⟨u, cs, b, _, _, _, rfl, _⟩ := k; exact h.upd _ _
  case app =>
    obtain ⟨ob, n, cap, pre, nly, ds, m, _, _, ⟨_, rfl, _⟩ | ⟨_, b, cap', _, _, rfl, _⟩⟩ := k
    · exact h
    · exact (h.del _).upd _ _
  case mksl => obtain ⟨q, n, b, _, _, rfl, _⟩ := k; exact h.upd _ _
  case mkmap => obtain ⟨b, _, rfl, _⟩ := k; exact h.upd _ _
  case mset => obtain ⟨b, ka, u, es, key, _, _, _, _, _, rfl, _⟩ := k; exact h.upd _ _
theorem HOut.exists {e : Operand → SV} {H : AHeap} {op : SOp} (h : Cof H) (k : HSafe e H op) : ∃ H1 v, HOut e H op H1 v := by
  obtain ⟨n, hn⟩ := h
  cases op <;> simp only [HSafe] at k
  case bsl =>
    obtain ⟨l, cs, h1, h2, _⟩ := k
    exact ⟨_, _, l, cs, n, h1, h2, hn n (Nat.le_refl _), rfl, rfl⟩
  case alloc => exact ⟨_, _, n, hn n (Nat.le_refl _), rfl, rfl⟩
  case box =>
    obtain ⟨u, cs, h1, h2, _⟩ := k
    exact ⟨_, _, u, cs, n, h1, h2, hn n (Nat.le_refl _), rfl, rfl⟩
  case app =>
    obtain ⟨ob, k, cap, pre, nly, ds, m, h1, h2, _⟩ := k
    by_cases hm : m = 0
    · exact ⟨_, _, ob, k, cap, pre, nly, ds, m, h1, h2, .inl ⟨hm, rfl, rfl⟩⟩
    · exact ⟨_, _, ob, k, cap, pre, nly, ds, m, h1, h2, .inr ⟨by omega, n, k + m, .inr (hn n (Nat.le_refl _)), Nat.le_refl _, rfl, rfl⟩⟩
  case mksl => obtain ⟨q, q', m, h1, h2, _⟩ := k; exact ⟨_, _, q, m, n, h1, hn n (Nat.le_refl _), rfl, rfl⟩
  case mkmap => exact ⟨_, _, n, hn n (Nat.le_refl _), rfl, rfl⟩
  case mset => obtain ⟨b, ka, u, es, key, h1, h2, h3, h4, h5⟩ := k; exact ⟨_, _, b, ka, u, es, key, h1, h2, h3, h4, h5, rfl, rfl⟩
/-- an append leaves the structs as they are -/
theorem hap_cells {e : Operand → SV} {H H1 : AHeap} {op : SOp} {v : SV} (hop : isHap (.hp op) = true) (k : HOut e H op H1 v) (b : Nat) (cs : List AV) (t : TypeId) : H1 b = some (.cells cs t) ↔ H b = some (.cells cs t) := by
  cases op <;> simp only [isHap, HOut] at hop k
  all_goals first | (cases hop; done) | skip
  case bsl =>
    obtain ⟨l, cs', b', _, _, hb, rfl, _⟩ := k
    by_cases e1 : b' = b
    · subst e1; rw [upd_self, hb]; simp
    · rw [upd_ne _ _ e1]
  obtain ⟨ob, n, cap, pre, nly, ds, m, h1, _, ⟨_, rfl, _⟩ | ⟨_, b', cap', hb, _, rfl, _⟩⟩ := k
  · exact Iff.rfl
  · have hob : ∀ b0, ob = some b0 → ∃ cs cap e sz, H b0 = some (.row cs cap e sz) := by
      intro b0 hb0
      unfold hpre at h1
      split at h1
      · simp only [Option.some.injEq, Prod.mk.injEq] at h1; rw [← h1.1] at hb0; cases hb0
      · simp only [Option.some.injEq, Prod.mk.injEq] at h1; rw [← h1.1] at hb0; cases hb0
      · split at h1
        · rename_i hH
          split at h1
          · simp only [Option.some.injEq, Prod.mk.injEq] at h1
            rw [← h1.1] at hb0
            injection hb0 with hb0
            subst hb0
            exact ⟨_, _, _, _, hH⟩
          · cases h1
        · cases h1
      · cases h1
    have hdel : ∀ b, delH H ob b = some (.cells cs t) ↔ H b = some (.cells cs t) := by
      intro b
      cases ob with
      | none => exact Iff.rfl
      | some b0 =>
        simp only [delH]
        by_cases e0 : b0 = b
        · subst e0
          obtain ⟨_, _, _, _, hr⟩ := hob _ rfl
          rw [upd_self, hr]; simp
        · rw [upd_ne _ _ e0]
    by_cases e1 : b' = b
    · subst e1
      rw [upd_self]
      constructor
      · intro hh; simp at hh
      · intro hh
        rcases hb with hb | hb
        · obtain ⟨_, _, _, _, hr⟩ := hob _ hb
          rw [hr] at hh; cases hh
        · rw [hb] at hh; cases hh
    · rw [upd_ne _ _ e1]; exact hdel b
theorem hldq_iff {H H1 : AHeap} (h : ∀ b cs t, H1 b = some (.cells cs t) ↔ H b = some (.cells cs t)) (n : Nat) (agg : Bool) (a : SV) : hldq H1 n agg a = hldq H n agg a := by
  unfold hldq
  split
  · rename_i b o
    cases h1 : H1 b with
    | none =>
      cases h2 : H b with
      | none => rfl
      | some ob => cases ob with
        | cells cs t => rw [(h b cs t).2 h2] at h1; cases h1
        | row => rfl
        | map => rfl
    | some ob1 =>
      cases ob1 with
      | cells cs t => rw [(h b cs t).1 h1]
      | row =>
        cases h2 : H b with
        | none => rfl
        | some ob => cases ob with
          | cells cs t => rw [(h b cs t).2 h2] at h1; cases h1
          | row => rfl
          | map => rfl
      | map =>
        cases h2 : H b with
        | none => rfl
        | some ob => cases ob with
          | cells cs t => rw [(h b cs t).2 h2] at h1; cases h1
          | row => rfl
          | map => rfl
  · rfl

def stepW (P : Program) (st : Stmt) (d : D) (K : D → Prop) : Prop :=
  match st.op, isEff st.op with
  | .hp op, true => effG st ∧ HSafe (dval d.f) d.H op ∧ ∀ H1 v, HOut (dval d.f) d.H op H1 v → K ({ d with H := H1 }.put st.dst v)
  | _, _ => ∃ d1, stepD P st d d1 ∧ K d1
def RunW (P : Program) : List Stmt → D → (D → Prop) → Prop
  | [], d, K => K d
  | st :: r, d, K => stepW P st d fun d1 => RunW P r d1 K
def indepW (p q : Stmt) : Bool :=
  if isEff p.op then !isEff q.op && disjB p q && (stateless q.op || isHld q.op && isHap p.op || isLld q.op)
  else if isEff q.op then disjB p q && (stateless p.op || isHld p.op && isHap q.op || isLld p.op || (isCal p.op || isHrd p.op) && isNew q.op)
  else indepB p q

theorem stepW_eff {P : Program} {st : Stmt} {d : D} {K : D → Prop} {op : SOp} (ho : st.op = .hp op) (he : isEff st.op = true) : stepW P st d K = (effG st ∧ HSafe (dval d.f) d.H op ∧ ∀ H1 v, HOut (dval d.f) d.H op H1 v → K ({ d with H := H1 }.put st.dst v)) := by
  unfold stepW
  rw [he, ho]
theorem stepW_not {P : Program} {st : Stmt} {d : D} {K : D → Prop} (he : isEff st.op = false) : stepW P st d K = ∃ d1, stepD P st d d1 ∧ K d1 := by
  unfold stepW
  rw [he]
  cases st.op <;> rfl
theorem eff_hp {op : SOp} (h : isEff op = true) : ∃ o, op = .hp o := by
  cases op <;> simp only [isEff] at h
  all_goals first | (cases h; done) | exact ⟨_, rfl⟩
theorem stepW_mono {P : Program} {st : Stmt} {d : D} {K K' : D → Prop} (hk : ∀ d, K d → K' d) (h : stepW P st d K) : stepW P st d K' := by
  cases he : isEff st.op with
  | true =>
    obtain ⟨op, ho⟩ := eff_hp he
    rw [stepW_eff ho he] at h ⊢
    exact ⟨h.1, h.2.1, fun H1 v ho => hk _ (h.2.2 H1 v ho)⟩
  | false =>
    rw [stepW_not he] at h ⊢
    obtain ⟨d1, h1, h2⟩ := h
    exact ⟨d1, h1, hk _ h2⟩
theorem put_H (d : D) (x : Option Nat) (v : SV) : (d.put x v).H = d.H := by cases x <;> rfl
theorem put_L (d : D) (x : Option Nat) (v : SV) : (d.put x v).L = d.L := by cases x <;> rfl
theorem putH_comm (d : D) (H1 : AHeap) (x : Option Nat) (v : SV) : ({ d.put x v with H := H1 } : D) = ({ d with H := H1 } : D).put x v := by cases x <;> rfl
theorem storeq_cof {s s' : S} {n : Nat} {x : SV} {ds : List AV} (h : storeq s n x ds = some s') (hc : Cof s.H) : Cof s'.H := by
  unfold storeq at h
  split at h
  · split at h
    · split at h
      · split at h
        · simp only [Option.some.injEq] at h; subst h; exact hc
        · cases h
      · split at h
        · simp only [Option.some.injEq] at h; subst h; exact hc
        · cases h
      · cases h
    · split at h
      · split at h
        · simp only [Option.some.injEq] at h; subst h; exact hc.upd _ _
        · cases h
      · split at h
        · simp only [Option.some.injEq] at h; subst h; exact hc.upd _ _
        · cases h
      · cases h
    · cases h
  · cases h
theorem stepD_cof {P : Program} {st : Stmt} {d d1 : D} (h : stepD P st d d1) (hc : Cof d.H) : Cof d1.H := by
  by_cases hs : isStore st.op = true
  · rcases actD_store hs h with _ | ⟨v, rfl⟩
    · have act : actD P st d d1 → Cof d1.H := by
        clear h
        intro h
        obtain ⟨dst, guard, op⟩ := st
        cases op <;> simp only [isStore] at hs <;> try (cases hs; done)
        case store =>
          unfold actD at h
          obtain ⟨u, ds, s', _, _, h3, _, rfl⟩ := h
          exact storeq_cof h3 hc
        case ow op =>
          cases op <;> simp only at hs <;> try (cases hs; done)
          unfold actD at h
          obtain ⟨_, u, ds, s', _, _, h3, _, rfl⟩ := h
          exact storeq_cof h3 hc
      unfold stepD at h
      split at h
      · exact act h
      · split at h
        · split at h
          · exact act h
          · rw [h, put_H]; exact hc
        · rw [h, put_H]; exact hc
        · exact h.elim
    · rw [put_H]; exact hc
  · obtain ⟨v, rfl⟩ := stepD_form (by simpa using hs) h
    rw [put_H]; exact hc
theorem stepW_cof {P : Program} {st : Stmt} {d : D} {K : D → Prop} (hc : Cof d.H) (h : stepW P st d K) : stepW P st d fun d1 => Cof d1.H ∧ K d1 := by
  cases he : isEff st.op with
  | true =>
    obtain ⟨op, ho⟩ := eff_hp he
    rw [stepW_eff ho he] at h ⊢
    exact ⟨h.1, h.2.1, fun H1 v ho => ⟨by rw [put_H]; exact ho.cof hc, h.2.2 H1 v ho⟩⟩
  | false =>
    rw [stepW_not he] at h ⊢
    obtain ⟨d1, h1, h2⟩ := h
    exact ⟨d1, h1, stepD_cof h1 hc, h2⟩

/-- a quiet statement at a heap that an operation leaves, or began with -/
theorem stepD_hp {P : Program} {q : Stmt} {d d1 : D} {e : Operand → SV} {op : SOp} {H H1 : AHeap} {v : SV} (hq : (stateless q.op = true ∨ (isHld q.op = true ∧ isHap (.hp op) = true)) ∨ isLld q.op = true) (ho : HOut e H op H1 v) (hd : d.H = H ∨ d.H = H1) (H2 : AHeap) (hH2 : H2 = H ∨ H2 = H1)
    (h : stepD P q d d1) : stepD P q { d with H := H2 } { d1 with H := H2 } := by
  rcases hq with (hq | ⟨hq, hap⟩) | hq
  · obtain ⟨u, rfl⟩ := stepD_form (by cases hop : q.op <;> simp [hop, stateless] at hq <;> rfl) h
    have := stepD_state (L := d.L) (H := H2) hq h
    rw [show (⟨d.f, d.L, H2⟩ : D) = { d with H := H2 } from rfl, show (⟨(d.put q.dst u).f, d.L, H2⟩ : D) = { d.put q.dst u with H := H2 } by rw [← put_L d q.dst u]] at this
    exact this
  · have hiff : ∀ n agg a, hldq H2 n agg a = hldq d.H n agg a := by
      have key := hldq_iff (hap_cells hap ho)
      intro n agg a
      rcases hd with hd | hd <;> rcases hH2 with hh | hh <;> rw [hd, hh]
      · exact key n agg a
      · exact (key n agg a).symm
    obtain ⟨dst, guard, qop_⟩ := q
    cases qop_ <;> simp only [isHld] at hq <;> try (cases hq; done)
    rename_i hop
    cases hop <;> simp only at hq <;> try (cases hq; done)
    rename_i n agg x
    have act : actD P ⟨dst, guard, .hp (.load n agg x)⟩ d d1 → actD P ⟨dst, guard, .hp (.load n agg x)⟩ { d with H := H2 } { d1 with H := H2 } := by
      rintro ⟨sv, h1, rfl⟩
      exact ⟨sv, by show hldq H2 n agg (dval d.f x) = some sv; rw [hiff]; exact h1, putH_comm d H2 dst sv⟩
    unfold stepD at h ⊢
    cases guard with
    | none => exact act h
    | some gw =>
      obtain ⟨g, want⟩ := gw
      simp only at h ⊢
      split at h
      · split at h
        · rename_i hb; rw [if_pos hb]; exact act h
        · rename_i hb; rw [if_neg hb, h]; exact putH_comm d H2 dst _
      · rw [h]; exact putH_comm d H2 dst _
      · exact h.elim
  · obtain ⟨dst, guard, qop_⟩ := q
    have act : actD P ⟨dst, guard, qop_⟩ d d1 → actD P ⟨dst, guard, qop_⟩ { d with H := H2 } { d1 with H := H2 } := by
      cases qop_ <;> simp only [isLld] at hq <;> try (cases hq; done)
      case ow hop =>
        cases hop <;> simp only at hq <;> try (cases hq; done)
        rintro ⟨sv, h1, rfl⟩
        exact ⟨sv, h1, putH_comm d H2 dst sv⟩
      case ia o n x y =>
        cases o
        · rintro ⟨sv, h1, rfl⟩
          refine ⟨sv, ?_, putH_comm d H2 dst sv⟩
          simp only [qop] at h1 ⊢
          exact h1
        · cases hq
    unfold stepD at h ⊢
    cases guard with
    | none => exact act h
    | some gw =>
      obtain ⟨g, want⟩ := gw
      simp only at h ⊢
      split at h
      · split at h
        · rename_i hb; rw [if_pos hb]; exact act h
        · rename_i hb; rw [if_neg hb, h]; exact putH_comm d H2 dst _
      · rw [h]; exact putH_comm d H2 dst _
      · exact h.elim
theorem stepD_det {P : Program} {q : Stmt} {d d1 d2 : D} (hq : (stateless q.op = true ∨ isHld q.op = true) ∨ isLld q.op = true) (h1 : stepD P q d d1) (h2 : stepD P q d d2) : d1 = d2 := by
  have act : actD P q d d1 → actD P q d d2 → d1 = d2 := by
    clear h1 h2
    intro h1 h2
    obtain ⟨dst, guard, op⟩ := q
    unfold actD at h1 h2
    cases op
    case call => simp [stateless, isHld, isLld] at hq
    case cald => simp [stateless, isHld, isLld] at hq
    case store => simp [stateless, isHld, isLld] at hq
    case ow op =>
      cases op
      case store => simp [stateless, isHld, isLld] at hq
      all_goals
        obtain ⟨sv, e1, rfl⟩ := h1
        obtain ⟨sv', e2, rfl⟩ := h2
        rw [e1] at e2
        injection e2 with e2
        rw [e2]
    all_goals
      obtain ⟨sv, e1, rfl⟩ := h1
      obtain ⟨sv', e2, rfl⟩ := h2
      rw [e1] at e2
      injection e2 with e2
      rw [e2]
  unfold stepD at h1 h2
  cases hg : q.guard with
  | none => rw [hg] at h1 h2; exact act h1 h2
  | some gw =>
    obtain ⟨g, want⟩ := gw
    rw [hg] at h1 h2
    simp only at h1 h2
    split at h1
    · rename_i b hb
      rw [hb] at h2
      simp only at h2
      split at h1
      · rename_i hw; rw [if_pos hw] at h2; exact act h1 h2
      · rename_i hw; rw [if_neg hw] at h2; rw [h1, h2]
    · rename_i vs hb
      rw [hb] at h2
      rw [h1, h2]
    · exact h1.elim
theorem reads_sub {st : Stmt} {op : SOp} (ho : st.op = .hp op) {x : Operand} (hx : x ∈ op.reads) : x ∈ st.reads := by
  unfold Stmt.reads
  rw [ho]
  exact List.mem_append_right _ hx
theorem dval_put {st : Stmt} {op : SOp} (ho : st.op = .hp op) {d : D} {y : Option Nat} {v : SV} (hd : ∀ a, y = some a → st.touches a = false ∧ st.dst ≠ some a) : ∀ x ∈ op.reads, dval (d.put y v).f x = dval d.f x := by
  intro x hx
  cases y with
  | none => rfl
  | some a =>
    refine dval_upd fun e => ?_
    have ht := (hd a rfl).1
    unfold Stmt.touches at ht
    have := List.any_eq_false.1 ht x (reads_sub ho hx)
    simp [e] at this
/-- a call ahead of what makes a block, behind it -/
theorem hldq_new {H : AHeap} {b : Nat} {o : HObj} (hb : H b = none) {n : Nat} {agg : Bool} {a sv : SV} (h : hldq H n agg a = some sv) : hldq (upd H b (some o)) n agg a = some sv := by
  unfold hldq at h ⊢
  split at h
  · rename_i b' o'
    split at h
    · rename_i hH
      have : b ≠ b' := by rintro rfl; rw [hb] at hH; cases hH
      simp only [upd_ne _ _ this, hH]
      exact h
    · cases h
  · cases h
theorem hrdq_new {H : AHeap} {b : Nat} {o : HObj} (hb : H b = none) {n : Nat} {agg : Bool} {a sv : SV} (h : hrdq H n agg a = some sv) : hrdq (upd H b (some o)) n agg a = some sv := by
  cases a with
  | v u =>
    have hr : ∀ q, rdA [] H (.v u) = some q → rdA [] (upd H b (some o)) (.v u) = some q := by
      intro q hq
      cases u <;> try exact hq
      rename_i v
      cases v <;> try exact hq
      rename_i p
      cases p <;> try exact hq
      rename_i a
      obtain ⟨b', o', m⟩ := a
      cases m with
      | some _ => exact hq
      | none =>
        have : b ≠ b' := by
          rintro rfl
          simp only [rdA, hb] at hq
          cases hq
        simp only [rdA, upd_ne _ _ this] at hq ⊢
        exact hq
    unfold hrdq at h ⊢
    simp only at h ⊢
    split at h
    · rename_i hq
      rw [hr _ hq]
      exact h
    · cases h
  | _ => cases h
theorem stepD_new {P : Program} {q : Stmt} {d d1 : D} {e : Operand → SV} {op : SOp} {H1 : AHeap} {v : SV} (hq : isCal q.op = true ∨ isHrd q.op = true) (hn : isNew (.hp op) = true) (ho : HOut e d.H op H1 v) (h : stepD P q d d1) : stepD P q { d with H := H1 } { d1 with H := H1 } := by
  have hnew : ∃ b o, d.H b = none ∧ H1 = upd d.H b (some o) := by
    cases op <;> simp only [isNew, HOut] at hn ho <;> try (cases hn; done)
    case alloc => obtain ⟨b, h1, h2, _⟩ := ho; exact ⟨b, _, h1, h2⟩
    case box => obtain ⟨u, cs, b, _, _, h1, h2, _⟩ := ho; exact ⟨b, _, h1, h2⟩
    case bsl => obtain ⟨l, cs, b, _, _, h1, h2, _⟩ := ho; exact ⟨b, _, h1, h2⟩
    case mksl => obtain ⟨q, n, b, _, h1, h2, _⟩ := ho; exact ⟨b, _, h1, h2⟩
    case mkmap => obtain ⟨b, h1, h2, _⟩ := ho; exact ⟨b, _, h1, h2⟩
  obtain ⟨b, o, hb, rfl⟩ := hnew
  have act : actD P q d d1 → actD P q { d with H := upd d.H b (some o) } { d1 with H := upd d.H b (some o) } := by
    clear h
    intro h
    obtain ⟨dst, guard, op_⟩ := q
    cases op_ <;> simp only [isCal, isHrd] at hq <;> try (simp at hq; done)
    case hp op2 =>
      unfold actD at h ⊢
      obtain ⟨sv, h1, rfl⟩ := h
      refine ⟨sv, ?_, putH_comm _ _ _ _⟩
      cases op2 <;> (try simp only at hq) <;> try (simp at hq; done)
      case load n agg x => exact hldq_new hb h1
      case hp op3 =>
        cases op3 <;> (try simp only at hq) <;> try (simp at hq; done)
        exact hrdq_new hb h1
    case call f xs =>
      unfold actD at h ⊢
      obtain ⟨us, r, h1, h2, rfl⟩ := h
      refine ⟨us, r, h1, (h2.frame hb).mono ?_, putH_comm _ _ _ _⟩
      rintro r' H' ⟨H2, ⟨e1, e2⟩, rfl⟩
      exact ⟨e1, by rw [e2]⟩
    case cald f xs =>
      unfold actD at h ⊢
      obtain ⟨g, first, cap, us, r, h0, h1, h2, rfl⟩ := h
      refine ⟨g, first, cap, us, r, h0, h1, (h2.frame hb).mono ?_, putH_comm _ _ _ _⟩
      rintro r' H' ⟨H2, ⟨e1, e2⟩, rfl⟩
      exact ⟨e1, by rw [e2]⟩
  unfold stepD at h ⊢
  cases hg : q.guard with
  | none =>
    rw [hg] at h
    exact act h
  | some gw =>
    obtain ⟨g, want⟩ := gw
    rw [hg] at h
    dsimp only at h ⊢
    cases hf : d.f g with
    | v x =>
      rw [hf] at h
      cases x with
      | raw y =>
        cases y with
        | bool b' =>
          dsimp only at h ⊢
          by_cases hb' : b' = want
          · rw [if_pos hb'] at h ⊢
            exact act h
          · rw [if_neg hb'] at h ⊢
            rw [h]
            exact putH_comm _ _ _ _
        | tuple vs =>
          dsimp only at h ⊢
          rw [h]
          exact putH_comm _ _ _ _
        | _ => exact h.elim
      | _ => exact h.elim
    | _ => rw [hf] at h; exact h.elim
theorem quiet_noStore {q : SOp} (h : (stateless q = true ∨ isHld q = true) ∨ isLld q = true) : isStore q = false := by
  cases q <;> simp only [stateless, isHld, isLld] at h <;> first
    | rfl
    | (simp at h; done)
    | (rename_i op; cases op <;> first | rfl | (simp at h))

theorem swapW {P : Program} {p q : Stmt} {d : D} {K : D → Prop} (hi : indepW p q = true) (hc : Cof d.H) (h : stepW P p d fun d1 => stepW P q d1 K) : stepW P q d fun d1 => stepW P p d1 K := by
  unfold indepW at hi
  cases hp : isEff p.op with
  | true =>
    rw [if_pos hp] at hi
    simp only [Bool.and_eq_true, Bool.not_eq_true', Bool.or_eq_true] at hi
    obtain ⟨⟨hq, hdj⟩, hsl⟩ := hi
    obtain ⟨hpq, hqp⟩ := disj_spec hdj
    obtain ⟨pop, hpo⟩ := eff_hp hp
    rw [stepW_eff hpo hp] at h
    rw [stepW_not hq]
    obtain ⟨hg, hsafe, hall⟩ := h
    have hsl' : (stateless q.op = true ∨ (isHld q.op = true ∧ isHap (.hp pop) = true)) ∨ isLld q.op = true := by rw [← hpo]; exact hsl
    have hsl2 : (stateless q.op = true ∨ isHld q.op = true) ∨ isLld q.op = true := hsl.imp (·.imp id And.left) id
    have hns := quiet_noStore hsl2
    -- back to the state before
    have back : ∀ H1 v d2, HOut (dval d.f) d.H pop H1 v → stepD P q ({ d with H := H1 }.put p.dst v) d2 → ∃ u, d2 = ({ d with H := H1 }.put p.dst v).put q.dst u ∧ stepD P q d (d.put q.dst u) := by
      intro H1 v d2 ho h2
      obtain ⟨u, rfl⟩ := stepD_form hns h2
      refine ⟨u, rfl, ?_⟩
      have h3 := stepD_congr (x := p.dst) (v := d.f (p.dst.getD 0)) hpq h2
      have e1 : ∀ d : D, (d.put p.dst v).put p.dst (d.f (p.dst.getD 0)) = d := by
        intro d
        cases hpd : p.dst with
        | none => rfl
        | some a =>
          simp only [D.put, Option.getD_some]
          have : upd (upd d.f a v) a (d.f a) = d.f := by
            funext z; simp only [upd]; by_cases e : a = z
            · subst e; simp
            · simp [e]
          rw [this]
      have e2 : (({ d with H := H1 } : D).put p.dst v).put p.dst (d.f (p.dst.getD 0)) = { d with H := H1 } := e1 { d with H := H1 }
      rw [e2, put_comm _ u _ (fun a ha => fun e => (hqp a ha).2 e), e2] at h3
      have h4 := stepD_hp hsl' ho (.inr rfl) d.H (.inl rfl) h3
      rw [putH_comm] at h4
      exact h4
    obtain ⟨H1, v, ho⟩ := HOut.exists hc hsafe
    have hx := hall H1 v ho
    rw [stepW_not hq] at hx
    obtain ⟨d2, h2, hk2⟩ := hx
    obtain ⟨u, _, hqd⟩ := back H1 v d2 ho h2
    refine ⟨_, hqd, ?_⟩
    rw [stepW_eff hpo hp]
    have hrd := dval_put hpo (d := d) (v := u) hqp
    refine ⟨hg, by rw [put_H]; exact HSafe_congr (fun x hx => (hrd x hx).symm) hsafe, fun H1' v' ho' => ?_⟩
    rw [put_H] at ho'
    have ho2 := HOut_congr hrd ho'
    have hx' := hall H1' v' ho2
    rw [stepW_not hq] at hx'
    obtain ⟨d2', h2', hk2'⟩ := hx'
    obtain ⟨u', rfl, hqd'⟩ := back H1' v' d2' ho2 h2'
    have hsame := stepD_det hsl2 hqd hqd'
    have : ({ d.put q.dst u with H := H1' } : D).put p.dst v' = ({ d with H := H1' }.put p.dst v').put q.dst u' := by
      rw [putH_comm]
      have e : (({ d with H := H1' } : D).put q.dst u) = ({ d with H := H1' } : D).put q.dst u' := by
        rw [← putH_comm, hsame, putH_comm]
      rw [e]
      exact put_comm _ _ _ fun a ha => fun e => (hqp a ha).2 e
    rw [this]
    exact hk2'
  | false =>
    rw [if_neg (by rw [hp]; simp)] at hi
    cases hq : isEff q.op with
    | true =>
      rw [if_pos hq] at hi
      simp only [Bool.and_eq_true, Bool.or_eq_true] at hi
      obtain ⟨hdj, hsl⟩ := hi
      obtain ⟨hpq, hqp⟩ := disj_spec hdj
      obtain ⟨qop_, hqo⟩ := eff_hp hq
      rw [stepW_not hp] at h
      obtain ⟨d1, h1, h2⟩ := h
      rw [stepW_eff hqo hq] at h2 ⊢
      have hsl' : ((stateless p.op = true ∨ (isHld p.op = true ∧ isHap (.hp qop_) = true)) ∨ isLld p.op = true) ∨ ((isCal p.op = true ∨ isHrd p.op = true) ∧ isNew (.hp qop_) = true) := by rw [← hqo]; exact hsl
      have hnst : isStore p.op = false := by
        rcases hsl with hs | hs
        · exact quiet_noStore (hs.imp (·.imp id And.left) id)
        · have := hs.1
          cases hpo : p.op <;> rw [hpo] at this <;> simp only [isCal, isHrd] at this <;> first | rfl | (simp at this; done)
      obtain ⟨u, rfl⟩ := stepD_form hnst h1
      obtain ⟨hg, hsafe, hall⟩ := h2
      have hrd := dval_put hqo (d := d) (v := u) hpq
      rw [put_H] at hsafe
      refine ⟨hg, HSafe_congr hrd hsafe, fun H1 v ho => ?_⟩
      rw [stepW_not hp]
      have ho2 : HOut (dval (d.put p.dst u).f) (d.put p.dst u).H qop_ H1 v := by
        rw [put_H]; exact HOut_congr (fun x hx => (hrd x hx).symm) ho
      have hk := hall H1 v ho2
      rw [putH_comm] at hk
      refine ⟨({ d with H := H1 }.put q.dst v).put p.dst u, ?_, ?_⟩
      · have h3 : stepD P p { d with H := H1 } { d.put p.dst u with H := H1 } := by
          rcases hsl' with hs | ⟨hs1, hs2⟩
          · exact stepD_hp hs ho (.inl rfl) H1 (.inr rfl) h1
          · exact stepD_new hs1 hs2 ho h1
        rw [putH_comm] at h3
        have h4 := stepD_congr (x := q.dst) (v := v) hqp h3
        rw [put_comm _ u v fun a ha => fun e => (hpq a ha).2 e] at h4
        exact h4
      · rw [put_comm _ v u fun a ha => fun e => (hqp a ha).2 e]
        exact hk
    | false =>
      rw [if_neg (by rw [hq]; simp)] at hi
      rw [stepW_not hp] at h
      obtain ⟨d1, h1, h2⟩ := h
      rw [stepW_not hq] at h2 ⊢
      obtain ⟨d2, h2, hk⟩ := h2
      obtain ⟨d3, h3, h4⟩ := swapD hi h1 h2
      refine ⟨d3, h3, ?_⟩
      rw [stepW_not hp]
      exact ⟨d2, h4, hk⟩

theorem frontW {P : Program} {q : Stmt} {post : List Stmt} {K : D → Prop} : ∀ (pre : List Stmt) (d : D), Cof d.H → RunW P (pre ++ q :: post) d K → (∀ p ∈ pre, indepW p q = true) → RunW P (q :: (pre ++ post)) d K
  | [], d, _, h, _ => h
  | p :: pre, d, hc, h, hi => by
    simp only [List.cons_append, RunW] at h ⊢
    refine swapW (hi p (by simp)) hc (stepW_mono (fun d1 hd1 => ?_) (stepW_cof hc h))
    have := frontW pre d1 hd1.1 hd1.2 fun p' hp' => hi p' (by simp [hp'])
    simpa only [RunW] using this


/-! ### the order: which operations wait for which -/
/-- the masks of all that an operation waits for -/
def closA : List Nat → List (List Nat) → List Nat
  | acc, [] => acc
  | acc, es :: r => closA (acc ++ [es.foldl (fun m e => m ||| 2 ^ e ||| acc.getD e 0) 0]) r
def edgesOf (o : Oper) : List Nat := (o.after.toList.filter (Region.binds .any)).map (·.on)

inductive Reach (E : List (List Nat)) : Nat → Nat → Prop
  | one {j p : Nat} {es : List Nat} : E[j]? = some es → p ∈ es → Reach E j p
  | step {j e p : Nat} {es : List Nat} : E[j]? = some es → e ∈ es → Reach E e p → Reach E j p

theorem foldl_bit {acc : List Nat} {p : Nat} : ∀ (es : List Nat) (m : Nat), (es.foldl (fun m e => m ||| 2 ^ e ||| acc.getD e 0) m).testBit p = true → m.testBit p = true ∨ ∃ e ∈ es, p = e ∨ (acc.getD e 0).testBit p = true
  | [], m, h => .inl h
  | e :: es, m, h => by
    simp only [List.foldl_cons] at h
    rcases foldl_bit es _ h with h | ⟨e', he', h⟩
    · simp only [Nat.testBit_or, Bool.or_eq_true, Nat.testBit_two_pow] at h
      rcases h with (h | h) | h
      · exact .inl h
      · exact .inr ⟨e, by simp, .inl (by have h' := h; simp at h'; exact h'.symm)⟩
      · exact .inr ⟨e, by simp, .inr h⟩
    · exact .inr ⟨e', by simp [he'], h⟩

theorem closA_reach (E : List (List Nat)) : ∀ (r : List (List Nat)) (acc : List Nat), (∀ j, r[j]? = E[acc.length + j]?) → (∀ j p, (acc.getD j 0).testBit p = true → Reach E j p) →
    ∀ j p, ((closA acc r).getD j 0).testBit p = true → Reach E j p
  | [], acc, _, h, j, p, hb => h j p hb
  | es :: r, acc, hr, h, j, p, hb => by
    simp only [closA] at hb
    refine closA_reach E r _ (fun k => ?_) (fun k q hq => ?_) j p hb
    · have := hr (k + 1)
      simp only [List.getElem?_cons_succ] at this
      rw [this]; simp; congr 1; omega
    · by_cases hk : k < acc.length
      · rw [List.getD_eq_getElem?_getD, List.getElem?_append_left hk, ← List.getD_eq_getElem?_getD] at hq
        exact h k q hq
      · by_cases hk2 : k = acc.length
        · subst hk2
          have hE : E[acc.length]? = some es := by have := hr 0; simpa using this.symm
          rw [List.getD_eq_getElem?_getD, List.getElem?_append_right (Nat.le_refl _)] at hq
          simp only [Nat.sub_self, List.getElem?_cons_zero, Option.getD_some] at hq
          rcases foldl_bit es 0 hq with h0 | ⟨e, he, h1⟩
          · simp at h0
          · rcases h1 with rfl | h1
            · exact .one hE he
            · exact .step hE he (h e q h1)
        · rw [List.getD_eq_getElem?_getD, List.getElem?_append_right (by omega), List.getElem?_eq_none (by simp; omega)] at hq
          simp at hq

/-- each pair is ordered, or free -/
def pairsB (cl : List Nat) : Nat → List Stmt → Nat → List Stmt → Bool
  | _, _, _, [] => true
  | i0, pre, j, q :: r => (pre.zipIdx i0).all (fun (p, i) => ((cl.getD j 0).testBit i) || indepW p q) && pairsB cl i0 (pre ++ [q]) (j + 1) r
def drawOk (ops : Array Oper) (sts : List Stmt) : Bool :=
  sts.all (fun st => !isEff st.op || (st.guard.isNone && (!isMs st.op || st.dst.isNone))) &&
    ops.toList.zipIdx.all (fun (o, i) => (edgesOf o).all (· < i)) && pairsB (closA [] (ops.toList.map edgesOf)) 0 [] 0 sts

theorem pairsB_spec (cl : List Nat) : ∀ (r pre : List Stmt) (j : Nat), j = pre.length → pairsB cl 0 pre j r = true → ∀ i k p q, i < k → (pre ++ r)[i]? = some p → (pre ++ r)[k]? = some q → pre.length ≤ k → ((cl.getD k 0).testBit i) = true ∨ indepW p q = true
  | [], pre, j, _, _, i, k, p, q, hik, hp, hq, hk => by
    rw [List.append_nil] at hq
    have := (List.getElem?_eq_some_iff.1 hq).1
    omega
  | s :: r, pre, j, hj, h, i, k, p, q, hik, hp, hq, hk => by
    simp only [pairsB, Bool.and_eq_true] at h
    by_cases hkl : k = pre.length
    · subst hkl
      rw [List.getElem?_append_right (Nat.le_refl _)] at hq
      simp at hq; subst hq
      rw [List.getElem?_append_left hik] at hp
      have hm : (p, i) ∈ pre.zipIdx 0 := by
        rw [List.mem_iff_getElem?]
        exact ⟨i, by simp [List.getElem?_zipIdx, hp]⟩
      have := List.all_eq_true.1 h.1 (p, i) hm
      rw [hj] at this
      simpa using this
    · have := pairsB_spec cl r (pre ++ [s]) (j + 1) (by simp [hj]) h.2 i k p q hik (by simpa using hp) (by simpa using hq) (by simp; omega)
      exact this

end Go.Proofs.Ytejmcijcdhoogaa.Abs
