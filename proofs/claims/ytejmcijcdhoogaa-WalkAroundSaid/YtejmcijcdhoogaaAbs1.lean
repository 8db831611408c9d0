import Derived.Maps.AppendAt
import Derived.Laws.OwnMore
import Derived.Below
import Derived.RowKit
import Derived.Orders
import Derived.Laws.StructEq
import Derived.ChangeKeysEq
import Derived.Laws.BytesString
namespace Go.Proofs.Ytejmcijcdhoogaa.Abs
open Go

inductive AV where
  | top
  | raw (v : Value)
  | box (cells : List AV) (off : Nat)
  | vec (nl : Bool) (cells : List AV) (n : Nat)
  | agg (cells : List AV)
  | tup (cells : List AV)
  | fn (f : Fn) (first captured : List AV)
  | ifc (t : TypeId) (v : AV)
  deriving Inhabited

mutual
def RV (I : Nat → Prop) (w : World) : AV → Value → Prop
  | .top, _ => True
  | .raw u, v => v = u
  | .box cs off, v => ∃ b s, v = .pointer (some ⟨b, s + off, none⟩) ∧ I b ∧ RCells I w cs b s
  | .vec nl cs n, v => ∃ a cap, v = .slice a n cap ∧ n ≤ cap ∧ cap ≤ maxLen ∧ (nl = true → a = none ∧ cap = 0) ∧ (nl = false → a ≠ none) ∧ (n ≠ 0 → cs ≠ []) ∧
      (cs ≠ [] → ∃ b s, a = some ⟨b, s, none⟩ ∧ I b ∧ RCells I w cs b s)
  | .agg cs, v => ∃ vs : List Value, v = .agg vs.toArray ∧ RL I w cs vs
  | .tup cs, v => ∃ vs : List Value, v = .tuple vs.toArray ∧ RL I w cs vs
  | .fn f xs ys, v => ∃ us vs : List Value, v = .func f us.toArray vs.toArray ∧ RL I w xs us ∧ RL I w ys vs
  | .ifc t x, v => ∃ u, v = .iface t u ∧ RV I w x u
def RCells (I : Nat → Prop) (w : World) : List AV → Nat → Nat → Prop
  | [], _, _ => True
  | c :: cs, b, s => (∃ u, w.cell? ⟨b, s, none⟩ = some u ∧ u.oneCell' = true ∧ RV I w c u) ∧ RCells I w cs b (s + 1)
def RL (I : Nat → Prop) (w : World) : List AV → List Value → Prop
  | [], vs => vs = []
  | c :: cs, vs => ∃ u us, vs = u :: us ∧ RV I w c u ∧ RL I w cs us
end

/-- What stays: the immutable blocks. -/
def Keep (I I' : Nat → Prop) (w w' : World) : Prop := ∀ b, I b → I' b ∧ w'.heap[b]? = w.heap[b]?
theorem Keep.refl (I : Nat → Prop) (w : World) : Keep I I w w := fun _ h => ⟨h, rfl⟩
theorem Keep.trans {I I' I'' : Nat → Prop} {w w' w'' : World} (h : Keep I I' w w') (k : Keep I' I'' w' w'') : Keep I I'' w w'' :=
  fun b hb => ⟨(k b (h b hb).1).1, (k b (h b hb).1).2.trans (h b hb).2⟩

section
variable {I I' : Nat → Prop} {w w' : World}
mutual
theorem RV.keep (hk : Keep I I' w w') : ∀ (a : AV) (v : Value), RV I w a v → RV I' w' a v
  | .top, _, _ => by simp [RV]
  | .raw u, v, h => by simpa [RV] using h
  | .box cs off, v, h => by
    simp only [RV] at h ⊢
    obtain ⟨b, s, e, hI, hc⟩ := h
    exact ⟨b, s, e, (hk b hI).1, RCells.keep hk cs b s hI hc⟩
  | .vec nl cs n, v, h => by
    simp only [RV] at h ⊢
    obtain ⟨a, cap, e, h1, h2, h3, h4, h6, h5⟩ := h
    refine ⟨a, cap, e, h1, h2, h3, h4, h6, fun hn => ?_⟩
    obtain ⟨b, s, e, hI, hc⟩ := h5 hn
    exact ⟨b, s, e, (hk b hI).1, RCells.keep hk cs b s hI hc⟩
  | .agg cs, v, h => by
    simp only [RV] at h ⊢
    obtain ⟨vs, e, h⟩ := h
    exact ⟨vs, e, RL.keep hk cs vs h⟩
  | .tup cs, v, h => by
    simp only [RV] at h ⊢
    obtain ⟨vs, e, h⟩ := h
    exact ⟨vs, e, RL.keep hk cs vs h⟩
  | .fn f xs ys, v, h => by
    simp only [RV] at h ⊢
    obtain ⟨us, vs, e, h1, h2⟩ := h
    exact ⟨us, vs, e, RL.keep hk xs us h1, RL.keep hk ys vs h2⟩
  | .ifc t x, v, h => by
    simp only [RV] at h ⊢
    obtain ⟨u, e, h⟩ := h
    exact ⟨u, e, RV.keep hk x u h⟩
theorem RCells.keep (hk : Keep I I' w w') : ∀ (cs : List AV) (b s : Nat), I b → RCells I w cs b s → RCells I' w' cs b s
  | [], _, _, _, _ => by simp [RCells]
  | c :: cs, b, s, hI, h => by
    simp only [RCells] at h ⊢
    obtain ⟨⟨u, hu, h1, hv⟩, hr⟩ := h
    exact ⟨⟨u, (World.cell?_of_block (hk b hI).2).trans hu, h1, RV.keep hk c u hv⟩, RCells.keep hk cs b (s + 1) hI hr⟩
theorem RL.keep (hk : Keep I I' w w') : ∀ (cs : List AV) (vs : List Value), RL I w cs vs → RL I' w' cs vs
  | [], vs, h => by simpa [RL] using h
  | c :: cs, vs, h => by
    simp only [RL] at h ⊢
    obtain ⟨u, us, e, h1, h2⟩ := h
    exact ⟨u, us, e, RV.keep hk c u h1, RL.keep hk cs us h2⟩
end
end


/-! ### slots, local objects, the heap -/
inductive SV where
  | v (a : AV)
  | loc (d off : Nat)
  | own (d : Nat)
  deriving Inhabited

def SV.key : SV → Option Nat
  | .v _ => none
  | .loc d _ => some d
  | .own d => some d

inductive LObj where
  | cells (cs : List AV) (t : TypeId)
  | arr (nl : Bool) (cs : List AV) (n : Nat) (e : TypeId) (sz : Nat)

/-- kinds of keys of maps, and keys -/
inductive KD where
  | i (k : IntKind)
  | s
  | a (n : Nat) (k : IntKind)
  deriving DecidableEq, Inhabited
inductive MK where
  | i (n : Int)
  | s (b : ByteArray)
  | a (l : List Int)
  deriving DecidableEq, Inhabited
def MK.val : KD → MK → Value
  | .i k, .i n => .int k n
  | .s, .s b => .string b
  | .a _ k, .a l => .agg (l.map (Value.int k)).toArray
  | _, _ => undef
def MK.fits : KD → MK → Bool
  | .i _, .i _ => true
  | .s, .s _ => true
  | .a n _, .a l => l.length == n
  | _, _ => false
inductive HObj where
  | cells (cs : List AV) (t : TypeId)
  | row (cs : List AV) (cap e sz : Nat)
  | map (kd : KD) (es : List (MK × AV))

abbrev AHeap := Nat → Option HObj

def get {α : Type} (l : List (Nat × α)) (x : Nat) : Option α :=
  match l with
  | [] => none
  | (y, a) :: r => if y = x then some a else get r x
def put {α : Type} (l : List (Nat × α)) (x : Nat) (a : α) : List (Nat × α) :=
  match l with
  | [] => [(x, a)]
  | (y, b) :: r => if y = x then (x, a) :: r else (y, b) :: put r x a
def del {α : Type} (l : List (Nat × α)) (x : Nat) : List (Nat × α) :=
  match l with
  | [] => []
  | (y, b) :: r => if y = x then del r x else (y, b) :: del r x
def upd {α : Type} (f : Nat → α) (x : Nat) (a : α) : Nat → α := fun y => if x = y then a else f y
theorem upd_self {α : Type} (f : Nat → α) (x : Nat) (a : α) : upd f x a x = a := by simp [upd]
theorem upd_ne {α : Type} (f : Nat → α) {x y : Nat} (a : α) (h : x ≠ y) : upd f x a y = f y := by simp [upd, h]
theorem get_put {α : Type} (l : List (Nat × α)) (x y : Nat) (a : α) : get (put l x a) y = if x = y then some a else get l y := by
  induction l with
  | nil => simp [put, get]
  | cons p r ih =>
    obtain ⟨z, b⟩ := p
    by_cases h : z = x
    · subst h
      simp only [put, if_true, get]
      split <;> simp_all
    · simp only [put, h, if_false, get, ih]
      by_cases h2 : x = y
      · subst h2; simp [h]
      · simp [h2]
theorem get_del {α : Type} (l : List (Nat × α)) (x y : Nat) : get (del l x) y = if x = y then none else get l y := by
  induction l with
  | nil => simp [del, get]
  | cons p r ih =>
    obtain ⟨z, b⟩ := p
    by_cases h : z = x
    · subst h
      simp only [del, if_true, ih, get]
      split <;> simp_all
    · simp only [del, h, if_false, get, ih]
      by_cases h2 : x = y
      · subst h2; simp [h]
      · simp [h2]

/-- all slots that mention a key forget it -/
def clr (l : List (Nat × SV)) (d : Nat) : List (Nat × SV) :=
  match l with
  | [] => []
  | (y, s) :: r => (y, if s.key = some d then .v .top else s) :: clr r d
theorem get_clr (l : List (Nat × SV)) (d x : Nat) : get (clr l d) x = (get l x).map fun s => if s.key = some d then .v .top else s := by
  induction l with
  | nil => simp [clr, get]
  | cons p r ih =>
    obtain ⟨z, b⟩ := p
    simp only [clr, get, ih]
    split <;> simp

inductive Ow where
  | free | imm | loc (d : Nat) | hp
  deriving DecidableEq

structure Cx where
  ow : Nat → Ow
  β : Nat → Nat
  ν : Nat → Value

def Cx.I (c : Cx) : Nat → Prop := fun b => c.ow b = .imm

def RS (c : Cx) (w : World) : SV → Value → Prop
  | .v a, v => RV c.I w a v
  | .loc d o, v => v = .pointer (some ⟨c.β d, o, none⟩)
  | .own d, v => v = c.ν d

/-- cells pointwise, each of one cell -/
def R1 (I : Nat → Prop) (w : World) (cs : List AV) (vs : List Value) : Prop := RL I w cs vs ∧ ∀ u ∈ vs, u.oneCell' = true

def LRel (c : Cx) (w : World) (d : Nat) : LObj → Prop
  | .cells cs t => c.ow (c.β d) = .loc d ∧ ∃ vs : List Value, w.heap[c.β d]? = some (.cells vs.toArray t (0, 0)) ∧ R1 c.I w cs vs
  | .arr nl cs n e sz => (∀ b, (c.ν d).ownBlock = some b → c.ow b = .loc d ∧ b = c.β d) ∧ (nl = true ↔ c.ν d = .slice none 0 0) ∧ 0 < sz ∧ ∃ vs : List Value, w.ownsRow 0 e sz (c.ν d) n vs ∧ R1 c.I w cs vs

def HRel (I : Nat → Prop) (w : World) (b : Nat) : HObj → Prop
  | .cells cs t => ∃ vs : List Value, w.heap[b]? = some (.cells vs.toArray t (0, 0)) ∧ R1 I w cs vs
  | .row cs cap e sz => ∃ cur : List Value, w.heap[b]? = some (.cells cur.toArray e (0, 0)) ∧ cur.length = cap * sz ∧ cs.length ≤ cur.length ∧ cap ≤ maxLen ∧ R1 I w cs (cur.take cs.length)
  | .map kd es => ∃ (en : List MapEntry) (clock : Nat), w.heap[b]? = some (.map en.toArray clock) ∧ en.map (·.key) = es.map (fun e => e.1.val kd) ∧ (∀ e ∈ es, e.1.fits kd = true) ∧ RL I w (es.map (·.2)) (en.map (·.val))

structure MRel (c : Cx) (L : List (Nat × LObj)) (H : AHeap) (w : World) : Prop where
  loc : ∀ d o, get L d = some o → LRel c w d o
  hp : ∀ b o, H b = some o → c.ow b = .hp ∧ HRel c.I w b o
  lt : ∀ b, c.ow b ≠ .free → b < w.heap.size

def ERel (c : Cx) (w : World) (env : List (Nat × SV)) (t : Array Value) : Prop :=
  ∀ x sv, get env x = some sv → x < t.size ∧ RS c w sv (t.getD x undef)

/-! ### what stays when a step is done -/
theorem R1.keep {I I' : Nat → Prop} {w w' : World} (hk : Keep I I' w w') {cs : List AV} {vs : List Value} (h : R1 I w cs vs) : R1 I' w' cs vs := ⟨RL.keep hk cs vs h.1, h.2⟩

theorem HRel.keep {I I' : Nat → Prop} {w w' : World} (hk : Keep I I' w w') {b : Nat} (hb : w'.heap[b]? = w.heap[b]?) {o : HObj} (h : HRel I w b o) : HRel I' w' b o := by
  cases o with
  | cells cs t =>
    obtain ⟨vs, h1, h2⟩ := h
    exact ⟨vs, hb.trans h1, h2.keep hk⟩
  | row cs cap e sz =>
    obtain ⟨cur, h1, h2, h3, h4, h5⟩ := h
    exact ⟨cur, hb.trans h1, h2, h3, h4, h5.keep hk⟩
  | map kd es =>
    obtain ⟨en, k, h1, h2, h4, h3⟩ := h
    exact ⟨en, k, hb.trans h1, h2, h4, RL.keep hk _ _ h3⟩

theorem ownsRow_same {w w' : World} {base : Nat} {e : TypeId} {sz n : Nat} {v : Value} {xs : List Value} (h : w.ownsRow base e sz v n xs)
    (hb : ∀ b, v.ownBlock = some b → w'.heap[b]? = w.heap[b]?) : w'.ownsRow base e sz v n xs := by
  obtain ⟨h1, h2⟩ := h
  refine ⟨h1, ?_⟩
  rcases h2 with h2 | ⟨g, cap, cur, rfl, hg, hh, r⟩
  · exact .inl h2
  · exact .inr ⟨g, cap, cur, rfl, hg, (hb g (by simp [Value.ownBlock])).trans hh, r⟩

/-- a local object whose block stays as it is -/
theorem LRel.keep {c c' : Cx} {w w' : World} (hk : Keep c.I c'.I w w') {d : Nat} (hβ : c'.β d = c.β d) (hν : c'.ν d = c.ν d)
    (hb : ∀ b, c.ow b = .loc d → c'.ow b = .loc d ∧ w'.heap[b]? = w.heap[b]?) {o : LObj} (h : LRel c w d o) : LRel c' w' d o := by
  cases o with
  | cells cs t =>
    obtain ⟨h0, vs, h1, h2⟩ := h
    unfold LRel
    rw [hβ]
    exact ⟨(hb _ h0).1, vs, (hb _ h0).2.trans h1, h2.keep hk⟩
  | arr nl cs n e sz =>
    obtain ⟨h0, h1, h2, vs, h3, h4⟩ := h
    unfold LRel
    rw [hβ, hν]
    exact ⟨fun b hh => ⟨(hb b (h0 b hh).1).1, (h0 b hh).2⟩, h1, h2, vs, ownsRow_same h3 (fun b hh => (hb b (h0 b hh).1).2), h4.keep hk⟩

theorem MRel.upd {c c' : Cx} {L L' : List (Nat × LObj)} {H H' : AHeap} {w w' : World} (h : MRel c L H w) (hk : Keep c.I c'.I w w')
    (hlt : ∀ b, c'.ow b ≠ .free → b < w'.heap.size)
    (hl : ∀ d o, get L' d = some o → LRel c' w' d o ∨ (get L d = some o ∧ c'.β d = c.β d ∧ c'.ν d = c.ν d ∧ ∀ b, c.ow b = .loc d → c'.ow b = .loc d ∧ w'.heap[b]? = w.heap[b]?))
    (hh : ∀ b o, H' b = some o → (c'.ow b = .hp ∧ HRel c'.I w' b o) ∨ (H b = some o ∧ (c.ow b = .hp → c'.ow b = .hp ∧ w'.heap[b]? = w.heap[b]?))) : MRel c' L' H' w' where
  loc d o ho := by
    rcases hl d o ho with h1 | ⟨h1, h2, h3, h4⟩
    · exact h1
    · exact (h.loc d o h1).keep hk h2 h3 h4
  hp b o ho := by
    rcases hh b o ho with h1 | ⟨h1, h2⟩
    · exact h1
    · obtain ⟨h3, h4⟩ := h.hp b o h1
      exact ⟨(h2 h3).1, h4.keep hk (h2 h3).2⟩
  lt := hlt

theorem RS.keep {c c' : Cx} {w w' : World} (hk : Keep c.I c'.I w w') {s : SV} {v : Value} (hd : ∀ d, s.key = some d → c'.β d = c.β d ∧ c'.ν d = c.ν d) (h : RS c w s v) : RS c' w' s v := by
  cases s with
  | v a => exact RV.keep hk a v h
  | loc d o => simpa [RS, (hd d rfl).1] using h
  | own d => simpa [RS, (hd d rfl).2] using h

theorem ERel.upd {c c' : Cx} {w w' : World} {env : List (Nat × SV)} {t : Array Value} (h : ERel c w env t) (hk : Keep c.I c'.I w w')
    (hd : ∀ x s d, get env x = some s → s.key = some d → c'.β d = c.β d ∧ c'.ν d = c.ν d) : ERel c' w' env t :=
  fun x sv hx => ⟨(h x sv hx).1, (h x sv hx).2.keep hk fun d he => hd x sv d hx he⟩

theorem ERel.same {c c' : Cx} {w w' : World} {env : List (Nat × SV)} {t : Array Value} (h : ERel c w env t) (hk : Keep c.I c'.I w w')
    (hβ : c'.β = c.β) (hν : c'.ν = c.ν) : ERel c' w' env t := h.upd hk fun _ _ _ _ _ => by rw [hβ, hν]; exact ⟨rfl, rfl⟩

/-- forgetting one key, whose block may then be another one -/
theorem ERel.clr {c c' : Cx} {w w' : World} {env : List (Nat × SV)} {t : Array Value} (h : ERel c w env t) (hk : Keep c.I c'.I w w') (d : Nat)
    (hd : ∀ d', d' ≠ d → c'.β d' = c.β d' ∧ c'.ν d' = c.ν d') : ERel c' w' (clr env d) t := by
  intro x sv hx
  rw [get_clr] at hx
  cases hg : get env x with
  | none => rw [hg] at hx; cases hx
  | some s =>
    rw [hg] at hx
    simp only [Option.map_some, Option.some.injEq] at hx
    obtain ⟨h1, h2⟩ := h x s hg
    refine ⟨h1, ?_⟩
    by_cases hs : s.key = some d
    · rw [if_pos hs] at hx
      subst hx
      simp [RS, RV]
    · rw [if_neg hs] at hx
      subst hx
      exact h2.keep hk fun d' he => hd d' (fun e => hs (e ▸ he))

theorem getD_set {t : Array Value} {x y : Nat} {v : Value} (h : y < t.size) : (t.setIfInBounds x v).getD y undef = if x = y then v else t.getD y undef := by
  simp only [Array.getD_eq_getD_getElem?, Array.getElem?_setIfInBounds]
  by_cases e : x = y
  · subst e; simp [h]
  · simp [e]

theorem ERel.put {c : Cx} {w : World} {env : List (Nat × SV)} {t : Array Value} (h : ERel c w env t) {x : Nat} (hx : x < t.size) {s : SV} {v : Value} (hs : RS c w s v) :
    ERel c w (put env x s) (t.setIfInBounds x v) := by
  intro y sv hy
  rw [get_put] at hy
  by_cases e : x = y
  · subst e
    simp only [if_true, Option.some.injEq] at hy
    subst hy
    exact ⟨by simpa using hx, by rw [getD_set hx]; simpa using hs⟩
  · rw [if_neg e] at hy
    obtain ⟨h1, h2⟩ := h y sv hy
    exact ⟨by simpa using h1, by rw [getD_set h1, if_neg e]; exact h2⟩

theorem ERel.dropTop {c : Cx} {w : World} {env : List (Nat × SV)} {t : Array Value} (h : ERel c w env t) (x : Nat) (v : Value) : ERel c w (del env x) (t.setIfInBounds x v) := by
  intro y sv hy
  rw [get_del] at hy
  by_cases e : x = y
  · simp [e] at hy
  · rw [if_neg e] at hy
    obtain ⟨h1, h2⟩ := h y sv hy
    exact ⟨by simpa using h1, by rw [getD_set h1, if_neg e]; exact h2⟩

theorem ERel.sub {c : Cx} {w : World} {env env' : List (Nat × SV)} {t : Array Value} (h : ERel c w env t) (hs : ∀ x sv, get env' x = some sv → get env x = some sv ∨ sv = .v .top ∧ x < t.size) : ERel c w env' t := by
  intro x sv hx
  rcases hs x sv hx with h1 | ⟨rfl, h1⟩
  · exact h x sv h1
  · exact ⟨h1, by simp [RS, RV]⟩

end Go.Proofs.Ytejmcijcdhoogaa.Abs
