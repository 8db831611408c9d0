import Derived.Test.YtejmcijcdhoogaaAbs3
namespace Go.Proofs.Ytejmcijcdhoogaa.Abs
open Go

theorem cAV_rv (I : Nat → Prop) (w : World) (v : Value) : RV I w (cAV v) v := by
  unfold cAV
  split
  · simp only [RV]; exact ⟨_, rfl, RL_raw I w _⟩
  · simp only [RV]; exact ⟨_, rfl, RL_raw I w _⟩
  · simp only [RV]; exact ⟨none, 0, rfl, Nat.le_refl _, by simp [maxLen], by simp, by simp, by simp, by simp⟩
  · simp [RV]

theorem oval_rs {c : Cx} {w : World} {env : List (Nat × SV)} {a : Act} (h : ERel c w env a.tmps) (x : Operand) : RS c w (oval env x) (a.eval x) := by
  cases x with
  | tmp t =>
    simp only [oval, Act.eval]
    cases hg : get env t with
    | none => simp [RS, RV]
    | some s => simpa using (h t s hg).2
  | const v => exact cAV_rv _ _ v
  | global g => simp [oval, Act.eval, RS, RV]
  | func f => simp [oval, Act.eval, RS, RV]

def acells : AV → Option (List AV)
  | .agg cs => some cs
  | .top => none
  | .tup _ => none
  | .raw v => if v.oneCell' then some [.raw v] else none
  | a => some [a]

theorem acells_sound {I : Nat → Prop} {w : World} {a : AV} {v : Value} (h : RV I w a v) {cs : List AV} (hc : acells a = some cs) : RL I w cs v.cells.toList := by
  cases a with
  | agg cs' =>
    simp only [acells, Option.some.injEq] at hc; subst hc
    simp only [RV] at h
    obtain ⟨vs, rfl, h⟩ := h
    simpa [Value.cells] using h
  | top => simp [acells] at hc
  | tup _ => simp [acells] at hc
  | raw u =>
    simp only [acells] at hc
    split at hc
    · rename_i h1
      simp only [Option.some.injEq] at hc; subst hc
      have h0 := h
      simp only [RV] at h; subst h
      have : v.cells = #[v] := by cases v <;> first | rfl | (simp [Value.oneCell'] at h1)
      rw [this]
      simp only [RL]
      exact ⟨v, [], rfl, h0, rfl⟩
    · cases hc
  | box cs' o =>
    simp only [acells, Option.some.injEq] at hc; subst hc
    have h0 := h
    simp only [RV] at h
    obtain ⟨b, s, rfl, _⟩ := h
    simp only [RL]
    exact ⟨_, [], rfl, h0, rfl⟩
  | vec nl cs' n =>
    simp only [acells, Option.some.injEq] at hc; subst hc
    have h0 := h
    simp only [RV] at h
    obtain ⟨b, s, rfl, _⟩ := h
    simp only [RL]
    exact ⟨_, [], rfl, h0, rfl⟩
  | fn f xs ys =>
    simp only [acells, Option.some.injEq] at hc; subst hc
    have h0 := h
    simp only [RV] at h
    obtain ⟨b, s, rfl, _⟩ := h
    simp only [RL]
    exact ⟨_, [], rfl, h0, rfl⟩
  | ifc t x =>
    simp only [acells, Option.some.injEq] at hc; subst hc
    have h0 := h
    simp only [RV] at h
    obtain ⟨b, rfl, _⟩ := h
    simp only [RL]
    exact ⟨_, [], rfl, h0, rfl⟩

/-- values that may stand in one cell -/
def aone : AV → Bool
  | .agg _ => false
  | .top => false
  | .tup _ => false
  | .raw v => v.oneCell'
  | _ => true
theorem aone_sound {I : Nat → Prop} {w : World} {a : AV} {v : Value} (h : RV I w a v) (hc : aone a = true) : v.oneCell' = true := by
  cases a <;> simp only [aone, RV] at h hc
  all_goals first
    | (cases hc; done)
    | (subst h; exact hc)
    | (obtain ⟨b, s, rfl, _⟩ := h; rfl)
    | (obtain ⟨b, rfl, _⟩ := h; rfl)

/-- parts laid into a row of cells -/
def fillA (cs : List AV) : List (Nat × Nat × AV) → Option (List AV)
  | [] => some cs
  | (off, n, a) :: r => match acells a with
    | some ds => if ds.length = n ∧ off + n ≤ cs.length then fillA (cs.take off ++ ds ++ cs.drop (off + n)) r else none
    | none => none

def isnilq (L : List (Nat × LObj)) : NK → SV → Option Bool
  | .p, .loc _ _ => some false
  | .s, .own d => match get L d with
    | some (.arr nl _ _ _ _) => some nl
    | _ => none
  | .p, .v (.box _ _) => some false
  | .s, .v (.vec nl _ _) => some nl
  | .p, .v (.raw (.pointer none)) => some true
  | .p, .v (.raw (.pointer (some _))) => some false
  | .m, .v (.raw (.map none)) => some true
  | .m, .v (.raw (.map (some _))) => some false
  | .s, .v (.raw (.slice (some _) _ _)) => some false
  | .s, .v (.raw (.slice none _ _)) => some true
  | _, _ => none

def fldq (off : Nat) : SV → Option SV
  | .loc d o => some (.loc d (o + off))
  | .v (.box cs o) => some (.v (.box cs (o + off)))
  | .v (.raw (.pointer (some ⟨b, o, none⟩))) => some (.v (.raw (.pointer (some ⟨b, o + off, none⟩))))
  | _ => none

def iaq (L : List (Nat × LObj)) (sz : Nat) (i : Int) : SV → Option SV
  | .own d => match get L d with
    | some (.arr _ _ n _ _) => if 0 ≤ i ∧ i < n then some (.loc d (i.toNat * sz)) else none
    | _ => none
  | .v (.vec _ cs n) => if 0 ≤ i ∧ i < n then some (.v (.box cs (i.toNat * sz))) else none
  | .v (.raw (.slice (some ⟨b, o, none⟩) n _)) => if 0 ≤ i ∧ i < n then some (.v (.raw (.pointer (some ⟨b, o + i.toNat * sz, none⟩)))) else none
  | _ => none

def lenq (L : List (Nat × LObj)) : Bool → SV → Option Nat
  | false, .own d => match get L d with
    | some (.arr _ _ n _ _) => some n
    | _ => none
  | false, .v (.vec _ _ n) => some n
  | false, .v (.raw (.slice _ n _)) => some n
  | true, .v (.raw (.string s)) => some s.size
  | _, _ => none

def ointq : Option SV → Option (Option Int)
  | none => some none
  | some (.v (.raw (.int _ n))) => some (some n)
  | _ => none

def slcq (sz : Nat) (lo hi mx : Option Int) : SV → Option SV
  | .v (.vec nl cs n) =>
    let h := hi.getD n
    let l := lo.getD 0
    let m := mx.getD h
    if 0 ≤ l ∧ l ≤ h ∧ h ≤ m ∧ m ≤ n ∧ 0 < sz ∧ (n : Int) * sz ≤ cs.length then some (.v (.vec nl ((cs.drop (l.toNat * sz)).take ((h.toNat - l.toNat) * sz)) (h.toNat - l.toNat))) else none
  | .v (.raw (.slice (some ⟨b, o, none⟩) n cap)) =>
    let h := hi.getD n
    let l := lo.getD 0
    let m := mx.getD cap
    if 0 ≤ l ∧ l ≤ h ∧ h ≤ m ∧ m ≤ cap then
      if m = l then some (.v (.raw (.slice (some ⟨b, o, none⟩) (h.toNat - l.toNat) (m.toNat - l.toNat))))
      else some (.v (.raw (.slice (some ⟨b, o + l.toNat * sz, none⟩) (h.toNat - l.toNat) (m.toNat - l.toNat)))) else none
  | _ => none

def slsq (lo hi : Option Int) : SV → Option SV
  | .v (.raw (.string s)) =>
    let h := hi.getD s.size
    let l := lo.getD 0
    if 0 ≤ l ∧ l ≤ h ∧ h ≤ s.size then some (.v (.raw (.string (s.extract l.toNat h.toNat)))) else none
  | _ => none

def unq : UnOp → SV → Option SV
  | .not, .v (.raw (.bool b)) => some (.v (.raw (.bool !b)))
  | .neg, .v (.raw (.int k n)) => some (.v (.raw (.int k (k.wrap (0 - n)))))
  | _, _ => none

def mnxq (mx : Bool) : SV → SV → Option SV
  | .v (.raw (.int k x)), .v (.raw (.int _ y)) => some (.v (.raw (.int k (if mx then (if x < y then y else x) else if y < x then y else x))))
  | _, _ => none

def binq (op : BinOp) : SV → SV → Option SV
  | .v (.raw x), .v (.raw y) => (scalar2 op x y).map fun v => .v (.raw v)
  | _, _ => none

def scalEq : SK → AV → AV → Option Bool
  | .i, .raw (.int k a), .raw (.int k' b) => if k = k' then some (decide (a = b)) else none
  | .s, .raw (.string a), .raw (.string b) => some (decide (a = b))
  | .b, .raw (.bool a), .raw (.bool b) => some (decide (a = b))
  | _, _, _ => none
def eqCells (cs ds : List AV) : List (Nat × SK) → Option Bool
  | [] => some true
  | (o, k) :: r => match cs[o]?, ds[o]? with
    | some u, some v => match scalEq k u v, eqCells cs ds r with
      | some a, some b => some (a && b)
      | _, _ => none
    | _, _ => none

def allAV : List SV → Option (List AV)
  | [] => some []
  | s :: r => match s, allAV r with
    | .v a, some l => some (a :: l)
    | _, _ => none

def partsq (e : Operand → SV) : List (Nat × Nat × Operand) → Option (List (Nat × Nat × AV))
  | [] => some []
  | (o, n, x) :: r => match e x, partsq e r with
    | .v a, some l => some ((o, n, a) :: l)
    | _, _ => none

/-- bytes as a string -/
def bytesq : List AV → Option (List UInt8)
  | [] => some []
  | .raw (.int .u8 v) :: r => (bytesq r).map (UInt8.ofNat v.toNat :: ·)
  | _ => none
def b2sq (L : List (Nat × LObj)) (H : AHeap) (s : SV) : Option SV :=
  match lenq L false s with
  | some n => if n = 0 then some (.v (.raw (.string ⟨#[]⟩))) else match iaq L 1 0 s with
    | some s' => match rdA L H s' with
      | some (cs, o) => match bytesq ((cs.drop o).take n) with
        | some bs => if bs.length = n then some (.v (.raw (.string ⟨bs.toArray⟩))) else none
        | none => none
      | none => none
    | none => none
  | none => none

/-! ### maps -/
def intsq (k : IntKind) : List AV → Option (List Int)
  | [] => some []
  | .raw (.int k' n) :: r => if k' = k then (intsq k r).map (n :: ·) else none
  | _ => none
def keyq : KD → AV → Option MK
  | .i k, .raw (.int k' n) => if k' = k then some (.i n) else none
  | .s, .raw (.string b) => some (.s b)
  | .a n k, .agg cs => match intsq k cs with
    | some l => if l.length = n then some (.a l) else none
    | none => none
  | _, _ => none
def mget : List (MK × AV) → MK → Option AV
  | [], _ => none
  | (k', v) :: r, k => if k' = k then some v else mget r k
def mput : List (MK × AV) → MK → AV → List (MK × AV)
  | [], k, v => [(k, v)]
  | (k', u) :: r, k, v => if k' = k then (k, v) :: r else (k', u) :: mput r k v
def lkres (z : Value) (ok : Bool) (o : Option AV) : AV := if ok then .tup [o.getD (cAV z), .raw (.bool o.isSome)] else o.getD (cAV z)
def lkq (H : AHeap) (kd : KD) (z : Value) (ok : Bool) (x k : SV) : Option SV :=
  match k with
  | .v ka => match keyq kd ka with
    | some key => match x with
      | .v (.raw (.map none)) => some (.v (lkres z ok none))
      | .v (.raw (.map (some b))) => match H b with
        | some (.map kd' es) => if kd' = kd then some (.v (lkres z ok (mget es key))) else none
        | _ => none
      | _ => none
    | none => none
  | _ => none

/-- the quiet operations: what they yield -/
def capq : SV → Option Nat
  | .v (.vec true _ _) => some 0
  | .v (.raw (.slice _ _ cap)) => some cap
  | _ => none
def qop (L : List (Nat × LObj)) (H : AHeap) (e : Operand → SV) : SOp → Option SV
  | .mv x => some (e x)
  | .pick c a b => match e c with
    | .v (.raw (.bool t)) => some (if t then e a else e b)
    | _ => none
  | .nilc x => match e x with
    | .loc d o => some (.loc d o)
    | .v (.box cs o) => some (.v (.box cs o))
    | .v (.raw (.pointer (some a))) => some (.v (.raw (.pointer (some a))))
    | _ => none
  | .load n agg x => match rdA L H (e x) with
    | some (cs, o) => (rdV cs o n agg).map .v
    | none => none
  | .bin op _ x y => binq op (e x) (e y)
  | .beq neg x y => match e x, e y with
    | .v (.raw (.bool a)), .v (.raw (.bool b)) => some (.v (.raw (.bool (if neg then !(a == b) else a == b))))
    | _, _ => none
  | .eqs neg l x y => match e x, e y with
    | .v (.agg cs), .v (.agg ds) => (eqCells cs ds l).map fun b => .v (.raw (.bool (if neg then !b else b)))
    | _, _ => none
  | .isnil k neg x => (isnilq L k (e x)).map fun b => .v (.raw (.bool (if neg then !b else b)))
  | .un op x => unq op (e x)
  | .cnv k x => match e x with
    | .v (.raw (.int _ n)) => some (.v (.raw (.int k (k.wrap n))))
    | _ => none
  | .b2s x => b2sq L H (e x)
  | .fld off x => fldq off (e x)
  | .prt off n agg x => match e x with
    | .v (.agg cs) => (rdV cs off n agg).map .v
    | _ => none
  | .ia (some len) sz x i => match e i with
    | .v (.raw (.int _ i)) => if 0 ≤ i ∧ i < len then fldq (i.toNat * sz) (e x) else none
    | _ => none
  | .ia none sz x i => match e i with
    | .v (.raw (.int _ i)) => iaq L sz i (e x)
    | _ => none
  | .ixs x i => match e x, e i with
    | .v (.raw (.string s)), .v (.raw (.int _ i)) => if 0 ≤ i then (s[i.toNat]?).map fun b => .v (.raw (.int .u8 b.toNat)) else none
    | _, _ => none
  | .ixa len sz agg x i => match e x, e i with
    | .v (.agg cs), .v (.raw (.int _ i)) => if 0 ≤ i ∧ i < len then (rdV cs (i.toNat * sz) sz agg).map .v else none
    | _, _ => none
  | .ext x i => match e x with
    | .v (.tup vs) => (vs[i]?).map .v
    | _ => none
  | .len s x => (lenq L s (e x)).map fun (n : Nat) => .v (.raw (.int .i64 (n : Int)))
  | .build z ps => match partsq e ps with
    | some l => (fillA (z.map cAV) l).map fun cs => .v (.agg cs)
    | none => none
  | .mkfn f xs ys => match allAV (xs.map e), allAV (ys.map e) with
    | some us, some vs => some (.v (.fn f us vs))
    | _, _ => none
  | .slc none x lo hi _ => match ointq (lo.map e), ointq (hi.map e) with
    | some l, some h => slsq l h (e x)
    | _, _ => none
  | .slc (some sz) x lo hi mx => match ointq (lo.map e), ointq (hi.map e), ointq (mx.map e) with
    | some l, some h, some m => slcq sz l h m (e x)
    | _, _, _ => none
  | .mnx mx x y => mnxq mx (e x) (e y)
  | .lk kd z ok x k => lkq H kd z ok (e x) (e k)
  | .cap x => (capq (e x)).map fun (n : Nat) => .v (.raw (.int .i64 (n : Int)))
  | _ => none

end Go.Proofs.Ytejmcijcdhoogaa.Abs
