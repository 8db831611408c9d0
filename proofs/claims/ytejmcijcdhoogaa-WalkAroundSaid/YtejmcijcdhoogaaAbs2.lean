import Derived.Test.YtejmcijcdhoogaaAbs1
namespace Go.Proofs.Ytejmcijcdhoogaa.Abs
open Go

inductive NK where
  | p | s | m
  deriving DecidableEq, Inhabited

/-- plain kinds that can be compared -/
inductive SK where
  | i | s | b
  deriving DecidableEq, Inhabited

inductive SOp where
  | mv (x : Operand)
  | pick (c a b : Operand)
  | nilc (x : Operand)
  | load (n : Nat) (agg : Bool) (x : Operand)
  | bin (op : BinOp) (t : TypeId) (x y : Operand)
  | beq (neg : Bool) (x y : Operand)
  | eqs (neg : Bool) (l : List (Nat × SK)) (x y : Operand)
  | isnil (k : NK) (neg : Bool) (x : Operand)
  | un (op : UnOp) (x : Operand)
  | cnv (k : IntKind) (x : Operand)
  | b2s (x : Operand)
  | fld (off : Nat) (x : Operand)
  | prt (off n : Nat) (agg : Bool) (x : Operand)
  | ia (arr : Option Nat) (sz : Nat) (x i : Operand)
  | ixs (x i : Operand)
  | ixa (len sz : Nat) (agg : Bool) (x i : Operand)
  | ext (x : Operand) (i : Nat)
  | len (str : Bool) (x : Operand)
  | build (z : List Value) (parts : List (Nat × Nat × Operand))
  | mkfn (f : Fn) (first cap : List Operand)
  | slc (sz : Option Nat) (x : Operand) (lo hi mx : Option Operand)
  | mnx (mx : Bool) (x y : Operand)
  | cap (x : Operand)
  -- the code never comes to it
  | halt
  | lk (kd : KD) (z : Value) (ok : Bool) (x k : Operand)
  -- these change the state
  | bsl (e sz : Nat) (z : List Value) (len : Nat) (parts : List (Nat × Nat × Operand))
  | alloc (t : TypeId) (z : List Value)
  | box (t : TypeId) (x : Operand)
  | store (n : Nat) (x y : Operand)
  | mksl (e sz bytes : Nat) (z : List Value) (len cap : Operand)
  | app (t e sz bytes : Nat) (z : Value) (x y : Operand)
  -- so many zeros are appended to nothing
  | appz (t e sz bytes : Nat) (z : List Value) (x y : Operand)
  | call (f : FuncId) (args : List Operand)
  | cald (f : Operand) (args : List Operand)
  | mkmap (kd : KD)
  | mset (kd : KD) (x k v : Operand)
  -- a note: what is made here lies on the heap from the start
  | hp (op : SOp)
  -- a note: what is made here is the function's own
  | ow (op : SOp)
  deriving Inhabited

def SOp.strip : SOp → SOp
  | .hp op => op
  | op => op
def SOp.erase : SOp → SOp
  | .hp op => op.strip
  | .ow op => op
  | op => op

structure Stmt where
  dst : Option Nat
  guard : Option (Nat × Bool)
  op : SOp
  deriving Inhabited

def Stmt.erase (st : Stmt) : Stmt := { st with op := st.op.erase }

inductive SCode where
  | skip
  | reg (lv : List Nat) (ops : List Stmt)
  | draw (lv : List Nat) (ops : List Stmt)
  | seq (a b : SCode)
  | cond (c : Operand) (x y : SCode)
  | block (id : Nat) (c : SCode)
  | loop (lv : List Nat) (th : List (Nat × Nat × Nat × Nat)) (c : SCode)
  | exit (id : Nat)
  | scope (c : SCode)
  | label (lv : List Nat) (th : List (Nat × Nat × Nat × Nat)) (l : Nat)
  | goto (l : Nat)
  | ret
  -- a note: what these slots hold is read only from here on
  | fz (xs : List Nat) (c : SCode)
  deriving Inhabited

def tsz (P : Program) (t : TypeId) : Option Nat := (P.info? t).map (·.size)
def tby (P : Program) (t : TypeId) : Option Nat := (P.info? t).map (·.bytes)
def tag (P : Program) (t : TypeId) : Option Bool := (P.underlying t).map fun | .struct _ => true | .array _ _ => true | _ => false
def tzv (P : Program) (t : TypeId) : Option Value := (P.info? t).bind (·.zero)
def tz (P : Program) (t : TypeId) : Option (List Value) := (tzv P t).map (·.cells.toList)

def parts? (P : Program) (t : TypeId) (ps : List (Nat × Operand)) : Option (List (Nat × Nat × Operand)) :=
  match P.underlying t with
  | some (.struct fs) => if (fs.toList.all fun f => (tsz P f.type).isSome) then ps.mapM fun (i, x) => do
      let f ← fs[i]?
      let n ← tsz P f.type
      pure (f.offset, n, x) else none
  | some (.array _ e) => (tsz P e).bind fun n => ps.mapM fun (i, x) => some (i * n, n, x)
  | _ => none

/-- what came later -/
def xcall (P : Program) (c : Call) : Option SOp :=
  match c.callee, c.args.toList, c.argTypes.toList with
  | .builtin .cap, [x], [t] => match P.underlying t with
    | some (.slice _) => some (.cap x)
    | _ => none
  | .builtin .append, [x, y], [t, u] => match P.underlying u, P.underlying t with
    | some (.int _), some (.slice e) => match tsz P e, tby P e, tz P e with
      | some sz, some by_, some z => if z.length = sz ∧ 0 < sz then some (.appz t e sz by_ z x y) else none
      | _, _, _ => none
    | _, _ => none
  | _, _, _ => none
def SOp.isX : SOp → Bool
  | .cap _ => true
  | .appz _ _ _ _ _ _ _ => true
  | _ => false
theorem xcall_spec {P : Program} {c : Call} {op : SOp} (h : xcall P c = some op) :
    (∃ x t e, c.callee = .builtin .cap ∧ c.args.toList = [x] ∧ c.argTypes.toList = [t] ∧ P.underlying t = some (.slice e) ∧ op = .cap x) ∨
    (∃ x y t u k e sz by_ z, c.callee = .builtin .append ∧ c.args.toList = [x, y] ∧ c.argTypes.toList = [t, u] ∧ P.underlying u = some (.int k) ∧ P.underlying t = some (.slice e) ∧ tsz P e = some sz ∧ tby P e = some by_ ∧ tz P e = some z ∧ z.length = sz ∧ 0 < sz ∧ op = .appz t e sz by_ z x y) := by
  unfold xcall at h
  split at h
  · rename_i x t h1 h2 h3
    split at h
    · rename_i e hu
      simp only [Option.some.injEq] at h
      exact .inl ⟨x, t, e, h1, h2, h3, hu, h.symm⟩
    · cases h
  · rename_i x y t u h1 h2 h3
    split at h
    · rename_i k e hu ht
      split at h
      · rename_i sz by_ z hs hb hz
        split at h
        · rename_i hc
          simp only [Option.some.injEq] at h
          exact .inr ⟨x, y, t, u, k, e, sz, by_, z, h1, h2, h3, hu, ht, hs, hb, hz, hc.1, hc.2, h.symm⟩
        · cases h
      · cases h
    · cases h
  · cases h
def callOf0 (P : Program) (c : Call) : Option SOp :=
  match c.callee, c.args.toList, c.argTypes.toList with
  | .value (.func f), args, _ => match P.funcs[f]? with
    | some fn => if fn.name == "runtime.NumGoroutine" || fn.body.isNone then none else some (.call f args)
    | none => none
  | .value (.tmp t), args, _ => some (.cald (.tmp t) args)
  | .builtin .len, [x], [t] => match P.underlying t with
    | some .string => some (.len true x)
    | some (.slice _) => some (.len false x)
    | _ => none
  | .builtin .min, [x, y], _ => some (.mnx false x y)
  | .builtin .max, [x, y], _ => some (.mnx true x y)
  | .builtin .append, [x, y], [t, u] => if t = u then do
      let .slice e ← P.underlying t | none
      let sz ← tsz P e
      let by_ ← tby P e
      let z ← tzv P e
      if z.cells.size = sz ∧ 0 < sz then some (.app t e sz by_ z x y) else none
      else none
  | _, _, _ => none

def callOf (P : Program) (c : Call) : Option SOp :=
  match xcall P c with
  | some op => some op
  | none => callOf0 P c
theorem callOf_old {P : Program} {c : Call} {op : SOp} (h : callOf P c = some op) (hx : op.isX = false) : callOf0 P c = some op := by
  unfold callOf at h
  split at h
  · rename_i op' hq
    injection h with h
    subst h
    rcases xcall_spec hq with ⟨_, _, _, _, _, _, _, rfl⟩ | ⟨_, _, _, _, _, _, _, _, _, _, _, _, _, _, _, _, _, _, _, rfl⟩
    · cases hx
    · cases hx
  · exact h

/-- plain types -/
def skOf (P : Program) (t : TypeId) : Option SK :=
  match P.underlying t with
  | some (.int _) => some .i
  | some .string => some .s
  | some .bool => some .b
  | _ => none
/-- a plain type, or a struct of such (also of structs): where its parts lie -/
def eqFlat (P : Program) : Nat → TypeId → Option (List (Nat × SK))
  | 0, t => (skOf P t).map fun k => [(0, k)]
  | d + 1, t => match skOf P t with
    | some k => some [(0, k)]
    | none => match P.underlying t, tsz P t with
      | some (.struct fs), some n => if P.stoodInHeld t || fs.toList.any (fun f => f.name == "_") then none else
        match fs.toList.mapM fun f => (eqFlat P d f.type).map fun l => l.map fun p => (f.offset + p.1, p.2) with
        | some ls => if ls.flatten.all (fun p => decide (p.1 < n)) then some ls.flatten else none
        | none => none
      | _, _ => none
/-- structs and arrays of plain parts: where the parts lie -/
def eqOffs (P : Program) (t : TypeId) : Option (List (Nat × SK)) :=
  match P.underlying t with
  | some (.struct fs) => if P.stoodInHeld t || P.eqGuardType P.depth t || fs.toList.any (fun f => f.name == "_") then none else (fs.toList.mapM fun f => (eqFlat P 2 f.type).map fun l => l.map fun p => (f.offset + p.1, p.2)).map List.flatten
  | some (.array n e) => if P.eqGuardType P.depth t || tsz P e != some 1 then none else (skOf P e).map fun k => (List.range n).map fun i => (i, k)
  | _ => none
/-- the kind of a map's keys -/
def kdOf (P : Program) (k : TypeId) : Option KD :=
  match P.underlying k with
  | some (.int q) => some (.i q)
  | some .string => some .s
  | some (.array n e) => match P.underlying e with
    | some (.int q) => if tsz P e = some 1 then some (.a n q) else none
    | _ => none
  | _ => none
def binOf (P : Program) (op : BinOp) (t : TypeId) (x y : Operand) : Option SOp :=
  match op with
  | .eql => (eqOffs P t).map fun l => .eqs false l x y
  | .neq => (eqOffs P t).map fun l => .eqs true l x y
  | _ => none

def opOf (P : Program) (o : Oper) : Option SOp :=
  match o.op with
  | .move x => some (.mv x)
  | .assign x => some (.mv x)
  | .pick c a b => some (.pick c a b)
  | .nilCheck x => some (.nilc x)
  | .load t x => do some (.load (← tsz P t) (← tag P t) x)
  | .binOp op t x y _ => match binOf P op t x y with
   | some so => some so
   | none => match op, P.underlying t, x, y with
    | .eql, some (.pointer _), x, .const (.pointer none) => some (.isnil .p false x)
    | .neq, some (.pointer _), x, .const (.pointer none) => some (.isnil .p true x)
    | .eql, some (.slice _), x, .const (.slice none _ _) => some (.isnil .s false x)
    | .neq, some (.slice _), x, .const (.slice none _ _) => some (.isnil .s true x)
    | .eql, some (.map _ _), x, .const (.map none) => some (.isnil .m false x)
    | .neq, some (.map _ _), x, .const (.map none) => some (.isnil .m true x)
    | .eql, some .bool, x, y => some (.beq false x y)
    | .neq, some .bool, x, y => some (.beq true x y)
    | op, _, x, y => some (.bin op t x y)
  | .unOp op _ x => some (.un op x)
  | .convert s t x => match P.underlying s, P.underlying t with
    | some _, some (.int k) => some (.cnv k x)
    | some (.slice e), some .string => match P.underlying e with
      | some (.int .u8) => some (.b2s x)
      | _ => none
    | _, _ => none
  | .fieldAddr t x f => do
      let .struct fs ← P.underlying t | none
      let f ← fs[f]?
      let n ← tsz P f.type
      if n = 0 then none else some (.fld f.offset x)
  | .field t x f => do
      let .struct fs ← P.underlying t | none
      let f ← fs[f]?
      some (.prt f.offset (← tsz P f.type) (← tag P f.type) x)
  | .indexAddr t x i => match P.underlying t with
    | some (.array n e) => do some (.ia (some n) (← tsz P e) x i)
    | some (.slice e) => do some (.ia none (← tsz P e) x i)
    | _ => none
  | .index t x i => match P.underlying t with
    | some (.array n e) => do some (.ixa n (← tsz P e) (← tag P e) x i)
    | some .string => some (.ixs x i)
    | _ => none
  | .extract x i => some (.ext x i)
  | .build t ps => do some (.build (← tz P t) (← parts? P t ps.toList))
  | .makeFunc f xs ys => some (.mkfn f xs.toList ys.toList)
  | .slice t x lo hi mx => match P.underlying t with
    | some .string => if mx.isSome then none else some (.slc none x lo hi mx)
    | some (.slice e) => if mx.isSome && hi.isNone then none else do some (.slc (some (← tsz P e)) x lo hi mx)
    | _ => none
  | .buildSlice t n ps => do
      let .slice e ← P.underlying t | none
      let sz ← tsz P e
      if n * sz > 2 ^ 24 then none else
      let z ← tz P e
      let qs := ps.toList.map fun (i, x) => (i * sz, sz, x)
      some (.bsl e sz z n qs)
  | .alloc t => do some (.alloc t (← tz P t))
  | .box t x => some (.box t x)
  | .store t x y => do some (.store (← tsz P t) x y)
  | .makeSlice t l c => do
      let .slice e ← P.underlying t | none
      let sz ← tsz P e
      let by_ ← tby P e
      let z ← tz P e
      if z.length = sz ∧ 0 < sz then some (.mksl e sz by_ z l c) else none
  | .makeMap t r => if r.isSome then none else match P.underlying t with
    | some (.map k _) => (kdOf P k).map .mkmap
    | _ => none
  | .lookup t x i ok => match P.underlying t with
    | some (.map k e) => do some (.lk (← kdOf P k) (← tzv P e) ok x i)
    | _ => none
  | .mapUpdate t m k x => match P.underlying t with
    | some (.map kt _) => (kdOf P kt).map fun kd => .mset kd m k x
    | _ => none
  | .insert t m k x => match P.underlying t with
    | some (.map kt _) => (kdOf P kt).map fun kd => .mset kd m k x
    | _ => none
  | .call c => callOf P c
  | .panic _ => some .halt
  | .makeInterface .. => some .halt
  | _ => none

def stmtOf (P : Program) (ops : Array Oper) (o : Oper) : Option Stmt := do
  let op ← opOf P o
  match o.guard with
  | none => some ⟨o.dst, none, op⟩
  | some (j, b) => do
    let g ← ops[j]?
    let d ← g.dst
    some ⟨o.dst, some (d, b), op⟩

def codeOf (P : Program) : Code → Option SCode
  | .skip => some .skip
  | .region _ ops false => do some (.reg [] (← ops.toList.mapM (stmtOf P ops)))
  | .region _ ops true => do some (.draw [] (← ops.toList.mapM (stmtOf P ops)))
  | .seq a b => do some (.seq (← codeOf P a) (← codeOf P b))
  | .cond c x y => do some (.cond c (← codeOf P x) (← codeOf P y))
  | .block i c => do some (.block i (← codeOf P c))
  | .loop c => do some (.loop [] [] (← codeOf P c))
  | .exit i => some (.exit i)
  | .scope c => do some (.scope (← codeOf P c))
  | .label l => some (.label [] [] l)
  | .goto l => some (.goto l)
  | .ret => some .ret
  | _ => none

/-- the code without the notes on what is still wanted -/
def SCode.erase : SCode → SCode
  | .reg _ l => .reg [] (l.map Stmt.erase)
  | .draw _ l => .draw [] (l.map Stmt.erase)
  | .loop _ _ c => .loop [] [] c.erase
  | .seq a b => .seq a.erase b.erase
  | .cond c x y => .cond c x.erase y.erase
  | .block i c => .block i c.erase
  | .scope c => .scope c.erase
  | .label _ _ l => .label [] [] l
  | .fz _ c => c.erase
  | c => c

def SCode.core : SCode → SCode
  | .fz _ c => c.core
  | c => c
/-- is there a label to which one can jump? -/
def SCode.hasL : SCode → Nat → Bool
  | .seq a b, l => a.hasL l || b.hasL l
  | .label _ _ l', l => l' == l
  | .fz _ c, l => c.hasL l
  | _, _ => false
/-- the code from a label on -/
def SCode.findL : SCode → Nat → Option SCode
  | .seq a b, l => match a.findL l with
    | some rest => some (.seq rest b)
    | none => b.findL l
  | .label lv th l', l => if l' = l then some (.label lv th l') else none
  | .fz _ c, l => c.findL l
  | _, _ => none
def SCode.isFz : SCode → Bool
  | .fz _ _ => true
  | _ => false

/-! ### what the operands are -/
def cAV : Value → AV
  | .agg vs => .agg (vs.toList.map .raw)
  | .tuple vs => .tup (vs.toList.map .raw)
  | .slice none 0 0 => .vec true [] 0
  | v => .raw v

def oval (env : List (Nat × SV)) : Operand → SV
  | .tmp t => (get env t).getD (.v .top)
  | .const v => .v (cAV v)
  | .global g => .v (.raw (.pointer (some ⟨g, 0, none⟩)))
  | .func f => .v (.raw (.func (.func f) #[] #[]))

def toAV : SV → Option AV
  | .v a => some a
  | _ => none

def scalar2 : BinOp → Value → Value → Option Value
  | .shl, .int k a, .int _ b => if b < 0 then none else some (.int k (k.wrap (a * 2 ^ min b.toNat k.bits)))
  | .shr, .int k a, .int _ b => if b < 0 then none else some (.int k (a.fdiv (2 ^ min b.toNat k.bits)))
  | op, .int k a, .int k' b => if k ≠ k' then none else match op with
    | .add => some (.int k (k.wrap (a + b)))
    | .sub => some (.int k (k.wrap (a - b)))
    | .mul => some (.int k (k.wrap (a * b)))
    | .quo => if b = 0 then none else some (.int k (k.wrap (a.tdiv b)))
    | .rem => if b = 0 then none else some (.int k (a.tmod b))
    | .and => some (.int k (k.wrap (BitVec.ofInt k.bits a &&& BitVec.ofInt k.bits b).toNat))
    | .or => some (.int k (k.wrap (BitVec.ofInt k.bits a ||| BitVec.ofInt k.bits b).toNat))
    | .xor => some (.int k (k.wrap (BitVec.ofInt k.bits a ^^^ BitVec.ofInt k.bits b).toNat))
    | .eql => some (.bool (a == b))
    | .neq => some (.bool (a != b))
    | .lss => some (.bool (a < b))
    | .leq => some (.bool (a ≤ b))
    | .gtr => some (.bool (a > b))
    | .geq => some (.bool (a ≥ b))
    | _ => none
  | .eql, .string a, .string b => some (.bool (a.toList == b.toList))
  | .neq, .string a, .string b => some (.bool (!(a.toList == b.toList)))
  | .add, .string a, .string b => if ((a.size + b.size : Nat) : Int) > IntKind.i64.max then none else some (.string (a ++ b))
  | _, _, _ => none

theorem eqGuard_ok {P : Program} (op : BinOp) (t : TypeId) (X Y : Operand) {x y : Value} (h1 : ¬(x = .nilIface ∧ y = .nilIface)) (h2 : ∀ a b, ¬(x = .agg a ∧ y = .agg b)) (w : World) :
    (eqGuard op t X Y x y).run P w = .ok () w := by
  unfold eqGuard
  split
  · rw [Sem.run_ite]
    split
    · rfl
    · cases x <;> cases y <;> first
        | rfl
        | exact absurd ⟨rfl, rfl⟩ h1
        | exact absurd ⟨rfl, rfl⟩ (h2 _ _)
  · rw [Sem.run_ite]
    split
    · rfl
    · cases x <;> cases y <;> first
        | rfl
        | exact absurd ⟨rfl, rfl⟩ h1
        | exact absurd ⟨rfl, rfl⟩ (h2 _ _)
  · rfl

theorem scalar2_run {P : Program} {op : BinOp} {t : TypeId} {x y v : Value} (h : scalar2 op x y = some v) (w : World) (X Y : Operand) :
    (do eqGuard op t X Y x y; binOp op t x y).run P w = .ok v w := by
  have hg : (eqGuard op t X Y x y).run P w = .ok () w := by
    refine eqGuard_ok op t X Y ?_ ?_ w
    · rintro ⟨rfl, rfl⟩
      cases op <;> simp [scalar2] at h
    · rintro a b ⟨rfl, rfl⟩
      cases op <;> simp [scalar2] at h
  rw [Sem.run_bind, hg, Result.andThen_ok]
  cases x <;> cases y <;> cases op <;> simp only [scalar2] at h <;> first
    | (cases h; done)
    | (simp only [binOp]
       repeat' split at h
       all_goals first
        | (cases h; done)
        | (simp only [Option.some.injEq] at h; subst h; simp_all [Op.intArith, Op.intDiv, Op.intBits, Op.intCmp, Op.shift, Op.stringOp]; done)
        | (simp only [Option.some.injEq] at h; subst h; unfold Op.shift; rw [if_neg (by assumption)]; rfl))

end Go.Proofs.Ytejmcijcdhoogaa.Abs
