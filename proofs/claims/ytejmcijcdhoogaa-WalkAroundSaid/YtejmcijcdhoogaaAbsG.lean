import Derived.Test.YtejmcijcdhoogaaAbs13
set_option linter.unusedSimpArgs false
set_option linter.unusedVariables false
namespace Go.Proofs.Ytejmcijcdhoogaa.Abs
open Go

/-! ### the evaluator, its continuation as data -/
inductive KI where
  | code (c : SCode)
  | ops (l : List Stmt)
  | qops (l : List Stmt)
  | blk (id : Nat)
  | lp (lv : List Nat) (th : List (Nat × Nat × Nat × Nat)) (c : SCode)
  | scp (c : SCode)

def kont (P : Program) : List KI → (AEx → S → Prop) → AEx → S → Prop
  | [], K => K
  | .code c :: r, K => fun e s => match e with | .normal => AWP P c (kont P r K) s | e => kont P r K e s
  | .ops l :: r, K => fun e s => match e with | .normal => runOps P l s (kont P r K .normal) | e => kont P r K e s
  | .qops l :: r, K => fun e s => match e with | .normal => runQ P l s (kont P r K .normal) | e => kont P r K e s
  | .blk id :: r, K => fun e s => match e with | .exit i => if i = id then kont P r K .normal s else kont P r K (.exit i) s | e => kont P r K e s
  | .lp lv th c :: r, K => fun e s => match e with | .normal => ALoop lv th (AWP P c) (kont P r K) (s.enter lv th) | e => kont P r K e s
  | .scp c :: r, K => scK c.hasL (AScope (AWPL P c) c.hasL (kont P r K)) (kont P r K)

def EX (P : Program) (ks : List KI) (K : AEx → S → Prop) (s : S) : Prop := kont P ks K .normal s
/-- the code leaves to the end of a block -/
def exitK (P : Program) (i : Nat) : List KI → (AEx → S → Prop) → S → Prop
  | [], K, s => K (.exit i) s
  | .blk id :: r, K, s => if i = id then EX P r K s else exitK P i r K s
  | .code _ :: r, K, s => exitK P i r K s
  | .ops _ :: r, K, s => exitK P i r K s
  | .qops _ :: r, K, s => exitK P i r K s
  | .lp _ _ _ :: r, K, s => exitK P i r K s
  | .scp _ :: r, K, s => exitK P i r K s
/-- at a label of a scope -/
def exG (P : Program) (c : SCode) (r : List KI) (K : AEx → S → Prop) (l : Nat) (s : S) : Prop := AScope (AWPL P c) c.hasL (kont P r K) l s
/-- a jump -/
def gotoK (P : Program) (l : Nat) : List KI → (AEx → S → Prop) → S → Prop
  | [], K, s => K (.goto l) s
  | .scp c :: r, K, s => if c.hasL l = true then exG P c r K l s else gotoK P l r K s
  | .blk _ :: r, K, s => gotoK P l r K s
  | .code _ :: r, K, s => gotoK P l r K s
  | .ops _ :: r, K, s => gotoK P l r K s
  | .qops _ :: r, K, s => gotoK P l r K s
  | .lp _ _ _ :: r, K, s => gotoK P l r K s
/-- a decision -/
def exIf (P : Program) (v : SV) (k1 k2 : List KI) (K : AEx → S → Prop) (s : S) : Prop :=
  match v with
  | .v (.raw (.bool b)) => if b = true then EX P k1 K s else EX P k2 K s
  | _ => False
def exGd (P : Program) (v : SV) (g : Nat) (want : Bool) (dst : Option Nat) (op : SOp) (l : List Stmt) (r : List KI) (K : AEx → S → Prop) (s : S) : Prop :=
  match v with
  | .v (.raw (.bool b)) => if b = want then EX P (.ops (⟨dst, none, op⟩ :: l) :: r) K s else EX P (.ops l :: r) K (s.drop dst)
  | .v (.raw (.tuple _)) => EX P (.ops l :: r) K (s.drop dst)
  | _ => False
def exGq (P : Program) (v : SV) (g : Nat) (want : Bool) (dst : Option Nat) (op : SOp) (l : List Stmt) (r : List KI) (K : AEx → S → Prop) (s : S) : Prop :=
  match v with
  | .v (.raw (.bool b)) => if b = want then EX P (.qops (⟨dst, none, op⟩ :: l) :: r) K s else EX P (.qops l :: r) K (s.drop dst)
  | .v (.raw (.tuple _)) => EX P (.qops l :: r) K (s.drop dst)
  | _ => False
/-- what an operation yields -/
def exV (P : Program) (v : Option SV) (dst : Option Nat) (r : List KI) (K : AEx → S → Prop) (s : S) : Prop :=
  match v with
  | some v => EX P r K (s.put dst v)
  | none => False
def exS (P : Program) (v : Option S) (r : List KI) (K : AEx → S → Prop) : Prop :=
  match v with
  | some s => EX P r K s
  | none => False
def exC (P : Program) (f : FuncId) (us : Option (List AV)) (dst : Option Nat) (r : List KI) (K : AEx → S → Prop) (s : S) : Prop :=
  match us with
  | some us => ACalls P f us s.H fun v H' => EX P r K ({ s with H := H' }.put dst (.v v))
  | none => False
def exCq (P : Program) (f : FuncId) (us : Option (List AV)) (dst : Option Nat) (r : List KI) (K : AEx → S → Prop) (s : S) : Prop :=
  match us with
  | some us => ∃ v, ACalls P f us s.H (fun r' H' => r' = v ∧ H' = s.H) ∧ EX P r K (s.put dst (.v v))
  | none => False
def exL (P : Program) (lv : List Nat) (th : List (Nat × Nat × Nat × Nat)) (c : SCode) (r : List KI) (K : AEx → S → Prop) (s : S) : Prop := ALoop lv th (AWP P c) (kont P r K) s

/-- a call that leaves the heap as it is, and its one result -/
def APure (P : Program) (f : FuncId) (us : List AV) (H : AHeap) (v : AV) : Prop := ∀ Q : AV → AHeap → Prop, Q v H → ACalls P f us H Q

section
variable {P : Program} {r : List KI} {K : AEx → S → Prop} {s : S}

theorem kont_exit (i : Nat) : ∀ (r : List KI) (K : AEx → S → Prop) (s : S), kont P r K (.exit i) s = exitK P i r K s
  | [], K, s => rfl
  | .blk id :: r, K, s => by
    simp only [kont, exitK, kont_exit i r]
    rfl
  | .code _ :: r, K, s => by simp only [kont, exitK, kont_exit i r]
  | .ops _ :: r, K, s => by simp only [kont, exitK, kont_exit i r]
  | .qops _ :: r, K, s => by simp only [kont, exitK, kont_exit i r]
  | .lp _ _ _ :: r, K, s => by simp only [kont, exitK, kont_exit i r]
  | .scp _ :: r, K, s => by simp only [kont, scK, exitK, kont_exit i r]
theorem kont_goto (l : Nat) : ∀ (r : List KI) (K : AEx → S → Prop) (s : S), kont P r K (.goto l) s = gotoK P l r K s
  | [], K, s => rfl
  | .blk id :: r, K, s => by simp only [kont, gotoK, kont_goto l r]
  | .code _ :: r, K, s => by simp only [kont, gotoK, kont_goto l r]
  | .ops _ :: r, K, s => by simp only [kont, gotoK, kont_goto l r]
  | .qops _ :: r, K, s => by simp only [kont, gotoK, kont_goto l r]
  | .lp _ _ _ :: r, K, s => by simp only [kont, gotoK, kont_goto l r]
  | .scp _ :: r, K, s => by simp only [kont, scK, gotoK, kont_goto l r, exG]
theorem kont_ret : ∀ (r : List KI) (K : AEx → S → Prop) (s : S), kont P r K .ret s = K .ret s
  | [], K, s => rfl
  | .blk id :: r, K, s => by simp only [kont, kont_ret r]
  | .code _ :: r, K, s => by simp only [kont, kont_ret r]
  | .ops _ :: r, K, s => by simp only [kont, kont_ret r]
  | .qops _ :: r, K, s => by simp only [kont, kont_ret r]
  | .lp _ _ _ :: r, K, s => by simp only [kont, kont_ret r]
  | .scp _ :: r, K, s => by simp only [kont, scK, kont_ret r]

theorem ex_nil : EX P [] K s = K .normal s := rfl
theorem ex_seq {a b : SCode} : EX P (.code (.seq a b) :: r) K s = EX P (.code a :: .code b :: r) K s := by
  show AWP P a _ s = AWP P a _ s
  congr 1
theorem ex_skip : EX P (.code .skip :: r) K s = EX P r K s := rfl
theorem ex_block {id : Nat} {c : SCode} : EX P (.code (.block id c) :: r) K s = EX P (.code c :: .blk id :: r) K s := by
  show AWP P c _ s = AWP P c _ s
  congr 1
theorem ex_blk {id : Nat} : EX P (.blk id :: r) K s = EX P r K s := rfl
theorem ex_reg {lv : List Nat} {l : List Stmt} : EX P (.code (.reg lv l) :: r) K s = EX P (.ops l :: r) K (s.keep lv) := rfl
theorem ex_draw {lv : List Nat} {l : List Stmt} : EX P (.code (.draw lv l) :: r) K s = EX P (.qops l :: r) K (s.keep lv) := rfl
theorem ex_ops : EX P (.ops [] :: r) K s = EX P r K s := rfl
theorem ex_qops : EX P (.qops [] :: r) K s = EX P r K s := rfl
theorem ex_fz {xs : List Nat} {c : SCode} : EX P (.code (.fz xs c) :: r) K s = EX P (.code c :: r) K (s.fzs xs) := rfl
theorem ex_exit {i : Nat} : EX P (.code (.exit i) :: r) K s = exitK P i r K s := kont_exit i r K s
theorem ex_ret : EX P (.code .ret :: r) K s = K .ret s := kont_ret r K s
theorem ex_label {lv : List Nat} {th : List (Nat × Nat × Nat × Nat)} {l : Nat} : EX P (.code (.label lv th l) :: r) K s = EX P r K (s.enter lv th) := rfl
theorem ex_goto {l : Nat} : EX P (.code (.goto l) :: r) K s = gotoK P l r K s := kont_goto l r K s
theorem ex_scope {c : SCode} : EX P (.code (.scope c) :: r) K s = EX P (.code c :: .scp c :: r) K s := rfl
theorem ex_scp {c : SCode} : EX P (.scp c :: r) K s = EX P r K s := rfl
theorem ex_cond {c : Operand} {x y : SCode} : EX P (.code (.cond c x y) :: r) K s = exIf P (oval s.env c) (.code x :: r) (.code y :: r) K s := rfl
theorem ex_loop {lv : List Nat} {th : List (Nat × Nat × Nat × Nat)} {c : SCode} : EX P (.code (.loop lv th c) :: r) K s = exL P lv th c r K (s.enter lv th) := rfl
theorem ex_lp {lv : List Nat} {th : List (Nat × Nat × Nat × Nat)} {c : SCode} : EX P (.lp lv th c :: r) K s = exL P lv th c r K (s.enter lv th) := rfl
theorem exIf_true {k1 k2 : List KI} : exIf P (.v (.raw (.bool true))) k1 k2 K s = EX P k1 K s := by simp [exIf]
theorem exIf_false {k1 k2 : List KI} : exIf P (.v (.raw (.bool false))) k1 k2 K s = EX P k2 K s := by simp [exIf]
theorem exIf_intro {b : Bool} {k1 k2 : List KI} (h1 : b = true → EX P k1 K s) (h2 : b = false → EX P k2 K s) : exIf P (.v (.raw (.bool b))) k1 k2 K s := by
  unfold exIf
  cases b
  · simpa using h2 rfl
  · simpa using h1 rfl
theorem exV_some {v : SV} {dst : Option Nat} : exV P (some v) dst r K s = EX P r K (s.put dst v) := rfl
theorem exS_some : exS P (some s) r K = EX P r K s := rfl

theorem put_self {l : List (Nat × SV)} {x : Nat} {v : SV} (h : get l x = some v) : put l x v = l := by
  induction l with
  | nil => simp [get] at h
  | cons p r ih =>
    obtain ⟨y, b⟩ := p
    simp only [get] at h
    simp only [put]
    split at h
    · rename_i e
      simp only [Option.some.injEq] at h
      simp [e, h]
    · rename_i e
      simp [e, ih h]

variable {dst : Option Nat} {l : List Stmt} {g : Nat} {want : Bool} {op : SOp}
theorem ex_gd : EX P (.ops (⟨dst, some (g, want), op⟩ :: l) :: r) K s = exGd P (oval s.env (.tmp g)) g want dst op l r K s := rfl
theorem ex_gq : EX P (.qops (⟨dst, some (g, want), op⟩ :: l) :: r) K s = exGq P (oval s.env (.tmp g)) g want dst op l r K s := rfl
theorem exGd_tt : exGd P (.v (.raw (.bool true))) g true dst op l r K s = EX P (.ops (⟨dst, none, op⟩ :: l) :: r) K s := by simp [exGd]
theorem exGd_ff : exGd P (.v (.raw (.bool false))) g false dst op l r K s = EX P (.ops (⟨dst, none, op⟩ :: l) :: r) K s := by simp [exGd]
theorem exGd_tf : exGd P (.v (.raw (.bool true))) g false dst op l r K s = EX P (.ops l :: r) K (s.drop dst) := by simp [exGd]
theorem exGd_ft : exGd P (.v (.raw (.bool false))) g true dst op l r K s = EX P (.ops l :: r) K (s.drop dst) := by simp [exGd]
theorem exGd_u {vs : Array Value} : exGd P (.v (.raw (.tuple vs))) g want dst op l r K s = EX P (.ops l :: r) K (s.drop dst) := rfl
theorem exGq_u {vs : Array Value} : exGq P (.v (.raw (.tuple vs))) g want dst op l r K s = EX P (.qops l :: r) K (s.drop dst) := rfl
theorem exGq_tt : exGq P (.v (.raw (.bool true))) g true dst op l r K s = EX P (.qops (⟨dst, none, op⟩ :: l) :: r) K s := by simp [exGq]
theorem exGq_ff : exGq P (.v (.raw (.bool false))) g false dst op l r K s = EX P (.qops (⟨dst, none, op⟩ :: l) :: r) K s := by simp [exGq]
theorem exGq_tf : exGq P (.v (.raw (.bool true))) g false dst op l r K s = EX P (.qops l :: r) K (s.drop dst) := by simp [exGq]
theorem exGq_ft : exGq P (.v (.raw (.bool false))) g true dst op l r K s = EX P (.qops l :: r) K (s.drop dst) := by simp [exGq]

/-- a guard that is not known: both ways, the slot known -/
theorem exGd_intro {b : Bool} (he : get s.env g = some (.v (.raw (.bool b))))
    (h1 : b = true → exGd P (.v (.raw (.bool true))) g want dst op l r K { s with env := put s.env g (.v (.raw (.bool true))) })
    (h2 : b = false → exGd P (.v (.raw (.bool false))) g want dst op l r K { s with env := put s.env g (.v (.raw (.bool false))) }) : exGd P (.v (.raw (.bool b))) g want dst op l r K s := by
  cases b
  · have := h2 rfl
    rwa [put_self he] at this
  · have := h1 rfl
    rwa [put_self he] at this
theorem exGq_intro {b : Bool} (he : get s.env g = some (.v (.raw (.bool b))))
    (h1 : b = true → exGq P (.v (.raw (.bool true))) g want dst op l r K { s with env := put s.env g (.v (.raw (.bool true))) })
    (h2 : b = false → exGq P (.v (.raw (.bool false))) g want dst op l r K { s with env := put s.env g (.v (.raw (.bool false))) }) : exGq P (.v (.raw (.bool b))) g want dst op l r K s := by
  cases b
  · have := h2 rfl
    rwa [put_self he] at this
  · have := h1 rfl
    rwa [put_self he] at this

theorem exC_pure {f : FuncId} {us : List AV} {v : AV} (h : APure P f us s.H v) (k : EX P r K (s.put dst (.v v))) : exC P f (some us) dst r K s := by
  refine h _ ?_
  exact k
theorem exCq_pure {f : FuncId} {us : List AV} {v : AV} (h : APure P f us s.H v) (k : EX P r K (s.put dst (.v v))) : exCq P f (some us) dst r K s :=
  ⟨v, h _ ⟨rfl, rfl⟩, k⟩
theorem exC_intro {f : FuncId} {us : List AV} {Q : AV → AHeap → Prop} (h : ACalls P f us s.H Q) (k : ∀ v H', Q v H' → EX P r K ({ s with H := H' }.put dst (.v v))) : exC P f (some us) dst r K s :=
  ACalls.mono h k

/-! the operations -/
theorem ex_mv {x : Operand} : EX P (.ops (⟨dst, none, .mv x⟩ :: l) :: r) K s = EX P (.ops l :: r) K (s.put dst (oval s.env x)) := rfl
theorem ex_pick {a b c : Operand} : EX P (.ops (⟨dst, none, .pick a b c⟩ :: l) :: r) K s = exV P (qop s.loc s.H (oval s.env) (.pick a b c)) dst (.ops l :: r) K s := by
  simp only [EX, kont, runOps, runStmt, esc, frzAll, runOp1, exV]; cases qop s.loc s.H (oval s.env) (SOp.pick a b c) <;> rfl
theorem ex_nilc {x : Operand} : EX P (.ops (⟨dst, none, .nilc x⟩ :: l) :: r) K s = exV P (qop s.loc s.H (oval s.env) (.nilc x)) dst (.ops l :: r) K s := by
  simp only [EX, kont, runOps, runStmt, esc, frzAll, runOp1, exV]; cases qop s.loc s.H (oval s.env) (SOp.nilc x) <;> rfl
theorem ex_load {n : Nat} {agg : Bool} {x : Operand} : EX P (.ops (⟨dst, none, .load n agg x⟩ :: l) :: r) K s = exV P (qop s.loc s.H (oval s.env) (.load n agg x)) dst (.ops l :: r) K s := by
  simp only [EX, kont, runOps, runStmt, esc, frzAll, runOp1, exV]; cases qop s.loc s.H (oval s.env) (SOp.load n agg x) <;> rfl
theorem ex_bin {o : BinOp} {t : TypeId} {x y : Operand} : EX P (.ops (⟨dst, none, .bin o t x y⟩ :: l) :: r) K s = exV P (qop s.loc s.H (oval s.env) (.bin o t x y)) dst (.ops l :: r) K s := by
  simp only [EX, kont, runOps, runStmt, esc, frzAll, runOp1, exV]; cases qop s.loc s.H (oval s.env) (SOp.bin o t x y) <;> rfl
theorem ex_beq {n : Bool} {x y : Operand} : EX P (.ops (⟨dst, none, .beq n x y⟩ :: l) :: r) K s = exV P (qop s.loc s.H (oval s.env) (.beq n x y)) dst (.ops l :: r) K s := by
  simp only [EX, kont, runOps, runStmt, esc, frzAll, runOp1, exV]; cases qop s.loc s.H (oval s.env) (SOp.beq n x y) <;> rfl
theorem ex_eqs {n : Bool} {ls : List (Nat × SK)} {x y : Operand} : EX P (.ops (⟨dst, none, .eqs n ls x y⟩ :: l) :: r) K s = exV P (qop s.loc s.H (oval s.env) (.eqs n ls x y)) dst (.ops l :: r) K s := by
  simp only [EX, kont, runOps, runStmt, esc, frzAll, runOp1, exV]; cases qop s.loc s.H (oval s.env) (SOp.eqs n ls x y) <;> rfl
theorem ex_isnil {k : NK} {n : Bool} {x : Operand} : EX P (.ops (⟨dst, none, .isnil k n x⟩ :: l) :: r) K s = exV P (qop s.loc s.H (oval s.env) (.isnil k n x)) dst (.ops l :: r) K s := by
  simp only [EX, kont, runOps, runStmt, esc, frzAll, runOp1, exV]; cases qop s.loc s.H (oval s.env) (SOp.isnil k n x) <;> rfl
theorem ex_un {o : UnOp} {x : Operand} : EX P (.ops (⟨dst, none, .un o x⟩ :: l) :: r) K s = exV P (qop s.loc s.H (oval s.env) (.un o x)) dst (.ops l :: r) K s := by
  simp only [EX, kont, runOps, runStmt, esc, frzAll, runOp1, exV]; cases qop s.loc s.H (oval s.env) (SOp.un o x) <;> rfl
theorem ex_cnv {k : IntKind} {x : Operand} : EX P (.ops (⟨dst, none, .cnv k x⟩ :: l) :: r) K s = exV P (qop s.loc s.H (oval s.env) (.cnv k x)) dst (.ops l :: r) K s := by
  simp only [EX, kont, runOps, runStmt, esc, frzAll, runOp1, exV]; cases qop s.loc s.H (oval s.env) (SOp.cnv k x) <;> rfl
theorem ex_b2s {x : Operand} : EX P (.ops (⟨dst, none, .b2s x⟩ :: l) :: r) K s = exV P (qop s.loc s.H (oval s.env) (.b2s x)) dst (.ops l :: r) K s := by
  simp only [EX, kont, runOps, runStmt, esc, frzAll, runOp1, exV]; cases qop s.loc s.H (oval s.env) (SOp.b2s x) <;> rfl
theorem ex_fld {n : Nat} {x : Operand} : EX P (.ops (⟨dst, none, .fld n x⟩ :: l) :: r) K s = exV P (qop s.loc s.H (oval s.env) (.fld n x)) dst (.ops l :: r) K s := by
  simp only [EX, kont, runOps, runStmt, esc, frzAll, runOp1, exV]; cases qop s.loc s.H (oval s.env) (SOp.fld n x) <;> rfl
theorem ex_prt {o n : Nat} {agg : Bool} {x : Operand} : EX P (.ops (⟨dst, none, .prt o n agg x⟩ :: l) :: r) K s = exV P (qop s.loc s.H (oval s.env) (.prt o n agg x)) dst (.ops l :: r) K s := by
  simp only [EX, kont, runOps, runStmt, esc, frzAll, runOp1, exV]; cases qop s.loc s.H (oval s.env) (SOp.prt o n agg x) <;> rfl
theorem ex_ia {a : Option Nat} {n : Nat} {x i : Operand} : EX P (.ops (⟨dst, none, .ia a n x i⟩ :: l) :: r) K s = exV P (qop s.loc s.H (oval s.env) (.ia a n x i)) dst (.ops l :: r) K s := by
  simp only [EX, kont, runOps, runStmt, esc, frzAll, runOp1, exV]; cases qop s.loc s.H (oval s.env) (SOp.ia a n x i) <;> rfl
theorem ex_ixs {x i : Operand} : EX P (.ops (⟨dst, none, .ixs x i⟩ :: l) :: r) K s = exV P (qop s.loc s.H (oval s.env) (.ixs x i)) dst (.ops l :: r) K s := by
  simp only [EX, kont, runOps, runStmt, esc, frzAll, runOp1, exV]; cases qop s.loc s.H (oval s.env) (SOp.ixs x i) <;> rfl
theorem ex_ixa {a n : Nat} {agg : Bool} {x i : Operand} : EX P (.ops (⟨dst, none, .ixa a n agg x i⟩ :: l) :: r) K s = exV P (qop s.loc s.H (oval s.env) (.ixa a n agg x i)) dst (.ops l :: r) K s := by
  simp only [EX, kont, runOps, runStmt, esc, frzAll, runOp1, exV]; cases qop s.loc s.H (oval s.env) (SOp.ixa a n agg x i) <;> rfl
theorem ex_ext {x : Operand} {i : Nat} : EX P (.ops (⟨dst, none, .ext x i⟩ :: l) :: r) K s = exV P (qop s.loc s.H (oval s.env) (.ext x i)) dst (.ops l :: r) K s := by
  simp only [EX, kont, runOps, runStmt, esc, frzAll, runOp1, exV]; cases qop s.loc s.H (oval s.env) (SOp.ext x i) <;> rfl
theorem ex_len {b : Bool} {x : Operand} : EX P (.ops (⟨dst, none, .len b x⟩ :: l) :: r) K s = exV P (qop s.loc s.H (oval s.env) (.len b x)) dst (.ops l :: r) K s := by
  simp only [EX, kont, runOps, runStmt, esc, frzAll, runOp1, exV]; cases qop s.loc s.H (oval s.env) (SOp.len b x) <;> rfl
theorem ex_cap {x : Operand} : EX P (.ops (⟨dst, none, .cap x⟩ :: l) :: r) K s = exV P (qop s.loc s.H (oval s.env) (.cap x)) dst (.ops l :: r) K s := by
  simp only [EX, kont, runOps, runStmt, esc, frzAll, runOp1, exV]; cases qop s.loc s.H (oval s.env) (SOp.cap x) <;> rfl
theorem ex_lk {kd : KD} {z : Value} {ok : Bool} {x k : Operand} : EX P (.ops (⟨dst, none, .lk kd z ok x k⟩ :: l) :: r) K s = exV P (lkq s.H kd z ok (oval s.env x) (oval s.env k)) dst (.ops l :: r) K s := by
  simp only [EX, kont, runOps, runStmt, esc, frzAll, runOp1, exV, qop]; cases lkq s.H kd z ok (oval s.env x) (oval s.env k) <;> rfl
theorem ex_mnx {b : Bool} {x y : Operand} : EX P (.ops (⟨dst, none, .mnx b x y⟩ :: l) :: r) K s = exV P (qop s.loc s.H (oval s.env) (.mnx b x y)) dst (.ops l :: r) K s := by
  simp only [EX, kont, runOps, runStmt, esc, frzAll, runOp1, exV]; cases qop s.loc s.H (oval s.env) (SOp.mnx b x y) <;> rfl

/-- what an operation that escapes yields, behind the freezing -/
def exF (P : Program) (dst : Option Nat) (op : SOp) (r : List KI) (K : AEx → S → Prop) (s : S) : Prop := exV P (qop s.loc s.H (oval s.env) op) dst r K s
theorem ex_build {z : List Value} {ps : List (Nat × Nat × Operand)} : EX P (.ops (⟨dst, none, .build z ps⟩ :: l) :: r) K s = exF P dst (.build z ps) (.ops l :: r) K (frzAll s (ps.map (·.2.2))) := by
  simp only [EX, kont, runOps, runStmt, esc, runOp1, exV, exF]
  cases qop (frzAll s (ps.map (·.2.2))).loc (frzAll s (ps.map (·.2.2))).H (oval (frzAll s (ps.map (·.2.2))).env) (SOp.build z ps) <;> rfl
theorem ex_mkfn {f : Go.Fn} {xs ys : List Operand} : EX P (.ops (⟨dst, none, .mkfn f xs ys⟩ :: l) :: r) K s = exF P dst (.mkfn f xs ys) (.ops l :: r) K (frzAll s (xs ++ ys)) := by
  simp only [EX, kont, runOps, runStmt, esc, runOp1, exV, exF]
  cases qop (frzAll s (xs ++ ys)).loc (frzAll s (xs ++ ys)).H (oval (frzAll s (xs ++ ys)).env) (SOp.mkfn f xs ys) <;> rfl
theorem ex_slcs {x : Operand} {lo hi mx : Option Operand} : EX P (.ops (⟨dst, none, .slc none x lo hi mx⟩ :: l) :: r) K s = exF P dst (.slc none x lo hi mx) (.ops l :: r) K s := by
  simp only [EX, kont, runOps, runStmt, esc, frzAll, runOp1, exV, exF]
  cases qop s.loc s.H (oval s.env) (SOp.slc none x lo hi mx) <;> rfl
theorem ex_slc {n : Nat} {x : Operand} {lo hi mx : Option Operand} : EX P (.ops (⟨dst, none, .slc (some n) x lo hi mx⟩ :: l) :: r) K s = exF P dst (.slc (some n) x lo hi mx) (.ops l :: r) K (frzAll s [x]) := by
  simp only [EX, kont, runOps, runStmt, esc, runOp1, exV, exF]
  cases qop (frzAll s [x]).loc (frzAll s [x]).H (oval (frzAll s [x]).env) (SOp.slc (some n) x lo hi mx) <;> rfl

def exBsl (P : Program) (sz len : Nat) (ps : List (Nat × Nat × Operand)) (dst : Option Nat) (r : List KI) (K : AEx → S → Prop) (s : S) : Prop := exV P (bslq (oval s.env) sz len ps) dst r K s
theorem ex_bsl {e sz len : Nat} {z : List Value} {ps : List (Nat × Nat × Operand)} : EX P (.ops (⟨dst, none, .bsl e sz z len ps⟩ :: l) :: r) K s = exBsl P sz len ps dst (.ops l :: r) K (frzAll s (ps.map (·.2.2))) := by
  simp only [EX, kont, runOps, runStmt, esc, runOp1, exV, exBsl]
  cases bslq (oval (frzAll s (ps.map (·.2.2))).env) sz len ps <;> rfl
def exAl (P : Program) (t : TypeId) (cs : List AV) (dst : Option Nat) (r : List KI) (K : AEx → S → Prop) (s : S) : Prop :=
  match dst with
  | some d => cs.all aone = true ∧ EX P r K (s.newc d cs t)
  | none => False
theorem ex_alloc {t : TypeId} {z : List Value} : EX P (.ops (⟨dst, none, .alloc t z⟩ :: l) :: r) K s = exAl P t (z.map cAV) dst (.ops l :: r) K s := by
  cases dst <;> rfl
def exBox (P : Program) (t : TypeId) (x : Operand) (dst : Option Nat) (r : List KI) (K : AEx → S → Prop) (s : S) : Prop :=
  match oval s.env x with
  | .v u => match acells u with
    | some cs => exAl P t cs dst r K s
    | none => False
  | _ => False
theorem ex_box {t : TypeId} {x : Operand} : EX P (.ops (⟨dst, none, .box t x⟩ :: l) :: r) K s = exBox P t x dst (.ops l :: r) K (frzAll s [x]) := by
  simp only [EX, kont, runOps, runStmt, esc, runOp1, exBox]
  cases oval (frzAll s [x]).env x with
  | v u =>
    cases dst with
    | none => simp only; cases acells u <;> rfl
    | some d => simp only; cases acells u <;> rfl
  | loc d o => rfl
  | own d => rfl
def exSt (P : Program) (n : Nat) (x y : Operand) (dst : Option Nat) (r : List KI) (K : AEx → S → Prop) (s : S) : Prop :=
  match oval s.env y with
  | .v u => match acells u with
    | some ds => match dst with
      | none => exS P (storeq s n (oval s.env x) ds) r K
      | some _ => False
    | none => False
  | _ => False
theorem ex_store {n : Nat} {x y : Operand} : EX P (.ops (⟨none, none, .store n x y⟩ :: l) :: r) K s = exSt P n x y none (.ops l :: r) K (frzAll s [y]) := by
  simp only [EX, kont, runOps, runStmt, esc, runOp1, exSt]
  cases oval (frzAll s [y]).env y with
  | v u =>
    simp only
    cases acells u with
    | none => rfl
    | some ds => simp only [exS]; cases storeq (frzAll s [y]) n (oval (frzAll s [y]).env x) ds <;> simp [EX, kont]
  | loc d o => rfl
  | own d => rfl
def exMk (P : Program) (e sz by_ : Nat) (z : List Value) (x y : SV) (dst : Option Nat) (r : List KI) (K : AEx → S → Prop) (s : S) : Prop :=
  match x, y, dst with
  | .v (.raw (.int _ n)), .v (.raw (.int _ m)), some d => 0 ≤ n ∧ m = n ∧ by_ * n.toNat ≤ 281474976710656 ∧ n.toNat ≤ maxLen ∧ z.all (·.oneCell') = true ∧ EX P r K (s.arr d (some d) false (zrep z n.toNat) n.toNat e sz)
  | _, _, _ => False
theorem ex_mksl {e sz by_ : Nat} {z : List Value} {x y : Operand} : EX P (.ops (⟨dst, none, .mksl e sz by_ z x y⟩ :: l) :: r) K s = exMk P e sz by_ z (oval s.env x) (oval s.env y) dst (.ops l :: r) K s := by
  simp only [EX, kont, runOps, runStmt, esc, frzAll, runOp1, exMk]
  split <;> rename_i h1 h2 <;> simp_all
theorem exMk_int {e sz by_ d : Nat} {z : List Value} {k k' : IntKind} {n : Int} (h0 : 0 ≤ n) (h1 : by_ * n.toNat ≤ 281474976710656) (h2 : n.toNat ≤ maxLen) (h3 : z.all (·.oneCell') = true) (h : EX P r K (s.arr d (some d) false (zrep z n.toNat) n.toNat e sz)) :
    exMk P e sz by_ z (.v (.raw (.int k n))) (.v (.raw (.int k' n))) (some d) r K s := ⟨h0, rfl, h1, h2, h3, h⟩
def exAp (P : Program) (e sz by_ : Nat) (x y : Operand) (dst : Option Nat) (r : List KI) (K : AEx → S → Prop) (s : S) : Prop := exS P (appq s dst e sz by_ (oval s.env x) (oval s.env y)) r K
theorem ex_app {t e sz by_ : Nat} {z : Value} {x y : Operand} : EX P (.ops (⟨dst, none, .app t e sz by_ z x y⟩ :: l) :: r) K s = exAp P e sz by_ x y dst (.ops l :: r) K (frzAll s [y]) := by
  simp only [EX, kont, runOps, runStmt, esc, runOp1, exAp, exS]
  cases appq (frzAll s [y]) dst e sz by_ (oval (frzAll s [y]).env x) (oval (frzAll s [y]).env y) <;> rfl
def exCall (P : Program) (f : FuncId) (xs : List Operand) (dst : Option Nat) (r : List KI) (K : AEx → S → Prop) (s : S) : Prop := exC P f (allAV (xs.map (oval s.env))) dst r K s
theorem ex_call {f : FuncId} {xs : List Operand} : EX P (.ops (⟨dst, none, .call f xs⟩ :: l) :: r) K s = exCall P f xs dst (.ops l :: r) K (frzAll s xs) := by
  simp only [EX, kont, runOps, runStmt, esc, runOp1, exCall, exC]
  cases allAV (xs.map (oval (frzAll s xs).env)) <;> rfl
def exCal (P : Program) (f : Option (FuncId × List AV × List AV)) (us : Option (List AV)) (dst : Option Nat) (r : List KI) (K : AEx → S → Prop) (s : S) : Prop :=
  match f, us with
  | some (f, first, cap), some us => exC P f (some (first ++ us ++ cap)) dst r K s
  | _, _ => False
def exCald (P : Program) (x : Operand) (xs : List Operand) (dst : Option Nat) (r : List KI) (K : AEx → S → Prop) (s : S) : Prop := exCal P (fnOf (oval s.env x)) (allAV (xs.map (oval s.env))) dst r K s
theorem ex_cald {x : Operand} {xs : List Operand} : EX P (.ops (⟨dst, none, .cald x xs⟩ :: l) :: r) K s = exCald P x xs dst (.ops l :: r) K (frzAll s xs) := by
  simp only [EX, kont, runOps, runStmt, esc, runOp1, exCald, exCal, exC]
  cases fnOf (oval (frzAll s xs).env x) <;> cases allAV (xs.map (oval (frzAll s xs).env)) <;> rfl

/-! what is made on the heap -/
def exHal (P : Program) (t : TypeId) (cs : List AV) (dst : Option Nat) (r : List KI) (K : AEx → S → Prop) (s : S) : Prop :=
  cs.all aone = true ∧ ∀ b, s.H b = none → EX P r K ((s.newh b (.cells cs t)).put dst (.v (.raw (.pointer (some ⟨b, 0, none⟩)))))
theorem ex_halloc {t : TypeId} {z : List Value} : EX P (.ops (⟨dst, none, .hp (.alloc t z)⟩ :: l) :: r) K s = exHal P t (z.map cAV) dst (.ops l :: r) K s := rfl
def exHbox (P : Program) (t : TypeId) (x : Operand) (dst : Option Nat) (r : List KI) (K : AEx → S → Prop) (s : S) : Prop :=
  match oval s.env x with
  | .v u => match acells u with
    | some cs => exHal P t cs dst r K s
    | none => False
  | _ => False
theorem ex_hbox {t : TypeId} {x : Operand} : EX P (.ops (⟨dst, none, .hp (.box t x)⟩ :: l) :: r) K s = exHbox P t x dst (.ops l :: r) K (frzAll s [x]) := by
  simp only [EX, kont, runOps, runStmt, esc, runOp1, runH, exHbox]
  cases oval (frzAll s [x]).env x with
  | v u => simp only; cases acells u <;> rfl
  | loc d o => rfl
  | own d => rfl
def exHmk (P : Program) (e sz by_ : Nat) (z : List Value) (x y : SV) (dst : Option Nat) (r : List KI) (K : AEx → S → Prop) (s : S) : Prop :=
  match x, y with
  | .v (.raw (.int _ n)), .v (.raw (.int _ m)) => 0 ≤ n ∧ m = n ∧ by_ * n.toNat ≤ 281474976710656 ∧ n.toNat ≤ maxLen ∧ z.all (·.oneCell') = true ∧
      ∀ b, s.H b = none → EX P r K ((s.newh b (.row (zrep z n.toNat) n.toNat e sz)).put dst (.v (.raw (.slice (some ⟨b, 0, none⟩) n.toNat n.toNat))))
  | _, _ => False
theorem ex_hmksl {e sz by_ : Nat} {z : List Value} {x y : Operand} : EX P (.ops (⟨dst, none, .hp (.mksl e sz by_ z x y)⟩ :: l) :: r) K s = exHmk P e sz by_ z (oval s.env x) (oval s.env y) dst (.ops l :: r) K s := rfl
theorem exHmk_int {e sz by_ : Nat} {z : List Value} {k k' : IntKind} {n : Int} (h0 : 0 ≤ n) (h1 : by_ * n.toNat ≤ 281474976710656) (h2 : n.toNat ≤ maxLen) (h3 : z.all (·.oneCell') = true)
    (h : ∀ b, s.H b = none → EX P r K ((s.newh b (.row (zrep z n.toNat) n.toNat e sz)).put dst (.v (.raw (.slice (some ⟨b, 0, none⟩) n.toNat n.toNat))))) :
    exHmk P e sz by_ z (.v (.raw (.int k n))) (.v (.raw (.int k' n))) dst r K s := ⟨h0, rfl, h1, h2, h3, h⟩
def exHapz (P : Program) (e sz by_ : Nat) (z : List Value) (x y : SV) (dst : Option Nat) (r : List KI) (K : AEx → S → Prop) (s : S) : Prop :=
  match x, y with
  | .v (.vec true _ _), .v (.raw (.int _ n)) => 0 < n ∧ n.toNat * by_ ≤ 140737488355328 ∧ n.toNat ≤ 4611686018427387904 ∧ z.all (·.oneCell') = true ∧
      ∀ b cap, s.H b = none → n.toNat ≤ cap → EX P r K ((s.newh b (.row (zrep z n.toNat) cap e sz)).put dst (.v (.raw (.slice (some ⟨b, 0, none⟩) n.toNat cap))))
  | _, _ => False
theorem ex_happz {t e sz by_ : Nat} {z : List Value} {x y : Operand} : EX P (.ops (⟨dst, none, .hp (.appz t e sz by_ z x y)⟩ :: l) :: r) K s = exHapz P e sz by_ z (oval s.env x) (oval s.env y) dst (.ops l :: r) K s := rfl
def exHbl (P : Program) (e sz len : Nat) (cs : Option (Nat × List AV)) (dst : Option Nat) (r : List KI) (K : AEx → S → Prop) (s : S) : Prop :=
  match cs with
  | some (k, cs) => k = len ∧ 0 < sz ∧ ∀ b, s.H b = none → EX P r K ((s.newh b (.row cs len e sz)).put dst (.v (.raw (.slice (some ⟨b, 0, none⟩) len len))))
  | none => False
def hblq (sz : Nat) : Option (List (Nat × Nat × AV)) → Option (Nat × List AV)
  | some l => match catA sz 0 l with
    | some cs => some (l.length, cs)
    | none => none
  | none => none
def exHbsl (P : Program) (e sz len : Nat) (ps : List (Nat × Nat × Operand)) (dst : Option Nat) (r : List KI) (K : AEx → S → Prop) (s : S) : Prop := exHbl P e sz len (hblq sz (partsq (oval s.env) ps)) dst r K s
theorem ex_hbsl {e sz len : Nat} {z : List Value} {ps : List (Nat × Nat × Operand)} : EX P (.ops (⟨dst, none, .hp (.bsl e sz z len ps)⟩ :: l) :: r) K s = exHbsl P e sz len ps dst (.ops l :: r) K (frzAll s (ps.map (·.2.2))) := by
  simp only [EX, kont, runOps, runStmt, esc, runOp1, runH, exHbsl, exHbl, hblq]
  cases partsq (oval (frzAll s (ps.map (·.2.2))).env) ps with
  | none => rfl
  | some l => simp only; cases catA sz 0 l <;> rfl
def exObl (P : Program) (d e sz len : Nat) (cs : Option (Nat × List AV)) (r : List KI) (K : AEx → S → Prop) (s : S) : Prop :=
  match cs with
  | some (k, cs) => k = len ∧ 0 < sz ∧ EX P r K (s.arr d (some d) false cs len e sz)
  | none => False
def exObsl (P : Program) (d e sz len : Nat) (ps : List (Nat × Nat × Operand)) (r : List KI) (K : AEx → S → Prop) (s : S) : Prop := exObl P d e sz len (hblq sz (partsq (oval s.env) ps)) r K s
theorem ex_obsl {d e sz len : Nat} {z : List Value} {ps : List (Nat × Nat × Operand)} : EX P (.ops (⟨some d, none, .ow (.bsl e sz z len ps)⟩ :: l) :: r) K s = exObsl P d e sz len ps (.ops l :: r) K (frzAll s (ps.map (·.2.2))) := by
  simp only [EX, kont, runOps, runStmt, esc, runOp1, runO, exObsl, exObl, hblq]
  cases partsq (oval (frzAll s (ps.map (·.2.2))).env) ps with
  | none => rfl
  | some l => simp only; cases catA sz 0 l <;> rfl
def exHapp (P : Program) (e sz by_ : Nat) (x y : Operand) (dst : Option Nat) (r : List KI) (K : AEx → S → Prop) (s : S) : Prop := hapK e sz by_ (hpre s.H e sz (oval s.env x)) (oval s.env x) (oval s.env y) dst s (EX P r K)
def exHmkm (P : Program) (kd : KD) (dst : Option Nat) (r : List KI) (K : AEx → S → Prop) (s : S) : Prop := ∀ b, s.H b = none → EX P r K ((s.newh b (.map kd [])).put dst (.v (.raw (.map (some b)))))
theorem ex_hmkmap {kd : KD} : EX P (.ops (⟨dst, none, .hp (.mkmap kd)⟩ :: l) :: r) K s = exHmkm P kd dst (.ops l :: r) K s := rfl
def exMset (P : Program) (kd : KD) (x k v : Operand) (dst : Option Nat) (r : List KI) (K : AEx → S → Prop) (s : S) : Prop := msetK kd (oval s.env x) (oval s.env k) (oval s.env v) dst s (EX P r K)
theorem ex_hmset {kd : KD} {x k v : Operand} : EX P (.ops (⟨dst, none, .hp (.mset kd x k v)⟩ :: l) :: r) K s = exMset P kd x k v dst (.ops l :: r) K (frzAll s [k, v]) := rfl
theorem ex_happ {t e sz by_ : Nat} {z : Value} {x y : Operand} : EX P (.ops (⟨dst, none, .hp (.app t e sz by_ z x y)⟩ :: l) :: r) K s = exHapp P e sz by_ x y dst (.ops l :: r) K (frzAll s [y]) := rfl

/-! the same in a region whose order is open -/
theorem exq_mv {x : Operand} : EX P (.qops (⟨dst, none, .mv x⟩ :: l) :: r) K s = EX P (.qops l :: r) K (s.put dst (oval s.env x)) := rfl
def quietB : SOp → Bool
  | .bsl _ _ _ _ _ | .app _ _ _ _ _ _ _ | .call _ _ | .cald _ _ | .store _ _ _ | .alloc _ _ | .box _ _ | .mksl _ _ _ _ _ _ | .mkmap _ | .mset _ _ _ _ | .hp _ | .ow _ => false
  | _ => true
theorem exq_quiet (h : quietB op = true) : EX P (.qops (⟨dst, none, op⟩ :: l) :: r) K s = exV P (qop s.loc s.H (oval s.env) op) dst (.qops l :: r) K s := by
  simp only [EX, kont, runQ, runQS, exV]
  cases op <;> simp only [quietB] at h <;> first
    | (cases h; done)
    | (simp only [runQ1]; split <;> simp_all)
theorem exq_bsl {e sz len : Nat} {z : List Value} {ps : List (Nat × Nat × Operand)} : EX P (.qops (⟨dst, none, .bsl e sz z len ps⟩ :: l) :: r) K s = exV P (bslq (oval s.env) sz len ps) dst (.qops l :: r) K s := by
  simp only [EX, kont, runQ, runQS, runQ1, exV]
  cases bslq (oval s.env) sz len ps <;> rfl
theorem exq_app {t e sz by_ : Nat} {z : Value} {x y : Operand} : EX P (.qops (⟨dst, none, .app t e sz by_ z x y⟩ :: l) :: r) K s = exV P (nilappq sz by_ (oval s.env x) (oval s.env y)) dst (.qops l :: r) K s := by
  simp only [EX, kont, runQ, runQS, runQ1, exV]
  cases nilappq sz by_ (oval s.env x) (oval s.env y) <;> rfl
theorem exq_call {f : FuncId} {xs : List Operand} : EX P (.qops (⟨dst, none, .call f xs⟩ :: l) :: r) K s = exCq P f (allAV (xs.map (oval s.env))) dst (.qops l :: r) K s := by
  simp only [EX, kont, runQ, runQS, runQ1, exCq]
  cases allAV (xs.map (oval s.env)) <;> rfl
theorem exq_hload {n : Nat} {agg : Bool} {x : Operand} : EX P (.qops (⟨dst, none, .hp (.load n agg x)⟩ :: l) :: r) K s = exV P (hldq s.H n agg (oval s.env x)) dst (.qops l :: r) K s := by
  simp only [EX, kont, runQ, runQS, runQ1, exV]
  cases hldq s.H n agg (oval s.env x) <;> rfl
theorem exq_lload {n : Nat} {agg : Bool} {x : Operand} : EX P (.qops (⟨dst, none, .ow (.load n agg x)⟩ :: l) :: r) K s = exV P (lldq s.loc n agg (oval s.env x)) dst (.qops l :: r) K s := by
  simp only [EX, kont, runQ, runQS, runQ1, exV]
  cases lldq s.loc n agg (oval s.env x) <;> rfl
theorem exq_rload {n : Nat} {agg : Bool} {x : Operand} : EX P (.qops (⟨dst, none, .hp (.hp (.load n agg x))⟩ :: l) :: r) K s = exV P (hrdq s.H n agg (oval s.env x)) dst (.qops l :: r) K s := by
  simp only [EX, kont, runQ, runQS, runQ1, exV]
  cases hrdq s.H n agg (oval s.env x) <;> rfl
theorem exq_hbsl {e sz len : Nat} {z : List Value} {ps : List (Nat × Nat × Operand)} : EX P (.qops (⟨dst, none, .hp (.bsl e sz z len ps)⟩ :: l) :: r) K s = exHbsl P e sz len ps dst (.qops l :: r) K s := by
  simp only [EX, kont, runQ, runQS, runQ1, runH, exHbsl, exHbl, hblq]
  cases partsq (oval s.env) ps with
  | none => rfl
  | some l => simp only; cases catA sz 0 l <;> rfl
theorem exq_halloc {t : TypeId} {z : List Value} : EX P (.qops (⟨dst, none, .hp (.alloc t z)⟩ :: l) :: r) K s = exHal P t (z.map cAV) dst (.qops l :: r) K s := rfl
theorem exq_hbox {t : TypeId} {x : Operand} : EX P (.qops (⟨dst, none, .hp (.box t x)⟩ :: l) :: r) K s = exHbox P t x dst (.qops l :: r) K s := by
  simp only [EX, kont, runQ, runQS, runQ1, runH, exHbox]
  cases oval s.env x with
  | v u => simp only; cases acells u <;> rfl
  | loc d o => rfl
  | own d => rfl
theorem exq_hmksl {e sz by_ : Nat} {z : List Value} {x y : Operand} : EX P (.qops (⟨dst, none, .hp (.mksl e sz by_ z x y)⟩ :: l) :: r) K s = exHmk P e sz by_ z (oval s.env x) (oval s.env y) dst (.qops l :: r) K s := rfl
theorem exq_hmkmap {kd : KD} : EX P (.qops (⟨dst, none, .hp (.mkmap kd)⟩ :: l) :: r) K s = exHmkm P kd dst (.qops l :: r) K s := rfl
theorem exq_hmset {kd : KD} {x k v : Operand} : EX P (.qops (⟨dst, none, .hp (.mset kd x k v)⟩ :: l) :: r) K s = exMset P kd x k v dst (.qops l :: r) K s := rfl
theorem exq_happ {t e sz by_ : Nat} {z : Value} {x y : Operand} : EX P (.qops (⟨dst, none, .hp (.app t e sz by_ z x y)⟩ :: l) :: r) K s = exHapp P e sz by_ x y dst (.qops l :: r) K s := rfl
def exCalq (P : Program) (f : Option (FuncId × List AV × List AV)) (us : Option (List AV)) (dst : Option Nat) (r : List KI) (K : AEx → S → Prop) (s : S) : Prop :=
  match f, us with
  | some (f, first, cap), some us => exCq P f (some (first ++ us ++ cap)) dst r K s
  | _, _ => False
theorem exq_cald {x : Operand} {xs : List Operand} : EX P (.qops (⟨dst, none, .cald x xs⟩ :: l) :: r) K s = exCalq P (fnOf (oval s.env x)) (allAV (xs.map (oval s.env))) dst (.qops l :: r) K s := by
  simp only [EX, kont, runQ, runQS, runQ1, exCalq, exCq]
  cases fnOf (oval s.env x) <;> cases allAV (xs.map (oval s.env)) <;> rfl
theorem exq_store {n : Nat} {x y : Operand} : EX P (.qops (⟨none, none, .store n x y⟩ :: l) :: r) K s = exSt P n x y none (.qops l :: r) K s := by
  simp only [EX, kont, runQ, runQS, runQ1, exSt]
  cases oval s.env y with
  | v u =>
    simp only
    cases acells u with
    | none => rfl
    | some ds => simp only [exS]; cases storeq s n (oval s.env x) ds <;> simp [EX, kont]
  | loc d o => rfl
  | own d => rfl

/-! loops -/
theorem exq_lstore {n : Nat} {x y : Operand} : EX P (.qops (⟨none, none, .ow (.store n x y)⟩ :: l) :: r) K s = (isLocV (oval s.env x) = true ∧ exSt P n x y none (.qops l :: r) K s) := by
  rw [← exq_store]
  rfl
theorem runOp1_mono {st : Stmt} {K K' : S → Prop} (hk : ∀ s, K s → K' s) (h : runOp1 P st s K) : runOp1 P st s K' := by
  obtain ⟨dst, gd, op⟩ := st
  cases op <;> simp only [runOp1] at h ⊢
  case alloc => split at h <;> first | exact ⟨h.1, hk _ h.2⟩ | exact h
  case box =>
    split at h
    · split at h <;> first | exact ⟨h.1, hk _ h.2⟩ | exact h
    · exact h
  case store =>
    split at h
    · split at h
      · split at h <;> first | exact ⟨h.1, hk _ h.2⟩ | exact h
      · exact h
    · exact h
  case mksl =>
    split at h
    · obtain ⟨h1, h2, h3, h4, h5, h6⟩ := h; exact ⟨h1, h2, h3, h4, h5, hk _ h6⟩
    · exact h
  case call => split at h <;> first | exact h.mono fun _ _ hq => hk _ hq | exact h
  case cald => split at h <;> first | exact h.mono fun _ _ hq => hk _ hq | exact h
  case hp op => exact runH_mono hk h
  case ow op => exact runO_mono hk h
  all_goals split at h <;> first | exact hk _ h | exact h
theorem runStmt_mono {st : Stmt} {K K' : S → Prop} (hk : ∀ s, K s → K' s) (h : runStmt P st s K) : runStmt P st s K' := by
  unfold runStmt at h ⊢
  split at h
  · exact runOp1_mono hk h
  · split at h
    · split at h
      · rename_i hb; rw [if_pos hb]; exact runOp1_mono hk h
      · rename_i hb; rw [if_neg hb]; exact hk _ h
    · exact hk _ h
    · exact h
theorem runOps_mono : ∀ (l : List Stmt) {s : S} {K K' : S → Prop}, (∀ s, K s → K' s) → runOps P l s K → runOps P l s K'
  | [], _, _, _, hk, h => hk _ h
  | st :: l, _, _, _, hk, h => runStmt_mono (fun _ h => runOps_mono l hk h) h
theorem runQ1_mono {st : Stmt} {K K' : S → Prop} (hk : ∀ s, K s → K' s) (h : runQ1 P st s K) : runQ1 P st s K' := by
  obtain ⟨dst, gd, op⟩ := st
  cases op <;> simp only [runQ1] at h ⊢
  case store =>
    split at h
    · split at h
      · split at h <;> first | exact ⟨h.1, hk _ h.2⟩ | exact h
      · exact h
    · exact h
  case call => split at h <;> first | (obtain ⟨r, h1, h2⟩ := h; exact ⟨r, h1, hk _ h2⟩) | exact h
  case cald => split at h <;> first | (obtain ⟨r, h1, h2⟩ := h; exact ⟨r, h1, hk _ h2⟩) | exact h
  case hp op =>
    cases op <;> simp only at h ⊢ <;> try (first | exact h.elim | exact runH_mono hk h)
    case load => split at h <;> first | exact hk _ h | exact h
    case hp op =>
      cases op <;> simp only at h ⊢ <;> try (exact h.elim)
      split at h <;> first | exact hk _ h | exact h
  case ow op =>
    cases op <;> simp only at h ⊢ <;> try (exact h.elim)
    case load => split at h <;> first | exact hk _ h | exact h
    case store =>
      obtain ⟨h0, h⟩ := h
      refine ⟨h0, ?_⟩
      split at h
      · split at h
        · split at h <;> first | exact ⟨h.1, hk _ h.2⟩ | exact h
        · exact h
      · exact h
  all_goals split at h <;> first | exact hk _ h | exact h
theorem runQS_mono {st : Stmt} {K K' : S → Prop} (hk : ∀ s, K s → K' s) (h : runQS P st s K) : runQS P st s K' := by
  unfold runQS at h ⊢
  split at h
  · exact runQ1_mono hk h
  · split at h
    · split at h
      · rename_i hb; rw [if_pos hb]; exact runQ1_mono hk h
      · rename_i hb; rw [if_neg hb]; exact hk _ h
    · exact hk _ h
    · exact h
theorem runQ_mono : ∀ (l : List Stmt) {s : S} {K K' : S → Prop}, (∀ s, K s → K' s) → runQ P l s K → runQ P l s K'
  | [], _, _, _, hk, h => hk _ h
  | st :: l, _, _, _, hk, h => runQS_mono (fun _ h => runQ_mono l hk h) h

theorem scK_mono {has : Nat → Bool} {X X' : Nat → S → Prop} {K K' : AEx → S → Prop} (hx : ∀ l s, X l s → X' l s) (hk : ∀ e s, K e s → K' e s) (e : AEx) (s : S) (h : scK has X K e s) : scK has X' K' e s := by
  cases e with
  | normal => exact hk _ _ h
  | ret => exact hk _ _ h
  | exit id => exact hk _ _ h
  | goto l =>
    simp only [scK] at h ⊢
    split at h
    · rename_i hb; rw [if_pos hb]; exact hx _ _ h
    · rename_i hb; rw [if_neg hb]; exact hk _ _ h
theorem AScope_mono {f : Nat → (AEx → S → Prop) → S → Prop} {has : Nat → Bool} {K K' : AEx → S → Prop} (hf : ∀ l K K' s, (∀ e s, K e s → K' e s) → f l K s → f l K' s) (hk : ∀ e s, K e s → K' e s) {l : Nat} {s : S} (h : AScope f has K l s) : AScope f has K' l s := by
  intro X hX
  exact h X fun l' s' hl => hX l' s' (hf l' _ _ s' (scK_mono (fun _ _ h => h) hk) hl)
theorem AWP_both (P : Program) (c : SCode) : (∀ {K K' : AEx → S → Prop} {s : S}, AWP P c K s → (∀ e s', K e s' → K' e s') → AWP P c K' s) ∧
    (∀ {l : Nat} {K K' : AEx → S → Prop} {s : S}, AWPL P c l K s → (∀ e s', K e s' → K' e s') → AWPL P c l K' s) := by
  have none : ∀ {c : SCode}, (∀ l K s, AWPL P c l K s = False) → ∀ {l : Nat} {K K' : AEx → S → Prop} {s : S}, AWPL P c l K s → (∀ e s', K e s' → K' e s') → AWPL P c l K' s := by
    intro c hc l K K' s h
    rw [hc] at h
    exact h.elim
  induction c with
  | reg lv l => exact ⟨fun h hk => runOps_mono l (fun _ h => hk _ _ h) h, none fun _ _ _ => rfl⟩
  | draw lv l => exact ⟨fun h hk => runQ_mono l (fun _ h => hk _ _ h) h, none fun _ _ _ => rfl⟩
  | seq a b iha ihb =>
    have two : ∀ {K K' : AEx → S → Prop}, (∀ e s', K e s' → K' e s') → ∀ e s', (match (motive := AEx → Prop) e with | .normal => AWP P b K s' | e => K e s') → (match (motive := AEx → Prop) e with | .normal => AWP P b K' s' | e => K' e s') := by
      intro K K' hk e s' he
      cases e with
      | normal => exact ihb.1 he hk
      | ret => exact hk _ _ he
      | exit id => exact hk _ _ he
      | goto l => exact hk _ _ he
    refine ⟨fun h hk => iha.1 h (two hk), fun h hk => ?_⟩
    simp only [AWPL] at h ⊢
    split at h
    · rename_i hb; rw [if_pos hb]; exact iha.2 h (two hk)
    · rename_i hb; rw [if_neg hb]; exact ihb.2 h hk
  | cond c x y ihx ihy =>
    refine ⟨fun h hk => ?_, none fun _ _ _ => rfl⟩
    simp only [AWP] at h ⊢
    split at h
    · split at h
      · rename_i hb; rw [if_pos hb]; exact ihx.1 h hk
      · rename_i hb; rw [if_neg hb]; exact ihy.1 h hk
    · exact h
  | block id c ih =>
    refine ⟨fun h hk => ?_, none fun _ _ _ => rfl⟩
    refine ih.1 h fun e s' he => ?_
    cases e with
    | normal => exact hk _ _ he
    | ret => exact hk _ _ he
    | exit i =>
      simp only at he ⊢
      split at he
      · rename_i hb; rw [if_pos hb]; exact hk _ _ he
      · rename_i hb; rw [if_neg hb]; exact hk _ _ he
    | goto l => exact hk _ _ he
  | loop lv th c ih =>
    refine ⟨fun h hk => ?_, none fun _ _ _ => rfl⟩
    intro X hX
    refine h X fun s' hb => hX s' (ih.1 hb fun e s'' he => ?_)
    cases e with
    | normal => exact he
    | ret => exact hk _ _ he
    | exit id => exact hk _ _ he
    | goto l => exact hk _ _ he
  | skip => exact ⟨fun h hk => hk _ _ h, none fun _ _ _ => rfl⟩
  | exit id => exact ⟨fun h hk => hk _ _ h, none fun _ _ _ => rfl⟩
  | ret => exact ⟨fun h hk => hk _ _ h, none fun _ _ _ => rfl⟩
  | label lv th l =>
    refine ⟨fun h hk => hk _ _ h, fun h hk => ?_⟩
    simp only [AWPL] at h ⊢
    split at h
    · rename_i hb; rw [if_pos hb]; exact hk _ _ h
    · exact h.elim
  | goto l => exact ⟨fun h hk => hk _ _ h, none fun _ _ _ => rfl⟩
  | scope c ih =>
    refine ⟨fun h hk => ?_, none fun _ _ _ => rfl⟩
    exact ih.1 (K := scK c.hasL _ _) (K' := scK c.hasL _ _) h (scK_mono (fun _ _ h => AScope_mono (f := AWPL P c) (fun l K K' s hk h => ih.2 h hk) hk h) hk)
  | fz xs c ih => exact ⟨fun h hk => ih.1 h hk, fun h hk => ih.2 h hk⟩
theorem AWP_mono (P : Program) (c : SCode) {K K' : AEx → S → Prop} {s : S} (h : AWP P c K s) (hk : ∀ e s', K e s' → K' e s') : AWP P c K' s := (AWP_both P c).1 h hk
theorem AWPL_mono (P : Program) (c : SCode) {l : Nat} {K K' : AEx → S → Prop} {s : S} (h : AWPL P c l K s) (hk : ∀ e s', K e s' → K' e s') : AWPL P c l K' s := (AWP_both P c).2 h hk
theorem AScope_up {c : SCode} {K K' : AEx → S → Prop} {l : Nat} {s : S} (hk : ∀ e s, K e s → K' e s) (h : AScope (AWPL P c) c.hasL K l s) : AScope (AWPL P c) c.hasL K' l s := AScope_mono (f := AWPL P c) (fun _ _ _ _ hk h => AWPL_mono P c h hk) hk h

theorem hasL_findL : ∀ (c : SCode) (l : Nat), c.hasL l = (c.findL l).isSome := by
  intro c l
  induction c with
  | seq a b iha ihb =>
    simp only [SCode.hasL, SCode.findL, iha, ihb]
    cases a.findL l <;> simp
  | label lv th l' =>
    simp only [SCode.hasL, SCode.findL]
    by_cases e : l' = l <;> simp [e]
  | fz xs c ih => exact ih
  | _ => rfl
theorem AWPL_of : ∀ {c : SCode} {l : Nat} {rest : SCode} {K : AEx → S → Prop} {s : S}, c.findL l = some rest → AWP P rest K s → AWPL P c l K s := by
  intro c l
  induction c with
  | seq a b iha ihb =>
    intro rest K s hf h
    simp only [AWPL, hasL_findL]
    simp only [SCode.findL] at hf
    cases ha : a.findL l with
    | none => rw [ha] at hf; simpa using ihb hf h
    | some r1 =>
      rw [ha] at hf
      simp only [Option.some.injEq] at hf
      subst hf
      simpa using iha ha h
  | label lv th l' =>
    intro rest K s hf h
    simp only [SCode.findL] at hf
    split at hf
    · rename_i e
      simp only [Option.some.injEq] at hf
      subst hf
      simpa [AWPL, e, AWP] using h
    · cases hf
  | fz xs c ih => intro rest K s hf h; exact ih hf h
  | _ => intro rest K s hf h; simp [SCode.findL] at hf
/-- a run from a label on -/
theorem exG_step {c rest : SCode} {l : Nat} (hf : c.findL l = some rest) (h : EX P (.code rest :: .scp c :: r) K s) : exG P c r K l s := by
  intro X hX
  refine hX l s (AWPL_mono P c (AWPL_of hf (K := kont P (.scp c :: r) K) h) fun e s' he => ?_)
  exact scK_mono (fun l s h => h X hX) (fun _ _ h => h) e s' he

/-- one round of a loop -/
theorem exL_step {lv : List Nat} {th : List (Nat × Nat × Nat × Nat)} {c : SCode} (h : EX P (.code c :: .lp lv th c :: r) K s) : exL P lv th c r K s := by
  intro X hX
  refine hX s (AWP_mono P c (K := kont P (.lp lv th c :: r) K) ?_ fun e s' he => ?_)
  · have h' : AWP P c _ s := h
    refine AWP_mono P c h' fun e s' he => ?_
    cases e <;> exact he
  · cases e with
    | normal => exact he X hX
    | ret => exact he
    | exit id => exact he
    | goto l => exact he

theorem AWPL_iff : ∀ {c : SCode} {l : Nat} {rest : SCode} {K : AEx → S → Prop} {s : S}, c.findL l = some rest → AWPL P c l K s → AWP P rest K s := by
  intro c l
  induction c with
  | seq a b iha ihb =>
    intro rest K s hf h
    simp only [AWPL, hasL_findL] at h
    simp only [SCode.findL] at hf
    cases ha : a.findL l with
    | none => rw [ha] at hf h; exact ihb hf (by simpa using h)
    | some r1 =>
      rw [ha] at hf h
      simp only [Option.some.injEq] at hf
      subst hf
      simp only [Option.isSome_some, if_true] at h
      have h2 := iha ha h
      exact h2
  | label lv th l' =>
    intro rest K s hf h
    simp only [SCode.findL] at hf
    split at hf
    · rename_i e
      simp only [Option.some.injEq] at hf
      subst hf
      simpa [AWPL, e, AWP] using h
    · cases hf
  | fz xs c ih => intro rest K s hf h; exact ih hf h
  | _ => intro rest K s hf h; simp [SCode.findL] at hf
/-- a jump goes on from its label -/
theorem exG_eq {c rest : SCode} {l : Nat} (hf : c.findL l = some rest) : exG P c r K l s = EX P (.code rest :: .scp c :: r) K s := by
  refine propext ⟨fun h => ?_, exG_step hf⟩
  have := h (fun l s => AWPL P c l (scK c.hasL (AScope (AWPL P c) c.hasL (kont P r K)) (kont P r K)) s) fun l' s' hl => ?_
  · exact AWPL_iff hf this
  · refine AWPL_mono P c hl (scK_mono (fun l s h X hX => ?_) fun _ _ h => h)
    refine hX l s (AWPL_mono P c h (scK_mono (fun l s h => h X hX) fun _ _ h => h))

theorem ACalls.of_code {f : FuncId} {fn : Func} {sc : SCode} {rs : List SRes} {args : List AV} {H : AHeap} {Q : AV → AHeap → Prop} (hF : FnOk P f fn sc rs args.length)
    (h : EX P [.code sc] (retK rs Q) { env := envOf 0 args, loc := [], H := H }) : ACalls P f args H Q := ACalls.of_body hF h

end
end Go.Proofs.Ytejmcijcdhoogaa.Abs
