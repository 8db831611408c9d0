import Derived.Test.YtejmcijcdhoogaaAbsG
import Derived.Laws.Strings
set_option linter.unusedSimpArgs false
set_option linter.unusedVariables false
namespace Go.Proofs.Ytejmcijcdhoogaa.Abs
open Go

abbrev iv (n : Int) : AV := .raw (.int .i64 n)
abbrev bv (b : Bool) : AV := .raw (.bool b)

/-- the operations on bits -/
def iand (k : IntKind) (a b : Int) : Int := k.wrap (BitVec.ofInt k.bits a &&& BitVec.ofInt k.bits b).toNat
def ior (k : IntKind) (a b : Int) : Int := k.wrap (BitVec.ofInt k.bits a ||| BitVec.ofInt k.bits b).toNat
def ixor (k : IntKind) (a b : Int) : Int := k.wrap (BitVec.ofInt k.bits a ^^^ BitVec.ofInt k.bits b).toNat
def ishl (k : IntKind) (a b : Int) : Int := k.wrap (a * 2 ^ min b.toNat k.bits)
def ishr (k : IntKind) (a b : Int) : Int := a.fdiv (2 ^ min b.toNat k.bits)
section
variable {k : IntKind} {a b : Int}
theorem binq_add : binq .add (.v (.raw (.int k a))) (.v (.raw (.int k b))) = some (.v (.raw (.int k (k.wrap (a + b))))) := by simp [binq, scalar2]
theorem binq_sub : binq .sub (.v (.raw (.int k a))) (.v (.raw (.int k b))) = some (.v (.raw (.int k (k.wrap (a - b))))) := by simp [binq, scalar2]
theorem binq_mul : binq .mul (.v (.raw (.int k a))) (.v (.raw (.int k b))) = some (.v (.raw (.int k (k.wrap (a * b))))) := by simp [binq, scalar2]
theorem binq_quo (h : b ≠ 0) : binq .quo (.v (.raw (.int k a))) (.v (.raw (.int k b))) = some (.v (.raw (.int k (k.wrap (a.tdiv b))))) := by simp [binq, scalar2, h]
theorem binq_rem (h : b ≠ 0) : binq .rem (.v (.raw (.int k a))) (.v (.raw (.int k b))) = some (.v (.raw (.int k (a.tmod b)))) := by simp [binq, scalar2, h]
theorem binq_and : binq .and (.v (.raw (.int k a))) (.v (.raw (.int k b))) = some (.v (.raw (.int k (iand k a b)))) := by simp [binq, scalar2, iand]
theorem binq_or : binq .or (.v (.raw (.int k a))) (.v (.raw (.int k b))) = some (.v (.raw (.int k (ior k a b)))) := by simp [binq, scalar2, ior]
theorem binq_xor : binq .xor (.v (.raw (.int k a))) (.v (.raw (.int k b))) = some (.v (.raw (.int k (ixor k a b)))) := by simp [binq, scalar2, ixor]
theorem binq_shl {k' : IntKind} (h : 0 ≤ b) : binq .shl (.v (.raw (.int k a))) (.v (.raw (.int k' b))) = some (.v (.raw (.int k (ishl k a b)))) := by simp [binq, scalar2, ishl, show ¬ b < 0 by omega]
theorem binq_shr {k' : IntKind} (h : 0 ≤ b) : binq .shr (.v (.raw (.int k a))) (.v (.raw (.int k' b))) = some (.v (.raw (.int k (ishr k a b)))) := by simp [binq, scalar2, ishr, show ¬ b < 0 by omega]
theorem binq_eql : binq .eql (.v (.raw (.int k a))) (.v (.raw (.int k b))) = some (.v (.raw (.bool (decide (a = b))))) := by
  simp only [binq, scalar2]
  simp
  rfl
theorem binq_neq : binq .neq (.v (.raw (.int k a))) (.v (.raw (.int k b))) = some (.v (.raw (.bool (decide (¬ a = b))))) := by
  simp only [binq, scalar2]
  simp
  by_cases h : a = b <;> simp [h]
theorem binq_lss : binq .lss (.v (.raw (.int k a))) (.v (.raw (.int k b))) = some (.v (.raw (.bool (decide (a < b))))) := by simp [binq, scalar2]
theorem binq_leq : binq .leq (.v (.raw (.int k a))) (.v (.raw (.int k b))) = some (.v (.raw (.bool (decide (a ≤ b))))) := by simp [binq, scalar2]
theorem binq_gtr : binq .gtr (.v (.raw (.int k a))) (.v (.raw (.int k b))) = some (.v (.raw (.bool (decide (b < a))))) := by simp [binq, scalar2]
theorem binq_geq : binq .geq (.v (.raw (.int k a))) (.v (.raw (.int k b))) = some (.v (.raw (.bool (decide (b ≤ a))))) := by simp [binq, scalar2]
theorem binq_seql {x y : ByteArray} : binq .eql (.v (.raw (.string x))) (.v (.raw (.string y))) = some (.v (.raw (.bool (decide (x = y))))) := by
  simp only [binq, scalar2, Option.map_some]
  have : (x.toList == y.toList) = decide (x = y) := by
    by_cases h : x = y
    · subst h; simp
    · have : x.toList ≠ y.toList := fun e => h (by
        rw [ByteArray.toList_eq, ByteArray.toList_eq] at e
        cases x; cases y
        simp only [ByteArray.mk.injEq]
        exact Array.ext' e)
      simp [h, this]
  rw [this]
theorem binq_sneq {x y : ByteArray} : binq .neq (.v (.raw (.string x))) (.v (.raw (.string y))) = some (.v (.raw (.bool (decide (¬ x = y))))) := by
  have h := @binq_seql x y
  simp only [binq, scalar2, Option.map_some, Option.some.injEq, SV.v.injEq, AV.raw.injEq, Value.bool.injEq] at h ⊢
  rw [h]
  by_cases e : x = y <;> simp [e]
end

section
variable {P : Program} {r : List KI} {K : AEx → S → Prop} {s : S} {dst : Option Nat} {l : List Stmt}
theorem exq_pick {a b c : Operand} : EX P (.qops (⟨dst, none, .pick a b c⟩ :: l) :: r) K s = exV P (qop s.loc s.H (oval s.env) (.pick a b c)) dst (.qops l :: r) K s := exq_quiet rfl
theorem exq_nilc {x : Operand} : EX P (.qops (⟨dst, none, .nilc x⟩ :: l) :: r) K s = exV P (qop s.loc s.H (oval s.env) (.nilc x)) dst (.qops l :: r) K s := exq_quiet rfl
theorem exq_load {n : Nat} {agg : Bool} {x : Operand} : EX P (.qops (⟨dst, none, .load n agg x⟩ :: l) :: r) K s = exV P (qop s.loc s.H (oval s.env) (.load n agg x)) dst (.qops l :: r) K s := exq_quiet rfl
theorem exq_bin {o : BinOp} {t : TypeId} {x y : Operand} : EX P (.qops (⟨dst, none, .bin o t x y⟩ :: l) :: r) K s = exV P (qop s.loc s.H (oval s.env) (.bin o t x y)) dst (.qops l :: r) K s := exq_quiet rfl
theorem exq_beq {n : Bool} {x y : Operand} : EX P (.qops (⟨dst, none, .beq n x y⟩ :: l) :: r) K s = exV P (qop s.loc s.H (oval s.env) (.beq n x y)) dst (.qops l :: r) K s := exq_quiet rfl
theorem exq_eqs {n : Bool} {ls : List (Nat × SK)} {x y : Operand} : EX P (.qops (⟨dst, none, .eqs n ls x y⟩ :: l) :: r) K s = exV P (qop s.loc s.H (oval s.env) (.eqs n ls x y)) dst (.qops l :: r) K s := exq_quiet rfl
theorem exq_isnil {k : NK} {n : Bool} {x : Operand} : EX P (.qops (⟨dst, none, .isnil k n x⟩ :: l) :: r) K s = exV P (qop s.loc s.H (oval s.env) (.isnil k n x)) dst (.qops l :: r) K s := exq_quiet rfl
theorem exq_un {o : UnOp} {x : Operand} : EX P (.qops (⟨dst, none, .un o x⟩ :: l) :: r) K s = exV P (qop s.loc s.H (oval s.env) (.un o x)) dst (.qops l :: r) K s := exq_quiet rfl
theorem exq_cnv {k : IntKind} {x : Operand} : EX P (.qops (⟨dst, none, .cnv k x⟩ :: l) :: r) K s = exV P (qop s.loc s.H (oval s.env) (.cnv k x)) dst (.qops l :: r) K s := exq_quiet rfl
theorem exq_b2s {x : Operand} : EX P (.qops (⟨dst, none, .b2s x⟩ :: l) :: r) K s = exV P (qop s.loc s.H (oval s.env) (.b2s x)) dst (.qops l :: r) K s := exq_quiet rfl
theorem exq_fld {n : Nat} {x : Operand} : EX P (.qops (⟨dst, none, .fld n x⟩ :: l) :: r) K s = exV P (qop s.loc s.H (oval s.env) (.fld n x)) dst (.qops l :: r) K s := exq_quiet rfl
theorem exq_prt {o n : Nat} {agg : Bool} {x : Operand} : EX P (.qops (⟨dst, none, .prt o n agg x⟩ :: l) :: r) K s = exV P (qop s.loc s.H (oval s.env) (.prt o n agg x)) dst (.qops l :: r) K s := exq_quiet rfl
theorem exq_ia {a : Option Nat} {n : Nat} {x i : Operand} : EX P (.qops (⟨dst, none, .ia a n x i⟩ :: l) :: r) K s = exV P (qop s.loc s.H (oval s.env) (.ia a n x i)) dst (.qops l :: r) K s := exq_quiet rfl
theorem exq_ixs {x i : Operand} : EX P (.qops (⟨dst, none, .ixs x i⟩ :: l) :: r) K s = exV P (qop s.loc s.H (oval s.env) (.ixs x i)) dst (.qops l :: r) K s := exq_quiet rfl
theorem exq_ixa {a n : Nat} {agg : Bool} {x i : Operand} : EX P (.qops (⟨dst, none, .ixa a n agg x i⟩ :: l) :: r) K s = exV P (qop s.loc s.H (oval s.env) (.ixa a n agg x i)) dst (.qops l :: r) K s := exq_quiet rfl
theorem exq_ext {x : Operand} {i : Nat} : EX P (.qops (⟨dst, none, .ext x i⟩ :: l) :: r) K s = exV P (qop s.loc s.H (oval s.env) (.ext x i)) dst (.qops l :: r) K s := exq_quiet rfl
theorem exq_len {b : Bool} {x : Operand} : EX P (.qops (⟨dst, none, .len b x⟩ :: l) :: r) K s = exV P (qop s.loc s.H (oval s.env) (.len b x)) dst (.qops l :: r) K s := exq_quiet rfl
theorem exq_cap {x : Operand} : EX P (.qops (⟨dst, none, .cap x⟩ :: l) :: r) K s = exV P (qop s.loc s.H (oval s.env) (.cap x)) dst (.qops l :: r) K s := exq_quiet rfl
theorem exq_lk {kd : KD} {z : Value} {ok : Bool} {x k : Operand} : EX P (.qops (⟨dst, none, .lk kd z ok x k⟩ :: l) :: r) K s = exV P (qop s.loc s.H (oval s.env) (.lk kd z ok x k)) dst (.qops l :: r) K s := exq_quiet rfl
theorem exq_mnx {b : Bool} {x y : Operand} : EX P (.qops (⟨dst, none, .mnx b x y⟩ :: l) :: r) K s = exV P (qop s.loc s.H (oval s.env) (.mnx b x y)) dst (.qops l :: r) K s := exq_quiet rfl
theorem exq_build {z : List Value} {ps : List (Nat × Nat × Operand)} : EX P (.qops (⟨dst, none, .build z ps⟩ :: l) :: r) K s = exV P (qop s.loc s.H (oval s.env) (.build z ps)) dst (.qops l :: r) K s := exq_quiet rfl
theorem exq_mkfn {f : Go.Fn} {xs ys : List Operand} : EX P (.qops (⟨dst, none, .mkfn f xs ys⟩ :: l) :: r) K s = exV P (qop s.loc s.H (oval s.env) (.mkfn f xs ys)) dst (.qops l :: r) K s := exq_quiet rfl
theorem exq_slc {n : Option Nat} {x : Operand} {lo hi mx : Option Operand} : EX P (.qops (⟨dst, none, .slc n x lo hi mx⟩ :: l) :: r) K s = exV P (qop s.loc s.H (oval s.env) (.slc n x lo hi mx)) dst (.qops l :: r) K s := exq_quiet rfl
end

theorem wrap_id {x : Int} (h1 : -9223372036854775808 ≤ x) (h2 : x ≤ 9223372036854775807) : IntKind.i64.wrap x = x := by
  simp [IntKind.wrap, IntKind.signed, IntKind.bits, Int.bmod]
  omega

theorem not_dec {p : Prop} [Decidable p] : (!decide p) = decide (¬ p) := by by_cases h : p <;> simp [h]

/-! ### decisions whose test is a proposition -/
section
variable {P : Program} {r : List KI} {K : AEx → S → Prop} {s : S} {dst : Option Nat} {l : List Stmt} {g : Nat} {want : Bool} {op : SOp} {p : Prop} [Decidable p]
theorem exGd_dec (he : get s.env g = some (.v (.raw (.bool (decide p)))))
    (h1 : p → exGd P (.v (.raw (.bool true))) g want dst op l r K { s with env := put s.env g (.v (.raw (.bool true))) })
    (h2 : ¬ p → exGd P (.v (.raw (.bool false))) g want dst op l r K { s with env := put s.env g (.v (.raw (.bool false))) }) : exGd P (.v (.raw (.bool (decide p)))) g want dst op l r K s :=
  exGd_intro he (fun h => h1 (of_decide_eq_true h)) (fun h => h2 (of_decide_eq_false h))
theorem exGq_dec (he : get s.env g = some (.v (.raw (.bool (decide p)))))
    (h1 : p → exGq P (.v (.raw (.bool true))) g want dst op l r K { s with env := put s.env g (.v (.raw (.bool true))) })
    (h2 : ¬ p → exGq P (.v (.raw (.bool false))) g want dst op l r K { s with env := put s.env g (.v (.raw (.bool false))) }) : exGq P (.v (.raw (.bool (decide p)))) g want dst op l r K s :=
  exGq_intro he (fun h => h1 (of_decide_eq_true h)) (fun h => h2 (of_decide_eq_false h))
theorem exIf_dec {k1 k2 : List KI} (h1 : p → EX P k1 K s) (h2 : ¬ p → EX P k2 K s) : exIf P (.v (.raw (.bool (decide p)))) k1 k2 K s :=
  exIf_intro (fun h => h1 (of_decide_eq_true h)) (fun h => h2 (of_decide_eq_false h))
end

/-! ### one head for all decisions -/
def exB (P : Program) (b : Bool) (k1 : List KI) (s1 : S) (k2 : List KI) (s2 : S) (K : AEx → S → Prop) : Prop := if b = true then EX P k1 K s1 else EX P k2 K s2
section
variable {P : Program} {r : List KI} {K : AEx → S → Prop} {s s1 s2 : S} {k1 k2 : List KI} {dst : Option Nat} {l : List Stmt} {g : Nat} {want : Bool} {op : SOp} {b : Bool}
theorem exB_tt : exB P true k1 s1 k2 s2 K = EX P k1 K s1 := by simp [exB]
theorem exB_ff : exB P false k1 s1 k2 s2 K = EX P k2 K s2 := by simp [exB]
theorem exB_intro (h1 : b = true → EX P k1 K s1) (h2 : b = false → EX P k2 K s2) : exB P b k1 s1 k2 s2 K := by
  cases b
  · rw [exB_ff]; exact h2 rfl
  · rw [exB_tt]; exact h1 rfl
theorem exB_dec {p : Prop} [Decidable p] (h1 : p → EX P k1 K s1) (h2 : ¬ p → EX P k2 K s2) : exB P (decide p) k1 s1 k2 s2 K :=
  exB_intro (fun h => h1 (of_decide_eq_true h)) (fun h => h2 (of_decide_eq_false h))
theorem exIf_B : exIf P (.v (.raw (.bool b))) k1 k2 K s = exB P b k1 s k2 s K := rfl
theorem exGd_Bt (he : get s.env g = some (.v (.raw (.bool b)))) : exGd P (.v (.raw (.bool b))) g true dst op l r K s = exB P b (.ops (⟨dst, none, op⟩ :: l) :: r) { s with env := put s.env g (.v (.raw (.bool true))) } (.ops l :: r) (S.drop { s with env := put s.env g (.v (.raw (.bool false))) } dst) K := by
  cases b
  · rw [exB_ff, put_self he, exGd_ft]
  · rw [exB_tt, put_self he, exGd_tt]
theorem exGd_Bf (he : get s.env g = some (.v (.raw (.bool b)))) : exGd P (.v (.raw (.bool b))) g false dst op l r K s = exB P b (.ops l :: r) (S.drop { s with env := put s.env g (.v (.raw (.bool true))) } dst) (.ops (⟨dst, none, op⟩ :: l) :: r) { s with env := put s.env g (.v (.raw (.bool false))) } K := by
  cases b
  · rw [exB_ff, put_self he, exGd_ff]
  · rw [exB_tt, put_self he, exGd_tf]
theorem exGq_Bt (he : get s.env g = some (.v (.raw (.bool b)))) : exGq P (.v (.raw (.bool b))) g true dst op l r K s = exB P b (.qops (⟨dst, none, op⟩ :: l) :: r) { s with env := put s.env g (.v (.raw (.bool true))) } (.qops l :: r) (S.drop { s with env := put s.env g (.v (.raw (.bool false))) } dst) K := by
  cases b
  · rw [exB_ff, put_self he, exGq_ft]
  · rw [exB_tt, put_self he, exGq_tt]
theorem exGq_Bf (he : get s.env g = some (.v (.raw (.bool b)))) : exGq P (.v (.raw (.bool b))) g false dst op l r K s = exB P b (.qops l :: r) (S.drop { s with env := put s.env g (.v (.raw (.bool true))) } dst) (.qops (⟨dst, none, op⟩ :: l) :: r) { s with env := put s.env g (.v (.raw (.bool false))) } K := by
  cases b
  · rw [exB_ff, put_self he, exGq_ff]
  · rw [exB_tt, put_self he, exGq_tf]
end

theorem fin_ {Q : AV → AHeap → Prop} {v v' : AV} {H : AHeap} (h : Q v H) (e : v' = v) : Q v' H := e ▸ h

end Go.Proofs.Ytejmcijcdhoogaa.Abs
