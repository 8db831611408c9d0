import Derived.Test.YtkephdahbplhfaaAbsZ
set_option linter.unusedSimpArgs false
set_option linter.unusedVariables false
/- Texts as lists of bytes, and how one is taken apart, in plain Lean. -/
namespace Go.Proofs.Ytkephdahbplhfaa
open Go Abs
attribute [local irreducible] EX exL exG exC exCq exS exV exIf exGd exGq

/-- a text -/
abbrev sv (l : List UInt8) : AV := .raw (.string ⟨l.toArray⟩)
/-- a byte as a number -/
def bI (b : UInt8) : Int := (b.toNat : Int)
theorem bI_range (b : UInt8) : 0 ≤ bI b ∧ bI b ≤ 255 := by
  have := b.toNat_lt
  unfold bI
  omega
theorem bI_fold (b : UInt8) : (b.toNat : Int) = bI b := rfl
theorem bI_inj {a b : UInt8} (h : bI a = bI b) : a = b := UInt8.toNat_inj.1 (by unfold bI at h; omega)
theorem sv_size (l : List UInt8) : (⟨l.toArray⟩ : ByteArray).size = l.length := by simp [ByteArray.size]
theorem sv_append (l m : List UInt8) : (⟨l.toArray⟩ : ByteArray) ++ ⟨m.toArray⟩ = ⟨(l ++ m).toArray⟩ := by
  apply ByteArray.ext
  simp
theorem sv_extract (l : List UInt8) (a b : Nat) : (⟨l.toArray⟩ : ByteArray).extract a b = ⟨((l.take b).drop a).toArray⟩ := by
  apply ByteArray.ext
  rw [ByteArray.data_extract]
  apply Array.ext'
  simp [List.drop_take]
theorem sv_get (l : List UInt8) (i : Nat) : (⟨l.toArray⟩ : ByteArray)[i]? = l[i]? := by
  by_cases h : i < l.length
  · rw [getElem?_pos _ _ (by simpa [ByteArray.size] using h), List.getElem?_eq_getElem h]
    rfl
  · rw [getElem?_neg _ _ (by simpa [ByteArray.size] using h), List.getElem?_eq_none (by omega)]
theorem sv_eq (l m : List UInt8) : ((⟨l.toArray⟩ : ByteArray) = ⟨m.toArray⟩) = (l = m) := by
  simp [ByteArray.mk.injEq]
theorem sv_of (s : ByteArray) : ∃ l : List UInt8, s = ⟨l.toArray⟩ := ⟨s.data.toList, by cases s; simp⟩
theorem get_gi {α : Type} [Inhabited α] {l : List α} {i : Int} (h0 : 0 ≤ i) (h1 : i < l.length) : l[i.toNat]? = some (gi l i) := by
  have h : i.toNat < l.length := by omega
  rw [List.getElem?_eq_getElem h, gi_get h]
theorem binq_sadd {l m : List UInt8} (h : l.length + m.length ≤ 9223372036854775807) : binq .add (.v (sv l)) (.v (sv m)) = some (.v (sv (l ++ m))) := by
  have : ¬ (((l.length + m.length : Nat) : Int) > IntKind.i64.max) := by
    have : IntKind.i64.max = 9223372036854775807 := by decide
    omega
  simp only [binq, scalar2, sv_size, if_neg this, Option.map_some, sv_append]
/-- bytes as cells -/
abbrev yv (b : UInt8) : AV := .raw (.int .u8 (bI b))
theorem bytesq_map : ∀ l : List UInt8, bytesq (l.map yv) = some l
  | [] => rfl
  | b :: l => by
    simp only [List.map_cons, bytesq, bytesq_map l, Option.map_some, bI, Int.toNat_natCast, UInt8.ofNat_toNat]

theorem b2sq_vec {L : List (Nat × LObj)} {H : AHeap} {nl : Bool} (l : List UInt8) : b2sq L H (.v (.vec nl (l.map yv) l.length)) = some (.v (sv l)) := by
  unfold b2sq
  simp only [lenq]
  by_cases h : l.length = 0
  · rw [if_pos h, List.eq_nil_of_length_eq_zero h]
  · rw [if_neg h]
    have : (0 : Int) < (l.length : Nat) := by omega
    simp only [iaq, Int.le_refl, this, and_self, if_true, rdA, Int.toNat_zero, Nat.zero_mul, List.drop_zero]
    rw [List.take_of_length_le (by simp), bytesq_map]
    simp
theorem b2sq_own {L : List (Nat × LObj)} {H : AHeap} {nl : Bool} {d e : Nat} (l : List UInt8) (hg : get L d = some (.arr nl (l.map yv) l.length e 1)) : b2sq L H (.own d) = some (.v (sv l)) := by
  unfold b2sq
  simp only [lenq, hg]
  by_cases h : l.length = 0
  · rw [if_pos h, List.eq_nil_of_length_eq_zero h]
  · rw [if_neg h]
    have : (0 : Int) < (l.length : Nat) := by omega
    simp only [iaq, hg, Int.le_refl, this, and_self, if_true, rdA, Int.toNat_zero, Nat.zero_mul, List.drop_zero]
    rw [List.take_of_length_le (by simp), bytesq_map]
    simp

/-! ### which bytes begin what -/
def wl (b : UInt8) : Bool := decide (97 ≤ bI b ∧ bI b ≤ 122)
def wd (b : UInt8) : Bool := decide (48 ≤ bI b ∧ bI b ≤ 57)
def inW (b : UInt8) : Bool := wl b || wd b || decide (bI b = 45)
def inN (b : UInt8) : Bool := wd b || decide (bI b = 46) || decide (bI b = 47)
def inC (b : UInt8) : Bool := decide (¬ bI b = 10)

structure Tok where
  kind : Int
  pos : Int
  text : List UInt8
  deriving Inhabited
instance : Enc Tok where
  sz := 3
  cells t := [iv t.kind, iv t.pos, sv t.text]
  len _ := rfl
  pos := by decide
theorem Tok.cells_eq (t : Tok) : Enc.cells t = [iv t.kind, iv t.pos, sv t.text] := rfl
theorem Tok.sz_eq : Enc.sz Tok = 3 := rfl
theorem rd_tok {l : List Tok} {i : Int} (h0 : 0 ≤ i) (h1 : i < l.length) : rdV (rows l) (i.toNat * 3) 3 true = some (.agg [iv (gi l i).kind, iv (gi l i).pos, sv (gi l i).text]) := rd_row rfl h0 h1
theorem rd_tok0 {l : List Tok} {i : Int} {m : Nat} (h0 : 0 ≤ i) (h1 : i < l.length) : rdV (rows l) (i.toNat * 3) m false = some (iv (gi l i).kind) := rd_field0 rfl h0 h1
theorem rd_tok1 {l : List Tok} {i : Int} {m : Nat} (h0 : 0 ≤ i) (h1 : i < l.length) : rdV (rows l) (i.toNat * 3 + 1) m false = some (iv (gi l i).pos) := rd_field rfl (by decide) h0 h1
theorem rd_tok2 {l : List Tok} {i : Int} {m : Nat} (h0 : 0 ≤ i) (h1 : i < l.length) : rdV (rows l) (i.toNat * 3 + 2) m false = some (sv (gi l i).text) := rd_field rfl (by decide) h0 h1

theorem dropWhile_le {α : Type} (p : α → Bool) (l : List α) : (l.dropWhile p).length ≤ l.length := (List.dropWhile_sublist p).length_le

def consT (t : Tok) (x : List Tok × Int) : List Tok × Int := (t :: x.1, x.2)
/-- the tokens of a text that begins at a place; a number that is not -1: there begins nothing -/
def tk : List UInt8 → Int → List Tok × Int
  | [], _ => ([], -1)
  | c :: r, k =>
    if bI c = 32 ∨ bI c = 10 then tk r (k + 1)
    else if bI c = 35 then tk (r.dropWhile inC) (k + 1 + (r.takeWhile inC).length)
    else if wl c = true then consT ⟨1, k, c :: r.takeWhile inW⟩ (tk (r.dropWhile inW) (k + 1 + (r.takeWhile inW).length))
    else if wd c = true then consT ⟨2, k, c :: r.takeWhile inN⟩ (tk (r.dropWhile inN) (k + 1 + (r.takeWhile inN).length))
    else if bI c = 59 then consT ⟨3, k, [c]⟩ (tk r (k + 1))
    else ([], k)
termination_by l => l.length
decreasing_by
  all_goals first
    | (simp only [List.length_cons]; have := dropWhile_le inC r; omega)
    | (simp only [List.length_cons]; have := dropWhile_le inW r; omega)
    | (simp only [List.length_cons]; have := dropWhile_le inN r; omega)
theorem tk_nil (k : Int) : tk [] k = ([], -1) := by rw [tk]
theorem tk_blank {c : UInt8} {r : List UInt8} {k : Int} (h : bI c = 32 ∨ bI c = 10) : tk (c :: r) k = tk r (k + 1) := by rw [tk, if_pos h]
theorem tk_note {c : UInt8} {r : List UInt8} {k : Int} (h : bI c = 35) : tk (c :: r) k = tk (r.dropWhile inC) (k + 1 + (r.takeWhile inC).length) := by
  rw [tk, if_neg (by omega), if_pos h]
theorem tk_word {c : UInt8} {r : List UInt8} {k : Int} (h : wl c = true) : tk (c :: r) k = consT ⟨1, k, c :: r.takeWhile inW⟩ (tk (r.dropWhile inW) (k + 1 + (r.takeWhile inW).length)) := by
  have h' := h
  simp only [wl, decide_eq_true_eq] at h'
  rw [tk, if_neg (by omega), if_neg (by omega), if_pos h]
theorem tk_num {c : UInt8} {r : List UInt8} {k : Int} (h : wd c = true) : tk (c :: r) k = consT ⟨2, k, c :: r.takeWhile inN⟩ (tk (r.dropWhile inN) (k + 1 + (r.takeWhile inN).length)) := by
  have h' := h
  simp only [wd, decide_eq_true_eq] at h'
  rw [tk, if_neg (by omega), if_neg (by omega), if_neg (by simp [wl]; omega), if_pos h]
theorem tk_sign {c : UInt8} {r : List UInt8} {k : Int} (h : bI c = 59) : tk (c :: r) k = consT ⟨3, k, [c]⟩ (tk r (k + 1)) := by
  rw [tk, if_neg (by omega), if_neg (by omega), if_neg (by simp [wl]; omega), if_neg (by simp [wd]; omega), if_pos h]
theorem tk_bad {c : UInt8} {r : List UInt8} {k : Int} (h1 : ¬ (bI c = 32 ∨ bI c = 10)) (h2 : ¬ bI c = 35) (h3 : wl c = false) (h4 : wd c = false) (h5 : ¬ bI c = 59) : tk (c :: r) k = ([], k) := by
  rw [tk, if_neg h1, if_neg h2, if_neg (by simp [h3]), if_neg (by simp [h4]), if_neg h5]

/-- where a run of bytes of a kind ends -/
theorem tw_run {p : UInt8 → Bool} {l : List UInt8} {f a : Int} (f0 : 0 ≤ f) (hfa : f ≤ a) (ha : a ≤ l.length) (hall : ∀ k, f ≤ k → k < a → p (gi l k) = true) (hend : a < l.length → p (gi l a) = false) :
    (l.drop f.toNat).takeWhile p = (l.drop f.toNat).take (a - f).toNat ∧ (l.drop f.toNat).dropWhile p = l.drop a.toNat := by
  obtain ⟨n, hn⟩ : ∃ n : Nat, a = f + n := ⟨(a - f).toNat, by omega⟩
  subst hn
  induction n generalizing f with
  | zero =>
    rw [show (f + ((0 : Nat) : Int) - f).toNat = 0 by omega, List.take_zero]
    by_cases h : f < l.length
    · rw [drop_gi f0 h, List.takeWhile_cons, List.dropWhile_cons]
      have hp := hend (by omega)
      rw [show f + ((0 : Nat) : Int) = f by omega] at hp ⊢
      rw [hp, if_neg (by simp), if_neg (by simp), drop_gi f0 h]
      exact ⟨rfl, rfl⟩
    · rw [show f + ((0 : Nat) : Int) = f by omega, drop_end (by omega)]
      exact ⟨rfl, rfl⟩
  | succ n ih =>
    have hl : f < l.length := by omega
    have hp := hall f (Int.le_refl _) (by omega)
    obtain ⟨h1, h2⟩ := @ih (f + 1) (by omega) (by omega) (by omega) (fun k k0 k1 => hall k (by omega) (by omega)) (by rw [show f + 1 + (n : Int) = f + ((n + 1 : Nat) : Int) by omega]; exact hend)
    rw [drop_gi f0 hl, List.takeWhile_cons, List.dropWhile_cons, hp, if_pos rfl, if_pos rfl, h1, h2]
    rw [show (f + ((n + 1 : Nat) : Int) - f).toNat = (f + 1 + (n : Int) - (f + 1)).toNat + 1 by omega, List.take_succ_cons, show f + 1 + (n : Int) = f + ((n + 1 : Nat) : Int) by omega]
    exact ⟨rfl, rfl⟩
/-- the first of a run is known already -/
theorem tw_first {p : UInt8 → Bool} {c : UInt8} {r : List UInt8} (h : p c = true) : (c :: r).takeWhile p = c :: r.takeWhile p ∧ (c :: r).dropWhile p = r.dropWhile p := by
  rw [List.takeWhile_cons, List.dropWhile_cons, h, if_pos rfl, if_pos rfl]
  exact ⟨rfl, rfl⟩
theorem tk_run {p : UInt8 → Bool} {l : List UInt8} {k a : Int} (k0 : 0 ≤ k) (hka : k < a) (a1 : a ≤ l.length) (hall : ∀ j, k ≤ j → j < a → p (gi l j) = true) (hend : a < l.length → p (gi l a) = false) :
    gi l k :: (l.drop (k + 1).toNat).takeWhile p = (l.take a.toNat).drop k.toNat ∧ (l.drop (k + 1).toNat).dropWhile p = l.drop a.toNat ∧ k + 1 + ((l.drop (k + 1).toNat).takeWhile p).length = a := by
  obtain ⟨h1, h2⟩ := tw_run k0 (by omega) a1 hall hend
  obtain ⟨h3, h4⟩ := @tw_first p (gi l k) (l.drop (k + 1).toNat) (hall k (Int.le_refl _) hka)
  rw [drop_gi k0 (by omega), h3] at h1
  rw [drop_gi k0 (by omega), h4] at h2
  have h5 : (gi l k :: l.drop (k + 1).toNat).take (a - k).toNat = (l.take a.toNat).drop k.toNat := by
    rw [← drop_gi k0 (by omega), List.drop_take, show a.toNat - k.toNat = (a - k).toNat by omega]
  have h6 := congrArg List.length h1
  rw [List.length_cons, List.length_take, List.length_cons, List.length_drop] at h6
  exact ⟨h1.trans h5, h2, by omega⟩
end Go.Proofs.Ytkephdahbplhfaa
