import Derived.Test.YtkephdahbplhfaaW1
set_option linter.unusedSimpArgs false
set_option linter.unusedVariables false
/- Plain facts of the tokens of a text: signs and a byte, blanks, and blanks and notes between tokens. -/
namespace Go.Proofs.Ytkephdahbplhfaa
open Go Abs
attribute [local irreducible] EX exL exG exC exCq exS exV exIf exGd exGq

theorem tk_signs (r : List UInt8) : ∀ (n : Nat) (k : Int), (tk (List.replicate n 59 ++ r) k).2 = (tk r (k + n)).2
  | 0, k => by simp
  | n + 1, k => by
    rw [List.replicate_succ, List.cons_append, tk_sign (by decide), consT]
    dsimp only
    rw [tk_signs r n, show k + 1 + (n : Int) = k + ((n + 1 : Nat) : Int) by omega]
theorem tk_spaces : ∀ (n : Nat) (k : Int), tk (List.replicate n 32) k = ([], -1)
  | 0, k => tk_nil k
  | n + 1, k => by rw [List.replicate_succ, tk_blank (.inl (by decide)), tk_spaces n]
/-- which bytes begin something -/
def okB (c : UInt8) : Prop := (97 ≤ bI c ∧ bI c ≤ 122) ∨ (48 ≤ bI c ∧ bI c ≤ 57) ∨ bI c = 32 ∨ bI c = 10 ∨ bI c = 35 ∨ bI c = 59
instance (c : UInt8) : Decidable (okB c) := by unfold okB; infer_instance
theorem tk_one_ok {c : UInt8} {k : Int} (h : okB c) : (tk [c] k).2 = -1 := by
  rcases h with h | h | h | h | h | h
  · rw [tk_word (by simpa [wl] using h)]; simp [consT, tk_nil]
  · rw [tk_num (by simpa [wd] using h)]; simp [consT, tk_nil]
  · rw [tk_blank (.inl h), tk_nil]
  · rw [tk_blank (.inr h), tk_nil]
  · rw [tk_note h]; simp [tk_nil]
  · rw [tk_sign h]; simp [consT, tk_nil]
theorem tk_one_bad {c : UInt8} {k : Int} (h : ¬ okB c) : (tk [c] k).2 = k := by
  unfold okB at h
  rw [tk_bad (by omega) (by omega) (by simp only [wl, decide_eq_false_iff_not]; omega) (by simp only [wd, decide_eq_false_iff_not]; omega) (by omega)]

/-- a token by itself -/
def Tok.ok (t : Tok) : Prop :=
  (t.kind = 1 ∧ ∃ c r, t.text = c :: r ∧ wl c = true ∧ ∀ b ∈ r, inW b = true) ∨ (t.kind = 2 ∧ ∃ c r, t.text = c :: r ∧ wd c = true ∧ ∀ b ∈ r, inN b = true) ∨ (t.kind = 3 ∧ ∃ c, t.text = [c] ∧ bI c = 59)
theorem mem_takeWhile {p : UInt8 → Bool} : ∀ {l : List UInt8} {b : UInt8}, b ∈ l.takeWhile p → p b = true
  | [], _, h => by simp at h
  | c :: l, b, h => by
    rw [List.takeWhile_cons] at h
    split at h
    · rename_i hc
      rcases List.mem_cons.1 h with rfl | h
      · exact hc
      · exact mem_takeWhile h
    · simp at h
theorem takeWhile_le {p : UInt8 → Bool} (l : List UInt8) : (l.takeWhile p).length ≤ l.length := (List.takeWhile_sublist p).length_le
/-- what is so of all tokens -/
theorem tk_all : ∀ (n : Nat) (l : List UInt8) (k : Int), l.length ≤ n → (tk l k).1.length ≤ l.length ∧ ∀ t ∈ (tk l k).1, t.ok ∧ t.text.length ≤ l.length
  | 0, l, k, h => by
    obtain rfl := List.eq_nil_of_length_eq_zero (Nat.le_zero.1 h)
    rw [tk_nil]
    simp
  | n + 1, [], k, h => by rw [tk_nil]; simp
  | n + 1, c :: r, k, h => by
    simp only [List.length_cons] at h
    have up : ∀ {t : Tok} {m : List UInt8}, m.length ≤ r.length → t.ok ∧ t.text.length ≤ m.length → t.ok ∧ t.text.length ≤ (c :: r).length := fun hm ht => ⟨ht.1, by simp only [List.length_cons]; omega⟩
    have d1 := dropWhile_le inC r
    have d2 := dropWhile_le inW r
    have d3 := dropWhile_le inN r
    have e2 := takeWhile_le (p := inW) r
    have e3 := takeWhile_le (p := inN) r
    rw [tk]
    split
    · have := tk_all n r (k + 1) (by omega)
      exact ⟨by simp only [List.length_cons]; omega, fun t ht => up (Nat.le_refl _) (this.2 t ht)⟩
    split
    · have := tk_all n (r.dropWhile inC) (k + 1 + (r.takeWhile inC).length) (by omega)
      exact ⟨by simp only [List.length_cons]; omega, fun t ht => up d1 (this.2 t ht)⟩
    split
    · rename_i hc
      have := tk_all n (r.dropWhile inW) (k + 1 + (r.takeWhile inW).length) (by omega)
      refine ⟨by simp only [consT, List.length_cons]; omega, fun t ht => ?_⟩
      rcases List.mem_cons.1 ht with rfl | ht
      · exact ⟨.inl ⟨rfl, c, _, rfl, hc, fun b hb => mem_takeWhile hb⟩, by simp only [List.length_cons]; omega⟩
      · exact up d2 (this.2 t ht)
    split
    · rename_i hc
      have := tk_all n (r.dropWhile inN) (k + 1 + (r.takeWhile inN).length) (by omega)
      refine ⟨by simp only [consT, List.length_cons]; omega, fun t ht => ?_⟩
      rcases List.mem_cons.1 ht with rfl | ht
      · exact ⟨.inr (.inl ⟨rfl, c, _, rfl, hc, fun b hb => mem_takeWhile hb⟩), by simp only [List.length_cons]; omega⟩
      · exact up d3 (this.2 t ht)
    split
    · rename_i hc
      have := tk_all n r (k + 1) (by omega)
      refine ⟨by simp only [consT, List.length_cons]; omega, fun t ht => ?_⟩
      rcases List.mem_cons.1 ht with rfl | ht
      · exact ⟨.inr (.inr ⟨rfl, c, rfl, hc⟩), by simp⟩
      · exact up (Nat.le_refl _) (this.2 t ht)
    · simp

/-! ### blanks and notes between tokens -/
def PadOk (p : List UInt8) : Prop := ∀ (r : List UInt8) (k : Int), tk (p ++ r) k = tk r (k + p.length)
theorem PadOk.append {p q : List UInt8} (h1 : PadOk p) (h2 : PadOk q) : PadOk (p ++ q) := by
  intro r k
  rw [List.append_assoc, h1, h2, List.length_append]
  congr 1
  omega
theorem pad_space : PadOk [32] := fun r k => by rw [List.singleton_append, tk_blank (.inl (by decide))]; rfl
theorem pad_two : PadOk [10, 32] := fun r k => by
  rw [List.cons_append, List.singleton_append, tk_blank (.inr (by decide)), tk_blank (.inl (by decide))]
  congr 1
  simp only [List.length_cons, List.length_nil]
  omega
theorem pad_note : PadOk [35, 32, 120, 59, 10] := fun r k => by
  have e : ([35, 32, 120, 59, 10] : List UInt8) ++ r = 35 :: 32 :: 120 :: 59 :: 10 :: r := rfl
  have e1 : (32 :: 120 :: 59 :: 10 :: r : List UInt8).takeWhile inC = [32, 120, 59] := by
    simp only [List.takeWhile_cons, show inC 32 = true by decide, show inC 120 = true by decide, show inC 59 = true by decide, show inC 10 = false by decide, if_true, Bool.false_eq_true, if_false]
  have e2 : (32 :: 120 :: 59 :: 10 :: r : List UInt8).dropWhile inC = 10 :: r := by
    simp only [List.dropWhile_cons, show inC 32 = true by decide, show inC 120 = true by decide, show inC 59 = true by decide, show inC 10 = false by decide, if_true, Bool.false_eq_true, if_false]
  rw [e, tk_note (by decide), e1, e2, tk_blank (.inr (by decide))]
  congr 1
  simp only [List.length_cons, List.length_nil]
  omega
theorem takeWhile_stop {p : UInt8 → Bool} {l r : List UInt8} {c : UInt8} (h : ∀ b ∈ l, p b = true) (hc : p c = false) : (l ++ c :: r).takeWhile p = l ∧ (l ++ c :: r).dropWhile p = c :: r := by
  induction l with
  | nil => simp [List.takeWhile_cons, List.dropWhile_cons, hc]
  | cons b l ih =>
    obtain ⟨h1, h2⟩ := ih fun x hx => h x (by simp [hx])
    simp [List.takeWhile_cons, List.dropWhile_cons, h b (by simp), h1, h2]
theorem tk_tok {t : Tok} (h : t.ok) (r : List UInt8) (k : Int) : tk (t.text ++ 32 :: r) k = consT ⟨t.kind, k, t.text⟩ (tk (32 :: r) (k + t.text.length)) := by
  rcases h with ⟨hk, c, q, he, hc, hq⟩ | ⟨hk, c, q, he, hc, hq⟩ | ⟨hk, c, he, hc⟩
  · obtain ⟨h1, h2⟩ := takeWhile_stop (r := r) (c := 32) hq (by decide)
    rw [he, List.cons_append, tk_word hc, h1, h2, hk]
    congr 2
    simp only [List.length_cons]
    omega
  · obtain ⟨h1, h2⟩ := takeWhile_stop (r := r) (c := 32) hq (by decide)
    rw [he, List.cons_append, tk_num hc, h1, h2, hk]
    congr 2
    simp only [List.length_cons]
    omega
  · rw [he, List.singleton_append, tk_sign hc, hk]
    rfl

def kt (t : Tok) : Int × List UInt8 := (t.kind, t.text)
/-- the text so far: it has the tokens that it is to have, whatever follows a blank -/
def BInv (ts : List Tok) (t : List UInt8) (m : Nat) : Prop := ∃ out : List Tok, out.map kt = (ts.take m).map kt ∧ ∀ r : List UInt8, tk (t ++ 32 :: r) 0 = (out ++ (tk (32 :: r) t.length).1, (tk (32 :: r) t.length).2)
theorem binv_nil (ts : List Tok) : BInv ts [] 0 := ⟨[], rfl, fun r => by simp⟩
theorem binv_step {ts : List Tok} {t p : List UInt8} {m : Nat} {x : Tok} (h : BInv ts t m) (hx : ts[m]? = some x) (hok : x.ok) (hp : PadOk (32 :: p)) : BInv ts (t ++ (32 :: p) ++ x.text) (m + 1) := by
  obtain ⟨out, h1, h2⟩ := h
  have hm : m < ts.length := (List.getElem?_eq_some_iff.1 hx).1
  refine ⟨out ++ [⟨x.kind, t.length + (32 :: p).length, x.text⟩], ?_, fun r => ?_⟩
  · rw [List.take_add_one, hx, List.map_append, List.map_append, h1]
    rfl
  · have e : t ++ (32 :: p) ++ x.text ++ 32 :: r = t ++ 32 :: (p ++ (x.text ++ 32 :: r)) := by simp
    rw [e, h2]
    have e2 : (32 :: (p ++ (x.text ++ 32 :: r)) : List UInt8) = (32 :: p) ++ (x.text ++ 32 :: r) := rfl
    rw [e2, hp, tk_tok hok]
    have e3 : ((t ++ 32 :: p ++ x.text).length : Int) = t.length + (32 :: p : List UInt8).length + x.text.length := by
      simp only [List.length_append, List.length_cons]; omega
    rw [e3]
    simp [consT]
theorem binv_end {ts : List Tok} {t p : List UInt8} (h : BInv ts t ts.length) (hp : PadOk (32 :: p)) : (tk (t ++ 32 :: p) 0).2 = -1 ∧ (tk (t ++ 32 :: p) 0).1.map kt = ts.map kt := by
  obtain ⟨out, h1, h2⟩ := h
  have := hp [] t.length
  rw [List.append_nil, tk_nil] at this
  rw [h2, this]
  simpa using h1
end Go.Proofs.Ytkephdahbplhfaa
