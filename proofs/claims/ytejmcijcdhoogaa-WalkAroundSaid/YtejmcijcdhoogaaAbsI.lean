import Derived.Test.YtejmcijcdhoogaaAbsH
set_option linter.unusedSimpArgs false
set_option linter.unusedVariables false
set_option linter.unusedSectionVars false
namespace Go.Proofs.Ytejmcijcdhoogaa.Abs
open Go

/-! ### lists of like things as cells -/
class Enc (α : Type) where
  sz : Nat
  cells : α → List AV
  len : ∀ a, (cells a).length = sz
  pos : 0 < sz
def rows {α : Type} [Enc α] (l : List α) : List AV := l.flatMap Enc.cells
def gi {α : Type} [Inhabited α] (l : List α) (i : Int) : α := l.getD i.toNat default

section
variable {α : Type} [Enc α] [Inhabited α] {l : List α} {i : Int}
theorem rows_length (l : List α) : (rows l).length = l.length * Enc.sz α := by
  induction l with
  | nil => simp [rows]
  | cons a l ih =>
    have : rows (a :: l) = Enc.cells a ++ rows l := rfl
    rw [this, List.length_append, ih, Enc.len, List.length_cons, Nat.add_mul, Nat.one_mul, Nat.add_comm]
theorem rows_append (l m : List α) : rows (l ++ m) = rows l ++ rows m := by simp [rows]
theorem rows_one (a : α) : rows [a] = Enc.cells a := by simp [rows]
theorem rows_nil : rows ([] : List α) = [] := rfl
theorem rows_drop : ∀ (l : List α) (n : Nat), (rows l).drop (n * Enc.sz α) = rows (l.drop n)
  | l, 0 => by simp
  | [], n + 1 => by simp [rows]
  | a :: l, n + 1 => by
    have : rows (a :: l) = Enc.cells a ++ rows l := rfl
    rw [this, List.drop_append, Enc.len, List.drop_of_length_le (by rw [Enc.len, Nat.add_mul]; omega), List.nil_append, show (n + 1) * Enc.sz α - Enc.sz α = n * Enc.sz α by rw [Nat.add_mul]; omega, rows_drop l n]
    rfl
theorem rows_take : ∀ (l : List α) (n : Nat), (rows l).take (n * Enc.sz α) = rows (l.take n)
  | l, 0 => by simp [rows]
  | [], n + 1 => by simp [rows]
  | a :: l, n + 1 => by
    have : rows (a :: l) = Enc.cells a ++ rows l := rfl
    rw [this, List.take_append, Enc.len, List.take_of_length_le (by rw [Enc.len, Nat.add_mul]; omega), show (n + 1) * Enc.sz α - Enc.sz α = n * Enc.sz α by rw [Nat.add_mul]; omega, rows_take l n]
    rfl
theorem rows_at (l : List α) (n : Nat) (h : n < l.length) : ((rows l).drop (n * Enc.sz α)).take (Enc.sz α) = Enc.cells l[n] := by
  rw [rows_drop, show Enc.sz α = 1 * Enc.sz α by omega, rows_take]
  have : (l.drop n).take 1 = [l[n]] := by
    rw [List.drop_eq_getElem_cons h]; rfl
  rw [this, rows_one]
theorem rows_get (l : List α) (n j : Nat) (h : n < l.length) (hj : j < Enc.sz α) : (rows l)[n * Enc.sz α + j]? = (Enc.cells l[n])[j]? := by
  rw [← rows_at l n h, List.getElem?_take, if_pos hj, List.getElem?_drop]
theorem gi_eq (h : i.toNat < l.length) : gi l i = l[i.toNat] := by
  simp [gi, h]

theorem rd_row {n : Nat} (hn : n = Enc.sz α) (h0 : 0 ≤ i) (h1 : i < l.length) : rdV (rows l) (i.toNat * n) n true = some (.agg (Enc.cells (gi l i))) := by
  subst hn
  have hlt : i.toNat < l.length := by omega
  have hle : i.toNat * Enc.sz α + Enc.sz α ≤ (rows l).length := by
    rw [rows_length]
    have := Nat.mul_le_mul_right (Enc.sz α) (show i.toNat + 1 ≤ l.length by omega)
    rw [Nat.add_mul] at this
    omega
  unfold rdV
  rw [if_pos rfl, if_pos hle, rows_at l _ hlt, gi_eq hlt]
theorem rd_field {n j m : Nat} (hn : n = Enc.sz α) (hj : j < Enc.sz α) (h0 : 0 ≤ i) (h1 : i < l.length) : rdV (rows l) (i.toNat * n + j) m false = (Enc.cells (gi l i))[j]? := by
  subst hn
  have hlt : i.toNat < l.length := by omega
  unfold rdV
  rw [if_neg (by simp), rows_get l _ _ hlt hj, gi_eq hlt]
theorem rd_field0 {n m : Nat} (hn : n = Enc.sz α) (h0 : 0 ≤ i) (h1 : i < l.length) : rdV (rows l) (i.toNat * n) m false = (Enc.cells (gi l i))[0]? := by
  have := rd_field (m := m) hn Enc.pos h0 h1
  simpa using this
theorem rd_map {β : Type} [Inhabited β] {l : List β} {f : β → AV} {n : Nat} (h0 : 0 ≤ i) (h1 : i < l.length) : rdV (l.map f) (i.toNat * 1) n false = some (f (gi l i)) := by
  have hlt : i.toNat < l.length := by omega
  simp [rdV, gi, hlt]
end

theorem rdV_t {c : AV} {cs : List AV} {o n : Nat} : rdV (c :: cs) o n true = if o + n ≤ (c :: cs).length then some (.agg (((c :: cs).drop o).take n)) else none := rfl
theorem rdV_f {c : AV} {cs : List AV} {o n : Nat} : rdV (c :: cs) o n false = (c :: cs)[o]? := rfl
theorem iaq_vec {L : List (Nat × LObj)} {sz n : Nat} {i : Int} {nl : Bool} {cs : List AV} (h0 : 0 ≤ i) (h1 : i < n) : iaq L sz i (.v (.vec nl cs n)) = some (.v (.box cs (i.toNat * sz))) := by
  simp [iaq, h0, h1]
theorem iaq_own {L : List (Nat × LObj)} {sz n d e sz' : Nat} {i : Int} {nl : Bool} {cs : List AV} (hg : get L d = some (.arr nl cs n e sz')) (h0 : 0 ≤ i) (h1 : i < n) : iaq L sz i (.own d) = some (.loc d (i.toNat * sz)) := by
  simp [iaq, hg, h0, h1]
theorem iaq_raw {L : List (Nat × LObj)} {sz n b o cap : Nat} {i : Int} (h0 : 0 ≤ i) (h1 : i < n) : iaq L sz i (.v (.raw (.slice (some ⟨b, o, none⟩) n cap))) = some (.v (.raw (.pointer (some ⟨b, o + i.toNat * sz, none⟩)))) := by
  simp [iaq, h0, h1]

def iao (sz : Nat) (i : Int) (d : Nat) : Option LObj → Option SV
  | some (.arr _ _ n _ _) => if 0 ≤ i ∧ i < n then some (.loc d (i.toNat * sz)) else none
  | _ => none
theorem iaq_ownE {L : List (Nat × LObj)} {sz d : Nat} {i : Int} : iaq L sz i (.own d) = iao sz i d (get L d) := rfl
theorem iao_arr {sz d n e sz' : Nat} {i : Int} {nl : Bool} {cs : List AV} (h0 : 0 ≤ i) (h1 : i < n) : iao sz i d (some (.arr nl cs n e sz')) = some (.loc d (i.toNat * sz)) := by
  simp [iao, h0, h1]
theorem set_bools {l : List Bool} {k : Nat} {x : Bool} : (l.map bv).set (k * 1) (.raw (.bool x)) = (l.set k x).map bv := by rw [Nat.mul_one, List.map_set]
theorem set_ints {l : List Int} {k : Nat} {x : Int} : (l.map iv).set (k * 1) (.raw (.int .i64 x)) = (l.set k x).map iv := by rw [Nat.mul_one, List.map_set]

/-- append to what is the function's own -/
theorem appq_own {s : S} {dst : Option Nat} {e sz by_ d n m : Nat} {nl nly : Bool} {cs ds : List AV} (hg : get s.loc d = some (.arr nl cs n e sz)) (h1 : ds.length = m * sz) (h2 : (n + m) * by_ ≤ 140737488355328) (h3 : n + m ≤ maxLen) :
    appq s dst e sz by_ (.own d) (.v (.vec nly ds m)) = some (s.arr d dst (nl && m == 0) (cs ++ ds) (n + m) e sz) := by
  simp [appq, hg, h1, h2, h3]

theorem tdiv_pos {a b : Int} (h : 0 ≤ a) : a.tdiv b = a / b := Int.tdiv_eq_ediv_of_nonneg h
theorem tmod_pos {a b : Int} (h : 0 ≤ a) : a.tmod b = a % b := Int.tmod_eq_emod_of_nonneg h

/-- one number, one truth value is appended to what is the function's own -/
theorem exS_ints {P : Program} {s : S} {dst : Option Nat} {e by_ d : Nat} {nly : Bool} {l : List Int} {x : Int} {r : List KI} {K : AEx → S → Prop} (hg : get s.loc d = some (.arr l.isEmpty (l.map iv) l.length e 1)) (h2 : (l.length + 1) * by_ ≤ 140737488355328) (h3 : l.length + 1 ≤ maxLen)
    (k : EX P r K (s.arr d dst (l ++ [x]).isEmpty ((l ++ [x]).map iv) (l ++ [x]).length e 1)) : exS P (appq s dst e 1 by_ (.own d) (.v (.vec nly [iv x] 1))) r K := by
  rw [appq_own hg rfl h2 h3]
  have e1 : (l.isEmpty && (1 : Nat) == 0) = (l ++ [x]).isEmpty := by cases l <;> rfl
  have e2 : l.map iv ++ [iv x] = (l ++ [x]).map iv := by simp
  have e3 : l.length + 1 = (l ++ [x]).length := by simp
  rw [e1, e2, e3]
  exact k
theorem exS_bools {P : Program} {s : S} {dst : Option Nat} {e by_ d : Nat} {nly : Bool} {l : List Bool} {x : Bool} {r : List KI} {K : AEx → S → Prop} (hg : get s.loc d = some (.arr l.isEmpty (l.map bv) l.length e 1)) (h2 : (l.length + 1) * by_ ≤ 140737488355328) (h3 : l.length + 1 ≤ maxLen)
    (k : EX P r K (s.arr d dst (l ++ [x]).isEmpty ((l ++ [x]).map bv) (l ++ [x]).length e 1)) : exS P (appq s dst e 1 by_ (.own d) (.v (.vec nly [bv x] 1))) r K := by
  rw [appq_own hg rfl h2 h3]
  have e1 : (l.isEmpty && (1 : Nat) == 0) = (l ++ [x]).isEmpty := by cases l <;> rfl
  have e2 : l.map bv ++ [bv x] = (l ++ [x]).map bv := by simp
  have e3 : l.length + 1 = (l ++ [x]).length := by simp
  rw [e1, e2, e3]
  exact k
theorem exS_rows {α : Type} [Enc α] [Inhabited α] {P : Program} {s : S} {dst : Option Nat} {e sz by_ d : Nat} {nly : Bool} {l : List α} (x : α) {cs : List AV} {r : List KI} {K : AEx → S → Prop} (hg : get s.loc d = some (.arr l.isEmpty (rows l) l.length e sz)) (hs : sz = Enc.sz α) (hc : cs = Enc.cells x) (h2 : (l.length + 1) * by_ ≤ 140737488355328) (h3 : l.length + 1 ≤ maxLen)
    (k : EX P r K (s.arr d dst (l ++ [x]).isEmpty (rows (l ++ [x])) (l ++ [x]).length e sz)) : exS P (appq s dst e sz by_ (.own d) (.v (.vec nly cs 1))) r K := by
  subst hs hc
  rw [appq_own hg (by rw [Enc.len, Nat.one_mul]) h2 h3]
  have e1 : (l.isEmpty && (1 : Nat) == 0) = (l ++ [x]).isEmpty := by cases l <;> rfl
  have e2 : rows l ++ Enc.cells x = rows (l ++ [x]) := by rw [rows_append, rows_one]
  have e3 : l.length + 1 = (l ++ [x]).length := by simp
  rw [e1, e2, e3]
  exact k

/-- a loop by its states: `st a` is the state with the data `a` -/
theorem exL_inv {α : Type} {P : Program} {r : List KI} {K : AEx → S → Prop} {lv : List Nat} {th : List (Nat × Nat × Nat × Nat)} {c : SCode} {s : S} (st : α → S) (inv : α → Prop) (μ : α → Nat) (a : α) (hs : s = st a) (h0 : inv a)
    (step : ∀ a, inv a → (∀ a', inv a' → μ a' < μ a → exL P lv th c r K (st a')) → EX P (.code c :: .lp lv th c :: r) K (st a)) : exL P lv th c r K s := by
  have : ∀ n a, μ a = n → inv a → exL P lv th c r K (st a) := by
    intro n
    induction n using Nat.strongRecOn with
    | _ n ih =>
      intro a hn ha
      refine exL_step (step a ha fun a' ha' hl => ih _ (hn ▸ hl) a' rfl ha')
  exact hs ▸ this _ a rfl h0

theorem drop_gi {α : Type} [Inhabited α] {l : List α} {i : Int} (h0 : 0 ≤ i) (h1 : i < l.length) : l.drop i.toNat = gi l i :: l.drop (i + 1).toNat := by
  have hlt : i.toNat < l.length := by omega
  rw [List.drop_eq_getElem_cons hlt, show (i + 1).toNat = i.toNat + 1 by omega]
  simp [gi, hlt]
theorem drop_end {α : Type} {l : List α} {i : Int} (h1 : (l.length : Int) ≤ i) : l.drop i.toNat = [] := List.drop_of_length_le (by omega)
theorem take_gi {α : Type} [Inhabited α] {l : List α} {i : Int} (h0 : 0 ≤ i) (h1 : i < l.length) : l.take (i + 1).toNat = l.take i.toNat ++ [gi l i] := by
  have hlt : i.toNat < l.length := by omega
  rw [show (i + 1).toNat = i.toNat + 1 by omega, List.take_succ_eq_append_getElem hlt]
  simp [gi, hlt]

/-- a state with some slots and objects changed -/
def ups {α : Type} (l : List (Nat × α)) : List (Nat × α) → List (Nat × α)
  | [] => l
  | (x, a) :: r => ups (put l x a) r
def S.up (s : S) (us : List (Nat × SV)) (ls : List (Nat × LObj)) : S := { env := ups s.env us, loc := ups s.loc ls, H := s.H }
def S.upH (s : S) (us : List (Nat × SV)) (ls : List (Nat × LObj)) (H : AHeap) : S := { env := ups s.env us, loc := ups s.loc ls, H := H }
/-- a loop by what it changes -/
theorem exL_mod {α : Type} {P : Program} {r : List KI} {K : AEx → S → Prop} {lv : List Nat} {th : List (Nat × Nat × Nat × Nat)} {c : SCode} {s : S} (us : α → List (Nat × SV)) (ls : α → List (Nat × LObj)) (inv : α → Prop) (μ : α → Nat) (a : α) (hs : s.up (us a) (ls a) = s) (h0 : inv a)
    (step : ∀ a, inv a → (∀ a', inv a' → μ a' < μ a → exL P lv th c r K (s.up (us a') (ls a'))) → EX P (.code c :: .lp lv th c :: r) K (s.up (us a) (ls a))) : exL P lv th c r K s :=
  exL_inv (fun a => s.up (us a) (ls a)) inv μ a hs.symm h0 step
theorem exL_modH {α : Type} {P : Program} {r : List KI} {K : AEx → S → Prop} {lv : List Nat} {th : List (Nat × Nat × Nat × Nat)} {c : SCode} {s : S} (us : α → List (Nat × SV)) (ls : α → List (Nat × LObj)) (hp : α → AHeap) (inv : α → Prop) (μ : α → Nat) (a : α) (hs : s.upH (us a) (ls a) (hp a) = s) (h0 : inv a)
    (step : ∀ a, inv a → (∀ a', inv a' → μ a' < μ a → exL P lv th c r K (s.upH (us a') (ls a') (hp a'))) → EX P (.code c :: .lp lv th c :: r) K (s.upH (us a) (ls a) (hp a))) : exL P lv th c r K s :=
  exL_inv (fun a => s.upH (us a) (ls a) (hp a)) inv μ a hs.symm h0 step

/-- a list of which the first elements are made, the others as they were -/
def fillTo {β : Type} (f : Int → β) (d : β) (n : Nat) (i : Int) : List β := (List.range n).map fun (k : Nat) => if (k : Int) < i then f (k : Int) else d
theorem fillTo_length {β : Type} (f : Int → β) (d : β) (n : Nat) (i : Int) : (fillTo f d n i).length = n := by simp [fillTo]
theorem fillTo_zero {β : Type} (f : Int → β) (d : β) (n : Nat) : fillTo f d n 0 = List.replicate n d := by
  apply List.ext_getElem?
  intro k
  simp only [fillTo, List.getElem?_map, List.getElem?_replicate]
  by_cases h : k < n
  · rw [List.getElem?_range h, if_pos h]; simp; omega
  · rw [List.getElem?_eq_none (by simpa using h), if_neg h]; rfl
theorem fillTo_full {β : Type} (f : Int → β) (d : β) (n : Nat) (i : Int) (h : (n : Int) ≤ i) : fillTo f d n i = (List.range n).map fun (k : Nat) => f (k : Int) := by
  simp only [fillTo]
  refine List.map_congr_left fun k hk => ?_
  rw [List.mem_range] at hk
  rw [if_pos (by omega)]
theorem fillTo_set {β : Type} (f : Int → β) (d : β) (n : Nat) (i : Int) (h0 : 0 ≤ i) {x : β} (hx : x = f i) : (fillTo f d n i).set i.toNat x = fillTo f d n (i + 1) := by
  subst hx
  apply List.ext_getElem?
  intro k
  simp only [fillTo, List.getElem?_set, List.getElem?_map, List.length_map, List.length_range]
  by_cases h : k < n
  · rw [List.getElem?_range h]
    by_cases hk : i.toNat = k
    · rw [if_pos hk, if_pos (by omega)]
      simp only [Option.map_some]
      rw [if_pos (by omega), show (k : Int) = i by omega]
    · rw [if_neg hk]
      simp only [Option.map_some]
      congr 1
      by_cases h2 : (k : Int) < i
      · rw [if_pos h2, if_pos (by omega)]
      · rw [if_neg h2, if_neg (by omega)]
  · rw [List.getElem?_eq_none (by simpa using h)]
    by_cases hk : i.toNat = k
    · rw [if_pos hk, if_neg (by omega)]; rfl
    · rw [if_neg hk]; rfl

end Go.Proofs.Ytejmcijcdhoogaa.Abs
