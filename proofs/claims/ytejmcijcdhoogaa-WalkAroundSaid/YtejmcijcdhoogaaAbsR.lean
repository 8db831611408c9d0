import Derived.Test.YtejmcijcdhoogaaAbsI
import Derived.SizedLaws
import Derived.OpenShut
import Derived.ChangeOld
import Derived.Below
import Derived.Carry
set_option linter.unusedSimpArgs false
set_option linter.unusedVariables false
set_option linter.unusedSectionVars false
namespace Go.Proofs.Ytejmcijcdhoogaa.Abs
open Go Go.ChangeShapes Go.WideShapes Go.RowKit

/-! ### what a reading of the arguments says of their abstract values -/
inductive TC where
  | int (k : IntKind)
  | bool
  | str
  | sl (bytes : Nat) (e : TC)
  | st (fs : List TC)
  | ar (n : Nat) (k : IntKind)

mutual
def TC.n : TC → Nat
  | .st fs => TC.nAll fs
  | .ar n _ => n
  | _ => 1
def TC.nAll : List TC → Nat
  | [] => 0
  | f :: fs => f.n + TC.nAll fs
end

mutual
def TC.fits (P : Program) : TC → TypeId → Bool
  | .int k, t => match P.underlying t with | some (.int k') => decide (k' = k) | _ => false
  | .bool, t => match P.underlying t with | some .bool => true | _ => false
  | .str, t => match P.underlying t with | some .string => true | _ => false
  | .sl b e, t => match P.underlying t with | some (.slice u) => e.fits P u && P.cellsOf u == e.n && P.bytesOf u == b && decide (0 < e.n) | _ => false
  | .ar n k, t => match P.underlying t with | some (.array n' u) => decide (n' = n) && P.cellsOf t == n && P.cellsOf u == 1 && (match P.underlying u with | some (.int k') => decide (k' = k) | _ => false) | _ => false
  | .st fs, t => match P.underlying t with | some (.struct gs) => TC.fitsAll P fs 0 gs.toList && P.cellsOf t == TC.nAll fs | _ => false
def TC.fitsAll (P : Program) : List TC → Nat → List Field → Bool
  | [], _, [] => true
  | f :: fs, o, g :: gs => f.fits P g.type && g.offset == o && P.cellsOf g.type == f.n && TC.fitsAll P fs (o + f.n) gs
  | _, _, _ => false
end

mutual
def Shape : TC → List AV → Prop
  | .int k, l => ∃ n, l = [.raw (.int k n)] ∧ (Lit.int k n).wf = true
  | .bool, l => ∃ b, l = [.raw (.bool b)]
  | .str, l => ∃ s : ByteArray, l = [.raw (.string s)] ∧ s.size ≤ reachBytes
  | .sl b e, l => ∃ (nl : Bool) (rs : List (List AV)), l = [.vec nl rs.flatten rs.length] ∧ (nl = true → rs = []) ∧ rs.length * b ≤ reachBytes ∧ ∀ r ∈ rs, Shape e r
  | .st fs, l => ShapeAll fs l
  | .ar n k, l => ∃ ns : List Int, l = ns.map (fun x => .raw (.int k x)) ∧ ns.length = n ∧ ∀ x ∈ ns, (Lit.int k x).wf = true
def ShapeAll : List TC → List AV → Prop
  | [], l => l = []
  | f :: fs, l => ∃ a b, l = a ++ b ∧ Shape f a ∧ ShapeAll fs b
end

theorem RCells_append {I : Nat → Prop} {w : World} {b : Nat} : ∀ {cs ds : List AV} {s : Nat}, RCells I w cs b s → RCells I w ds b (s + cs.length) → RCells I w (cs ++ ds) b s
  | [], ds, s, _, h => by simpa using h
  | c :: cs, ds, s, h, k => by
    simp only [RCells, List.cons_append] at h ⊢
    refine ⟨h.1, RCells_append h.2 ?_⟩
    rw [show s + 1 + cs.length = s + (c :: cs).length by simp; omega]
    exact k

theorem RCells_of_RL {I : Nat → Prop} {w : World} {b : Nat} : ∀ {cs : List AV} {vs : List Value} {s : Nat}, RL I w cs vs → (∀ v ∈ vs, v.oneCell' = true) → (∀ i, i < vs.length → w.cell? ⟨b, s + i, none⟩ = vs[i]?) → RCells I w cs b s
  | [], vs, s, _, _, _ => by simp [RCells]
  | c :: cs, vs, s, h, h1, hc => by
    simp only [RL] at h
    obtain ⟨u, us, rfl, hu, hr⟩ := h
    simp only [RCells]
    refine ⟨⟨u, by simpa using hc 0 (by simp), h1 u (by simp), hu⟩, RCells_of_RL hr (fun v hv => h1 v (by simp [hv])) fun i hi => ?_⟩
    have := hc (i + 1) (by simp; omega)
    rw [show s + 1 + i = s + (i + 1) by omega]
    simpa using this

section
variable {H : Type} {enc : TypeId × Value → H} {P : Program} {w : World} {base : Nat} {spare : Nat → Bool} {held : Bool}
/-- the blocks that are there -/
def Old (w : World) : Nat → Prop := fun b => b < w.heap.size

theorem cell_old {w : World} {a : Addr} {v : Value} (h : w.cell? a = some v) : a.spot = none ∧ a.block < w.heap.size := by
  unfold World.cell? at h
  cases hb : w.heap[a.block]? with
  | none => rw [hb] at h; simp at h
  | some o =>
    refine ⟨?_, by
      rcases Nat.lt_or_ge a.block w.heap.size with hlt | hge
      · exact hlt
      · rw [Array.getElem?_eq_none hge] at hb; cases hb⟩
    rw [hb] at h
    cases o <;> simp at h
    cases hs : a.spot with
    | none => rfl
    | some k => simp [hs] at h

/-- the elements of a slice, one after the other -/
theorem slice_rows {f : List AV → Prop} {n : Nat} (hn : 0 < n) {a : Addr} : ∀ (k : Nat), (∀ i, i < k → ∃ cs l, w.cells? base (a.add (i * n)) n = some cs ∧ f l ∧ RL (Old w) w l cs ∧ ∀ v ∈ cs, v.oneCell' = true) →
    ∃ rs : List (List AV), rs.length = k ∧ (∀ r ∈ rs, f r) ∧ rs.flatten.length = k * n ∧ (k ≠ 0 → a.spot = none ∧ a.block < w.heap.size) ∧ RCells (Old w) w rs.flatten a.block a.off
  | 0, _ => ⟨[], rfl, by simp, by simp, by simp, by simp [RCells]⟩
  | k + 1, h => by
    obtain ⟨rs, h1, h2, h3, h4, h5⟩ := slice_rows hn k fun i hi => h i (by omega)
    obtain ⟨cs, l, e1, e2, e3, e4⟩ := h k (by omega)
    obtain ⟨hb, hl, hc⟩ := World.cells?_some e1
    have ha : a.spot = none ∧ a.block < w.heap.size := by
      obtain ⟨cs, l, e1, _⟩ := h 0 (by omega)
      obtain ⟨hb, hl, hc⟩ := World.cells?_some e1
      have := hc 0 hn
      rw [List.getElem?_eq_getElem (by omega)] at this
      have := cell_old this
      simpa [Addr.add] using this
    have hll : l.length = n := by rw [← RL_length e3, hl]
    refine ⟨rs ++ [l], by simp [h1], ?_, ?_, fun _ => ha, ?_⟩
    · intro r hr
      rcases List.mem_append.1 hr with hr | hr
      · exact h2 r hr
      · simp at hr; subst hr; exact e2
    · simp only [List.flatten_append, List.length_append, h3, List.flatten_cons, List.flatten_nil, List.append_nil, hll, Nat.add_mul, Nat.one_mul]
    · rw [List.flatten_append]
      refine RCells_append h5 ?_
      simp only [List.flatten_cons, List.flatten_nil, List.append_nil]
      refine RCells_of_RL e3 e4 fun i hi => ?_
      rw [h3, ← hc i (by omega)]
      congr 1
      obtain ⟨ab, ao, asp⟩ := a
      simp only at ha
      obtain ⟨rfl, _⟩ := ha
      simp only [Addr.add]
      split
      · rename_i hz
        split
        · rename_i hz2; simp [hz, hz2]
        · simp [hz]
      · split
        · rename_i hz2; simp [hz2]
        · rfl

theorem RL_cons_one {I : Nat → Prop} {w : World} {v : Value} {a : AV} (h : RV I w a v) : RL I w [a] [v] := by
  simp only [RL]
  exact ⟨v, [], rfl, h, rfl⟩

mutual
theorem trod_shape : ∀ (c : TC) (fuel : Nat) (t : TypeId) (cs : List Value) (x : DataW H × List MemPlace), c.fits P t = true → DataW.trod enc P w base spare held fuel t cs = some x → (∀ n ∈ x.1.weights P t, n ≤ reachBytes) →
    ∃ l, Shape c l ∧ RL (Old w) w l cs ∧ ∀ v ∈ cs, v.oneCell' = true
  | .int k, fuel, t, cs, x, hf, h, hw => by
    unfold TC.fits at hf
    split at hf
    · rename_i k' hu
      obtain rfl := of_decide_eq_true hf
      obtain ⟨n, rfl, rfl, hwf⟩ := DataW.trod_int hu h
      exact ⟨_, by unfold Shape; exact ⟨n, rfl, hwf⟩, RL_cons_one (by simp [RV]), by simp [Value.oneCell']⟩
    · cases hf
  | .bool, fuel, t, cs, x, hf, h, hw => by
    unfold TC.fits at hf
    split at hf
    · rename_i hu
      obtain ⟨n, rfl, rfl⟩ := DataW.trod_bool hu h
      exact ⟨_, by unfold Shape; exact ⟨n, rfl⟩, RL_cons_one (by simp [RV]), by simp [Value.oneCell']⟩
    · cases hf
  | .str, fuel, t, cs, x, hf, h, hw => by
    unfold TC.fits at hf
    split at hf
    · rename_i hu
      obtain ⟨n, rfl, rfl, hs⟩ := DataW.trod_string hu h
      have hsz : n.size ≤ reachBytes := hw n.size (by simp [DataW.weights])
      exact ⟨_, by unfold Shape; exact ⟨n, rfl, hsz⟩, RL_cons_one (by simp [RV]), by simp [Value.oneCell']⟩
    · cases hf
  | .sl b e, fuel, t, cs, x, hf, h, hw => by
    unfold TC.fits at hf
    split at hf
    · rename_i u hu
      simp only [Bool.and_eq_true, beq_iff_eq, decide_eq_true_eq] at hf
      obtain ⟨⟨⟨hf, hn⟩, hb⟩, hp⟩ := hf
      rcases DataW.trod_slice hu h with ⟨rfl, rfl⟩ | ⟨a, len, cap, elems, rest, n, rfl, rfl, rfl, _, h2, h3, h4, h5, _, _⟩
      · refine ⟨[.vec true [] 0], by unfold Shape; exact ⟨true, [], rfl, by simp, by simp, by simp⟩, RL_cons_one ?_, by simp [Value.oneCell']⟩
        simp only [RV]
        exact ⟨none, 0, rfl, by simp, by simp [maxLen], by simp, by simp, by simp, by simp⟩
      · have each : ∀ i, i < len → ∃ cs l, w.cells? base (a.add (i * e.n)) e.n = some cs ∧ Shape e l ∧ RL (Old w) w l cs ∧ ∀ v ∈ cs, v.oneCell' = true := by
          intro i hi
          have h6 := h5 i hi
          rw [hn] at h6
          have hlt : i < elems.length := by omega
          rw [List.getElem?_eq_getElem hlt, Option.bind_eq_some_iff] at h6
          obtain ⟨cs, h7, h8⟩ := h6
          obtain ⟨l, k1, k2, k3⟩ := trod_shape e n u cs elems[i] hf h8 fun m hm => hw m (by
            simp only [DataW.weights, hu]
            refine List.mem_cons_of_mem _ (List.mem_append_left _ ?_)
            have : ∀ (l : List (DataW H × List MemPlace)) (y : DataW H × List MemPlace), y ∈ l → ∀ m ∈ y.1.weights P u, m ∈ DataW.weightsAll P u (l.map (·.1)) := by
              intro l
              induction l with
              | nil => intro y hy; cases hy
              | cons z l ih =>
                intro y hy m hm
                simp only [List.map_cons, DataW.weightsAll, List.mem_append]
                rcases List.mem_cons.1 hy with rfl | hy
                · exact .inl hm
                · exact .inr (ih y hy m hm)
            exact this _ _ (List.getElem_mem hlt) m hm)
          exact ⟨cs, l, h7, k1, k2, k3⟩
        obtain ⟨rs, r1, r2, r3, r4, r5⟩ := slice_rows hp len each
        refine ⟨[.vec false rs.flatten rs.length], by
          unfold Shape
          refine ⟨false, rs, rfl, by simp, ?_, r2⟩
          have := hw ((elems.map (·.1)).length * b + (rest.map (·.1)).length * b) (by
            simp only [DataW.weights, hu, hb, Nat.add_mul]
            exact List.mem_cons_self)
          simp only [List.length_map, h4] at this
          rw [r1]
          omega, RL_cons_one ?_, by simp [Value.oneCell']⟩
        simp only [RV]
        refine ⟨some a, cap, by rw [r1], by omega, h3, by simp, by simp, ?_, ?_⟩
        · intro hne hz
          have h9 : rs.flatten.length = 0 := by rw [hz]; rfl
          rw [r3] at h9
          rcases Nat.mul_eq_zero.1 h9 with h9 | h9 <;> omega
        · intro hne
          have hk : len ≠ 0 := by
            rintro rfl
            exact hne (List.eq_nil_of_length_eq_zero (by rw [r3, Nat.zero_mul]))
          obtain ⟨q1, q2⟩ := r4 hk
          exact ⟨a.block, a.off, by obtain ⟨x, y, z⟩ := a; simp only at q1; subst q1; rfl, q2, r5⟩
    · cases hf
  | .ar n k, fuel, t, cs, x, hf, h, hw => by
    unfold TC.fits at hf
    split at hf
    · rename_i n' u hu
      simp only [Bool.and_eq_true, beq_iff_eq, decide_eq_true_eq] at hf
      obtain ⟨⟨⟨rfl, hct⟩, hcu⟩, hk⟩ := hf
      split at hk
      · rename_i k' hku
        obtain rfl := of_decide_eq_true hk
        obtain ⟨xs, m, rfl, rfl, h1, h2, h3⟩ := DataW.trod_array hu h
        rw [hct] at h1
        have key : ∀ j, j < cs.length → ∃ y, cs[j]? = some (.int k' y) ∧ (Lit.int k' y).wf = true := by
          intro j hj
          have h4 := h3 j (by omega)
          rw [List.getElem?_eq_getElem (show j < xs.length by omega), hcu, Nat.mul_one] at h4
          obtain ⟨y, h5, _, h6⟩ := DataW.trod_int hku h4
          refine ⟨y, ?_, h6⟩
          have h7 := congrArg (fun z => z[0]?) h5
          simpa [List.getElem?_take] using h7
        have all : ∀ cs : List Value, (∀ j, j < cs.length → ∃ y, cs[j]? = some (.int k' y) ∧ (Lit.int k' y).wf = true) → ∃ ns : List Int, cs = ns.map (Value.int k') ∧ ∀ x ∈ ns, (Lit.int k' x).wf = true := by
          intro cs
          induction cs with
          | nil => intro _; exact ⟨[], rfl, by simp⟩
          | cons c cs ih =>
            intro hh
            obtain ⟨y, h5, h6⟩ := hh 0 (by simp)
            obtain ⟨ns, rfl, h7⟩ := ih fun j hj => by simpa using hh (j + 1) (by simpa using hj)
            simp only [List.getElem?_cons_zero, Option.some.injEq] at h5
            subst h5
            exact ⟨y :: ns, rfl, fun x hx => by
              rcases List.mem_cons.1 hx with rfl | hx
              · exact h6
              · exact h7 x hx⟩
        obtain ⟨ns, rfl, hns⟩ := all cs key
        refine ⟨ns.map (fun x => .raw (.int k' x)), by unfold Shape; exact ⟨ns, rfl, by simpa using h1, hns⟩, ?_, ?_⟩
        · have := RL_raw (Old w) w (ns.map (Value.int k'))
          rwa [List.map_map] at this
        · intro v hv
          obtain ⟨y, _, rfl⟩ := List.mem_map.1 hv
          rfl
      · cases hk
    · cases hf
  | .st fs, fuel, t, cs, x, hf, h, hw => by
    unfold TC.fits at hf
    split at hf
    · rename_i gs hu
      simp only [Bool.and_eq_true, beq_iff_eq] at hf
      obtain ⟨hf, hn⟩ := hf
      obtain ⟨xs, n, rfl, rfl, h1, h2, h3⟩ := DataW.trod_struct hu h
      obtain ⟨l, k1, k2, k3⟩ := trod_shapes fs n 0 gs.toList cs xs hf (by simpa using h2) (by rw [h1, hn]; omega) (fun i f hi => h3 i f (by simpa using hi)) (fun m hm => hw m (by simp only [DataW.weights, hu]; exact hm))
      refine ⟨l, by unfold Shape; exact k1, by simpa using k2, by simpa using k3⟩
    · cases hf
theorem trod_shapes : ∀ (fs : List TC) (n o : Nat) (gs : List Field) (cs : List Value) (xs : List (DataW H × List MemPlace)), TC.fitsAll P fs o gs = true → xs.length = gs.length → cs.length = o + TC.nAll fs →
    (∀ (i : Nat) (f : Field), gs[i]? = some f → DataW.trod enc P w base spare held n f.type ((cs.drop f.offset).take (P.cellsOf f.type)) = xs[i]?) →
    (∀ m ∈ DataW.weightsEach P (gs.map (·.type)) (xs.map (·.1)), m ≤ reachBytes) →
    ∃ l, ShapeAll fs l ∧ RL (Old w) w l (cs.drop o) ∧ ∀ v ∈ cs.drop o, v.oneCell' = true
  | [], n, o, [], cs, xs, _, _, hl, _, _ => by
    have : cs.drop o = [] := List.drop_of_length_le (by simp [TC.nAll] at hl; omega)
    rw [this]
    exact ⟨[], by unfold ShapeAll; rfl, by simp [RL], by simp⟩
  | [], n, o, _ :: _, cs, xs, hf, _, _, _, _ => by simp [TC.fitsAll] at hf
  | _ :: _, n, o, [], cs, xs, hf, _, _, _, _ => by simp [TC.fitsAll] at hf
  | f :: fs, n, o, g :: gs, cs, xs, hf, hx, hl, h, hw => by
    simp only [TC.fitsAll, Bool.and_eq_true, beq_iff_eq] at hf
    obtain ⟨⟨⟨hf, ho⟩, hn⟩, hfs⟩ := hf
    simp only [TC.nAll] at hl
    cases xs with
    | nil => simp at hx
    | cons y ys =>
      have h0 := h 0 g rfl
      simp only [List.getElem?_cons_zero] at h0
      rw [ho, hn] at h0
      simp only [List.map_cons, DataW.weightsEach, List.mem_append] at hw
      obtain ⟨a, a1, a2, a3⟩ := trod_shape f n g.type _ y hf h0 fun m hm => hw m (.inl hm)
      obtain ⟨b, b1, b2, b3⟩ := trod_shapes fs n (o + f.n) gs cs ys hfs (by simpa using hx) (by omega) (fun i f hi => by simpa using h (i + 1) f (by simpa using hi)) fun m hm => hw m (.inr hm)
      have hsplit : cs.drop o = (cs.drop o).take f.n ++ cs.drop (o + f.n) := by
        rw [← List.drop_drop, List.take_append_drop]
      rw [hsplit]
      refine ⟨a ++ b, by unfold ShapeAll; exact ⟨a, b, rfl, a1, b1⟩, RL_append a2 b2, fun v hv => ?_⟩
      rcases List.mem_append.1 hv with hv | hv
      · exact a3 v hv
      · exact b3 v hv
end
end

/-! ### the arguments of a row -/
def ArgShape : TC → AV → Prop
  | .st fs, a => ∃ l, a = .agg l ∧ ShapeAll fs l
  | .ar n k, a => ∃ l, a = .agg l ∧ Shape (.ar n k) l
  | c, a => Shape c [a]
def ArgShapes : List TC → List AV → Prop
  | [], l => l = []
  | c :: cs, l => ∃ a r, l = a :: r ∧ ArgShape c a ∧ ArgShapes cs r
def fitsArgs (P : Program) : List TC → List TypeId → Bool
  | [], [] => true
  | c :: cs, t :: ts => c.fits P t && P.readableRec t && decide (t < P.types.size) && fitsArgs P cs ts
  | _, _ => false

section
variable {H : Type} {enc : TypeId × Value → H} {P : Program} {w : World} {base : Nat} {spare : Nat → Bool} {held : Bool}
theorem arg_shape {c : TC} {t : TypeId} {v : Value} {d : DataW H} {ps : List MemPlace} {r : Go.Reach} {b0 : Nat} (hf : c.fits P t = true) (hval : Value.okWide P w r b0 t v) (h : DataW.Trod enc P w base spare held t v d ps) (hw : ∀ n ∈ d.weights P t, n ≤ reachBytes) :
    ∃ a, ArgShape c a ∧ RV (Old w) w a v := by
  obtain ⟨fuel, h⟩ := h
  obtain ⟨l, h1, h2, h3⟩ := trod_shape c fuel t _ _ hf h hw
  have one : ∀ v : Value, RL (Old w) w l [v] → ∃ a, l = [a] ∧ RV (Old w) w a v := by
    intro v hv
    cases l with
    | nil => simp [RL] at hv
    | cons a l =>
      simp only [RL] at hv
      obtain ⟨u, us, e, hu, hr⟩ := hv
      simp only [List.cons.injEq] at e
      obtain ⟨rfl, rfl⟩ := e
      cases l with
      | nil => exact ⟨a, rfl, hu⟩
      | cons b l => simp [RL] at hr
  cases c with
  | int k =>
    unfold TC.fits at hf
    split at hf
    · rename_i k' hu
      obtain ⟨n, rfl⟩ := okWide_int hu hval
      obtain ⟨a, rfl, ha⟩ := one _ (by simpa [Value.cells] using h2)
      exact ⟨a, h1, ha⟩
    · cases hf
  | bool =>
    unfold TC.fits at hf
    split at hf
    · rename_i hu
      obtain ⟨n, rfl⟩ := okWide_bool hu hval
      obtain ⟨a, rfl, ha⟩ := one _ (by simpa [Value.cells] using h2)
      exact ⟨a, h1, ha⟩
    · cases hf
  | str =>
    unfold TC.fits at hf
    split at hf
    · rename_i hu
      obtain ⟨n, rfl⟩ := okWide_string hu hval
      obtain ⟨a, rfl, ha⟩ := one _ (by simpa [Value.cells] using h2)
      exact ⟨a, h1, ha⟩
    · cases hf
  | sl b e =>
    unfold TC.fits at hf
    split at hf
    · rename_i u hu
      obtain ⟨x, y, z, rfl⟩ := okWide_slice hu hval
      obtain ⟨a, rfl, ha⟩ := one _ (by simpa [Value.cells] using h2)
      exact ⟨a, h1, ha⟩
    · cases hf
  | ar n k =>
    unfold TC.fits at hf
    split at hf
    · rename_i n' u hu
      obtain ⟨cs, rfl⟩ : ∃ cs, v = .agg cs := by
        simp only [Value.okWide, hu] at hval
        obtain ⟨cs, h1, _⟩ := hval
        exact ⟨cs, h1⟩
      refine ⟨.agg l, ⟨l, rfl, h1⟩, ?_⟩
      simp only [RV]
      exact ⟨cs.toList, by simp, by simpa [Value.cells] using h2⟩
    · cases hf
  | st fs =>
    unfold TC.fits at hf
    split at hf
    · rename_i gs hu
      obtain ⟨cs, rfl, _⟩ := okWide_struct hu hval
      unfold Shape at h1
      refine ⟨.agg l, ⟨l, rfl, h1⟩, ?_⟩
      simp only [RV]
      exact ⟨cs.toList, by simp, by simpa [Value.cells] using h2⟩
    · cases hf
theorem args_shape {r : Go.Reach} {b0 : Nat} : ∀ {tcs : List TC} {ts : List TypeId} {vs : List Value} {ds : List (DataW H)} {ps : List MemPlace}, fitsArgs P tcs ts = true → (∀ (j : Nat) t v, ts[j]? = some t → vs[j]? = some v → Value.okWide P w r b0 t v) →
    DataW.TrodAll enc P w base spare held ts vs ds ps → (∀ n ∈ DataW.weightsEach P ts ds, n ≤ reachBytes) → ∃ as, ArgShapes tcs as ∧ RL (Old w) w as vs
  | [], [], vs, ds, ps, _, _, h, _ => by
    cases vs <;> cases ds <;> simp [DataW.TrodAll] at h
    exact ⟨[], by unfold ArgShapes; rfl, by simp [RL]⟩
  | [], _ :: _, _, _, _, hf, _, _, _ => by simp [fitsArgs] at hf
  | _ :: _, [], _, _, _, hf, _, _, _ => by simp [fitsArgs] at hf
  | c :: tcs, t :: ts, vs, ds, ps, hf, hval, h, hw => by
    cases vs with
    | nil => cases ds <;> simp [DataW.TrodAll] at h
    | cons v vs =>
      cases ds with
      | nil => simp [DataW.TrodAll] at h
      | cons d ds =>
        simp only [DataW.TrodAll] at h
        obtain ⟨p, q, h1, h2, rfl⟩ := h
        simp only [fitsArgs, Bool.and_eq_true] at hf
        simp only [DataW.weightsEach, List.mem_append] at hw
        obtain ⟨a, a1, a2⟩ := arg_shape hf.1.1.1 (hval 0 t v rfl rfl) h1 fun n hn => hw n (.inl hn)
        obtain ⟨as, b1, b2⟩ := args_shape hf.2 (fun j t v ht hv => hval (j + 1) t v (by simpa using ht) (by simpa using hv)) h2 fun n hn => hw n (.inr hn)
        refine ⟨a :: as, by unfold ArgShapes; exact ⟨a, as, rfl, a1, b1⟩, ?_⟩
        simp only [RL]
        exact ⟨v, vs, rfl, a2, b2⟩

theorem args_stay {W W' : World} (hl : laidOutB P = true) (hb : Below W.heap.size W W') : ∀ {tcs : List TC} {ts : List TypeId} {vs : List Value} {ds : List (DataW H)} {ps : List MemPlace}, fitsArgs P tcs ts = true →
    DataW.TrodAll enc P W 0 (fun _ => true) true ts vs ds ps → DataW.TrodAll enc P W' 0 (fun b => decide (b < W.heap.size)) true ts vs ds ps
  | [], [], vs, ds, ps, _, h => by
    cases vs <;> cases ds <;> simp [DataW.TrodAll] at h
    simp [DataW.TrodAll, h]
  | [], _ :: _, _, _, _, hf, _ => by simp [fitsArgs] at hf
  | _ :: _, [], _, _, _, hf, _ => by simp [fitsArgs] at hf
  | c :: tcs, t :: ts, vs, ds, ps, hf, h => by
    cases vs with
    | nil => cases ds <;> simp [DataW.TrodAll] at h
    | cons v vs =>
      cases ds with
      | nil => simp [DataW.TrodAll] at h
      | cons d ds =>
        simp only [DataW.TrodAll] at h ⊢
        obtain ⟨p, q, h1, h2, rfl⟩ := h
        simp only [fitsArgs, Bool.and_eq_true, decide_eq_true_eq] at hf
        refine ⟨p, q, ?_, args_stay hl hb hf.2 h2, rfl⟩
        refine Below.trod hl hf.1.1.2 hf.1.2 h1 hb ?_
        obtain ⟨fuel, h1⟩ := h1
        exact DataW.trod_lt fuel _ _ _ h1
end

/-- from a contract to a row: the law answers true and leaves what it was handed as it was -/
theorem row_lifted {H : Type} {enc : TypeId × Value → H} {C : Checked} {os : Os} (started : os.Started) {f : FuncId} {fn : Func} {s : ChangeSpec} {tcs : List TC} {tb : TypeId}
    (own : ownKnob C.prog.godebug = none) (noInit : C.prog.inits.idxOf? f = none) (hfn : C.prog.funcs[f]? = some fn)
    (witness : ∃ (w : World) (tape : Tape) (i : Input), w.os = os ∧ (w.forCall tape i).Shaped C.prog ∧ i.vars = [] ∧ Input.okWide C.prog (w.forCall tape i) .any w.heap.size f i ∧
      s.pre6 enc C.prog fn [] false (w.forCall tape i).memory i.args ∧ Assume.holds {} C.prog (lone (Frame.enter C.prog f i.args .normal) [] (w.forCall tape i)))
    (hl : laidOutB C.prog = true) (hfit : fitsArgs C.prog tcs fn.params.toList = true) (hres : fn.resultTypes = #[tb]) (hb : C.prog.underlying tb = some .bool)
    (hv : s.vars = []) (hs : ∀ (H : Type) (ds : List (DataW H)), ds.length = fn.params.size → (s.fn H ds).results = [.lit (.bool true)] ∧ (s.fn H ds).args = ds ∧ (s.fn H ds).vars = [])
    (law : ∀ as, ArgShapes tcs as → ∀ K : AHeap, APure C.prog f as K (bv true)) :
    ReturnsInHanded {} C os f .any (s.pre6 enc C.prog fn [] false) (s.post enc C.prog fn false true false false) := by
  refine returnsInHanded_of_change_sized (C := C) own started noInit hfn witness ?_
  intro W base args ds gs before hval hW _ hsz _
  have hW' := hW
  obtain ⟨p, q, hA, hV, rfl, hfz, hnd⟩ := hW
  have hgs : gs = [] ∧ q = [] := by
    rw [hv] at hV
    cases gs with
    | nil => exact ⟨rfl, by simpa [DataW.TrodVars] using hV⟩
    | cons g gs => simp [DataW.TrodVars] at hV
  obtain ⟨rfl, rfl⟩ := hgs
  have hlen : ds.length = fn.params.size := by
    have : ∀ (ts : List TypeId) (vs : List Value) (ds : List (DataW H)) (ps : List MemPlace), DataW.TrodAll enc C.prog W 0 (fun _ => true) true ts vs ds ps → ds.length = ts.length := by
      intro ts
      induction ts with
      | nil => intro vs ds ps h; cases vs <;> cases ds <;> simp_all [DataW.TrodAll]
      | cons t ts ih =>
        intro vs ds ps h
        cases vs with
        | nil => cases ds <;> simp [DataW.TrodAll] at h
        | cons v vs =>
          cases ds with
          | nil => simp [DataW.TrodAll] at h
          | cons d ds =>
            simp only [DataW.TrodAll] at h
            obtain ⟨p, q, h1, h2, rfl⟩ := h
            simp [ih _ _ _ h2]
    simpa using this _ _ _ _ hA
  obtain ⟨as, h1, h2⟩ := args_shape hfit (fun j t v ht hv => hval j t v (by simpa using ht) (by simpa using hv)) hA (fun n hn => by
    have := List.all_eq_true.1 hsz n (by
      have e : ∀ (ts us : List TypeId) (ds : List (DataW H)), n ∈ DataW.weightsEach C.prog ts ds → n ∈ DataW.weightsEach C.prog (ts ++ us) ds := by
        intro ts
        induction ts with
        | nil => intro us ds h; simp [DataW.weightsEach] at h
        | cons t ts ih =>
          intro us ds h
          cases ds with
          | nil => simp [DataW.weightsEach] at h
          | cons d ds =>
            simp only [List.cons_append, DataW.weightsEach, List.mem_append] at h ⊢
            rcases h with h | h
            · exact .inl h
            · exact .inr (ih us ds h)
      rw [List.append_nil]
      exact e _ _ _ hn)
    simpa using this)
  have hc := (law as h1 (fun _ => none) (fun r H' => r = bv true) rfl).2 (Old W) W args.toList ⟨fun b hb => ⟨hb, rfl⟩, fun b o hb => by cases hb⟩ h2
  have ht : args.toList.toArray = args := by simp
  rw [ht] at hc
  refine hc.mono fun e W' ⟨r, H', I', v, he, hr, _, hrv, hF⟩ => ?_
  subst he hr
  simp only [RV] at hrv
  subst hrv
  have bel : Below W.heap.size W W' := ⟨hF.os, hF.tape, hF.output, hF.size, fun k hk => hF.blk k hk rfl⟩
  obtain ⟨e1, e2, e3⟩ := hs H (ds ++ []) (by simpa using hlen)
  refine ⟨_, rfl, ds, [], p ++ [], [], p, [], hW', ?_, ?_, ?_, bel.frame _, fun h => by cases h⟩
  · rw [e1, hres]
    exact ChangeShapes.trodAll_mk1 (RowKit.shut_bool hb _)
  · rw [e2]
    simpa using args_stay hl bel hfit hA
  · rw [e3, hv]
    rfl
end Go.Proofs.Ytejmcijcdhoogaa.Abs
