import Derived.Test.YtejmcijcdhoogaaAbs4
namespace Go.Proofs.Ytejmcijcdhoogaa.Abs
open Go

section
variable {P : Program} {o : Oper} {so : SOp} {c : Cx} {L : List (Nat × LObj)} {H : AHeap} {w : World} {env : List (Nat × SV)} {a : Act} {sv : SV}

def QS (P : Program) (o : Oper) (c : Cx) (w : World) (a : Act) (sv : SV) : Prop := ∃ v, (execOp a.eval o).run P w = .ok (.value v) w ∧ RS c w sv v

theorem QS.of {P : Program} {o : Oper} {c : Cx} {w : World} {a : Act} {sv : SV} (s : Sem Value) (he : execOp a.eval o = (do pure (.value (← s)))) {v : Value} (hr : s.run P w = .ok v w) (hs : RS c w sv v) : QS P o c w a sv :=
  ⟨v, by rw [he]; simp [hr], hs⟩

theorem q_move {x : Operand} (ho : o.op = .move x ∨ o.op = .assign x) (hE : ERel c w env a.tmps) : QS P o c w a (oval env x) := by
  refine ⟨a.eval x, ?_, oval_rs hE x⟩
  rcases ho with ho | ho <;> simp [execOp, ho]

theorem q_pick {x y z : Operand} (ho : o.op = .pick x y z) (hE : ERel c w env a.tmps) {t : Bool} (hx : oval env x = .v (.raw (.bool t))) :
    QS P o c w a (if t then oval env y else oval env z) := by
  have h1 := oval_rs hE x
  rw [hx] at h1
  have h1' : a.eval x = .bool t := h1
  refine ⟨if t then a.eval y else a.eval z, by simp [execOp, ho, h1', asBool], ?_⟩
  cases t
  · exact oval_rs hE z
  · exact oval_rs hE y

theorem fldq_sound {s s' : SV} {v : Value} {off : Nat} (hs : RS c w s v) (h : fldq off s = some s') :
    ∃ b p, v = .pointer (some ⟨b, p, none⟩) ∧ RS c w s' (.pointer (some ⟨b, p + off, none⟩)) := by
  cases s with
  | loc d o =>
    simp only [fldq, Option.some.injEq] at h; subst h
    exact ⟨_, _, hs, rfl⟩
  | own d => simp [fldq] at h
  | v a =>
    cases a with
    | box cs o =>
      simp only [fldq, Option.some.injEq] at h; subst h
      simp only [RS, RV] at hs ⊢
      obtain ⟨b, s, rfl, hI, hc⟩ := hs
      exact ⟨b, s + o, rfl, b, s, by simp [Nat.add_assoc], hI, hc⟩
    | raw u =>
      simp only [RS, RV] at hs; subst hs
      cases v <;> simp only [fldq] at h <;> try (cases h; done)
      rename_i ad
      rcases ad with _ | ⟨b, p, _ | sp⟩ <;> simp only at h <;> try (cases h; done)
      simp only [Option.some.injEq] at h; subst h
      exact ⟨b, p, rfl, rfl⟩
    | top | vec | agg | tup | fn | ifc => simp [fldq] at h

theorem q_fld {t : TypeId} {x : Operand} {f : Nat} (ho : o.op = .fieldAddr t x f) (hop : opOf P o = some so) (hE : ERel c w env a.tmps) (hq : qop L H (oval env) so = some sv) : QS P o c w a sv := by
  simp only [opOf, ho] at hop
  cases hu : P.underlying t with
  | none => simp [hu] at hop
  | some d =>
    cases d with
    | struct fs =>
      simp only [hu, Option.bind_eq_bind, Option.bind_some] at hop
      obtain ⟨fd, hf, hop⟩ := Option.bind_eq_some_iff.1 hop
      obtain ⟨n, hn, hop⟩ := Option.bind_eq_some_iff.1 hop
      split at hop
      · cases hop
      · rename_i hn0
        simp only [Option.some.injEq] at hop; subst hop
        simp only [qop] at hq
        obtain ⟨b, p, h1, h2⟩ := fldq_sound (oval_rs hE x) hq
        refine QS.of (Instr.fieldAt t (a.eval x) f) (by simp [execOp, ho]) ?_ h2
        unfold Instr.fieldAt
        rw [Sem.run_bind, run_underlying hu, Result.andThen_ok]
        simp only [hf, h1, Instr.sureAddr, fieldPlace, Sem.run_bind, Sem.run_pure, Result.andThen_ok, tsz_some hn, Sem.run_ite, if_neg hn0, Addr.add_lit]
    | _ => simp [hu] at hop

theorem part_sound {t : TypeId} {n : Nat} {agg : Bool} (hn : tsz P t = some n) (ha : tag P t = some agg) {cs : List AV} {vs : List Value} (h : RL c.I w cs vs) {off : Nat} {u : AV} (hv : rdV cs off n agg = some u) :
    ∃ x, (part t vs.toArray off).run P w = .ok x w ∧ RV c.I w u x := by
  unfold part
  rw [Sem.run_bind, tag_some ha, Result.andThen_ok]
  unfold rdV at hv
  cases agg with
  | true =>
    simp only [if_true] at hv
    split at hv
    · simp only [Option.some.injEq] at hv; subst hv
      simp only [if_true, Sem.run_bind, tsz_some hn, Result.andThen_ok, Sem.run_pure]
      refine ⟨_, rfl, ?_⟩
      simp only [RV]
      refine ⟨(vs.drop off).take n, ?_, RL_take n (RL_drop off h)⟩
      congr 1
      apply Array.ext'
      simp
    · cases hv
  | false =>
    simp only [Bool.false_eq_true, if_false] at hv ⊢
    obtain ⟨x, hx, hr⟩ := RL_get h hv
    simp only [List.getElem?_toArray, hx, Sem.run_pure]
    exact ⟨x, rfl, hr⟩

theorem q_prt {t : TypeId} {x : Operand} {f : Nat} (ho : o.op = .field t x f) (hop : opOf P o = some so) (hE : ERel c w env a.tmps) (hq : qop L H (oval env) so = some sv) : QS P o c w a sv := by
  simp only [opOf, ho] at hop
  cases hu : P.underlying t with
  | none => simp [hu] at hop
  | some d =>
    cases d with
    | struct fs =>
      simp only [hu, Option.bind_eq_bind, Option.bind_some] at hop
      obtain ⟨fd, hf, hop⟩ := Option.bind_eq_some_iff.1 hop
      obtain ⟨n, hn, hop⟩ := Option.bind_eq_some_iff.1 hop
      obtain ⟨g, hg, hop⟩ := Option.bind_eq_some_iff.1 hop
      simp only [Option.some.injEq] at hop; subst hop
      simp only [qop] at hq
      have hx := oval_rs hE x
      split at hq
      · rename_i cs he
        rw [he] at hx
        simp only [RS, RV] at hx
        obtain ⟨vs, h1, h2⟩ := hx
        obtain ⟨u, hu1, rfl⟩ := Option.map_eq_some_iff.1 hq
        obtain ⟨y, h3, h4⟩ := part_sound hn hg h2 hu1
        refine QS.of (Instr.field t (a.eval x) f) (by simp [execOp, ho]) ?_ h4
        unfold Instr.field
        rw [Sem.run_bind, run_underlying hu, Result.andThen_ok]
        simp only [hf, h1, asAgg, Sem.run_bind, Sem.run_pure, Result.andThen_ok, h3]
      · cases hq
    | _ => simp [hu] at hop

theorem q_load {t : TypeId} {x : Operand} (ho : o.op = .load t x) (hop : opOf P o = some so) (m : MRel c L H w) (hE : ERel c w env a.tmps) (hq : qop L H (oval env) so = some sv) : QS P o c w a sv := by
  simp only [opOf, ho, Option.bind_eq_bind] at hop
  obtain ⟨n, hn, hop⟩ := Option.bind_eq_some_iff.1 hop
  obtain ⟨g, hg, hop⟩ := Option.bind_eq_some_iff.1 hop
  simp only [Option.some.injEq] at hop; subst hop
  simp only [qop] at hq
  split at hq
  · rename_i cs off he
    obtain ⟨u, hu1, rfl⟩ := Option.map_eq_some_iff.1 hq
    obtain ⟨y, h3, h4⟩ := loadAt_sound (P := P) hn hg m (oval_rs hE x) he hu1
    exact QS.of (Instr.loadAt t (a.eval x)) (by simp [execOp, ho]) h3 h4
  · cases hq

theorem q_nilc {x : Operand} (ho : o.op = .nilCheck x) (hop : opOf P o = some so) (hE : ERel c w env a.tmps) (hq : qop L H (oval env) so = some sv) : QS P o c w a sv := by
  simp only [opOf, ho, Option.some.injEq] at hop; subst hop
  have hx := oval_rs hE x
  simp only [qop] at hq
  split at hq
  · rename_i d off he
    simp only [Option.some.injEq] at hq; subst hq
    rw [he] at hx
    have hx' : a.eval x = _ := hx
    exact ⟨_, by simp only [execOp, ho]; rw [hx']; rfl, by rw [← hx']; exact hx⟩
  · rename_i cs off he
    simp only [Option.some.injEq] at hq; subst hq
    rw [he] at hx
    have hx0 := hx
    simp only [RS, RV] at hx
    obtain ⟨b, s, hx', _⟩ := hx
    exact ⟨_, by simp only [execOp, ho]; rw [hx']; rfl, by rw [← hx']; exact hx0⟩
  · rename_i ad he
    simp only [Option.some.injEq] at hq; subst hq
    rw [he] at hx
    have hx' : a.eval x = _ := hx
    exact ⟨_, by simp only [execOp, ho]; rw [hx']; rfl, by simp [RS, RV]⟩
  · cases hq

theorem binq_sound {op : BinOp} {t ty : TypeId} {x y : Operand} (ho : o.op = .binOp op t x y ty) (hE : ERel c w env a.tmps) (hq : binq op (oval env x) (oval env y) = some sv) : QS P o c w a sv := by
  have hx := oval_rs hE x
  have hy := oval_rs hE y
  unfold binq at hq
  split at hq
  · rename_i u v h1 h2
    rw [h1] at hx
    rw [h2] at hy
    have hx' : a.eval x = u := hx
    have hy' : a.eval y = v := hy
    obtain ⟨r, hr, rfl⟩ := Option.map_eq_some_iff.1 hq
    refine QS.of (do eqGuard op t x y (a.eval x) (a.eval y); binOp op t (a.eval x) (a.eval y)) (by simp [execOp, ho]) ?_ (v := r) (by simp [RS, RV])
    rw [hx', hy']
    exact scalar2_run hr w x y
  · cases hq

theorem isnilq_sound (m : MRel c L H w) {k : NK} {s : SV} {v : Value} (hs : RS c w s v) {b : Bool} (h : isnilq L k s = some b) :
    (k = .p ∧ ∃ p, v = .pointer p ∧ b = p.isNone) ∨ (k = .s ∧ ∃ p n k, v = .slice p n k ∧ b = p.isNone) ∨ (k = .m ∧ ∃ p, v = .map p ∧ b = p.isNone) := by
  cases s with
  | loc d o =>
    cases k <;> simp only [isnilq] at h <;> try (cases h; done)
    simp only [Option.some.injEq] at h; subst h
    exact .inl ⟨rfl, _, hs, rfl⟩
  | own d =>
    cases k <;> simp only [isnilq] at h <;> try (cases h; done)
    cases hg : get L d with
    | none => simp [hg] at h
    | some ob =>
      rw [hg] at h
      cases ob with
      | cells => cases h
      | arr nl cs n e sz =>
        simp only [Option.some.injEq] at h; subst h
        obtain ⟨h0, h1, _, vs, h2, _⟩ := m.loc d _ hg
        have hs' : v = c.ν d := hs
        rcases h2.2 with ⟨he, _⟩ | ⟨g, cap, cur, he, _⟩
        · exact .inr (.inl ⟨rfl, none, 0, 0, by rw [hs', he], by rw [Option.isNone_none]; exact h1.2 he⟩)
        · refine .inr (.inl ⟨rfl, _, _, _, by rw [hs', he], ?_⟩)
          cases nl with
          | false => rfl
          | true => have := h1.1 rfl; rw [he] at this; cases this
  | v a =>
    cases a with
    | box cs o =>
      cases k <;> simp only [isnilq] at h <;> try (cases h; done)
      simp only [Option.some.injEq] at h; subst h
      simp only [RS, RV] at hs
      obtain ⟨b, s, rfl, _⟩ := hs
      exact .inl ⟨rfl, _, rfl, rfl⟩
    | vec nl cs n =>
      cases k <;> simp only [isnilq] at h <;> try (cases h; done)
      simp only [Option.some.injEq] at h; subst h
      simp only [RS, RV] at hs
      obtain ⟨ad, cap, rfl, _, _, h3, h4, _⟩ := hs
      refine .inr (.inl ⟨rfl, _, _, _, rfl, ?_⟩)
      cases nl with
      | true => rw [(h3 rfl).1]; rfl
      | false => cases ad with
        | none => exact absurd rfl (h4 rfl)
        | some _ => rfl
    | raw u =>
      simp only [RS, RV] at hs; subst hs
      cases k <;> cases v <;> simp only [isnilq] at h <;> try (cases h; done)
      · rename_i ad
        cases ad <;> simp only [Option.some.injEq] at h <;> subst h <;> exact .inl ⟨rfl, _, rfl, rfl⟩
      · rename_i ad n k
        cases ad <;> simp only [Option.some.injEq] at h <;> subst h <;> exact .inr (.inl ⟨rfl, _, _, _, rfl, rfl⟩)
      · rename_i ad
        cases ad <;> simp only [Option.some.injEq] at h <;> subst h <;> exact .inr (.inr ⟨rfl, _, rfl, rfl⟩)
    | top | agg | tup | fn | ifc => cases k <;> simp [isnilq] at h

theorem eqn_ptr {t e : TypeId} (hu : P.underlying t = some (.pointer e)) (p : Option Addr) : (Op.equal t (.pointer p) (.pointer none)).run P w = .ok p.isNone w := by
  unfold Op.equal Op.maxDepth
  rw [Op.equalIn, Sem.run_bind, run_underlying hu, Result.andThen_ok]
  cases p <;> rfl
theorem eqn_slice {t e : TypeId} (hu : P.underlying t = some (.slice e)) (p : Option Addr) (n k n' k' : Nat) : (Op.equal t (.slice p n k) (.slice none n' k')).run P w = .ok p.isNone w := by
  unfold Op.equal Op.maxDepth
  rw [Op.equalIn, Sem.run_bind, run_underlying hu, Result.andThen_ok]
  cases p <;> rfl
theorem eqn_map {t k e : TypeId} (hu : P.underlying t = some (.map k e)) (p : Option Nat) : (Op.equal t (.map p) (.map none)).run P w = .ok p.isNone w := by
  unfold Op.equal Op.maxDepth
  rw [Op.equalIn, Sem.run_bind, run_underlying hu, Result.andThen_ok]
  cases p <;> rfl

theorem isnil_any {t ty : TypeId} {x y : Operand} {neg : Bool} {k : NK} (ho : o.op = .binOp (if neg then .neq else .eql) t x y ty) (m : MRel c L H w) (hE : ERel c w env a.tmps) {b : Bool} (hb : isnilq L k (oval env x) = some b)
    (hk : (k = .p ∧ ∃ e, P.underlying t = some (.pointer e) ∧ a.eval y = .pointer none) ∨ (k = .s ∧ ∃ e n k, P.underlying t = some (.slice e) ∧ a.eval y = .slice none n k) ∨ (k = .m ∧ ∃ k e, P.underlying t = some (.map k e) ∧ a.eval y = .map none)) :
    QS P o c w a (.v (.raw (.bool (if neg then !b else b)))) := by
  refine QS.of (do eqGuard (if neg then .neq else .eql) t x y (a.eval x) (a.eval y); binOp (if neg then .neq else .eql) t (a.eval x) (a.eval y)) (by simp [execOp, ho]) ?_ (v := .bool (if neg then !b else b)) (by simp [RS, RV])
  have hs := isnilq_sound m (oval_rs hE x) hb
  rcases hk with ⟨rfl, e, hu, hy⟩ | ⟨rfl, e, n', k', hu, hy⟩ | ⟨rfl, k', e, hu, hy⟩ <;> rcases hs with ⟨hh, p, h1, h2⟩ | ⟨hh, p, n, k, h1, h2⟩ | ⟨hh, p, h1, h2⟩ <;> try (cases hh; done)
  · rw [h1, hy, Sem.run_bind, eqGuard_ok _ _ _ _ (by simp) (by simp), Result.andThen_ok]
    cases neg <;> simp [binOp, eqn_ptr hu, h2]
  · rw [h1, hy, Sem.run_bind, eqGuard_ok _ _ _ _ (by simp) (by simp), Result.andThen_ok]
    cases neg <;> simp [binOp, eqn_slice hu, h2]
  · rw [h1, hy, Sem.run_bind, eqGuard_ok _ _ _ _ (by simp) (by simp), Result.andThen_ok]
    cases neg <;> simp [binOp, eqn_map hu, h2]

theorem beq_any {t ty : TypeId} {x y : Operand} {neg : Bool} (ho : o.op = .binOp (if neg then .neq else .eql) t x y ty) (hE : ERel c w env a.tmps) (hu : P.underlying t = some .bool) {p q : Bool}
    (hx : oval env x = .v (.raw (.bool p))) (hy : oval env y = .v (.raw (.bool q))) : QS P o c w a (.v (.raw (.bool (if neg then !(p == q) else p == q)))) := by
  have h1 := oval_rs hE x
  have h2 := oval_rs hE y
  rw [hx] at h1
  rw [hy] at h2
  have h1' : a.eval x = .bool p := h1
  have h2' : a.eval y = .bool q := h2
  refine QS.of (do eqGuard (if neg then .neq else .eql) t x y (a.eval x) (a.eval y); binOp (if neg then .neq else .eql) t (a.eval x) (a.eval y)) (by simp [execOp, ho]) ?_ (v := .bool (if neg then !(p == q) else p == q)) (by simp [RS, RV])
  have heq : (Op.equal t (.bool p) (.bool q)).run P w = .ok (p == q) w := by
    unfold Op.equal Op.maxDepth
    rw [Op.equalIn, Sem.run_bind, run_underlying hu, Result.andThen_ok]
    rfl
  rw [h1', h2', Sem.run_bind, eqGuard_ok _ _ _ _ (by simp) (by simp), Result.andThen_ok]
  cases neg <;> simp [binOp, heq]

theorem run_part_sk {t : TypeId} {k : SK} (h : skOf P t = some k) {xs : Array Value} {off : Nat} {v : Value} (hx : xs[off]? = some v) : (part t xs off).run P w = .ok v w := by
  unfold skOf at h
  have key : ∀ d, P.underlying t = some d → (match d with | .struct _ | .array _ _ => true | _ => false) = false → (part t xs off).run P w = .ok v w := by
    intro d hd hm
    have hi : (isAgg t).run P w = .ok false w := by
      unfold isAgg
      rw [Sem.run_bind, run_underlying hd, Result.andThen_ok]
      cases d <;> first | rfl | (cases hm; done)
    unfold part
    rw [Sem.run_bind, hi, Result.andThen_ok, hx]
    rfl
  split at h <;> first | (cases h; done) | exact key _ (by assumption) rfl
theorem run_equalIn_sk {t : TypeId} {k : SK} (h : skOf P t = some k) {u v : AV} {x y : Value} {I : Nat → Prop} (hu : RV I w u x) (hv : RV I w v y) {b : Bool} (hs : scalEq k u v = some b) (d : Nat) : (Op.equalIn (d + 1) t x y).run P w = .ok b w := by
  unfold skOf at h
  unfold scalEq at hs
  split at hs
  · rename_i k1 a k2 c
    simp only [RV] at hu hv
    subst hu; subst hv
    split at hs
    · rename_i hk
      subst hk
      split at h <;> try (cases h; done)
      rename_i q hq
      rw [run_equalIn_int w d t k1 q a c hq]
      injection hs with hs
      rw [← hs]
      congr 1
    · cases hs
  · rename_i a c
    simp only [RV] at hu hv
    subst hu; subst hv
    split at h <;> try (cases h; done)
    rename_i hq
    have key : (a.toList == c.toList) = decide (a = c) := by
      by_cases h : a = c
      · subst h; simp
      · have : a.toList ≠ c.toList := fun e => h (by
          rw [ByteArray.toList_eq, ByteArray.toList_eq] at e
          cases a; cases c
          simp only [ByteArray.mk.injEq]
          exact Array.ext' e)
        simp [h, this]
    rw [run_equalIn_string w d t a c hq, key]
    injection hs with hs
    rw [← hs]
  · rename_i a c
    simp only [RV] at hu hv
    subst hu; subst hv
    split at h <;> try (cases h; done)
    rename_i hq
    rw [run_equalIn_bool' w d t a c hq]
    injection hs with hs
    rw [← hs]
    cases a <;> cases c <;> rfl
  · cases hs
theorem eqCells_cons {cs ds : List AV} {o : Nat} {k : SK} {r : List (Nat × SK)} {b : Bool} (h : eqCells cs ds ((o, k) :: r) = some b) : ∃ u v p q, cs[o]? = some u ∧ ds[o]? = some v ∧ scalEq k u v = some p ∧ eqCells cs ds r = some q ∧ b = (p && q) := by
  unfold eqCells at h
  split at h
  · rename_i u v h1 h2
    split at h
    · rename_i p q h3 h4
      injection h with h
      exact ⟨u, v, p, q, h1, h2, h3, h4, h.symm⟩
    · cases h
  · cases h
theorem eqCells_append {cs ds : List AV} : ∀ {l m : List (Nat × SK)} {b : Bool}, eqCells cs ds (l ++ m) = some b → ∃ p q, eqCells cs ds l = some p ∧ eqCells cs ds m = some q ∧ b = (p && q)
  | [], m, b, h => ⟨true, b, rfl, h, by simp⟩
  | (o, k) :: l, m, b, h => by
    obtain ⟨u, v, p, q, h1, h2, h3, h4, rfl⟩ := eqCells_cons h
    obtain ⟨p', q', h5, h6, rfl⟩ := eqCells_append h4
    exact ⟨p && p', q', by unfold eqCells; simp only [h1, h2, h3, h5], h6, by cases p <;> rfl⟩
theorem eqCells_sub {cs ds : List AV} {off n : Nat} : ∀ {l : List (Nat × SK)}, l.all (fun p => decide (p.1 < n)) = true → eqCells ((cs.drop off).take n) ((ds.drop off).take n) l = eqCells cs ds (l.map fun p => (off + p.1, p.2))
  | [], _ => rfl
  | (o, k) :: l, h => by
    simp only [List.all_cons, Bool.and_eq_true, decide_eq_true_eq] at h
    simp only [List.map_cons, eqCells]
    simp only [eqCells_sub h.2, List.getElem?_take, if_pos h.1, List.getElem?_drop]
def FlatOk (P : Program) (w : World) (I : Nat → Prop) (d : Nat) : Prop := ∀ (t : TypeId) (off : Nat) (l : List (Nat × SK)) (cs ds : List AV) (xs ys : List Value) (b : Bool), RL I w cs xs → RL I w ds ys → eqFlat P d t = some l → eqCells cs ds (l.map fun p => (off + p.1, p.2)) = some b →
  ∃ x y, (part t xs.toArray off).run P w = .ok x w ∧ (part t ys.toArray off).run P w = .ok y w ∧ ∀ e, (Op.equalIn (e + d + 1) t x y).run P w = .ok b w
theorem run_eqFields_flat {I : Nat → Prop} {d : Nat} (ih : FlatOk P w I d) {cs ds : List AV} {xs ys : List Value} (hx : RL I w cs xs) (hy : RL I w ds ys) (e : Nat) : ∀ (fs : List Field) (ls : List (List (Nat × SK))) (b : Bool), (∀ f ∈ fs, f.name ≠ "_") →
    (fs.mapM fun f => (eqFlat P d f.type).map fun l => l.map fun p => (f.offset + p.1, p.2)) = some ls → eqCells cs ds ls.flatten = some b → (Op.eqFields (e + d + 1) xs.toArray ys.toArray fs).run P w = .ok b w
  | [], l, b, _, hl, hb => by
    simp at hl; subst hl
    simp [eqCells] at hb; subst hb
    rfl
  | f :: fs, l, b, hn, hl, hb => by
    rw [List.mapM_cons] at hl
    simp only [bind, Option.bind_eq_some_iff, pure, Option.some.injEq, Option.map_eq_some_iff] at hl
    obtain ⟨_, ⟨k, hk, rfl⟩, l', hl', rfl⟩ := hl
    rw [List.flatten_cons] at hb
    obtain ⟨p, q, h3, h4, rfl⟩ := eqCells_append hb
    obtain ⟨x, y, h5, h6, h7⟩ := ih f.type f.offset k cs ds xs ys p hx hy hk h3
    have ih2 := run_eqFields_flat ih hx hy e fs l' q (fun g hg => hn g (by simp [hg])) hl' h4
    unfold Op.eqFields
    rw [if_pos (hn f (by simp)), Sem.run_bind, h5, Result.andThen_ok, Sem.run_bind, h6, Result.andThen_ok, Sem.run_bind, h7 e, Result.andThen_ok]
    cases p
    · rfl
    · simpa using ih2
theorem flat_sk {I : Nat → Prop} {d : Nat} {t : TypeId} {off : Nat} {k : SK} {cs ds : List AV} {xs ys : List Value} {b : Bool} (hx : RL I w cs xs) (hy : RL I w ds ys) (hk : skOf P t = some k) (hb : eqCells cs ds ([(0, k)].map fun p => (off + p.1, p.2)) = some b) :
    ∃ x y, (part t xs.toArray off).run P w = .ok x w ∧ (part t ys.toArray off).run P w = .ok y w ∧ ∀ e, (Op.equalIn (e + d + 1) t x y).run P w = .ok b w := by
  simp only [List.map_cons, List.map_nil, Nat.add_zero] at hb
  obtain ⟨u, v, p, q, h1, h2, h3, h4, rfl⟩ := eqCells_cons hb
  simp only [eqCells, Option.some.injEq] at h4
  subst h4
  obtain ⟨x, hx1, hx2⟩ := RL_get hx h1
  obtain ⟨y, hy1, hy2⟩ := RL_get hy h2
  exact ⟨x, y, run_part_sk hk (by simpa using hx1), run_part_sk hk (by simpa using hy1), fun e => by rw [Bool.and_true]; exact run_equalIn_sk hk hx2 hy2 h3 (e + d)⟩
theorem flatOk (P : Program) (w : World) (I : Nat → Prop) : ∀ d, FlatOk P w I d
  | 0 => by
    intro t off l cs ds xs ys b hx hy hl hb
    unfold eqFlat at hl
    obtain ⟨k, hk, rfl⟩ := Option.map_eq_some_iff.1 hl
    exact flat_sk (d := 0) hx hy hk hb
  | d + 1 => by
    intro t off l cs ds xs ys b hx hy hl hb
    unfold eqFlat at hl
    split at hl
    · rename_i k hk
      injection hl with hl
      subst hl
      exact flat_sk (d := d + 1) hx hy hk hb
    · split at hl
      · rename_i fs n hu hn
        split at hl
        · cases hl
        · rename_i hh
          simp only [Bool.or_eq_true, not_or, Bool.not_eq_true] at hh
          obtain ⟨p1, p3⟩ := hh
          split at hl
          · rename_i ls hls
            split at hl
            · rename_i hall
              injection hl with hl
              subst hl
              have hpt : ∀ zs : List Value, (part t zs.toArray off).run P w = .ok (.agg ((zs.drop off).take n).toArray) w := by
                intro zs
                have hi : (isAgg t).run P w = .ok true w := by
                  unfold isAgg
                  rw [Sem.run_bind, run_underlying hu, Result.andThen_ok]
                  rfl
                unfold part
                rw [Sem.run_bind, hi, Result.andThen_ok]
                simp only [if_true]
                rw [Sem.run_bind, tsz_some hn w, Result.andThen_ok]
                simp only [Sem.run_pure, List.extract_toArray, List.extract_eq_take_drop, Nat.add_sub_cancel_left]
              refine ⟨_, _, hpt xs, hpt ys, fun e => ?_⟩
              have hfs : P.fieldsOf t = fs := by simp [Program.fieldsOf, hu]
              rw [run_equalIn_struct w (e + (d + 1)) t _ _ (by rw [hfs]; exact hu) p1, hfs]
              rw [← eqCells_sub hall] at hb
              refine run_eqFields_flat (flatOk P w I d) (RL_take n (RL_drop off hx)) (RL_take n (RL_drop off hy)) e _ ls b (fun f hf hnm => ?_) hls hb
              rw [List.any_eq_false] at p3
              exact p3 f hf (by simp [hnm])
            · cases hl
          · cases hl
      · cases hl
theorem run_eqItems_sk {I : Nat → Prop} {cs ds : List AV} {xs ys : List Value} (hx : RL I w cs xs) (hy : RL I w ds ys) (d : Nat) {e : TypeId} {k : SK} (hk : skOf P e = some k) : ∀ (is : List Nat) (b : Bool),
    eqCells cs ds (is.map fun i => (i, k)) = some b → (Op.eqItems (d + 1) e 1 xs.toArray ys.toArray is).run P w = .ok b w
  | [], b, hb => by
    simp [eqCells] at hb; subst hb
    rfl
  | i :: is, b, hb => by
    obtain ⟨u, v, p, q, h1, h2, h3, h4, rfl⟩ := eqCells_cons hb
    obtain ⟨x, hx1, hx2⟩ := RL_get hx h1
    obtain ⟨y, hy1, hy2⟩ := RL_get hy h2
    have ih := run_eqItems_sk hx hy d hk is q h4
    unfold Op.eqItems
    rw [Nat.mul_one, Sem.run_bind, run_part_sk hk (v := x) (by simpa using hx1), Result.andThen_ok, Sem.run_bind, run_part_sk hk (v := y) (by simpa using hy1), Result.andThen_ok, Sem.run_bind, run_equalIn_sk hk hx2 hy2 h3 d, Result.andThen_ok]
    cases p
    · rfl
    · simpa using ih
theorem eqs_any {t ty : TypeId} {x y : Operand} {neg : Bool} (ho : o.op = .binOp (if neg then .neq else .eql) t x y ty) (hE : ERel c w env a.tmps) {l : List (Nat × SK)} (hl : eqOffs P t = some l) {cs ds : List AV} (hx : oval env x = .v (.agg cs)) (hy : oval env y = .v (.agg ds))
    {b : Bool} (hb : eqCells cs ds l = some b) : QS P o c w a (.v (.raw (.bool (if neg then !b else b)))) := by
  have h1 := oval_rs hE x
  have h2 := oval_rs hE y
  rw [hx] at h1
  rw [hy] at h2
  simp only [RS, RV] at h1 h2
  obtain ⟨xs, h1', hx'⟩ := h1
  obtain ⟨ys, h2', hy'⟩ := h2
  refine QS.of (do eqGuard (if neg then .neq else .eql) t x y (a.eval x) (a.eval y); binOp (if neg then .neq else .eql) t (a.eval x) (a.eval y)) (by simp [execOp, ho]) ?_ (v := .bool (if neg then !b else b)) (by simp [RS, RV])
  have hg : P.eqGuardType P.depth t = false ∧ (Op.equalIn 10000 t (.agg xs.toArray) (.agg ys.toArray)).run P w = .ok b w := by
    unfold eqOffs at hl
    split at hl
    · rename_i fs hu
      split at hl
      · cases hl
      · rename_i hh
        simp only [Bool.or_eq_true, not_or, Bool.not_eq_true] at hh
        obtain ⟨⟨p1, p2⟩, p3⟩ := hh
        refine ⟨p2, ?_⟩
        have hfs : P.fieldsOf t = fs := by simp [Program.fieldsOf, hu]
        rw [run_equalIn_struct w 9999 t _ _ (by rw [hfs]; exact hu) p1, hfs]
        obtain ⟨ls, hls, rfl⟩ := Option.map_eq_some_iff.1 hl
        refine run_eqFields_flat (flatOk P w _ 2) hx' hy' 9996 _ ls b (fun f hf hn => ?_) hls hb
        rw [List.any_eq_false] at p3
        exact p3 f hf (by simp [hn])
    · rename_i n e hu
      split at hl
      · cases hl
      · rename_i hh
        simp only [Bool.or_eq_true, not_or, Bool.not_eq_true, bne_eq_false_iff_eq] at hh
        obtain ⟨k, hk, rfl⟩ := Option.map_eq_some_iff.1 hl
        refine ⟨hh.1, ?_⟩
        have hsz : tsz P e = some 1 := hh.2
        unfold tsz at hsz
        obtain ⟨i, hi, h1⟩ := Option.map_eq_some_iff.1 hsz
        have hc : P.cellsOf e = 1 := by simp [Program.cellsOf, hi, h1]
        rw [run_equalIn_array w 9999 _ _ hu hi, hc]
        exact run_eqItems_sk hx' hy' 9998 hk _ b hb
    · cases hl
  rw [h1', h2', Sem.run_bind, run_eqGuard_agg w _ t x y _ _ hg.1, Result.andThen_ok]
  cases neg
  · exact (run_eql_struct w t _ _).trans (by rw [hg.2]; rfl)
  · exact (run_neq_struct w t _ _).trans (by rw [hg.2]; rfl)

theorem q_bin {op : BinOp} {t ty : TypeId} {x y : Operand} (ho : o.op = .binOp op t x y ty) (hop : opOf P o = some so) (m : MRel c L H w) (hE : ERel c w env a.tmps) (hq : qop L H (oval env) so = some sv) : QS P o c w a sv := by
  simp only [opOf, ho] at hop
  split at hop
  · rename_i so' hso
    simp only [Option.some.injEq] at hop
    subst hop
    unfold binOf at hso
    split at hso
    · obtain ⟨l, hl, rfl⟩ := Option.map_eq_some_iff.1 hso
      simp only [qop] at hq
      split at hq
      · rename_i h1 h2
        obtain ⟨b, hb, rfl⟩ := Option.map_eq_some_iff.1 hq
        exact eqs_any (neg := false) ho hE hl h1 h2 hb
      · cases hq
    · obtain ⟨l, hl, rfl⟩ := Option.map_eq_some_iff.1 hso
      simp only [qop] at hq
      split at hq
      · rename_i h1 h2
        obtain ⟨b, hb, rfl⟩ := Option.map_eq_some_iff.1 hq
        exact eqs_any (neg := true) ho hE hl h1 h2 hb
      · cases hq
    · cases hso
  rename_i hnone
  clear hnone
  split at hop <;> simp only [Option.some.injEq] at hop <;> subst hop <;> simp only [qop] at hq
  · rename_i hu
    obtain ⟨b, hb, rfl⟩ := Option.map_eq_some_iff.1 hq
    exact isnil_any (neg := false) ho m hE hb (.inl ⟨rfl, _, hu, rfl⟩)
  · rename_i hu
    obtain ⟨b, hb, rfl⟩ := Option.map_eq_some_iff.1 hq
    exact isnil_any (neg := true) ho m hE hb (.inl ⟨rfl, _, hu, rfl⟩)
  · rename_i hu
    obtain ⟨b, hb, rfl⟩ := Option.map_eq_some_iff.1 hq
    exact isnil_any (neg := false) ho m hE hb (.inr (.inl ⟨rfl, _, _, _, hu, rfl⟩))
  · rename_i hu
    obtain ⟨b, hb, rfl⟩ := Option.map_eq_some_iff.1 hq
    exact isnil_any (neg := true) ho m hE hb (.inr (.inl ⟨rfl, _, _, _, hu, rfl⟩))
  · rename_i hu
    obtain ⟨b, hb, rfl⟩ := Option.map_eq_some_iff.1 hq
    exact isnil_any (neg := false) ho m hE hb (.inr (.inr ⟨rfl, _, _, hu, rfl⟩))
  · rename_i hu
    obtain ⟨b, hb, rfl⟩ := Option.map_eq_some_iff.1 hq
    exact isnil_any (neg := true) ho m hE hb (.inr (.inr ⟨rfl, _, _, hu, rfl⟩))
  · rename_i hu
    split at hq
    · rename_i p q h1 h2
      simp only [Option.some.injEq] at hq; subst hq
      exact beq_any (neg := false) ho hE hu h1 h2
    · cases hq
  · rename_i hu
    split at hq
    · rename_i p q h1 h2
      simp only [Option.some.injEq] at hq; subst hq
      exact beq_any (neg := true) ho hE hu h1 h2
    · cases hq
  · exact binq_sound ho hE hq

end
end Go.Proofs.Ytejmcijcdhoogaa.Abs
