import Derived.Test.YtejmcijcdhoogaaAbs6
set_option linter.unusedSimpArgs false
set_option linter.unusedVariables false
namespace Go.Proofs.Ytejmcijcdhoogaa.Abs
open Go

section
variable {P : Program} {o : Oper} {so : SOp} {c : Cx} {L : List (Nat × LObj)} {H : AHeap} {w : World} {env : List (Nat × SV)} {a : Act} {sv : SV}

theorem q_len {cl : Call} {x : Operand} {t : TypeId} {str : Bool} (ho : o.op = .call cl) (hc : cl.callee = .builtin .len) (hargs : cl.args.toList = [x]) (ht : cl.argTypes.toList = [t])
    (hu : if str then P.underlying t = some .string else ∃ e, P.underlying t = some (.slice e)) (m : MRel c L H w) (hE : ERel c w env a.tmps) {n : Nat} (hn : lenq L str (oval env x) = some n) :
    QS P o c w a (.v (.raw (.int .i64 n))) := by
  have hA : cl.args = #[x] := by cases h : cl.args; simp [h] at hargs; subst hargs; rfl
  have hT : cl.argTypes = #[t] := by cases h : cl.argTypes; simp [h] at ht; subst ht; rfl
  have he : execOp a.eval o = (do pure (.value (← Builtin.len_ #[t] o.type #[a.eval x]))) := by
    simp [execOp, ho, resolve, hc, hA, hT, invoke, builtin]
  refine QS.of _ he (v := .int .i64 n) ?_ (by simp [RS, RV])
  rcases lenq_sound m (oval_rs hE x) hn with ⟨rfl, p, k, h1⟩ | ⟨rfl, b, h1, rfl⟩
  · obtain ⟨e, hu⟩ := hu
    simp [Builtin.len_, run_underlying hu, h1, goInt]
  · have hu' : P.underlying t = some .string := hu
    simp [Builtin.len_, run_underlying hu', h1, goInt]

theorem q_cap {cl : Call} {x : Operand} {t e : TypeId} (ho : o.op = .call cl) (hc : cl.callee = .builtin .cap) (hargs : cl.args.toList = [x]) (ht : cl.argTypes.toList = [t]) (hu : P.underlying t = some (.slice e))
    (hE : ERel c w env a.tmps) {n : Nat} (hn : capq (oval env x) = some n) : QS P o c w a (.v (.raw (.int .i64 n))) := by
  have hA : cl.args = #[x] := by cases h : cl.args; simp [h] at hargs; subst hargs; rfl
  have hT : cl.argTypes = #[t] := by cases h : cl.argTypes; simp [h] at ht; subst ht; rfl
  have he : execOp a.eval o = (do pure (.value (← Builtin.cap_ #[t] o.type #[a.eval x]))) := by
    simp [execOp, ho, resolve, hc, hA, hT, invoke, builtin]
  have hx := oval_rs hE x
  refine QS.of _ he (v := .int .i64 n) ?_ (by simp [RS, RV])
  unfold capq at hn
  split at hn
  · rename_i cs k hxe
    simp only [Option.some.injEq] at hn
    subst hn
    rw [hxe] at hx
    simp only [RS, RV] at hx
    obtain ⟨ad, cap, h1, _, _, h3, _⟩ := hx
    obtain ⟨-, rfl⟩ := h3 trivial
    simp [Builtin.cap_, run_underlying hu, h1, goInt]
  · rename_i ad k cap hxe
    simp only [Option.some.injEq] at hn
    subst hn
    rw [hxe] at hx
    have h1 : a.eval x = .slice ad k cap := hx
    simp [Builtin.cap_, run_underlying hu, h1, goInt]
  · cases hn
theorem q_mnx {cl : Call} {x y : Operand} {mx : Bool} (ho : o.op = .call cl) (hc : cl.callee = .builtin (if mx then .max else .min)) (hargs : cl.args.toList = [x, y])
    (hE : ERel c w env a.tmps) (hq : mnxq mx (oval env x) (oval env y) = some sv) : QS P o c w a sv := by
  have hA : cl.args = #[x, y] := by cases h : cl.args; simp [h] at hargs; subst hargs; rfl
  have hx := oval_rs hE x
  have hy := oval_rs hE y
  unfold mnxq at hq
  split at hq
  · rename_i k p k' q h1 h2
    rw [h1] at hx
    rw [h2] at hy
    have hx' : a.eval x = .int k p := hx
    have hy' : a.eval y = .int k' q := hy
    simp only [Option.some.injEq] at hq; subst hq
    cases mx with
    | true =>
      refine QS.of (Builtin.max_ cl.argTypes o.type #[a.eval x, a.eval y]) (by simp [execOp, ho, resolve, hc, hA, invoke, builtin]) (v := .int k (if p < q then q else p)) ?_ (by simp [RS, RV])
      simp [Builtin.max_, Builtin.max2, hx', hy']
    | false =>
      refine QS.of (Builtin.min_ cl.argTypes o.type #[a.eval x, a.eval y]) (by simp [execOp, ho, resolve, hc, hA, invoke, builtin]) (v := .int k (if q < p then q else p)) ?_ (by simp [RS, RV])
      simp [Builtin.min_, Builtin.min2, hx', hy']
  · cases hq

/-! ### build -/
theorem partsq_sound (hE : ERel c w env a.tmps) : ∀ (ps : List (Nat × Nat × Operand)) {l : List (Nat × Nat × AV)}, partsq (oval env) ps = some l →
    l.length = ps.length ∧ ∀ (j : Nat) (p : Nat × Nat × Operand) (q : Nat × Nat × AV), ps[j]? = some p → l[j]? = some q → q.1 = p.1 ∧ q.2.1 = p.2.1 ∧ RV c.I w q.2.2 (a.eval p.2.2)
  | [], l, h => by simp [partsq] at h; subst h; simp
  | (o, n, x) :: ps, l, h => by
    simp only [partsq] at h
    split at h
    · rename_i u l' h1 h2
      simp only [Option.some.injEq] at h; subst h
      obtain ⟨k1, k2⟩ := partsq_sound hE ps h2
      refine ⟨by simp [k1], fun j p q hp hq => ?_⟩
      cases j with
      | zero =>
        simp at hp hq; subst hp hq
        have hx := oval_rs hE x
        rw [h1] at hx
        exact ⟨rfl, rfl, hx⟩
      | succ j => exact k2 j p q (by simpa using hp) (by simpa using hq)
    · cases h

theorem fold_set (xs : List Value) : ∀ (cs : Array Value) (off k : Nat), off + k + xs.length ≤ cs.size →
    ((xs.zipIdx k).foldl (fun (cs : Array Value) (p : Value × Nat) => cs.setIfInBounds (off + p.2) p.1) cs).toList = cs.toList.take (off + k) ++ xs ++ cs.toList.drop (off + k + xs.length) := by
  induction xs with
  | nil => intro cs off k h; simp
  | cons x xs ih =>
    intro cs off k h
    simp only [List.zipIdx_cons, List.foldl_cons]
    simp only [List.length_cons] at h
    rw [ih _ _ _ (by simp; omega)]
    simp only [Array.toList_setIfInBounds]
    have hk : off + k < cs.toList.length := by simp; omega
    rw [show off + (k + 1) = off + k + 1 by omega]
    rw [List.take_succ_eq_append_getElem (by simp; omega)]
    simp only [List.getElem_set_self, List.take_set_of_le (Nat.le_refl _), List.append_assoc, List.cons_append, List.nil_append, List.length_cons]
    congr 2
    rw [List.drop_set_of_lt (by omega)]
    rw [show off + k + 1 + xs.length = off + k + (xs.length + 1) by omega]

theorem fill_sound {I : Nat → Prop} {place : Nat → Option (Nat × Nat)} : ∀ (ps : List (Nat × Value)) (l : List (Nat × Nat × AV)) (cs : List AV) (vs : List Value) {ds : List AV},
    RL I w cs vs → l.length = ps.length → (∀ (j : Nat) (p : Nat × Value) (q : Nat × Nat × AV), ps[j]? = some p → l[j]? = some q → place p.1 = some (q.1, q.2.1) ∧ RV I w q.2.2 p.2) → fillA cs l = some ds →
    ∃ us : List Value, Instr.fill place vs.toArray ps = some us.toArray ∧ RL I w ds us
  | [], l, cs, vs, ds, hr, hl, _, h => by
    have : l = [] := List.eq_nil_of_length_eq_zero (by simpa using hl)
    subst this
    simp only [fillA, Option.some.injEq] at h; subst h
    exact ⟨vs, by simp [Instr.fill], hr⟩
  | (i, v) :: ps, l, cs, vs, ds, hr, hl, hp, h => by
    cases l with
    | nil => simp at hl
    | cons q l =>
      obtain ⟨off, n, u⟩ := q
      obtain ⟨h1, h2⟩ := hp 0 (i, v) (off, n, u) (by simp) (by simp)
      simp only [fillA] at h
      split at h
      · rename_i es hes
        split at h
        · rename_i hle
          obtain ⟨hle1, hle2⟩ := hle
          have hc := acells_sound h2 hes
          have hlen := RL_length hc
          have hvl := RL_length hr
          simp only [Array.length_toList] at hlen
          have hnew : RL I w (cs.take off ++ es ++ cs.drop (off + n)) (vs.take off ++ v.cells.toList ++ vs.drop (off + n)) := RL_append (RL_append (RL_take off hr) hc) (RL_drop _ hr)
          obtain ⟨us, h3, h4⟩ := fill_sound ps l _ _ hnew (by simpa using hl) (fun j p q hj hq => hp (j + 1) p q (by simpa using hj) (by simpa using hq)) h
          refine ⟨us, ?_, h4⟩
          simp only [Instr.fill, h1]
          rw [if_neg (by simp; omega)]
          rw [← h3]
          congr 1
          have hfs := fold_set v.cells.toList vs.toArray off 0 (by simp; omega)
          rw [← Array.foldl_toList, Array.toList_zipIdx]
          apply Array.ext'
          rw [hfs]
          simp; omega
        · cases h
      · cases h

theorem tz_some {t : TypeId} {z : List Value} (h : tz P t = some z) (w : World) : ∃ v, (zeroValue t).run P w = .ok v w ∧ v.cells.toList = z := by
  unfold tz tzv at h
  obtain ⟨v, hv, he⟩ := Option.map_eq_some_iff.1 h
  obtain ⟨i, hi, hz⟩ := Option.bind_eq_some_iff.1 hv
  exact ⟨v, by simp [zeroValue, typeInfo, hi, hz], he⟩

theorem RL_cAV (I : Nat → Prop) (w : World) : ∀ (vs : List Value), RL I w (vs.map cAV) vs
  | [] => by simp [RL]
  | v :: vs => by simp only [List.map_cons, RL]; exact ⟨v, vs, rfl, cAV_rv I w v, RL_cAV I w vs⟩

theorem mapM_get {α β : Type} (f : α → Option β) : ∀ (xs : List α) {ys : List β}, xs.mapM f = some ys → ys.length = xs.length ∧ ∀ (j : Nat) (x : α) (y : β), xs[j]? = some x → ys[j]? = some y → f x = some y
  | [], ys, h => by simp at h; subst h; simp
  | x :: xs, ys, h => by
    simp only [List.mapM_cons, Option.bind_eq_bind, Option.pure_def] at h
    obtain ⟨y, hy, h⟩ := Option.bind_eq_some_iff.1 h
    obtain ⟨ys', hys, h⟩ := Option.bind_eq_some_iff.1 h
    simp only [Option.some.injEq] at h; subst h
    obtain ⟨k1, k2⟩ := mapM_get f xs hys
    refine ⟨by simp [k1], fun j u v hu hv => ?_⟩
    cases j with
    | zero => simp at hu hv; subst hu hv; exact hy
    | succ j => exact k2 j u v (by simpa using hu) (by simpa using hv)

theorem run_mapM {α β : Type} {f : α → Sem β} {g : α → β} {w : World} : ∀ (xs : List α), (∀ x ∈ xs, (f x).run P w = .ok (g x) w) → (xs.mapM f).run P w = .ok (xs.map g) w
  | [], _ => by simp
  | x :: xs, h => by
    rw [List.mapM_cons, Sem.run_bind, h x (by simp), Result.andThen_ok, Sem.run_bind, run_mapM xs (fun y hy => h y (by simp [hy]))]
    rfl

theorem fields_run {fs : Array Field} (h : (fs.toList.all fun f => (tsz P f.type).isSome) = true) (w : World) :
    (fs.mapM fun (f : Field) => do pure (f.offset, ← sizeOf f.type)).run P w = .ok (fs.map fun (f : Field) => (f.offset, (tsz P f.type).getD 0)) w := by
  rw [Array.mapM_eq_mapM_toList, Sem.run_map, run_mapM (g := fun (f : Field) => (f.offset, (tsz P f.type).getD 0)) fs.toList]
  · simp only [Result.andThen_ok]
    congr 1
    apply Array.ext'
    simp
  · intro f hf
    have h1 := List.all_eq_true.1 h f hf
    obtain ⟨n, hn⟩ := Option.isSome_iff_exists.1 h1
    rw [Sem.run_bind, tsz_some hn, Result.andThen_ok, hn]
    rfl

theorem q_build {t : TypeId} {ps : Array (Nat × Operand)} (ho : o.op = .build t ps) (hop : opOf P o = some so) (hE : ERel c w env a.tmps) (hq : qop L H (oval env) so = some sv) : QS P o c w a sv := by
  simp only [opOf, ho, Option.bind_eq_bind] at hop
  obtain ⟨z, hz, hop⟩ := Option.bind_eq_some_iff.1 hop
  obtain ⟨qs, hqs, hop⟩ := Option.bind_eq_some_iff.1 hop
  simp only [Option.some.injEq] at hop; subst hop
  simp only [qop] at hq
  split at hq
  · rename_i l hl
    obtain ⟨ds, hds, rfl⟩ := Option.map_eq_some_iff.1 hq
    obtain ⟨zv, hz1, hz2⟩ := tz_some hz w
    obtain ⟨k1, k2⟩ := partsq_sound hE qs hl
    have hzr : zv.cells = z.toArray := by rw [← hz2]
    have key : ∀ place : Nat → Option (Nat × Nat), (∀ (j : Nat) (p : Nat × Operand) (q : Nat × Nat × Operand), ps.toList[j]? = some p → qs[j]? = some q → place p.1 = some (q.1, q.2.1) ∧ q.2.2 = p.2) → qs.length = ps.toList.length →
        ∃ us : List Value, Instr.fill place z.toArray (ps.map fun (i, x) => (i, a.eval x)).toList = some us.toArray ∧ RL c.I w ds us := by
      intro place hp hlen
      refine fill_sound _ l _ _ (RL_cAV c.I w z) (by simp [k1, hlen]) ?_ hds
      intro j p q hj hq
      rw [Array.toList_map, List.getElem?_map] at hj
      obtain ⟨⟨i, x⟩, hx, rfl⟩ := Option.map_eq_some_iff.1 hj
      have hjl : j < qs.length := by rw [← k1]; exact (List.getElem?_eq_some_iff.1 hq).1
      obtain ⟨h1, h2⟩ := hp j (i, x) qs[j] hx (List.getElem?_eq_getElem hjl)
      obtain ⟨e1, e2, e3⟩ := k2 j qs[j] q (List.getElem?_eq_getElem hjl) hq
      exact ⟨by rw [e1, e2]; exact h1, by rw [h2] at e3; exact e3⟩
    unfold parts? at hqs
    split at hqs
    · rename_i fs hu
      split at hqs
      · rename_i hall
        obtain ⟨m1, m2⟩ := mapM_get _ _ hqs
        obtain ⟨us, h1, h2⟩ := key ((fs.map fun (f : Field) => (f.offset, (tsz P f.type).getD 0))[·]?) (by
          intro j p q hp hq
          have := m2 j p q hp hq
          obtain ⟨f, hf, this⟩ := Option.bind_eq_some_iff.1 this
          obtain ⟨n, hn, this⟩ := Option.bind_eq_some_iff.1 this
          simp only [Option.pure_def, Option.some.injEq] at this
          subst this
          simp [hf, hn]) m1
        refine QS.of (Instr.build t (ps.map fun (i, x) => (i, a.eval x))) (by simp [execOp, ho]) (v := .agg us.toArray) ?_ (by simp only [RS, RV]; exact ⟨us, rfl, h2⟩)
        unfold Instr.build
        rw [Sem.run_bind, hz1, Result.andThen_ok]
        simp only [hzr]
        rw [Sem.run_bind, run_underlying hu, Result.andThen_ok]
        simp only
        rw [Sem.run_bind, fields_run hall, Result.andThen_ok]
        simp only [h1, Sem.run_pure]
      · cases hqs
    · rename_i n e hu
      obtain ⟨sz, hse, hqs⟩ := Option.bind_eq_some_iff.1 hqs
      obtain ⟨m1, m2⟩ := mapM_get _ _ hqs
      all_goals
        obtain ⟨us, h1, h2⟩ := key (fun i => some (i * sz, sz)) (by
          intro j p q hp hq
          have := m2 j p q hp hq
          simp only [Option.some.injEq] at this
          subst this
          simp) m1
        refine QS.of (Instr.build t (ps.map fun (i, x) => (i, a.eval x))) (by simp [execOp, ho]) (v := .agg us.toArray) ?_ (by simp only [RS, RV]; exact ⟨us, rfl, h2⟩)
        unfold Instr.build
        rw [Sem.run_bind, hz1, Result.andThen_ok]
        simp only [hzr]
        rw [Sem.run_bind, run_underlying hu, Result.andThen_ok]
        simp only
        rw [Sem.run_bind, tsz_some hse, Result.andThen_ok]
        simp only [h1, Sem.run_pure]
    · cases hqs
  · cases hq


/-- THE QUIET OPERATIONS: what 'qop' tells is what the machine yields, and nothing turns. -/
theorem qop_sound (hop : opOf P o = some so) (m : MRel c L H w) (hE : ERel c w env a.tmps) (hq : qop L H (oval env) so = some sv) : QS P o c w a sv := by
  cases ho : o.op with
  | move x =>
    simp only [opOf, ho, Option.some.injEq] at hop; subst hop
    simp only [qop, Option.some.injEq] at hq; subst hq
    exact q_move (.inl ho) hE
  | assign x =>
    simp only [opOf, ho, Option.some.injEq] at hop; subst hop
    simp only [qop, Option.some.injEq] at hq; subst hq
    exact q_move (.inr ho) hE
  | pick x y z =>
    simp only [opOf, ho, Option.some.injEq] at hop; subst hop
    simp only [qop] at hq
    split at hq
    · rename_i t he
      simp only [Option.some.injEq] at hq; subst hq
      exact q_pick ho hE he
    · cases hq
  | nilCheck x => exact q_nilc ho hop hE hq
  | load t x => exact q_load ho hop m hE hq
  | binOp op t x y ty => exact q_bin ho hop m hE hq
  | unOp op t x => exact q_un ho hop hE hq
  | convert s t x => exact q_cnv ho hop m hE hq
  | fieldAddr t x f => exact q_fld ho hop hE hq
  | field t x f => exact q_prt ho hop hE hq
  | indexAddr t x i => exact q_ia ho hop m hE hq
  | index t x i => exact q_index ho hop hE hq
  | extract x i => exact q_ext ho hop hE hq
  | lookup t x i ok => exact q_lk ho hop m hE hq
  | makeMap t r =>
    simp only [opOf, ho] at hop
    split at hop
    · cases hop
    · split at hop
      · obtain ⟨kd, -, rfl⟩ := Option.map_eq_some_iff.1 hop
        simp [qop] at hq
      · cases hop
  | mapUpdate t m k x =>
    simp only [opOf, ho] at hop
    split at hop
    · obtain ⟨kd, -, rfl⟩ := Option.map_eq_some_iff.1 hop
      simp [qop] at hq
    · cases hop
  | insert t m k x =>
    simp only [opOf, ho] at hop
    split at hop
    · obtain ⟨kd, -, rfl⟩ := Option.map_eq_some_iff.1 hop
      simp [qop] at hq
    · cases hop
  | build t ps => exact q_build ho hop hE hq
  | makeFunc f xs ys => exact q_mkfn ho hop hE hq
  | slice t x lo hi mx => exact q_slc ho hop hE hq
  | call cl =>
    simp only [opOf, ho] at hop
    by_cases hX : so.isX = true
    · unfold callOf at hop
      split at hop
      · rename_i op' hxc
        simp only [Option.some.injEq] at hop
        subst hop
        rcases xcall_spec hxc with ⟨x, t, e, h1, h2, h3, h4, rfl⟩ | ⟨_, _, _, _, _, _, _, _, _, _, _, _, _, _, _, _, _, _, _, rfl⟩
        · simp only [qop] at hq
          obtain ⟨n, hn, rfl⟩ := Option.map_eq_some_iff.1 hq
          exact q_cap ho h1 h2 h3 h4 hE hn
        · simp [qop] at hq
      · exfalso
        unfold callOf0 at hop
        repeat' split at hop
        all_goals first
          | (cases hop; done)
          | (simp only [Option.some.injEq] at hop; subst hop; cases hX; done)
          | (simp only [Option.bind_eq_bind] at hop
             obtain ⟨d, hu, hop⟩ := Option.bind_eq_some_iff.1 hop
             cases d <;> simp only at hop <;> try (cases hop; done)
             obtain ⟨z1, _, hop⟩ := Option.bind_eq_some_iff.1 hop
             obtain ⟨z2, _, hop⟩ := Option.bind_eq_some_iff.1 hop
             obtain ⟨z3, _, hop⟩ := Option.bind_eq_some_iff.1 hop
             split at hop
             · simp only [Option.some.injEq] at hop; subst hop; cases hX
             · cases hop)
    have hop := callOf_old hop (by simpa using hX)
    unfold callOf0 at hop
    split at hop
    · split at hop
      · split at hop
        · cases hop
        · simp only [Option.some.injEq] at hop; subst hop; simp [qop] at hq
      · cases hop
    · simp only [Option.some.injEq] at hop; subst hop; simp [qop] at hq
    · rename_i x t hc hargs htypes
      split at hop
      · rename_i hu
        simp only [Option.some.injEq] at hop; subst hop
        simp only [qop] at hq
        obtain ⟨n, hn, rfl⟩ := Option.map_eq_some_iff.1 hq
        exact q_len (str := true) ho hc hargs htypes hu m hE hn
      · rename_i e hu
        simp only [Option.some.injEq] at hop; subst hop
        simp only [qop] at hq
        obtain ⟨n, hn, rfl⟩ := Option.map_eq_some_iff.1 hq
        exact q_len (str := false) ho hc hargs htypes ⟨e, hu⟩ m hE hn
      · cases hop
    · rename_i x y hc hargs
      simp only [Option.some.injEq] at hop; subst hop
      simp only [qop] at hq
      exact q_mnx (mx := false) ho hc hargs hE hq
    · rename_i x y hc hargs
      simp only [Option.some.injEq] at hop; subst hop
      simp only [qop] at hq
      exact q_mnx (mx := true) ho hc hargs hE hq
    · split at hop
      · simp only [Option.bind_eq_bind] at hop
        obtain ⟨d, hu, hop⟩ := Option.bind_eq_some_iff.1 hop
        · cases d <;> simp only at hop <;> try (cases hop; done)
          obtain ⟨z1, _, hop⟩ := Option.bind_eq_some_iff.1 hop
          obtain ⟨z2, _, hop⟩ := Option.bind_eq_some_iff.1 hop
          obtain ⟨z3, _, hop⟩ := Option.bind_eq_some_iff.1 hop
          split at hop
          · simp only [Option.some.injEq] at hop; subst hop; simp [qop] at hq
          · cases hop
      · cases hop
    · cases hop
  | makeInterface a b =>
    simp only [opOf, ho, Option.some.injEq] at hop; subst hop; simp [qop] at hq
  | panic a =>
    simp only [opOf, ho, Option.some.injEq] at hop; subst hop; simp [qop] at hq
  | alloc t =>
    simp only [opOf, ho, Option.bind_eq_bind] at hop
    obtain ⟨z1, _, hop⟩ := Option.bind_eq_some_iff.1 hop
    simp only [Option.some.injEq] at hop; subst hop; simp [qop] at hq
  | box t x => simp only [opOf, ho, Option.some.injEq] at hop; subst hop; simp [qop] at hq
  | store t x y =>
    simp only [opOf, ho, Option.bind_eq_bind] at hop
    obtain ⟨z1, _, hop⟩ := Option.bind_eq_some_iff.1 hop
    simp only [Option.some.injEq] at hop; subst hop; simp [qop] at hq
  | makeSlice t l k =>
    simp only [opOf, ho] at hop
    cases hu : P.underlying t with
    | none => simp [hu] at hop
    | some d =>
      rw [hu] at hop
      cases d <;> simp only [Option.bind_eq_bind, Option.bind_some] at hop <;> try (cases hop; done)
      obtain ⟨z1, _, hop⟩ := Option.bind_eq_some_iff.1 hop
      obtain ⟨z2, _, hop⟩ := Option.bind_eq_some_iff.1 hop
      obtain ⟨z3, _, hop⟩ := Option.bind_eq_some_iff.1 hop
      split at hop
      · simp only [Option.some.injEq] at hop; subst hop; simp [qop] at hq
      · cases hop
  | buildSlice t n ps =>
    simp only [opOf, ho] at hop
    cases hu : P.underlying t with
    | none => simp [hu] at hop
    | some d =>
      rw [hu] at hop
      cases d <;> simp only [Option.bind_eq_bind, Option.bind_some] at hop <;> try (cases hop; done)
      obtain ⟨z1, _, hop⟩ := Option.bind_eq_some_iff.1 hop
      split at hop
      · cases hop
      · obtain ⟨z2, _, hop⟩ := Option.bind_eq_some_iff.1 hop
        simp only [Option.some.injEq] at hop; subst hop; simp [qop] at hq
  | _ => simp [opOf, ho] at hop

end
end Go.Proofs.Ytejmcijcdhoogaa.Abs
