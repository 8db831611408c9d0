import Derived.Test.YtejmcijcdhoogaaAbs5
set_option linter.unusedSimpArgs false
set_option linter.unusedVariables false
namespace Go.Proofs.Ytejmcijcdhoogaa.Abs
open Go

/-! ### maps: what the model does at a key -/
theorem tzv_some {P : Program} {t : TypeId} {v : Value} (h : tzv P t = some v) (w : World) : (zeroValue t).run P w = .ok v w := by
  unfold tzv at h
  obtain ⟨i, hi, hz⟩ := Option.bind_eq_some_iff.1 h
  simp [zeroValue, typeInfo, hi, hz]
section
variable {P : Program} {w : World}

theorem kdOf_cases {kt : TypeId} {kd : KD} (h : kdOf P kt = some kd) : (∃ q, kd = .i q ∧ P.underlying kt = some (.int q)) ∨ (kd = .s ∧ P.underlying kt = some .string) ∨ ∃ n e q, kd = .a n q ∧ P.underlying kt = some (.array n e) ∧ P.underlying e = some (.int q) ∧ tsz P e = some 1 := by
  unfold kdOf at h
  split at h
  · rename_i q hu
    simp only [Option.some.injEq] at h
    exact .inl ⟨q, h.symm, hu⟩
  · rename_i hu
    simp only [Option.some.injEq] at h
    exact .inr (.inl ⟨h.symm, hu⟩)
  · rename_i n e hu
    split at h
    · rename_i q hq
      split at h
      · rename_i hs
        simp only [Option.some.injEq] at h
        exact .inr (.inr ⟨n, e, q, h.symm, hu, hq, hs⟩)
      · cases h
    · cases h
  · cases h
theorem fits_i {key : MK} {q : IntKind} (h : key.fits (.i q) = true) : ∃ n, key = .i n := by cases key <;> simp [MK.fits] at h; exact ⟨_, rfl⟩
theorem fits_s {key : MK} (h : key.fits .s = true) : ∃ b, key = .s b := by cases key <;> simp [MK.fits] at h; exact ⟨_, rfl⟩
theorem fits_a {key : MK} {n : Nat} {q : IntKind} (h : key.fits (.a n q) = true) : ∃ l, key = .a l ∧ l.length = n := by cases key <;> simp [MK.fits] at h; exact ⟨_, rfl, h⟩

theorem ba_beq (a b : ByteArray) : (a == b) = decide (a = b) := by
  obtain ⟨x⟩ := a
  obtain ⟨y⟩ := b
  show (x == y) = decide (ByteArray.mk x = ByteArray.mk y)
  by_cases h : x = y
  · subst h; simp
  · simp [h, ByteArray.mk.injEq]
theorem run_check_i {kt : TypeId} {q : IntKind} (hu : P.underlying kt = some (.int q)) (em : Bool) (n : Nat) (k : IntKind) (m : Int) : (Instr.checkKey em (n + 1) kt (.int k m)).run P w = .ok () w := by
  unfold Instr.checkKey
  rw [Sem.run_bind, run_underlying hu, Result.andThen_ok]
  rfl
theorem run_check_s {kt : TypeId} (hu : P.underlying kt = some .string) (em : Bool) (n : Nat) (b : ByteArray) : (Instr.checkKey em (n + 1) kt (.string b)).run P w = .ok () w := by
  unfold Instr.checkKey
  rw [Sem.run_bind, run_underlying hu, Result.andThen_ok]
  rfl
theorem run_check {kt : TypeId} {kd : KD} (hkd : kdOf P kt = some kd) {key : MK} (hf : key.fits kd = true) (em : Bool) : (Instr.checkKey em 10000 kt (key.val kd)).run P w = .ok () w := by
  show (Instr.checkKey em (9998 + 1 + 1) kt (key.val kd)).run P w = .ok () w
  rcases kdOf_cases hkd with ⟨q, rfl, hu⟩ | ⟨rfl, hu⟩ | ⟨n, e, q, rfl, hu, hq, hs⟩
  · obtain ⟨n, rfl⟩ := fits_i hf
    exact run_check_i hu em _ _ _
  · obtain ⟨b, rfl⟩ := fits_s hf
    exact run_check_s hu em _ _
  · obtain ⟨l, rfl, hl⟩ := fits_a hf
    have hsk : skOf P e = some .i := by unfold skOf; rw [hq]
    rw [Instr.checkKey]
    simp only [MK.val, Sem.run_bind, run_underlying hu, Result.andThen_ok]
    simp only [Std.Legacy.Range.forIn_eq_forIn_range', Std.Legacy.Range.size, Nat.sub_zero, Nat.add_one_sub_one, Nat.div_one]
    have hin : ∀ j ∈ List.range' 0 n, j < n := fun j hj => by
      have := List.mem_range'_1.1 hj
      omega
    generalize List.range' 0 n = is at hin
    induction is with
    | nil => simp
    | cons j is ih =>
      have hj := hin j (by simp)
      have hx : (l.map (Value.int q)).toArray[j * 1]? = some (Value.int q l[j]) := by
        simp [List.getElem?_eq_getElem (show j < l.length by omega)]
      have p1 := run_part_sk (P := P) (w := w) hsk hx
      have p2 : (Instr.checkKey em (9998 + 1) e (Value.int q l[j])).run P w = .ok () w := run_check_i hq em _ _ _
      simp only [List.forIn_cons, Sem.run_bind, tsz_some hs w, Result.andThen_ok, p1, p2, Sem.run_pure]
      exact ih fun y hy => hin y (by simp [hy])

/-- where a key stands -/
def fnd (key : MK) : List MK → List MapEntry → Nat → Option (Nat × Value)
  | k :: ks, e :: en, i => if k = key then some (i, e.val) else fnd key ks en (i + 1)
  | _, _, _ => none

theorem eqCells_ints (k : IntKind) (l m : List Int) : ∀ (is : List Nat), (∀ i ∈ is, i < l.length ∧ i < m.length) → eqCells (l.map fun x => .raw (.int k x)) (m.map fun x => .raw (.int k x)) (is.map fun i => (i, SK.i)) = some (is.all fun i => decide (l[i]? = m[i]?))
  | [], _ => rfl
  | i :: is, h => by
    obtain ⟨h1, h2⟩ := h i (by simp)
    have ih := eqCells_ints k l m is fun j hj => h j (by simp [hj])
    simp only [List.map_cons, eqCells, List.getElem?_map, List.getElem?_eq_getElem h1, List.getElem?_eq_getElem h2, Option.map_some, scalEq, if_true, ih, List.all_cons]
    congr 2
    simp
theorem run_equal_arr {kt e : TypeId} {n : Nat} {q : IntKind} (hu : P.underlying kt = some (.array n e)) (hq : P.underlying e = some (.int q)) (hs : tsz P e = some 1) {l m : List Int} (hl : l.length = n) (hm : m.length = n) :
    (Op.equal kt (.agg (l.map (Value.int q)).toArray) (.agg (m.map (Value.int q)).toArray)).run P w = .ok (decide (m = l)) w := by
  have hsk : skOf P e = some .i := by unfold skOf; rw [hq]
  unfold tsz at hs
  obtain ⟨i, hi, h1⟩ := Option.map_eq_some_iff.1 hs
  have hc : P.cellsOf e = 1 := by simp [Program.cellsOf, hi, h1]
  show (Op.equalIn (9999 + 1) kt _ _).run P w = _
  rw [run_equalIn_array w 9999 _ _ hu hi, hc]
  refine run_eqItems_sk (I := fun _ => False) (RL_raw _ w (l.map (Value.int q))) (RL_raw _ w (m.map (Value.int q))) 9998 hsk _ _ ?_
  rw [List.map_map, List.map_map]
  refine (eqCells_ints q l m (List.range n) fun i hi => ?_).trans ?_
  · rw [List.mem_range] at hi; omega
  · congr 1
    rw [eq_comm, Bool.eq_iff_iff]
    simp only [decide_eq_true_eq, List.all_eq_true, List.mem_range]
    constructor
    · rintro rfl i _; rfl
    · intro h
      apply List.ext_getElem?
      intro i
      by_cases hi : i < n
      · exact (h i hi).symm
      · rw [List.getElem?_eq_none (by omega), List.getElem?_eq_none (by omega)]
theorem run_find {kt : TypeId} {kd : KD} (hkd : kdOf P kt = some kd) {key : MK} (hf : key.fits kd = true) {ks : List MK} {en : List MapEntry} (hks : en.map (·.key) = ks.map (MK.val kd)) (hfs : ∀ k ∈ ks, k.fits kd = true) :
    (Instr.findKey kt (key.val kd) en).run P w = .ok (fnd key ks en 0) w := by
  rcases kdOf_cases hkd with ⟨q, rfl, hu⟩ | ⟨rfl, hu⟩ | ⟨n, e, q, rfl, hu, hq, hs⟩
  · obtain ⟨n, rfl⟩ := fits_i hf
    have : ∀ (ks : List MK) (en : List MapEntry) (i : Nat), en.map (·.key) = ks.map (MK.val (.i q)) → (∀ k ∈ ks, k.fits (.i q) = true) → Instr.findNow (.int q) (MK.val (.i q) (.i n)) en i = some (fnd (.i n) ks en i) := by
      intro ks
      induction ks with
      | nil =>
        intro en i h _
        simp only [List.map_nil, List.map_eq_nil_iff] at h
        subst h
        rfl
      | cons k ks ih =>
        intro en i h hfs
        cases en with
        | nil => simp at h
        | cons e en =>
          simp only [List.map_cons, List.cons.injEq] at h
          obtain ⟨m, rfl⟩ := fits_i (hfs k (by simp))
          have := ih en (i + 1) h.2 fun k hk => hfs k (by simp [hk])
          simp only [Instr.findNow, h.1, MK.val, Instr.sameNow, if_true]
          by_cases hnm : n = m
          · subst hnm
            simp [fnd]
          · have h1 : (n == m) = false := by simpa using hnm
            rw [h1]
            simp only [fnd, MK.i.injEq]
            rw [if_neg (Ne.symm hnm)]
            exact this
    have h := this ks en 0 hks hfs
    unfold Instr.findKey
    rw [Sem.run_bind, run_underlying hu, Result.andThen_ok, h]
    rfl
  · obtain ⟨n, rfl⟩ := fits_s hf
    have : ∀ (ks : List MK) (en : List MapEntry) (i : Nat), en.map (·.key) = ks.map (MK.val .s) → (∀ k ∈ ks, k.fits .s = true) → Instr.findNow .string (MK.val .s (.s n)) en i = some (fnd (.s n) ks en i) := by
      intro ks
      induction ks with
      | nil =>
        intro en i h _
        simp only [List.map_nil, List.map_eq_nil_iff] at h
        subst h
        rfl
      | cons k ks ih =>
        intro en i h hfs
        cases en with
        | nil => simp at h
        | cons e en =>
          simp only [List.map_cons, List.cons.injEq] at h
          obtain ⟨m, rfl⟩ := fits_s (hfs k (by simp))
          have := ih en (i + 1) h.2 fun k hk => hfs k (by simp [hk])
          simp only [Instr.findNow, h.1, MK.val, Instr.sameNow]
          by_cases hnm : n = m
          · subst hnm
            rw [ba_beq, decide_eq_true rfl]
            simp [fnd]
          · rw [ba_beq, decide_eq_false hnm]
            simp only [fnd, MK.s.injEq]
            rw [if_neg (Ne.symm hnm)]
            exact this
    have h := this ks en 0 hks hfs
    unfold Instr.findKey
    rw [Sem.run_bind, run_underlying hu, Result.andThen_ok, h]
    rfl
  · obtain ⟨l, rfl, hl⟩ := fits_a hf
    have : ∀ (ks : List MK) (en : List MapEntry) (i : Nat), en.map (·.key) = ks.map (MK.val (.a n q)) → (∀ k ∈ ks, k.fits (.a n q) = true) → (Instr.findAsking kt (MK.val (.a n q) (.a l)) en i).run P w = .ok (fnd (.a l) ks en i) w := by
      intro ks
      induction ks with
      | nil =>
        intro en i h _
        simp only [List.map_nil, List.map_eq_nil_iff] at h
        subst h
        rfl
      | cons k ks ih =>
        intro en i h hfs
        cases en with
        | nil => simp at h
        | cons e' en =>
          simp only [List.map_cons, List.cons.injEq] at h
          obtain ⟨m, rfl, hm⟩ := fits_a (hfs k (by simp))
          have ih := ih en (i + 1) h.2 fun k hk => hfs k (by simp [hk])
          have he := run_equal_arr (w := w) hu hq hs hl hm
          unfold Instr.findAsking
          rw [Sem.run_bind, h.1]
          simp only [MK.val]
          rw [he, Result.andThen_ok]
          by_cases hlm : m = l
          · subst hlm
            simp [fnd]
          · rw [decide_eq_false hlm]
            simp only [fnd, MK.a.injEq, if_neg hlm, Bool.false_eq_true, if_false]
            exact ih
    unfold Instr.findKey
    rw [Sem.run_bind, run_underlying hu, Result.andThen_ok]
    cases en with
    | nil =>
      cases ks with
      | nil => rfl
      | cons k ks => simp at hks
    | cons e' en =>
      cases ks with
      | nil => simp at hks
      | cons k ks =>
        have hno : Instr.findNow (.array n e) (MK.val (.a n q) (.a l)) (e' :: en) 0 = none := by
          simp [Instr.findNow, MK.val, Instr.sameNow]
        rw [hno]
        exact this (k :: ks) (e' :: en) 0 hks hfs
/-- what stands there is what the entries say -/
theorem fnd_get {I : Nat → Prop} {key : MK} : ∀ {es : List (MK × AV)} {en : List MapEntry} (i : Nat), RL I w (es.map (·.2)) (en.map (·.val)) →
    (fnd key (es.map (·.1)) en i = none ∧ mget es key = none) ∨ ∃ j u v, fnd key (es.map (·.1)) en i = some (i + j, v) ∧ mget es key = some u ∧ RV I w u v ∧ j < en.length ∧ (es[j]?.map (·.1)) = some key
  | [], [], i, _ => .inl ⟨rfl, rfl⟩
  | [], e :: en, i, h => by simp [RL] at h
  | (k, u) :: es, en, i, h => by
    simp only [List.map_cons, RL] at h
    obtain ⟨v, vs, e1, hv, hr⟩ := h
    cases en with
    | nil => simp at e1
    | cons e en =>
      simp only [List.map_cons, List.cons.injEq] at e1
      obtain ⟨rfl, rfl⟩ := e1
      by_cases hk : k = key
      · subst hk
        exact .inr ⟨0, u, e.val, by simp [fnd], by simp [mget], hv, by simp, rfl⟩
      · rcases fnd_get (key := key) (i + 1) hr with ⟨h1, h2⟩ | ⟨j, u', v', h1, h2, h3, h4, h5⟩
        · exact .inl ⟨by simp [fnd, hk, h1], by simp [mget, hk, h2]⟩
        · exact .inr ⟨j + 1, u', v', by simp [fnd, hk, h1]; omega, by simp [mget, hk, h2], h3, by simp; omega, by simpa using h5⟩

theorem intsq_sound {I : Nat → Prop} {k : IntKind} : ∀ {cs : List AV} {vs : List Value} {l : List Int}, RL I w cs vs → intsq k cs = some l → vs = l.map (Value.int k)
  | [], vs, l, h, h2 => by
    simp only [RL] at h
    simp only [intsq, Option.some.injEq] at h2
    subst h2
    simpa using h
  | c :: cs, vs, l, h, h2 => by
    simp only [RL] at h
    obtain ⟨v, us, rfl, h3, h4⟩ := h
    unfold intsq at h2
    split at h2
    · rename_i heq
      cases heq
    · rename_i k' n r heq
      simp only [List.cons.injEq] at heq
      obtain ⟨rfl, rfl⟩ := heq
      split at h2
      · rename_i hk
        subst hk
        obtain ⟨l', hl, rfl⟩ := Option.map_eq_some_iff.1 h2
        simp only [RV] at h3
        rw [intsq_sound h4 hl, h3]
        rfl
      · cases h2
    · cases h2
theorem keyq_sound {I : Nat → Prop} {kd : KD} {u : AV} {v : Value} {key : MK} (h : RV I w u v) (hq : keyq kd u = some key) : v = key.val kd ∧ key.fits kd = true := by
  unfold keyq at hq
  split at hq
  · split at hq
    · rename_i hk
      simp only [Option.some.injEq] at hq
      subst hq hk
      simp only [RV] at h
      exact ⟨h, rfl⟩
    · cases hq
  · simp only [Option.some.injEq] at hq
    subst hq
    simp only [RV] at h
    exact ⟨h, rfl⟩
  · split at hq
    · rename_i l hl
      split at hq
      · rename_i hn
        simp only [Option.some.injEq] at hq
        subst hq
        simp only [RV] at h
        obtain ⟨vs, rfl, h1⟩ := h
        rw [intsq_sound h1 hl]
        exact ⟨rfl, by simp [MK.fits, hn]⟩
      · cases hq
    · cases hq
  · cases hq
end

section
variable {P : Program} {o : Oper} {so : SOp} {c : Cx} {w : World} {a : Act} {L : List (Nat × LObj)} {H : AHeap} {env : List (Nat × SV)} {sv : SV}
theorem lkres_sound {I : Nat → Prop} {z : Value} {ok : Bool} {oa : Option AV} {v : Value} (h : RV I w (oa.getD (cAV z)) v) : RV I w (lkres z ok oa) (if ok then .tuple #[v, .bool oa.isSome] else v) := by
  unfold lkres
  cases ok
  · simpa using h
  · simp only [if_true, RV]
    refine ⟨[v, .bool oa.isSome], rfl, ?_⟩
    simp only [RL]
    exact ⟨v, _, rfl, h, _, _, rfl, by simp [RV], rfl⟩
theorem q_lk {t : TypeId} {x i : Operand} {ok : Bool} (ho : o.op = .lookup t x i ok) (hop : opOf P o = some so) (m : MRel c L H w) (hE : ERel c w env a.tmps) (hq : qop L H (oval env) so = some sv) : QS P o c w a sv := by
  simp only [opOf, ho] at hop
  split at hop
  · rename_i kt e hu
    simp only [Option.bind_eq_bind] at hop
    obtain ⟨kd, hkd, hop⟩ := Option.bind_eq_some_iff.1 hop
    obtain ⟨z, hz, hop⟩ := Option.bind_eq_some_iff.1 hop
    simp only [Option.some.injEq] at hop
    subst hop
    simp only [qop] at hq
    have hx := oval_rs hE x
    have hi := oval_rs hE i
    have hzv : (zeroValue e).run P w = .ok z w := tzv_some hz w
    have hzr : RV c.I w (cAV z) z := cAV_rv c.I w z
    unfold lkq at hq
    split at hq
    · rename_i ka hka
      split at hq
      · rename_i key hkey
        rw [hka] at hi
        simp only [RS] at hi
        obtain ⟨hkv, hkf⟩ := keyq_sound hi hkey
        have hck := fun em => run_check (w := w) hkd hkf em
        split at hq
        · rename_i hxe
          simp only [Option.some.injEq] at hq
          subst hq
          rw [hxe] at hx
          simp only [RS, RV] at hx
          refine QS.of (Instr.lookup t (a.eval x) (a.eval i) ok) (by simp [execOp, ho]) ?_ (v := if ok then .tuple #[z, .bool false] else z) (by simp only [RS]; exact lkres_sound (oa := none) hzr)
          rw [hx, hkv]
          unfold Instr.lookup
          have hfk := run_find (w := w) hkd hkf (ks := []) (en := []) rfl (by simp)
          simp only [Sem.run_bind, run_underlying hu, Result.andThen_ok, Sem.run_pure, hck]
          rw [hfk]
          simp only [fnd, Result.andThen_ok, Sem.run_bind, hzv, Sem.run_pure]
        · rename_i b hxe
          rw [hxe] at hx
          simp only [RS, RV] at hx
          split at hq
          · rename_i kd' es hH
            split at hq
            · rename_i hkk
              subst hkk
              simp only [Option.some.injEq] at hq
              subst hq
              obtain ⟨-, en, clock, hb, h1, h2, h3⟩ := m.hp b _ hH
              have hfk := run_find (w := w) hkd hkf (ks := es.map (·.1)) (en := en) (by rw [h1, List.map_map]; rfl) (fun k hk => by
                obtain ⟨p, hp, rfl⟩ := List.mem_map.1 hk
                exact h2 p hp)
              have hget : (getObj b).run P w = .ok (.map en.toArray clock) w := by simp [getObj, Sem.run, hb]
              rcases fnd_get (w := w) (key := key) 0 h3 with ⟨g1, g2⟩ | ⟨j, u, v, g1, g2, g3, -, -⟩
              · refine QS.of (Instr.lookup t (a.eval x) (a.eval i) ok) (by simp [execOp, ho]) ?_ (v := if ok then .tuple #[z, .bool false] else z) (by simp only [RS]; rw [g2]; exact lkres_sound (oa := none) hzr)
                rw [hx, hkv]
                unfold Instr.lookup
                simp only [Sem.run_bind, run_underlying hu, Result.andThen_ok, Sem.run_pure, hget, hck]
                rw [hfk, g1]
                simp only [Result.andThen_ok, Sem.run_bind, hzv, Sem.run_pure]
              · refine QS.of (Instr.lookup t (a.eval x) (a.eval i) ok) (by simp [execOp, ho]) ?_ (v := if ok then .tuple #[v, .bool true] else v) (by simp only [RS]; rw [g2]; exact lkres_sound (oa := some u) g3)
                rw [hx, hkv]
                unfold Instr.lookup
                simp only [Sem.run_bind, run_underlying hu, Result.andThen_ok, Sem.run_pure, hget, hck]
                rw [hfk, g1]
                simp only [Result.andThen_ok, Sem.run_pure, Sem.run_bind]
            · cases hq
          · cases hq
        · cases hq
      · cases hq
    · cases hq
  · cases hop
end
end Go.Proofs.Ytejmcijcdhoogaa.Abs
