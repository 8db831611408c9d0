import Derived.Test.YtejmcijcdhoogaaAbs8
set_option linter.unusedSimpArgs false
set_option linter.unusedVariables false
namespace Go.Proofs.Ytejmcijcdhoogaa.Abs
open Go

section
variable {P : Program} {o : Oper} {so : SOp} {c c' : Cx} {w w' : World} {a : Act} {s : S}

def cxArr (c : Cx) (d : Nat) (v : Value) : Cx :=
  match v.ownBlock with
  | some b => { ow := upd c.ow b (.loc d), β := upd c.β d b, ν := upd c.ν d v }
  | none => { ow := c.ow, β := c.β, ν := upd c.ν d v }

def S.arr (s : S) (d : Nat) (dst : Option Nat) (nl : Bool) (cs : List AV) (n e sz : Nat) : S :=
  { env := match dst with | some x => Abs.put (clr s.env d) x (.own d) | none => clr s.env d, loc := Abs.put s.loc d (.arr nl cs n e sz), H := s.H }

theorem setArr (h : Good c s a w) (d : Nat) {dst : Option Nat} (hd : ∀ x, dst = some x → x < a.tmps.size) {row : Option Nat} (hg : w.grownBy w' row) (hrow : ∀ b, row = some b → c.ow b = .loc d)
    {v' : Value} {nl : Bool} {cs : List AV} {vs : List Value} {n e sz : Nat} (hsz : 0 < sz) (hown : w'.ownsRow 0 e sz v' n vs) (hnl : nl = true ↔ v' = .slice none 0 0)
    (hat : ∀ b, v'.ownBlock = some b → row = some b ∨ w.heap.size ≤ b) (hr : R1 c.I w cs vs) :
    Good (cxArr c d v') (s.arr d dst nl cs n e sz) (a.put dst v') w' ∧ Step c w (cxArr c d v') w' := by
  obtain ⟨h1, h2, h3⟩ := h
  have hlt' : ∀ b, v'.ownBlock = some b → b < w'.heap.size := fun b hb => (hown.lt b hb).2
  -- the tags of old blocks
  have htag : ∀ b, b < w.heap.size → c.ow b ≠ .loc d → (cxArr c d v').ow b = c.ow b := by
    intro b hb hne
    unfold cxArr
    cases hv : v'.ownBlock with
    | none => rfl
    | some b' =>
      refine upd_ne _ _ ?_
      rintro rfl
      rcases hat _ hv with h | h
      · exact hne (hrow _ h)
      · omega
  have hblk : ∀ b, b < w.heap.size → c.ow b ≠ .loc d → w'.heap[b]? = w.heap[b]? := by
    intro b hb hne
    refine hg.block b hb fun e => hne (hrow b e.symm)
  have hst : Step c w (cxArr c d v') w' := by
    refine ⟨hg.os, hg.tape, hg.output, hg.size, fun b hb ht => hblk b hb (by rcases ht with ht | ht <;> rw [ht] <;> simp), fun b hb => ⟨fun ht => ?_, fun ht => ?_⟩⟩
    · rw [htag b hb (by rw [ht]; simp)]; exact ht
    · rw [htag b hb (by rw [ht]; simp)]; exact ht
  have hk := hst.keep h1.lt
  have hβ : ∀ d', d' ≠ d → (cxArr c d v').β d' = c.β d' ∧ (cxArr c d v').ν d' = c.ν d' := by
    intro d' hd'
    unfold cxArr
    cases hv : v'.ownBlock with
    | none => exact ⟨rfl, upd_ne _ _ (Ne.symm hd')⟩
    | some b' => exact ⟨upd_ne _ _ (Ne.symm hd'), upd_ne _ _ (Ne.symm hd')⟩
  have hν : (cxArr c d v').ν d = v' := by
    unfold cxArr
    cases hv : v'.ownBlock <;> exact upd_self _ _ _
  refine ⟨⟨?_, ?_, by cases dst <;> exact h3⟩, hst⟩
  · refine h1.upd hk ?_ ?_ ?_
    · intro b hb
      unfold cxArr at hb
      cases hv : v'.ownBlock with
      | none => rw [hv] at hb; exact Nat.lt_of_lt_of_le (h1.lt b hb) hg.size
      | some b' =>
        rw [hv] at hb
        by_cases e : b' = b
        · subst e; exact hlt' _ hv
        · have hb' : c.ow b ≠ .free := by
            have : upd c.ow b' (Ow.loc d) b = c.ow b := upd_ne _ _ e
            rw [← this]; exact hb
          exact Nat.lt_of_lt_of_le (h1.lt b hb') hg.size
    · intro d' ob hget
      simp only [S.arr, get_put] at hget
      by_cases e : d = d'
      · subst e
        simp only [if_true, Option.some.injEq] at hget; subst hget
        left
        refine ⟨?_, by rw [hν]; exact hnl, hsz, vs, by rw [hν]; exact hown, hr.keep hk⟩
        rw [hν]
        intro b hb
        unfold cxArr
        rw [hb]
        exact ⟨upd_self _ _ _, (upd_self _ _ _).symm⟩
      · rw [if_neg e] at hget
        right
        refine ⟨hget, (hβ d' (Ne.symm e)).1, (hβ d' (Ne.symm e)).2, fun b hb => ?_⟩
        have hlt := h1.lt b (by rw [hb]; simp)
        have hne : c.ow b ≠ .loc d := by rw [hb]; intro he; injection he with he; exact e he.symm
        exact ⟨(htag b hlt hne).trans hb, hblk b hlt hne⟩
    · intro b ob hb
      right
      refine ⟨hb, fun ht => ?_⟩
      have hlt := h1.lt b (by rw [ht]; simp)
      have hne : c.ow b ≠ .loc d := by rw [ht]; simp
      exact ⟨(htag b hlt hne).trans ht, hblk b hlt hne⟩
  · have he : ERel (cxArr c d v') w' (clr s.env d) a.tmps := h2.clr hk d hβ
    cases dst with
    | none => exact he
    | some x => exact he.put (hd x rfl) (by simp [RS, hν])

/-! ### alloc, box -/
theorem alloc_sound {t : TypeId} (ho : o.op = .alloc t) (hop : opOf P o = some so) (h : Good c s a w) : ∃ z, so = .alloc t z ∧ ∀ d, o.dst = some d → d < a.tmps.size → ((z.map cAV).all aone) = true → OS P o c w a (s.newc d (z.map cAV) t) := by
  simp only [opOf, ho, Option.bind_eq_bind] at hop
  obtain ⟨z, hz, hop⟩ := Option.bind_eq_some_iff.1 hop
  simp only [Option.some.injEq] at hop
  refine ⟨z, hop.symm, fun d hd hlt h1 => ?_⟩
  obtain ⟨zv, hz1, hz2⟩ := tz_some hz w
  have hrl := RL_cAV c.I w z
  obtain ⟨hg, hst⟩ := newc_good h hlt hd t (cs := z.map cAV) (vs := z) ⟨hrl, RL_one hrl (List.all_eq_true.1 h1)⟩
  refine ⟨.pointer (some ⟨w.heap.size, 0, none⟩), _, _, .inl ?_, hg, hst⟩
  simp only [execOp, ho]
  unfold Instr.alloc
  simp only [Sem.run_bind, hz1, Result.andThen_ok, newVar, newRow, run_newObj, Sem.run_pure]
  rw [show zv.cells = z.toArray by rw [← hz2]]
  rfl

theorem box_sound {t : TypeId} {x : Operand} (ho : o.op = .box t x) (hop : opOf P o = some so) (h : Good c s a w) {u : AV} (hu : oval s.env x = .v u) {cs : List AV} (hcs : acells u = some cs) (h1 : cs.all aone = true)
    {d : Nat} (hd : o.dst = some d) (hlt : d < a.tmps.size) : so = .box t x ∧ OS P o c w a (s.newc d cs t) := by
  simp only [opOf, ho, Option.some.injEq] at hop
  refine ⟨hop.symm, ?_⟩
  have hx := oval_rs h.2.1 x
  rw [hu] at hx
  have hrl := acells_sound hx hcs
  obtain ⟨hg, hst⟩ := newc_good h hlt hd t ⟨hrl, RL_one hrl (List.all_eq_true.1 h1)⟩
  refine ⟨.pointer (some ⟨w.heap.size, 0, none⟩), _, _, .inl ?_, hg, hst⟩
  simp only [execOp, ho]
  unfold Instr.box
  simp only [Sem.run_bind, Result.andThen_ok, newVar, newRow, run_newObj, Sem.run_pure]
  rw [show (a.eval x).cells = (a.eval x).cells.toList.toArray by simp]
  rfl

/-! ### make -/
def zrep (z : List Value) : Nat → List AV
  | 0 => []
  | n + 1 => z.map cAV ++ zrep z n
theorem zrep_one (v : Value) (n : Nat) : zrep [v] n = List.replicate n (cAV v) := by
  induction n with
  | zero => rfl
  | succ n ih => simp [zrep, ih, List.replicate_succ]
theorem zrep_raw (I : Nat → Prop) (w : World) (z : List Value) (n : Nat) : RL I w (zrep z n) ((List.replicate n z).flatten) := by
  induction n with
  | zero => simp [zrep, RL]
  | succ n ih => simp only [zrep, List.replicate_succ, List.flatten_cons]; exact RL_append (RL_cAV I w z) ih
theorem range_rep (z : Array Value) (n : Nat) (hz : 0 < z.size) : ((Array.range (n * z.size)).map (z[· % z.size]!)).toList = (List.replicate n z.toList).flatten := by
  induction n with
  | zero => simp
  | succ n ih =>
    apply List.ext_getElem?
    intro i
    simp only [Array.toList_map, Array.toList_range, List.getElem?_map]
    have hfl : ∀ m, ((List.replicate m z.toList).flatten).length = m * z.size := by intro m; simp
    by_cases hi : i < (n + 1) * z.size
    · rw [List.getElem?_range hi]
      simp only [Option.map_some]
      have hm : i % z.size < z.size := Nat.mod_lt _ hz
      rw [List.replicate_succ, List.flatten_cons]
      by_cases h0 : i < z.size
      · rw [List.getElem?_append_left (by simpa using h0)]
        rw [Nat.mod_eq_of_lt h0]
        simp [h0]
      · rw [List.getElem?_append_right (by simp; omega)]
        have ih' := congrArg (·[i - z.toList.length]?) ih
        simp only [Array.toList_map, Array.toList_range, List.getElem?_map] at ih'
        rw [← ih']
        simp only [Array.length_toList]
        have hlt : i - z.size < n * z.size := by rw [Nat.add_mul] at hi; omega
        rw [List.getElem?_range hlt]
        simp only [Option.map_some, Option.some.injEq]
        have : i % z.size = (i - z.size) % z.size := by rw [Nat.mod_eq_sub_mod (by omega)]
        rw [this]
    · rw [List.getElem?_eq_none (by simpa using hi), List.getElem?_eq_none (by rw [hfl]; omega)]
      rfl

theorem mksl_sound {t : TypeId} {l k : Operand} (ho : o.op = .makeSlice t l k) (hop : opOf P o = some so) (h : Good c s a w) :
    ∃ e sz by_ z, so = .mksl e sz by_ z l k ∧ ∀ (n : Nat) (kl kc : IntKind) (d : Nat), oval s.env l = .v (.raw (.int kl n)) → oval s.env k = .v (.raw (.int kc n)) → o.dst = some d → d < a.tmps.size → by_ * n ≤ 281474976710656 → n ≤ maxLen → z.all (·.oneCell') = true →
      OS P o c w a (s.arr d (some d) false (zrep z n) n e sz) := by
  simp only [opOf, ho] at hop
  cases hu : P.underlying t with
  | none => simp [hu] at hop
  | some ds =>
    cases ds <;> simp only [hu, Option.bind_eq_bind, Option.bind_some] at hop <;> try (cases hop; done)
    rename_i e
    obtain ⟨sz, hsz, hop⟩ := Option.bind_eq_some_iff.1 hop
    obtain ⟨by_, hby, hop⟩ := Option.bind_eq_some_iff.1 hop
    obtain ⟨z, hz, hop⟩ := Option.bind_eq_some_iff.1 hop
    split at hop
    · rename_i hzl
      simp only [Option.some.injEq] at hop
      refine ⟨e, sz, by_, z, hop.symm, fun n kl kc d hl hk hd hlt hb h63 hz1 => ?_⟩
      have hl' := oval_rs h.2.1 l
      have hk' := oval_rs h.2.1 k
      rw [hl] at hl'
      rw [hk] at hk'
      have el : a.eval l = .int kl n := hl'
      have ek : a.eval k = .int kc n := hk'
      obtain ⟨i, hi, hi1⟩ := Option.map_eq_some_iff.1 hsz
      obtain ⟨i', hi', hi2⟩ := Option.map_eq_some_iff.1 hby
      rw [hi] at hi'; injection hi' with hi'; subst hi'
      unfold tz tzv at hz
      obtain ⟨zv, hzv, hz2⟩ := Option.map_eq_some_iff.1 hz
      rw [hi, Option.bind_some] at hzv
      obtain ⟨w1, hr, hown, hg⟩ := run_make_full (P := P) w 0 t e i zv sz hu hi hzv hi1 kl kc n (by rw [hi2]; exact hb) h63 (Nat.zero_le _)
      have hcs : (madeCells zv.cells (n * sz)).toList = (List.replicate n z).flatten := by
        have hzs : zv.cells.size = sz := by rw [← hzl.1, ← hz2]; simp
        rw [← hzs, ← hz2]
        exact range_rep zv.cells n (by rw [hzs]; exact hzl.2)
      rw [hcs] at hown
      have hrl := zrep_raw c.I w z n
      obtain ⟨hgood, hst⟩ := setArr h d (dst := some d) (by intro x hx; injection hx with hx; subst hx; exact hlt) hg (by intro b hb; cases hb) hzl.2 hown (nl := false) (by simp) (cs := zrep z n) (by
        intro b hb
        simp [Value.ownBlock] at hb
        exact .inr (by omega)) ⟨hrl, fun u hu => by
          obtain ⟨l', hl', hu'⟩ := List.mem_flatten.1 hu
          rw [(List.mem_replicate.1 hl').2] at hu'
          exact List.all_eq_true.1 hz1 u hu'⟩
      refine ⟨_, w1, _, .inl ?_, by rw [hd]; exact hgood, hst⟩
      simp only [execOp, ho, el, ek, Sem.run_bind, hr, Result.andThen_ok, Sem.run_pure]
    · cases hop

/-! ### store -/
def setA (cs : List AV) (o : Nat) : List AV → List AV
  | [a] => cs.set o a
  | ds => cs.take o ++ ds ++ cs.drop (o + ds.length)
theorem setA_eq (cs : List AV) (o : Nat) (ds : List AV) (h : o + ds.length ≤ cs.length) : setA cs o ds = cs.take o ++ ds ++ cs.drop (o + ds.length) := by
  unfold setA
  split
  · rw [List.set_eq_take_append_cons_drop]
    simp at h
    rw [if_pos (by omega)]
    simp
  · rfl

theorem R1_set {I : Nat → Prop} {w : World} {cs ds : List AV} {vs us : List Value} (h : R1 I w cs vs) (k : R1 I w ds us) (o : Nat) (hle : o + ds.length ≤ cs.length) :
    R1 I w (setA cs o ds) (vs.take o ++ us ++ vs.drop (o + us.length)) := by
  have hl := RL_length k.1
  rw [setA_eq cs o ds hle]
  refine ⟨RL_append (RL_append (RL_take o h.1) k.1) (by rw [hl]; exact RL_drop _ h.1), ?_⟩
  intro u hu
  simp only [List.mem_append] at hu
  rcases hu with (hu | hu) | hu
  · exact h.2 u (List.mem_of_mem_take hu)
  · exact k.2 u hu
  · exact h.2 u (List.mem_of_mem_drop hu)

/-- the machine's store into a row -/
theorem store_run {t : TypeId} {n : Nat} (hn : tsz P t = some n) {b p : Nat} {T : TypeId} {vs : List Value} (hb : w.heap[b]? = some (.cells vs.toArray T (0, 0))) {v : Value} (hv : v.cells.size = n) (h1 : ∀ u ∈ v.cells.toList, u.oneCell' = true) (hle : p + n ≤ vs.length) :
    ∃ w', (Instr.storeAt t (.pointer (some ⟨b, p, none⟩)) v).run P w = .ok () w' ∧ w'.heap[b]? = some (.cells (vs.take p ++ v.cells.toList ++ vs.drop (p + n)).toArray T (0, 0)) ∧ w.grownBy w' (some b) := by
  have hst := run_storeCells_at P b p T v.cells.toList 0 vs.toArray w hb (by simp; omega) h1
  refine ⟨_, ?_, setRow_heap w b vs.toArray _ T _ hb, ⟨rfl, rfl, rfl, by simp, fun k _ hk => setRow_other w b k _ (fun e => hk (by simp [e]))⟩⟩
  unfold Instr.storeAt Instr.sureAddr storeVar
  simp only [Sem.run_bind, Sem.run_pure, Result.andThen_ok, tsz_some hn, Sem.run_ite]
  rw [if_neg (by simpa using hv)]
  rw [hst]
  simp [hv]

theorem take_splice {α : Type} (cur us : List α) (p m : Nat) (h : p + us.length ≤ m) (hm : m ≤ cur.length) :
    (cur.take p ++ us ++ cur.drop (p + us.length)).take m = (cur.take m).take p ++ us ++ (cur.take m).drop (p + us.length) := by
  rw [List.take_append, List.take_of_length_le (by simp; omega), List.take_take, Nat.min_eq_left (by omega), List.drop_take]
  congr 2
  simp
  omega

/-- the state behind a store; the address and the new cells -/
def storeq (s : S) (n : Nat) (x : SV) (ds : List AV) : Option S :=
  if ds.length = n ∧ ds.all aone then
    match x with
    | .loc d p => match get s.loc d with
      | some (.cells cs t) => if p + n ≤ cs.length then some { s with loc := Abs.put s.loc d (.cells (setA cs p ds) t) } else none
      | some (.arr nl cs k e sz) => if p + n ≤ cs.length then some { s with loc := Abs.put s.loc d (.arr nl (setA cs p ds) k e sz) } else none
      | none => none
    | .v (.raw (.pointer (some ⟨b, p, none⟩))) => match s.H b with
      | some (.cells cs t) => if p + n ≤ cs.length then some { s with H := upd s.H b (some (.cells (setA cs p ds) t)) } else none
      | some (.row cs cap e sz) => if p + n ≤ cs.length then some { s with H := upd s.H b (some (.row (setA cs p ds) cap e sz)) } else none
      | _ => none
    | _ => none
  else none

theorem Good.putUndef (h : Good c s a w) (dst : Option Nat) (hd : dst = none) : Good c s (a.put dst undef) w := by
  subst hd; exact h

theorem grownBy_step {row : Option Nat} (hg : w.grownBy w' row) (hr : ∀ b, row = some b → (∃ d, c.ow b = .loc d) ∨ c.ow b = .hp) : Step c w c w' := by
  refine ⟨hg.os, hg.tape, hg.output, hg.size, fun b hb ht => hg.block b hb fun e => ?_, fun b hb => ⟨id, id⟩⟩
  rcases hr b e.symm with ⟨d, h⟩ | h <;> rw [h] at ht <;> simp at ht

theorem store_sound {t : TypeId} {x y : Operand} (ho : o.op = .store t x y) (hop : opOf P o = some so) (h : Good c s a w) :
    ∃ n, so = .store n x y ∧ ∀ u ds s', oval s.env y = .v u → acells u = some ds → storeq s n (oval s.env x) ds = some s' → o.dst = none → OS P o c w a s' := by
  simp only [opOf, ho, Option.bind_eq_bind] at hop
  obtain ⟨n, hn, hop⟩ := Option.bind_eq_some_iff.1 hop
  simp only [Option.some.injEq] at hop
  refine ⟨n, hop.symm, fun u ds s' hu hds hq hdst => ?_⟩
  obtain ⟨h1, h2, h3⟩ := h
  have hx := oval_rs h2 x
  have hy := oval_rs h2 y
  rw [hu] at hy
  have hrl := acells_sound hy hds
  unfold storeq at hq
  split at hq
  · rename_i hlen
    obtain ⟨hlen, h1c⟩ := hlen
    have hR : R1 c.I w ds (a.eval y).cells.toList := ⟨hrl, RL_one hrl (List.all_eq_true.1 h1c)⟩
    have hvl : (a.eval y).cells.size = n := by have := RL_length hrl; simp at this; omega
    have hexec : ∀ w', (Instr.storeAt t (a.eval x) (a.eval y)).run P w = .ok () w' → (execOp a.eval o).run P w = .ok .skip w' := by
      intro w' hw
      simp [execOp, ho, hw]
    split at hq
    · rename_i d p hxe
      rw [hxe] at hx
      have hx' : a.eval x = _ := hx
      split at hq
      · rename_i cs T hget
        split at hq
        · rename_i hle
          simp only [Option.some.injEq] at hq; subst hq
          obtain ⟨htag, vs, hb, hr⟩ := h1.loc d _ hget
          have hcl := RL_length hr.1
          obtain ⟨w', hrun, hb', hg⟩ := store_run (P := P) hn hb hvl hR.2 (by rw [hcl]; exact hle)
          have hst := grownBy_step (c := c) hg (by intro b e; injection e with e; subst e; exact .inl ⟨d, htag⟩)
          have hk := hst.keep h1.lt
          refine ⟨undef, w', c, .inr ⟨hexec w' (by rw [hx']; exact hrun), rfl⟩, ⟨?_, ?_, by rw [hdst]; exact h3⟩, hst⟩
          · refine h1.upd hk (fun b hb => Nat.lt_of_lt_of_le (h1.lt b hb) hg.size) ?_ ?_
            · intro d' ob hget'
              simp only [get_put] at hget'
              by_cases e : d = d'
              · subst e
                simp only [if_true, Option.some.injEq] at hget'; subst hget'
                left
                refine ⟨htag, _, hb', ?_⟩
                have := (R1_set hr hR p (by rw [hlen]; exact hle)).keep hk
                simpa [hvl] using this
              · rw [if_neg e] at hget'
                right
                refine ⟨hget', rfl, rfl, fun b hb => ⟨hb, hg.block b (h1.lt b (by rw [hb]; simp)) ?_⟩⟩
                intro he
                injection he with he; subst he
                rw [htag] at hb; injection hb with hb; exact e hb
            · intro b ob hb
              right
              refine ⟨hb, fun ht => ⟨ht, hg.block b (h1.lt b (by rw [ht]; simp)) ?_⟩⟩
              intro he
              injection he with he; subst he
              rw [htag] at ht; cases ht
          · rw [hdst]
            exact h2.same hk rfl rfl
        · cases hq
      · rename_i nl cs k e sz hget
        split at hq
        · rename_i hle
          simp only [Option.some.injEq] at hq; subst hq
          obtain ⟨htag, hnl, hsz, vs, hown, hr⟩ := h1.loc d _ hget
          have hcl := RL_length hr.1
          by_cases hn0 : n = 0
          · -- nothing is stored
            have hds0 : ds = [] := List.eq_nil_of_length_eq_zero (by omega)
            have hset : setA cs p ds = cs := by
              rw [setA_eq cs p ds (by simp [hds0]; omega), hds0]; simp
            have hs' : ∀ d' ob, get (Abs.put s.loc d (.arr nl (setA cs p ds) k e sz)) d' = some ob → get s.loc d' = some ob := by
              intro d' ob hg
              rw [get_put, hset] at hg
              split at hg
              · rename_i e'; subst e'; rw [hget]; exact hg
              · exact hg
            refine ⟨undef, w, c, .inr ⟨hexec w ?_, rfl⟩, ⟨⟨fun d' ob hg => h1.loc d' ob (hs' d' ob hg), h1.hp, h1.lt⟩, by rw [hdst]; exact h2, by rw [hdst]; exact h3⟩, Step.refl c w⟩
            rw [hx']
            have : (a.eval y).cells.toList = [] := List.eq_nil_of_length_eq_zero (by rw [Array.length_toList, hvl, hn0])
            unfold Instr.storeAt Instr.sureAddr storeVar
            simp [tsz_some hn, hvl, hn0, this, storeCells]
          · rcases hown.2 with ⟨he, hk0⟩ | ⟨g, cap, cur, he, hgb, hheap, hkc, hcm, hcs, htake⟩
            · have hv0 : vs.length = 0 := by rw [hown.1, hk0]; simp
              have : n = 0 := by omega
              exact absurd this hn0
            · obtain ⟨htag1, hgβ⟩ := htag g (by rw [he]; simp [Value.ownBlock])
              have hcur : vs.length ≤ cur.size := by rw [hown.1, hcs]; exact Nat.mul_le_mul_right _ hkc
              obtain ⟨w', hrun, hb', hg⟩ := store_run (P := P) hn (b := g) (p := p) (T := e) (vs := cur.toList) (by simpa using hheap) hvl hR.2 (by simp; omega)
              have hst := grownBy_step (c := c) hg (by intro b e; injection e with e; subst e; exact .inl ⟨d, htag1⟩)
              have hk := hst.keep h1.lt
              refine ⟨undef, w', c, .inr ⟨hexec w' (by rw [hx', ← hgβ]; exact hrun), rfl⟩, ⟨?_, ?_, by rw [hdst]; exact h3⟩, hst⟩
              · refine h1.upd hk (fun b hb => Nat.lt_of_lt_of_le (h1.lt b hb) hg.size) ?_ ?_
                · intro d' ob hget'
                  simp only [get_put] at hget'
                  by_cases ee : d = d'
                  · subst ee
                    simp only [if_true, Option.some.injEq] at hget'; subst hget'
                    left
                    have hnew := (R1_set hr hR p (by rw [hlen]; exact hle)).keep hk
                    refine ⟨htag, hnl, hsz, _, ⟨?_, .inr ⟨g, cap, _, he, hgb, hb', hkc, hcm, ?_, ?_⟩⟩, hnew⟩
                    · have := hown.1
                      simp only [List.length_append, List.length_take, List.length_drop, Array.length_toList]
                      omega
                    · simp; omega
                    · have hkl : vs.length = k * sz := hown.1
                      have hus : (a.eval y).cells.toList.length = n := by simpa using hvl
                      have := take_splice cur.toList (a.eval y).cells.toList p (k * sz) (by omega) (by simp; omega)
                      rw [hus, htake] at this
                      rw [hus]
                      exact this
                  · rw [if_neg ee] at hget'
                    right
                    refine ⟨hget', rfl, rfl, fun b hb => ⟨hb, hg.block b (h1.lt b (by rw [hb]; simp)) ?_⟩⟩
                    intro he
                    injection he with he; subst he
                    rw [htag1] at hb; injection hb with hb; exact ee hb
                · intro b ob hb
                  right
                  refine ⟨hb, fun ht => ⟨ht, hg.block b (h1.lt b (by rw [ht]; simp)) ?_⟩⟩
                  intro he
                  injection he with he; subst he
                  rw [htag1] at ht; cases ht
              · rw [hdst]
                exact h2.same hk rfl rfl
        · cases hq
      · cases hq
    · rename_i b p hxe
      rw [hxe] at hx
      have hx' : a.eval x = _ := hx
      split at hq
      · rename_i cs T hget
        split at hq
        · rename_i hle
          simp only [Option.some.injEq] at hq; subst hq
          obtain ⟨htag, vs, hb, hr⟩ := h1.hp b _ hget
          have hcl := RL_length hr.1
          obtain ⟨w', hrun, hb', hg⟩ := store_run (P := P) hn hb hvl hR.2 (by rw [hcl]; exact hle)
          have hst := grownBy_step (c := c) hg (by intro b e; injection e with e; subst e; exact .inr htag)
          have hk := hst.keep h1.lt
          refine ⟨undef, w', c, .inr ⟨hexec w' (by rw [hx']; exact hrun), rfl⟩, ⟨?_, ?_, by rw [hdst]; exact h3⟩, hst⟩
          · refine h1.upd hk (fun b hb => Nat.lt_of_lt_of_le (h1.lt b hb) hg.size) ?_ ?_
            · intro d' ob hget'
              right
              refine ⟨hget', rfl, rfl, fun b2 hb2 => ⟨hb2, hg.block b2 (h1.lt b2 (by rw [hb2]; simp)) ?_⟩⟩
              intro he
              injection he with he; subst he
              rw [htag] at hb2; cases hb2
            · intro b' ob hb1
              by_cases e : b = b'
              · subst e
                simp only [upd_self, Option.some.injEq] at hb1; subst hb1
                left
                refine ⟨htag, _, hb', ?_⟩
                have := (R1_set hr hR p (by rw [hlen]; exact hle)).keep hk
                simpa [hvl] using this
              · have hb1 : s.H b' = some ob := by rw [← hb1]; exact (upd_ne _ _ e).symm
                right
                refine ⟨hb1, fun ht => ⟨ht, hg.block b' (h1.lt b' (by rw [ht]; simp)) ?_⟩⟩
                intro he
                injection he with he; exact e he.symm
          · rw [hdst]
            exact h2.same hk rfl rfl
        · cases hq
      · rename_i cs cap T sz hget
        split at hq
        · rename_i hle
          simp only [Option.some.injEq] at hq; subst hq
          obtain ⟨htag, cur, hb, hcl, hcsl, hcap, hr⟩ := h1.hp b _ hget
          obtain ⟨w', hrun, hb', hg⟩ := store_run (P := P) hn (vs := cur) (p := p) hb hvl hR.2 (by omega)
          have hst := grownBy_step (c := c) hg (by intro b e; injection e with e; subst e; exact .inr htag)
          have hk := hst.keep h1.lt
          refine ⟨undef, w', c, .inr ⟨hexec w' (by rw [hx']; exact hrun), rfl⟩, ⟨?_, ?_, by rw [hdst]; exact h3⟩, hst⟩
          · refine h1.upd hk (fun b hb => Nat.lt_of_lt_of_le (h1.lt b hb) hg.size) ?_ ?_
            · intro d' ob hget'
              right
              refine ⟨hget', rfl, rfl, fun b2 hb2 => ⟨hb2, hg.block b2 (h1.lt b2 (by rw [hb2]; simp)) ?_⟩⟩
              intro he
              injection he with he; subst he
              rw [htag] at hb2; cases hb2
            · intro b' ob hb1
              by_cases e : b = b'
              · subst e
                simp only [upd_self, Option.some.injEq] at hb1; subst hb1
                left
                have hus : (a.eval y).cells.toList.length = n := by simpa using hvl
                have hsl : (setA cs p ds).length = cs.length := by
                  rw [setA_eq cs p ds (by omega)]
                  simp only [List.length_append, List.length_take, List.length_drop]
                  omega
                have hsp := take_splice cur (a.eval y).cells.toList p cs.length (by omega) hcsl
                rw [hus] at hsp
                refine ⟨htag, _, hb', ?_, ?_, hcap, ?_⟩
                · simp only [List.length_append, List.length_take, List.length_drop]; omega
                · rw [hsl]; simp only [List.length_append, List.length_take, List.length_drop]; omega
                · have := (R1_set hr hR p (by rw [hlen]; exact hle)).keep hk
                  rw [hsl, hsp]
                  rw [hus] at this
                  exact this
              · have hb1 : s.H b' = some ob := by rw [← hb1]; exact (upd_ne _ _ e).symm
                right
                refine ⟨hb1, fun ht => ⟨ht, hg.block b' (h1.lt b' (by rw [ht]; simp)) ?_⟩⟩
                intro he
                injection he with he; exact e he.symm
          · rw [hdst]
            exact h2.same hk rfl rfl
        · cases hq
      · cases hq
    · cases hq
  · cases hq

end
end Go.Proofs.Ytejmcijcdhoogaa.Abs
