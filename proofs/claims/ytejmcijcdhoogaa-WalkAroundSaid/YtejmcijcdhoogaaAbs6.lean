import Derived.Test.YtejmcijcdhoogaaAbsN
set_option linter.unusedSimpArgs false
set_option linter.unusedVariables false
namespace Go.Proofs.Ytejmcijcdhoogaa.Abs
open Go

section
variable {P : Program} {o : Oper} {so : SOp} {c : Cx} {L : List (Nat × LObj)} {H : AHeap} {w : World} {env : List (Nat × SV)} {a : Act} {sv : SV}

theorem q_un {op : UnOp} {t : TypeId} {x : Operand} (ho : o.op = .unOp op t x) (hop : opOf P o = some so) (hE : ERel c w env a.tmps) (hq : qop L H (oval env) so = some sv) : QS P o c w a sv := by
  simp only [opOf, ho, Option.some.injEq] at hop; subst hop
  simp only [qop] at hq
  have hx := oval_rs hE x
  unfold unq at hq
  split at hq
  · rename_i b he
    rw [he] at hx
    have hx' : a.eval x = .bool b := hx
    simp only [Option.some.injEq] at hq; subst hq
    exact QS.of (Op.unary .not (a.eval x)) (by simp [execOp, ho]) (v := .bool !b) (by rw [hx']; rfl) (by simp [RS, RV])
  · rename_i k n he
    rw [he] at hx
    have hx' : a.eval x = .int k n := hx
    simp only [Option.some.injEq] at hq; subst hq
    exact QS.of (Op.unary .neg (a.eval x)) (by simp [execOp, ho]) (v := .int k (k.wrap (0 - n))) (by rw [hx']; rfl) (by simp [RS, RV])
  · cases hq

theorem iaq_sound (m : MRel c L H w) {s s' : SV} {v : Value} {sz : Nat} {i : Int} (hs : RS c w s v) (h : iaq L sz i s = some s') :
    ∃ b p n cap, v = .slice (some ⟨b, p, none⟩) n cap ∧ 0 ≤ i ∧ i < n ∧ RS c w s' (.pointer (some ⟨b, p + i.toNat * sz, none⟩)) := by
  cases s with
  | loc d o => simp [iaq] at h
  | own d =>
    simp only [iaq] at h
    cases hg : get L d with
    | none => simp [hg] at h
    | some ob =>
      rw [hg] at h
      cases ob with
      | cells => cases h
      | arr nl cs n e sz' =>
        simp only at h
        split at h
        · rename_i hi
          simp only [Option.some.injEq] at h; subst h
          obtain ⟨h0, h1, _, vs, h2, _⟩ := m.loc d _ hg
          have hs' : v = c.ν d := hs
          rcases h2.2 with ⟨_, hn⟩ | ⟨g, cap, cur, he, _⟩
          · omega
          · have hgb : g = c.β d := (h0 g (by rw [he]; simp [Value.ownBlock])).2
            refine ⟨g, 0, n, cap, by rw [hs', he], hi.1, hi.2, ?_⟩
            simp [RS, hgb]
        · cases h
  | v a =>
    cases a with
    | vec nl cs n =>
      simp only [iaq] at h
      split at h
      · rename_i hi
        simp only [Option.some.injEq] at h; subst h
        simp only [RS, RV] at hs ⊢
        obtain ⟨ad, cap, rfl, _, _, _, _, h5, h6⟩ := hs
        obtain ⟨b, s, rfl, hI, hc⟩ := h6 (h5 (by omega))
        exact ⟨b, s, n, cap, rfl, hi.1, hi.2, b, s, rfl, hI, hc⟩
      · cases h
    | raw u =>
      simp only [RS, RV] at hs; subst hs
      cases v <;> simp only [iaq] at h <;> try (cases h; done)
      rename_i ad n cap
      rcases ad with _ | ⟨b, p, _ | sp⟩ <;> simp only at h <;> try (cases h; done)
      split at h
      · rename_i hi
        simp only [Option.some.injEq] at h; subst h
        exact ⟨b, p, n, cap, rfl, hi.1, hi.2, rfl⟩
      · cases h
    | top | box | agg | tup | fn | ifc => simp [iaq] at h

theorem q_ia {t : TypeId} {x i : Operand} (ho : o.op = .indexAddr t x i) (hop : opOf P o = some so) (m : MRel c L H w) (hE : ERel c w env a.tmps) (hq : qop L H (oval env) so = some sv) : QS P o c w a sv := by
  simp only [opOf, ho] at hop
  split at hop
  · rename_i len e hu
    simp only [Option.bind_eq_bind] at hop
    obtain ⟨sz, hsz, hop⟩ := Option.bind_eq_some_iff.1 hop
    simp only [Option.some.injEq] at hop; subst hop
    simp only [qop] at hq
    split at hq
    · rename_i k iv he
      have hi := oval_rs hE i
      rw [he] at hi
      have hi' : a.eval i = .int k iv := hi
      split at hq
      · rename_i hlt
        obtain ⟨b, p, h1, h2⟩ := fldq_sound (oval_rs hE x) hq
        refine QS.of (Instr.indexAt t (a.eval x) (a.eval i)) (by simp [execOp, ho]) ?_ h2
        unfold Instr.indexAt
        simp only [hi', asIntOf, Sem.run_bind, Sem.run_pure, Result.andThen_ok, run_underlying hu, h1, Instr.sureAddr, Sem.run_ite, if_pos hlt, tsz_some hsz, Addr.add_lit]
      · cases hq
    · cases hq
  · rename_i e hu
    simp only [Option.bind_eq_bind] at hop
    obtain ⟨sz, hsz, hop⟩ := Option.bind_eq_some_iff.1 hop
    simp only [Option.some.injEq] at hop; subst hop
    simp only [qop] at hq
    split at hq
    · rename_i k iv he
      have hi := oval_rs hE i
      rw [he] at hi
      have hi' : a.eval i = .int k iv := hi
      obtain ⟨b, p, n, cap, h1, h2, h3, h4⟩ := iaq_sound m (oval_rs hE x) hq
      refine QS.of (Instr.indexAt t (a.eval x) (a.eval i)) (by simp [execOp, ho]) ?_ h4
      unfold Instr.indexAt
      simp only [hi', asIntOf, Sem.run_bind, Sem.run_pure, Result.andThen_ok, run_underlying hu, h1, Sem.run_ite, if_pos (And.intro h2 h3), tsz_some hsz, Addr.add_lit]
    · cases hq
  · cases hop

theorem q_index {t : TypeId} {x i : Operand} (ho : o.op = .index t x i) (hop : opOf P o = some so) (hE : ERel c w env a.tmps) (hq : qop L H (oval env) so = some sv) : QS P o c w a sv := by
  simp only [opOf, ho] at hop
  have hx := oval_rs hE x
  have hi := oval_rs hE i
  split at hop
  · rename_i len e hu
    simp only [Option.bind_eq_bind] at hop
    obtain ⟨sz, hsz, hop⟩ := Option.bind_eq_some_iff.1 hop
    obtain ⟨g, hg, hop⟩ := Option.bind_eq_some_iff.1 hop
    simp only [Option.some.injEq] at hop; subst hop
    simp only [qop] at hq
    split at hq
    · rename_i cs k iv he1 he2
      rw [he1] at hx
      rw [he2] at hi
      have hi' : a.eval i = .int k iv := hi
      simp only [RS, RV] at hx
      obtain ⟨vs, h1, h2⟩ := hx
      split at hq
      · rename_i hlt
        obtain ⟨u, hu1, rfl⟩ := Option.map_eq_some_iff.1 hq
        obtain ⟨y, h3, h4⟩ := part_sound hsz hg h2 hu1
        refine QS.of (Instr.index t (a.eval x) (a.eval i)) (by simp [execOp, ho]) ?_ h4
        unfold Instr.index
        simp only [hi', asIntOf, Sem.run_bind, Sem.run_pure, Result.andThen_ok, run_underlying hu, h1, Sem.run_ite, if_pos hlt, tsz_some hsz, h3]
      · cases hq
    · cases hq
  · rename_i hu
    simp only [Option.some.injEq] at hop; subst hop
    simp only [qop] at hq
    split at hq
    · rename_i s k iv he1 he2
      rw [he1] at hx
      rw [he2] at hi
      have hi' : a.eval i = .int k iv := hi
      have hx' : a.eval x = .string s := hx
      split at hq
      · rename_i hlt
        obtain ⟨b, hb, rfl⟩ := Option.map_eq_some_iff.1 hq
        refine QS.of (Instr.index t (a.eval x) (a.eval i)) (by simp [execOp, ho]) (v := .int .u8 b.toNat) ?_ (by simp [RS, RV])
        unfold Instr.index
        simp only [hi', hx', asIntOf, Sem.run_bind, Sem.run_pure, Result.andThen_ok, run_underlying hu, if_pos hlt, hb]
      · cases hq
    · cases hq
  · cases hop

theorem q_ext {x : Operand} {i : Nat} (ho : o.op = .extract x i) (hop : opOf P o = some so) (hE : ERel c w env a.tmps) (hq : qop L H (oval env) so = some sv) : QS P o c w a sv := by
  simp only [opOf, ho, Option.some.injEq] at hop; subst hop
  simp only [qop] at hq
  have hx := oval_rs hE x
  split at hq
  · rename_i cs he
    rw [he] at hx
    simp only [RS, RV] at hx
    obtain ⟨vs, h1, h2⟩ := hx
    obtain ⟨u, hu, rfl⟩ := Option.map_eq_some_iff.1 hq
    obtain ⟨y, h3, h4⟩ := RL_get h2 hu
    refine QS.of (Instr.extract (a.eval x) i) (by simp [execOp, ho]) (v := y) ?_ h4
    simp [Instr.extract, h1, h3]
  · cases hq

theorem lenq_sound (m : MRel c L H w) {s : SV} {v : Value} {n : Nat} {str : Bool} (hs : RS c w s v) (h : lenq L str s = some n) : (str = false ∧ ∃ p k, v = .slice p n k) ∨ (str = true ∧ ∃ b, v = .string b ∧ n = b.size) := by
  cases s with
  | loc d o => cases str <;> simp [lenq] at h
  | own d =>
    cases str <;> simp only [lenq] at h <;> try (cases h; done)
    cases hg : get L d with
    | none => simp [hg] at h
    | some ob =>
      rw [hg] at h
      cases ob with
      | cells => cases h
      | arr nl cs n' e sz =>
        simp only [Option.some.injEq] at h; subst h
        obtain ⟨h0, h1, _, vs, h2, _⟩ := m.loc d _ hg
        have hs' : v = c.ν d := hs
        rcases h2.2 with ⟨he, hn⟩ | ⟨g, cap, cur, he, _⟩
        · exact .inl ⟨rfl, none, 0, by rw [hs', he, hn]⟩
        · exact .inl ⟨rfl, _, _, by rw [hs', he]⟩
  | v a =>
    cases a with
    | vec nl cs n' =>
      cases str <;> simp only [lenq] at h <;> try (cases h; done)
      simp only [Option.some.injEq] at h; subst h
      simp only [RS, RV] at hs
      obtain ⟨ad, cap, rfl, _⟩ := hs
      exact .inl ⟨rfl, _, _, rfl⟩
    | raw u =>
      simp only [RS, RV] at hs; subst hs
      cases str <;> cases v <;> simp only [lenq] at h <;> try (cases h; done)
      · simp only [Option.some.injEq] at h; subst h; exact .inl ⟨rfl, _, _, rfl⟩
      · simp only [Option.some.injEq] at h; exact .inr ⟨rfl, _, rfl, h.symm⟩
    | top | box | agg | tup | fn | ifc => cases str <;> simp [lenq] at h

theorem bytesq_sound {I : Nat → Prop} {w : World} : ∀ {cs : List AV} {bs : List UInt8}, bytesq cs = some bs → ∃ ns : List Int, ns.length = bs.length ∧ cs = ns.map (fun n => .raw (.int .u8 n)) ∧ bs = ns.map fun n => UInt8.ofNat n.toNat
  | [], bs, h => by
    simp only [bytesq, Option.some.injEq] at h
    subst h
    exact ⟨[], rfl, rfl, rfl⟩
  | u :: r, bs, h => by
    cases u with
    | raw v =>
      cases v with
      | int k n =>
        cases k <;> simp only [bytesq] at h <;> try (cases h; done)
        obtain ⟨bs', h', rfl⟩ := Option.map_eq_some_iff.1 h
        obtain ⟨ns, h1, rfl, rfl⟩ := bytesq_sound (I := I) (w := w) h'
        exact ⟨n :: ns, by simp, rfl, rfl⟩
      | _ => simp [bytesq] at h
    | _ => simp [bytesq] at h
theorem push_fold (ns : List Int) : ∀ (s : ByteArray), ns.foldl (fun r n => r.push (UInt8.ofNat n.toNat)) s = ⟨s.data ++ (ns.map fun n => UInt8.ofNat n.toNat).toArray⟩ := by
  induction ns with
  | nil => intro s; simp
  | cons n ns ih =>
    intro s
    rw [List.foldl_cons, ih]
    congr 1
    simp [ByteArray.push]
theorem b2sq_sound (m : MRel c L H w) {s s' : SV} {v : Value} (hs : RS c w s v) (h : b2sq L H s = some s') :
    ∃ p n k y, v = .slice p n k ∧ (Conv.bytesToString (.slice p n k)).run P w = .ok y w ∧ RS c w s' y := by
  unfold b2sq at h
  split at h
  · rename_i n hn
    rcases lenq_sound m hs hn with ⟨_, p, k, rfl⟩ | ⟨h', _⟩
    · split at h
      · rename_i h0
        subst h0
        simp only [Option.some.injEq] at h; subst h
        refine ⟨p, 0, k, .string ⟨#[]⟩, rfl, ?_, by simp [RS, RV]⟩
        cases p with
        | none => rfl
        | some a0 => exact run_bytesToString w a0 0 k [] (by simp [loadCells, loadCellsFrom, Sem.run_pure])
      · split at h
        · rename_i s1 h1
          obtain ⟨b, q, n', cap, h2, _, _, h3⟩ := iaq_sound m hs h1
          simp only [Value.slice.injEq] at h2
          obtain ⟨rfl, rfl, rfl⟩ := h2
          split at h
          · rename_i cs o hr
            obtain ⟨b', q', h4, h5⟩ := rdA_sound m h3 hr
            simp only [Int.toNat_zero, Nat.zero_mul, Nat.add_zero, Value.pointer.injEq, Option.some.injEq, Addr.mk.injEq, and_true] at h4
            obtain ⟨rfl, rfl⟩ := h4
            split at h
            · rename_i bs hbs
              split at h
              · rename_i hl
                simp only [Option.some.injEq] at h; subst h
                obtain ⟨ns, l1, l2, rfl⟩ := bytesq_sound (I := c.I) (w := w) hbs
                refine ⟨_, _, _, .string ⟨(ns.map fun n => UInt8.ofNat n.toNat).toArray⟩, rfl, ?_, by simp [RS, RV]⟩
                have hrun := run_bytesToString (P := P) w ⟨b, q, none⟩ n k ns (by
                  have hnl : (ns.map (Value.int .u8)).length = n := by rw [List.length_map, l1, hl]
                  rw [← hnl]
                  refine run_loadCells_list w ⟨b, q, none⟩ _ fun j x hx => ?_
                  have hj : j < ns.length := by have := (List.getElem?_eq_some_iff.1 hx).1; simpa using this
                  have hu : cs[o + j]? = some (.raw x) := by
                    have hc : ((cs.drop o).take n)[j]? = some (.raw x) := by
                      rw [l2, List.getElem?_map]
                      rw [List.getElem?_map] at hx
                      cases hns : ns[j]? with
                      | none => rw [hns] at hx; simp at hx
                      | some y => rw [hns] at hx; simp at hx ⊢; exact hx
                    rw [List.getElem?_take] at hc
                    split at hc
                    · rwa [List.getElem?_drop] at hc
                    · cases hc
                  obtain ⟨y, hy, _, hv⟩ := h5 j _ hu
                  simp only [RV] at hv
                  rw [Addr.add_lit, hy, hv])
                rw [hrun, push_fold]
                simp [ByteArray.empty, ByteArray.emptyWithCapacity]
                rfl
              · cases h
            · cases h
          · cases h
        · cases h
    · cases h'
  · cases h

theorem q_cnv {s t : TypeId} {x : Operand} (ho : o.op = .convert s t x) (hop : opOf P o = some so) (m : MRel c L H w) (hE : ERel c w env a.tmps) (hq : qop L H (oval env) so = some sv) : QS P o c w a sv := by
  simp only [opOf, ho] at hop
  split at hop
  · rename_i d k hs hu
    simp only [Option.some.injEq] at hop; subst hop
    simp only [qop] at hq
    have hx := oval_rs hE x
    split at hq
    · rename_i k' n he
      rw [he] at hx
      have hx' : a.eval x = .int k' n := hx
      simp only [Option.some.injEq] at hq; subst hq
      refine QS.of (convert s t (a.eval x)) (by simp [execOp, ho]) (v := .int k (k.wrap n)) ?_ (by simp [RS, RV])
      unfold convert
      rw [Sem.run_bind, run_underlying hs, Result.andThen_ok, Sem.run_bind, run_underlying hu, Result.andThen_ok, hx']
      cases d <;> rfl
    · cases hq
  · rename_i e hs hu
    split at hop
    · rename_i he
      simp only [Option.some.injEq] at hop; subst hop
      simp only [qop] at hq
      have hx := oval_rs hE x
      obtain ⟨p, n, k, y, h1, h2, h3⟩ := b2sq_sound (P := P) m hx hq
      refine QS.of (convert s t (a.eval x)) (by simp [execOp, ho]) (v := y) ?_ h3
      rw [h1, run_convert_bytes_string w s t e _ _ _ hs he hu]
      exact h2
    · cases hop
  · cases hop

theorem allAV_sound (hE : ERel c w env a.tmps) : ∀ (xs : List Operand) {us : List AV}, allAV (xs.map (oval env)) = some us → RL c.I w us (xs.map a.eval)
  | [], us, h => by simp [allAV] at h; subst h; simp [RL]
  | x :: xs, us, h => by
    simp only [List.map_cons, allAV] at h
    split at h
    · rename_i u l h1 h2
      simp only [Option.some.injEq] at h; subst h
      simp only [List.map_cons, RL]
      have hx := oval_rs hE x
      rw [h1] at hx
      exact ⟨_, _, rfl, hx, allAV_sound hE xs h2⟩
    · cases h

theorem q_mkfn {f : Fn} {xs ys : Array Operand} (ho : o.op = .makeFunc f xs ys) (hop : opOf P o = some so) (hE : ERel c w env a.tmps) (hq : qop L H (oval env) so = some sv) : QS P o c w a sv := by
  simp only [opOf, ho, Option.some.injEq] at hop; subst hop
  simp only [qop] at hq
  split at hq
  · rename_i us vs h1 h2
    simp only [Option.some.injEq] at hq; subst hq
    refine QS.of (Instr.makeFunc f (xs.map a.eval) (ys.map a.eval)) (by simp [execOp, ho]) rfl ?_
    simp only [RS, RV]
    exact ⟨xs.toList.map a.eval, ys.toList.map a.eval, by simp [← Array.toList_map], allAV_sound hE _ h1, allAV_sound hE _ h2⟩
  · cases hq

theorem ointq_sound (hE : ERel c w env a.tmps) {x : Option Operand} {r : Option Int} (h : ointq (x.map (oval env)) = some r) :
    (x = none ∧ r = none) ∨ ∃ y k n, x = some y ∧ r = some n ∧ a.eval y = .int k n := by
  cases x with
  | none => simp [ointq] at h; exact .inl ⟨rfl, h.symm⟩
  | some y =>
    have hy := oval_rs hE y
    simp only [Option.map_some, ointq] at h
    split at h
    · rename_i he; cases he
    · rename_i k n he
      simp only [Option.some.injEq] at h he
      rw [he] at hy
      exact .inr ⟨y, k, n, rfl, h.symm, hy⟩
    · cases h

theorem bound_run {k : IntKind} {i : Int} {y : Nat} {code : BoundsCode} (h0 : 0 ≤ i) (h1 : i ≤ y) : (Instr.sliceBound (.int k i) y code).run P w = .ok i.toNat w := by
  unfold Instr.sliceBound
  simp [asIntOf, h0, h1]

theorem bounds_run (hE : ERel c w env a.tmps) {lo hi mx : Option Operand} {l h m : Option Int} (hl : ointq (lo.map (oval env)) = some l) (hh : ointq (hi.map (oval env)) = some h) (hm : ointq (mx.map (oval env)) = some m)
    {len cap : Nat} {b : Bool} (hmh : mx.isSome → hi.isSome) (h0 : 0 ≤ l.getD 0) (h1 : l.getD 0 ≤ h.getD len) (h2 : h.getD len ≤ m.getD cap) (h3 : m.getD cap ≤ cap) :
    (Instr.sliceBounds b len cap (lo.map a.eval) (hi.map a.eval) (mx.map a.eval)).run P w = .ok ((l.getD 0).toNat, (h.getD len).toNat, (m.getD cap).toNat) w := by
  unfold Instr.sliceBounds
  rcases ointq_sound hE hl with ⟨rfl, rfl⟩ | ⟨yl, kl, nl, rfl, rfl, el⟩ <;> rcases ointq_sound hE hh with ⟨rfl, rfl⟩ | ⟨yh, kh, nh, rfl, rfl, eh⟩ <;> rcases ointq_sound hE hm with ⟨rfl, rfl⟩ | ⟨ym, km, nm, rfl, rfl, em⟩ <;>
    simp only [Option.getD_some, Option.getD_none, Option.map_some, Option.map_none, Option.isSome_some, Option.isSome_none, Sem.run_bind, Sem.run_pure, Result.andThen_ok] at *
  all_goals first
    | (simp at hmh; done)
    | rfl
    | (try rw [em, bound_run (by omega) (by omega), Result.andThen_ok]
       try rw [eh, bound_run (by omega) (by omega), Result.andThen_ok]
       try rw [el, bound_run (by omega) (by omega), Result.andThen_ok]
       try simp)

theorem q_slc {t : TypeId} {x : Operand} {lo hi mx : Option Operand} (ho : o.op = .slice t x lo hi mx) (hop : opOf P o = some so) (hE : ERel c w env a.tmps) (hq : qop L H (oval env) so = some sv) : QS P o c w a sv := by
  simp only [opOf, ho] at hop
  have hx := oval_rs hE x
  split at hop
  · rename_i hu
    split at hop
    · cases hop
    · rename_i hmx
      simp only [Option.some.injEq] at hop; subst hop
      simp only [qop] at hq
      have hmx0 : mx = none := by cases mx <;> simp_all
      subst hmx0
      split at hq
      · rename_i l h hl hh
        unfold slsq at hq
        split at hq
        · rename_i s he
          rw [he] at hx
          have hx' : a.eval x = .string s := hx
          simp only at hq
          split at hq
          · rename_i hb
            simp only [Option.some.injEq] at hq; subst hq
            refine QS.of (Instr.sliceAt t (a.eval x) (lo.map a.eval) (hi.map a.eval) none) (by simp [execOp, ho]) ?_ (v := .string (s.extract (l.getD 0).toNat (h.getD s.size).toNat)) (by simp [RS, RV])
            have hr := bounds_run (P := P) (w := w) (b := false) (len := s.size) (cap := s.size) (mx := none) (m := none) hE hl hh rfl (by simp) hb.1 hb.2.1 (by simpa using hb.2.2) (by simp)
            unfold Instr.sliceAt
            rw [Sem.run_bind, run_underlying hu, Result.andThen_ok]
            simp only
            unfold Instr.slice
            rw [Sem.run_bind, run_underlying hu, Result.andThen_ok, hx']
            simp only [Option.isSome_none, Bool.false_eq_true, if_false, Sem.run_bind, Sem.run_pure, Result.andThen_ok]
            have hr' : (Instr.sliceBounds false s.size s.size (lo.map a.eval) (hi.map a.eval) none).run P w = _ := hr
            rw [hr']
            rfl
          · cases hq
        · cases hq
      · cases hq
  · rename_i e hu
    split at hop
    · cases hop
    · rename_i hmx
      simp only [Option.bind_eq_bind] at hop
      obtain ⟨sz, hsz, hop⟩ := Option.bind_eq_some_iff.1 hop
      simp only [Option.some.injEq] at hop; subst hop
      simp only [qop] at hq
      have hmh : mx.isSome → hi.isSome := by cases mx <;> cases hi <;> simp_all
      split at hq
      · rename_i l h m hl hh hm
        have fin : ∀ (ad : Option Addr) (n cap : Nat), a.eval x = .slice ad n cap → 0 ≤ l.getD 0 → l.getD 0 ≤ h.getD n → h.getD n ≤ m.getD cap → m.getD cap ≤ cap →
            (Instr.sliceAt t (a.eval x) (lo.map a.eval) (hi.map a.eval) (mx.map a.eval)).run P w =
              .ok (.slice (if (m.getD cap).toNat = (l.getD 0).toNat then ad else ad.map (·.add ((l.getD 0).toNat * sz))) ((h.getD n).toNat - (l.getD 0).toNat) ((m.getD cap).toNat - (l.getD 0).toNat)) w := by
          intro ad n cap hx' h0 h1 h2 h3
          have hr := bounds_run (P := P) (w := w) (b := true) (len := n) (cap := cap) hE hl hh hm hmh h0 h1 h2 h3
          unfold Instr.sliceAt
          rw [Sem.run_bind, run_underlying hu, Result.andThen_ok]
          simp only
          unfold Instr.slice
          rw [Sem.run_bind, run_underlying hu, Result.andThen_ok, hx']
          simp only [Sem.run_bind, hr, Result.andThen_ok, tsz_some hsz, Sem.run_pure]
        unfold slcq at hq
        split at hq
        · rename_i nl cs n he
          rw [he] at hx
          simp only [RS, RV] at hx
          obtain ⟨ad, cap, hx', h1, h2, h3, h4, h5, h6⟩ := hx
          simp only at hq
          split at hq
          · rename_i hb
            obtain ⟨b0, b1, b2, b3, b4, b5⟩ := hb
            simp only [Option.some.injEq] at hq; subst hq
            have hm1 : h.getD n ≤ m.getD cap := by cases m <;> simp_all <;> omega
            have hm2 : m.getD cap ≤ cap := by cases m <;> simp_all <;> omega
            refine QS.of (Instr.sliceAt t (a.eval x) (lo.map a.eval) (hi.map a.eval) (mx.map a.eval)) (by simp [execOp, ho]) (fin ad n cap hx' b0 b1 hm1 hm2) ?_
            have hn5 : n * sz ≤ cs.length := by exact_mod_cast b5
            have hhn : (h.getD n).toNat ≤ n := by cases m <;> simp_all <;> omega
            simp only [RS, RV]
            refine ⟨_, _, rfl, by omega, by omega, ?_, ?_, ?_, ?_⟩
            · intro hn
              obtain ⟨rfl, rfl⟩ := h3 hn
              exact ⟨by split <;> rfl, by omega⟩
            · intro hn
              have := h4 hn
              split
              · exact this
              · cases ad <;> simp_all
            · intro hn0
              have hle : (h.getD n).toNat * sz ≤ cs.length := Nat.le_trans (Nat.mul_le_mul_right _ hhn) hn5
              have hpos : 0 < ((h.getD n).toNat - (l.getD 0).toNat) * sz := Nat.mul_pos (by omega) b4
              have hsub : ((h.getD n).toNat - (l.getD 0).toNat) * sz = (h.getD n).toNat * sz - (l.getD 0).toNat * sz := Nat.sub_mul _ _ _
              intro hnil
              have := congrArg List.length hnil
              simp at this
              omega
            · intro hne
              have hcs : cs ≠ [] := by rintro rfl; simp at hne
              obtain ⟨b, s, rfl, hI, hc⟩ := h6 hcs
              have hne' : ¬ (m.getD cap).toNat = (l.getD 0).toNat := by
                intro hml
                have : (h.getD n).toNat - (l.getD 0).toNat = 0 := by omega
                rw [this] at hne
                simp at hne
              refine ⟨b, s + (l.getD 0).toNat * sz, by rw [if_neg hne']; simp [Addr.add_lit], hI, ?_⟩
              refine RCells_of fun j u hj => ?_
              have hj' : cs[(l.getD 0).toNat * sz + j]? = some u := by
                rw [List.getElem?_take] at hj
                split at hj
                · rwa [List.getElem?_drop] at hj
                · cases hj
              obtain ⟨v, hv⟩ := RCells_get hc hj'
              exact ⟨v, by rw [Nat.add_assoc]; exact hv⟩
          · cases hq
        · rename_i b p n cap he
          rw [he] at hx
          have hx' : a.eval x = _ := hx
          simp only at hq
          split at hq
          · rename_i hb
            obtain ⟨b0, b1, b2, b3⟩ := hb
            have hf := fin _ n cap hx' b0 b1 b2 b3
            split at hq
            · rename_i hml
              simp only [Option.some.injEq] at hq; subst hq
              exact QS.of _ (by simp [execOp, ho]) hf (by rw [if_pos (by rw [hml])]; simp [RS, RV])
            · rename_i hml
              simp only [Option.some.injEq] at hq; subst hq
              exact QS.of _ (by simp [execOp, ho]) hf (by rw [if_neg (by omega)]; simp [RS, RV, Addr.add_lit])
          · cases hq
        · cases hq
      · cases hq
  · cases hop

end
end Go.Proofs.Ytejmcijcdhoogaa.Abs
