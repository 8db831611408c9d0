import Derived.Test.YtejmcijcdhoogaaMC1
import Derived.Test.YtejmcijcdhoogaaMB1
set_option linter.unusedSimpArgs false
set_option linter.unusedVariables false
section
namespace Go.Proofs.Ytejmcijcdhoogaa
open Go Abs
attribute [local irreducible] EX exL exG exC exCq exS exV exIf exGd exGq exB
set_option maxHeartbeats 2000000

noncomputable def farsR (g : Graph) (w : Want) (down : List Bool) (n : Nat) : List AV := (List.range n).map fun (k : Nat) => dv (farOf g w down k)
noncomputable def optCells (g : Graph) (w : Want) (down : List Bool) : List AV :=
  [iv g.nodes, .vec g.nl (rows g.links) g.links.length, sl false (pts w), .vec false ((pruned g w down).map bv) g.links.length, .vec false (farsR g w down (w.via.length + 2)) (w.via.length + 2)]
noncomputable def optAV (g : Graph) (w : Want) (down : List Bool) : AV := if optErr g w down = 0 then .box (optCells g w down) 0 else .raw (.pointer none)
theorem farsR_length (g : Graph) (w : Want) (down : List Bool) (n : Nat) : (farsR g w down n).length = n := by simp [farsR]
theorem farsR_succ (g : Graph) (w : Want) (down : List Bool) {i : Int} (i0 : 0 ≤ i) : farsR g w down (i + 1).toNat = farsR g w down i.toNat ++ [dv (farOf g w down i)] := by
  simp only [farsR]
  rw [range_succ_map i0]
  simp only [Int.toNat_of_nonneg i0]
theorem newOpt_c (g : Graph) (w : Want) (nl : Bool) (down : List Bool) (hw : w.ok) (H : AHeap) : APure Try.prog 48 [g.av, w.av, blv nl down] H (.tup [optAV g w down, bv (decide (optErr g w down = 0))]) := by
  intro Q h
  have cc := fun H => rcost_c g w nl down hw H
  have pc := fun H => rpoints_c w hw H
  have dc := fun H => pruned_ref_c g w nl down hw H (rightWant_c g w hw H)
  simp only [Graph.av, Want.av, blv, sl] at cc pc dc
  by_cases he : optErr g w down = 0
  · have hr := optErr_right he
    have wf := wfit_of hr
    have hf := wf.fit
    have f1 := hf.n1
    have f2 := hf.n2
    have f3 := hf.few
    have f4 := wf.few
    have pl := pts_length w
    obtain ⟨gone, hgone⟩ : ∃ gone, gone = pruned g w down := ⟨_, rfl⟩
    have gl : gone.length = g.links.length := by rw [hgone]; simp [pruned]
    have tc := fun n H => from_ref_c g false gone n H
    have tov : ∀ n : Int, 0 ≤ n → n < g.nodes → fromAV g gone n = dv (distL g gone n) := fun n n0 n1 => by rw [fromAV, if_pos ⟨hf.ok, n0, n1⟩]; rfl
    simp only [Graph.av, blv, gl] at tc
    have hdc : prunedAV g w down = .vec false (gone.map bv) g.links.length := by rw [prunedAV, if_pos hr, hgone]
    obtain ⟨m, hm⟩ : ∃ m, m = w.via.length + 2 := ⟨_, rfl⟩
    refine ACalls.relax (ACalls.mono (Q := fun r H1 =>
      (∀ b o, H b = some o → H1 b = some o) ∧ ∃ bt tt sv ob, r = .tup [.raw (.pointer (some ⟨bt, 0, none⟩)), bv true] ∧ H bt = none ∧ H1 bt = some (.cells [iv g.nodes, .vec g.nl (rows g.links) g.links.length, sl false (pts w), .vec false (gone.map bv) g.links.length, sv] tt) ∧ RowAt H H1 bt 25 sv (farsR g w down m) ob) ?_ ?_)
    · refine ACalls.of_code fn_waymarkref15_NewOpt ?_
      simp -implicitDefEqProofs only [sc_waymarkref15_NewOpt, Graph.av, Want.av, blv, sl, go_sem, seval]
      refine exC_pure (cc _) ?_
      rw [he]
      repeat' (first | simp -implicitDefEqProofs only [go_sem, seval] | simp -implicitDefEqProofs (disch := omega) only [ars, if_pos, exV_some, Option.map_some] | ((with_reducible first | apply exB_dec | apply exB_intro) <;> intro _) | with_reducible refine exC_pure (pc _) ?_ | with_reducible refine exCq_pure (pc _) ?_ | with_reducible refine exC_pure (dc _) ?_ | with_reducible refine exCq_pure (dc _) ?_)
      rw [hdc]
      repeat' (first | simp -implicitDefEqProofs only [go_sem, seval] | simp -implicitDefEqProofs (disch := omega) only [ars, if_pos, exV_some, Option.map_some] | ((with_reducible first | apply exB_dec | apply exB_intro) <;> intro _))
      intro bt hbt
      have first : RowAt H (upd H bt (some (.cells [iv g.nodes, .vec g.nl (rows g.links) g.links.length, .vec false ((pts w).map iv) (pts w).length, .vec false (gone.map bv) g.links.length, .vec true [] 0] 138))) bt 25 (.vec true [] 0) (farsR g w down 0) none := .inl ⟨rfl, rfl, rfl⟩
      refine exL_modH (fun a : Int × AHeap => [(11, .v (iv a.1))]) (fun _ => []) (fun a => a.2)
        (fun a => 0 ≤ a.1 ∧ a.1 ≤ m ∧ (∀ b o, H b = some o → a.2 b = some o) ∧ ∃ sv ob, a.2 bt = some (.cells [iv g.nodes, .vec g.nl (rows g.links) g.links.length, .vec false ((pts w).map iv) (pts w).length, .vec false (gone.map bv) g.links.length, sv] 138) ∧ RowAt H a.2 bt 25 sv (farsR g w down a.1.toNat) ob)
        (fun a => (m - a.1).toNat) (0, _) rfl ⟨by simp, by simp, upd_base hbt, _, none, upd_self _ _ _, first⟩ ?_
      rintro ⟨i, H'⟩ ⟨i0, i1, hbase, sv, ob, hat, hrow⟩ ih
      dsimp only at i0 i1 hbase hat hrow ih
      simp only [S.up, S.upH, ups, Abs.put, Nat.reduceEqDiff, ↓reduceIte, Nat.reduceAdd] at ih
      simp -implicitDefEqProofs only [congrArg KI.code sc_waymarkref15_NewOpt_L0.eq_1, go_sem, seval]
      by_cases hi : i < m
      · obtain ⟨a0, a1⟩ := wf.point (i := i) (by omega) (by omega)
        have tci := tc (gi (pts w) i) H'
        rw [tov _ a0 a1] at tci
        have hfar : farOf g w down i = distL g gone (gi (pts w) i) := by rw [farOf, hgone]
        have hlR := farsR_length g w down i.toNat
        repeat' (first | simp -implicitDefEqProofs only [go_sem, seval] | simp -implicitDefEqProofs (disch := omega) only [hat, dv, rd_map, ars, if_pos, exV_some, Option.map_some] | ((with_reducible first | apply exB_dec | apply exB_intro) <;> intro _) | with_reducible refine exC_pure (tci) ?_ | with_reducible refine exCq_pure (tci) ?_)
        all_goals first | (exfalso; omega) | skip
        obtain ⟨cap2, hp2⟩ := hrow.pre
        rw [hp2]
        have hl2 : (farsR g w down i.toNat).length + 1 ≤ maxLen := by rw [hlR]; simp only [maxLen]; omega
        have hl2' : ((farsR g w down i.toNat).length + 1) * 24 ≤ 140737488355328 := by rw [hlR]; omega
        refine hapK_pos rfl hl2' hl2 (by omega) ?_
        intro b2 cap hb2 hcap
        simp only [S.newhd]
        have hbtn : H' bt ≠ none := by rw [hat]; simp
        obtain ⟨H1, hH1⟩ : ∃ H1, H1 = upd (delH H' ob) b2 (some (.row (farsR g w down i.toNat ++ [dv (distL g gone (gi (pts w) i))]) cap 25 1)) := ⟨_, rfl⟩
        obtain ⟨r2, base1, keep1⟩ := row_step hrow hbase hbtn hb2 hcap (dv (distL g gone (gi (pts w) i))) hH1
        obtain ⟨h1bt, nebt⟩ := keep1 bt _ hat (fun hh => (hrow.some_of hh).1 rfl)
        rw [show upd (delH H' ob) b2 (some (.row (farsR g w down i.toNat ++ [.vec false ((distL g gone (gi (pts w) i)).map iv) (distL g gone (gi (pts w) i)).length]) cap 25 1)) = H1 from hH1.symm]
        clear hH1 keep1 hb2 hp2
        repeat' (first | simp -implicitDefEqProofs only [go_sem, seval] | simp -implicitDefEqProofs (disch := omega) only [h1bt, hlR, upd_self, ars, if_pos, exV_some, Option.map_some] | ((with_reducible first | apply exB_dec | apply exB_intro) <;> intro _))
        all_goals first | (exfalso; omega) | skip
        rw [hlR] at r2
        refine ih (i + 1, upd H1 bt (some (.cells [iv g.nodes, .vec g.nl (rows g.links) g.links.length, .vec false ((pts w).map iv) (pts w).length, .vec false (gone.map bv) g.links.length, .raw (.slice (some ⟨b2, 0, none⟩) (i.toNat + 1) cap)] 138))) ⟨by dsimp only; omega, by dsimp only; omega, ?_, .raw (.slice (some ⟨b2, 0, none⟩) (i.toNat + 1) cap), some b2, ?_, ?_⟩ (by dsimp only; omega)
        all_goals dsimp only
        · intro b o ho
          rw [upd_ne _ _ (by rintro rfl; rw [hbt] at ho; cases ho)]
          exact base1 b o ho
        · rw [upd_self]
        · rw [farsR_succ g w down i0, hfar]
          refine RowAt.keep (H' := H1) r2 fun b hb => ?_
          injection hb with hb
          subst hb
          exact upd_ne _ _ (Ne.symm (r2.some_of rfl).1)
      · obtain rfl : i = m := by omega
        rw [Int.toNat_natCast] at hrow
        clear ih
        repeat' (first | simp -implicitDefEqProofs only [go_sem, seval] | simp -implicitDefEqProofs (disch := omega) only [hat, ars, if_pos, exV_some, Option.map_some] | ((with_reducible first | apply exB_dec | apply exB_intro) <;> intro _))
        all_goals first | (exfalso; omega) | skip
        exact ⟨hbase, bt, _, sv, ob, rfl, hbt, hat, hrow⟩
    · rintro r H1 ⟨hbase, bt, tt, sv, ob, rfl, hbt, hat, hrow⟩
      have l2 := farsR_length g w down m
      have n2' : farsR g w down m ≠ [] := fun e => by rw [e] at l2; simp at l2; omega
      obtain ⟨b2, c2, rfl, rfl, e2, m2, k2, u2⟩ : ∃ b cap, ob = some b ∧ sv = .raw (.slice (some ⟨b, 0, none⟩) (farsR g w down m).length cap) ∧ H1 b = some (.row (farsR g w down m) cap 25 1) ∧ b ≠ bt ∧ H b = none ∧ (farsR g w down m).length ≤ cap := by
        rcases hrow with ⟨_, h2, _⟩ | h2
        · exact absurd h2 n2'
        · exact h2
      rw [optAV, if_pos he, decide_eq_true he] at h
      refine ⟨fun b => b = bt ∨ b = b2, H, .tup [.box (optCells g w down) 0, bv true], hbase, ?_, ?_, h⟩
      · rintro b (rfl | rfl)
        · exact ⟨by rw [hat]; simp, hbt⟩
        · exact ⟨by rw [e2]; simp, k2⟩
      · refine Fz.tup (.cons (Fz.ptr (.inl rfl) hat ?_) (FzL.refl _ _ _))
        rw [l2] at *
        rw [optCells, ← hm, ← hgone]
        refine .cons (Fz.refl _ _ _) (.cons (Fz.refl _ _ _) (.cons (Fz.refl _ _ _) (.cons (Fz.refl _ _ _) (.cons ?_ .nil))))
        exact Fz.slice (.inr rfl) e2 u2 (Nat.le_refl _) (fun j u hj => by rw [Nat.zero_add]; exact hj) (fun _ => n2') (FzL.refl _ _ _)
  · refine ACalls.of_code fn_waymarkref15_NewOpt ?_
    simp -implicitDefEqProofs only [sc_waymarkref15_NewOpt, Graph.av, Want.av, blv, sl, go_sem, seval]
    refine exC_pure (cc _) ?_
    rw [optAV, if_neg he, decide_eq_false he] at h
    repeat' (first | simp -implicitDefEqProofs only [go_sem, seval] | simp -implicitDefEqProofs (disch := omega) only [ars, if_pos, exV_some, Option.map_some] | ((with_reducible first | apply exB_dec | apply exB_intro) <;> intro _))
    all_goals first | contradiction | exact h
end Go.Proofs.Ytejmcijcdhoogaa
end

section
namespace Go.Proofs.Ytejmcijcdhoogaa
open Go Abs
attribute [local irreducible] EX exL exG exC exCq exS exV exIf exGd exGq exB
set_option maxHeartbeats 2000000

theorem rd_fars {g : Graph} {w : Want} {down : List Bool} {m : Nat} {n : Int} (h0 : 0 ≤ n) (h1 : n < m) : rdV (farsR g w down m) (n.toNat * 1) 1 false = some (.vec false ((farOf g w down n).map iv) (farOf g w down n).length) := by
  rw [farsR, rd_range h0 h1, Int.toNat_of_nonneg h0]; rfl
theorem step_mem {g : Graph} {w : Want} {down : List Bool} {node n e : Int} (h0 : optErr g w down = 0) (hn : 0 ≤ n ∧ n < w.via.length + 1) (hok : (ends g e).2.2 = true) (hnode : (ends g e).1 = node) :
    e ∈ nextL g (pruned g w down) (farOf g w down (n + 1)) node ↔ stepOk g w down node n e := by
  have wf := wfit_of (optErr_right h0)
  have hf := wf.fit
  obtain ⟨e0, e1⟩ := ends_ok hok
  have hb := hf.b e e0 e1
  have hw := hf.w e e0 e1
  have hp := wf.point (i := n + 1) (by omega) (by omega)
  have hd := (distL_spec hf (pruned g w down) hp).1
  have hz := hd.zero hf hp
  unfold nextL stepOk
  constructor
  · intro h
    split at h
    · rename_i hno
      rw [List.mem_filter] at h
      obtain ⟨_, h2⟩ := h
      simp only [onB, Bool.and_eq_true, decide_eq_true_eq] at h2
      refine ⟨h0, hn, by omega, fun he => ?_, hok, hnode, h2.1, h2.2.1, by omega⟩
      have := hno.2.2.2
      rw [farOf, ← he, hz] at this
      omega
    · simp at h
  · rintro ⟨_, _, hnd, _, _, _, hu, h1, h2⟩
    rw [if_pos ⟨hf.ok, hd.len, hnd, by omega⟩, List.mem_filter]
    refine ⟨(out_mem g e node).2 ⟨e0, e1, hnode⟩, ?_⟩
    simp only [onB, Bool.and_eq_true, decide_eq_true_eq]
    exact ⟨hu, h1, by omega⟩
theorem rostep_c (g : Graph) (w : Want) (down : List Bool) (h0 : optErr g w down = 0) (node n e : Int) (he : -9223372036854775808 ≤ e ∧ e ≤ 9223372036854775807) (H : AHeap) :
    APure Try.prog 64 [.box (optCells g w down) 0, .agg [iv node, iv n], iv e] H (stepAV (stepW g w down (node, n) e)) := by
  intro Q h
  refine ACalls.of_code fn_waymarkref15_Opt_Step ?_
  have wf := wfit_of (optErr_right h0)
  have hf := wf.fit
  have f1 := hf.n1
  have f2 := hf.n2
  have f3 := hf.few
  have f4 := wf.few
  have pl := pts_length w
  have hno : ¬ stepOk g w down node n e → Q (.tup [.agg [iv 0, iv 0], bv false]) H := fun hn => by rw [stepW, if_neg hn] at h; exact h
  have hyes : stepOk g w down node n e → Q (.tup [.agg [iv (ends g e).2.1, iv (come (pts w) (ends g e).2.1 n)], bv true]) H := fun hn => by rw [stepW, if_pos hn] at h; exact h
  clear h
  rw [optCells]
  have ec := ends_ref_c g e he
  simp only [Graph.av, triIIB] at ec
  simp -implicitDefEqProofs only [sc_waymarkref15_Opt_Step, sl, go_sem, seval]
  refine exC_pure (ec _) ?_
  cases hok : (ends g e).2.2 with
  | false =>
    repeat' (first | simp -implicitDefEqProofs only [go_sem, seval] | simp -implicitDefEqProofs (disch := omega) only [ars, if_pos, exV_some, Option.map_some] | ((with_reducible first | apply exB_dec | apply exB_intro) <;> intro _))
    all_goals first | (exact hno fun hs => by have h5 := hs.2.2.2.2.1; rw [hok] at h5; cases h5) | (exfalso; omega)
  | true =>
    obtain ⟨e0, e1⟩ := ends_ok hok
    have hb := hf.b e e0 e1
    by_cases hnd : (ends g e).1 = node
    case neg =>
      repeat' (first | simp -implicitDefEqProofs only [go_sem, seval] | simp -implicitDefEqProofs (disch := omega) only [ars, if_pos, exV_some, Option.map_some] | ((with_reducible first | apply exB_dec | apply exB_intro) <;> intro _))
      all_goals first | (exact hno fun hs => hnd hs.2.2.2.2.2.1) | (exfalso; omega)
    by_cases hn : 0 ≤ n ∧ n < w.via.length + 1
    case neg =>
      repeat' (first | simp -implicitDefEqProofs only [go_sem, seval] | simp -implicitDefEqProofs (disch := omega) only [ars, if_pos, exV_some, Option.map_some] | ((with_reducible first | apply exB_dec | apply exB_intro) <;> intro _))
      all_goals first | (exact hno fun hs => hn hs.2.1) | (exfalso; omega)
    have hd := (distL_spec hf (pruned g w down) (wf.point (i := n + 1) (by omega) (by omega))).1
    have hfi : I64s (farOf g w down (n + 1)) := by
      have := fromL_i64 g (pruned g w down) (gi (pts w) (n + 1))
      rwa [fromL, if_pos ⟨hf.ok, wf.point (by omega) (by omega)⟩] at this
    have nc := next_ref_c g false (pruned g w down) false (farOf g w down (n + 1)) hfi (ends g e).1 H
    have hpl : (pruned g w down).length = g.links.length := by simp [pruned]
    have cm := rcome_c false (pts w) (by omega) (ends g e).2.1 n hn.1 (by omega) H
    have hmem := step_mem h0 hn hok hnd
    have hnl := nextL_length g (pruned g w down) (farOf g w down (n + 1)) node
    simp only [blv, hpl, Graph.av, ints] at nc
    simp only [sl] at cm
    rw [hnd] at nc
    rw [hnd]
    repeat' (first | simp -implicitDefEqProofs only [go_sem, seval] | simp -implicitDefEqProofs (disch := omega) only [rd_fars, ars, if_pos, exV_some, Option.map_some] | ((with_reducible first | apply exB_dec | apply exB_intro) <;> intro _) | with_reducible refine exC_pure (nc) ?_ | with_reducible refine exCq_pure (nc) ?_)
    all_goals first | (exfalso; omega) | skip
    generalize nextL g (pruned g w down) (farOf g w down (n + 1)) node = l at hmem hnl nc ⊢
    refine exL_mod (fun k : Int => [(12, .v (iv k))]) (fun _ => []) (fun k => 0 ≤ k ∧ k ≤ l.length ∧ (e ∈ l ↔ e ∈ l.drop k.toNat)) (fun k => (l.length - k).toNat) 0 rfl ⟨by omega, by omega, by simp⟩ ?_
    rintro k ⟨k0, k1, hk⟩ ih
    simp only [S.up, S.upH, ups, Abs.put, Nat.reduceEqDiff, ↓reduceIte, Nat.reduceAdd] at ih
    simp -implicitDefEqProofs only [congrArg KI.code sc_waymarkref15_Opt_Step_L0.eq_1, go_sem, seval]
    by_cases hkl : k < l.length
    · by_cases hke : gi l k = e
      · have hin : e ∈ l := by rw [← hke]; exact gi_mem k0 hkl
        have fin := hyes (hmem.1 hin)
        clear ih
        repeat' (first | simp -implicitDefEqProofs only [go_sem, seval] | simp -implicitDefEqProofs (disch := omega) only [ars, if_pos, exV_some, Option.map_some] | ((with_reducible first | apply exB_dec | apply exB_intro) <;> intro _) | with_reducible refine exC_pure (cm) ?_ | with_reducible refine exCq_pure (cm) ?_)
        all_goals first | exact fin | (exfalso; omega)
      · have nxt := ih (k + 1) ⟨by omega, by omega, by
          rw [hk, drop_gi k0 hkl, List.mem_cons]
          exact ⟨fun h => h.resolve_left fun h => hke h.symm, .inr⟩⟩ (by omega)
        repeat' (first | simp -implicitDefEqProofs only [go_sem, seval] | simp -implicitDefEqProofs (disch := omega) only [ars, if_pos, exV_some, Option.map_some] | ((with_reducible first | apply exB_dec | apply exB_intro) <;> intro _))
        all_goals first | exact nxt | (exfalso; omega)
    · rw [drop_end (by omega)] at hk
      have fin := hno fun hs => by have := hk.1 (hmem.2 hs); simp at this
      clear ih
      repeat' (first | simp -implicitDefEqProofs only [go_sem, seval] | simp -implicitDefEqProofs (disch := omega) only [ars, if_pos, exV_some, Option.map_some] | ((with_reducible first | apply exB_dec | apply exB_intro) <;> intro _))
      all_goals first | exact fin | (exfalso; omega)
noncomputable def runW (g : Graph) (w : Want) (down : List Bool) : Int × Int → List Int → Option (Int × Int)
  | a, [] => some a
  | a, e :: r => match stepW g w down a e with
    | some b => runW g w down b r
    | none => none
def startW (w : Want) : Int × Int := (w.src, come (pts w) w.src 0)
def goalW (w : Want) : Int × Int := (w.dst, w.via.length + 1)
def HasW (g : Graph) (w : Want) (down : List Bool) (es : List Int) : Prop := optErr g w down = 0 ∧ runW g w down (startW w) es = some (goalW w)
noncomputable instance (g : Graph) (w : Want) (down : List Bool) (es : List Int) : Decidable (HasW g w down es) := Classical.propDecidable _
theorem rhas_c (g : Graph) (w : Want) (nl : Bool) (down : List Bool) (hw : w.ok) (nle : Bool) (es : List Int) (hes : I64s es) (hel : es.length ≤ 140737488351232) (H : AHeap) :
    APure Try.prog 37 [g.av, w.av, blv nl down, sl nle es] H (bv (decide (HasW g w down es))) := by
  intro Q h
  have nc := fun H => newOpt_c g w nl down hw H
  have sc := fun H => rstart_c w hw H
  have gc := fun H => rgoal_c w hw H
  simp only [Graph.av, Want.av, blv, sl] at nc sc gc
  refine ACalls.of_code fn_waymarkref15_Has ?_
  simp -implicitDefEqProofs only [sc_waymarkref15_Has, Graph.av, Want.av, blv, sl, go_sem, seval]
  refine exC_pure (nc _) ?_
  by_cases h0 : optErr g w down = 0
  case neg =>
    rw [decide_eq_false fun hs => h0 hs.1] at h
    rw [decide_eq_false h0]
    generalize optAV g w down = x at *
    repeat' (first | simp -implicitDefEqProofs only [go_sem, seval] | simp -implicitDefEqProofs (disch := omega) only [ars, if_pos, exV_some, Option.map_some] | ((with_reducible first | apply exB_dec | apply exB_intro) <;> intro _) | with_reducible refine exC_pure (sc _) ?_ | with_reducible refine exCq_pure (sc _) ?_)
    refine exL_mod (fun _ : Unit => []) (fun _ => []) (fun _ => True) (fun _ => 0) () rfl trivial ?_
    rintro - - -
    simp only [S.up, S.upH, ups, Abs.put, Nat.reduceEqDiff, ↓reduceIte, Nat.reduceAdd]
    simp -implicitDefEqProofs only [congrArg KI.code sc_waymarkref15_Has_L0.eq_1, go_sem, seval]
    repeat' (first | simp -implicitDefEqProofs only [go_sem, seval] | simp -implicitDefEqProofs (disch := omega) only [ars, if_pos, exV_some, Option.map_some] | ((with_reducible first | apply exB_dec | apply exB_intro) <;> intro _))
    all_goals exact h
  rw [optAV, if_pos h0, decide_eq_true h0]
  have wc := fun (a : Int × Int) (e : Int) (he : -9223372036854775808 ≤ e ∧ e ≤ 9223372036854775807) H => rostep_c g w down h0 a.1 a.2 e he H
  generalize optCells g w down = x at *
  repeat' (first | simp -implicitDefEqProofs only [go_sem, seval] | simp -implicitDefEqProofs (disch := omega) only [ars, if_pos, exV_some, Option.map_some] | ((with_reducible first | apply exB_dec | apply exB_intro) <;> intro _) | with_reducible refine exC_pure (sc _) ?_ | with_reducible refine exCq_pure (sc _) ?_)
  refine exL_mod (fun a : Int × Bool × (Int × Int) => [(10, .v (bv a.2.1)), (12, .v (iv a.1))]) (fun a => [(11, .cells [iv a.2.2.1, iv a.2.2.2] 82)]) (fun a => 0 ≤ a.1 ∧ a.1 ≤ es.length ∧ runW g w down (startW w) es = if a.2.1 = true then runW g w down a.2.2 (es.drop a.1.toNat) else none) (fun a => (es.length - a.1).toNat) (0, true, startW w) rfl ⟨by simp, by simp, by simp⟩ ?_
  rintro ⟨i, ok, a⟩ ⟨i0, i1, hr⟩ ih
  dsimp only at i0 i1 hr ih
  simp only [S.up, S.upH, ups, Abs.put, Nat.reduceEqDiff, ↓reduceIte, Nat.reduceAdd] at ih
  simp -implicitDefEqProofs only [congrArg KI.code sc_waymarkref15_Has_L0.eq_1, go_sem, seval]
  cases ok with
  | false =>
    simp only [Bool.false_eq_true, if_false] at hr
    rw [decide_eq_false fun hh => by rw [hh.2] at hr; cases hr] at h
    clear ih
    repeat' (first | simp -implicitDefEqProofs only [go_sem, seval] | simp -implicitDefEqProofs (disch := omega) only [ars, if_pos, exV_some, Option.map_some] | ((with_reducible first | apply exB_dec | apply exB_intro) <;> intro _))
    all_goals first | exact h | (exfalso; omega)
  | true =>
  simp only [if_true] at hr
  by_cases hi : i < es.length
  · rw [drop_gi i0 hi, runW] at hr
    have wci := wc a (gi es i) (hes.gi i0 hi) H
    cases hs : stepW g w down a (gi es i) with
    | none =>
      rw [hs] at hr wci
      have nxt := ih (i + 1, false, (0, 0)) ⟨by dsimp only; omega, by dsimp only; omega, by simpa using hr⟩ (by dsimp only; omega)
      simp only [stepAV] at wci
      repeat' (first | simp -implicitDefEqProofs only [go_sem, seval] | simp -implicitDefEqProofs (disch := omega) only [ars, if_pos, exV_some, Option.map_some] | ((with_reducible first | apply exB_dec | apply exB_intro) <;> intro _) | with_reducible refine exC_pure (wci) ?_ | with_reducible refine exCq_pure (wci) ?_)
      all_goals first | exact nxt | (exfalso; omega)
    | some b =>
      rw [hs] at hr wci
      have nxt := ih (i + 1, true, b) ⟨by dsimp only; omega, by dsimp only; omega, by simpa using hr⟩ (by dsimp only; omega)
      simp only [stepAV, stateAV] at wci
      repeat' (first | simp -implicitDefEqProofs only [go_sem, seval] | simp -implicitDefEqProofs (disch := omega) only [ars, if_pos, exV_some, Option.map_some] | ((with_reducible first | apply exB_dec | apply exB_intro) <;> intro _) | with_reducible refine exC_pure (wci) ?_ | with_reducible refine exCq_pure (wci) ?_)
      all_goals first | exact nxt | (exfalso; omega)
  · rw [drop_end (by omega), runW] at hr
    have hd : decide (HasW g w down es) = decide (a.1 = w.dst ∧ a.2 = (w.via.length : Int) + 1) := by
      rw [decide_eq_decide, HasW, hr]
      simp only [h0, true_and, Option.some.injEq, goalW, Prod.ext_iff]
    rw [hd] at h
    clear ih
    repeat' (first | simp -implicitDefEqProofs only [go_sem, seval] | simp -implicitDefEqProofs (disch := omega) only [ars, if_pos, exV_some, Option.map_some] | ((with_reducible first | apply exB_dec | apply exB_intro) <;> intro _) | with_reducible refine exC_pure (gc _) ?_ | with_reducible refine exCq_pure (gc _) ?_)
    all_goals first | (exfalso; omega) | skip
    rw [← Bool.decide_and]
    exact h
end Go.Proofs.Ytejmcijcdhoogaa
end

section
namespace Go.Proofs.Ytejmcijcdhoogaa
open Go Abs
attribute [local irreducible] EX exL exG exC exCq exS exV exIf exGd exGq exB
set_option maxHeartbeats 2000000

def w1_ : Want := ⟨0, 1, 0, true, [], true, [], true, [], true, []⟩
theorem far2 : farOf g2_ w1_ [] 1 = [7, 0] := by
  have hf : Fit g2_ := fit_of _ (by decide)
  have := distL_congr hf (d1 := pruned g2_ w1_ []) (d2 := []) (s := 1) (by decide) (fun e e0 e1 => by
    have e1' : e < 2 := e1
    have : e / 2 = 0 := by omega
    unfold upE
    rw [this]
    rfl)
  rw [← dist2.2, ← this]
  rfl
end Go.Proofs.Ytejmcijcdhoogaa
end

section
namespace Go.Proofs.Ytejmcijcdhoogaa
open Go Abs
attribute [local irreducible] EX exL exG exC exCq exS exV exIf exGd exGq exB
set_option maxHeartbeats 1000000

noncomputable def totalW (g : Graph) (w : Want) (down : List Bool) : Int := legs g w down (w.via.length + 1)
noncomputable def remW (g : Graph) (w : Want) (down : List Bool) (node n : Int) : Int := if n ≤ w.via.length then gi (farOf g w down (n + 1)) node + (totalW g w down - legs g w down (n + 1).toNat) else 0

theorem legs_step (g : Graph) (w : Want) (down : List Bool) {n : Int} (n0 : 0 ≤ n) : legs g w down (n + 1).toNat = legs g w down n.toNat + leg g w down n := by
  rw [show (n + 1).toNat = n.toNat + 1 by omega, legs, Int.toNat_of_nonneg n0]
theorem legs_all (g : Graph) (w : Want) (down : List Bool) : totalW g w down = legs g w down ((w.via.length : Int) + 1).toNat := by
  rw [totalW, show ((w.via.length : Int) + 1).toNat = w.via.length + 1 by omega]
theorem far_zero {g : Graph} {w : Want} (hw : WFit g w) (down : List Bool) {n : Int} (n0 : 0 ≤ n) (n1 : n ≤ w.via.length + 1) : gi (farOf g w down n) (gi (pts w) n) = 0 :=
  ((distL_spec hw.fit (pruned g w down) (hw.point n0 n1)).1).zero hw.fit (hw.point n0 n1)
theorem rem_come {g : Graph} {w : Want} (hw : WFit g w) (down : List Bool) {node n : Int} (n0 : 0 ≤ n) (n1 : n ≤ w.via.length + 1) : remW g w down node (come (pts w) node n) = remW g w down node n := by
  obtain ⟨k, hk⟩ : ∃ k : Nat, k = (w.via.length + 1 - n).toNat := ⟨_, rfl⟩
  induction k generalizing n with
  | zero => rw [come_stop n0 (by rw [pts_length]; omega)]
  | succ k ih =>
    by_cases h : n + 1 < (pts w).length ∧ gi (pts w) (n + 1) = node
    · have h1 := h.1
      rw [pts_length] at h1
      rw [come_go n0 h.1 h.2, ih (by omega) (by omega) (by omega)]
      unfold remW
      rw [if_pos (show n ≤ w.via.length by omega)]
      have hz := far_zero hw down (n := n + 1) (by omega) (by omega)
      rw [h.2] at hz
      rw [hz]
      by_cases h3 : n + 1 ≤ w.via.length
      · rw [if_pos h3, legs_step g w down (n := n + 1) (by omega), leg, h.2, ← farOf]
        omega
      · rw [if_neg h3, legs_all, show n + 1 = (w.via.length : Int) + 1 by omega]
        omega
    · rw [come_stop n0 h]

structure WInv (g : Graph) (w : Want) (down : List Bool) (es : List Int) (node n sum : Int) (rest : List Int) : Prop where
  n0 : 0 ≤ n
  n1 : n ≤ w.via.length + 1
  here : 0 ≤ node ∧ node < g.nodes
  stop : ¬ (n + 1 < (pts w).length ∧ gi (pts w) (n + 1) = node)
  walk : ∃ L, Walk g (pruned g w down) (gi (pts w) n) node L
  got : ∀ j : Int, 0 ≤ j → j < n → 0 ≤ leg g w down j
  cost : noLeg g w down (w.via.length + 1) = false → totalW g w down ≤ sum + remW g w down node n
  run : optErr g w down = 0 → runW g w down (startW w) es = if totalW g w down = sum + remW g w down node n then runW g w down (node, n) rest else none
theorem come_inv {g : Graph} {w : Want} (hw : WFit g w) (down : List Bool) {node n : Int} (n0 : 0 ≤ n) (n1 : n ≤ w.via.length + 1) (hn : 0 ≤ node ∧ node < g.nodes) (hk : ∃ L, Walk g (pruned g w down) (gi (pts w) n) node L) (hg : ∀ j : Int, 0 ≤ j → j < n → 0 ≤ leg g w down j) :
    (0 ≤ come (pts w) node n ∧ come (pts w) node n ≤ w.via.length + 1) ∧ (¬ (come (pts w) node n + 1 < (pts w).length ∧ gi (pts w) (come (pts w) node n + 1) = node)) ∧
    (∃ L, Walk g (pruned g w down) (gi (pts w) (come (pts w) node n)) node L) ∧ (∀ j : Int, 0 ≤ j → j < come (pts w) node n → 0 ≤ leg g w down j) := by
  have hl := pts_length w
  have hb := come_le (l := pts w) (node := node) n0 (by omega)
  refine ⟨by omega, come_end n0 (by omega), ?_, fun j j0 j1 => ?_⟩
  · by_cases e : come (pts w) node n = n
    · rw [e]; exact hk
    · rw [come_at n0 (by omega) (show n < come (pts w) node n by omega) (Int.le_refl _)]
      exact ⟨0, .nil⟩
  · by_cases e : j < n
    · exact hg j j0 e
    · have hp := come_at (l := pts w) (node := node) n0 (by omega) (show n < j + 1 by omega) (by omega)
      have hd := (distL_spec hw.fit (pruned g w down) hn).1
      rw [leg, hp]
      by_cases e1 : j = n
      · obtain ⟨L, hk⟩ := hk
        rw [e1]
        exact (hd.least _ _ (walk_back hk)).1
      · rw [come_at (l := pts w) (node := node) n0 (by omega) (show n < j by omega) (by omega), hd.zero hw.fit hn]
        omega
theorem noLeg_get {g : Graph} {w : Want} {down : List Bool} {m : Nat} (h : noLeg g w down m = false) {j : Int} (j0 : 0 ≤ j) (j1 : j < m) : 0 ≤ leg g w down j := by
  rw [noLeg, List.any_eq_false] at h
  have := h j.toNat (by rw [List.mem_range]; omega)
  simp only [decide_eq_true_eq, Int.toNat_of_nonneg j0] at this
  omega
theorem noLeg_none {g : Graph} {w : Want} {down : List Bool} {m : Nat} (h : ∀ j : Int, 0 ≤ j → j < m → 0 ≤ leg g w down j) : noLeg g w down m = false := by
  rw [noLeg, List.any_eq_false]
  intro j hj
  rw [List.mem_range] at hj
  have := h j (by omega) (by omega)
  simp only [decide_eq_true_eq]
  omega
theorem optErr_noLeg {g : Graph} {w : Want} {down : List Bool} (h : optErr g w down = 0) : noLeg g w down (w.via.length + 1) = false := by
  unfold optErr at h
  split at h
  · exact absurd h ‹_›
  · cases hn : noLeg g w down (w.via.length + 1) with
    | false => rfl
    | true => rw [hn] at h; simp at h
theorem WInv.start {g : Graph} {w : Want} (hw : WFit g w) (down : List Bool) (es : List Int) : WInv g w down es w.src (come (pts w) w.src 0) 0 es := by
  obtain ⟨a, b, c, d⟩ := come_inv hw down (node := w.src) (Int.le_refl 0) (by omega) hw.src ⟨0, by rw [pts_zero]; exact .nil⟩ (fun j j0 j1 => by omega)
  have hr : totalW g w down = 0 + remW g w down w.src (come (pts w) w.src 0) := by
    rw [rem_come hw down (Int.le_refl 0) (by omega), remW, if_pos (by omega), legs_step g w down (Int.le_refl 0), leg, pts_zero, ← farOf]
    show _ = 0 + (_ + (_ - (0 + _)))
    omega
  exact ⟨a.1, a.2, hw.src, b, c, d, fun _ => by omega, fun _ => by rw [if_pos hr]; rfl⟩
theorem WInv.bad {g : Graph} {w : Want} {down : List Bool} {es : List Int} {node n sum e : Int} {rest : List Int} (h : WInv g w down es node n sum (e :: rest)) (hb : ¬ ((ends g e).2.2 = true ∧ (ends g e).1 = node ∧ upE (pruned g w down) e = true)) : ¬ HasW g w down es := by
  rintro ⟨h0, h1⟩
  rw [h.run h0] at h1
  have hs : stepW g w down (node, n) e = none := by
    rw [stepW, if_neg]
    exact fun hs => hb ⟨hs.2.2.2.2.1, hs.2.2.2.2.2.1, hs.2.2.2.2.2.2.1⟩
  rw [runW, hs] at h1
  split at h1 <;> cases h1
theorem WInv.done {g : Graph} {w : Want} {down : List Bool} {es : List Int} {sum : Int} (h : WInv g w down es w.dst (w.via.length + 1) sum []) :
    noLeg g w down (w.via.length + 1) = false ∧ totalW g w down ≤ sum ∧ (optErr g w down = 0 → (HasW g w down es ↔ sum = totalW g w down)) := by
  have hn : noLeg g w down (w.via.length + 1) = false := noLeg_none fun j j0 j1 => h.got j j0 (by omega)
  have hr : remW g w down w.dst (w.via.length + 1) = 0 := by rw [remW, if_neg (by omega)]
  have hc := h.cost hn
  have hrun := h.run
  rw [hr] at hc hrun
  refine ⟨hn, by omega, fun h0 => ?_⟩
  have h1 := hrun h0
  rw [HasW, h1]
  constructor
  · rintro ⟨_, h2⟩
    split at h2
    · omega
    · cases h2
  · intro h2
    rw [if_pos (by omega)]
    exact ⟨h0, rfl⟩
end Go.Proofs.Ytejmcijcdhoogaa
end

section
namespace Go.Proofs.Ytejmcijcdhoogaa
open Go Abs
attribute [local irreducible] EX exL exG exC exCq exS exV exIf exGd exGq exB
set_option maxHeartbeats 1000000

def cntL (d : List Int) (x : Int) : Nat := d.countP fun y => decide (0 ≤ y ∧ y < x)
theorem cntL_lt : ∀ (d : List Int) {x y : Int}, 0 ≤ y → y < x → y ∈ d → cntL d y < cntL d x
  | [], x, y, _, _, h => by cases h
  | z :: d, x, y, h0, h1, h => by
    have hle : cntL d y ≤ cntL d x := List.countP_mono_left fun u _ hu => by simp only [decide_eq_true_eq] at hu ⊢; omega
    unfold cntL at hle ⊢
    rw [List.countP_cons, List.countP_cons]
    rcases List.mem_cons.1 h with e | h
    · subst e
      rw [if_neg (by simp), if_pos (by simp; omega)]
      omega
    · have ih := cntL_lt d h0 h1 h
      unfold cntL at ih
      split <;> split
      · omega
      · rename_i a b; simp only [decide_eq_true_eq] at a b; omega
      · omega
      · omega
theorem cntL_le (d : List Int) (x : Int) (h : x ∈ d) : cntL d x + 1 ≤ d.length := by
  unfold cntL
  induction d with
  | nil => cases h
  | cons z d ih =>
    rw [List.countP_cons, List.length_cons]
    rcases List.mem_cons.1 h with e | h
    · subst e
      rw [if_neg (by simp)]
      have := List.countP_le_length (p := fun y => decide (0 ≤ y ∧ y < x)) (l := d)
      omega
    · have := ih h
      split <;> omega
structure BInvW (g : Graph) (w : Want) (down : List Bool) (es : List Int) (node n sum : Int) : Prop where
  n0 : 0 ≤ n
  n1 : n ≤ w.via.length + 1
  here : 0 ≤ node ∧ node < g.nodes
  stop : ¬ (n + 1 < (pts w).length ∧ gi (pts w) (n + 1) = node)
  at_end : n = w.via.length + 1 → node = w.dst
  near : n ≤ w.via.length → 0 ≤ gi (farOf g w down (n + 1)) node
  sum : sum + remW g w down node n = totalW g w down
  run : runW g w down (startW w) es = some (node, n)
theorem runW_append (g : Graph) (w : Want) (down : List Bool) : ∀ (es : List Int) (a b : Int × Int) (k : Int), runW g w down a es = some b → runW g w down a (es ++ [k]) = stepW g w down b k
  | [], a, b, k, h => by
    simp only [runW, Option.some.injEq] at h
    subst h
    simp only [List.nil_append, runW]
    cases stepW g w down a k <;> rfl
  | e :: es, a, b, k, h => by
    rw [runW] at h
    rw [List.cons_append, runW]
    cases hs : stepW g w down a e with
    | none => rw [hs] at h; cases h
    | some c =>
      rw [hs] at h
      exact runW_append g w down es c b k h
theorem come_best {g : Graph} {w : Want} (hw : WFit g w) {down : List Bool} (hn : noLeg g w down (w.via.length + 1) = false) {node n : Int} (n0 : 0 ≤ n) (n1 : n ≤ w.via.length) (hnode : 0 ≤ node ∧ node < g.nodes) (hnear : 0 ≤ gi (farOf g w down (n + 1)) node) :
    (come (pts w) node n = w.via.length + 1 → node = w.dst) ∧ (come (pts w) node n ≤ w.via.length → 0 ≤ gi (farOf g w down (come (pts w) node n + 1)) node) := by
  have hl := pts_length w
  have hb := come_le (l := pts w) (node := node) n0 (by omega)
  constructor
  · intro h
    rw [← pts_last w, ← h]
    exact (come_at n0 (by omega) (by omega) (Int.le_refl _)).symm
  · intro h
    by_cases e : come (pts w) node n = n
    · rw [e]; exact hnear
    · have hp := come_at (l := pts w) (node := node) n0 (by omega) (show n < come (pts w) node n by omega) (Int.le_refl _)
      have := noLeg_get hn (j := come (pts w) node n) (by omega) (by omega)
      rw [leg, hp] at this
      exact this
theorem far_length {g : Graph} {w : Want} (hw : WFit g w) (down : List Bool) {n : Int} (n0 : 0 ≤ n) (n1 : n ≤ w.via.length + 1) : ((farOf g w down n).length : Int) = g.nodes :=
  ((distL_spec hw.fit (pruned g w down) (hw.point n0 n1)).1).len
theorem BInvW.start {g : Graph} {w : Want} {down : List Bool} (hw : WFit g w) (h0 : optErr g w down = 0) : BInvW g w down [] w.src (come (pts w) w.src 0) 0 := by
  have hn := optErr_noLeg h0
  have hi := WInv.start hw down []
  have hl0 := noLeg_get hn (j := 0) (Int.le_refl 0) (by omega)
  obtain ⟨b1, b2⟩ := come_best hw hn (node := w.src) (n := 0) (Int.le_refl 0) (by omega) hw.src (by rw [leg, pts_zero] at hl0; exact hl0)
  refine ⟨hi.n0, hi.n1, hi.here, hi.stop, b1, b2, ?_, rfl⟩
  rw [rem_come hw down (Int.le_refl 0) (by omega), remW, if_pos (by omega), legs_step g w down (Int.le_refl 0), leg, pts_zero, ← farOf]
  show 0 + (_ + (_ - (0 + _))) = _
  omega
theorem BInvW.on {g : Graph} {w : Want} {down : List Bool} (hw : WFit g w) (h0 : optErr g w down = 0) {es : List Int} {node n sum : Int} (h : BInvW g w down es node n sum) (hg : (node, n) ≠ goalW w) :
    ∃ e : Int, 0 ≤ e ∧ e < 2 * g.links.length ∧ stepOk g w down node n e := by
  have hn : n ≤ w.via.length := by
    by_cases e : n = w.via.length + 1
    · exact absurd (by rw [goalW, h.at_end e, e]) hg
    · have := h.n1; omega
  have n0 := h.n0
  have hp := hw.point (i := n + 1) (by omega) (by omega)
  have hd := (distL_spec hw.fit (pruned g w down) hp).1
  have hne : gi (pts w) (n + 1) ≠ node := fun e => h.stop ⟨by rw [pts_length]; omega, e⟩
  rcases hd.made hw.fit hp h.here.1 h.here.2 (h.near hn) with e | ⟨e, e0, e1, hu, ha, hb, hc⟩
  · exact absurd e.symm hne
  · obtain ⟨e', f0, f1, f2, f3, f4⟩ := edge_back e0 e1
    refine ⟨e', f0, f1, h0, ⟨n0, by omega⟩, h.here, hne, ?_, by rw [f3, hb], ?_, by rw [f4]; exact ha, ?_⟩
    · unfold ends
      rw [if_neg (by omega)]
      split <;> rfl
    · unfold upE at hu ⊢
      rw [f2]; exact hu
    · have hwt : wt g e' = wt g e := by unfold wt; rw [f2]
      rw [f4, hwt]
      exact hc.symm
theorem BInvW.fin {g : Graph} {w : Want} {down : List Bool} (h0 : optErr g w down = 0) {es : List Int} {sum : Int} (h : BInvW g w down es w.dst (w.via.length + 1) sum) : sum = optCost g w down ∧ HasW g w down es := by
  have hs := h.sum
  rw [remW, if_neg (by omega)] at hs
  refine ⟨by rw [optCost, if_pos h0]; exact (by omega : sum = totalW g w down), h0, ?_⟩
  rw [h.run]; rfl
end Go.Proofs.Ytejmcijcdhoogaa
end

section
namespace Go.Proofs.Ytejmcijcdhoogaa
open Go Abs
attribute [local irreducible] EX exL exG exC exCq exS exV exIf exGd exGq exB
set_option maxHeartbeats 1000000

abbrev St := Int × Int
def joinO : List (Option St) → Option St
  | [] => none
  | x :: r => if r.all (fun y => decide (y = x)) = true then x else none
theorem joinO_some {l : List (Option St)} {e : St} : joinO l = some e ↔ l ≠ [] ∧ ∀ x ∈ l, x = some e := by
  cases l with
  | nil => simp [joinO]
  | cons x r =>
    rw [show joinO (x :: r) = if r.all (fun y => decide (y = x)) = true then x else none from rfl]
    constructor
    · intro h
      split at h
      · rename_i hr
        refine ⟨by simp, fun y hy => ?_⟩
        rcases List.mem_cons.1 hy with rfl | hy
        · exact h
        · have := List.all_eq_true.1 hr y hy
          rw [decide_eq_true_eq] at this
          rw [this, h]
      · cases h
    · rintro ⟨-, h⟩
      have hx := h x (by simp)
      rw [if_pos, hx]
      rw [List.all_eq_true]
      intro y hy
      rw [decide_eq_true_eq, h y (by simp [hy]), hx]
section
variable (g : Graph) (w : Want) (down : List Bool) (to : Int)
noncomputable def esF : Nat → St → Option St
  | 0, _ => none
  | f + 1, a => if a.1 = to then some a else joinO ((nxtOf g a.1 to).map fun e => (stepW g w down a e).bind (esF f))
noncomputable def endN (a : St) : Option St := esF g w down to ((distOf g a.1 to).toNat + 1) a
inductive Rch (a : St) : St → Prop
  | refl : Rch a a
  | step {b c : St} {e : Int} : Rch a b → b.1 ≠ to → e ∈ nxtOf g b.1 to → stepW g w down b e = some c → Rch a c
end
theorem stepW_some {g : Graph} {w : Want} {down : List Bool} {a b : St} {e : Int} (h : stepW g w down a e = some b) : stepOk g w down a.1 a.2 e ∧ b = ((ends g e).2.1, come (pts w) (ends g e).2.1 a.2) := by
  unfold stepW at h
  split at h
  · rename_i hs
    simp only [Option.some.injEq] at h
    exact ⟨hs, h.symm⟩
  · cases h
section
variable {g : Graph} {w : Want} {down : List Bool} {to : Int}
theorem nxt_dist (hf : Fit g) {a : Int} {e : Int} (h : e ∈ nxtOf g a to) : (distOf g (ends g e).2.1 to).toNat < (distOf g a to).toNat := by
  obtain ⟨e0, e1, -, -, h5, h6⟩ := nxt_mem hf h
  have := hf.w e e0 e1
  omega
theorem step_dist (hf : Fit g) {a b : St} {e : Int} (h : e ∈ nxtOf g a.1 to) (hs : stepW g w down a e = some b) : (distOf g b.1 to).toNat < (distOf g a.1 to).toNat := by
  rw [(stepW_some hs).2]
  exact nxt_dist hf h
theorem esF_same (hf : Fit g) : ∀ (f f' : Nat) (a : St), (distOf g a.1 to).toNat < f → (distOf g a.1 to).toNat < f' → esF g w down to f a = esF g w down to f' a
  | 0, _, _, h, _ => by omega
  | _ + 1, 0, _, _, h => by omega
  | f + 1, f' + 1, a, h, h' => by
    unfold esF
    split
    · rfl
    · congr 1
      refine List.map_congr_left fun e he => ?_
      cases hs : stepW g w down a e with
      | none => rfl
      | some b =>
        have := step_dist hf he hs
        exact esF_same hf f f' b (by omega) (by omega)
theorem endN_eq (hf : Fit g) (a : St) : endN g w down to a = if a.1 = to then some a else joinO ((nxtOf g a.1 to).map fun e => (stepW g w down a e).bind (endN g w down to)) := by
  rw [endN, esF]
  split
  · rfl
  · congr 1
    refine List.map_congr_left fun e he => ?_
    cases hs : stepW g w down a e with
    | none => rfl
    | some b =>
      have := step_dist hf he hs
      exact esF_same hf _ _ b (by omega) (by omega)
theorem endN_next (hf : Fit g) {a : St} (ha : a.1 ≠ to) {r : St} (h : endN g w down to a = some r) : nxtOf g a.1 to ≠ [] ∧ ∀ e ∈ nxtOf g a.1 to, ∃ b, stepW g w down a e = some b ∧ endN g w down to b = some r := by
  rw [endN_eq hf, if_neg ha, joinO_some] at h
  refine ⟨fun hn => h.1 (by rw [hn]; rfl), fun e he => ?_⟩
  have := h.2 _ (List.mem_map.2 ⟨e, he, rfl⟩)
  cases hs : stepW g w down a e with
  | none => rw [hs] at this; cases this
  | some b => rw [hs] at this; exact ⟨b, rfl, this⟩
theorem endN_rch (hf : Fit g) {a : St} {r : St} (h : endN g w down to a = some r) {b : St} (hb : Rch g w down to a b) : endN g w down to b = some r := by
  induction hb with
  | refl => exact h
  | step _ hne he hs ih =>
    obtain ⟨c, h1, h2⟩ := (endN_next hf hne ih).2 _ he
    rw [hs] at h1
    injection h1 with h1
    rw [h1]
    exact h2
theorem endN_self (hf : Fit g) {a : St} (h : a.1 = to) : endN g w down to a = some a := by rw [endN_eq hf, if_pos h]
theorem endN_one (hf : Fit g) {a : St} {r : St} (h : endN g w down to a = some r) {b : St} (hb : Rch g w down to a b) (hb1 : b.1 = to) : b = r := by
  have := endN_rch hf h hb
  rw [endN_self hf hb1] at this
  injection this
theorem endN_of (hf : Fit g) {a : St} {r : St} (hstep : ∀ b, Rch g w down to a b → b.1 ≠ to → nxtOf g b.1 to ≠ [] ∧ ∀ e ∈ nxtOf g b.1 to, ∃ c, stepW g w down b e = some c) (hone : ∀ b, Rch g w down to a b → b.1 = to → b = r) : endN g w down to a = some r := by
  have : ∀ n b, (distOf g b.1 to).toNat = n → Rch g w down to a b → endN g w down to b = some r := by
    intro n
    induction n using Nat.strongRecOn with
    | _ n ih =>
      intro b hn hb
      by_cases h1 : b.1 = to
      · rw [endN_self hf h1, hone b hb h1]
      · obtain ⟨h2, h3⟩ := hstep b hb h1
        rw [endN_eq hf, if_neg h1, joinO_some]
        refine ⟨by simpa using h2, fun x hx => ?_⟩
        obtain ⟨e, he, rfl⟩ := List.mem_map.1 hx
        obtain ⟨c, hc⟩ := h3 e he
        rw [hc]
        have := step_dist hf he hc
        exact ih _ (by omega) c rfl (.step hb h1 he hc)
  exact this _ a rfl .refl
theorem endN_at (hf : Fit g) : ∀ {a : St} {r : St}, endN g w down to a = some r → r.1 = to := by
  have : ∀ n a r, (distOf g a.1 to).toNat = n → endN g w down to a = some r → r.1 = to := by
    intro n
    induction n using Nat.strongRecOn with
    | _ n ih =>
      intro a r hn h
      by_cases h1 : a.1 = to
      · rw [endN_self hf h1] at h
        injection h with h
        rw [← h]; exact h1
      · obtain ⟨h2, h3⟩ := endN_next hf h1 h
        cases hl : nxtOf g a.1 to with
        | nil => exact absurd hl h2
        | cons e l =>
          have he : e ∈ nxtOf g a.1 to := by rw [hl]; simp
          obtain ⟨b, hb, hr⟩ := h3 e he
          have := step_dist hf he hb
          exact ih _ (by omega) b r rfl hr
  exact fun {a r} h => this _ a r rfl h
end
end Go.Proofs.Ytejmcijcdhoogaa
end

section
namespace Go.Proofs.Ytejmcijcdhoogaa
open Go Abs
attribute [local irreducible] EX exL exG exC exCq exS exV exIf exGd exGq exB
set_option maxHeartbeats 4000000

noncomputable def mapAV (g : Graph) (w : Want) (down : List Bool) : AV := .box [tab g, iv g.nodes, .vec g.nl (rows g.links) g.links.length, waysAV g w down] 0
structure R6 where
  f : Int → Bool
instance : Inhabited R6 := ⟨⟨fun _ => false⟩⟩
instance : Enc R6 where
  sz := 6
  cells r := [bv (r.f 0), bv (r.f 1), bv (r.f 2), bv (r.f 3), bv (r.f 4), bv (r.f 5)]
  len _ := rfl
  pos := by decide
theorem R6.cells_eq (r : R6) : Enc.cells r = [bv (r.f 0), bv (r.f 1), bv (r.f 2), bv (r.f 3), bv (r.f 4), bv (r.f 5)] := rfl
theorem R6.sz_eq : Enc.sz R6 = 6 := rfl
theorem rd_r6 {l : List R6} {i : Int} (h0 : 0 ≤ i) (h1 : i < l.length) : rdV (rows l) (i.toNat * 6) 6 true = some (.agg (Enc.cells (gi l i))) := rd_row (n := 6) R6.sz_eq.symm h0 h1
theorem r6_get (r : R6) {i : Int} (h0 : 0 ≤ i) (h1 : i < 6) {n : Nat} : rdV (Enc.cells r) (i.toNat * 1) n false = some (bv (r.f i)) := by
  have : i = 0 ∨ i = 1 ∨ i = 2 ∨ i = 3 ∨ i = 4 ∨ i = 5 := by omega
  rcases this with rfl | rfl | rfl | rfl | rfl | rfl <;> rfl
def R6.mark (r : R6) (k : Int) : R6 := ⟨fun j => decide (j = k) || r.f j⟩
def markL (l : List R6) (c : St) : List R6 := l.set c.1.toNat ((gi l c.1).mark c.2)
theorem markL_length (l : List R6) (c : St) : (markL l c).length = l.length := by simp [markL]
theorem mark_cells (r : R6) {k : Int} (h0 : 0 ≤ k) (h1 : k < 6) : Enc.cells (r.mark k) = (Enc.cells r).set k.toNat (bv true) := by
  have : k = 0 ∨ k = 1 ∨ k = 2 ∨ k = 3 ∨ k = 4 ∨ k = 5 := by omega
  rcases this with rfl | rfl | rfl | rfl | rfl | rfl <;> simp [R6.cells_eq, R6.mark]
theorem rows_set1 {α : Type} [Enc α] [Inhabited α] {l : List α} {i : Nat} (hi : i < l.length) {j : Nat} (hj : j < Enc.sz α) {c : AV} {x : α} (hc : Enc.cells x = (Enc.cells (gi l (i : Int))).set j c) : (rows l).set (i * Enc.sz α + j) c = rows (l.set i x) := by
  rw [rows_set _ _ _ hi, hc]
  have hl : i * Enc.sz α + Enc.sz α ≤ (rows l).length := by
    rw [rows_length]
    have := Nat.mul_le_mul_right (Enc.sz α) (show i + 1 ≤ l.length by omega)
    rw [Nat.add_mul] at this
    omega
  have hat := rows_at l i hi
  have hg : l[i] = gi l (i : Int) := by rw [gi_get (by omega)]; rfl
  rw [hg] at hat
  have hcl : (Enc.cells (gi l (i : Int))).length = Enc.sz α := Enc.len _
  apply List.ext_getElem?
  intro k
  have hA : (List.take (i * Enc.sz α) (rows l)).length = i * Enc.sz α := by rw [List.length_take]; omega
  have hB : (List.take (i * Enc.sz α) (rows l) ++ (Enc.cells (gi l (i : Int))).set j c).length = i * Enc.sz α + Enc.sz α := by rw [List.length_append, hA, List.length_set, hcl]
  by_cases hk : k < i * Enc.sz α
  · rw [List.getElem?_append_left (by omega), List.getElem?_append_left (by omega), List.getElem?_take, if_pos hk, List.getElem?_set_ne (by omega)]
  by_cases hk2 : k < i * Enc.sz α + Enc.sz α
  · rw [List.getElem?_append_left (by omega), List.getElem?_append_right (by omega), hA]
    by_cases e : k = i * Enc.sz α + j
    · subst e
      rw [show i * Enc.sz α + j - i * Enc.sz α = j by omega, List.getElem?_set_self (by omega), List.getElem?_set_self (by omega)]
    · rw [List.getElem?_set_ne (by omega), List.getElem?_set_ne (by omega), ← hat, List.getElem?_take, if_pos (by omega), List.getElem?_drop, show i * Enc.sz α + (k - i * Enc.sz α) = k by omega]
  · rw [List.getElem?_set_ne (by omega), List.getElem?_append_right (by omega), hB, List.getElem?_drop, show i * Enc.sz α + Enc.sz α + (k - (i * Enc.sz α + Enc.sz α)) = k by omega]
theorem set_r6 {l : List R6} {a k : Int} (h0 : 0 ≤ a) (h1 : a < l.length) (k0 : 0 ≤ k) (k1 : k < 6) : (rows l).set (a.toNat * 6 + k.toNat * 1) (.raw (.bool true)) = rows (markL l (a, k)) := by
  have := rows_set1 (l := l) (i := a.toNat) (by omega) (j := k.toNat) (by rw [R6.sz_eq]; omega) (c := bv true) (x := (gi l a).mark k) (by rw [Int.toNat_of_nonneg h0]; exact mark_cells _ k0 k1)
  rw [R6.sz_eq] at this
  rw [Nat.mul_one]
  exact this
def lastB (r : R6) : Nat → Int
  | 0 => 0
  | i + 1 => if r.f (i : Int) = true then (i : Int) else lastB r i
def cntB (r : R6) : Nat → Int
  | 0 => 0
  | i + 1 => if r.f (i : Int) = true then cntB r i + 1 else cntB r i
theorem cntB_le (r : R6) : ∀ i : Nat, 0 ≤ cntB r i ∧ cntB r i ≤ i
  | 0 => by simp [cntB]
  | i + 1 => by
    have := cntB_le r i
    unfold cntB
    split <;> omega
theorem only_c (r : R6) (H : AHeap) : APure Try.prog 108 [.agg (Enc.cells r)] H (.tup [iv (lastB r 6), bv (decide (cntB r 6 = 1))]) := by
  intro Q h
  refine ACalls.of_code fn_expand_states_only ?_
  have hcl : (Enc.cells r).length = 6 := Enc.len _
  simp -implicitDefEqProofs only [sc_expand_states_only, R6.cells_eq, go_sem, seval]
  repeat' (first | simp -implicitDefEqProofs only [go_sem, seval] | simp -implicitDefEqProofs (disch := omega) only [ars, if_pos, exV_some, Option.map_some] | ((with_reducible first | apply exB_dec | apply exB_intro) <;> intro _))
  rw [← R6.cells_eq]
  refine exL_mod (fun i : Int => [(4, .v (iv (lastB r i.toNat))), (5, .v (iv (cntB r i.toNat))), (9, .v (iv i))]) (fun _ => []) (fun i => 0 ≤ i ∧ i ≤ 6) (fun i => (6 - i).toNat) 0 rfl ⟨by omega, by omega⟩ ?_
  rintro i ⟨i0, i1⟩ ih
  simp only [S.up, S.upH, ups, Abs.put, Nat.reduceEqDiff, ↓reduceIte, Nat.reduceAdd] at ih
  simp -implicitDefEqProofs only [congrArg KI.code sc_expand_states_only_L0.eq_1, go_sem, seval]
  by_cases hi : i < 6
  · have nx := ih (i + 1) ⟨by omega, by omega⟩ (by omega)
    rw [show (i + 1).toNat = i.toNat + 1 by omega, lastB, cntB, Int.toNat_of_nonneg i0] at nx
    have hc := cntB_le r i.toNat
    have hg := fun n => r6_get r i0 hi (n := n)
    clear ih
    cases hb : r.f i with
    | true =>
      rw [hb, if_pos rfl, if_pos rfl] at nx
      repeat' (first | simp -implicitDefEqProofs only [go_sem, seval] | simp -implicitDefEqProofs (disch := omega) only [hg, hb, ars, if_pos, exV_some, Option.map_some] | ((with_reducible first | apply exB_dec | apply exB_intro) <;> intro _))
      all_goals first | exact nx | (exfalso; omega) | skip
      done
    | false =>
      rw [hb, if_neg (by simp), if_neg (by simp)] at nx
      repeat' (first | simp -implicitDefEqProofs only [go_sem, seval] | simp -implicitDefEqProofs (disch := omega) only [hg, hb, ars, if_pos, exV_some, Option.map_some] | ((with_reducible first | apply exB_dec | apply exB_intro) <;> intro _))
      all_goals first | exact nx | (exfalso; omega) | skip
      done
  · obtain rfl : i = 6 := by omega
    clear ih
    repeat' (first | simp -implicitDefEqProofs only [go_sem, seval] | simp -implicitDefEqProofs (disch := omega) only [ars, if_pos, exV_some, Option.map_some] | ((with_reducible first | apply exB_dec | apply exB_intro) <;> intro _))
    all_goals first | exact h | (exfalso; omega) | skip
    done
end Go.Proofs.Ytejmcijcdhoogaa
end

section
namespace Go.Proofs.Ytejmcijcdhoogaa
open Go Abs
attribute [local irreducible] EX exL exG exC exCq exS exV exIf exGd exGq exB
set_option maxHeartbeats 4000000

noncomputable def onL (g : Graph) (w : Want) (down : List Bool) (l : List R6) (node e : Int) : Nat → Option (List R6)
  | 0 => some l
  | k + 1 => match onL g w down l node e k with
    | none => none
    | some l' => if (gi l node).f (k : Int) = true then (stepW g w down (node, (k : Int)) e).map (markL l') else some l'
theorem onL_length {g : Graph} {w : Want} {down : List Bool} {l : List R6} {node e : Int} : ∀ {k : Nat} {l' : List R6}, onL g w down l node e k = some l' → l'.length = l.length
  | 0, l', h => by simp only [onL, Option.some.injEq] at h; rw [h]
  | k + 1, l', h => by
    unfold onL at h
    split at h
    · cases h
    · rename_i l'' hl
      have ih := onL_length hl
      split at h
      · obtain ⟨c, hc, rfl⟩ := Option.map_eq_some_iff.1 h
        rw [markL_length, ih]
      · simp only [Option.some.injEq] at h
        rw [← h, ih]
theorem onL_none {g : Graph} {w : Want} {down : List Bool} {l : List R6} {node e : Int} {k : Nat} (h : onL g w down l node e k = none) : ∀ {n : Nat}, k ≤ n → onL g w down l node e n = none
  | 0, hn => by
    obtain rfl : k = 0 := by omega
    exact h
  | n + 1, hn => by
    by_cases e : k = n + 1
    · rw [← e]; exact h
    · unfold onL
      rw [onL_none h (n := n) (by omega)]
theorem stepW_range {g : Graph} {w : Want} {down : List Bool} (wf : WFit g w) {a c : St} {e : Int} (h : stepW g w down a e = some c) : (0 ≤ c.1 ∧ c.1 < g.nodes) ∧ 0 ≤ c.2 ∧ c.2 < 6 := by
  obtain ⟨hs, rfl⟩ := stepW_some h
  obtain ⟨-, hn, -, -, hok, -⟩ := hs
  obtain ⟨e0, e1⟩ := ends_ok hok
  have hb := (wf.fit.b e e0 e1).2
  have hl := pts_length w
  have hc := come_le (l := pts w) (node := (ends g e).2.1) hn.1 (by omega)
  have := wf.few
  exact ⟨hb, by dsimp only; omega, by dsimp only; omega⟩
theorem updH_same {H : AHeap} {b : Nat} {o : HObj} (h : H b = some o) : upd H b (some o) = H := by
  funext z
  simp only [upd]
  split
  · rename_i e; subst e; exact h.symm
  · rfl
theorem updH_upd {H : AHeap} {b : Nat} {x y : Option HObj} : upd (upd H b x) b y = upd H b y := by
  funext z
  simp only [upd]
  split <;> rfl
abbrev r6obj (l : List R6) (cap : Nat) : HObj := .row (rows l) cap 165 6
theorem on_c (g : Graph) (w : Want) (down : List Bool) (h0 : optErr g w down = 0) (l : List R6) (hl : (l.length : Int) = g.nodes) (b n cap : Nat) (hn : n = l.length) (cap' : Nat) (node e : Int) (hnode : 0 ≤ node ∧ node < g.nodes) (he : -9223372036854775808 ≤ e ∧ e ≤ 9223372036854775807) (H : AHeap) (hH : H b = some (r6obj l cap')) :
    ACalls Try.prog 107 [mapAV g w down, .raw (.slice (some ⟨b, 0, none⟩) n cap), iv node, iv e] H fun r H' => ∃ l', l'.length = l.length ∧ H' = upd H b (some (r6obj l' cap')) ∧ ((r = bv false ∧ onL g w down l node e 6 = none) ∨ (r = bv true ∧ onL g w down l node e 6 = some l')) := by
  subst hn
  have wf := wfit_of (optErr_right h0)
  refine ACalls.of_code fn_expand_Map_on ?_
  simp -implicitDefEqProofs only [sc_expand_Map_on, mapAV, go_sem, seval]
  repeat' (first | simp -implicitDefEqProofs only [go_sem, seval] | simp -implicitDefEqProofs (disch := omega) only [hH, rd_r6, ars, if_pos, exV_some, Option.map_some] | ((with_reducible first | apply exB_dec | apply exB_intro) <;> intro _))
  all_goals first | (exfalso; omega) | skip
  refine exL_modH (fun a : Int × List R6 => [(17, .v (iv a.1))]) (fun _ => []) (fun a => upd H b (some (r6obj a.2 cap'))) (fun a => 0 ≤ a.1 ∧ a.1 ≤ 6 ∧ onL g w down l node e a.1.toNat = some a.2) (fun a => (6 - a.1).toNat) (0, l) (by rw [updH_same hH]; rfl) ⟨by simp, by simp, rfl⟩ ?_
  rintro ⟨k, l'⟩ ⟨k0, k1, hk⟩ ih
  dsimp only at k0 k1 hk ih
  simp only [S.up, S.upH, ups, Abs.put, Nat.reduceEqDiff, ↓reduceIte, Nat.reduceAdd] at ih
  simp -implicitDefEqProofs only [congrArg KI.code sc_expand_Map_on_L0.eq_1, go_sem, seval]
  have hll := onL_length hk
  by_cases hlt : k < 6
  · have hst := wstep_c g w down node k e he
    have hg := fun n => r6_get (gi l node) k0 hlt (n := n)
    have hon : onL g w down l node e (k + 1).toNat = if (gi l node).f k = true then (stepW g w down (node, k) e).map (markL l') else some l' := by
      rw [show (k + 1).toNat = k.toNat + 1 by omega, onL, hk]
      simp only [Int.toNat_of_nonneg k0]
    cases hb : (gi l node).f k with
    | false =>
      rw [hb, if_neg (by simp)] at hon
      have nx := ih (k + 1, l') ⟨by dsimp only; omega, by dsimp only; omega, hon⟩ (by dsimp only; omega)
      clear ih
      repeat' (first | simp -implicitDefEqProofs only [go_sem, seval] | simp -implicitDefEqProofs (disch := omega) only [hg, hb, ars, if_pos, exV_some, Option.map_some] | ((with_reducible first | apply exB_dec | apply exB_intro) <;> intro _))
      all_goals first | exact nx | (exfalso; omega) | skip
      done
    | true =>
      rw [hb, if_pos rfl] at hon
      cases hs : stepW g w down (node, k) e with
      | none =>
        rw [hs] at hon hst
        have hnone := onL_none (n := 6) hon (by omega)
        clear ih
        simp only [stepAV] at hst
        repeat' (first | simp -implicitDefEqProofs only [go_sem, seval] | simp -implicitDefEqProofs (disch := omega) only [hg, hb, ars, if_pos, exV_some, Option.map_some] | ((with_reducible first | apply exB_dec | apply exB_intro) <;> intro _) | with_reducible refine exC_pure (hst _) ?_ | with_reducible refine exCq_pure (hst _) ?_)
        all_goals first | exact ⟨l', hll, rfl, .inl hnone⟩ | (exfalso; omega) | skip
        done
      | some c =>
        rw [hs] at hon hst
        obtain ⟨c1, c2, c3⟩ := stepW_range wf hs
        have hset := set_r6 (l := l') (a := c.1) (k := c.2) c1.1 (by omega) c2 c3
        have nx := ih (k + 1, markL l' c) ⟨by dsimp only; omega, by dsimp only; omega, hon⟩ (by dsimp only; omega)
        clear ih
        simp only [stepAV, stateAV] at hst
        have hlen : (rows l').length = l'.length * 6 := by rw [rows_length, R6.sz_eq]
        repeat' (first | simp -implicitDefEqProofs only [go_sem, seval] | simp -implicitDefEqProofs (disch := omega) only [hg, hb, hlen, upd_self, updH_upd, hset, ars, if_pos, exV_some, Option.map_some] | ((with_reducible first | apply exB_dec | apply exB_intro) <;> intro _) | with_reducible refine exC_pure (hst _) ?_ | with_reducible refine exCq_pure (hst _) ?_)
        all_goals first | exact nx | (exfalso; omega) | skip
        done
  · obtain rfl : k = 6 := by omega
    clear ih
    repeat' (first | simp -implicitDefEqProofs only [go_sem, seval] | simp -implicitDefEqProofs (disch := omega) only [ars, if_pos, exV_some, Option.map_some] | ((with_reducible first | apply exB_dec | apply exB_intro) <;> intro _))
    all_goals first | exact ⟨l', hll, rfl, .inr hk⟩ | (exfalso; omega) | skip
    done
end Go.Proofs.Ytejmcijcdhoogaa
end

section
namespace Go.Proofs.Ytejmcijcdhoogaa
open Go Abs
attribute [local irreducible] EX exL exG exC exCq exS exV exIf exGd exGq exB
set_option maxHeartbeats 4000000

theorem nxt_near {g : Graph} {a b e : Int} (hf : Fit g) (h : e ∈ nxtOf g a b) : (0 ≤ (ends g e).2.1 ∧ (ends g e).2.1 < g.nodes) ∧ 0 ≤ distOf g (ends g e).2.1 b := by
  unfold nxtOf at h
  split at h
  · rename_i hab
    unfold nextL at h
    split at h
    · obtain ⟨h1, h2⟩ := List.mem_filter.1 h
      obtain ⟨e0, e1, e2⟩ := (out_mem g e a).1 h1
      have hb := (hf.b e e0 e1).2
      unfold onB at h2
      simp only [Bool.and_eq_true, decide_eq_true_eq] at h2
      refine ⟨hb, ?_⟩
      rw [distOf, if_pos ⟨hb, hab.2⟩]
      exact h2.2.1
    · cases h
  · cases h
structure Pass (g : Graph) (src to : Int) (W : List Int) : Prop where
  src : src ∈ W
  node : ∀ n ∈ W, (0 ≤ n ∧ n < g.nodes) ∧ 0 ≤ distOf g n to
  nodup : W.Nodup
structure OrdW (g : Graph) (src to : Int) (W : List Int) : Prop where
  pass : Pass g src to W
  shut : ∀ n ∈ W, ∀ e ∈ nxtOf g n to, (ends g e).2.1 ∈ W
  desc : W.Pairwise fun a b => distOf g b to ≤ distOf g a to
def seenOk (W : List Int) (s : List Bool) : Prop := ∀ v : Int, 0 ≤ v → v < s.length → gi s v = decide (v ∈ W)
theorem seenOk_set {W : List Int} {s : List Bool} (h : seenOk W s) {x : Int} (x0 : 0 ≤ x) (x1 : x < s.length) : seenOk (W ++ [x]) (s.set x.toNat true) := by
  intro v v0 v1
  rw [List.length_set] at v1
  rw [gi_set x0 x1 v0]
  by_cases e : v = x
  · rw [if_pos e, e]; simp
  · rw [if_neg e, h v v0 v1]; simp [e]
theorem pass_length {g : Graph} {src to : Int} {W : List Int} (h : Pass g src to W) : (W.length : Int) ≤ g.nodes := by
  have hn : 0 ≤ g.nodes := by have := (h.node _ h.src).1; omega
  have hsub : W ⊆ (List.range g.nodes.toNat).map (fun k : Nat => (k : Int)) := by
    intro x hx
    have := (h.node x hx).1
    exact List.mem_map.2 ⟨x.toNat, List.mem_range.2 (by omega), by omega⟩
  have := List.Nodup.length_le_of_subset h.nodup hsub
  simp at this
  omega
theorem set_two {P T : List Int} {x y : Int} {k : Int} (hk : k = P.length + 1) : ((P ++ y :: x :: T).set k.toNat y).set (k - 1).toNat x = P ++ x :: y :: T := by
  have h1 : k.toNat = P.length + 1 := by omega
  have h2 : (k - 1).toNat = P.length := by omega
  rw [h1, h2]
  simp [List.set_append]
theorem gi_at {P T : List Int} {x : Int} {k : Int} (hk : k = P.length) : gi (P ++ x :: T) k = x := by
  subst hk
  rw [gi_get (by simp)]
  simp
theorem exS_ints1 {P : Program} {s : S} {dst : Option Nat} {e by_ d : Nat} {nly : Bool} {l : List Int} {x : Int} {r : List KI} {K : AEx → S → Prop} (hg : get s.loc d = some (.arr false (l.map iv) l.length e 1)) (h2 : (l.length + 1) * by_ ≤ 140737488355328) (h3 : l.length + 1 ≤ maxLen)
    (k : EX P r K (s.arr d dst false ((l ++ [x]).map iv) (l ++ [x]).length e 1)) : exS P (appq s dst e 1 by_ (.own d) (.v (.vec nly [iv x] 1))) r K := by
  rw [appq_own hg rfl h2 h3, exS_some]
  have e2 : l.map iv ++ [iv x] = (l ++ [x]).map iv := by simp
  have e3 : l.length + 1 = (l ++ [x]).length := by simp
  rw [e2, e3]
  exact k
theorem order_c (g : Graph) (w : Want) (down : List Bool) (hc : (check g).2 = 0) (src to : Int) (hs : (0 ≤ src ∧ src < g.nodes) ∧ 0 ≤ distOf g src to) (H : AHeap) :
    ACalls Try.prog 106 [mapAV g w down, iv src, iv to] H fun r H' => H' = H ∧ ∃ W, r = sl false W ∧ OrdW g src to W := by
  have hf := fit_of g hc
  have fn := hf.n2
  refine ACalls.of_code fn_expand_Map_order ?_
  simp -implicitDefEqProofs only [sc_expand_Map_order, mapAV, go_sem, seval]
  repeat' (first | simp -implicitDefEqProofs only [go_sem, seval] | simp -implicitDefEqProofs (disch := omega) only [ars, if_pos, exV_some, Option.map_some] | ((with_reducible first | apply exB_dec | apply exB_intro) <;> intro _))
  all_goals first | (exfalso; omega) | skip
  refine exMk_int (by omega) (by omega) (by simp only [maxLen]; omega) rfl ?_
  rw [zrep_one, show List.replicate g.nodes.toNat (cAV (.bool false)) = (List.replicate g.nodes.toNat false).map bv by rw [List.map_replicate]; rfl]
  repeat' (first | simp -implicitDefEqProofs only [go_sem, seval] | simp -implicitDefEqProofs (disch := omega) only [set_bools, List.length_replicate, ars, if_pos, exV_some, Option.map_some] | ((with_reducible first | apply exB_dec | apply exB_intro) <;> intro _))
  all_goals first | (exfalso; omega) | skip
  have hn0 : (g.nodes.toNat : Int) = g.nodes := by omega
  refine exL_mod (fun a : Int × List Int × List Bool => [(9, .v (iv a.1))]) (fun a => [(22, .arr false (a.2.2.map bv) g.nodes.toNat 4 1), (27, .arr false (a.2.1.map iv) a.2.1.length 3 1)]) (fun a => Pass g src to a.2.1 ∧ a.2.2.length = g.nodes.toNat ∧ seenOk a.2.1 a.2.2 ∧ (0 ≤ a.1 ∧ a.1 ≤ a.2.1.length) ∧ ∀ j : Int, 0 ≤ j → j < a.1 → ∀ e ∈ nxtOf g (gi a.2.1 j) to, (ends g e).2.1 ∈ a.2.1) (fun a => (g.nodes + 1 - a.1).toNat) (0, [src], (List.replicate g.nodes.toNat false).set src.toNat true) rfl
    ⟨⟨by simp, fun n hn => by rw [List.mem_singleton.1 hn]; exact hs, by simp⟩, by simp, by
      have := seenOk_set (W := []) (s := List.replicate g.nodes.toNat false) (x := src) (fun v v0 v1 => by
        rw [List.length_replicate] at v1
        rw [gi_get (by rw [List.length_replicate]; omega)]
        simp) hs.1.1 (by rw [List.length_replicate]; omega)
      exact this, by simp, fun j j0 j1 => by dsimp only at j1; omega⟩ ?_
  rintro ⟨i, W, s⟩ ⟨hp, hsl, hso, ⟨i0, i1⟩, hcl⟩ ih
  dsimp only at hp hsl hso i0 i1 hcl ih
  simp only [S.up, S.upH, ups, Abs.put, Nat.reduceEqDiff, ↓reduceIte, Nat.reduceAdd] at ih
  simp -implicitDefEqProofs only [congrArg KI.code sc_expand_Map_order_L3.eq_1, go_sem, seval]
  have hWn := pass_length hp
  by_cases hi : i < W.length
  · have hnode := hp.node _ (gi_mem i0 hi)
    have tn := fun H => tnext_c g hc (gi W i) to H
    simp only [ints] at tn
    have hlen := nxtOf_length g (gi W i) to
    have hfl := hf.few
    repeat' (first | simp -implicitDefEqProofs only [go_sem, seval] | simp -implicitDefEqProofs (disch := omega) only [ars, if_pos, exV_some, Option.map_some] | ((with_reducible first | apply exB_dec | apply exB_intro) <;> intro _) | with_reducible refine exC_pure (tn _) ?_ | with_reducible refine exCq_pure (tn _) ?_)
    all_goals first | (exfalso; omega) | skip
    obtain ⟨l, hld⟩ : ∃ l, l = nxtOf g (gi W i) to := ⟨_, rfl⟩
    have hlm : ∀ e ∈ l, e ∈ nxtOf g (gi W i) to := fun e he => hld ▸ he
    rw [← hld] at hlen ⊢
    refine exL_mod (fun a : Int × List Int × List Bool => [(45, .v (iv a.1))]) (fun a => [(22, .arr false (a.2.2.map bv) g.nodes.toNat 4 1), (27, .arr false (a.2.1.map iv) a.2.1.length 3 1)]) (fun a => Pass g src to a.2.1 ∧ a.2.2.length = g.nodes.toNat ∧ seenOk a.2.1 a.2.2 ∧ (0 ≤ a.1 ∧ a.1 ≤ l.length) ∧ (∃ X, a.2.1 = W ++ X) ∧ ∀ j : Int, 0 ≤ j → j < a.1 → (ends g (gi l j)).2.1 ∈ a.2.1) (fun a => (l.length - a.1).toNat) (0, W, s) rfl ⟨hp, hsl, hso, by simp, ⟨[], by simp⟩, fun j j0 j1 => by dsimp only at j1; omega⟩ ?_
    rintro ⟨j, V, u⟩ ⟨qp, qsl, qso, ⟨j0, j1⟩, ⟨X, hX⟩, qcl⟩ ih2
    dsimp only at qp qsl qso j0 j1 hX qcl ih2
    simp only [S.up, S.upH, ups, Abs.put, Nat.reduceEqDiff, ↓reduceIte, Nat.reduceAdd] at ih2
    simp -implicitDefEqProofs only [congrArg KI.code sc_expand_Map_order_L2.eq_1, go_sem, seval]
    have hVn := pass_length qp
    by_cases hj : j < l.length
    · have hmem := hlm _ (gi_mem j0 hj)
      obtain ⟨e0, e1, e2, e3, -, -⟩ := nxt_mem hf hmem
      obtain ⟨hb, hnear⟩ := nxt_near hf hmem
      have ec := fun H => ends_c g (gi l j) ⟨by omega, by omega⟩ H
      simp only [Graph.av, triIIB] at ec
      have hse := qso (ends g (gi l j)).2.1 hb.1 (by omega)
      cases hin : decide ((ends g (gi l j)).2.1 ∈ V) with
      | true =>
        rw [hin] at hse
        have nx := ih2 (j + 1, V, u) ⟨qp, qsl, qso, by dsimp only; omega, ⟨X, hX⟩, fun k k0 k1 => by
          by_cases e : k < j
          · exact qcl k k0 e
          · obtain rfl : k = j := by dsimp only at k1; omega
            simpa using hin⟩ (by dsimp only; omega)
        clear ih ih2
        repeat' (first | simp -implicitDefEqProofs only [go_sem, seval] | simp -implicitDefEqProofs (disch := omega) only [hse, ars, if_pos, exV_some, Option.map_some] | ((with_reducible first | apply exB_dec | apply exB_intro) <;> intro _) | with_reducible refine exC_pure (ec _) ?_ | with_reducible refine exCq_pure (ec _) ?_)
        all_goals first | exact nx | (exfalso; omega) | skip
        done
      | false =>
        rw [hin] at hse
        have hnin : (ends g (gi l j)).2.1 ∉ V := by simpa using hin
        have qp' : Pass g src to (V ++ [(ends g (gi l j)).2.1]) := ⟨by simp [qp.src], fun n hn => by
          rcases List.mem_append.1 hn with hn | hn
          · exact qp.node n hn
          · rw [List.mem_singleton.1 hn]; exact ⟨hb, hnear⟩, by
          rw [List.nodup_append]
          refine ⟨qp.nodup, by simp, fun a ha b hb' => ?_⟩
          rintro rfl
          exact hnin (by rwa [List.mem_singleton.1 hb'] at ha)⟩
        have nx := ih2 (j + 1, V ++ [(ends g (gi l j)).2.1], u.set (ends g (gi l j)).2.1.toNat true) ⟨qp', by simp [qsl], seenOk_set qso hb.1 (by omega), by dsimp only; omega, ⟨X ++ [(ends g (gi l j)).2.1], by rw [hX]; simp⟩, fun k k0 k1 => by
          by_cases e : k < j
          · exact List.mem_append_left _ (qcl k k0 e)
          · obtain rfl : k = j := by dsimp only at k1; omega
            simp⟩ (by dsimp only; omega)
        have hVl := pass_length qp'
        clear ih ih2
        repeat' (first | simp -implicitDefEqProofs only [go_sem, seval] | simp -implicitDefEqProofs (disch := omega) only [hse, set_bools, ars, if_pos, exV_some, Option.map_some] | ((with_reducible first | apply exB_dec | apply exB_intro) <;> intro _) | with_reducible refine exC_pure (ec _) ?_ | with_reducible refine exCq_pure (ec _) ?_)
        all_goals first | exact nx | (exfalso; omega) | skip
        refine exS_ints1 rfl (by omega) (by simp only [maxLen]; omega) ?_
        repeat' (first | simp -implicitDefEqProofs only [go_sem, seval] | simp -implicitDefEqProofs (disch := omega) only [ars, if_pos, exV_some, Option.map_some] | ((with_reducible first | apply exB_dec | apply exB_intro) <;> intro _))
        all_goals first | exact nx | (exfalso; omega) | skip
        done
    · obtain rfl : j = l.length := by omega
      have nx := ih (i + 1, V, u) ⟨qp, qsl, qso, by
        have : W.length ≤ V.length := by rw [hX]; simp
        dsimp only; omega, fun k k0 k1 => by
        dsimp only at k1 ⊢
        have hV : gi V k = gi W k := by
          rw [hX, gi_get (by simp; omega), gi_get (by omega), List.getElem_append_left (by omega)]
        rw [hV]
        intro e he
        by_cases hk : k < i
        · rw [hX]; exact List.mem_append_left _ (hcl k k0 hk e he)
        · obtain rfl : k = i := by omega
          rw [← hld] at he
          obtain ⟨m, hm, rfl⟩ := List.getElem_of_mem he
          have := qcl (m : Int) (by omega) (by omega)
          rwa [gi_get (by simpa using hm)] at this⟩ (by dsimp only; omega)
      clear ih ih2
      repeat' (first | simp -implicitDefEqProofs only [go_sem, seval] | simp -implicitDefEqProofs (disch := omega) only [ars, if_pos, exV_some, Option.map_some] | ((with_reducible first | apply exB_dec | apply exB_intro) <;> intro _))
      all_goals first | exact nx | (exfalso; omega) | skip
      done
  · obtain rfl : i = W.length := by omega
    clear ih
    have hshut : ∀ n ∈ W, ∀ e ∈ nxtOf g n to, (ends g e).2.1 ∈ W := fun n hn e he => by
      obtain ⟨m, hm, rfl⟩ := List.getElem_of_mem hn
      refine hcl (m : Int) (by omega) (by omega) e ?_
      rwa [gi_get (by simpa using hm)]
    clear hcl hso hsl
    repeat' (first | simp -implicitDefEqProofs only [go_sem, seval] | simp -implicitDefEqProofs (disch := omega) only [ars, if_pos, exV_some, Option.map_some] | ((with_reducible first | apply exB_dec | apply exB_intro) <;> intro _))
    all_goals first | (exfalso; omega) | skip
    refine exL_mod (fun a : Int × List Int => [(74, .v (iv a.1))]) (fun a => [(27, .arr false (a.2.map iv) W.length 3 1)]) (fun a => a.2.Perm W ∧ (0 ≤ a.1 ∧ a.1 ≤ W.length) ∧ (a.2.take a.1.toNat).Pairwise fun x y => distOf g y to ≤ distOf g x to) (fun a => (W.length - a.1).toNat) (0, W) rfl ⟨.refl _, by simp, by simp⟩ ?_
    rintro ⟨i, V⟩ ⟨hperm, ⟨i0, i1⟩, hsort⟩ ih
    dsimp only at hperm i0 i1 hsort ih
    simp only [S.up, S.upH, ups, Abs.put, Nat.reduceEqDiff, ↓reduceIte, Nat.reduceAdd] at ih
    simp -implicitDefEqProofs only [congrArg KI.code sc_expand_Map_order_L1.eq_1, go_sem, seval]
    have hVW := hperm.length_eq
    by_cases hi : i < W.length
    · obtain ⟨x, hx⟩ : ∃ x, x = gi V i := ⟨_, rfl⟩
      obtain ⟨R, hR⟩ : ∃ R, R = V.drop (i + 1).toNat := ⟨_, rfl⟩
      obtain ⟨A, hA⟩ : ∃ A, A = V.take i.toNat := ⟨_, rfl⟩
      have hV : V = A ++ x :: R := by rw [hA, hx, hR, ← drop_gi i0 (by omega), List.take_append_drop]
      have hAl : A.length = i.toNat := by rw [hA, List.length_take]; omega
      rw [← hA] at hsort
      have tdx := fun y H => tdist_c g hc y to H
      repeat' (first | simp -implicitDefEqProofs only [go_sem, seval] | simp -implicitDefEqProofs (disch := omega) only [ars, if_pos, exV_some, Option.map_some] | ((with_reducible first | apply exB_dec | apply exB_intro) <;> intro _))
      all_goals first | (exfalso; omega) | skip
      refine exL_mod (fun a : List Int × List Int => [(16, .v (iv a.1.length))]) (fun a => [(27, .arr false ((a.1 ++ x :: (a.2 ++ R)).map iv) W.length 3 1)]) (fun a => a.1 ++ a.2 = A ∧ ∀ q ∈ a.2, distOf g q to < distOf g x to) (fun a => a.1.length) (A, []) (by rw [hV, List.nil_append, hAl, Int.toNat_of_nonneg i0]; rfl) ⟨by simp, by simp⟩ ?_
      rintro ⟨P, Q⟩ ⟨hPQ, hQ⟩ ih2
      dsimp only at hPQ hQ ih2
      simp only [S.up, S.upH, ups, Abs.put, Nat.reduceEqDiff, ↓reduceIte, Nat.reduceAdd] at ih2
      simp -implicitDefEqProofs only [congrArg KI.code sc_expand_Map_order_L0.eq_1, go_sem, seval]
      have hPl : (P ++ x :: (Q ++ R)).length = W.length := by
        have h1 := congrArg List.length hPQ
        have h2 := congrArg List.length hV
        simp only [List.length_append, List.length_cons] at h1 h2 ⊢
        omega
      have hg1 : gi (P ++ x :: (Q ++ R)) (P.length : Int) = x := gi_at rfl
      have hPk : (P.length : Int) < W.length := by
        have := hPl
        simp only [List.length_append, List.length_cons] at this
        omega
      have hsx : (P ++ Q).Pairwise fun x y => distOf g y to ≤ distOf g x to := hPQ ▸ hsort
      by_cases hgo : 0 < (P.length : Int) ∧ distOf g (gi (P ++ x :: (Q ++ R)) ((P.length : Int) - 1)) to < distOf g (gi (P ++ x :: (Q ++ R)) (P.length : Int)) to
      · rcases List.eq_nil_or_concat P with rfl | ⟨P', y, hP'⟩
        · simp at hgo
        rw [List.concat_eq_append] at hP'
        subst hP'
        have hg2 : gi (P' ++ [y] ++ x :: (Q ++ R)) (((P' ++ [y]).length : Int) - 1) = y := by
          rw [List.append_assoc]
          exact gi_at (by simp)
        obtain ⟨hgo1, hgo2⟩ := hgo
        have hgo3 := hgo2
        rw [hg1, hg2] at hgo3
        have nx := ih2 (P', y :: Q) ⟨by rw [← hPQ]; simp, fun q hq => by
          rcases List.mem_cons.1 hq with rfl | hq
          · exact hgo3
          · exact hQ q hq⟩ (by simp)
        have hst : ((P' ++ [y] ++ x :: (Q ++ R)).set ((P' ++ [y]).length : Int).toNat y).set (((P' ++ [y]).length : Int) - 1).toNat x = P' ++ x :: (y :: Q ++ R) := by
          rw [List.append_assoc]
          exact set_two (by simp)
        have hcast : ((P' ++ [y]).length : Int) - 1 = (P'.length : Int) := by simp
        obtain ⟨k, hk⟩ : ∃ k : Int, k = ((P' ++ [y]).length : Int) := ⟨_, rfl⟩
        rw [← hk] at hgo1 hgo2 hg1 hg2 hst hcast hPk ⊢
        rw [← hcast] at nx
        clear ih ih2
        repeat' (first | simp -implicitDefEqProofs only [go_sem, seval] | simp -implicitDefEqProofs (disch := omega) only [hg1, hg2, set_ints, hst, List.length_map, ars, if_pos, exV_some, Option.map_some] | ((with_reducible first | apply exB_dec | apply exB_intro) <;> intro _) | with_reducible refine exC_pure (tdx _ _) ?_ | with_reducible refine exCq_pure (tdx _ _) ?_)
        all_goals first | exact nx | (exfalso; omega) | skip
        done
      · have hall : ∀ p ∈ P, distOf g x to ≤ distOf g p to := by
          rcases List.eq_nil_or_concat P with rfl | ⟨P', y, hP'⟩
          · intro p hp; cases hp
          rw [List.concat_eq_append] at hP'
          subst hP'
          have hg2 : gi (P' ++ [y] ++ x :: (Q ++ R)) (((P' ++ [y]).length : Int) - 1) = y := by
            rw [List.append_assoc]
            exact gi_at (by simp)
          have hy : distOf g x to ≤ distOf g y to := by
            rw [hg1, hg2] at hgo
            refine Int.not_lt.1 fun hh => hgo ⟨by simp, hh⟩
          intro p hp
          rcases List.mem_append.1 hp with hp | hp
          · have h1 := (List.pairwise_append.1 (List.pairwise_append.1 hsx).1).2.2 p hp y (by simp)
            omega
          · rw [List.mem_singleton.1 hp]; exact hy
        have nx := ih (i + 1, P ++ x :: (Q ++ R)) ⟨by
          refine .trans ?_ hperm
          rw [hV, ← hPQ]
          dsimp only
          rw [List.append_assoc]
          exact .append_left P List.perm_middle.symm, by dsimp only; omega, by
          have ht : (P ++ x :: (Q ++ R)).take (i + 1).toNat = P ++ x :: Q := by
            have h1 := congrArg List.length hPQ
            rw [List.length_append, hAl] at h1
            rw [show P ++ x :: (Q ++ R) = (P ++ x :: Q) ++ R by simp]
            exact List.take_left' (by simp; omega)
          dsimp only
          rw [ht, List.pairwise_append, List.pairwise_cons]
          obtain ⟨s1, s2, s3⟩ := List.pairwise_append.1 hsx
          refine ⟨s1, ⟨fun q hq => by have := hQ q hq; omega, s2⟩, fun p hp q hq => ?_⟩
          rcases List.mem_cons.1 hq with rfl | hq
          · exact hall p hp
          · exact s3 p hp q hq⟩ (by dsimp only; omega)
        obtain ⟨k, hk⟩ : ∃ k : Int, k = (P.length : Int) := ⟨_, rfl⟩
        rw [← hk] at hgo hg1 hPk ⊢
        have hk0 : 0 ≤ k := by omega
        clear ih ih2
        repeat' (first | simp -implicitDefEqProofs only [go_sem, seval] | simp -implicitDefEqProofs (disch := omega) only [ars, if_pos, exV_some, Option.map_some] | ((with_reducible first | apply exB_dec | apply exB_intro) <;> intro _) | with_reducible refine exC_pure (tdx _ _) ?_ | with_reducible refine exCq_pure (tdx _ _) ?_)
        all_goals first | exact nx | (exfalso; omega) | skip
        done
    · obtain rfl : i = W.length := by omega
      clear ih
      rw [Int.toNat_natCast, List.take_of_length_le (by omega)] at hsort
      have hord : OrdW g src to V := ⟨⟨hperm.mem_iff.2 hp.src, fun n hn => hp.node n (hperm.mem_iff.1 hn), hperm.nodup_iff.2 hp.nodup⟩, fun n hn e he => hperm.mem_iff.2 (hshut n (hperm.mem_iff.1 hn) e he), hsort⟩
      rw [← hVW]
      repeat' (first | simp -implicitDefEqProofs only [go_sem, seval] | simp -implicitDefEqProofs (disch := omega) only [ars, if_pos, exV_some, Option.map_some] | ((with_reducible first | apply exB_dec | apply exB_intro) <;> intro _))
      all_goals first | exact ⟨V, rfl, hord⟩ | (exfalso; omega) | skip
      done
end Go.Proofs.Ytejmcijcdhoogaa
end

section
namespace Go.Proofs.Ytejmcijcdhoogaa
open Go Abs
attribute [local irreducible] EX exL exG exC exCq exS exV exIf exGd exGq exB
set_option maxHeartbeats 1000000

def mk6 (l : List R6) (c : St) : Bool := (gi l c.1).f c.2
theorem mk6_mark {l : List R6} {c d : St} (c0 : 0 ≤ c.1) (c1 : c.1 < l.length) (d0 : 0 ≤ d.1) : mk6 (markL l c) d = (decide (d = c) || mk6 l d) := by
  unfold mk6 markL
  rw [gi_set c0 c1 d0]
  by_cases e : d.1 = c.1
  · rw [if_pos e]
    show (decide (d.2 = c.2) || (gi l c.1).f d.2) = _
    rw [e]
    congr 1
    rw [decide_eq_decide]
    exact ⟨fun h => Prod.ext e h, fun h => by rw [h]⟩
  · rw [if_neg e]
    have : decide (d = c) = false := decide_eq_false fun h => e (by rw [h])
    rw [this, Bool.false_or]
structure OnSpec (g : Graph) (w : Want) (down : List Bool) (l : List R6) (node e : Int) (n : Nat) (l' : List R6) : Prop where
  on : ∀ k : Int, 0 ≤ k → k < n → mk6 l (node, k) = true → ∃ c, stepW g w down (node, k) e = some c ∧ mk6 l' c = true
  up : ∀ d : St, 0 ≤ d.1 → mk6 l d = true → mk6 l' d = true
  of : ∀ d : St, 0 ≤ d.1 → mk6 l' d = true → mk6 l d = true ∨ ∃ k : Int, 0 ≤ k ∧ k < n ∧ mk6 l (node, k) = true ∧ stepW g w down (node, k) e = some d
theorem onL_spec {g : Graph} {w : Want} {down : List Bool} (wf : WFit g w) {l : List R6} (hl : (l.length : Int) = g.nodes) {node e : Int} : ∀ {n : Nat} {l' : List R6}, onL g w down l node e n = some l' → OnSpec g w down l node e n l'
  | 0, l', h => by
    simp only [onL, Option.some.injEq] at h
    subst h
    exact ⟨fun k k0 k1 => by omega, fun d _ h => h, fun d _ h => .inl h⟩
  | n + 1, l', h => by
    unfold onL at h
    split at h
    · cases h
    · rename_i m hm
      have ih := onL_spec wf hl hm
      have hml := onL_length hm
      split at h
      · rename_i hk
        obtain ⟨c, hc, rfl⟩ := Option.map_eq_some_iff.1 h
        obtain ⟨c1, c2, c3⟩ := stepW_range wf hc
        have mm := fun d (hd : 0 ≤ d.1) => mk6_mark (l := m) (c := c) (d := d) c1.1 (by omega) hd
        refine ⟨fun k k0 k1 hkm => ?_, fun d d0 hd => by rw [mm d d0, ih.up d d0 hd, Bool.or_true], fun d d0 hd => ?_⟩
        · by_cases e1 : k = n
          · subst e1
            exact ⟨c, hc, by rw [mm c c1.1]; simp⟩
          · obtain ⟨c', h1, h2⟩ := ih.on k k0 (by omega) hkm
            exact ⟨c', h1, by rw [mm c' (stepW_range wf h1).1.1, h2, Bool.or_true]⟩
        · rw [mm d d0, Bool.or_eq_true, decide_eq_true_eq] at hd
          rcases hd with rfl | hd
          · exact .inr ⟨n, by omega, by omega, hk, hc⟩
          · rcases ih.of d d0 hd with h1 | ⟨k, h1, h2, h3⟩
            · exact .inl h1
            · exact .inr ⟨k, h1, by omega, h3⟩
      · rename_i hk
        simp only [Option.some.injEq] at h
        subst h
        refine ⟨fun k k0 k1 hkm => ?_, ih.up, fun d d0 hd => ?_⟩
        · by_cases e1 : k = n
          · subst e1; exact absurd hkm hk
          · exact ih.on k k0 (by omega) hkm
        · rcases ih.of d d0 hd with h1 | ⟨k, h1, h2, h3⟩
          · exact .inl h1
          · exact .inr ⟨k, h1, by omega, h3⟩
theorem onL_fail {g : Graph} {w : Want} {down : List Bool} {l : List R6} {node e : Int} : ∀ {n : Nat}, onL g w down l node e n = none → ∃ k : Int, 0 ≤ k ∧ k < n ∧ mk6 l (node, k) = true ∧ stepW g w down (node, k) e = none
  | 0, h => by simp [onL] at h
  | n + 1, h => by
    unfold onL at h
    split at h
    · rename_i hm
      obtain ⟨k, h1, h2, h3⟩ := onL_fail hm
      exact ⟨k, h1, by omega, h3⟩
    · split at h
      · rename_i hk
        rw [Option.map_eq_none_iff] at h
        exact ⟨n, by omega, by omega, hk, h⟩
      · cases h
theorem cnt_zero {r : R6} : ∀ {n : Nat}, cntB r n = 0 → ∀ k : Int, 0 ≤ k → k < n → r.f k = false
  | 0, _, k, k0, k1 => by omega
  | n + 1, h, k, k0, k1 => by
    have hle := cntB_le r n
    unfold cntB at h
    split at h
    · omega
    · rename_i hn
      by_cases e : k = n
      · subst e; simpa using hn
      · exact cnt_zero h k k0 (by omega)
theorem cnt_one {r : R6} : ∀ {n : Nat}, cntB r n = 1 → (0 ≤ lastB r n ∧ lastB r n < n) ∧ r.f (lastB r n) = true ∧ ∀ k : Int, 0 ≤ k → k < n → r.f k = true → k = lastB r n
  | 0, h => by simp [cntB] at h
  | n + 1, h => by
    unfold cntB at h
    unfold lastB
    split at h
    · rename_i hn
      rw [if_pos hn]
      refine ⟨by omega, hn, fun k k0 k1 hk => ?_⟩
      by_cases e : k = n
      · exact e
      · have := cnt_zero (show cntB r n = 0 by omega) k k0 (by omega)
        rw [hk] at this
        cases this
    · rename_i hn
      rw [if_neg hn]
      obtain ⟨h1, h2, h3⟩ := cnt_one h
      refine ⟨by omega, h2, fun k k0 k1 hk => ?_⟩
      by_cases e : k = n
      · subst e; exact absurd hk hn
      · exact h3 k k0 (by omega) hk
theorem cnt_uniq {r : R6} {k : Int} (k0 : 0 ≤ k) (hk : r.f k = true) : ∀ {n : Nat}, (∀ j : Int, 0 ≤ j → j < n → r.f j = true → j = k) → cntB r n = if k < n then 1 else 0
  | 0, _ => by rw [if_neg (by omega)]; rfl
  | n + 1, hu => by
    have ih := cnt_uniq k0 hk (n := n) fun j j0 j1 => hu j j0 (by omega)
    unfold cntB
    by_cases hn : r.f (n : Int) = true
    · have := hu n (by omega) (by omega) hn
      rw [if_pos hn, ih, if_neg (by omega), if_pos (by omega)]
      rfl
    · have : (n : Int) ≠ k := fun e => hn (e ▸ hk)
      rw [if_neg hn, ih]
      by_cases h : k < (n : Int)
      · rw [if_pos h, if_pos (by omega)]
      · rw [if_neg h, if_neg (by omega)]
theorem dist_pos {g : Graph} (hf : Fit g) {a b : Int} (h : 0 ≤ distOf g a b) (hne : a ≠ b) : 0 < distOf g a b := by
  unfold distOf at h ⊢
  split at h
  · rename_i hab
    rw [if_pos hab]
    have hd := (distL_spec hf [] hab.2).1
    by_cases e : gi (distL g [] b) a = 0
    · exfalso
      rcases IsDist.made hf hab.2 hd hab.1.1 hab.1.2 h with hh | ⟨e', h0, h1, h2, h3, h4, h5⟩
      · exact hne hh
      · have := hf.w e' h0 h1
        omega
    · omega
  · omega
theorem endN_range {g : Graph} {w : Want} {down : List Bool} {to : Int} (hf : Fit g) (wf : WFit g w) {a r : St} (ha : a.1 ≠ to) (h : endN g w down to a = some r) : (0 ≤ a.2 ∧ a.2 < 6) ∧ 0 < distOf g a.1 to := by
  obtain ⟨h1, h2⟩ := endN_next hf ha h
  cases hl : nxtOf g a.1 to with
  | nil => exact absurd hl h1
  | cons e l =>
    obtain ⟨b, hb, -⟩ := h2 e (by rw [hl]; simp)
    have hs := (stepW_some hb).1
    have := wf.few
    exact ⟨⟨hs.2.1.1, by have := hs.2.1.2; omega⟩, (nxt_mem hf (e := e) (by rw [hl]; simp)).2.2.2.2.2⟩
theorem endN_reach {g : Graph} {w : Want} {down : List Bool} {to : Int} (hf : Fit g) {a r : St} (h : endN g w down to a = some r) : Rch g w down to a r := by
  have : ∀ n b, (distOf g b.1 to).toNat = n → endN g w down to b = some r → Rch g w down to a b → Rch g w down to a r := by
    intro n
    induction n using Nat.strongRecOn with
    | _ n ih =>
      intro b hn hb hr
      by_cases h1 : b.1 = to
      · rw [endN_self hf h1] at hb
        injection hb with hb
        rw [← hb]; exact hr
      · obtain ⟨h2, h3⟩ := endN_next hf h1 hb
        cases hl : nxtOf g b.1 to with
        | nil => exact absurd hl h2
        | cons e l =>
          have he : e ∈ nxtOf g b.1 to := by rw [hl]; simp
          obtain ⟨c, hc, hc2⟩ := h3 e he
          have := step_dist hf he hc
          exact ih _ (by omega) c rfl hc2 (.step hr h1 he hc)
  exact this _ a rfl h .refl
end Go.Proofs.Ytejmcijcdhoogaa
end

section
namespace Go.Proofs.Ytejmcijcdhoogaa
open Go Abs
attribute [local irreducible] EX exL exG exC exCq exS exV exIf exGd exGq exB
set_option maxHeartbeats 4000000

structure NInv (g : Graph) (w : Want) (down : List Bool) (to : Int) (a : St) (W : List Int) (l : List R6) (i : Int) : Prop where
  len : (l.length : Int) = g.nodes
  start : mk6 l a = true
  sound : ∀ d : St, 0 ≤ d.1 → d.1 < g.nodes → 0 ≤ d.2 → d.2 < 6 → mk6 l d = true → Rch g w down to a d
  done : ∀ p : Int, 0 ≤ p → p < i → ∀ k : Int, 0 ≤ k → k < 6 → mk6 l (gi W p, k) = true → ∀ e ∈ nxtOf g (gi W p) to, ∃ c, stepW g w down (gi W p, k) e = some c ∧ mk6 l c = true
structure EInv (g : Graph) (w : Want) (down : List Bool) (to : Int) (a : St) (W : List Int) (l : List R6) (i j : Int) : Prop where
  n : NInv g w down to a W l i
  edges : ∀ m : Int, 0 ≤ m → m < j → ∀ k : Int, 0 ≤ k → k < 6 → mk6 l (gi W i, k) = true → ∃ c, stepW g w down (gi W i, k) (gi (nxtOf g (gi W i) to) m) = some c ∧ mk6 l c = true
theorem dist_self {g : Graph} (hf : Fit g) (b : Int) : distOf g b b ≤ 0 := by
  unfold distOf
  split
  · rename_i h
    rw [IsDist.zero hf h.2 (distL_spec hf [] h.2).1]
    exact Int.le_refl _
  · omega
theorem nxt_ne {g : Graph} (hf : Fit g) {n to e : Int} (h : e ∈ nxtOf g n to) : n ≠ to := by
  rintro rfl
  have h1 := (nxt_mem hf h).2.2.2.2.2
  have h2 := dist_self hf n
  omega
theorem EInv.step {g : Graph} {w : Want} {down : List Bool} {to src : Int} {a : St} {W : List Int} {l l' : List R6} {i j : Int} (wf : WFit g w) (hW : OrdW g src to W) (h : EInv g w down to a W l i j) (i0 : 0 ≤ i) (i1 : i < W.length) (j0 : 0 ≤ j) (j1 : j < (nxtOf g (gi W i) to).length)
    (ho : onL g w down l (gi W i) (gi (nxtOf g (gi W i) to) j) 6 = some l') : EInv g w down to a W l' i (j + 1) := by
  have hf := wf.fit
  have he := gi_mem j0 j1
  have hsp := onL_spec wf h.n.len ho
  have hll := onL_length ho
  have hn := hW.pass.node _ (gi_mem i0 i1)
  have ht := nxt_dist hf he
  -- what is new lies nearer
  have hnew : ∀ p : Int, 0 ≤ p → p ≤ i → ∀ k : Int, 0 ≤ k → mk6 l' (gi W p, k) = true → mk6 l (gi W p, k) = true := by
    intro p p0 p1 k k0 hm
    rcases hsp.of (gi W p, k) (hW.pass.node _ (gi_mem p0 (by omega))).1.1 hm with h1 | ⟨k', -, -, -, h4⟩
    · exact h1
    · exfalso
      have := congrArg Prod.fst (stepW_some h4).2
      dsimp only at this
      rw [← this] at ht
      have hd : distOf g (gi W i) to ≤ distOf g (gi W p) to := by
        by_cases e : p = i
        · rw [e]; exact Int.le_refl _
        · rw [gi_get (by omega), gi_get (by omega)]
          exact List.pairwise_iff_getElem.1 hW.desc _ _ _ _ (by omega)
      omega
  have keep : ∀ n k e : Int, ∀ c, stepW g w down (n, k) e = some c → mk6 l c = true → mk6 l' c = true := fun n k e c hc hm => hsp.up c (stepW_range wf hc).1.1 hm
  refine ⟨⟨by rw [hll]; exact h.n.len, ?_, fun d d0 d1 k0 k1 hm => ?_, fun p p0 p1 k k0 k1 hm e hee => ?_⟩, fun m m0 m1 k k0 k1 hm => ?_⟩
  · by_cases ha : 0 ≤ a.1
    · exact hsp.up a ha h.n.start
    · have h1 := h.n.start
      have hlt : a.1.toNat = 0 := by omega
      -- an index below 0 reads the first one
      have : mk6 l' a = mk6 l' (0, a.2) ∧ mk6 l a = mk6 l (0, a.2) := by
        unfold mk6 gi
        simp [hlt]
      rw [this.1]
      exact hsp.up _ (Int.le_refl _) (this.2 ▸ h1)
  · rcases hsp.of d d0 hm with h1 | ⟨k', q0, q1, h3, h4⟩
    · exact h.n.sound d d0 d1 k0 k1 h1
    · exact .step (h.n.sound (gi W i, k') hn.1.1 hn.1.2 q0 q1 h3) (nxt_ne hf he) he h4
  · obtain ⟨c, c1, c2⟩ := h.n.done p p0 p1 k k0 k1 (hnew p p0 (by omega) k k0 hm) e hee
    exact ⟨c, c1, keep _ _ _ c c1 c2⟩
  · have hm' := hnew i i0 (Int.le_refl _) k k0 hm
    by_cases e : m < j
    · obtain ⟨c, c1, c2⟩ := h.edges m m0 e k k0 k1 hm'
      exact ⟨c, c1, keep _ _ _ c c1 c2⟩
    · obtain rfl : m = j := by omega
      exact hsp.on k k0 k1 hm'
theorem EInv.all {g : Graph} {w : Want} {down : List Bool} {to : Int} {a : St} {W : List Int} {l : List R6} {i j : Int} (h : EInv g w down to a W l i j) (hj : ((nxtOf g (gi W i) to).length : Int) ≤ j) : NInv g w down to a W l (i + 1) := by
  refine ⟨h.n.len, h.n.start, h.n.sound, fun p p0 p1 k k0 k1 hm e he => ?_⟩
  by_cases hp : p < i
  · exact h.n.done p p0 hp k k0 k1 hm e he
  · obtain rfl : p = i := by omega
    obtain ⟨m, hm', rfl⟩ := List.getElem_of_mem he
    have := h.edges (m : Int) (by omega) (by omega) k k0 k1 hm
    rwa [gi_get (l := nxtOf g (gi W p) to) (i := (m : Int)) (by simpa using hm')] at this
theorem EInv.fail {g : Graph} {w : Want} {down : List Bool} {to src : Int} {a : St} {W : List Int} {l : List R6} {i j : Int} (wf : WFit g w) (hW : OrdW g src to W) (h : EInv g w down to a W l i j) (i0 : 0 ≤ i) (i1 : i < W.length) (j0 : 0 ≤ j) (j1 : j < (nxtOf g (gi W i) to).length)
    (ho : onL g w down l (gi W i) (gi (nxtOf g (gi W i) to) j) 6 = none) : endN g w down to a = none := by
  obtain ⟨k, k0, k1, h1, h2⟩ := onL_fail ho
  have he := gi_mem j0 j1
  have hn := hW.pass.node _ (gi_mem i0 i1)
  have hr := h.n.sound (gi W i, k) hn.1.1 hn.1.2 k0 k1 h1
  cases hE : endN g w down to a with
  | none => rfl
  | some r =>
    have h3 := endN_rch wf.fit hE hr
    obtain ⟨c, hc, -⟩ := (endN_next wf.fit (nxt_ne wf.fit he) h3).2 _ he
    rw [h2] at hc
    cases hc
theorem NInv.fin {g : Graph} {w : Want} {down : List Bool} {to : Int} {a : St} {W : List Int} {l : List R6} (wf : WFit g w) (hc : (check g).2 = 0) (hW : OrdW g a.1 to W) (ha : 0 ≤ a.2 ∧ a.2 < 6) (h : NInv g w down to a W l W.length) :
    endN g w down to a = if cntB (gi l to) 6 = 1 then some (to, lastB (gi l to) 6) else none := by
  have hf := wf.fit
  -- all that is come to is marked
  have hall : ∀ b, Rch g w down to a b → mk6 l b = true ∧ b.1 ∈ W ∧ 0 ≤ b.2 ∧ b.2 < 6 := by
    intro b hb
    induction hb with
    | refl => exact ⟨h.start, hW.pass.src, ha⟩
    | @step b c e _ hne he hs ih =>
      obtain ⟨i1, i2, i3, i4⟩ := ih
      obtain ⟨m, hm, hme⟩ := List.getElem_of_mem i2
      have hg : gi W (m : Int) = b.1 := by rw [gi_get (by simpa using hm)]; exact hme
      obtain ⟨c', c1, c2⟩ := h.done (m : Int) (by omega) (by omega) b.2 i3 i4 (by rw [hg]; exact i1) e (by rw [hg]; exact he)
      rw [hg] at c1
      rw [hs] at c1
      injection c1 with c1
      subst c1
      have hr := stepW_range wf hs
      refine ⟨c2, ?_, hr.2.1, hr.2.2⟩
      rw [(stepW_some hs).2]
      exact hW.shut _ i2 e he
  have hstep : ∀ b, Rch g w down to a b → b.1 ≠ to → nxtOf g b.1 to ≠ [] ∧ ∀ e ∈ nxtOf g b.1 to, ∃ c, stepW g w down b e = some c := by
    intro b hb hne
    obtain ⟨i1, i2, i3, i4⟩ := hall b hb
    have hn := hW.pass.node _ i2
    have hpos := (nxt_some hc (a := b.1) (b := to)).2 (dist_pos hf hn.2 hne)
    refine ⟨fun e => by rw [e] at hpos; simp at hpos, fun e he => ?_⟩
    obtain ⟨m, hm, hme⟩ := List.getElem_of_mem i2
    have hg : gi W (m : Int) = b.1 := by rw [gi_get (by simpa using hm)]; exact hme
    obtain ⟨c, c1, -⟩ := h.done (m : Int) (by omega) (by omega) b.2 i3 i4 (by rw [hg]; exact i1) e (by rw [hg]; exact he)
    rw [hg] at c1
    exact ⟨c, c1⟩
  by_cases hto : 0 ≤ to ∧ to < g.nodes
  case neg =>
    exfalso
    have h1 := (hW.pass.node _ hW.pass.src).2
    unfold distOf at h1
    rw [if_neg (fun hh => hto hh.2)] at h1
    omega
  by_cases h1 : cntB (gi l to) 6 = 1
  · rw [if_pos h1]
    obtain ⟨⟨l0, l1⟩, h2, h3⟩ := cnt_one h1
    refine endN_of hf hstep fun b hb hbt => ?_
    obtain ⟨i1, i2, i3, i4⟩ := hall b hb
    have : b.2 = lastB (gi l to) 6 := h3 b.2 i3 i4 (by rw [← hbt]; exact i1)
    exact Prod.ext hbt this
  · rw [if_neg h1]
    cases hE : endN g w down to a with
    | none => rfl
    | some r =>
      exfalso
      have hr := endN_reach hf hE
      have hrt := endN_at hf hE
      obtain ⟨i1, i2, i3, i4⟩ := hall r hr
      refine h1 ?_
      have := cnt_uniq (r := gi l to) (k := r.2) i3 (by rw [← hrt]; exact i1) (n := 6) fun j j0 j1 hj => by
        have hd := h.sound (to, j) hto.1 hto.2 j0 j1 hj
        have := endN_one hf hE hd rfl
        rw [← this]
      rw [this, if_pos (by omega)]
theorem zrep_r6 (n : Nat) : zrep [.bool false, .bool false, .bool false, .bool false, .bool false, .bool false] n = rows (List.replicate n (default : R6)) := by
  induction n with
  | zero => rfl
  | succ n ih =>
    rw [List.replicate_succ, show rows (default :: List.replicate n (default : R6)) = Enc.cells (default : R6) ++ rows (List.replicate n (default : R6)) from rfl, ← ih]
    rfl
noncomputable def segN (g : Graph) (w : Want) (down : List Bool) (a : St) (to : Int) : Option St := if a.1 = to then none else endN g w down to a
theorem node_c (g : Graph) (w : Want) (down : List Bool) (h0 : optErr g w down = 0) (a : St) (to : Int) (H : AHeap) : APure Try.prog 93 [mapAV g w down, stateAV a, iv to] H (stepAV (segN g w down a to)) := by
  intro Q h
  have wf := wfit_of (optErr_right h0)
  have hc := (rightErr_ok (optErr_right h0)).1
  have hf := wf.fit
  have fn := hf.n2
  have td := fun H => tdist_c g hc a.1 to H
  by_cases hto : a.1 = to
  · rw [segN, if_pos hto] at h
    refine ACalls.of_code fn_expand_Map_node ?_
    simp -implicitDefEqProofs only [sc_expand_Map_node, mapAV, stateAV, go_sem, seval]
    repeat' (first | simp -implicitDefEqProofs only [go_sem, seval] | simp -implicitDefEqProofs (disch := omega) only [ars, if_pos, exV_some, Option.map_some] | ((with_reducible first | apply exB_dec | apply exB_intro) <;> intro _) | with_reducible refine exC_pure (td _) ?_ | with_reducible refine exCq_pure (td _) ?_)
    all_goals first | exact h | (exfalso; omega) | skip
    done
  rw [segN, if_neg hto] at h
  by_cases hg : 0 ≤ distOf g a.1 to ∧ 0 ≤ a.2 ∧ a.2 < 6
  case neg =>
    have hE : endN g w down to a = none := by
      cases hE : endN g w down to a with
      | none => rfl
      | some r =>
        have := endN_range hf wf hto hE
        exact absurd ⟨by omega, this.1⟩ hg
    rw [hE] at h
    refine ACalls.of_code fn_expand_Map_node ?_
    simp -implicitDefEqProofs only [sc_expand_Map_node, mapAV, stateAV, go_sem, seval]
    repeat' (first | simp -implicitDefEqProofs only [go_sem, seval] | simp -implicitDefEqProofs (disch := omega) only [ars, if_pos, exV_some, Option.map_some] | ((with_reducible first | apply exB_dec | apply exB_intro) <;> intro _) | with_reducible refine exC_pure (td _) ?_ | with_reducible refine exCq_pure (td _) ?_)
    all_goals first | exact h | (exfalso; omega) | skip
    done
  obtain ⟨g0, ha⟩ := hg
  have hsrc : 0 ≤ a.1 ∧ a.1 < g.nodes := by
    unfold distOf at g0
    split at g0
    · rename_i hh; exact hh.1
    · omega
  have hn0 : (g.nodes.toNat : Int) = g.nodes := by omega
  have oc := fun H => order_c g w down hc a.1 to ⟨hsrc, g0⟩ H
  simp only [mapAV] at oc
  refine ACalls.forget (ACalls.of_code fn_expand_Map_node ?_)
  simp -implicitDefEqProofs only [sc_expand_Map_node, mapAV, stateAV, go_sem, seval]
  repeat' (first | simp -implicitDefEqProofs only [go_sem, seval] | simp -implicitDefEqProofs (disch := omega) only [ars, if_pos, exV_some, Option.map_some] | ((with_reducible first | apply exB_dec | apply exB_intro) <;> intro _) | with_reducible refine exC_pure (td _) ?_ | with_reducible refine exCq_pure (td _) ?_)
  all_goals first | (exfalso; omega) | skip
  refine exHmk_int (by omega) (by omega) (by simp only [maxLen]; omega) rfl fun b hb => ?_
  have hb : H b = none := hb
  rw [zrep_r6]
  obtain ⟨l0, hl0⟩ : ∃ l0 : List R6, l0 = List.replicate g.nodes.toNat default := ⟨_, rfl⟩
  have hll0 : l0.length = g.nodes.toNat := by rw [hl0, List.length_replicate]
  have hset := set_r6 (l := l0) (a := a.1) (k := a.2) hsrc.1 (by omega) ha.1 ha.2
  have hrl : (rows l0).length = g.nodes.toNat * 6 := by rw [rows_length, R6.sz_eq, hll0]
  rw [← hl0]
  have hbase : ∀ l : List R6, ∀ b' o, H b' = some o → upd H b (some (r6obj l g.nodes.toNat)) b' = some o := fun l b' o ho => by
    rw [upd_ne _ _ (by rintro rfl; rw [hb] at ho; cases ho)]; exact ho
  repeat' (first | simp -implicitDefEqProofs only [go_sem, seval] | simp -implicitDefEqProofs (disch := omega) only [upd_self, updH_upd, hset, hrl, ars, if_pos, exV_some, Option.map_some] | ((with_reducible first | apply exB_dec | apply exB_intro) <;> intro _))
  all_goals first | (exfalso; omega) | skip
  refine exC_intro (oc _) ?_
  rintro _ _ ⟨rfl, W, rfl, hW⟩
  simp -implicitDefEqProofs only [sl, go_sem, seval]
  repeat' (first | simp -implicitDefEqProofs only [go_sem, seval] | simp -implicitDefEqProofs (disch := omega) only [ars, if_pos, exV_some, Option.map_some] | ((with_reducible first | apply exB_dec | apply exB_intro) <;> intro _))
  all_goals first | (exfalso; omega) | skip
  have hm0 : ∀ d : St, mk6 l0 d = false := fun d => by
    unfold mk6
    rw [hl0]
    unfold gi
    rw [List.getD_eq_getElem?_getD, List.getElem?_replicate]
    split <;> rfl
  have hfirst : NInv g w down to a W (markL l0 a) 0 := ⟨by rw [markL_length]; omega, by rw [mk6_mark hsrc.1 (by omega) hsrc.1]; simp, fun d d0 d1 k0 k1 hm => by
    rw [mk6_mark hsrc.1 (by omega) d0, hm0, Bool.or_false, decide_eq_true_eq] at hm
    rw [hm]; exact .refl, fun p p0 p1 => by omega⟩
  refine exL_modH (fun x : Int × List R6 => [(59, .v (iv x.1))]) (fun _ => []) (fun x => upd H b (some (r6obj x.2 g.nodes.toNat))) (fun x => NInv g w down to a W x.2 x.1 ∧ 0 ≤ x.1 ∧ x.1 ≤ W.length) (fun x => (W.length - x.1).toNat) (0, markL l0 a) rfl ⟨hfirst, by simp, by simp⟩ ?_
  rintro ⟨i, l⟩ ⟨hinv, i0, i1⟩ ih
  dsimp only at hinv i0 i1 ih
  simp only [S.up, S.upH, ups, Abs.put, Nat.reduceEqDiff, ↓reduceIte, Nat.reduceAdd] at ih
  simp -implicitDefEqProofs only [congrArg KI.code sc_expand_Map_node_L1.eq_1, go_sem, seval]
  have hWn := pass_length hW.pass
  by_cases hi : i < W.length
  · have hnode := hW.pass.node _ (gi_mem i0 hi)
    have tn := fun H => tnext_c g hc (gi W i) to H
    simp only [ints] at tn
    have hlen := nxtOf_length g (gi W i) to
    have hfl := hf.few
    repeat' (first | simp -implicitDefEqProofs only [go_sem, seval] | simp -implicitDefEqProofs (disch := omega) only [ars, if_pos, exV_some, Option.map_some] | ((with_reducible first | apply exB_dec | apply exB_intro) <;> intro _) | with_reducible refine exC_pure (tn _) ?_ | with_reducible refine exCq_pure (tn _) ?_)
    all_goals first | (exfalso; omega) | skip
    refine exL_modH (fun x : Int × List R6 => [(71, .v (iv x.1))]) (fun _ => []) (fun x => upd H b (some (r6obj x.2 g.nodes.toNat))) (fun x => EInv g w down to a W x.2 i x.1 ∧ 0 ≤ x.1 ∧ x.1 ≤ (nxtOf g (gi W i) to).length) (fun x => ((nxtOf g (gi W i) to).length - x.1).toNat) (0, l) rfl ⟨⟨hinv, fun m m0 m1 => by dsimp only at m1; omega⟩, by simp, by simp⟩ ?_
    rintro ⟨j, u⟩ ⟨hei, j0, j1⟩ ih2
    dsimp only at hei j0 j1 ih2
    simp only [S.up, S.upH, ups, Abs.put, Nat.reduceEqDiff, ↓reduceIte, Nat.reduceAdd] at ih2
    simp -implicitDefEqProofs only [congrArg KI.code sc_expand_Map_node_L0.eq_1, go_sem, seval]
    have hul := hei.n.len
    by_cases hj : j < (nxtOf g (gi W i) to).length
    · have hmem := gi_mem j0 hj
      obtain ⟨e0, e1, -, -, -, -⟩ := nxt_mem hf hmem
      have on := on_c g w down h0 u hul b g.nodes.toNat g.nodes.toNat (by omega) g.nodes.toNat (gi W i) (gi (nxtOf g (gi W i) to) j) hnode.1 ⟨by omega, by omega⟩ (upd H b (some (r6obj u g.nodes.toNat))) (upd_self _ _ _)
      simp only [mapAV] at on
      clear ih
      repeat' (first | simp -implicitDefEqProofs only [go_sem, seval] | simp -implicitDefEqProofs (disch := omega) only [ars, if_pos, exV_some, Option.map_some] | ((with_reducible first | apply exB_dec | apply exB_intro) <;> intro _))
      all_goals first | (exfalso; omega) | skip
      refine exC_intro on ?_
      rintro _ _ ⟨u', hu', rfl, ⟨rfl, ho⟩ | ⟨rfl, ho⟩⟩
      · have hE := hei.fail wf hW i0 hi j0 hj ho
        rw [hE] at h
        clear ih2
        simp -implicitDefEqProofs only [updH_upd, go_sem, seval]
        repeat' (first | simp -implicitDefEqProofs only [go_sem, seval] | simp -implicitDefEqProofs (disch := omega) only [updH_upd, ars, if_pos, exV_some, Option.map_some] | ((with_reducible first | apply exB_dec | apply exB_intro) <;> intro _))
        all_goals first | exact ⟨hbase _, h⟩ | (exfalso; omega) | skip
        done
      · have nx := ih2 (j + 1, u') ⟨hei.step wf hW i0 hi j0 hj ho, by dsimp only; omega, by dsimp only; omega⟩ (by dsimp only; omega)
        clear ih2
        simp -implicitDefEqProofs only [updH_upd, go_sem, seval]
        repeat' (first | simp -implicitDefEqProofs only [go_sem, seval] | simp -implicitDefEqProofs (disch := omega) only [updH_upd, ars, if_pos, exV_some, Option.map_some] | ((with_reducible first | apply exB_dec | apply exB_intro) <;> intro _))
        all_goals first | exact nx | (exfalso; omega) | skip
        done
    · have nx := ih (i + 1, u) ⟨hei.all (by omega), by dsimp only; omega, by dsimp only; omega⟩ (by dsimp only; omega)
      clear ih ih2
      repeat' (first | simp -implicitDefEqProofs only [go_sem, seval] | simp -implicitDefEqProofs (disch := omega) only [ars, if_pos, exV_some, Option.map_some] | ((with_reducible first | apply exB_dec | apply exB_intro) <;> intro _))
      all_goals first | exact nx | (exfalso; omega) | skip
      done
  · obtain rfl : i = W.length := by omega
    have hE := hinv.fin wf hc hW ha
    have hlen := hinv.len
    have hto2 : 0 ≤ to ∧ to < g.nodes := by
      unfold distOf at g0
      split at g0
      · rename_i hh; exact hh.2
      · omega
    have onl := fun H => only_c (gi l to) H
    simp only [R6.cells_eq] at onl
    clear ih
    rw [hE] at h
    by_cases h1 : cntB (gi l to) 6 = 1
    · rw [if_pos h1] at h
      rw [decide_eq_true h1] at onl
      repeat' (first | simp -implicitDefEqProofs only [go_sem, seval] | simp -implicitDefEqProofs (disch := omega) only [upd_self, rd_r6, R6.cells_eq, ars, if_pos, exV_some, Option.map_some] | ((with_reducible first | apply exB_dec | apply exB_intro) <;> intro _) | with_reducible refine exC_pure (onl _) ?_ | with_reducible refine exCq_pure (onl _) ?_)
      all_goals first | exact ⟨hbase _, h⟩ | (exfalso; omega) | skip
      done
    · rw [if_neg h1] at h
      rw [decide_eq_false h1] at onl
      repeat' (first | simp -implicitDefEqProofs only [go_sem, seval] | simp -implicitDefEqProofs (disch := omega) only [upd_self, rd_r6, R6.cells_eq, ars, if_pos, exV_some, Option.map_some] | ((with_reducible first | apply exB_dec | apply exB_intro) <;> intro _) | with_reducible refine exC_pure (onl _) ?_ | with_reducible refine exCq_pure (onl _) ?_)
      all_goals first | exact ⟨hbase _, h⟩ | (exfalso; omega) | skip
      done
end Go.Proofs.Ytejmcijcdhoogaa
end

section
namespace Go.Proofs.Ytejmcijcdhoogaa
open Go Abs
attribute [local irreducible] EX exL exG exC exCq exS exV exIf exGd exGq exB
set_option maxHeartbeats 4000000

structure Sg where
  edge : Bool
  to : Int
  deriving DecidableEq, Inhabited
instance : Enc Sg where
  sz := 2
  cells s := [bv s.edge, iv s.to]
  len _ := rfl
  pos := by decide
theorem Sg.cells_eq (s : Sg) : Enc.cells s = [bv s.edge, iv s.to] := rfl
theorem Sg.sz_eq : Enc.sz Sg = 2 := rfl
def Sg.av (s : Sg) : AV := .agg (Enc.cells s)
noncomputable def segW (g : Graph) (w : Want) (down : List Bool) (a : St) (s : Sg) : Option St := if s.edge = true then stepW g w down a s.to else segN g w down a s.to
theorem seg_c (g : Graph) (w : Want) (down : List Bool) (h0 : optErr g w down = 0) (a : St) (s : Sg) (hs : -9223372036854775808 ≤ s.to ∧ s.to ≤ 9223372036854775807) (H : AHeap) : APure Try.prog 74 [mapAV g w down, stateAV a, s.av] H (stepAV (segW g w down a s)) := by
  intro Q h
  have c1 := fun H => wstep_c g w down a.1 a.2 s.to hs H
  have c2 := fun H => node_c g w down h0 a s.to H
  obtain ⟨e, to⟩ := s
  cases e with
  | true =>
    rw [segW, if_pos rfl] at h
    simp only [mapAV, stateAV] at c1 c2
    refine ACalls.of_code fn_expand_Map_Seg ?_
    simp -implicitDefEqProofs only [sc_expand_Map_Seg, mapAV, stateAV, Sg.av, Sg.cells_eq, go_sem, seval]
    cases hr : stepW g w down a to with
    | none =>
      rw [hr] at h
      simp only [stepAV, stateAV, hr] at h c1
      repeat' (first | simp -implicitDefEqProofs only [go_sem, seval] | simp -implicitDefEqProofs (disch := omega) only [ars, if_pos, exV_some, Option.map_some] | ((with_reducible first | apply exB_dec | apply exB_intro) <;> intro _) | with_reducible refine exC_pure (c1 _) ?_ | with_reducible refine exCq_pure (c1 _) ?_)
      all_goals first | exact h | (exfalso; omega) | skip
      done
    | some c =>
      rw [hr] at h
      simp only [stepAV, stateAV, hr] at h c1
      repeat' (first | simp -implicitDefEqProofs only [go_sem, seval] | simp -implicitDefEqProofs (disch := omega) only [ars, if_pos, exV_some, Option.map_some] | ((with_reducible first | apply exB_dec | apply exB_intro) <;> intro _) | with_reducible refine exC_pure (c1 _) ?_ | with_reducible refine exCq_pure (c1 _) ?_)
      all_goals first | exact h | (exfalso; omega) | skip
      done
  | false =>
    rw [segW, if_neg (by simp)] at h
    simp only [mapAV, stateAV] at c1 c2
    refine ACalls.of_code fn_expand_Map_Seg ?_
    simp -implicitDefEqProofs only [sc_expand_Map_Seg, mapAV, stateAV, Sg.av, Sg.cells_eq, go_sem, seval]
    cases hr : segN g w down a to with
    | none =>
      rw [hr] at h
      simp only [stepAV, stateAV, hr] at h c2
      repeat' (first | simp -implicitDefEqProofs only [go_sem, seval] | simp -implicitDefEqProofs (disch := omega) only [ars, if_pos, exV_some, Option.map_some] | ((with_reducible first | apply exB_dec | apply exB_intro) <;> intro _) | with_reducible refine exC_pure (c2 _) ?_ | with_reducible refine exCq_pure (c2 _) ?_)
      all_goals first | exact h | (exfalso; omega) | skip
      done
    | some c =>
      rw [hr] at h
      simp only [stepAV, stateAV, hr] at h c2
      repeat' (first | simp -implicitDefEqProofs only [go_sem, seval] | simp -implicitDefEqProofs (disch := omega) only [ars, if_pos, exV_some, Option.map_some] | ((with_reducible first | apply exB_dec | apply exB_intro) <;> intro _) | with_reducible refine exC_pure (c2 _) ?_ | with_reducible refine exCq_pure (c2 _) ?_)
      all_goals first | exact h | (exfalso; omega) | skip
      done
theorem mnodes_c (g : Graph) (w : Want) (down : List Bool) (H : AHeap) : APure Try.prog 75 [mapAV g w down] H (iv g.nodes) := by
  intro Q h
  refine ACalls.of_code fn_expand_Map_Nodes ?_
  simp -implicitDefEqProofs only [sc_expand_Map_Nodes, mapAV, go_sem, seval]
  repeat' (first | simp -implicitDefEqProofs only [go_sem, seval] | simp -implicitDefEqProofs (disch := omega) only [ars, if_pos, exV_some, Option.map_some] | ((with_reducible first | apply exB_dec | apply exB_intro) <;> intro _))
  all_goals first | exact h | skip
  done
theorem medges_c (g : Graph) (hf : Fit g) (w : Want) (down : List Bool) (H : AHeap) : APure Try.prog 76 [mapAV g w down] H (iv (2 * g.links.length)) := by
  intro Q h
  have := hf.few
  refine ACalls.of_code fn_expand_Map_Edges ?_
  simp -implicitDefEqProofs only [sc_expand_Map_Edges, mapAV, go_sem, seval]
  repeat' (first | simp -implicitDefEqProofs only [go_sem, seval] | simp -implicitDefEqProofs (disch := omega) only [ars, if_pos, exV_some, Option.map_some] | ((with_reducible first | apply exB_dec | apply exB_intro) <;> intro _))
  all_goals first | exact h | skip
  done
theorem enew_c (g : Graph) (hb : g.links.length * 32 ≤ 140737488351232) (hn : g.nl = true → g.links = []) (w : Want) (hw : w.ok) (nl : Bool) (down : List Bool) (H : AHeap) :
    APure Try.prog 41 [tab g, w.av, blv nl down] H (if optErr g w down = 0 then .tup [mapAV g w down, iv 0] else .tup [.raw (.pointer none), iv (optErr g w down)]) := by
  intro Q h
  have c1 := fun H => tgraph_c g hb hn H
  have c2 := fun H => onew_c g w nl down hw H
  simp only [tab, tabCells, Graph.av, Want.av, blv, sl] at c1 c2
  refine ACalls.of_code fn_expand_New ?_
  simp -implicitDefEqProofs only [sc_expand_New, tab, tabCells, Want.av, blv, sl, go_sem, seval]
  by_cases h0 : optErr g w down = 0
  · rw [if_pos h0] at h
    rw [h0] at c2
    have hw2 : waysAV g w down = ways g w down := by rw [waysAV, if_pos h0]
    rw [mapAV, tab, tabCells] at h
    rw [hw2] at h c2
    rw [ways] at h c2
    repeat' (first | simp -implicitDefEqProofs only [go_sem, seval] | simp -implicitDefEqProofs (disch := omega) only [ars, if_pos, exV_some, Option.map_some] | ((with_reducible first | apply exB_dec | apply exB_intro) <;> intro _) | with_reducible refine exC_pure (c1 _) ?_ | with_reducible refine exCq_pure (c1 _) ?_ | with_reducible refine exC_pure (c2 _) ?_ | with_reducible refine exCq_pure (c2 _) ?_)
    all_goals first | exact h | (exfalso; omega) | skip
    done
  · rw [if_neg h0] at h
    repeat' (first | simp -implicitDefEqProofs only [go_sem, seval] | simp -implicitDefEqProofs (disch := omega) only [ars, if_pos, exV_some, Option.map_some] | ((with_reducible first | apply exB_dec | apply exB_intro) <;> intro _) | with_reducible refine exC_pure (c1 _) ?_ | with_reducible refine exCq_pure (c1 _) ?_ | with_reducible refine exC_pure (c2 _) ?_ | with_reducible refine exCq_pure (c2 _) ?_)
    all_goals first | exact h | (exfalso; omega) | skip
    done
end Go.Proofs.Ytejmcijcdhoogaa
end

section
namespace Go.Proofs.Ytejmcijcdhoogaa
open Go Abs
attribute [local irreducible] EX exL exG exC exCq exS exV exIf exGd exGq exB
set_option maxHeartbeats 4000000
theorem bx_list (c : AV) (cs : List AV) (o : Nat) : bx (c :: cs) o = .box (c :: cs) o := rfl
attribute [go_sem] bx_list

structure Ld where
  s : Sg
  to : St
  deriving DecidableEq, Inhabited
instance : Enc Ld where
  sz := 4
  cells l := [bv l.s.edge, iv l.s.to, iv l.to.1, iv l.to.2]
  len _ := rfl
  pos := by decide
theorem Ld.cells_eq (l : Ld) : Enc.cells l = [bv l.s.edge, iv l.s.to, iv l.to.1, iv l.to.2] := rfl
theorem Ld.sz_eq : Enc.sz Ld = 4 := rfl
theorem rd_ld {l : List Ld} {i : Int} (h0 : 0 ≤ i) (h1 : i < l.length) : rdV (rows l) (i.toNat * 4) 4 true = some (.agg [bv (gi l i).s.edge, iv (gi l i).s.to, iv (gi l i).to.1, iv (gi l i).to.2]) := rd_row rfl h0 h1
noncomputable def ldO (g : Graph) (w : Want) (down : List Bool) (a : St) (s : Sg) : Option Ld := (segW g w down a s).map fun c => ⟨s, c⟩
def segsN (n : Int) : List Sg := (List.range n.toNat).map fun k : Nat => ⟨false, (k : Int)⟩
def segsE (n : Int) : List Sg := (List.range n.toNat).map fun k : Nat => ⟨true, (k : Int)⟩
def segsA (g : Graph) : List Sg := segsN g.nodes ++ segsE (2 * g.links.length)
theorem segsN_succ {n : Int} (h : 0 ≤ n) : segsN (n + 1) = segsN n ++ [⟨false, n⟩] := by
  unfold segsN
  rw [show (n + 1).toNat = n.toNat + 1 by omega, List.range_succ, List.map_append]
  simp [Int.toNat_of_nonneg h]
theorem segsE_succ {n : Int} (h : 0 ≤ n) : segsE (n + 1) = segsE n ++ [⟨true, n⟩] := by
  unfold segsE
  rw [show (n + 1).toNat = n.toNat + 1 by omega, List.range_succ, List.map_append]
  simp [Int.toNat_of_nonneg h]
noncomputable def leadsL (g : Graph) (w : Want) (down : List Bool) (a : St) : List Ld := (segsA g).filterMap (ldO g w down a)
noncomputable def leadsAV (g : Graph) (w : Want) (down : List Bool) (a : St) : AV := .vec (leadsL g w down a).isEmpty (rows (leadsL g w down a)) (leadsL g w down a).length
abbrev stKey (a : St) : MK := .a [a.1, a.2]
def LeadsOK (g : Graph) (w : Want) (down : List Bool) (es : List (MK × AV)) : Prop := ∀ k v, mget es k = some v → ∃ a : St, k = stKey a ∧ v = leadsAV g w down a
theorem mget_mput {es : List (MK × AV)} {k k' : MK} {v : AV} : mget (mput es k v) k' = if k = k' then some v else mget es k' := by
  induction es with
  | nil => simp [mput, mget]
  | cons e es ih =>
    obtain ⟨q, u⟩ := e
    unfold mput
    by_cases h : q = k
    · subst h
      rw [if_pos rfl]
      by_cases h2 : q = k' <;> simp [mget, h2]
    · rw [if_neg h]
      unfold mget
      by_cases h2 : q = k'
      · subst h2
        rw [if_pos rfl, if_neg (fun e => h e.symm), if_pos rfl]
      · rw [if_neg h2, ih, if_neg h2]
theorem LeadsOK.put {g : Graph} {w : Want} {down : List Bool} {es : List (MK × AV)} (h : LeadsOK g w down es) (a : St) : LeadsOK g w down (mput es (stKey a) (leadsAV g w down a)) := by
  intro k v hv
  rw [mget_mput] at hv
  split at hv
  · rename_i e
    injection hv with hv
    exact ⟨a, e.symm, hv.symm⟩
  · exact h k v hv
def LAt (H0 H : AHeap) (lb : Nat) (L : List Ld) : Prop := (∀ b o, H0 b = some o → H b = some o) ∧ H0 lb = none ∧ ((L = [] ∧ H lb = some (.cells [.vec true [] 0] 93)) ∨
  ∃ b cap, H lb = some (.cells [.raw (.slice (some ⟨b, 0, none⟩) L.length cap)] 93) ∧ H b = some (.row (rows L) cap 96 4) ∧ b ≠ lb ∧ H0 b = none ∧ L.length ≤ cap ∧ L ≠ [])
theorem LAt.open_ {H0 H : AHeap} {lb : Nat} {L : List Ld} (h : LAt H0 H lb L) : ∃ Hb v, H lb = some (.cells [v] 93) ∧ OnN Hb H 96 4 v (rows L) L.length ∧ Hb lb = some (.cells [v] 93) ∧ (∀ b o, H0 b = some o → Hb b = some o) := by
  obtain ⟨h1, h2, ⟨rfl, h3⟩ | ⟨b, cap, h3, h4, h5, h6, h7, h8⟩⟩ := h
  · exact ⟨H, _, h3, OnN.nil _ _ _, h3, h1⟩
  · refine ⟨upd H b none, _, h3, .inr ⟨fun b' o ho => ?_, by rw [rows_length, Ld.sz_eq], b, cap, rfl, h4, upd_self _ _ _, h7⟩, by rw [upd_ne _ _ h5]; exact h3, fun b' o ho => ?_⟩
    · by_cases e : b = b'
      · subst e; rw [upd_self] at ho; cases ho
      · rwa [upd_ne _ _ e] at ho
    · rw [upd_ne _ _ (by rintro rfl; rw [h6] at ho; cases ho)]
      exact h1 b' o ho
theorem LAt.shut_ {H0 Hb H1 : AHeap} {lb : Nat} {L : List Ld} {v v1 : AV} (hL : L ≠ []) (hlb : H0 lb = none) (hb : Hb lb = some (.cells [v] 93)) (hbase : ∀ b o, H0 b = some o → Hb b = some o) (h : OnH Hb H1 96 4 v1 (rows L) L.length) :
    LAt H0 (upd H1 lb (some (.cells [v1] 93))) lb L := by
  obtain ⟨h1, h2, b, cap, rfl, h3, h4, h5⟩ := h
  have hne : lb ≠ b := by rintro rfl; rw [h4] at hb; cases hb
  refine ⟨fun b' o ho => ?_, hlb, .inr ⟨b, cap, upd_self _ _ _, by rw [upd_ne _ _ hne]; exact h3, Ne.symm hne, ?_, h5, hL⟩⟩
  · rw [upd_ne _ _ (by rintro rfl; rw [hlb] at ho; cases ho)]
    exact h1 b' o (hbase b' o ho)
  · cases hq : H0 b with
    | none => rfl
    | some o => rw [hbase b o hq] at h4; cases h4
theorem LAt.more {H0 H : AHeap} {lb : Nat} {L : List Ld} (h : LAt H0 H lb L) {b5 : Nat} {x : HObj} (hb : H b5 = none) : LAt H0 (upd H b5 (some x)) lb L := by
  have keep : ∀ b o, H b = some o → upd H b5 (some x) b = some o := fun b o ho => by rw [upd_ne _ _ (by rintro rfl; rw [hb] at ho; cases ho)]; exact ho
  obtain ⟨h1, h2, ⟨rfl, h3⟩ | ⟨b, cap, h3, h4, h5, h6, h7, h8⟩⟩ := h
  · exact ⟨fun b o ho => keep b o (h1 b o ho), h2, .inl ⟨rfl, keep _ _ h3⟩⟩
  · exact ⟨fun b o ho => keep b o (h1 b o ho), h2, .inr ⟨b, cap, keep _ _ h3, keep _ _ h4, h5, h6, h7, h8⟩⟩
noncomputable def xAV (g : Graph) (w : Want) (down : List Bool) (mb : Nat) : AV := .box [mapAV g w down, iv w.dst, iv (w.via.length + 1), .raw (.map (some mb))] 0
theorem add_c (g : Graph) (w : Want) (down : List Bool) (h0 : optErr g w down = 0) (mb : Nat) (a : St) (s : Sg) (hs : -9223372036854775808 ≤ s.to ∧ s.to ≤ 9223372036854775807) (H0 H : AHeap) (lb : Nat) (L : List Ld) (hL : L.length ≤ 1000) (hat : LAt H0 H lb L) :
    ACalls Try.prog 73 [s.av, .box [xAV g w down mb] 0, .box [iv a.1, iv a.2] 0, .raw (.pointer (some ⟨lb, 0, none⟩))] H fun r H' => r = .tup [] ∧ LAt H0 H' lb (L ++ (ldO g w down a s).toList) := by
  have c1 := fun H => seg_c g w down h0 a s hs H
  refine ACalls.of_code fn_compile_search_from_d1 ?_
  cases hr : segW g w down a s with
  | none =>
    rw [hr] at c1
    simp only [stateAV, stepAV, Sg.av, Sg.cells_eq, mapAV] at c1
    have : (ldO g w down a s).toList = [] := by rw [ldO, hr]; rfl
    rw [this, List.append_nil]
    simp -implicitDefEqProofs only [sc_compile_search_from_d1, xAV, Sg.av, Sg.cells_eq, mapAV, go_sem, seval]
    repeat' (first | simp -implicitDefEqProofs only [go_sem, seval] | simp -implicitDefEqProofs (disch := omega) only [ars, if_pos, exV_some, Option.map_some] | ((with_reducible first | apply exB_dec | apply exB_intro) <;> intro _) | with_reducible refine exC_pure (c1 _) ?_ | with_reducible refine exCq_pure (c1 _) ?_)
    all_goals first | exact hat | (exfalso; omega) | skip
    intro b5 hb5
    have hb5 : H b5 = none := hb5
    have hm := hat.more (x := .cells [iv 0, iv 0] 82) hb5
    repeat' (first | simp -implicitDefEqProofs only [go_sem, seval] | simp -implicitDefEqProofs (disch := omega) only [upd_self, updH_upd, ars, if_pos, exV_some, Option.map_some] | ((with_reducible first | apply exB_dec | apply exB_intro) <;> intro _) | with_reducible refine exC_pure (c1 _) ?_ | with_reducible refine exCq_pure (c1 _) ?_)
    all_goals first | exact hm | (exfalso; omega) | skip
    done
  | some c =>
    rw [hr] at c1
    simp only [stateAV, stepAV, Sg.av, Sg.cells_eq, mapAV] at c1
    have : (ldO g w down a s).toList = [⟨s, c⟩] := by rw [ldO, hr]; rfl
    rw [this]
    simp -implicitDefEqProofs only [sc_compile_search_from_d1, xAV, Sg.av, Sg.cells_eq, mapAV, go_sem, seval]
    repeat' (first | simp -implicitDefEqProofs only [go_sem, seval] | simp -implicitDefEqProofs (disch := omega) only [ars, if_pos, exV_some, Option.map_some] | ((with_reducible first | apply exB_dec | apply exB_intro) <;> intro _) | with_reducible refine exC_pure (c1 _) ?_ | with_reducible refine exCq_pure (c1 _) ?_)
    all_goals first | (exfalso; omega) | skip
    intro b5 hb5
    have hb5 : H b5 = none := hb5
    obtain ⟨Hb, v, hv, hon, hbl, hbase⟩ := (hat.more (x := .cells [iv c.1, iv c.2] 82) hb5).open_
    repeat' (first | simp -implicitDefEqProofs only [go_sem, seval] | simp -implicitDefEqProofs (disch := omega) only [upd_self, updH_upd, hv, ars, if_pos, exV_some, Option.map_some] | ((with_reducible first | apply exB_dec | apply exB_intro) <;> intro _) | with_reducible refine exC_pure (c1 _) ?_ | with_reducible refine exCq_pure (c1 _) ?_)
    all_goals first | (exfalso; omega) | skip
    refine OnN.app hon rfl (by rfl) (by omega) (by simp only [maxLen]; omega) fun H1 v1 _ h1 => ?_
    have h1 := h1 (by decide)
    have hlb1 : H1 lb = some (.cells [v] 93) := h1.1 lb _ hbl
    have hsh := LAt.shut_ (L := L ++ [⟨s, c⟩]) (by simp) hat.2.1 hbl hbase (by rw [rows_append, rows_one, List.length_append]; exact h1)
    obtain ⟨-, -, bb, cc, rfl, -, -, -⟩ := h1
    repeat' (first | simp -implicitDefEqProofs only [go_sem, seval] | simp -implicitDefEqProofs (disch := omega) only [hlb1, ars, if_pos, exV_some, Option.map_some] | ((with_reducible first | apply exB_dec | apply exB_intro) <;> intro _))
    all_goals first | exact hsh | (exfalso; omega) | skip
    done
theorem filterMap_len {α β : Type} (f : α → Option β) (l : List α) : (l.filterMap f).length ≤ l.length := List.length_filterMap_le f l
theorem segsN_len (n : Int) : (segsN n).length = n.toNat := by simp [segsN]
theorem segsE_len (n : Int) : (segsE n).length = n.toNat := by simp [segsE]
theorem cfrom_c (g : Graph) (w : Want) (down : List Bool) (h0 : optErr g w down = 0) (mb : Nat) (a : St) (es : List (MK × AV)) (hes : LeadsOK g w down es) (H : AHeap) (hm : H mb = some (.map (.a 2 .i64) es)) :
    ACalls Try.prog 46 [xAV g w down mb, stateAV a] H fun r H' => r = leadsAV g w down a ∧ ∃ es', H' = upd H mb (some (.map (.a 2 .i64) es')) ∧ LeadsOK g w down es' := by
  have wf := wfit_of (optErr_right h0)
  have hf := wf.fit
  have fn := hf.n2
  have fs := wf.src
  have n1 := fun H => mnodes_c g w down H
  have n2 := fun H => medges_c g hf w down H
  simp only [mapAV] at n1 n2
  have fw := hf.few
  suffices key : ACalls Try.prog 46 [xAV g w down mb, stateAV a] H fun r H' => r = leadsAV g w down a ∧ ∃ es', (∀ b o, upd H mb (some (.map (.a 2 .i64) es')) b = some o → H' b = some o) ∧ LeadsOK g w down es' by
    refine ACalls.relax (key.mono ?_)
    rintro r H' ⟨rfl, es', h1, h2⟩
    exact ⟨fun _ => False, upd H mb (some (.map (.a 2 .i64) es')), _, h1, by simp, Fz.refl _ _ _, rfl, es', rfl, h2⟩
  refine ACalls.of_code fn_compile_search_from ?_
  simp -implicitDefEqProofs only [sc_compile_search_from, xAV, stateAV, mapAV, go_sem, seval]
  cases hget : mget es (.a [a.1, a.2]) with
  | some v =>
    obtain ⟨a', h1, h2⟩ := hes _ _ hget
    have : a' = a := by
      simp only [stKey, MK.a.injEq, List.cons.injEq, and_true] at h1
      exact (Prod.ext h1.1 h1.2).symm
    subst this
    have hsame : ∀ b o, upd H mb (some (.map (.a 2 .i64) es)) b = some o → H b = some o := fun b o ho => by rw [updH_same hm] at ho; exact ho
    repeat' (first | simp -implicitDefEqProofs only [go_sem, seval] | simp -implicitDefEqProofs (disch := omega) only [hm, lkres, hget, Option.isSome_some, Option.isSome_none, ars, if_pos, exV_some, Option.map_some] | ((with_reducible first | apply exB_dec | apply exB_intro) <;> intro _))
    all_goals first | exact ⟨h2, es, hsame, hes⟩ | (exfalso; omega) | skip
    done
  | none =>
    repeat' (first | simp -implicitDefEqProofs only [go_sem, seval] | simp -implicitDefEqProofs (disch := omega) only [hm, lkres, hget, Option.isSome_some, Option.isSome_none, ars, if_pos, exV_some, Option.map_some] | ((with_reducible first | apply exB_dec | apply exB_intro) <;> intro _))
    all_goals first | (exfalso; omega) | skip
    intro lb hlb
    have hlb : H lb = none := hlb
    have hat0 : LAt H (upd H lb (some (.cells [.vec true [] 0] 93))) lb [] := ⟨upd_base hlb, hlb, .inl ⟨rfl, upd_self _ _ _⟩⟩
    repeat' (first | simp -implicitDefEqProofs only [go_sem, seval] | simp -implicitDefEqProofs (disch := omega) only [ars, if_pos, exV_some, Option.map_some] | ((with_reducible first | apply exB_dec | apply exB_intro) <;> intro _) | with_reducible refine exC_pure (n1 _) ?_ | with_reducible refine exCq_pure (n1 _) ?_)
    refine exL_modH (fun x : Int × AHeap => [(28, .v (iv x.1))]) (fun _ => []) (fun x => x.2) (fun x => LAt H x.2 lb ((segsN x.1).filterMap (ldO g w down a)) ∧ 0 ≤ x.1 ∧ x.1 ≤ g.nodes) (fun x => (g.nodes - x.1).toNat) (0, upd H lb (some (.cells [.vec true [] 0] 93))) rfl ⟨hat0, by simp, by dsimp only; omega⟩ ?_
    rintro ⟨n, H1⟩ ⟨hat, m0, m1⟩ ih
    dsimp only at hat m0 m1 ih
    simp only [S.up, S.upH, ups, Abs.put, Nat.reduceEqDiff, ↓reduceIte, Nat.reduceAdd] at ih
    simp -implicitDefEqProofs only [congrArg KI.code sc_compile_search_from_L1.eq_1, go_sem, seval]
    by_cases hn : n < g.nodes
    · have hlen : ((segsN n).filterMap (ldO g w down a)).length ≤ 40 := by
        refine Nat.le_trans (filterMap_len _ _) ?_
        rw [segsN_len]; omega
      have ad := add_c g w down h0 mb a ⟨false, n⟩ ⟨by dsimp only; omega, by dsimp only; omega⟩ H H1 lb _ (by omega) hat
      simp only [Sg.av, Sg.cells_eq, xAV, mapAV] at ad
      have nxt := fun H2 hh => ih (n + 1, H2) ⟨hh, by dsimp only; omega, by dsimp only; omega⟩ (by dsimp only; omega)
      dsimp only at nxt
      rw [segsN_succ m0, List.filterMap_append] at nxt
      clear ih
      repeat' (first | simp -implicitDefEqProofs only [go_sem, seval] | simp -implicitDefEqProofs (disch := omega) only [ars, if_pos, exV_some, Option.map_some] | ((with_reducible first | apply exB_dec | apply exB_intro) <;> intro _))
      all_goals first | (exfalso; omega) | skip
      refine exC_intro ad ?_
      rintro _ H2 ⟨rfl, hat2⟩
      have nx := nxt H2 (by
        have e : List.filterMap (ldO g w down a) [(⟨false, n⟩ : Sg)] = (ldO g w down a ⟨false, n⟩).toList := by
          cases hq : ldO g w down a ⟨false, n⟩ <;> simp [hq]
        rw [e]; exact hat2)
      simp -implicitDefEqProofs only [go_sem, seval]
      repeat' (first | simp -implicitDefEqProofs only [go_sem, seval] | simp -implicitDefEqProofs (disch := omega) only [ars, if_pos, exV_some, Option.map_some] | ((with_reducible first | apply exB_dec | apply exB_intro) <;> intro _))
      all_goals first | exact nx | (exfalso; omega) | skip
      done
    · obtain rfl : n = g.nodes := by omega
      clear ih
      repeat' (first | simp -implicitDefEqProofs only [go_sem, seval] | simp -implicitDefEqProofs (disch := omega) only [ars, if_pos, exV_some, Option.map_some] | ((with_reducible first | apply exB_dec | apply exB_intro) <;> intro _) | with_reducible refine exC_pure (n2 _) ?_ | with_reducible refine exCq_pure (n2 _) ?_)
      all_goals first | (exfalso; omega) | skip
      refine exL_modH (fun x : Int × AHeap => [(41, .v (iv x.1))]) (fun _ => []) (fun x => x.2) (fun x => LAt H x.2 lb ((segsN g.nodes ++ segsE x.1).filterMap (ldO g w down a)) ∧ 0 ≤ x.1 ∧ x.1 ≤ 2 * g.links.length) (fun x => (2 * (g.links.length : Int) - x.1).toNat) (0, H1) rfl ⟨by simpa [segsE] using hat, by simp, by dsimp only; omega⟩ ?_
      rintro ⟨k, H2⟩ ⟨hat2, k0, k1⟩ ih
      dsimp only at hat2 k0 k1 ih
      simp only [S.up, S.upH, ups, Abs.put, Nat.reduceEqDiff, ↓reduceIte, Nat.reduceAdd] at ih
      simp -implicitDefEqProofs only [congrArg KI.code sc_compile_search_from_L0.eq_1, go_sem, seval]
      by_cases hk : k < 2 * g.links.length
      · have hlen : ((segsN g.nodes ++ segsE k).filterMap (ldO g w down a)).length ≤ 1000 := by
          refine Nat.le_trans (filterMap_len _ _) ?_
          rw [List.length_append, segsN_len, segsE_len]; omega
        have ad := add_c g w down h0 mb a ⟨true, k⟩ ⟨by dsimp only; omega, by dsimp only; omega⟩ H H2 lb _ hlen hat2
        simp only [Sg.av, Sg.cells_eq, xAV, mapAV] at ad
        have nxt := fun H3 hh => ih (k + 1, H3) ⟨hh, by dsimp only; omega, by dsimp only; omega⟩ (by dsimp only; omega)
        dsimp only at nxt
        rw [segsE_succ k0, ← List.append_assoc, List.filterMap_append] at nxt
        clear ih
        repeat' (first | simp -implicitDefEqProofs only [go_sem, seval] | simp -implicitDefEqProofs (disch := omega) only [ars, if_pos, exV_some, Option.map_some] | ((with_reducible first | apply exB_dec | apply exB_intro) <;> intro _))
        all_goals first | (exfalso; omega) | skip
        refine exC_intro ad ?_
        rintro _ H3 ⟨rfl, hat3⟩
        have nx := nxt H3 (by
          have e : List.filterMap (ldO g w down a) [(⟨true, k⟩ : Sg)] = (ldO g w down a ⟨true, k⟩).toList := by
            cases hq : ldO g w down a ⟨true, k⟩ <;> simp [hq]
          rw [e]; exact hat3)
        simp -implicitDefEqProofs only [go_sem, seval]
        repeat' (first | simp -implicitDefEqProofs only [go_sem, seval] | simp -implicitDefEqProofs (disch := omega) only [ars, if_pos, exV_some, Option.map_some] | ((with_reducible first | apply exB_dec | apply exB_intro) <;> intro _))
        all_goals first | exact nx | (exfalso; omega) | skip
        done
      · obtain rfl : k = 2 * g.links.length := by omega
        clear ih
        have hL : (segsN g.nodes ++ segsE (2 * g.links.length)).filterMap (ldO g w down a) = leadsL g w down a := rfl
        rw [hL] at hat2
        have hput := hes.put a
        simp only [stKey] at hput
        have hne : lb ≠ mb := by rintro rfl; rw [hlb] at hm; cases hm
        obtain ⟨hbase, -, ⟨hnil, hc⟩ | ⟨b, cap, hc, hr, hblb, hHb, hcap, hne0⟩⟩ := hat2
        · have hlv : leadsAV g w down a = .vec true [] 0 := by rw [leadsAV, hnil]; rfl
          rw [hlv] at hput
          have e1 : upd H2 lb (some (.cells [.vec true [] 0] 93)) mb = some (.map (.a 2 .i64) es) := by rw [upd_ne _ _ hne]; exact hbase _ _ hm
          have e2 : upd (upd H2 lb (some (.cells [.vec true [] 0] 93))) mb (some (.map (.a 2 .i64) (mput es (.a [a.1, a.2]) (.vec true [] 0)))) lb = some (.cells [.vec true [] 0] 93) := by
            rw [upd_ne _ _ (Ne.symm hne), upd_self]
          have hincl : ∀ b o, upd H mb (some (.map (.a 2 .i64) (mput es (.a [a.1, a.2]) (.vec true [] 0)))) b = some o → upd (upd H2 lb (some (.cells [.vec true [] 0] 93))) mb (some (.map (.a 2 .i64) (mput es (.a [a.1, a.2]) (.vec true [] 0)))) b = some o := fun b o ho => by
            by_cases e : mb = b
            · subst e; rw [upd_self] at ho ⊢; exact ho
            · rw [upd_ne _ _ e] at ho ⊢
              rw [upd_ne _ _ (by rintro rfl; rw [hlb] at ho; cases ho)]
              exact hbase b o ho
          repeat' (first | simp -implicitDefEqProofs only [go_sem, seval] | simp -implicitDefEqProofs (disch := omega) only [hc, e1, e2, ars, if_pos, exV_some, Option.map_some] | ((with_reducible first | apply exB_dec | apply exB_intro) <;> intro _))
          all_goals first | (exfalso; omega) | skip
          exact ⟨hlv.symm, _, hincl, hput⟩
        · have hle : (leadsL g w down a).length * 4 ≤ (rows (leadsL g w down a)).length := by rw [rows_length, Ld.sz_eq]; exact Nat.le_refl _
          have htk : List.take ((leadsL g w down a).length * 4) (rows (leadsL g w down a)) = rows (leadsL g w down a) := List.take_of_length_le (by rw [rows_length, Ld.sz_eq]; exact Nat.le_refl _)
          have hlv : leadsAV g w down a = .vec false (rows (leadsL g w down a)) (leadsL g w down a).length := by
            rw [leadsAV]
            cases hq : leadsL g w down a with
            | nil => exact absurd hq hne0
            | cons x l => rfl
          rw [hlv] at hput
          have hbmb : b ≠ mb := by rintro rfl; rw [hHb] at hm; cases hm
          have e1 : upd (upd H2 b none) lb (some (.cells [.vec false (rows (leadsL g w down a)) (leadsL g w down a).length] 93)) mb = some (.map (.a 2 .i64) es) := by rw [upd_ne _ _ hne, upd_ne _ _ hbmb]; exact hbase _ _ hm
          have e2 : upd (upd (upd H2 b none) lb (some (.cells [.vec false (rows (leadsL g w down a)) (leadsL g w down a).length] 93))) mb (some (.map (.a 2 .i64) (mput es (.a [a.1, a.2]) (.vec false (rows (leadsL g w down a)) (leadsL g w down a).length)))) lb = some (.cells [.vec false (rows (leadsL g w down a)) (leadsL g w down a).length] 93) := by
            rw [upd_ne _ _ (Ne.symm hne), upd_self]
          have hincl : ∀ b' o, upd H mb (some (.map (.a 2 .i64) (mput es (.a [a.1, a.2]) (.vec false (rows (leadsL g w down a)) (leadsL g w down a).length)))) b' = some o → upd (upd (upd H2 b none) lb (some (.cells [.vec false (rows (leadsL g w down a)) (leadsL g w down a).length] 93))) mb (some (.map (.a 2 .i64) (mput es (.a [a.1, a.2]) (.vec false (rows (leadsL g w down a)) (leadsL g w down a).length)))) b' = some o := fun b' o ho => by
            by_cases e : mb = b'
            · subst e; rw [upd_self] at ho ⊢; exact ho
            · rw [upd_ne _ _ e] at ho ⊢
              rw [upd_ne _ _ (by rintro rfl; rw [hlb] at ho; cases ho), upd_ne _ _ (by rintro rfl; rw [hHb] at ho; cases ho)]
              exact hbase b' o ho
          repeat' (first | simp -implicitDefEqProofs only [go_sem, seval] | simp -implicitDefEqProofs (disch := omega) only [hc, hr, hle, htk, Nat.le_refl, hcap, and_self, if_true, e1, e2, ars, if_pos, exV_some, Option.map_some] | ((with_reducible first | apply exB_dec | apply exB_intro) <;> intro _))
          all_goals first | (exfalso; omega) | skip
          exact ⟨hlv.symm, _, hincl, hput⟩
end Go.Proofs.Ytejmcijcdhoogaa
end

section
namespace Go.Proofs.Ytejmcijcdhoogaa
open Go Abs
attribute [local irreducible] EX exL exG exC exCq exS exV exIf exGd exGq exB
set_option maxHeartbeats 4000000

instance : Enc (Int × Int) where
  sz := 2
  cells a := [iv a.1, iv a.2]
  len _ := rfl
  pos := by decide
theorem St.cells_eq (a : St) : Enc.cells a = [iv a.1, iv a.2] := rfl
theorem St.sz_eq : Enc.sz St = 2 := rfl
theorem rd_st {l : List St} {i : Int} (h0 : 0 ≤ i) (h1 : i < l.length) : rdV (rows l) (i.toNat * 2) 2 true = some (.agg [iv (gi l i).1, iv (gi l i).2]) := rd_row rfl h0 h1
def stsAV (l : List St) : AV := .vec l.isEmpty (rows l) l.length
section
variable (g : Graph) (w : Want) (down : List Bool)
def rngS (g : Graph) (c : St) : Prop := (0 ≤ c.1 ∧ c.1 < g.nodes) ∧ 0 ≤ c.2 ∧ c.2 < 6
noncomputable def tosL (a : St) : List St := (leadsL g w down a).map (·.to)
def addS (acc : List St × List St) (c : St) : List St × List St := if c ∈ acc.1 then acc else (acc.1 ++ [c], acc.2 ++ [c])
noncomputable def roundN (seen R : List St) : List St × List St := (R.flatMap (tosL g w down)).foldl addS (seen, [])
noncomputable def rs : Nat → List St × List (List St)
  | 0 => ([startW w], [[startW w]])
  | n + 1 => ((roundN g w down (rs n).1 (gi (rs n).2 n)).1, (rs n).2 ++ [(roundN g w down (rs n).1 (gi (rs n).2 n)).2])
end
section
variable {g : Graph} {w : Want} {down : List Bool}
theorem rs_length (n : Nat) : (rs g w down n).2.length = n + 1 := by
  induction n with
  | zero => rfl
  | succ n ih => rw [rs, List.length_append, ih]; rfl
theorem seg_range (wf : WFit g w) {a c : St} {s : Sg} (h : segW g w down a s = some c) : rngS g c := by
  unfold segW at h
  split at h
  · exact stepW_range wf h
  · unfold segN at h
    split at h
    · cases h
    · rename_i hne
      have h1 := endN_reach wf.fit h
      have h2 := endN_at wf.fit h
      cases h1 with
      | refl => exact absurd h2 hne
      | step _ _ _ hs => exact stepW_range wf hs
theorem leads_mem {a : St} {l : Ld} (h : l ∈ leadsL g w down a) : segW g w down a l.s = some l.to := by
  unfold leadsL at h
  obtain ⟨s, -, h2⟩ := List.mem_filterMap.1 h
  unfold ldO at h2
  obtain ⟨c, hc, rfl⟩ := Option.map_eq_some_iff.1 h2
  exact hc
theorem leads_length (g : Graph) (w : Want) (down : List Bool) (a : St) : (leadsL g w down a).length ≤ g.nodes.toNat + 2 * g.links.length := by
  unfold leadsL segsA
  refine Nat.le_trans (filterMap_len _ _) ?_
  rw [List.length_append, segsN_len, segsE_len]
  omega
theorem states_few {l : List St} (hf : Fit g) (hn : l.Nodup) (hr : ∀ c ∈ l, rngS g c) : l.length ≤ 240 := by
  have fn := hf.n2
  have hsub : l ⊆ (List.range 40).flatMap fun i : Nat => (List.range 6).map fun j : Nat => ((i : Int), (j : Int)) := by
    intro c hc
    obtain ⟨h1, h2⟩ := hr c hc
    rw [List.mem_flatMap]
    refine ⟨c.1.toNat, List.mem_range.2 (by omega), List.mem_map.2 ⟨c.2.toNat, List.mem_range.2 (by omega), ?_⟩⟩
    exact Prod.ext (by dsimp only; omega) (by dsimp only; omega)
  exact Nat.le_trans (List.Nodup.length_le_of_subset hn hsub) (by decide +kernel)
def SOk (g : Graph) (acc : List St × List St) : Prop := acc.1.Nodup ∧ (∀ c ∈ acc.1, rngS g c) ∧ acc.2 ⊆ acc.1 ∧ acc.2.length ≤ acc.1.length
theorem SOk.add {acc : List St × List St} (h : SOk g acc) {c : St} (hc : rngS g c) : SOk g (addS acc c) := by
  obtain ⟨h1, h2, h3, h4⟩ := h
  unfold addS
  split
  · exact ⟨h1, h2, h3, h4⟩
  · rename_i hn
    refine ⟨?_, fun x hx => ?_, fun x hx => ?_, by simp; omega⟩
    · rw [List.nodup_append]
      exact ⟨h1, by simp, fun a ha b hb => by rintro rfl; rw [List.mem_singleton] at hb; exact hn (hb ▸ ha)⟩
    · rcases List.mem_append.1 hx with hx | hx
      · exact h2 x hx
      · rw [List.mem_singleton.1 hx]; exact hc
    · rcases List.mem_append.1 hx with hx | hx
      · exact List.mem_append_left _ (h3 hx)
      · exact List.mem_append_right _ hx
theorem SOk.fold {l : List St} {acc : List St × List St} (h : SOk g acc) (hl : ∀ c ∈ l, rngS g c) : SOk g (l.foldl addS acc) := by
  induction l generalizing acc with
  | nil => exact h
  | cons c l ih =>
    rw [List.foldl_cons]
    exact ih (h.add (hl c (by simp))) fun x hx => hl x (by simp [hx])
theorem tos_range (wf : WFit g w) {a c : St} (h : c ∈ tosL g w down a) : rngS g c := by
  obtain ⟨l, hl, rfl⟩ := List.mem_map.1 h
  exact seg_range wf (leads_mem hl)
theorem flat_range (wf : WFit g w) {R : List St} {c : St} (h : c ∈ R.flatMap (tosL g w down)) : rngS g c := by
  obtain ⟨a, -, h2⟩ := List.mem_flatMap.1 h
  exact tos_range wf h2
theorem rs_ok (wf : WFit g w) (hsr : rngS g (startW w)) : ∀ n, ((rs g w down n).1.Nodup ∧ ∀ c ∈ (rs g w down n).1, rngS g c) ∧ ∀ R ∈ (rs g w down n).2, R ⊆ (rs g w down n).1 ∧ R.length ≤ 240
  | 0 => ⟨⟨by simp [rs], fun c hc => by rw [rs, List.mem_singleton] at hc; rw [hc]; exact hsr⟩, fun R hR => by
    rw [rs, List.mem_singleton] at hR
    rw [hR]
    exact ⟨fun c hc => hc, by simp⟩⟩
  | n + 1 => by
    obtain ⟨⟨h1, h2⟩, h3⟩ := rs_ok wf hsr n
    have hk : SOk g (roundN g w down (rs g w down n).1 (gi (rs g w down n).2 n)) := SOk.fold ⟨h1, h2, by simp, by simp⟩ fun c hc => flat_range wf hc
    have hfew := states_few wf.fit hk.1 hk.2.1
    have hup : ∀ (l : List St) (acc : List St × List St), acc.1 ⊆ (l.foldl addS acc).1 := by
      intro l
      induction l with
      | nil => intro acc x hx; exact hx
      | cons c l ih =>
        intro acc x hx
        refine ih _ ?_
        unfold addS
        split
        · exact hx
        · exact List.mem_append_left _ hx
    rw [rs]
    refine ⟨⟨hk.1, hk.2.1⟩, fun R hR => ?_⟩
    rcases List.mem_append.1 hR with hR | hR
    · exact ⟨fun c hc => hup _ _ ((h3 R hR).1 hc), (h3 R hR).2⟩
    · rw [List.mem_singleton.1 hR]
      exact ⟨hk.2.2.1, Nat.le_trans hk.2.2.2 hfew⟩
structure SHp (g : Graph) (w : Want) (down : List Bool) (H H' : AHeap) (mb sb : Nat) (seen : List St) : Prop where
  ne : sb ≠ mb
  new : H sb = none
  base : ∀ b o, H b = some o → b ≠ mb → H' b = some o
  leads : ∃ es, H' mb = some (.map (.a 2 .i64) es) ∧ LeadsOK g w down es
  seen : ∃ es, H' sb = some (.map (.a 2 .i64) es) ∧ ∀ c : St, mget es (stKey c) = if c ∈ seen then some (bv true) else none
theorem SHp.led {H H' : AHeap} {mb sb : Nat} {seen : List St} (h : SHp g w down H H' mb sb seen) {es : List (MK × AV)} (hes : LeadsOK g w down es) : SHp g w down H (upd H' mb (some (.map (.a 2 .i64) es))) mb sb seen := by
  refine ⟨h.ne, h.new, fun b o ho hb => by rw [upd_ne _ _ (Ne.symm hb)]; exact h.base b o ho hb, ⟨es, upd_self _ _ _, hes⟩, ?_⟩
  rw [upd_ne _ _ (Ne.symm h.ne)]
  exact h.seen
theorem SHp.saw {H H' : AHeap} {mb sb : Nat} {seen : List St} (h : SHp g w down H H' mb sb seen) {es : List (MK × AV)} (he : H' sb = some (.map (.a 2 .i64) es)) (hs : ∀ c : St, mget es (stKey c) = if c ∈ seen then some (bv true) else none) (c : St) :
    SHp g w down H (upd H' sb (some (.map (.a 2 .i64) (mput es (stKey c) (bv true))))) mb sb (seen ++ [c]) := by
  refine ⟨h.ne, h.new, fun b o ho hb => by rw [upd_ne _ _ (by rintro rfl; rw [h.new] at ho; cases ho)]; exact h.base b o ho hb, ?_, ⟨_, upd_self _ _ _, fun c' => ?_⟩⟩
  · rw [upd_ne _ _ h.ne]; exact h.leads
  · rw [mget_mput]
    by_cases e : c = c'
    · subst e
      rw [if_pos rfl, if_pos (by simp)]
    · rw [if_neg (by
        intro hh
        simp only [stKey, MK.a.injEq, List.cons.injEq, and_true] at hh
        exact e (Prod.ext hh.1 hh.2)), hs c']
      by_cases h2 : c' ∈ seen
      · rw [if_pos h2, if_pos (by simp [h2])]
      · rw [if_neg h2, if_neg (by simp [h2]; exact fun hh => e hh.symm)]
end
theorem outs_get {out : List (List St)} {n : Int} (h0 : 0 ≤ n) (h1 : n < out.length) : rdV (out.map stsAV) (n.toNat * 1) 1 false = some (stsAV (gi out n)) := rd_map h0 h1
theorem exS_avs1 {P : Program} {s : S} {dst : Option Nat} {e by_ d : Nat} {nly : Bool} {l : List AV} {n : Nat} {x : AV} {r : List KI} {K : AEx → S → Prop} (hg : get s.loc d = some (.arr false l n e 1)) (h2 : (n + 1) * by_ ≤ 140737488355328) (h3 : n + 1 ≤ maxLen)
    (k : EX P r K (s.arr d dst false (l ++ [x]) (n + 1) e 1)) : exS P (appq s dst e 1 by_ (.own d) (.v (.vec nly [x] 1))) r K := by
  rw [appq_own hg rfl h2 h3, exS_some]
  exact k
theorem rounds_c (g : Graph) (w : Want) (down : List Bool) (h0 : optErr g w down = 0) (mb : Nat) (depth : Int) (hd : 0 ≤ depth ∧ depth ≤ 10) (es : List (MK × AV)) (hes : LeadsOK g w down es) (H : AHeap) (hm : H mb = some (.map (.a 2 .i64) es)) (hsr : rngS g (startW w)) :
    ACalls Try.prog 44 [xAV g w down mb, stateAV (startW w), iv depth] H fun r H' => (∃ es', H' = upd H mb (some (.map (.a 2 .i64) es')) ∧ LeadsOK g w down es') ∧
      ((∃ n : Nat, (n : Int) ≤ depth ∧ goalW w ∈ (rs g w down n).1 ∧ (∀ m : Nat, m < n → goalW w ∉ (rs g w down m).1) ∧ r = .tup [.vec false ((rs g w down n).2.map stsAV) (rs g w down n).2.length, bv true]) ∨
        ((∀ m : Nat, (m : Int) ≤ depth → goalW w ∉ (rs g w down m).1) ∧ r = .tup [.vec true [] 0, bv false])) := by
  have wf := wfit_of (optErr_right h0)
  have hf := wf.fit
  have fn := hf.n2
  have fw := hf.few
  suffices key : ACalls Try.prog 44 [xAV g w down mb, stateAV (startW w), iv depth] H fun r H' => (∃ es', (∀ b o, upd H mb (some (.map (.a 2 .i64) es')) b = some o → H' b = some o) ∧ LeadsOK g w down es') ∧
      ((∃ n : Nat, (n : Int) ≤ depth ∧ goalW w ∈ (rs g w down n).1 ∧ (∀ m : Nat, m < n → goalW w ∉ (rs g w down m).1) ∧ r = .tup [.vec false ((rs g w down n).2.map stsAV) (rs g w down n).2.length, bv true]) ∨
        ((∀ m : Nat, (m : Int) ≤ depth → goalW w ∉ (rs g w down m).1) ∧ r = .tup [.vec true [] 0, bv false])) by
    refine ACalls.relax (key.mono ?_)
    rintro r H' ⟨⟨es', h1, h2⟩, h3⟩
    exact ⟨fun _ => False, upd H mb (some (.map (.a 2 .i64) es')), _, h1, by simp, Fz.refl _ _ _, ⟨es', rfl, h2⟩, h3⟩
  have fin : ∀ {H' : AHeap} {sb : Nat} {seen : List St}, SHp g w down H H' mb sb seen → ∃ es', (∀ b o, upd H mb (some (.map (.a 2 .i64) es')) b = some o → H' b = some o) ∧ LeadsOK g w down es' := by
    intro H' sb seen h
    obtain ⟨es', h1, h2⟩ := h.leads
    refine ⟨es', fun b o ho => ?_, h2⟩
    by_cases e : mb = b
    · subst e; rw [upd_self] at ho; rw [h1]; exact ho
    · rw [upd_ne _ _ e] at ho
      exact h.base b o ho (Ne.symm e)
  refine ACalls.of_code fn_compile_search_rounds ?_
  simp -implicitDefEqProofs only [sc_compile_search_rounds, xAV, stateAV, go_sem, seval]
  repeat' (first | simp -implicitDefEqProofs only [go_sem, seval] | simp -implicitDefEqProofs (disch := omega) only [ars, if_pos, exV_some, Option.map_some] | ((with_reducible first | apply exB_dec | apply exB_intro) <;> intro _))
  intro sb hsb
  have hsb : H sb = none := hsb
  have hne : sb ≠ mb := by rintro rfl; rw [hsb] at hm; cases hm
  have hsh0 : SHp g w down H (upd (upd H sb (some (.map (.a 2 .i64) []))) sb (some (.map (.a 2 .i64) (mput [] (stKey (startW w)) (bv true))))) mb sb ([] ++ [startW w]) := by
    refine SHp.saw ⟨hne, hsb, fun b o ho hb => by rw [upd_ne _ _ (by rintro rfl; rw [hsb] at ho; cases ho)]; exact ho, ⟨es, by rw [upd_ne _ _ hne]; exact hm, hes⟩, ⟨[], upd_self _ _ _, fun c => by simp [mget]⟩⟩ (upd_self _ _ _) (fun c => by simp [mget]) _
  repeat' (first | simp -implicitDefEqProofs only [go_sem, seval] | simp -implicitDefEqProofs (disch := omega) only [upd_self, ars, if_pos, exV_some, Option.map_some] | ((with_reducible first | apply exB_dec | apply exB_intro) <;> intro _))
  all_goals first | (exfalso; omega) | skip
  refine exL_modH (fun a : Nat × AHeap => [(10, .v (iv (a.1 : Int)))]) (fun a => [(21, .arr false ((rs g w down a.1).2.map stsAV) (a.1 + 1) 105 1)]) (fun a => a.2) (fun a => SHp g w down H a.2 mb sb (rs g w down a.1).1 ∧ (a.1 : Int) ≤ depth ∧ ∀ m : Nat, m < a.1 → goalW w ∉ (rs g w down m).1) (fun a => (depth - a.1).toNat) (0, _) rfl ⟨hsh0, by dsimp only; omega, fun m hm => by omega⟩ ?_
  rintro ⟨n, H1⟩ ⟨hsh, n1, hno⟩ ih
  dsimp only at hsh n1 hno ih
  simp only [S.up, S.upH, ups, Abs.put, Nat.reduceEqDiff, ↓reduceIte, Nat.reduceAdd] at ih
  simp -implicitDefEqProofs only [congrArg KI.code sc_compile_search_rounds_L2.eq_1, go_sem, seval]
  obtain ⟨ss, hs1, hs2⟩ := hsh.seen
  have hgo := hs2 (goalW w)
  have hrl := rs_length (g := g) (w := w) (down := down) n
  by_cases hin : goalW w ∈ (rs g w down n).1
  · rw [if_pos hin] at hgo
    simp only [stKey, goalW] at hgo
    have hf2 := fin hsh
    clear ih
    repeat' (first | simp -implicitDefEqProofs only [go_sem, seval] | simp -implicitDefEqProofs (disch := omega) only [hs1, lkres, hgo, Option.getD_some, ars, if_pos, exV_some, Option.map_some] | ((with_reducible first | apply exB_dec | apply exB_intro) <;> intro _))
    all_goals first | exact ⟨hf2, .inl ⟨n, n1, hin, hno, by rw [hrl]⟩⟩ | (exfalso; omega) | skip
    done
  rw [if_neg hin] at hgo
  simp only [stKey, goalW] at hgo
  by_cases hnd : (n : Int) = depth
  · have hf2 := fin hsh
    have hall : ∀ m : Nat, (m : Int) ≤ depth → goalW w ∉ (rs g w down m).1 := fun m hm => by
      by_cases e : m = n
      · rw [e]; exact hin
      · exact hno m (by omega)
    clear ih
    repeat' (first | simp -implicitDefEqProofs only [go_sem, seval] | simp -implicitDefEqProofs (disch := omega) only [hs1, lkres, hgo, Option.getD_none, ars, if_pos, exV_some, Option.map_some] | ((with_reducible first | apply exB_dec | apply exB_intro) <;> intro _))
    all_goals first | exact ⟨hf2, .inr hall⟩ | (exfalso; omega) | skip
    done
  obtain ⟨⟨hok1, hok2⟩, hok3⟩ := rs_ok (down := down) wf hsr n
  obtain ⟨R, hR⟩ : ∃ R, R = gi (rs g w down n).2 n := ⟨_, rfl⟩
  have hRl : R.length ≤ 240 := by
    rw [hR]
    exact (hok3 _ (gi_mem (by omega) (by omega))).2
  have hget := outs_get (out := (rs g w down n).2) (n := (n : Int)) (by omega) (by omega)
  rw [← hR, stsAV] at hget
  obtain ⟨seen, hse⟩ : ∃ seen, seen = (rs g w down n).1 := ⟨_, rfl⟩
  have nxt := fun H2 (hh : SHp g w down H H2 mb sb (rs g w down (n + 1)).1) => ih (n + 1, H2) ⟨hh, by dsimp only; omega, fun m hm => by
    by_cases e : m = n
    · rw [e]; exact hin
    · exact hno m (by dsimp only at hm; omega)⟩ (by dsimp only; omega)
  dsimp only at nxt
  rw [rs, ← hR] at nxt
  dsimp only at nxt
  rw [← hse] at nxt hsh hin hs2 hok1 hok2
  clear ih
  repeat' (first | simp -implicitDefEqProofs only [go_sem, seval] | simp -implicitDefEqProofs (disch := omega) only [hs1, lkres, hgo, Option.getD_none, hget, ars, if_pos, exV_some, Option.map_some] | ((with_reducible first | apply exB_dec | apply exB_intro) <;> intro _))
  all_goals first | (exfalso; omega) | skip
  refine exL_modH (fun a : Int × AHeap => [(11, .own 63), (39, .v (iv a.1))]) (fun a => [(63, .arr (((R.take a.1.toNat).flatMap (tosL g w down)).foldl addS (seen, [])).2.isEmpty (rows (((R.take a.1.toNat).flatMap (tosL g w down)).foldl addS (seen, [])).2) (((R.take a.1.toNat).flatMap (tosL g w down)).foldl addS (seen, [])).2.length 82 2)]) (fun a => a.2) (fun a => SHp g w down H a.2 mb sb (((R.take a.1.toNat).flatMap (tosL g w down)).foldl addS (seen, [])).1 ∧ 0 ≤ a.1 ∧ a.1 ≤ R.length) (fun a => (R.length - a.1).toNat) (0, H1) rfl ⟨hsh, by simp, by simp⟩ ?_
  rintro ⟨i, H2⟩ ⟨hsh2, i0, i1⟩ ih
  dsimp only at hsh2 i0 i1 ih
  simp only [S.up, S.upH, ups, Abs.put, Nat.reduceEqDiff, ↓reduceIte, Nat.reduceAdd] at ih
  simp -implicitDefEqProofs only [congrArg KI.code sc_compile_search_rounds_L1.eq_1, go_sem, seval]
  by_cases hi : i < R.length
  · obtain ⟨es2, he2, hl2⟩ := hsh2.leads
    have cf := cfrom_c g w down h0 mb (gi R i) es2 hl2 H2 he2
    simp only [stateAV, leadsAV, xAV] at cf
    have hRi := rd_st (l := R) i0 hi
    obtain ⟨acc0, hacc0⟩ : ∃ a, a = ((R.take i.toNat).flatMap (tosL g w down)).foldl addS (seen, []) := ⟨_, rfl⟩
    rw [← hacc0] at hsh2 ⊢
    have hok : SOk g acc0 := by rw [hacc0]; exact SOk.fold ⟨hok1, hok2, by simp, by simp⟩ fun c hc => flat_range wf hc
    have nxt2 := fun H3 hh => ih (i + 1, H3) ⟨hh, by dsimp only; omega, by dsimp only; omega⟩ (by dsimp only; omega)
    dsimp only at nxt2
    rw [take_gi i0 hi, List.flatMap_append, List.foldl_append, ← hacc0, List.flatMap_singleton] at nxt2
    clear ih nxt
    repeat' (first | simp -implicitDefEqProofs only [go_sem, seval] | simp -implicitDefEqProofs (disch := omega) only [hRi, ars, if_pos, exV_some, Option.map_some] | ((with_reducible first | apply exB_dec | apply exB_intro) <;> intro _))
    all_goals first | (exfalso; omega) | skip
    refine exC_intro cf ?_
    rintro _ H3 ⟨rfl, es3, rfl, hl3⟩
    have hsh3 := hsh2.led hl3
    obtain ⟨lds, hlds⟩ : ∃ l, l = leadsL g w down (gi R i) := ⟨_, rfl⟩
    have hll := leads_length g w down (gi R i)
    have hto : tosL g w down (gi R i) = lds.map (·.to) := by rw [hlds]; rfl
    have hrg : ∀ l ∈ lds, rngS g l.to := fun l hl => seg_range wf (leads_mem (hlds ▸ hl))
    rw [hto] at nxt2
    rw [← hlds] at hll ⊢
    clear hlds hto cf
    simp -implicitDefEqProofs only [go_sem, seval]
    repeat' (first | simp -implicitDefEqProofs only [go_sem, seval] | simp -implicitDefEqProofs (disch := omega) only [ars, if_pos, exV_some, Option.map_some] | ((with_reducible first | apply exB_dec | apply exB_intro) <;> intro _))
    all_goals first | (exfalso; omega) | skip
    refine exL_modH (fun a : Int × AHeap => [(11, .own 63), (47, .v (iv a.1))]) (fun a => [(63, .arr (((lds.take a.1.toNat).map (·.to)).foldl addS acc0).2.isEmpty (rows (((lds.take a.1.toNat).map (·.to)).foldl addS acc0).2) (((lds.take a.1.toNat).map (·.to)).foldl addS acc0).2.length 82 2)]) (fun a => a.2) (fun a => SHp g w down H a.2 mb sb (((lds.take a.1.toNat).map (·.to)).foldl addS acc0).1 ∧ 0 ≤ a.1 ∧ a.1 ≤ lds.length) (fun a => (lds.length - a.1).toNat) (0, _) rfl ⟨hsh3, by simp, by simp⟩ ?_
    rintro ⟨j, H4⟩ ⟨hsh4, j0, j1⟩ ih
    dsimp only at hsh4 j0 j1 ih
    simp only [S.up, S.upH, ups, Abs.put, Nat.reduceEqDiff, ↓reduceIte, Nat.reduceAdd] at ih
    simp -implicitDefEqProofs only [congrArg KI.code sc_compile_search_rounds_L0.eq_1, go_sem, seval]
    by_cases hj : j < lds.length
    · have hlj := rd_ld (l := lds) j0 hj
      obtain ⟨acc, hacc⟩ : ∃ a, a = ((lds.take j.toNat).map (·.to)).foldl addS acc0 := ⟨_, rfl⟩
      have hok4 : SOk g acc := by
        rw [hacc]
        refine SOk.fold hok fun c hc => ?_
        obtain ⟨l, hl, rfl⟩ := List.mem_map.1 hc
        exact hrg l (List.mem_of_mem_take hl)
      have hfew := states_few hf hok4.1 hok4.2.1
      have hfew2 := hok4.2.2.2
      rw [← hacc] at hsh4 ⊢
      obtain ⟨ss4, hs41, hs42⟩ := hsh4.seen
      have hsw := hs42 (gi lds j).to
      have nxt3 := fun H5 hh => ih (j + 1, H5) ⟨hh, by dsimp only; omega, by dsimp only; omega⟩ (by dsimp only; omega)
      dsimp only at nxt3
      rw [take_gi j0 hj, List.map_append, List.foldl_append, ← hacc] at nxt3
      simp only [List.map_cons, List.map_nil, List.foldl_cons, List.foldl_nil] at nxt3
      clear ih nxt2
      by_cases hin4 : (gi lds j).to ∈ acc.1
      · rw [if_pos hin4] at hsw
        simp only [stKey] at hsw
        rw [addS, if_pos hin4] at nxt3
        have nx := nxt3 H4 hsh4
        clear nxt3
        repeat' (first | simp -implicitDefEqProofs only [go_sem, seval] | simp -implicitDefEqProofs (disch := omega) only [hlj, hs41, lkres, hsw, Option.getD_some, ars, if_pos, exV_some, Option.map_some] | ((with_reducible first | apply exB_dec | apply exB_intro) <;> intro _))
        all_goals first | exact nx | (exfalso; omega) | skip
        done
      · rw [if_neg hin4] at hsw
        simp only [stKey] at hsw
        rw [addS, if_neg hin4] at nxt3
        have nx := nxt3 _ (hsh4.saw hs41 hs42 (gi lds j).to)
        simp only [stKey] at nx
        clear nxt3
        repeat' (first | simp -implicitDefEqProofs only [go_sem, seval] | simp -implicitDefEqProofs (disch := omega) only [hlj, hs41, lkres, hsw, Option.getD_none, ars, if_pos, exV_some, Option.map_some] | ((with_reducible first | apply exB_dec | apply exB_intro) <;> intro _))
        all_goals first | (exfalso; omega) | skip
        refine exS_rows (gi lds j).to rfl rfl rfl (by omega) (by simp only [maxLen]; omega) ?_
        repeat' (first | simp -implicitDefEqProofs only [go_sem, seval] | simp -implicitDefEqProofs (disch := omega) only [ars, if_pos, exV_some, Option.map_some] | ((with_reducible first | apply exB_dec | apply exB_intro) <;> intro _))
        all_goals first | exact nx | (exfalso; omega) | skip
        done
    · obtain rfl : j = lds.length := by omega
      clear ih
      rw [Int.toNat_natCast, List.take_length] at hsh4 ⊢
      have nx := nxt2 H4 hsh4
      clear nxt2
      repeat' (first | simp -implicitDefEqProofs only [go_sem, seval] | simp -implicitDefEqProofs (disch := omega) only [ars, if_pos, exV_some, Option.map_some] | ((with_reducible first | apply exB_dec | apply exB_intro) <;> intro _))
      all_goals first | exact nx | (exfalso; omega) | skip
      done
  · obtain rfl : i = R.length := by omega
    clear ih
    rw [Int.toNat_natCast, List.take_length] at hsh2 ⊢
    have nx := nxt H2 hsh2
    clear nxt
    repeat' (first | simp -implicitDefEqProofs only [go_sem, seval] | simp -implicitDefEqProofs (disch := omega) only [ars, if_pos, exV_some, Option.map_some] | ((with_reducible first | apply exB_dec | apply exB_intro) <;> intro _))
    all_goals first | (exfalso; omega) | skip
    refine exS_avs1 rfl (by omega) (by simp only [maxLen]; omega) ?_
    rw [List.map_append] at nx
    repeat' (first | simp -implicitDefEqProofs only [go_sem, seval] | simp -implicitDefEqProofs (disch := omega) only [ars, if_pos, exV_some, Option.map_some] | ((with_reducible first | apply exB_dec | apply exB_intro) <;> intro _))
    all_goals first | exact nx | (exfalso; omega) | skip
    done
end Go.Proofs.Ytejmcijcdhoogaa
end

section
namespace Go.Proofs.Ytejmcijcdhoogaa
open Go Abs
attribute [local irreducible] EX exL exG exC exCq exS exV exIf exGd exGq exB
set_option maxHeartbeats 4000000
def mvv (b : Option Nat) : AV := .raw (.map b)
theorem set_mvv {l : List (Option Nat)} {k : Nat} {b : Option Nat} : (l.map mvv).set (k * 1) (.raw (.map b)) = (l.set k b).map mvv := by rw [Nat.mul_one, List.map_set]; rfl
def Says (es : List (MK × AV)) (p : St → Prop) : Prop := ∀ c : St, (p c → mget es (stKey c) = some (bv true)) ∧ (¬ p c → mget es (stKey c) = none)
theorem Says.put {es : List (MK × AV)} {p q : St → Prop} {a : St} (h : Says es p) (hq : ∀ c, q c ↔ p c ∨ c = a) : Says (mput es (stKey a) (bv true)) q := by
  intro c
  rw [mget_mput]
  by_cases e : a = c
  · subst e
    rw [if_pos rfl]
    exact ⟨fun _ => rfl, fun hn => absurd ((hq a).2 (.inr rfl)) hn⟩
  · rw [if_neg (by
      intro hh
      simp only [stKey, MK.a.injEq, List.cons.injEq, and_true] at hh
      exact e (Prod.ext hh.1 hh.2))]
    exact ⟨fun hh => (h c).1 (((hq c).1 hh).resolve_right fun e' => e e'.symm), fun hh => (h c).2 fun hp => hh ((hq c).2 (.inl hp))⟩
theorem Says.iff {es : List (MK × AV)} {p q : St → Prop} (h : Says es p) (hq : ∀ c, q c ↔ p c) : Says es q := fun c => ⟨fun hh => (h c).1 ((hq c).1 hh), fun hh => (h c).2 fun hp => hh ((hq c).2 hp)⟩
section
variable (g : Graph) (w : Want) (down : List Bool) (R : List (List St))
def Lf : Nat → St → Prop
  | 0, a => a = goalW w
  | k + 1, a => a ∈ gi R ((R.length : Int) - 2 - k) ∧ ∃ l ∈ leadsL g w down a, Lf k l.to
def LOk (mb : Nat) (H : AHeap) (bs : List (Option Nat)) (n : Int) : Prop := bs.length = R.length ∧ ∀ i : Int, n < i → 0 ≤ i → i < R.length → ∃ b es, gi bs i = some b ∧ b ≠ mb ∧ H b = some (.map (.a 2 .i64) es) ∧ Says es (Lf g w down R ((R.length : Int) - 1 - i).toNat)
end
structure MHp (g : Graph) (w : Want) (down : List Bool) (H H' : AHeap) (mb sb : Nat) (p : St → Prop) : Prop where
  ne : sb ≠ mb
  new : H sb = none
  base : ∀ b o, H b = some o → b ≠ mb → H' b = some o
  leads : ∃ es, H' mb = some (.map (.a 2 .i64) es) ∧ LeadsOK g w down es
  says : ∃ es, H' sb = some (.map (.a 2 .i64) es) ∧ Says es p
section
variable {g : Graph} {w : Want} {down : List Bool} {H H' : AHeap} {mb sb : Nat} {p q : St → Prop}
theorem MHp.led (h : MHp g w down H H' mb sb p) {es : List (MK × AV)} (hes : LeadsOK g w down es) : MHp g w down H (upd H' mb (some (.map (.a 2 .i64) es))) mb sb p := by
  refine ⟨h.ne, h.new, fun b o ho hb => by rw [upd_ne _ _ (Ne.symm hb)]; exact h.base b o ho hb, ⟨es, upd_self _ _ _, hes⟩, ?_⟩
  rw [upd_ne _ _ (Ne.symm h.ne)]
  exact h.says
theorem MHp.put (h : MHp g w down H H' mb sb p) {es : List (MK × AV)} (he : H' sb = some (.map (.a 2 .i64) es)) (hs : Says es p) (a : St) (hq : ∀ c, q c ↔ p c ∨ c = a) : MHp g w down H (upd H' sb (some (.map (.a 2 .i64) (mput es (stKey a) (bv true))))) mb sb q := by
  refine ⟨h.ne, h.new, fun b o ho hb => by rw [upd_ne _ _ (by rintro rfl; rw [h.new] at ho; cases ho)]; exact h.base b o ho hb, ?_, ⟨_, upd_self _ _ _, hs.put hq⟩⟩
  rw [upd_ne _ _ h.ne]; exact h.leads
theorem MHp.iff (h : MHp g w down H H' mb sb p) (hq : ∀ c, q c ↔ p c) : MHp g w down H H' mb sb q := by
  obtain ⟨es, h1, h2⟩ := h.says
  exact ⟨h.ne, h.new, h.base, h.leads, es, h1, h2.iff hq⟩
end
theorem left_c (g : Graph) (w : Want) (down : List Bool) (h0 : optErr g w down = 0) (mb : Nat) (R : List (List St)) (hR : 1 ≤ R.length ∧ R.length ≤ 20) (hR2 : ∀ l ∈ R, l.length ≤ 240) (es : List (MK × AV)) (hes : LeadsOK g w down es) (H : AHeap) (hm : H mb = some (.map (.a 2 .i64) es)) :
    ACalls Try.prog 45 [xAV g w down mb, .vec false (R.map stsAV) R.length] H fun r H' => (∀ b o, H b = some o → b ≠ mb → H' b = some o) ∧ (∃ es', H' mb = some (.map (.a 2 .i64) es') ∧ LeadsOK g w down es') ∧ ∃ bs, r = .vec false (bs.map mvv) R.length ∧ LOk g w down R mb H' bs (-1) := by
  have wf := wfit_of (optErr_right h0)
  have hf := wf.fit
  have fn := hf.n2
  have fw := hf.few
  refine ACalls.of_code fn_compile_search_left ?_
  simp -implicitDefEqProofs only [sc_compile_search_left, xAV, go_sem, seval]
  repeat' (first | simp -implicitDefEqProofs only [go_sem, seval] | simp -implicitDefEqProofs (disch := omega) only [ars, if_pos, exV_some, Option.map_some] | ((with_reducible first | apply exB_dec | apply exB_intro) <;> intro _))
  all_goals first | (exfalso; omega) | skip
  refine exMk_int (by omega) (by omega) (by simp only [maxLen]; omega) rfl ?_
  rw [zrep_one, show ((R.length : Nat) : Int).toNat = R.length by omega, show List.replicate R.length (cAV (.map none)) = (List.replicate R.length (none : Option Nat)).map mvv by rw [List.map_replicate]; rfl]
  repeat' (first | simp -implicitDefEqProofs only [go_sem, seval] | simp -implicitDefEqProofs (disch := omega) only [upd_self, set_mvv, ars, if_pos, exV_some, Option.map_some] | ((with_reducible first | apply exB_dec | apply exB_intro) <;> intro _))
  all_goals first | (exfalso; omega) | skip
  intro b0 hb0
  have hb0 : H b0 = none := hb0
  have hne0 : b0 ≠ mb := by rintro rfl; rw [hb0] at hm; cases hm
  repeat' (first | simp -implicitDefEqProofs only [go_sem, seval] | simp -implicitDefEqProofs (disch := omega) only [upd_self, set_mvv, List.length_replicate, ars, if_pos, exV_some, Option.map_some] | ((with_reducible first | apply exB_dec | apply exB_intro) <;> intro _))
  all_goals first | (exfalso; omega) | skip
  have hm0 : MHp g w down H (upd (upd H b0 (some (.map (.a 2 .i64) []))) b0 (some (.map (.a 2 .i64) (mput [] (stKey (goalW w)) (bv true))))) mb b0 (Lf g w down R 0) := by
    refine MHp.put (p := fun _ => False) ⟨hne0, hb0, fun b o ho hb => by rw [upd_ne _ _ (by rintro rfl; rw [hb0] at ho; cases ho)]; exact ho, ⟨es, by rw [upd_ne _ _ hne0]; exact hm, hes⟩, ⟨[], upd_self _ _ _, fun c => ⟨False.elim, fun _ => rfl⟩⟩⟩ (upd_self _ _ _) (fun c => ⟨False.elim, fun _ => rfl⟩) _ fun c => ?_
    simp [Lf]
  have hlk0 : LOk g w down R mb (upd (upd H b0 (some (.map (.a 2 .i64) []))) b0 (some (.map (.a 2 .i64) (mput [] (stKey (goalW w)) (bv true))))) ((List.replicate R.length none).set ((R.length : Int) - 1).toNat (some b0)) ((R.length : Int) - 2) := by
    refine ⟨by simp, fun i hi hi0 hi1 => ?_⟩
    obtain rfl : i = (R.length : Int) - 1 := by omega
    obtain ⟨esb, h1, h2⟩ := hm0.says
    refine ⟨b0, esb, ?_, hne0, h1, ?_⟩
    · rw [gi_get (by simp; omega)]; simp
    · rw [Int.sub_self]; exact h2
  refine exL_modH (fun a : Int × List (Option Nat) × AHeap => [(6, .v (iv a.1))]) (fun a => [(13, .arr false (a.2.1.map mvv) R.length 92 1)]) (fun a => a.2.2) (fun a => LOk g w down R mb a.2.2 a.2.1 a.1 ∧ (∀ b o, H b = some o → b ≠ mb → a.2.2 b = some o) ∧ (∃ es', a.2.2 mb = some (.map (.a 2 .i64) es') ∧ LeadsOK g w down es') ∧ -1 ≤ a.1 ∧ a.1 ≤ R.length - 2) (fun a => (a.1 + 1).toNat) ((R.length : Int) - 2, (List.replicate R.length none).set ((R.length : Int) - 1).toNat (some b0), _) rfl ⟨hlk0, hm0.base, hm0.leads, by dsimp only; omega, by dsimp only; omega⟩ ?_
  rintro ⟨n, bs, H1⟩ ⟨hok, hbase, ⟨es1, hm1, hes1⟩, n0, n1⟩ ih
  dsimp only at hok hbase hm1 n0 n1 ih
  simp only [S.up, S.upH, ups, Abs.put, Nat.reduceEqDiff, ↓reduceIte, Nat.reduceAdd] at ih
  simp -implicitDefEqProofs only [congrArg KI.code sc_compile_search_left_L2.eq_1, go_sem, seval]
  by_cases hn : 0 ≤ n
  · obtain ⟨hbl, hbs⟩ := hok
    obtain ⟨b1, esn, hg1, hb1m, hH1, hs1⟩ := hbs (n + 1) (by omega) (by omega) (by omega)
    obtain ⟨k, hk⟩ : ∃ k : Nat, (k : Int) = R.length - 2 - n := ⟨((R.length : Int) - 2 - n).toNat, by omega⟩
    rw [show ((R.length : Int) - 1 - (n + 1)).toNat = k by omega] at hs1
    have hRn := outs_get (out := R) (n := n) hn (by omega)
    have hRl := hR2 _ (gi_mem (l := R) hn (by omega))
    obtain ⟨A, hA⟩ : ∃ A, A = gi R n := ⟨_, rfl⟩
    rw [← hA, stsAV] at hRn
    rw [← hA] at hRl
    repeat' (first | simp -implicitDefEqProofs only [go_sem, seval] | simp -implicitDefEqProofs (disch := omega) only [upd_self, set_mvv, List.length_map, hbl, ars, if_pos, exV_some, Option.map_some] | ((with_reducible first | apply exB_dec | apply exB_intro) <;> intro _))
    all_goals first | (exfalso; omega) | skip
    intro b hb
    have hb : H1 b = none := hb
    have hbm : b ≠ mb := by rintro rfl; rw [hb] at hm1; cases hm1
    have hs0 : MHp g w down H1 (upd H1 b (some (.map (.a 2 .i64) []))) mb b (fun _ => False) := ⟨hbm, hb, fun b' o ho hb' => by rw [upd_ne _ _ (by rintro rfl; rw [hb] at ho; cases ho)]; exact ho, ⟨es1, by rw [upd_ne _ _ hbm]; exact hm1, hes1⟩, ⟨[], upd_self _ _ _, fun c => ⟨False.elim, fun _ => rfl⟩⟩⟩
    repeat' (first | simp -implicitDefEqProofs only [go_sem, seval] | simp -implicitDefEqProofs (disch := omega) only [upd_self, set_mvv, List.length_map, hbl, stsAV, ars, if_pos, exV_some, Option.map_some] | ((with_reducible first | apply exB_dec | apply exB_intro) <;> intro _))
    all_goals first | (exfalso; omega) | skip
    rw [← hA]
    have nxt := fun H2 (hh : MHp g w down H1 H2 mb b (Lf g w down R (k + 1))) => ih (n - 1, bs.set n.toNat (some b), H2) ⟨⟨by simp [hbl], fun i hi hi0 hi1 => by
        obtain ⟨esb, q1, q2⟩ := hh.says
        rw [gi_set hn (by omega) hi0]
        by_cases e : i = n
        · rw [if_pos e]
          refine ⟨b, esb, rfl, hbm, q1, ?_⟩
          rw [e, show ((R.length : Int) - 1 - n).toNat = k + 1 by omega]
          exact q2
        · rw [if_neg e]
          obtain ⟨b2, es2, p1, p2, p3, p4⟩ := hbs i (by dsimp only at hi; omega) hi0 hi1
          exact ⟨b2, es2, p1, p2, hh.base _ _ p3 p2, p4⟩⟩, fun b' o ho hb' => hh.base b' o (hbase b' o ho hb') hb', hh.leads, by dsimp only; omega, by dsimp only; omega⟩ (by dsimp only; omega)
    dsimp only at nxt
    clear ih
    refine exL_modH (fun a : Int × AHeap => [(41, .v (iv a.1))]) (fun a => []) (fun a => a.2) (fun a => MHp g w down H1 a.2 mb b (fun c => c ∈ A.take a.1.toNat ∧ ∃ l ∈ leadsL g w down c, Lf g w down R k l.to) ∧ 0 ≤ a.1 ∧ a.1 ≤ A.length) (fun a => (A.length - a.1).toNat) (0, _) rfl ⟨hs0.iff fun c => by simp, by simp, by simp⟩ ?_
    rintro ⟨i, H2⟩ ⟨hsh2, i0, i1⟩ ih
    dsimp only at hsh2 i0 i1 ih
    simp only [S.up, S.upH, ups, Abs.put, Nat.reduceEqDiff, ↓reduceIte, Nat.reduceAdd] at ih
    simp -implicitDefEqProofs only [congrArg KI.code sc_compile_search_left_L1.eq_1, go_sem, seval]
    by_cases hi : i < A.length
    · obtain ⟨es2, he2, hl2⟩ := hsh2.leads
      have cf := cfrom_c g w down h0 mb (gi A i) es2 hl2 H2 he2
      simp only [stateAV, leadsAV, xAV] at cf
      have hRi := rd_st (l := A) i0 hi
      have nxt2 := fun H3 hh => ih (i + 1, H3) ⟨hh, by dsimp only; omega, by dsimp only; omega⟩ (by dsimp only; omega)
      dsimp only at nxt2
      rw [take_gi i0 hi] at nxt2
      clear ih nxt
      repeat' (first | simp -implicitDefEqProofs only [go_sem, seval] | simp -implicitDefEqProofs (disch := omega) only [hRi, ars, if_pos, exV_some, Option.map_some] | ((with_reducible first | apply exB_dec | apply exB_intro) <;> intro _))
      all_goals first | (exfalso; omega) | skip
      refine exC_intro cf ?_
      rintro _ H3 ⟨rfl, es3, rfl, hl3⟩
      have hsh3 := hsh2.led hl3
      obtain ⟨lds, hlds⟩ : ∃ l, l = leadsL g w down (gi A i) := ⟨_, rfl⟩
      have hll := leads_length g w down (gi A i)
      rw [← hlds] at hll ⊢
      clear cf
      simp -implicitDefEqProofs only [go_sem, seval]
      repeat' (first | simp -implicitDefEqProofs only [go_sem, seval] | simp -implicitDefEqProofs (disch := omega) only [ars, if_pos, exV_some, Option.map_some] | ((with_reducible first | apply exB_dec | apply exB_intro) <;> intro _))
      all_goals first | (exfalso; omega) | skip
      obtain ⟨P0, hP0⟩ : ∃ P0 : St → Prop, P0 = fun c => c ∈ A.take i.toNat ∧ ∃ l ∈ leadsL g w down c, Lf g w down R k l.to := ⟨_, rfl⟩
      rw [← hP0] at hsh3
      refine exL_modH (fun a : Int × AHeap => [(49, .v (iv a.1))]) (fun a => []) (fun a => a.2) (fun a => MHp g w down H1 a.2 mb b (fun c => P0 c ∨ (c = gi A i ∧ ∃ l ∈ lds.take a.1.toNat, Lf g w down R k l.to)) ∧ 0 ≤ a.1 ∧ a.1 ≤ lds.length) (fun a => (lds.length - a.1).toNat) (0, _) rfl ⟨hsh3.iff fun c => by simp, by simp, by simp⟩ ?_
      rintro ⟨j, H4⟩ ⟨hsh4, j0, j1⟩ ih
      dsimp only at hsh4 j0 j1 ih
      simp only [S.up, S.upH, ups, Abs.put, Nat.reduceEqDiff, ↓reduceIte, Nat.reduceAdd] at ih
      simp -implicitDefEqProofs only [congrArg KI.code sc_compile_search_left_L0.eq_1, go_sem, seval]
      by_cases hj : j < lds.length
      · have hlj := rd_ld (l := lds) j0 hj
        have hH4 := hsh4.base _ _ hH1 hb1m
        have hg1' : gi (bs.set n.toNat (some b)) (n + 1) = some b1 := by rw [gi_set hn (by omega) (by omega), if_neg (by omega)]; exact hg1
        have hg2' : gi (bs.set n.toNat (some b)) n = some b := by rw [gi_set hn (by omega) hn, if_pos rfl]
        have hrd1 : rdV ((bs.set n.toNat (some b)).map mvv) ((n + 1).toNat * 1) 1 false = some (.raw (.map (some b1))) := by
          rw [rd_map (by omega) (by rw [List.length_set]; omega), hg1']; rfl
        have hrd2 : rdV ((bs.set n.toNat (some b)).map mvv) (n.toNat * 1) 1 false = some (.raw (.map (some b))) := by
          rw [rd_map (by omega) (by rw [List.length_set]; omega), hg2']; rfl
        have hsw := hs1 (gi lds j).to
        have nxt3 := fun H5 hh => ih (j + 1, H5) ⟨hh, by dsimp only; omega, by dsimp only; omega⟩ (by dsimp only; omega)
        dsimp only at nxt3
        rw [take_gi j0 hj] at nxt3
        clear ih nxt2
        by_cases hin : Lf g w down R k (gi lds j).to
        · have hsw := hsw.1 hin
          simp only [stKey] at hsw
          obtain ⟨esb, hsb1, hsb2⟩ := hsh4.says
          have nx := nxt3 _ (hsh4.put hsb1 hsb2 (gi A i) fun c => by
            constructor
            · rintro (h | ⟨h1, -⟩)
              · exact .inl (.inl h)
              · exact .inr h1
            · rintro ((h | ⟨h1, l, hl, h2⟩) | h)
              · exact .inl h
              · exact .inr ⟨h1, l, List.mem_append_left _ hl, h2⟩
              · exact .inr ⟨h, gi lds j, by simp, hin⟩)
          simp only [stKey] at nx
          clear nxt3
          repeat' (first | simp -implicitDefEqProofs only [go_sem, seval] | simp -implicitDefEqProofs (disch := omega) only [hlj, hrd1, hrd2, hH4, hsb1, lkres, hsw, Option.getD_some, ars, if_pos, exV_some, Option.map_some] | ((with_reducible first | apply exB_dec | apply exB_intro) <;> intro _))
          all_goals first | exact nx | (exfalso; omega) | skip
          done
        · have hsw := hsw.2 hin
          simp only [stKey] at hsw
          have nx := nxt3 H4 (hsh4.iff fun c => by
            constructor
            · rintro (h | ⟨h1, l, hl, h2⟩)
              · exact .inl h
              · rcases List.mem_append.1 hl with hl | hl
                · exact .inr ⟨h1, l, hl, h2⟩
                · rw [List.mem_singleton.1 hl] at h2; exact absurd h2 hin
            · rintro (h | ⟨h1, l, hl, h2⟩)
              · exact .inl h
              · exact .inr ⟨h1, l, List.mem_append_left _ hl, h2⟩)
          clear nxt3
          repeat' (first | simp -implicitDefEqProofs only [go_sem, seval] | simp -implicitDefEqProofs (disch := omega) only [hlj, hrd1, hrd2, hH4, lkres, hsw, Option.getD_none, ars, if_pos, exV_some, Option.map_some] | ((with_reducible first | apply exB_dec | apply exB_intro) <;> intro _))
          all_goals first | exact nx | (exfalso; omega) | skip
          done
      · obtain rfl : j = lds.length := by omega
        clear ih
        rw [Int.toNat_natCast, List.take_length] at hsh4
        have nx := nxt2 H4 (hsh4.iff fun c => by
          rw [hP0]
          dsimp only
          rw [List.mem_append, List.mem_singleton, hlds]
          constructor
          · rintro ⟨h1 | h1, h2⟩
            · exact .inl ⟨h1, h2⟩
            · exact .inr ⟨h1, h1 ▸ h2⟩
          · rintro (⟨h1, h2⟩ | ⟨h1, h2⟩)
            · exact ⟨.inl h1, h2⟩
            · exact ⟨.inr h1, h1 ▸ h2⟩)
        clear nxt2
        repeat' (first | simp -implicitDefEqProofs only [go_sem, seval] | simp -implicitDefEqProofs (disch := omega) only [ars, if_pos, exV_some, Option.map_some] | ((with_reducible first | apply exB_dec | apply exB_intro) <;> intro _))
        all_goals first | exact nx | (exfalso; omega) | skip
        done
    · obtain rfl : i = A.length := by omega
      clear ih
      rw [Int.toNat_natCast, List.take_length] at hsh2
      have nx := nxt H2 (hsh2.iff fun c => by
        rw [Lf, show (R.length : Int) - 2 - (k : Int) = n by omega, ← hA])
      clear nxt
      repeat' (first | simp -implicitDefEqProofs only [go_sem, seval] | simp -implicitDefEqProofs (disch := omega) only [ars, if_pos, exV_some, Option.map_some] | ((with_reducible first | apply exB_dec | apply exB_intro) <;> intro _))
      all_goals first | exact nx | (exfalso; omega) | skip
      done
  · obtain rfl : n = -1 := by omega
    clear ih
    repeat' (first | simp -implicitDefEqProofs only [go_sem, seval] | simp -implicitDefEqProofs (disch := omega) only [ars, if_pos, exV_some, Option.map_some] | ((with_reducible first | apply exB_dec | apply exB_intro) <;> intro _))
    all_goals first | exact ⟨hbase, ⟨es1, hm1, hes1⟩, bs, rfl, hok⟩ | (exfalso; omega) | skip
    done
end Go.Proofs.Ytejmcijcdhoogaa
end

section
namespace Go.Proofs.Ytejmcijcdhoogaa
open Go Abs
attribute [local irreducible] EX exL exG exC exCq exS exV exIf exGd exGq exB
set_option maxHeartbeats 1000000
theorem leastN {p : Nat → Prop} (h : ∃ n, p n) : ∃ n, p n ∧ ∀ m, p m → n ≤ m := by
  obtain ⟨n, hn⟩ := h
  induction n using Nat.strongRecOn with
  | _ n ih =>
    by_cases hm : ∃ m < n, p m
    · obtain ⟨m, h1, h2⟩ := hm
      exact ih m h1 h2
    · exact ⟨n, hn, fun m h => Nat.le_of_not_lt fun h' => hm ⟨m, h', h⟩⟩
section
variable (g : Graph) (w : Want) (down : List Bool)
def Ch : Nat → St → Prop
  | 0, c => c = startW w
  | k + 1, c => ∃ a, Ch k a ∧ c ∈ tosL g w down a
def Tg : Nat → St → Prop
  | 0, a => a = goalW w
  | k + 1, a => ∃ l ∈ leadsL g w down a, Tg k l.to
noncomputable instance (k : Nat) (a : St) : Decidable (Tg g w down k a) := Classical.propDecidable _
noncomputable def lst : Nat → St → List Sg
  | 0, _ => []
  | k + 1, a => match (leadsL g w down a).find? fun l => decide (Tg g w down k l.to) with
    | some l => l.s :: lst k l.to
    | none => []
noncomputable instance (n : Nat) : Decidable (∃ k, k ≤ n ∧ Tg g w down k (startW w)) := Classical.propDecidable _
noncomputable def few (h : ∃ k, Tg g w down k (startW w)) : Nat := (leastN h).choose
def cut10 (depth : Int) : Nat := (max 0 (min depth 10)).toNat
noncomputable def compW (depth : Int) : List Sg × Int :=
  if optErr g w down ≠ 0 then ([], optErr g w down)
  else if h : ∃ k, k ≤ cut10 depth ∧ Tg g w down k (startW w) then (lst g w down (few g w down ⟨h.choose, h.choose_spec.2⟩) (startW w), 0)
  else ([], 9)
end
section
variable {g : Graph} {w : Want} {down : List Bool}
theorem few_spec (h : ∃ k, Tg g w down k (startW w)) : Tg g w down (few g w down h) (startW w) := by
  exact (leastN h).choose_spec.1
theorem few_least (h : ∃ k, Tg g w down k (startW w)) {m : Nat} (hm : Tg g w down m (startW w)) : few g w down h ≤ m := by
  exact (leastN h).choose_spec.2 _ hm
theorem few_eq {n : Nat} (hn : Tg g w down n (startW w)) (hl : ∀ m, Tg g w down m (startW w) → n ≤ m) (h : ∃ k, Tg g w down k (startW w)) : few g w down h = n :=
  Nat.le_antisymm (few_least h hn) (hl _ (few_spec h))
theorem mem_tos {a c : St} : c ∈ tosL g w down a ↔ ∃ l ∈ leadsL g w down a, l.to = c := by
  rw [tosL, List.mem_map]
theorem ch_tg {c : St} : ∀ {m k : Nat}, Ch g w down m c → Tg g w down k c → Tg g w down (m + k) (startW w)
  | 0, k, h, h2 => by rw [Ch] at h; rw [← h, Nat.zero_add]; exact h2
  | m + 1, k, h, h2 => by
    obtain ⟨a, h1, h3⟩ := h
    obtain ⟨l, hl, rfl⟩ := mem_tos.1 h3
    have := ch_tg h1 (k := k + 1) ⟨l, hl, h2⟩
    rwa [show m + 1 + k = m + (k + 1) by omega]
theorem tg_ch {a : St} : ∀ {m k : Nat}, Ch g w down m a → Tg g w down k a → Ch g w down (m + k) (goalW w)
  | m, 0, h, h2 => by rw [Tg] at h2; rw [← h2]; exact h
  | m, k + 1, h, h2 => by
    obtain ⟨l, hl, h3⟩ := h2
    have := tg_ch (m := m + 1) (k := k) ⟨a, h, mem_tos.2 ⟨l, hl, rfl⟩⟩ h3
    rwa [show m + (k + 1) = m + 1 + k by omega]
theorem ch_goal {n : Nat} : Ch g w down n (goalW w) ↔ Tg g w down n (startW w) :=
  ⟨fun h => by simpa using ch_tg (k := 0) h rfl, fun h => by simpa using tg_ch (m := 0) rfl h⟩
theorem lst_length : ∀ {n : Nat} {a : St}, Tg g w down n a → (lst g w down n a).length = n
  | 0, _, _ => rfl
  | n + 1, a, h => by
    obtain ⟨l, hl, h2⟩ := h
    rw [lst]
    cases hf : (leadsL g w down a).find? fun l => decide (Tg g w down n l.to) with
    | none => exact absurd h2 (by simpa using List.find?_eq_none.1 hf l hl)
    | some l' =>
      have := List.find?_some hf
      rw [decide_eq_true_eq] at this
      dsimp only
      rw [List.length_cons, lst_length this]
theorem fold_mem {L : List St} {acc : List St × List St} {c : St} : (c ∈ (L.foldl addS acc).1 ↔ c ∈ acc.1 ∨ c ∈ L) ∧ (c ∈ (L.foldl addS acc).2 ↔ c ∈ acc.2 ∨ (c ∈ L ∧ c ∉ acc.1)) := by
  induction L generalizing acc with
  | nil => simp
  | cons x L ih =>
    rw [List.foldl_cons]
    obtain ⟨h1, h2⟩ := ih (acc := addS acc x)
    rw [h1, h2]
    unfold addS
    by_cases hx : x ∈ acc.1
    · rw [if_pos hx]
      constructor
      · constructor
        · rintro (h | h)
          · exact .inl h
          · exact .inr (List.mem_cons_of_mem _ h)
        · rintro (h | h)
          · exact .inl h
          · rcases List.mem_cons.1 h with rfl | h
            · exact .inl hx
            · exact .inr h
      · constructor
        · rintro (h | ⟨h, h'⟩)
          · exact .inl h
          · exact .inr ⟨List.mem_cons_of_mem _ h, h'⟩
        · rintro (h | ⟨h, h'⟩)
          · exact .inl h
          · rcases List.mem_cons.1 h with rfl | h
            · exact absurd hx h'
            · exact .inr ⟨h, h'⟩
    · rw [if_neg hx]
      dsimp only
      constructor
      · rw [List.mem_append, List.mem_singleton, List.mem_cons, or_assoc]
      · rw [List.mem_append, List.mem_singleton, List.mem_append, List.mem_singleton, List.mem_cons]
        constructor
        · rintro ((h | rfl) | ⟨h, h'⟩)
          · exact .inl h
          · exact .inr ⟨.inl rfl, hx⟩
          · exact .inr ⟨.inr h, fun hh => h' (.inl hh)⟩
        · rintro (h | ⟨rfl | h, h'⟩)
          · exact .inl (.inl h)
          · exact .inl (.inr rfl)
          · by_cases e : c = x
            · exact .inl (.inr e)
            · exact .inr ⟨h, fun hh => hh.elim h' e⟩
theorem rs_mem : ∀ n : Nat, (∀ c, c ∈ (rs g w down n).1 ↔ ∃ k ≤ n, Ch g w down k c) ∧ ∀ k : Nat, k ≤ n → ∀ c, c ∈ gi (rs g w down n).2 k ↔ (Ch g w down k c ∧ ∀ m < k, ¬ Ch g w down m c)
  | 0 => by
    refine ⟨fun c => ?_, fun k hk c => ?_⟩
    · rw [rs, List.mem_singleton]
      constructor
      · intro h
        exact ⟨0, Nat.le_refl _, h⟩
      · rintro ⟨k, hk, h⟩
        obtain rfl : k = 0 := by omega
        exact h
    · obtain rfl : k = 0 := by omega
      rw [rs]
      show c ∈ [startW w] ↔ _
      rw [List.mem_singleton]
      exact ⟨fun h => ⟨h, fun m hm => by omega⟩, fun h => h.1⟩
  | n + 1 => by
    obtain ⟨h1, h2⟩ := rs_mem n
    have hl := rs_length (g := g) (w := w) (down := down) n
    have hL : ∀ c, c ∈ (gi (rs g w down n).2 n).flatMap (tosL g w down) ↔ ∃ a, (Ch g w down n a ∧ ∀ m < n, ¬ Ch g w down m a) ∧ c ∈ tosL g w down a := by
      intro c
      rw [List.mem_flatMap]
      exact ⟨fun ⟨a, ha, hc⟩ => ⟨a, (h2 n (Nat.le_refl _) a).1 ha, hc⟩, fun ⟨a, ha, hc⟩ => ⟨a, (h2 n (Nat.le_refl _) a).2 ha, hc⟩⟩
    have hup : ∀ c, Ch g w down (n + 1) c → (∃ k ≤ n, Ch g w down k c) ∨ c ∈ (gi (rs g w down n).2 n).flatMap (tosL g w down) := by
      rintro c ⟨a, ha, hc⟩
      by_cases hm : ∃ m < n, Ch g w down m a
      · obtain ⟨m, hm, hma⟩ := hm
        exact .inl ⟨m + 1, by omega, a, hma, hc⟩
      · exact .inr ((hL c).2 ⟨a, ⟨ha, fun m hm' hh => hm ⟨m, hm', hh⟩⟩, hc⟩)
    refine ⟨fun c => ?_, fun k hk c => ?_⟩
    · rw [rs]
      show c ∈ (List.foldl addS _ _).1 ↔ _
      rw [fold_mem.1, h1 c]
      constructor
      · rintro (⟨k, hk, h⟩ | h)
        · exact ⟨k, by omega, h⟩
        · obtain ⟨a, ⟨ha, -⟩, hc⟩ := (hL c).1 h
          exact ⟨n + 1, Nat.le_refl _, a, ha, hc⟩
      · rintro ⟨k, hk, h⟩
        by_cases e : k = n + 1
        · subst e; exact hup c h
        · exact .inl ⟨k, by omega, h⟩
    · rw [rs]
      dsimp only
      by_cases e : k = n + 1
      · subst e
        have hg : gi ((rs g w down n).2 ++ [(roundN g w down (rs g w down n).1 (gi (rs g w down n).2 n)).2]) ((n + 1 : Nat) : Int) = (roundN g w down (rs g w down n).1 (gi (rs g w down n).2 n)).2 := by
          rw [gi_get (by rw [List.length_append, List.length_singleton, hl]; omega)]
          rw [List.getElem_append_right (by rw [hl]; omega)]
          simp [hl]
        rw [hg]
        show c ∈ (List.foldl addS _ _).2 ↔ _
        rw [fold_mem.2, h1 c]
        constructor
        · rintro (h | ⟨h, hn⟩)
          · cases h
          · obtain ⟨a, ⟨ha, -⟩, hc⟩ := (hL c).1 h
            exact ⟨⟨a, ha, hc⟩, fun m hm hh => hn ⟨m, by omega, hh⟩⟩
        · rintro ⟨h, hn⟩
          rcases hup c h with ⟨m, hm, hh⟩ | hh
          · exact absurd hh (hn m (by omega))
          · exact .inr ⟨hh, fun ⟨m, hm, hh⟩ => hn m (by omega) hh⟩
      · have hg : gi ((rs g w down n).2 ++ [(roundN g w down (rs g w down n).1 (gi (rs g w down n).2 n)).2]) (k : Int) = gi (rs g w down n).2 k := by
          rw [gi_get (by rw [List.length_append, List.length_singleton, hl]; omega), List.getElem_append_left (by rw [hl]; omega), ← gi_get (by rw [hl]; omega)]
        rw [hg]
        exact h2 k (by omega) c
theorem lf_tg {n : Nat} (hn : ∀ m < n, ¬ Ch g w down m (goalW w)) : ∀ {k : Nat} {c : St}, k ≤ n → Ch g w down (n - k) c → (Lf g w down (rs g w down n).2 k c ↔ Tg g w down k c)
  | 0, c, _, _ => Iff.rfl
  | k + 1, c, hk, hc => by
    have hl := rs_length (g := g) (w := w) (down := down) n
    rw [Lf, Tg]
    have nx : ∀ l ∈ leadsL g w down c, Ch g w down (n - k) l.to := fun l hl => by
      rw [show n - k = (n - (k + 1)) + 1 by omega]
      exact ⟨c, hc, mem_tos.2 ⟨l, hl, rfl⟩⟩
    constructor
    · rintro ⟨-, l, hl, h⟩
      exact ⟨l, hl, (lf_tg hn (by omega) (nx l hl)).1 h⟩
    · rintro ⟨l, hl', h⟩
      refine ⟨?_, l, hl', (lf_tg hn (by omega) (nx l hl')).2 h⟩
      rw [show ((rs g w down n).2.length : Int) - 2 - (k : Int) = ((n - (k + 1) : Nat) : Int) by rw [hl]; omega]
      refine ((rs_mem n).2 _ (by omega) c).2 ⟨hc, fun m hm hh => ?_⟩
      have := tg_ch hh (k := k + 1) ⟨l, hl', h⟩
      exact hn _ (by omega) this
theorem compW_ok (h0 : optErr g w down = 0) {depth : Int} {n : Nat} (hn : n ≤ cut10 depth) (ht : Tg g w down n (startW w)) (hl : ∀ m, Tg g w down m (startW w) → n ≤ m) : compW g w down depth = (lst g w down n (startW w), 0) := by
  have h : ∃ k, k ≤ cut10 depth ∧ Tg g w down k (startW w) := ⟨n, hn, ht⟩
  rw [compW, if_neg (fun hh => hh h0), dif_pos h, few_eq ht hl]
theorem compW_deep (h0 : optErr g w down = 0) {depth : Int} (hn : ∀ k, k ≤ cut10 depth → ¬ Tg g w down k (startW w)) : compW g w down depth = ([], 9) := by
  rw [compW, if_neg (fun hh => hh h0), dif_neg fun ⟨k, hk, h⟩ => hn k hk h]
end
end Go.Proofs.Ytejmcijcdhoogaa
end

section
namespace Go.Proofs.Ytejmcijcdhoogaa
open Go Abs
attribute [local irreducible] EX exL exG exC exCq exS exV exIf exGd exGq exB
set_option maxHeartbeats 4000000
noncomputable def compAV (g : Graph) (w : Want) (down : List Bool) (depth : Int) : AV := .tup [.vec (compW g w down depth).1.isEmpty (rows (compW g w down depth).1) (compW g w down depth).1.length, iv (compW g w down depth).2]
theorem lst_find {g : Graph} {w : Want} {down : List Bool} {m : Nat} {a : St} {j : Int} (j0 : 0 ≤ j) (j1 : j < (leadsL g w down a).length) (hn : ∀ l ∈ (leadsL g w down a).take j.toNat, ¬ Tg g w down m l.to) (h : Tg g w down m (gi (leadsL g w down a) j).to) :
    lst g w down (m + 1) a = (gi (leadsL g w down a) j).s :: lst g w down m (gi (leadsL g w down a) j).to := by
  have : (leadsL g w down a).find? (fun l => decide (Tg g w down m l.to)) = some (gi (leadsL g w down a) j) := by
    rw [List.find?_eq_some_iff_append]
    refine ⟨by simpa using h, (leadsL g w down a).take j.toNat, (leadsL g w down a).drop (j + 1).toNat, ?_, fun l hl => by simpa using hn l hl⟩
    rw [← drop_gi j0 j1, List.take_append_drop]
  rw [lst, this]
theorem compile_c (g : Graph) (hb : g.links.length * 32 ≤ 140737488351232) (hn : g.nl = true → g.links = []) (w : Want) (hw : w.ok) (nl : Bool) (down : List Bool) (depth : Int) (H : AHeap) :
    APure Try.prog 20 [tab g, w.av, blv nl down, iv depth] H (compAV g w down depth) := by
  intro Q h
  suffices key : ACalls Try.prog 20 [tab g, w.av, blv nl down, iv depth] H fun r H' => (∀ b o, H b = some o → H' b = some o) ∧ r = compAV g w down depth by
    refine ACalls.relax (key.mono ?_)
    rintro r H' ⟨h1, rfl⟩
    exact ⟨fun _ => False, H, _, h1, by simp, Fz.refl _ _ _, h⟩
  have c1 := fun H => enew_c g hb hn w hw nl down H
  have c2 := fun H => start_c w hw H
  have c3 := fun H => goal_c w hw H
  refine ACalls.of_code fn_compile_List ?_
  by_cases h0 : optErr g w down = 0
  · rw [if_pos h0] at c1
    obtain ⟨d, hd⟩ : ∃ d : Nat, d = cut10 depth := ⟨_, rfl⟩
    simp only [tab, tabCells, Want.av, blv, sl, mapAV] at c1 c2 c3
    simp -implicitDefEqProofs only [sc_compile_List, tab, tabCells, Want.av, blv, sl, go_sem, seval]
    repeat' (first | simp -implicitDefEqProofs only [go_sem, seval] | simp -implicitDefEqProofs (disch := omega) only [ars, if_pos, exV_some, Option.map_some] | ((with_reducible first | apply exB_dec | apply exB_intro) <;> intro _) | with_reducible refine exC_pure (c1 _) ?_ | with_reducible refine exCq_pure (c1 _) ?_ | with_reducible refine exC_pure (c2 _) ?_ | with_reducible refine exCq_pure (c2 _) ?_ | with_reducible refine exC_pure (c3 _) ?_ | with_reducible refine exCq_pure (c3 _) ?_)
    all_goals first | (exfalso; omega) | skip
    intro mb hmb
    have hmb : H mb = none := hmb
    repeat' (first | simp -implicitDefEqProofs only [go_sem, seval] | simp -implicitDefEqProofs (disch := omega) only [ars, if_pos, exV_some, Option.map_some] | ((with_reducible first | apply exB_dec | apply exB_intro) <;> intro _) | with_reducible refine exC_pure (c2 _) ?_ | with_reducible refine exCq_pure (c2 _) ?_)
    all_goals first | (exfalso; omega) | skip
    have hdd : (if 0 < (if 10 < depth then 10 else depth) then (if 10 < depth then 10 else depth) else 0 : Int) = (d : Int) := by
      rw [hd, cut10]; split <;> (try split) <;> omega
    have hd10 : d ≤ 10 := by rw [hd, cut10]; omega
    rw [hdd]
    have wf := wfit_of (optErr_right h0)
    have hf := wf.fit
    have fn := hf.n2
    have fw := wf.few
    have hsr : rngS g (startW w) := by
      have := come_le (l := pts w) (node := w.src) (n := 0) (by omega) (by rw [pts_length]; omega)
      rw [pts_length] at this
      exact ⟨wf.src, by dsimp only [startW]; omega, by dsimp only [startW]; omega⟩
    have rc := rounds_c g w down h0 mb d ⟨by omega, by omega⟩ [] (fun k v hh => by simp [mget] at hh) (upd H mb (some (.map (.a 2 .i64) []))) (upd_self _ _ _) hsr
    have base0 : ∀ (es : List (MK × AV)) b o, H b = some o → upd (upd H mb (some (.map (.a 2 .i64) []))) mb (some (.map (.a 2 .i64) es)) b = some o := fun es b o ho => by
      have : mb ≠ b := by rintro rfl; rw [hmb] at ho; cases ho
      rw [upd_ne _ _ this, upd_ne _ _ this]; exact ho
    simp only [xAV, stateAV, startW, mapAV, tab, tabCells] at rc
    refine exC_intro rc ?_
    rintro r H1 ⟨⟨es, rfl, hes⟩, ⟨n, n1, hgo, hno, rfl⟩ | ⟨hno, rfl⟩⟩
    · have hch : ∀ m < n, ¬ Ch g w down m (goalW w) := fun m hm hh => hno m hm (((rs_mem m).1 _).2 ⟨m, Nat.le_refl _, hh⟩)
      obtain ⟨k, hk, hkg⟩ := ((rs_mem n).1 _).1 hgo
      obtain rfl : k = n := by
        by_cases e : k = n
        · exact e
        · exact absurd hkg (hch k (by omega))
      clear hk hgo hno
      have htg := ch_goal.1 hkg
      have hw : compAV g w down depth = .tup [.vec (lst g w down k (startW w)).isEmpty (rows (lst g w down k (startW w))) (lst g w down k (startW w)).length, iv 0] := by
        rw [compAV, compW_ok h0 (n := k) (by omega) htg fun m hm => Nat.le_of_not_lt fun hlt => hch m hlt (ch_goal.2 hm)]
      rw [hw]
      have hRl := rs_length (g := g) (w := w) (down := down) k
      have hR2 := (rs_ok (down := down) wf hsr k).2
      obtain ⟨R, hR⟩ : ∃ R, R = (rs g w down k).2 := ⟨_, rfl⟩
      have hlf : ∀ {j : Nat} {c : St}, j ≤ k → Ch g w down (k - j) c → (Lf g w down R j c ↔ Tg g w down j c) := fun h1 h2 => by rw [hR]; exact lf_tg hch h1 h2
      rw [← hR] at hRl hR2 ⊢
      have lc := left_c g w down h0 mb R ⟨by omega, by omega⟩ (fun l hl => (hR2 l hl).2) es hes (upd (upd H mb (some (.map (.a 2 .i64) []))) mb (some (.map (.a 2 .i64) es))) (upd_self _ _ _)
      simp only [xAV, mapAV, tab, tabCells] at lc
      repeat' (first | simp -implicitDefEqProofs only [go_sem, seval] | simp -implicitDefEqProofs (disch := omega) only [ars, if_pos, exV_some, Option.map_some] | ((with_reducible first | apply exB_dec | apply exB_intro) <;> intro _))
      all_goals first | (exfalso; omega) | skip
      refine exC_intro lc ?_
      rintro r H2 ⟨hb2, ⟨es2, hm2, hes2⟩, bs, rfl, hbl, hbs⟩
      have hbase : ∀ b o, H b = some o → H2 b = some o := fun b o ho => hb2 b o (base0 es b o ho) (by rintro rfl; rw [hmb] at ho; cases ho)
      simp -implicitDefEqProofs only [go_sem, seval]
      repeat' (first | simp -implicitDefEqProofs only [go_sem, seval] | simp -implicitDefEqProofs (disch := omega) only [ars, if_pos, exV_some, Option.map_some] | ((with_reducible first | apply exB_dec | apply exB_intro) <;> intro _))
      all_goals first | (exfalso; omega) | skip
      obtain ⟨t, htd⟩ : ∃ t, t = bs.drop 1 := ⟨_, rfl⟩
      have htl : t.length = k := by rw [htd, List.length_drop]; omega
      have ht : ∀ i : Int, 0 ≤ i → i < k → ∃ b es, gi t i = some b ∧ b ≠ mb ∧ H2 b = some (.map (.a 2 .i64) es) ∧ Says es (Lf g w down R (k - 1 - i.toNat)) := fun i i0 i1 => by
        obtain ⟨b, es, q1, q2, q3, q4⟩ := hbs (i + 1) (by omega) (by omega) (by omega)
        refine ⟨b, es, ?_, q2, q3, ?_⟩
        · rw [← q1, htd, gi_get (by rw [List.length_drop]; omega), gi_get (by omega), List.getElem_drop]
          congr 1
          omega
        · rw [show k - 1 - i.toNat = ((R.length : Int) - 1 - (i + 1)).toNat by omega]; exact q4
      rw [show ((R.length : Int)).toNat - 1 = k by omega, Nat.mul_one, ← List.map_drop, ← htd, List.take_of_length_le (by rw [List.length_map, htl]; exact Nat.le_refl _)]
      refine exL_modH (fun a : Int × St × List Sg × AHeap => [(17, .own 77), (57, .v (iv a.1))]) (fun a => [(13, .cells [iv a.2.1.1, iv a.2.1.2] 82), (77, .arr a.2.2.1.isEmpty (rows a.2.2.1) a.2.2.1.length 50 2)]) (fun a => a.2.2.2) (fun a => (0 ≤ a.1 ∧ a.1 ≤ k) ∧ (a.2.2.1.length : Int) = a.1 ∧ a.2.2.1 ++ lst g w down (k - a.1.toNat) a.2.1 = lst g w down k (startW w) ∧ Tg g w down (k - a.1.toNat) a.2.1 ∧ Ch g w down a.1.toNat a.2.1 ∧ (∀ b o, H2 b = some o → b ≠ mb → a.2.2.2 b = some o) ∧ ∃ es', a.2.2.2 mb = some (.map (.a 2 .i64) es') ∧ LeadsOK g w down es') (fun a => (k - a.1).toNat) (0, startW w, [], H2) rfl ⟨⟨by simp, by dsimp only; omega⟩, rfl, rfl, htg, rfl, fun b o ho _ => ho, es2, hm2, hes2⟩ ?_
      rintro ⟨i, a, o, H3⟩ ⟨⟨i0, i1⟩, ho, hlst, htga, hcha, hb3, ⟨es3, hm3, hes3⟩⟩ ih
      dsimp only at i0 i1 ho hlst htga hcha hb3 hm3 ih
      simp only [S.up, S.upH, ups, Abs.put, Nat.reduceEqDiff, ↓reduceIte, Nat.reduceAdd] at ih
      simp -implicitDefEqProofs only [congrArg KI.code sc_compile_List_L1.eq_1, go_sem, seval]
      by_cases hi : i < k
      · obtain ⟨b, esb, hgb, hbm, hHb, hsb⟩ := ht i i0 hi
        have hrd : rdV (t.map mvv) (i.toNat * 1) 1 false = some (.raw (.map (some b))) := by rw [rd_map i0 (by omega), hgb]; rfl
        have cf := cfrom_c g w down h0 mb a es3 hes3 H3 hm3
        simp only [xAV, mapAV, tab, tabCells, stateAV, leadsAV] at cf
        repeat' (first | simp -implicitDefEqProofs only [go_sem, seval] | simp -implicitDefEqProofs (disch := omega) only [hrd, ars, if_pos, exV_some, Option.map_some] | ((with_reducible first | apply exB_dec | apply exB_intro) <;> intro _))
        all_goals first | (exfalso; omega) | skip
        obtain ⟨m, hm⟩ : ∃ m, m + 1 = k - i.toNat := ⟨k - i.toNat - 1, by omega⟩
        rw [← hm] at hlst htga
        rw [show k - 1 - i.toNat = m by omega] at hsb
        have hlfa : ∀ l ∈ leadsL g w down a, (Lf g w down R m l.to ↔ Tg g w down m l.to) := fun l hl => hlf (by omega) (by
          rw [show k - m = i.toNat + 1 by omega]
          exact ⟨a, hcha, mem_tos.2 ⟨l, hl, rfl⟩⟩)
        have hfd := fun (j : Int) (j0 : 0 ≤ j) (j1 : j < (leadsL g w down a).length) => lst_find (g := g) (w := w) (down := down) (m := m) (a := a) j0 j1
        have hchn : ∀ l ∈ leadsL g w down a, Ch g w down (i + 1).toNat l.to := fun l hl => by
          rw [show (i + 1).toNat = i.toNat + 1 by omega]
          exact ⟨a, hcha, mem_tos.2 ⟨l, hl, rfl⟩⟩
        have hll := leads_length g w down a
        have hfw := hf.few
        have hle := hf.n2
        refine exC_intro cf ?_
        rintro _ H4 ⟨rfl, es4, rfl, hes4⟩
        rw [Tg] at htga
        obtain ⟨lds, hlds⟩ : ∃ l, l = leadsL g w down a := ⟨_, rfl⟩
        rw [← hlds] at hll hlfa hfd htga hchn ⊢
        clear cf hlds
        have hHb' : upd H3 mb (some (.map (.a 2 .i64) es4)) b = some (.map (.a 2 .i64) esb) := by rw [upd_ne _ _ (Ne.symm hbm)]; exact hb3 b _ hHb hbm
        have nxt := fun (a' : St) (o' : List Sg) (h1 : (o'.length : Int) = i + 1) (h2 : o' ++ lst g w down m a' = lst g w down k (startW w)) (h3 : Tg g w down m a') (h4 : Ch g w down (i + 1).toNat a') => ih (i + 1, a', o', upd H3 mb (some (.map (.a 2 .i64) es4))) ⟨⟨by dsimp only; omega, by dsimp only; omega⟩, h1, by rw [show k - (i + 1).toNat = m by omega]; exact h2, by rw [show k - (i + 1).toNat = m by omega]; exact h3, h4, fun b o ho hb => by dsimp only; rw [upd_ne _ _ (Ne.symm hb)]; exact hb3 b o ho hb, es4, upd_self _ _ _, hes4⟩ (by dsimp only; omega)
        dsimp only at nxt
        clear ih
        simp -implicitDefEqProofs only [go_sem, seval]
        repeat' (first | simp -implicitDefEqProofs only [go_sem, seval] | simp -implicitDefEqProofs (disch := omega) only [ars, if_pos, exV_some, Option.map_some] | ((with_reducible first | apply exB_dec | apply exB_intro) <;> intro _))
        all_goals first | (exfalso; omega) | skip
        refine exL_modH (fun a : Int => [(65, .v (iv a))]) (fun _ => []) (fun _ => upd H3 mb (some (.map (.a 2 .i64) es4))) (fun j => (0 ≤ j ∧ j ≤ lds.length) ∧ ∀ l ∈ lds.take j.toNat, ¬ Tg g w down m l.to) (fun j => (lds.length - j).toNat) 0 rfl ⟨⟨by omega, by omega⟩, by simp⟩ ?_
        rintro j ⟨⟨j0, j1⟩, hnot⟩ ih
        simp only [S.up, S.upH, ups, Abs.put, Nat.reduceEqDiff, ↓reduceIte, Nat.reduceAdd] at ih
        simp -implicitDefEqProofs only [congrArg KI.code sc_compile_List_L0.eq_1, go_sem, seval]
        by_cases hj : j < lds.length
        · have hlj := rd_ld (l := lds) j0 hj
          have hmem := gi_mem (l := lds) j0 hj
          have hsw := hsb (gi lds j).to
          have hlq := hlfa _ hmem
          by_cases hin : Tg g w down m (gi lds j).to
          · have hsw := hsw.1 (hlq.2 hin)
            simp only [stKey] at hsw
            have hst := hfd j j0 hj hnot hin
            rw [hst] at hlst
            have nx := nxt (gi lds j).to (o ++ [(gi lds j).s]) (by rw [List.length_append, List.length_singleton]; omega) (by rw [List.append_assoc]; exact hlst) hin (hchn _ hmem)
            clear ih nxt
            repeat' (first | simp -implicitDefEqProofs only [go_sem, seval] | simp -implicitDefEqProofs (disch := omega) only [hlj, hHb', lkres, hsw, Option.getD_some, ars, if_pos, exV_some, Option.map_some] | ((with_reducible first | apply exB_dec | apply exB_intro) <;> intro _))
            all_goals first | (exfalso; omega) | skip
            refine exS_rows (gi lds j).s rfl rfl rfl (by omega) (by simp only [maxLen]; omega) ?_
            repeat' (first | simp -implicitDefEqProofs only [go_sem, seval] | simp -implicitDefEqProofs (disch := omega) only [ars, if_pos, exV_some, Option.map_some] | ((with_reducible first | apply exB_dec | apply exB_intro) <;> intro _))
            all_goals first | exact nx | (exfalso; omega) | skip
            done
          · have hsw := hsw.2 fun hh => hin (hlq.1 hh)
            simp only [stKey] at hsw
            have nx := ih (j + 1) ⟨⟨by omega, by omega⟩, fun l hl => by
              rw [take_gi j0 hj] at hl
              rcases List.mem_append.1 hl with hl | hl
              · exact hnot l hl
              · rw [List.mem_singleton.1 hl]; exact hin⟩ (by omega)
            clear ih nxt
            repeat' (first | simp -implicitDefEqProofs only [go_sem, seval] | simp -implicitDefEqProofs (disch := omega) only [hlj, hHb', lkres, hsw, Option.getD_none, ars, if_pos, exV_some, Option.map_some] | ((with_reducible first | apply exB_dec | apply exB_intro) <;> intro _))
            all_goals first | exact nx | (exfalso; omega) | skip
            done
        · obtain ⟨l, hl, hl2⟩ := htga
          exfalso
          refine hnot l ?_ hl2
          rw [List.take_of_length_le (by omega)]
          exact hl
      · obtain rfl : i = k := by omega
        clear ih
        rw [Int.toNat_natCast, Nat.sub_self, lst, List.append_nil] at hlst
        rw [← hlst]
        have hfin : ∀ b o, H b = some o → H3 b = some o := fun b o ho => hb3 b o (hbase b o ho) (by rintro rfl; rw [hmb] at ho; cases ho)
        repeat' (first | simp -implicitDefEqProofs only [go_sem, seval] | simp -implicitDefEqProofs (disch := omega) only [ars, if_pos, exV_some, Option.map_some] | ((with_reducible first | apply exB_dec | apply exB_intro) <;> intro _))
        all_goals first | exact hfin | (exfalso; omega) | skip
        done
    · have hno' : ∀ j, j ≤ cut10 depth → ¬ Tg g w down j (startW w) := fun j hj hh => hno j (by omega) (((rs_mem j).1 _).2 ⟨j, Nat.le_refl _, ch_goal.2 hh⟩)
      have hw : compAV g w down depth = .tup [.vec true [] 0, iv 9] := by rw [compAV, compW_deep h0 hno']; rfl
      rw [hw]
      repeat' (first | simp -implicitDefEqProofs only [go_sem, seval] | simp -implicitDefEqProofs (disch := omega) only [ars, if_pos, exV_some, Option.map_some] | ((with_reducible first | apply exB_dec | apply exB_intro) <;> intro _))
      all_goals first | exact fun b o ho => base0 es b o ho | (exfalso; omega) | skip
      done
  · rw [if_neg h0] at c1
    have hr : compAV g w down depth = .tup [.vec true [] 0, iv (optErr g w down)] := by
      rw [compAV, compW, if_pos h0]; rfl
    rw [hr]
    simp only [tab, tabCells, Want.av, blv, sl] at c1 c2 c3
    simp -implicitDefEqProofs only [sc_compile_List, tab, tabCells, Want.av, blv, sl, go_sem, seval]
    repeat' (first | simp -implicitDefEqProofs only [go_sem, seval] | simp -implicitDefEqProofs (disch := omega) only [ars, if_pos, exV_some, Option.map_some] | ((with_reducible first | apply exB_dec | apply exB_intro) <;> intro _) | with_reducible refine exC_pure (c1 _) ?_ | with_reducible refine exCq_pure (c1 _) ?_ | with_reducible refine exC_pure (c2 _) ?_ | with_reducible refine exCq_pure (c2 _) ?_ | with_reducible refine exC_pure (c3 _) ?_ | with_reducible refine exCq_pure (c3 _) ?_)
    all_goals first | exact fun b o ho => ho | (exfalso; omega) | skip
    done
end Go.Proofs.Ytejmcijcdhoogaa
end

section
namespace Go.Proofs.Ytejmcijcdhoogaa
open Go Abs
attribute [local irreducible] EX exL exG exC exCq exS exV exIf exGd exGq exB
set_option maxHeartbeats 4000000
theorem tg_seg {g : Graph} {w : Want} {down : List Bool} {m : Nat} {a : St} (h : Tg g w down (m + 1) a) : ∃ s ∈ segsA g, ∃ c, segW g w down a s = some c ∧ Tg g w down m c := by
  obtain ⟨l, hl, h2⟩ := h
  unfold leadsL at hl
  obtain ⟨s, hs, h3⟩ := List.mem_filterMap.1 hl
  unfold ldO at h3
  obtain ⟨c, hc, rfl⟩ := Option.map_eq_some_iff.1 h3
  exact ⟨s, hs, c, hc, h2⟩
noncomputable def tabs16 (g : Graph) : AV := if (check g).2 = 0 then .tup [tab g, refTab g, bv true] else .tup [.raw (.pointer none), .raw (.pointer none), bv false]
theorem tables16_c (g : Graph) (hb : g.links.length * 32 ≤ 140737488351232) (hn : g.nl = true → g.links = []) (H : AHeap) : APure Try.prog 19 [g.av] H (tabs16 g) := by
  intro Q h
  have c1 := fun H => new_c g hb hn H
  have c2 := fun H => newTables_ref_c g hb H
  refine ACalls.of_code fn_waymarklaw16_Tables ?_
  by_cases hc : (check g).2 = 0
  · rw [tabs16, if_pos hc] at h
    rw [if_pos hc] at c1 c2
    simp only [Graph.av, tab, refTab] at c1 c2 h
    simp -implicitDefEqProofs only [sc_waymarklaw16_Tables, Graph.av, go_sem, seval]
    repeat' (first | simp -implicitDefEqProofs only [go_sem, seval] | simp -implicitDefEqProofs (disch := omega) only [ars, if_pos, exV_some, Option.map_some] | ((with_reducible first | apply exB_dec | apply exB_intro) <;> intro _) | with_reducible refine exC_pure (c1 _) ?_ | with_reducible refine exCq_pure (c1 _) ?_ | with_reducible refine exC_pure (c2 _) ?_ | with_reducible refine exCq_pure (c2 _) ?_)
    all_goals first | exact h | (exfalso; omega) | skip
    done
  · rw [tabs16, if_neg hc] at h
    rw [if_neg hc] at c1 c2
    simp only [Graph.av] at c1 c2
    simp -implicitDefEqProofs only [sc_waymarklaw16_Tables, Graph.av, go_sem, seval]
    repeat' (first | simp -implicitDefEqProofs only [go_sem, seval] | simp -implicitDefEqProofs (disch := omega) only [ars, if_pos, exV_some, Option.map_some] | ((with_reducible first | apply exB_dec | apply exB_intro) <;> intro _) | with_reducible refine exC_pure (c1 _) ?_ | with_reducible refine exCq_pure (c1 _) ?_ | with_reducible refine exC_pure (c2 _) ?_ | with_reducible refine exCq_pure (c2 _) ?_)
    all_goals first | exact h | (exfalso; omega) | skip
    done
theorem small15_c (g : Graph) (H : AHeap) : APure Try.prog 17 [g.av] H (bv (decide (g.nodes ≤ 10 ∧ g.links.length ≤ 16))) := by
  intro Q h
  refine ACalls.of_code fn_waymarklaw15_Small ?_
  simp -implicitDefEqProofs only [sc_waymarklaw15_Small, Graph.av, go_sem, seval]
  repeat' (first | simp -implicitDefEqProofs only [go_sem, seval] | simp -implicitDefEqProofs (disch := omega) only [ars, if_pos, exV_some, Option.map_some] | ((with_reducible first | apply exB_dec | apply exB_intro) <;> intro _))
  all_goals first | (exfalso; omega) | skip
  all_goals refine fin_ h (congrArg (fun b => AV.raw (.bool b)) ?_)
  all_goals simp [*]
  all_goals first | omega | skip
theorem nxt201 : nxtOf g2_ 0 1 = [0] := by rw [nxtOf, if_pos ⟨by decide, by decide⟩, dist2.2]; decide
end Go.Proofs.Ytejmcijcdhoogaa
end

section
namespace Go.Proofs.Ytejmcijcdhoogaa
open Go Abs
attribute [local irreducible] EX exL exG exC exCq exS exV exIf exGd exGq exB
set_option maxHeartbeats 4000000
theorem compW_cases (g : Graph) (w : Want) (down : List Bool) (depth : Int) (h0 : optErr g w down = 0) :
    (∃ n, n ≤ cut10 depth ∧ Tg g w down n (startW w) ∧ (∀ m, Tg g w down m (startW w) → n ≤ m) ∧ compW g w down depth = (lst g w down n (startW w), 0)) ∨ ((∀ n, n ≤ cut10 depth → ¬ Tg g w down n (startW w)) ∧ compW g w down depth = ([], 9)) := by
  by_cases h : ∃ n, n ≤ cut10 depth ∧ Tg g w down n (startW w)
  · obtain ⟨n, hn, ht⟩ := h
    obtain ⟨m, hm, hl⟩ := leastN (p := fun k => Tg g w down k (startW w)) ⟨n, ht⟩
    have := hl n ht
    exact .inl ⟨m, by omega, hm, hl, compW_ok h0 (by omega) hm hl⟩
  · exact .inr ⟨fun n hn ht => h ⟨n, hn, ht⟩, compW_deep h0 fun n hn ht => h ⟨n, hn, ht⟩⟩
theorem compW_len (g : Graph) (w : Want) (down : List Bool) (depth : Int) : (compW g w down depth).1.length ≤ 10 := by
  by_cases h0 : optErr g w down = 0
  · rcases compW_cases g w down depth h0 with ⟨n, h1, h2, -, h3⟩ | ⟨-, h3⟩
    · rw [h3]
      dsimp only
      rw [lst_length h2]
      unfold cut10 at h1
      omega
    · rw [h3]; simp
  · rw [compW, if_pos h0]; simp
theorem compW_err {g : Graph} {w : Want} {down : List Bool} {d : Int} (h : (compW g w down d).2 = 0) : optErr g w down = 0 := by
  by_cases h0 : optErr g w down = 0
  · exact h0
  · rw [compW, if_pos h0] at h; exact absurd h h0
end Go.Proofs.Ytejmcijcdhoogaa
end

section
namespace Go.Proofs.Ytejmcijcdhoogaa
open Go Abs
attribute [local irreducible] EX exL exG exC exCq exS exV exIf exGd exGq exB
set_option maxHeartbeats 1000000
theorem mem_nxt {g : Graph} (hf : Fit g) {a b e : Int} : e ∈ nxtOf g a b ↔ ((0 ≤ a ∧ a < g.nodes) ∧ (0 ≤ b ∧ b < g.nodes)) ∧ (0 ≤ e ∧ e < 2 * g.links.length) ∧ (ends g e).1 = a ∧ 0 < distOf g a b ∧ 0 ≤ distOf g (ends g e).2.1 b ∧ distOf g a b - wt g e = distOf g (ends g e).2.1 b := by
  constructor
  · intro h
    obtain ⟨h1, h2, h3, -, h5, h6⟩ := nxt_mem hf h
    have hab : (0 ≤ a ∧ a < g.nodes) ∧ (0 ≤ b ∧ b < g.nodes) := by
      unfold nxtOf at h
      split at h
      · assumption
      · cases h
    refine ⟨hab, ⟨h1, h2⟩, h3, h6, ?_, h5.symm⟩
    unfold nxtOf at h
    rw [if_pos hab] at h
    unfold nextL at h
    split at h
    · obtain ⟨-, h8⟩ := List.mem_filter.1 h
      unfold onB at h8
      simp only [Bool.and_eq_true, decide_eq_true_eq] at h8
      rw [distOf, if_pos ⟨(hf.b e h1 h2).2, hab.2⟩]
      exact h8.2.1
    · cases h
  · rintro ⟨hab, ⟨h1, h2⟩, h3, h4, h5, h6⟩
    have hb := (hf.b e h1 h2).2
    have q1 : distOf g (ends g e).2.1 b = gi (distL g [] b) (ends g e).2.1 := by rw [distOf, if_pos ⟨hb, hab.2⟩]
    have q2 : distOf g a b = gi (distL g [] b) a := by rw [distOf, if_pos hab]
    rw [q1] at h5 h6
    rw [q2] at h4 h6
    rw [nxtOf, if_pos hab, nextL, if_pos ⟨hf.ok, (distL_spec hf [] hab.2).1.len, hab.1, h4⟩, List.mem_filter, onB]
    refine ⟨(out_mem g e a).2 ⟨h1, h2, h3⟩, ?_⟩
    have hu : upE [] e = true := by simp [upE, gi]
    simp [h5, h6, hu]
def tri (d c : Int) : Graph := ⟨3, false, [⟨0, 1, d, 0⟩, ⟨0, 2, c, 0⟩, ⟨2, 1, c, 0⟩]⟩
section
variable {d c : Int}
end
end Go.Proofs.Ytejmcijcdhoogaa
end

section
namespace Go.Proofs.Ytejmcijcdhoogaa
open Go Abs
attribute [local irreducible] EX exL exG exC exCq exS exV exIf exGd exGq exB
set_option maxHeartbeats 1000000
theorem segW_node {g : Graph} {w : Want} {down : List Bool} {a : St} {to : Int} : segW g w down a ⟨false, to⟩ = segN g w down a to := by rw [segW, if_neg (by simp)]
theorem segW_edge {g : Graph} {w : Want} {down : List Bool} {a : St} {to : Int} : segW g w down a ⟨true, to⟩ = stepW g w down a to := by rw [segW, if_pos rfl]
structure TriW (d c : Int) (w : Want) (down gone : List Bool) (far : List Int) : Prop where
  d1 : 1 ≤ d ∧ d ≤ 16777216
  c1 : 1 ≤ c ∧ c ≤ 16777216
  src : w.src = 0
  dst : w.dst = 1
  via : w.via = []
  pr : pruned (tri d c) w down = gone
  ok : optErr (tri d c) w down = 0
  far : distL (tri d c) gone 1 = far
section
variable {d c : Int} {w : Want} {down gone : List Bool} {far : List Int}
theorem TriW.pts (h : TriW d c w down gone far) : pts w = [0, 1] := by rw [Go.Proofs.Ytejmcijcdhoogaa.pts, h.src, h.via, h.dst]; rfl
theorem TriW.start (h : TriW d c w down gone far) : startW w = (0, 0) := by rw [startW, h.pts, h.src]; rfl
theorem TriW.goal (h : TriW d c w down gone far) : goalW w = (1, 1) := by rw [goalW, h.dst, h.via]; rfl
theorem TriW.farOf (h : TriW d c w down gone far) : farOf (tri d c) w down 1 = far := by
  rw [Go.Proofs.Ytejmcijcdhoogaa.farOf, h.pr, h.pts]
  exact h.far
theorem TriW.step (h : TriW d c w down gone far) {x e b : Int} (hb : (ends (tri d c) e).2.2 = true ∧ (ends (tri d c) e).1 = x) (hx : (0 ≤ x ∧ x < 3) ∧ x ≠ 1) (hu : upE gone e = true) (hf : 0 ≤ gi far (ends (tri d c) e).2.1 ∧ gi far x = gi far (ends (tri d c) e).2.1 + wt (tri d c) e) :
    stepW (tri d c) w down (x, 0) e = some ((ends (tri d c) e).2.1, come [0, 1] (ends (tri d c) e).2.1 0) := by
  rw [stepW, if_pos, h.pts]
  refine ⟨h.ok, ⟨by dsimp only; omega, by dsimp only; rw [h.via]; decide⟩, hx.1, ?_, hb.1, hb.2, by rw [h.pr]; exact hu, ?_, ?_⟩
  · rw [h.pts]; exact fun hh => hx.2 hh.symm
  · show 0 ≤ gi (Go.Proofs.Ytejmcijcdhoogaa.farOf (tri d c) w down 1) _; rw [h.farOf]; exact hf.1
  · show gi (Go.Proofs.Ytejmcijcdhoogaa.farOf (tri d c) w down 1) _ = gi (Go.Proofs.Ytejmcijcdhoogaa.farOf (tri d c) w down 1) _ + _; rw [h.farOf]; exact hf.2
theorem TriW.none (h : TriW d c w down gone far) {x n e : Int} (hu : upE gone e = false) : stepW (tri d c) w down (x, n) e = none := by
  rw [stepW, if_neg]
  intro hs
  have := hs.2.2.2.2.2.2.1
  rw [h.pr, hu] at this
  cases this
theorem TriW.some (h : TriW d c w down gone far) {x n e : Int} {b : St} (hs : stepW (tri d c) w down (x, n) e = some b) : (0 ≤ e ∧ e < 2 * (tri d c).links.length) ∧ (ends (tri d c) e).1 = x ∧ upE gone e = true := by
  obtain ⟨h1, -⟩ := stepW_some hs
  have h2 := h1.2.2.2.2.2.2.1
  rw [h.pr] at h2
  exact ⟨ends_ok h1.2.2.2.2.1, h1.2.2.2.2.2.1, h2⟩
end
section
variable {d c : Int} {w : Want} {down : List Bool} (h : TriW d c w down [true, false, false] [2 * c, 0, c])
include h
end
end Go.Proofs.Ytejmcijcdhoogaa
end

section
namespace Go.Proofs.Ytejmcijcdhoogaa
open Go Abs
attribute [local irreducible] EX exL exG exC exCq exS exV exIf exGd exGq exB
set_option maxHeartbeats 4000000
end Go.Proofs.Ytejmcijcdhoogaa
end

section
namespace Go.Proofs.Ytejmcijcdhoogaa
open Go Abs
attribute [local irreducible] EX exL exG exC exCq exS exV exIf exGd exGq exB
set_option maxHeartbeats 4000000
def wR (a b : Int) : Want := ⟨a, b, 0, true, [], true, [], true, [], true, []⟩
def downR (g : Graph) (edge : Int) : List Bool := (List.replicate g.links.length false).set (edge / 2).toNat true
noncomputable def aroundW (g : Graph) (edge to depth : Int) : List Sg × Int := if (ends g edge).2.2 = true then compW g (wR (ends g edge).1 to) (downR g edge) depth else ([], 5)
noncomputable def aroundAV (g : Graph) (edge to depth : Int) : AV := .tup [.vec (aroundW g edge to depth).1.isEmpty (rows (aroundW g edge to depth).1) (aroundW g edge to depth).1.length, iv (aroundW g edge to depth).2]
theorem wR_ok (a b : Int) : (wR a b).ok := ⟨by show 0 * 8 ≤ 140737488351232; decide, by show 0 * 8 ≤ 140737488351232; decide, by show 0 * 8 ≤ 140737488351232; decide, by show 0 * 8 ≤ 140737488351232; decide⟩
theorem around_c (g : Graph) (hb : g.links.length * 32 ≤ 140737488351232) (hn : g.nl = true → g.links = []) (edge to depth : Int) (he : -9223372036854775808 ≤ edge ∧ edge ≤ 9223372036854775807) (H : AHeap) :
    APure Try.prog 26 [tab g, iv edge, iv to, iv depth] H (aroundAV g edge to depth) := by
  intro Q h
  have c1 := fun H => tgraph_c g hb hn H
  have c2 := fun H => ends_c g edge he H
  simp only [Graph.av] at c1 c2
  refine ACalls.of_code fn_repair_Around ?_
  cases hok : (ends g edge).2.2 with
  | true =>
    obtain ⟨e0, e1⟩ := ends_ok hok
    have cc := fun H => compile_c g hb hn (wR (ends g edge).1 to) (wR_ok _ _) false (downR g edge) depth H
    have ha : aroundAV g edge to depth = compAV g (wR (ends g edge).1 to) (downR g edge) depth := by rw [aroundAV, aroundW, if_pos hok, compAV]
    rw [ha] at h
    rw [downR] at cc h
    obtain ⟨r, hr⟩ : ∃ r, r = compAV g (wR (ends g edge).1 to) ((List.replicate g.links.length false).set (edge / 2).toNat true) depth := ⟨_, rfl⟩
    rw [compAV] at hr
    have hrt : ∃ x y, r = .tup [x, y] := ⟨_, _, hr⟩
    rw [compAV, ← hr] at h
    simp only [compAV, ← hr] at cc
    obtain ⟨x, y, rfl⟩ := hrt
    clear hr
    have ht : ends g edge = ((ends g edge).1, (ends g edge).2.1, true) := Prod.ext rfl (Prod.ext rfl hok)
    rw [ht, triIIB] at c2
    obtain ⟨a, haa⟩ : ∃ a, a = (ends g edge).1 := ⟨_, rfl⟩
    obtain ⟨b, hbb⟩ : ∃ b, b = (ends g edge).2.1 := ⟨_, rfl⟩
    rw [← haa] at cc
    rw [← haa, ← hbb] at c2
    obtain ⟨cs, hcs⟩ : ∃ cs, tab g = .box cs 0 := ⟨_, rfl⟩
    rw [hcs] at c1 cc ⊢
    simp only [wR, Want.av, blv, sl, List.map_nil, List.length_nil, List.length_set, List.length_replicate] at cc
    simp -implicitDefEqProofs only [sc_repair_Around, go_sem, seval]
    repeat' (first | simp -implicitDefEqProofs only [go_sem, seval] | simp -implicitDefEqProofs (disch := omega) only [ars, if_pos, exV_some, Option.map_some] | ((with_reducible first | apply exB_dec | apply exB_intro) <;> intro _) | with_reducible refine exC_pure (c1 _) ?_ | with_reducible refine exCq_pure (c1 _) ?_ | with_reducible refine exC_pure (c2 _) ?_ | with_reducible refine exCq_pure (c2 _) ?_)
    all_goals first | (exfalso; omega) | skip
    refine exMk_int (by omega) (by omega) (by simp only [maxLen]; omega) rfl ?_
    rw [zrep_one, show List.replicate (g.links.length : Int).toNat (cAV (.bool false)) = (List.replicate g.links.length false).map bv by rw [List.map_replicate, show (g.links.length : Int).toNat = g.links.length by omega]; rfl]
    repeat' (first | simp -implicitDefEqProofs only [go_sem, seval] | simp -implicitDefEqProofs (disch := omega) only [set_bools, List.length_replicate, List.length_set, Int.toNat_natCast, ars, if_pos, exV_some, Option.map_some] | ((with_reducible first | apply exB_dec | apply exB_intro) <;> intro _) | with_reducible refine exC_pure (cc _) ?_ | with_reducible refine exCq_pure (cc _) ?_)
    all_goals first | exact h | (exfalso; omega) | skip
    done
  | false =>
    have ha : aroundAV g edge to depth = .tup [.vec true [] 0, iv 5] := by rw [aroundAV, aroundW, if_neg (by rw [hok]; simp)]; rfl
    rw [ha] at h
    have ht : ends g edge = ((ends g edge).1, (ends g edge).2.1, false) := Prod.ext rfl (Prod.ext rfl hok)
    rw [ht, triIIB] at c2
    obtain ⟨cs, hcs⟩ : ∃ cs, tab g = .box cs 0 := ⟨_, rfl⟩
    rw [hcs] at c1 ⊢
    simp -implicitDefEqProofs only [sc_repair_Around, go_sem, seval]
    repeat' (first | simp -implicitDefEqProofs only [go_sem, seval] | simp -implicitDefEqProofs (disch := omega) only [ars, if_pos, exV_some, Option.map_some] | ((with_reducible first | apply exB_dec | apply exB_intro) <;> intro _) | with_reducible refine exC_pure (c1 _) ?_ | with_reducible refine exCq_pure (c1 _) ?_ | with_reducible refine exC_pure (c2 _) ?_ | with_reducible refine exCq_pure (c2 _) ?_)
    all_goals first | exact h | (exfalso; omega) | skip
    done
end Go.Proofs.Ytejmcijcdhoogaa
end

section
namespace Go.Proofs.Ytejmcijcdhoogaa
open Go Abs
attribute [local irreducible] EX exL exG exC exCq exS exV exIf exGd exGq exB
set_option maxHeartbeats 1000000
structure BrG (g : Graph) (n at_ : Int) : Prop where
  n1 : 2 ≤ n ∧ n ≤ 8
  at1 : 0 ≤ at_ ∧ at_ < n - 1
  nodes : g.nodes = n
  len : (g.links.length : Int) = n
  row : ∀ k : Int, 0 ≤ k → k < n - 1 → gi g.links k = ⟨k, k + 1, 4, 0⟩
  dbl : gi g.links (n - 1) = ⟨at_, at_ + 1, 9, 0⟩
section
variable {g : Graph} {n at_ : Int} (h : BrG g n at_)
include h
theorem BrG.ok : (check g).2 = 0 := by
  have h1 := h.n1
  have h2 := h.nodes
  have h3 := h.len
  have h4 := h.at1
  unfold check
  rw [if_neg (by omega), if_neg (by omega), checkFrom_fine]
  intro x hx
  obtain ⟨k, k0, k1, rfl⟩ := mem_giA hx
  by_cases hk : k = n - 1
  · rw [hk, h.dbl]
    unfold linkErr
    dsimp only
    rw [if_neg (by omega), if_neg (by omega)]
  · rw [h.row k k0 (by omega)]
    unfold linkErr
    dsimp only
    rw [if_neg (by omega), if_neg (by omega)]
theorem BrG.fit : Fit g := fit_of g h.ok
theorem BrG.row_ends {k : Int} (k0 : 0 ≤ k) (k1 : k < n - 1) : ends g (2 * k) = (k, k + 1, true) ∧ ends g (2 * k + 1) = (k + 1, k, true) ∧ wt g (2 * k) = 4 ∧ wt g (2 * k + 1) = 4 := by
  have h3 := h.len
  have hl := h.row k k0 k1
  refine ⟨?_, ?_, ?_, ?_⟩
  · rw [ends, if_neg (by omega), if_neg (by omega), show 2 * k / 2 = k by omega, hl]
  · rw [ends, if_neg (by omega), if_pos (by omega), show (2 * k + 1) / 2 = k by omega, hl]
  · rw [wt, show 2 * k / 2 = k by omega, hl]
  · rw [wt, show (2 * k + 1) / 2 = k by omega, hl]
theorem BrG.dbl_ends : ends g (2 * (n - 1)) = (at_, at_ + 1, true) ∧ ends g (2 * (n - 1) + 1) = (at_ + 1, at_, true) ∧ wt g (2 * (n - 1)) = 9 ∧ wt g (2 * (n - 1) + 1) = 9 := by
  have h3 := h.len
  have h1 := h.n1
  have hl := h.dbl
  refine ⟨?_, ?_, ?_, ?_⟩
  · rw [ends, if_neg (by omega), if_neg (by omega), show 2 * (n - 1) / 2 = n - 1 by omega, hl]
  · rw [ends, if_neg (by omega), if_pos (by omega), show (2 * (n - 1) + 1) / 2 = n - 1 by omega, hl]
  · rw [wt, show 2 * (n - 1) / 2 = n - 1 by omega, hl]
  · rw [wt, show (2 * (n - 1) + 1) / 2 = n - 1 by omega, hl]
theorem BrG.cases {e : Int} (e0 : 0 ≤ e) (e1 : e < 2 * g.links.length) : (∃ k, (0 ≤ k ∧ k < n - 1) ∧ (e = 2 * k ∨ e = 2 * k + 1)) ∨ e = 2 * (n - 1) ∨ e = 2 * (n - 1) + 1 := by
  have h3 := h.len
  by_cases hk : e / 2 < n - 1
  · exact .inl ⟨e / 2, ⟨by omega, hk⟩, by omega⟩
  · right; omega
theorem BrG.line {down : List Bool} (hd : ∀ e : Int, 0 ≤ e → e < 2 * g.links.length → upE down e = true → e / 2 ≠ at_) {s v L : Int} (hw : Walk g down s v L) :
    (if v ≤ at_ then 4 * v else 4 * v + 5) - (if s ≤ at_ then 4 * s else 4 * s + 5) ≤ L ∧ (if s ≤ at_ then 4 * s else 4 * s + 5) - (if v ≤ at_ then 4 * v else 4 * v + 5) ≤ L := by
  have h4 := h.at1
  induction hw with
  | nil => omega
  | @step a L e _ e0 e1 hu ha ih =>
    have hg := hd e e0 e1 hu
    obtain ⟨d1, d2, d3, d4⟩ := h.dbl_ends
    rcases h.cases e0 e1 with ⟨k, ⟨k0, k1⟩, rfl | rfl⟩ | rfl | rfl
    · obtain ⟨r1, -, r3, -⟩ := h.row_ends k0 k1
      rw [r1] at ha
      dsimp only at ha
      subst ha
      rw [r1, r3]
      dsimp only
      have : k ≠ at_ := by omega
      split at ih <;> split <;> (try split at ih) <;> (try split) <;> omega
    · obtain ⟨-, r2, -, r4⟩ := h.row_ends k0 k1
      rw [r2] at ha
      dsimp only at ha
      subst ha
      rw [r2, r4]
      dsimp only
      have : k ≠ at_ := by omega
      split at ih <;> split <;> (try split at ih) <;> (try split) <;> omega
    · rw [d1] at ha
      dsimp only at ha
      subst ha
      rw [d1, d3]
      dsimp only
      split at ih <;> split <;> (try split at ih) <;> (try split) <;> omega
    · rw [d2] at ha
      dsimp only at ha
      subst ha
      rw [d2, d4]
      dsimp only
      split at ih <;> split <;> (try split at ih) <;> (try split) <;> omega
end
theorem downR_up {g : Graph} {edge e : Int} (h0 : 0 ≤ edge ∧ edge < 2 * g.links.length) (e0 : 0 ≤ e) (e1 : e < 2 * g.links.length) : upE (downR g edge) e = true ↔ e / 2 ≠ edge / 2 := by
  have hl : (downR g edge).length = g.links.length := by simp [downR]
  unfold upE
  rw [hl, decide_eq_true (show e / 2 < (g.links.length : Int) by omega), Bool.true_and, downR, gi_set (by omega) (by simp; omega) (by omega)]
  have hr : gi (List.replicate g.links.length false) (e / 2) = false := by
    rw [gi_get (by simp; omega)]; simp
  rw [hr]
  split <;> simp_all
theorem segsE_mem {m : Int} {s : Sg} (h : s ∈ segsE m) : s.edge = true ∧ 0 ≤ s.to ∧ s.to < m := by
  unfold segsE at h
  obtain ⟨k, hk, rfl⟩ := List.mem_map.1 h
  rw [List.mem_range] at hk
  exact ⟨rfl, by dsimp only; omega, by dsimp only; omega⟩
theorem segsN_mem {m : Int} {s : Sg} (h : s ∈ segsN m) : s.edge = false ∧ 0 ≤ s.to ∧ s.to < m := by
  unfold segsN at h
  obtain ⟨k, hk, rfl⟩ := List.mem_map.1 h
  rw [List.mem_range] at hk
  exact ⟨rfl, by dsimp only; omega, by dsimp only; omega⟩
end Go.Proofs.Ytejmcijcdhoogaa
end

section
namespace Go.Proofs.Ytejmcijcdhoogaa
open Go Abs
attribute [local irreducible] EX exL exG exC exCq exS exV exIf exGd exGq exB
set_option maxHeartbeats 4000000
section
variable {g : Graph} {n at_ : Int} (h : BrG g n at_)
include h
theorem BrG.far {down : List Bool} (hd : ∀ e : Int, 0 ≤ e → e < 2 * g.links.length → (upE down e = true ↔ e / 2 ≠ at_)) : gi (distL g down (at_ + 1)) at_ = 9 ∧ gi (distL g down at_) (at_ + 1) = 9 := by
  have h1 := h.n1
  have h3 := h.len
  have h4 := h.at1
  have hn := h.nodes
  have hf := h.fit
  obtain ⟨d1, d2, d3, d4⟩ := h.dbl_ends
  have key : ∀ s v e : Int, (0 ≤ s ∧ s < n) → (0 ≤ v ∧ v < n) → (0 ≤ e ∧ e < 2 * g.links.length) → e / 2 ≠ at_ → ends g e = (s, v, true) → wt g e = 9 → (s = at_ ∧ v = at_ + 1 ∨ s = at_ + 1 ∧ v = at_) → gi (distL g down s) v = 9 := by
    intro s v e hs hv he hne hee hw hsv
    have hdd := (distL_spec hf down (s := s) (by omega)).1
    have w1 := Walk.step (e := e) (Walk.nil (g := g) (down := down) (s := s)) he.1 he.2 ((hd e he.1 he.2).2 hne) (by rw [hee])
    rw [hee, hw] at w1
    dsimp only at w1
    have l1 := hdd.least _ _ w1
    have l2 := h.line (fun e e0 e1 hu => (hd e e0 e1).1 hu) (hdd.way v (by omega) (by omega) l1.1)
    rcases hsv with ⟨rfl, rfl⟩ | ⟨rfl, rfl⟩
    · rw [if_neg (by omega), if_pos (by omega)] at l2; omega
    · rw [if_pos (by omega), if_neg (by omega)] at l2; omega
  exact ⟨key (at_ + 1) at_ (2 * (n - 1) + 1) (by omega) (by omega) (by omega) (by omega) d2 d4 (.inr ⟨rfl, rfl⟩), key at_ (at_ + 1) (2 * (n - 1)) (by omega) (by omega) (by omega) (by omega) d1 d3 (.inl ⟨rfl, rfl⟩)⟩
end
end Go.Proofs.Ytejmcijcdhoogaa
end

section
namespace Go.Proofs.Ytejmcijcdhoogaa
open Go Abs
attribute [local irreducible] EX exL exG exC exCq exS exV exIf exGd exGq exB
set_option maxHeartbeats 4000000
noncomputable def restR (far : List Int) (c : St) : Int := if c.2 = 0 then gi far c.1 else 0
structure StepR (g : Graph) (b : Int) (down : List Bool) (far : List Int) (c c' : St) (e : Int) : Prop where
  e0 : 0 ≤ e
  e1 : e < 2 * g.links.length
  ends : ends g e = (c.1, c'.1, true)
  up : upE down e = true
  rest : restR far c = restR far c' + wt g e
  nn : 0 ≤ restR far c'
  far1 : 0 ≤ gi far c'.1
  far2 : gi far c.1 = gi far c'.1 + wt g e
  at_ : c'.1 = b ↔ c'.2 = 1
  two : c'.2 = 0 ∨ c'.2 = 1
theorem lst_cons {g : Graph} {w : Want} {down : List Bool} {m : Nat} {a : St} (h : Tg g w down (m + 1) a) : ∃ s c, s ∈ segsA g ∧ segW g w down a s = some c ∧ Tg g w down m c ∧ lst g w down (m + 1) a = s :: lst g w down m c := by
  obtain ⟨l, hl, h2⟩ := h
  cases hf : (leadsL g w down a).find? fun l => decide (Tg g w down m l.to) with
  | none => exact absurd h2 (by simpa using List.find?_eq_none.1 hf l hl)
  | some ld =>
    have h3 := List.find?_some hf
    rw [decide_eq_true_eq] at h3
    have h4 := List.mem_of_find?_eq_some hf
    unfold leadsL at h4
    obtain ⟨s, hs, h5⟩ := List.mem_filterMap.1 h4
    unfold ldO at h5
    obtain ⟨c, hc, rfl⟩ := Option.map_eq_some_iff.1 h5
    exact ⟨s, c, hs, hc, h3, by rw [lst, hf]⟩
end Go.Proofs.Ytejmcijcdhoogaa
end

section
namespace Go.Proofs.Ytejmcijcdhoogaa
open Go Abs
attribute [local irreducible] EX exL exG exC exCq exS exV exIf exGd exGq exB
set_option maxHeartbeats 4000000
abbrev pslc (m : Nat) (b : Nat) : AV := .raw (.slice (some ⟨b, 0, none⟩) m m)
structure Kept (g : Graph) (w : Want) (down : List Bool) (to : Int) (H H' : AHeap) (rb kb kc eb ec : Nat) (ks es : List Nat) (K : List (List Int)) (E : List (List St)) : Prop where
  base : ∀ b o, H b = some o → H' b = some o
  new : ∀ b ∈ rb :: kb :: eb :: (ks ++ es), H b = none
  nd : (rb :: kb :: eb :: (ks ++ es)).Nodup
  lk : (ks.length : Int) = g.nodes
  le : (es.length : Int) = g.nodes
  lK : (K.length : Int) = g.nodes
  lE : (E.length : Int) = g.nodes
  rK : ∀ r ∈ K, r.length = w.via.length + 2
  rE : ∀ r ∈ E, r.length = w.via.length + 2
  root : H' rb = some (.cells [.box (optCells g w down) 0, refTab g, iv to, .raw (.slice (some ⟨kb, 0, none⟩) ks.length kc), .raw (.slice (some ⟨eb, 0, none⟩) es.length ec)] 142)
  kr : H' kb = some (.row (ks.map (pslc (w.via.length + 2))) kc 25 1)
  er : H' eb = some (.row (es.map (pslc (w.via.length + 2))) ec 105 1)
  kk : ∀ a : Int, 0 ≤ a → a < g.nodes → H' (gi ks a) = some (.row ((gi K a).map iv) (w.via.length + 2) 3 1)
  ee : ∀ a : Int, 0 ≤ a → a < g.nodes → H' (gi es a) = some (.row (rows (gi E a)) (w.via.length + 2) 82 2)
def Snd (g : Graph) (w : Want) (down : List Bool) (to : Int) (K : List (List Int)) (E : List (List St)) : Prop :=
  ∀ a p : Int, (0 ≤ a ∧ a < g.nodes) → (0 ≤ p ∧ p < w.via.length + 2) → (gi (gi K a) p = 0 ∧ gi (gi E a) p = (0, 0)) ∨ (gi (gi K a) p = 1 ∧ endN g w down to (a, p) = some (gi (gi E a) p)) ∨ (gi (gi K a) p = 2 ∧ gi (gi E a) p = (0, 0) ∧ endN g w down to (a, p) = none)
section
variable {g : Graph} {w : Want} {down : List Bool} {to : Int} {H H' : AHeap} {rb kb kc eb ec : Nat} {ks es : List Nat} {K : List (List Int)} {E : List (List St)}
theorem Kept.more (h : Kept g w down to H H' rb kb kc eb ec ks es K E) {b : Nat} {o : HObj} (hb : H' b = none) : Kept g w down to H (upd H' b (some o)) rb kb kc eb ec ks es K E := by
  have keep : ∀ b' o', H' b' = some o' → upd H' b (some o) b' = some o' := fun b' o' ho => by rw [upd_ne _ _ (by rintro rfl; rw [hb] at ho; cases ho)]; exact ho
  exact ⟨fun b' o' ho => keep _ _ (h.base _ _ ho), h.new, h.nd, h.lk, h.le, h.lK, h.lE, h.rK, h.rE, keep _ _ h.root, keep _ _ h.kr, keep _ _ h.er, fun a a0 a1 => keep _ _ (h.kk a a0 a1), fun a a0 a1 => keep _ _ (h.ee a a0 a1)⟩
end
end Go.Proofs.Ytejmcijcdhoogaa
end

section
namespace Go.Proofs.Ytejmcijcdhoogaa
open Go Abs
attribute [local irreducible] EX exL exG exC exCq exS exV exIf exGd exGq exB
set_option maxHeartbeats 4000000
theorem Snd.of {g : Graph} {w : Want} {down : List Bool} {to : Int} {K K' : List (List Int)} {E E' : List (List St)} (h : Snd g w down to K E) {a : St} {v : Int} {e : St} (hK : ∀ b q : Int, 0 ≤ b → 0 ≤ q → gi (gi K' b) q = if b = a.1 ∧ q = a.2 then v else gi (gi K b) q)
    (hE : ∀ b q : Int, 0 ≤ b → 0 ≤ q → gi (gi E' b) q = if b = a.1 ∧ q = a.2 then e else gi (gi E b) q) (hv : (v = 1 ∧ endN g w down to a = some e) ∨ (v = 2 ∧ e = (0, 0) ∧ endN g w down to a = none)) : Snd g w down to K' E' := by
  intro b q hb hq
  rw [hK b q hb.1 hq.1, hE b q hb.1 hq.1]
  by_cases e : b = a.1 ∧ q = a.2
  · rw [if_pos e, if_pos e, e.1, e.2]
    exact .inr hv
  · rw [if_neg e, if_neg e]
    exact h b q hb hq
end Go.Proofs.Ytejmcijcdhoogaa
end

section
namespace Go.Proofs.Ytejmcijcdhoogaa
open Go Abs
attribute [local irreducible] EX exL exG exC exCq exS exV exIf exGd exGq exB
set_option maxHeartbeats 4000000
structure Gro (H H' : AHeap) (rb m : Nat) (c0 c1 c2 : AV) (ck ce : List AV) (svk sve : AV) (obk obe : Option Nat) (ks es : List Nat) : Prop where
  base : ∀ b o, H b = some o → H' b = some o
  new : ∀ b ∈ rb :: (ks ++ es), H b = none
  nd : (rb :: (ks ++ es)).Nodup
  rt : H' rb = some (.cells [c0, c1, c2, svk, sve] 142)
  rk : RowAt H H' rb 25 svk (ks.map (pslc m)) obk
  re : RowAt H H' rb 105 sve (es.map (pslc m)) obe
  ok : ∀ b, obk = some b → b ∉ rb :: (ks ++ es)
  oe : ∀ b, obe = some b → b ∉ rb :: (ks ++ es)
  oo : ∀ b, obk = some b → obe ≠ some b
  kk : ∀ b ∈ ks, H' b = some (.row ck m 3 1)
  ee : ∀ b ∈ es, H' b = some (.row ce m 82 2)
section
variable {H H' : AHeap} {rb m : Nat} {c0 c1 c2 : AV} {ck ce : List AV} {svk sve : AV} {obk obe : Option Nat} {ks es : List Nat}
theorem RowAt.at_ {e : Nat} {sv : AV} {l : List AV} {ob : Option Nat} (h : RowAt H H' rb e sv l ob) {b : Nat} (hb : ob = some b) : ∃ o, H' b = some o := by
  cases ho : H' b with
  | none => exact absurd ho (h.some_of hb).2.2
  | some o => exact ⟨o, rfl⟩
end
end Go.Proofs.Ytejmcijcdhoogaa
end

section
namespace Go.Proofs.Ytejmcijcdhoogaa
open Go Abs
attribute [local irreducible] EX exL exG exC exCq exS exV exIf exGd exGq exB
set_option maxHeartbeats 4000000
end Go.Proofs.Ytejmcijcdhoogaa
end

section
namespace Go.Proofs.Ytejmcijcdhoogaa
open Go Abs
attribute [local irreducible] EX exL exG exC exCq exS exV exIf exGd exGq exB
set_option maxHeartbeats 1000000
section
variable (g : Graph) (w : Want) (down : List Bool)
def Lea (d : Nat) (a : St) : Prop := Tg g w down d a ∧ ∀ m < d, ¬ Tg g w down m a
def RowOk (S : List St) (a : St) (row : List Int) (n : Int) : Prop := row.length = (segsA g).length ∧ ∀ k : Int, 0 ≤ k → k < n → k < (segsA g).length →
  (segW g w down a (gi (segsA g) k) = none ∧ gi row k = -1) ∨ ∃ c, segW g w down a (gi (segsA g) k) = some c ∧ (0 ≤ gi row k ∧ gi row k < S.length) ∧ gi S (gi row k) = c
def LeftAt (S : List St) (left : List Int) (n : Nat) (i : Int) : Prop := (∃ d : Nat, d ≤ n ∧ gi left i = d ∧ Lea g w down d (gi S i)) ∨ (gi left i = -1 ∧ ∀ d ≤ n, ¬ Tg g w down d (gi S i))
structure Met (S : List St) : Prop where
  nd : S.Nodup
  rng : ∀ c ∈ S, rngS g c
  pos : 1 ≤ S.length
  start : gi S 0 = startW w
end
section
variable {g : Graph} {w : Want} {down : List Bool} {S : List St} {row left : List Int} {a c : St} {i j k : Int} {m n : Nat}
theorem gi_app {α : Type} [Inhabited α] {l : List α} {x : α} {i : Int} (h0 : 0 ≤ i) (h1 : i < l.length) : gi (l ++ [x]) i = gi l i := by
  rw [gi_get (by simp; omega), gi_get (by omega), List.getElem_append_left (by omega)]
theorem RowOk.more (h : RowOk g w down S a row i) (x : St) : RowOk g w down (S ++ [x]) a row i := by
  refine ⟨h.1, fun k k0 k1 k2 => ?_⟩
  rcases h.2 k k0 k1 k2 with h1 | ⟨c, h1, h2, h3⟩
  · exact .inl h1
  · exact .inr ⟨c, h1, ⟨h2.1, by simp; omega⟩, by rw [gi_app h2.1 h2.2]; exact h3⟩
theorem RowOk.none (h : RowOk g w down S a row k) (k0 : 0 ≤ k) (k1 : k < (segsA g).length) (hs : segW g w down a (gi (segsA g) k) = none) : RowOk g w down S a (row.set k.toNat (-1)) (k + 1) := by
  refine ⟨by simpa using h.1, fun q q0 q1 q2 => ?_⟩
  rw [gi_set k0 (by rw [h.1]; omega) q0]
  by_cases e : q = k
  · subst e; rw [if_pos rfl]; exact .inl ⟨hs, rfl⟩
  · rw [if_neg e]; exact h.2 q q0 (by omega) q2
theorem RowOk.some (h : RowOk g w down S a row k) (k0 : 0 ≤ k) (k1 : k < (segsA g).length) (hs : segW g w down a (gi (segsA g) k) = some c) (j0 : 0 ≤ j) (j1 : j < S.length) (hj : gi S j = c) : RowOk g w down S a (row.set k.toNat j) (k + 1) := by
  refine ⟨by simpa using h.1, fun q q0 q1 q2 => ?_⟩
  rw [gi_set k0 (by rw [h.1]; omega) q0]
  by_cases e : q = k
  · subst e; rw [if_pos rfl]; exact .inr ⟨c, hs, ⟨j0, j1⟩, hj⟩
  · rw [if_neg e]; exact h.2 q q0 (by omega) q2
theorem Met.add (h : Met g w S) (hc : rngS g c) (hn : c ∉ S) : Met g w (S ++ [c]) := by
  refine ⟨?_, fun x hx => ?_, by simp, ?_⟩
  · rw [List.nodup_append]
    exact ⟨h.nd, by simp, fun x hx y hy => by rintro rfl; rw [List.mem_singleton] at hy; exact hn (hy ▸ hx)⟩
  · rcases List.mem_append.1 hx with hx | hx
    · exact h.rng x hx
    · rw [List.mem_singleton.1 hx]; exact hc
  · have := h.pos
    rw [gi_app (by omega) (by omega)]; exact h.start
theorem lea_uniq (h1 : Lea g w down m a) (h2 : Lea g w down n a) : m = n := by
  by_cases e : m < n
  · exact absurd h1.1 (h2.2 m e)
  · by_cases e2 : n < m
    · exact absurd h2.1 (h1.2 n e2)
    · omega
theorem leftAt_eq (h : LeftAt g w down S left n j) (hm : m ≤ n) : gi left j = m ↔ Lea g w down m (gi S j) := by
  rcases h with ⟨d, h1, h2, h3⟩ | ⟨h1, h2⟩
  · rw [h2]
    constructor
    · intro e
      obtain rfl : d = m := by omega
      exact h3
    · intro h
      rw [lea_uniq h3 h]
  · rw [h1]
    constructor
    · intro e; omega
    · intro h; exact absurd h.1 (h2 m hm)
theorem tg_of {s : Sg} (hs : s ∈ segsA g) (hc : segW g w down a s = some c) (ht : Tg g w down m c) : Tg g w down (m + 1) a := by
  refine ⟨⟨s, c⟩, ?_, ht⟩
  rw [leadsL, List.mem_filterMap]
  exact ⟨s, hs, by rw [ldO, hc]; rfl⟩
theorem tg_lea (hn : ∀ d < m + 1, ¬ Tg g w down d a) {s : Sg} (hs : s ∈ segsA g) (hc : segW g w down a s = some c) : Tg g w down m c ↔ Lea g w down m c := by
  constructor
  · intro h
    exact ⟨h, fun d hd ht => hn (d + 1) (by omega) (tg_of hs hc ht)⟩
  · exact fun h => h.1
structure Rnd (g : Graph) (w : Want) (down : List Bool) (S : List St) (left : List Int) (m : Nat) (i k : Int) : Prop where
  len : left.length = S.length
  pre : ∀ j : Int, 0 ≤ j → j < i → LeftAt g w down S left (m + 1) j
  post : ∀ j : Int, i < j → j < S.length → LeftAt g w down S left m j
  now : (0 ≤ gi left i ∧ LeftAt g w down S left (m + 1) i) ∨ (gi left i = -1 ∧ LeftAt g w down S left m i ∧ ∀ q : Int, 0 ≤ q → q < k → ∀ c, segW g w down (gi S i) (gi (segsA g) q) = some c → ¬ Lea g w down m c)
theorem Rnd.exit (h : Rnd g w down S left m i k) (hx : 0 ≤ gi left i ∨ ((segsA g).length : Int) ≤ k) : LeftAt g w down S left (m + 1) i := by
  rcases h.now with h1 | ⟨h1, h2, h3⟩
  · exact h1.2
  · refine .inr ⟨h1, fun d hd ht => ?_⟩
    have hk : ((segsA g).length : Int) ≤ k := by
      rcases hx with hx | hx
      · omega
      · exact hx
    rcases h2 with ⟨e, -, h5, -⟩ | ⟨-, h5⟩
    · omega
    by_cases hdm : d ≤ m
    · exact h5 d hdm ht
    · obtain rfl : d = m + 1 := by omega
      obtain ⟨s, hs, c, hc, htc⟩ := tg_seg ht
      have hl := (tg_lea (fun d hd => h5 d (by omega)) hs hc).1 htc
      obtain ⟨q, hq, rfl⟩ := List.getElem_of_mem hs
      have hg : gi (segsA g) (q : Int) = (segsA g)[q] := by rw [gi_get (by omega)]; simp
      exact h3 q (by omega) (by omega) c (by rw [hg]; exact hc) hl
theorem Rnd.skip (h : Rnd g w down S left m i k) (hi : gi left i < 0) (hk : ∀ c, segW g w down (gi S i) (gi (segsA g) k) = some c → ¬ Lea g w down m c) : Rnd g w down S left m i (k + 1) := by
  refine ⟨h.len, h.pre, h.post, ?_⟩
  rcases h.now with h1 | ⟨h1, h2, h3⟩
  · omega
  · refine .inr ⟨h1, h2, fun q q0 q1 c hc => ?_⟩
    by_cases e : q = k
    · subst e; exact hk c hc
    · exact h3 q q0 (by omega) c hc
theorem LeftAt.set (h : LeftAt g w down S left n j) (i0 : 0 ≤ i) (i1 : i < left.length) (j0 : 0 ≤ j) (e : j ≠ i) (x : Int) : LeftAt g w down S (left.set i.toNat x) n j := by
  unfold LeftAt
  rw [gi_set i0 i1 j0, if_neg e]
  exact h
theorem Rnd.at_ (h : Rnd g w down S left m i k) (i0 : 0 ≤ i) (j0 : 0 ≤ j) (j1 : j < S.length) : gi left j = m ↔ Lea g w down m (gi S j) := by
  by_cases e : j < i
  · exact leftAt_eq (h.pre j j0 e) (by omega)
  · by_cases e2 : i < j
    · exact leftAt_eq (h.post j e2 j1) (Nat.le_refl m)
    · obtain rfl : j = i := by omega
      rcases h.now with h1 | h1
      · exact leftAt_eq h1.2 (by omega)
      · exact leftAt_eq h1.2.1 (Nat.le_refl m)
theorem Rnd.first (hl : left.length = S.length) (hp : 1 ≤ S.length) (h : ∀ j : Int, 0 ≤ j → j < S.length → LeftAt g w down S left m j) : Rnd g w down S left m 0 0 := by
  refine ⟨hl, fun j j0 j1 => by omega, fun j j0 j1 => h j (by omega) j1, ?_⟩
  have hn := h 0 (by omega) (by omega)
  by_cases e : 0 ≤ gi left 0
  · refine .inl ⟨e, ?_⟩
    rcases hn with ⟨d, h3, h4⟩ | ⟨h3, h4⟩
    · exact .inl ⟨d, by omega, h4⟩
    · omega
  · refine .inr ⟨?_, hn, fun q q0 q1 => by omega⟩
    rcases hn with ⟨d, h3, h4, -⟩ | ⟨h3, h4⟩
    · omega
    · exact h3
end
end Go.Proofs.Ytejmcijcdhoogaa
end

section
namespace Go.Proofs.Ytejmcijcdhoogaa
open Go Abs
attribute [local irreducible] EX exL exG exC exCq exS exV exIf exGd exGq exB
set_option maxHeartbeats 1000000
section
variable (g : Graph)
end
end Go.Proofs.Ytejmcijcdhoogaa
end

section
namespace Go.Proofs.Ytejmcijcdhoogaa
open Go Abs
attribute [local irreducible] EX exL exG exC exCq exS exV exIf exGd exGq exB
set_option maxHeartbeats 8000000
theorem rd_sg {l : List Sg} {i : Int} (h0 : 0 ≤ i) (h1 : i < l.length) : rdV (rows l) (i.toNat * 2) 2 true = some (.agg [bv (gi l i).edge, iv (gi l i).to]) := rd_row rfl h0 h1
end Go.Proofs.Ytejmcijcdhoogaa
end

section
namespace Go.Proofs.Ytejmcijcdhoogaa
open Go Abs
attribute [local irreducible] EX exL exG exC exCq exS exV exIf exGd exGq exB
set_option maxHeartbeats 4000000
theorem aroundW_len (g : Graph) (edge to depth : Int) : (aroundW g edge to depth).1.length ≤ 10 := by
  unfold aroundW
  split
  · exact compW_len _ _ _ _
  · simp
end Go.Proofs.Ytejmcijcdhoogaa
end

section
namespace Go.Proofs.Ytejmcijcdhoogaa
open Go Abs
attribute [local irreducible] EX exL exG exC exCq exS exV exIf exGd exGq exB
set_option maxHeartbeats 1000000
structure WS where
  l : List Sg
  at_ : Int
  es : List Int
  ar : Int
  mo : Int
def segEnd (g : Graph) (s : Sg) : Int := if s.edge = true then (ends g s.to).2.1 else s.to
def isSeg (g : Graph) (s : Sg) : Prop := if s.edge = true then 0 ≤ s.to ∧ s.to < 2 * g.links.length else 0 ≤ s.to ∧ s.to < g.nodes
instance (g : Graph) (s : Sg) : Decidable (isSeg g s) := by unfold isSeg; split <;> exact inferInstance
def noHere (g : Graph) (s : Sg) (n : Int) : Prop := ¬ isSeg g s ∨ (s.edge = true ∧ (ends g s.to).1 ≠ n)
instance (g : Graph) (s : Sg) (n : Int) : Decidable (noHere g s n) := inferInstanceAs (Decidable (_ ∨ _))
noncomputable def hopO (g : Graph) (hash : Int) (s : Sg) (n : Int) : Option Int :=
  if s.edge = true then some s.to else if nxtOf g n s.to = [] then none else some (gi (nxtOf g n s.to) (hash % (nxtOf g n s.to).length))
section
variable (g : Graph) (hash : Int) (down : List Bool) (strict : Bool) (D : Nat)
noncomputable def goAround (p : WS) (r : List Sg) (e : Int) (to : Int) : WS × Int :=
  if (aroundW g e to D).2 ≠ 0 ∨ (D : Int) < (aroundW g e to D).1.length + r.length then (p, 3)
  else (⟨(aroundW g e to D).1 ++ r, p.at_, p.es, p.ar + 1, max p.mo ((aroundW g e to D).1 ++ r).length⟩, if p.ar + 1 = 255 then 2 else 0)
noncomputable def wstep (p : WS) : WS × Int :=
  match p.l with
  | [] => (p, 1)
  | s :: r =>
    if s.edge = false ∧ s.to = p.at_ then (⟨r, p.at_, p.es, p.ar, p.mo⟩, 0)
    else if p.es.length = 255 then (p, 2)
    else if noHere g s p.at_ then (p, 5)
    else match hopO g hash s p.at_ with
      | none => (p, 4)
      | some e =>
        if upE down e = true then (⟨if s.edge = true then r else s :: r, (ends g e).2.1, p.es ++ [e], p.ar, p.mo⟩, 0)
        else if strict = true then (p, 3)
        else goAround g D p r e (segEnd g s)
inductive WEnd : WS → WS × Int → Prop
  | fin {p : WS} : (wstep g hash down strict D p).2 ≠ 0 → WEnd p (wstep g hash down strict D p)
  | go {p : WS} {R : WS × Int} : (wstep g hash down strict D p).2 = 0 → WEnd (wstep g hash down strict D p).1 R → WEnd p R
end
structure WOk (B : Nat) (p : WS) : Prop where
  few : p.es.length ≤ 255
  ar0 : 0 ≤ p.ar
  ar1 : p.ar ≤ 254
  len : p.l.length ≤ B
def wmu (B : Nat) (p : WS) : Nat := (510 - p.es.length - p.ar.toNat) * (B + 1) + p.l.length
section
variable {g : Graph} {hash : Int} {down : List Bool} {strict : Bool} {D : Nat} {B : Nat}
theorem wmu_lt {B n m a b : Nat} (h : m < n) (hb : b ≤ B) : m * (B + 1) + b < n * (B + 1) + a := by
  have := Nat.mul_le_mul_right (B + 1) (show m + 1 ≤ n by omega)
  rw [Nat.add_mul] at this
  omega
theorem WOk.step {p : WS} (h : WOk B p) (hD : D ≤ B) (hz : (wstep g hash down strict D p).2 = 0) : WOk B (wstep g hash down strict D p).1 ∧ wmu B (wstep g hash down strict D p).1 < wmu B p := by
  obtain ⟨h1, h2, h3, h4⟩ := h
  obtain ⟨l, n, es, ar, mo⟩ := p
  dsimp only at h1 h2 h3 h4
  cases l with
  | nil => simp [wstep] at hz
  | cons s r =>
    have hr : r.length + 1 ≤ B := by simpa using h4
    unfold wstep at hz ⊢
    dsimp only at hz ⊢
    split
    · refine ⟨⟨h1, h2, h3, by dsimp only; omega⟩, ?_⟩
      unfold wmu
      dsimp only
      rw [List.length_cons]
      omega
    · rename_i c1
      rw [if_neg c1] at hz
      split
      · rename_i c2; rw [if_pos c2] at hz; cases hz
      · rename_i c2
        rw [if_neg c2] at hz
        split
        · rename_i c3; rw [if_pos c3] at hz; cases hz
        · rename_i c3
          rw [if_neg c3] at hz
          split
          · rename_i hh; rw [hh] at hz; cases hz
          · rename_i e hh
            rw [hh] at hz
            dsimp only at hz
            split
            · refine ⟨⟨by simp; omega, h2, h3, ?_⟩, ?_⟩
              · dsimp only; split <;> (try simp only [List.length_cons]) <;> omega
              · unfold wmu
                dsimp only
                refine wmu_lt (by simp; omega) ?_
                split <;> (try simp only [List.length_cons]) <;> omega
            · rename_i c4
              rw [if_neg c4] at hz
              split
              · rename_i c5; rw [if_pos c5] at hz; cases hz
              · rename_i c5
                rw [if_neg c5] at hz
                unfold goAround at hz ⊢
                split
                · rename_i c6; rw [if_pos c6] at hz; cases hz
                · rename_i c6
                  rw [if_neg c6] at hz
                  dsimp only at hz ⊢
                  have hne : ¬ ar + 1 = 255 := fun hh => by rw [if_pos hh] at hz; cases hz
                  simp only [not_or, Int.not_lt] at c6
                  refine ⟨⟨h1, by dsimp only; omega, by dsimp only; omega, by simp; omega⟩, ?_⟩
                  unfold wmu
                  dsimp only
                  refine wmu_lt (by omega) (by simp; omega)
theorem wEnd_exists (hD : D ≤ B) : ∀ (n : Nat) (p : WS), wmu B p ≤ n → WOk B p → ∃ R, WEnd g hash down strict D p R
  | 0, p, hn, h => by
    by_cases hz : (wstep g hash down strict D p).2 = 0
    · have := (h.step hD hz).2
      omega
    · exact ⟨_, .fin hz⟩
  | n + 1, p, hn, h => by
    by_cases hz : (wstep g hash down strict D p).2 = 0
    · obtain ⟨h1, h2⟩ := h.step hD hz
      obtain ⟨R, hR⟩ := wEnd_exists hD n _ (by omega) h1
      exact ⟨R, .go hz hR⟩
    · exact ⟨_, .fin hz⟩
theorem wEnd_uniq {p : WS} {R R' : WS × Int} (h : WEnd g hash down strict D p R) (h' : WEnd g hash down strict D p R') : R = R' := by
  induction h with
  | fin hz =>
    cases h' with
    | fin _ => rfl
    | go hz' _ => exact absurd hz' hz
  | go hz _ ih =>
    cases h' with
    | fin hz' => exact absurd hz hz'
    | go _ h2 => exact ih h2
end
noncomputable instance (g : Graph) (hash : Int) (down : List Bool) (strict : Bool) (D : Nat) (p : WS) : Decidable (∃ R, WEnd g hash down strict D p R) := Classical.propDecidable _
noncomputable def walkW (g : Graph) (src : Int) (l : List Sg) (hash : Int) (down : List Bool) (strict : Bool) (depth : Int) : WS × Int :=
  if h : ∃ R, WEnd g hash down strict (cut10 depth) ⟨l, src, [], 0, l.length⟩ R then (if 0 ≤ src ∧ src < g.nodes then h.choose else (⟨[], -1, [], 0, 0⟩, 4)) else (⟨[], -1, [], 0, 0⟩, 4)
def walkAV (R : WS × Int) : AV := .agg [ints R.1.es, iv R.1.at_, iv R.2, iv R.1.ar, iv R.1.mo]
theorem walkW_of {g : Graph} {src : Int} {l : List Sg} {hash : Int} {down : List Bool} {strict : Bool} {depth : Int} (hs : 0 ≤ src ∧ src < g.nodes) {R : WS × Int} (h : WEnd g hash down strict (cut10 depth) ⟨l, src, [], 0, l.length⟩ R) : walkW g src l hash down strict depth = R := by
  have hx : ∃ R, WEnd g hash down strict (cut10 depth) ⟨l, src, [], 0, l.length⟩ R := ⟨R, h⟩
  unfold walkW
  rw [dif_pos hx, if_pos hs]
  exact wEnd_uniq hx.choose_spec h
theorem walkW_end (g : Graph) (src : Int) (l : List Sg) (hash : Int) (down : List Bool) (strict : Bool) (depth : Int) : ∃ R, WEnd g hash down strict (cut10 depth) ⟨l, src, [], 0, l.length⟩ R :=
  wEnd_exists (B := l.length + 10) (by unfold cut10; omega) _ _ (Nat.le_refl _) ⟨by simp, by simp, by simp, by simp⟩
theorem walkW_none {g : Graph} {src : Int} {l : List Sg} {hash : Int} {down : List Bool} {strict : Bool} {depth : Int} (hs : ¬ (0 ≤ src ∧ src < g.nodes)) : walkW g src l hash down strict depth = (⟨[], -1, [], 0, 0⟩, 4) := by
  unfold walkW
  rw [dif_pos (walkW_end _ _ _ _ _ _ _), if_neg hs]
end Go.Proofs.Ytejmcijcdhoogaa
end

section
namespace Go.Proofs.Ytejmcijcdhoogaa
open Go Abs
attribute [local irreducible] EX exL exG exC exCq exS exV exIf exGd exGq exB
set_option maxHeartbeats 2000000
theorem grow_c (n : Nat) (hn : n ≤ 1000) (H : AHeap) : ACalls Try.prog 111 [.vec true [] 0, iv n] H fun r H' => (n = 0 ∧ r = .vec true [] 0 ∧ H' = H) ∨ (0 < n ∧ ∃ b cap cs, r = .raw (.slice (some ⟨b, 0, none⟩) 0 cap) ∧ H b = none ∧ H' = upd H b (some (.row cs cap 50 2))) := by
  refine ACalls.of_code fn_slices_Grow_api_Seg_api_Seg ?_
  simp -implicitDefEqProofs only [sc_slices_Grow_api_Seg_api_Seg, go_sem, seval]
  by_cases h0 : n = 0
  · subst h0
    repeat' (first | simp -implicitDefEqProofs only [go_sem, seval] | simp -implicitDefEqProofs (disch := omega) only [ars, if_pos, exV_some, Option.map_some] | ((with_reducible first | apply exB_dec | apply exB_intro) <;> intro _))
    all_goals first | exact .inl trivial | (exfalso; omega) | skip
    done
  · repeat' (first | simp -implicitDefEqProofs only [go_sem, seval] | simp -implicitDefEqProofs (disch := omega) only [ars, if_pos, exV_some, Option.map_some] | ((with_reducible first | apply exB_dec | apply exB_intro) <;> intro _))
    all_goals first | (exfalso; omega) | skip
    have e : ((n : Int) - 0).toNat = n := by omega
    refine ⟨by omega, by omega, by omega, rfl, fun b cap hb hc => ?_⟩
    have hb : H b = none := hb
    rw [e]
    repeat' (first | simp -implicitDefEqProofs only [go_sem, seval] | simp -implicitDefEqProofs (disch := omega) only [ite_self, ars, if_pos, exV_some, Option.map_some] | ((with_reducible first | apply exB_dec | apply exB_intro) <;> intro _))
    all_goals first | exact .inr ⟨by omega, b, cap, _, rfl, hb, rfl⟩ | (exfalso; omega) | skip
    done
def GH (H H' : AHeap) (v : AV) (l : List Sg) : Prop :=
  (∀ b o, H b = some o → H' b = some o) ∧ ((v = .vec true [] 0 ∧ l = []) ∨ ∃ b cap cs, v = .raw (.slice (some ⟨b, 0, none⟩) l.length cap) ∧ H' b = some (.row cs cap 50 2) ∧ H b = none ∧ l.length ≤ cap ∧ (cs = rows l ∨ l = []))
theorem GH.app {H H' : AHeap} {v : AV} {l m : List Sg} {nly : Bool} {dst : Option Nat} {s : S} {K : S → Prop} (h : GH H H' v l) (hs : s.H = H') (h2 : l.length + m.length ≤ 1000)
    (k : ∀ H1 v1, GH H H1 v1 (l ++ m) → (m = [] → v1 = v) → K ({ s with H := H1 }.put dst (.v v1))) : hapK 50 2 16 (hpre H' 50 2 (.v v)) (.v v) (.v (.vec nly (rows m) m.length)) dst s K := by
  subst hs
  obtain ⟨hbase, hv⟩ := h
  have pre : ∃ ob cap, hpre s.H 50 2 (.v v) = some (ob, l.length, cap, rows l) ∧ ∀ b, ob = some b → H b = none := by
    rcases hv with ⟨rfl, rfl⟩ | ⟨b, cap, cs, rfl, h1, h3, h4, h5⟩
    · exact ⟨none, 0, rfl, fun b hb => by cases hb⟩
    · refine ⟨some b, cap, ?_, fun b' hb' => by injection hb' with hb'; rw [← hb']; exact h3⟩
      rcases h5 with rfl | rfl
      · have hl : (rows l).length = l.length * 2 := rows_length l
        rw [hpre_row h1 h4 (by omega), List.take_of_length_le (by omega)]
      · rw [hpre_row h1 h4 (by simp)]
        simp [rows]
  obtain ⟨ob, cap, hp, hob⟩ := pre
  rw [hp]
  refine ⟨rows_length m, by omega, by simp only [maxLen]; omega, fun hm => ?_, fun hm b2 cap' hb2 hc => ?_⟩
  · have : m = [] := List.eq_nil_of_length_eq_zero hm
    subst this
    rw [List.append_nil] at k
    exact k s.H v ⟨hbase, hv⟩ fun _ => rfl
  · have hb2' : H b2 = none := by
      rcases hb2 with hb2 | hb2
      · exact hob b2 hb2
      · cases hq : H b2 with
        | none => rfl
        | some o => rw [hbase b2 o hq] at hb2; cases hb2
    have := k (upd (delH s.H ob) b2 (some (.row (rows l ++ rows m) cap' 50 2))) (.raw (.slice (some ⟨b2, 0, none⟩) (l.length + m.length) cap')) ⟨fun b' o ho => ?_, .inr ⟨b2, cap', _, by rw [List.length_append], upd_self _ _ _, hb2', by rw [List.length_append]; exact hc, .inl (by rw [rows_append])⟩⟩ (fun hh => by rw [hh] at hm; exact absurd hm (by decide))
    · exact this
    · rw [upd_ne _ _ (by rintro rfl; rw [hb2'] at ho; cases ho)]
      cases ob with
      | none => exact hbase b' o ho
      | some b0 => exact (upd_ne _ _ (by rintro rfl; rw [hob b0 rfl] at ho; cases ho)).trans (hbase b' o ho)
theorem concat_c (l1 l2 : List Sg) (n1 n2 : Bool) (h1 : l1.length ≤ 400) (h2 : l2.length ≤ 400) (H : AHeap) : APure Try.prog 97 [.vec false [.vec n1 (rows l1) l1.length, .vec n2 (rows l2) l2.length] 2] H (.vec (l1 ++ l2).isEmpty (rows (l1 ++ l2)) (l1 ++ l2).length) := by
  intro Q h
  suffices key : ACalls Try.prog 97 [.vec false [.vec n1 (rows l1) l1.length, .vec n2 (rows l2) l2.length] 2] H fun r H' => GH H H' r (l1 ++ l2) ∧ (l1 ++ l2 = [] → r = .vec true [] 0) by
    by_cases he : l1 ++ l2 = []
    · refine ACalls.relax (key.mono ?_)
      rintro r H' ⟨⟨hb, -⟩, hr⟩
      obtain rfl := hr he
      refine ⟨fun _ => False, H, _, hb, by simp, Fz.refl _ _ _, ?_⟩
      rw [he] at h
      exact h
    · have hne : (l1 ++ l2).isEmpty = false := by
        cases hq : l1 ++ l2 with
        | nil => exact absurd hq he
        | cons _ _ => rfl
      rw [hne] at h
      refine relax_slice h (fun _ hr => ?_) (key.mono ?_)
      · have := rows_length (l1 ++ l2)
        rw [hr, Sg.sz_eq] at this
        simp only [List.length_nil] at this
        have := List.length_pos_iff.2 he
        omega
      · rintro r H' ⟨⟨hb, ⟨rfl, hq⟩ | ⟨b, cap, cs, rfl, q1, q2, q3, q4⟩⟩, -⟩
        · exact absurd hq he
        · rcases q4 with rfl | q4
          · exact ⟨b, cap, cap, _, _, rfl, q1, q2, hb, q3, Nat.le_refl _⟩
          · exact absurd q4 he
  clear h
  have g1 := fun n hn H => grow_c n hn H
  refine ACalls.of_code fn_slices_Concat_api_Seg_api_Seg ?_
  simp -implicitDefEqProofs only [sc_slices_Concat_api_Seg_api_Seg, go_sem, seval]
  refine exL_step ?_
  simp -implicitDefEqProofs only [congrArg KI.code sc_slices_Concat_api_Seg_api_Seg_L1.eq_1, go_sem, seval]
  repeat' (first | simp -implicitDefEqProofs only [go_sem, seval] | simp -implicitDefEqProofs (disch := omega) only [ars, if_pos, exV_some, Option.map_some] | ((with_reducible first | apply exB_dec | apply exB_intro) <;> intro _))
  all_goals first | (exfalso; omega) | skip
  refine exL_step ?_
  simp -implicitDefEqProofs only [congrArg KI.code sc_slices_Concat_api_Seg_api_Seg_L1.eq_1, go_sem, seval]
  repeat' (first | simp -implicitDefEqProofs only [go_sem, seval] | simp -implicitDefEqProofs (disch := omega) only [ars, if_pos, exV_some, Option.map_some] | ((with_reducible first | apply exB_dec | apply exB_intro) <;> intro _))
  all_goals first | (exfalso; omega) | skip
  refine exL_step ?_
  simp -implicitDefEqProofs only [congrArg KI.code sc_slices_Concat_api_Seg_api_Seg_L1.eq_1, go_sem, seval]
  repeat' (first | simp -implicitDefEqProofs only [go_sem, seval] | simp -implicitDefEqProofs (disch := omega) only [ars, if_pos, exV_some, Option.map_some] | ((with_reducible first | apply exB_dec | apply exB_intro) <;> intro _))
  all_goals first | (exfalso; omega) | skip
  rw [show (0 + (l1.length : Int) + (l2.length : Int)) = ((l1.length + l2.length : Nat) : Int) by omega]
  refine exC_intro (g1 (l1.length + l2.length) (by omega) H) ?_
  intro v H1 hv
  have hg : GH H H1 v [] ∧ (l1 ++ l2 = [] → v = .vec true [] 0) := by
    rcases hv with ⟨h0, rfl, rfl⟩ | ⟨h0, b, cap, cs, rfl, q1, rfl⟩
    · exact ⟨⟨fun b o ho => ho, .inl ⟨rfl, rfl⟩⟩, fun _ => rfl⟩
    · refine ⟨⟨upd_base q1, .inr ⟨b, cap, cs, rfl, upd_self _ _ _, q1, Nat.zero_le _, .inr rfl⟩⟩, fun hh => ?_⟩
      have := congrArg List.length hh
      rw [List.length_append] at this
      simp only [List.length_nil] at this
      omega
  clear hv g1
  obtain ⟨hg, hn⟩ := hg
  simp -implicitDefEqProofs only [go_sem, seval]
  refine exL_step ?_
  simp -implicitDefEqProofs only [congrArg KI.code sc_slices_Concat_api_Seg_api_Seg_L0.eq_1, go_sem, seval]
  repeat' (first | simp -implicitDefEqProofs only [go_sem, seval] | simp -implicitDefEqProofs (disch := omega) only [ars, if_pos, exV_some, Option.map_some] | ((with_reducible first | apply exB_dec | apply exB_intro) <;> intro _))
  all_goals first | (exfalso; omega) | skip
  refine hg.app rfl (by simp; omega) fun H2 v2 hg2 hn2 => ?_
  rw [List.nil_append] at hg2
  repeat' (first | simp -implicitDefEqProofs only [go_sem, seval] | simp -implicitDefEqProofs (disch := omega) only [ars, if_pos, exV_some, Option.map_some] | ((with_reducible first | apply exB_dec | apply exB_intro) <;> intro _))
  all_goals first | (exfalso; omega) | skip
  refine exL_step ?_
  simp -implicitDefEqProofs only [congrArg KI.code sc_slices_Concat_api_Seg_api_Seg_L0.eq_1, go_sem, seval]
  repeat' (first | simp -implicitDefEqProofs only [go_sem, seval] | simp -implicitDefEqProofs (disch := omega) only [ars, if_pos, exV_some, Option.map_some] | ((with_reducible first | apply exB_dec | apply exB_intro) <;> intro _))
  all_goals first | (exfalso; omega) | skip
  refine hg2.app rfl (by omega) fun H3 v3 hg3 hn3 => ?_
  repeat' (first | simp -implicitDefEqProofs only [go_sem, seval] | simp -implicitDefEqProofs (disch := omega) only [ars, if_pos, exV_some, Option.map_some] | ((with_reducible first | apply exB_dec | apply exB_intro) <;> intro _))
  all_goals first | (exfalso; omega) | skip
  refine exL_step ?_
  simp -implicitDefEqProofs only [congrArg KI.code sc_slices_Concat_api_Seg_api_Seg_L0.eq_1, go_sem, seval]
  repeat' (first | simp -implicitDefEqProofs only [go_sem, seval] | simp -implicitDefEqProofs (disch := omega) only [ars, if_pos, exV_some, Option.map_some] | ((with_reducible first | apply exB_dec | apply exB_intro) <;> intro _))
  all_goals first | (exfalso; omega) | skip
  refine ⟨hg3, fun hh => ?_⟩
  obtain ⟨e1, e2⟩ := List.append_eq_nil_iff.1 hh
  rw [hn3 e2, hn2 e1, hn hh]
theorem fibIs_c (g : Graph) (hL : g.links.length ≤ 1000) (s : Sg) (H : AHeap) : APure Try.prog 94 [g.av, s.av] H (bv (decide (isSeg g s))) := by
  intro Q h
  refine ACalls.of_code fn_fib_Is ?_
  obtain ⟨ed, to⟩ := s
  have ic := fun H => is_c g to H
  simp only [Graph.av] at ic
  simp -implicitDefEqProofs only [sc_fib_Is, Graph.av, Sg.av, Sg.cells_eq, go_sem, seval]
  cases ed with
  | true =>
    have e1 : 0 ≤ to → decide (isSeg g ⟨true, to⟩) = decide (to < 2 * (g.links.length : Int)) := fun h0 => by rw [decide_eq_decide]; simp [isSeg, h0]
    have e2 : ¬ 0 ≤ to → decide (isSeg g ⟨true, to⟩) = false := fun h0 => by rw [decide_eq_false_iff_not]; simp [isSeg, h0]
    repeat' (first | simp -implicitDefEqProofs only [go_sem, seval] | simp -implicitDefEqProofs (disch := omega) only [ars, if_pos, exV_some, Option.map_some] | ((with_reducible first | apply exB_dec | apply exB_intro) <;> intro _) | with_reducible refine exC_pure (ic _) ?_ | with_reducible refine exCq_pure (ic _) ?_)
    all_goals first | (rw [e1 (by assumption)] at h; exact h) | (rw [e2 (by assumption)] at h; exact h) | skip
    done
  | false =>
    repeat' (first | simp -implicitDefEqProofs only [go_sem, seval] | simp -implicitDefEqProofs (disch := omega) only [ars, if_pos, exV_some, Option.map_some] | ((with_reducible first | apply exB_dec | apply exB_intro) <;> intro _) | with_reducible refine exC_pure (ic _) ?_ | with_reducible refine exCq_pure (ic _) ?_)
    all_goals first | exact h | skip
    done
end Go.Proofs.Ytejmcijcdhoogaa
end

section
namespace Go.Proofs.Ytejmcijcdhoogaa
open Go Abs
attribute [local irreducible] EX exL exG exC exCq exS exV exIf exGd exGq exB
set_option maxHeartbeats 4000000
def i64 (x : Int) : Prop := -9223372036854775808 ≤ x ∧ x ≤ 9223372036854775807
noncomputable def pkC (g : Graph) (hash : Int) (D : Nat) (dn : Bool) (down : List Bool) (strict : Bool) (p : WS) (ln : Bool) (ev : AV) (en : Int) : List AV :=
  [tab g, iv g.nodes, .vec g.nl (rows g.links) g.links.length, .vec ln (rows p.l) p.l.length, iv hash, .vec dn (down.map bv) down.length, bv strict, iv D, ev, iv p.at_, iv en, iv p.ar, iv p.mo]
def EsH (H H' : AHeap) (pb : Nat) (es : List Int) (ev : AV) : Prop :=
  (es = [] ∧ ev = .vec true [] 0) ∨ ∃ b cap, ev = .raw (.slice (some ⟨b, 0, none⟩) es.length cap) ∧ H' b = some (.row (es.map iv) cap 3 1) ∧ b ≠ pb ∧ H b = none ∧ es.length ≤ cap ∧ es ≠ []
structure PkH (g : Graph) (hash : Int) (D : Nat) (dn : Bool) (down : List Bool) (strict : Bool) (H H' : AHeap) (pb : Nat) (p : WS) (en : Int) : Prop where
  base : ∀ b o, H b = some o → H' b = some o
  new : H pb = none
  at_ : ∃ ln ev, H' pb = some (.cells (pkC g hash D dn down strict p ln ev en) 118) ∧ EsH H H' pb p.es ev
abbrev ptr (b : Nat) : AV := .raw (.pointer (some ⟨b, 0, none⟩))
section
variable (g : Graph) (hash : Int) (D : Nat) (dn : Bool) (down : List Bool) (strict : Bool) (H0 : AHeap) (pb : Nat) (p : WS) (ln : Bool) (ev : AV) (en : Int) (s : Sg) (r : List Sg)
theorem wend_c (hl : p.l = s :: r) (hs : i64 s.to) (H : AHeap) (hH : H pb = some (.cells (pkC g hash D dn down strict p ln ev en) 118)) : APure Try.prog 96 [ptr pb] H (iv (segEnd g s)) := by
  intro Q h
  have ec := fun H => ends_c g s.to hs H
  simp only [Graph.av, triIIB] at ec
  rw [pkC, hl] at hH
  have r0 : rdV (rows (s :: r)) 0 1 false = some (bv s.edge) := rfl
  have r1 : rdV (rows (s :: r)) 1 1 false = some (iv s.to) := rfl
  refine ACalls.of_code fn_walk_packet_end ?_
  simp -implicitDefEqProofs only [sc_walk_packet_end, go_sem, seval]
  unfold segEnd at h
  cases he : s.edge with
  | true =>
    rw [he] at h r0
    repeat' (first | simp -implicitDefEqProofs only [go_sem, seval] | simp -implicitDefEqProofs (disch := omega) only [hH, r0, r1, List.length_cons, ars, if_pos, exV_some, Option.map_some] | ((with_reducible first | apply exB_dec | apply exB_intro) <;> intro _) | with_reducible refine exC_pure (ec _) ?_ | with_reducible refine exCq_pure (ec _) ?_)
    all_goals first | exact h | (exfalso; omega) | skip
    done
  | false =>
    rw [he] at h r0
    repeat' (first | simp -implicitDefEqProofs only [go_sem, seval] | simp -implicitDefEqProofs (disch := omega) only [hH, r0, r1, List.length_cons, ars, if_pos, exV_some, Option.map_some] | ((with_reducible first | apply exB_dec | apply exB_intro) <;> intro _) | with_reducible refine exC_pure (ec _) ?_ | with_reducible refine exCq_pure (ec _) ?_)
    all_goals first | exact h | (exfalso; omega) | skip
    done
theorem wlabel_c (hL : g.links.length ≤ 1000) (hl : p.l = s :: r) (hs : i64 s.to) (H : AHeap) (hH : H pb = some (.cells (pkC g hash D dn down strict p ln ev en) 118)) : APure Try.prog 81 [ptr pb] H (bv (decide (noHere g s p.at_))) := by
  intro Q h
  have ec := fun H => ends_c g s.to hs H
  have fc := fun H => fibIs_c g hL s H
  simp only [Graph.av, triIIB, Sg.av, Sg.cells_eq] at ec fc
  rw [pkC, hl] at hH
  have r0 : rdV (rows (s :: r)) 0 1 false = some (bv s.edge) := rfl
  have r1 : rdV (rows (s :: r)) 1 1 false = some (iv s.to) := rfl
  have r2 : rdV (rows (s :: r)) 0 2 true = some (.agg [bv s.edge, iv s.to]) := rd_sg (l := s :: r) (i := 0) (by decide) (by simp)
  refine ACalls.of_code fn_walk_packet_label ?_
  simp -implicitDefEqProofs only [sc_walk_packet_label, go_sem, seval]
  by_cases hi : isSeg g s
  · have hn : decide (noHere g s p.at_) = (s.edge && decide ((ends g s.to).1 ≠ p.at_)) := by
      rw [← Bool.decide_eq_true (b := s.edge), ← Bool.decide_and, decide_eq_decide]
      simp [noHere, hi]
    rw [hn] at h
    cases he : s.edge with
    | true =>
      rw [he] at h r0 r2
      simp only [he, hi, decide_true] at fc
      repeat' (first | simp -implicitDefEqProofs only [go_sem, seval] | simp -implicitDefEqProofs (disch := omega) only [hH, r0, r1, r2, he, hi, List.length_cons, ars, if_pos, exV_some, Option.map_some] | ((with_reducible first | apply exB_dec | apply exB_intro) <;> intro _) | with_reducible refine exC_pure (ec _) ?_ | with_reducible refine exCq_pure (ec _) ?_ | with_reducible refine exC_pure (fc _) ?_ | with_reducible refine exCq_pure (fc _) ?_)
      all_goals first | exact h | (exfalso; omega) | skip
      done
    | false =>
      rw [he] at h r0 r2
      simp only [he, hi, decide_true] at fc
      repeat' (first | simp -implicitDefEqProofs only [go_sem, seval] | simp -implicitDefEqProofs (disch := omega) only [hH, r0, r1, r2, he, hi, List.length_cons, ars, if_pos, exV_some, Option.map_some] | ((with_reducible first | apply exB_dec | apply exB_intro) <;> intro _) | with_reducible refine exC_pure (ec _) ?_ | with_reducible refine exCq_pure (ec _) ?_ | with_reducible refine exC_pure (fc _) ?_ | with_reducible refine exCq_pure (fc _) ?_)
      all_goals first | exact h | (exfalso; omega) | skip
      done
  · have hn : decide (noHere g s p.at_) = true := decide_eq_true (.inl hi)
    rw [hn] at h
    simp only [hi, decide_false] at fc
    repeat' (first | simp -implicitDefEqProofs only [go_sem, seval] | simp -implicitDefEqProofs (disch := omega) only [hH, r0, r1, r2, hi, List.length_cons, ars, if_pos, exV_some, Option.map_some] | ((with_reducible first | apply exB_dec | apply exB_intro) <;> intro _) | with_reducible refine exC_pure (ec _) ?_ | with_reducible refine exCq_pure (ec _) ?_ | with_reducible refine exC_pure (fc _) ?_ | with_reducible refine exCq_pure (fc _) ?_)
    all_goals first | exact h | (exfalso; omega) | skip
    done
theorem whop_c (hc : (check g).2 = 0) (hh : i64 hash) (hl : p.l = s :: r) (H : AHeap) (hH : H pb = some (.cells (pkC g hash D dn down strict p ln ev en) 118)) : APure Try.prog 82 [ptr pb] H (match hopO g hash s p.at_ with | some e => .tup [iv e, bv true] | none => .tup [iv 0, bv false]) := by
  intro Q h
  have nc := fun H => tnext_c g hc p.at_ s.to H
  obtain ⟨cs, hcs⟩ : ∃ cs, tab g = .box cs 0 := ⟨_, rfl⟩
  rw [pkC, hl, hcs] at hH
  rw [hcs] at nc
  have r0 : rdV (rows (s :: r)) 0 1 false = some (bv s.edge) := rfl
  have r1 : rdV (rows (s :: r)) 1 1 false = some (iv s.to) := rfl
  refine ACalls.of_code fn_walk_packet_hop ?_
  simp -implicitDefEqProofs only [sc_walk_packet_hop, go_sem, seval]
  cases he : s.edge with
  | true =>
    rw [hopO, if_pos he] at h
    rw [he] at r0
    repeat' (first | simp -implicitDefEqProofs only [go_sem, seval] | simp -implicitDefEqProofs (disch := omega) only [hH, r0, r1, List.length_cons, ars, if_pos, exV_some, Option.map_some] | ((with_reducible first | apply exB_dec | apply exB_intro) <;> intro _))
    all_goals first | exact h | (exfalso; omega) | skip
    done
  | false =>
    rw [hopO, if_neg (by rw [he]; simp)] at h
    rw [he] at r0
    have hll := nxtOf_length g p.at_ s.to
    obtain ⟨l, hlq⟩ : ∃ l, l = nxtOf g p.at_ s.to := ⟨_, rfl⟩
    simp only [ints, ← hlq] at nc
    rw [← hlq] at h hll
    have hf := fit_of g hc
    have f3 := hf.few
    by_cases hz : l = []
    · rw [if_pos hz] at h
      subst hz
      repeat' (first | simp -implicitDefEqProofs only [go_sem, seval] | simp -implicitDefEqProofs (disch := omega) only [hH, r0, r1, List.length_cons, ars, if_pos, exV_some, Option.map_some] | ((with_reducible first | apply exB_dec | apply exB_intro) <;> intro _) | with_reducible refine exC_pure (nc _) ?_ | with_reducible refine exCq_pure (nc _) ?_)
      all_goals first | exact h | (exfalso; omega) | skip
      done
    · rw [if_neg hz] at h
      have hpos : 0 < l.length := List.length_pos_iff.2 hz
      obtain ⟨k, hk⟩ : ∃ k : Int, k = l.length := ⟨_, rfl⟩
      obtain ⟨q, hq⟩ : ∃ q, q = hash.tmod k := ⟨_, rfl⟩
      have hq0 : -k < q ∧ q < k := by
        rw [hq]
        by_cases h0 : 0 ≤ hash
        · have := Int.tmod_nonneg k h0
          have := Int.tmod_lt_of_pos hash (b := k) (by omega)
          omega
        · have h1 : hash.tmod k = -((-hash).tmod k) := by rw [Int.neg_tmod, Int.neg_neg]
          have := Int.tmod_nonneg k (a := -hash) (by omega)
          have := Int.tmod_lt_of_pos (-hash) (b := k) (by omega)
          omega
      have hr : (q + k) % k = hash % k := by
        rw [Int.add_emod_right, hq]
        have := Int.tmod_add_mul_tdiv hash k
        have h2 : hash.tmod k = hash - k * hash.tdiv k := by omega
        rw [h2, Int.sub_mul_emod_self_left]
      have hx0 := Int.emod_nonneg hash (b := k) (by omega)
      have hx1 := Int.emod_lt_of_pos hash (b := k) (by omega)
      obtain ⟨x, hx⟩ : ∃ x, x = hash % k := ⟨_, rfl⟩
      rw [← hk, ← hx] at h
      rw [← hx] at hr hx0 hx1
      repeat' (first | simp -implicitDefEqProofs only [go_sem, seval] | simp -implicitDefEqProofs (disch := omega) only [hH, r0, r1, List.length_cons, ← hk, ← hq, hr, ars, if_pos, exV_some, Option.map_some] | ((with_reducible first | apply exB_dec | apply exB_intro) <;> intro _) | with_reducible refine exC_pure (nc _) ?_ | with_reducible refine exCq_pure (nc _) ?_)
      all_goals first | exact h | (exfalso; omega) | skip
      done
end
end Go.Proofs.Ytejmcijcdhoogaa
end
