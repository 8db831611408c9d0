import Derived.Test.YtejmcijcdhoogaaMB1
import Derived.Test.YtejmcijcdhoogaaMC1
import Derived.Test.YtejmcijcdhoogaaMB2
set_option linter.unusedSimpArgs false
set_option linter.unusedVariables false
section
/- Where a segment leads, as the document has it. -/
namespace Go.Proofs.Ytejmcijcdhoogaa
open Go Abs
attribute [local irreducible] EX exL exG exC exCq exS exV exIf exGd exGq exB
set_option maxHeartbeats 4000000
theorem endN_out {g : Graph} {w : Want} {down : List Bool} {to : Int} (hf : Fit g) {a : St} (ha : a.1 ≠ to) (h : ¬ ((0 ≤ to ∧ to < g.nodes) ∧ (0 ≤ a.1 ∧ a.1 < g.nodes) ∧ 0 ≤ a.2 ∧ a.2 < w.via.length + 2)) : endN g w down to a = none := by
  cases he : endN g w down to a with
  | none => rfl
  | some r =>
    exfalso
    obtain ⟨h1, h2⟩ := endN_next hf ha he
    have h3 : (0 ≤ a.1 ∧ a.1 < g.nodes) ∧ 0 ≤ to ∧ to < g.nodes := by
      by_cases hh : (0 ≤ a.1 ∧ a.1 < g.nodes) ∧ 0 ≤ to ∧ to < g.nodes
      · exact hh
      · rw [nxtOf, if_neg hh] at h1; exact absurd rfl h1
    obtain ⟨e, he⟩ := List.exists_mem_of_ne_nil _ h1
    obtain ⟨b, hb, -⟩ := h2 e he
    have := (stepW_some hb).1.2.1
    exact h ⟨h3.2, h3.1, this.1, by omega⟩
theorem oseg_c (g : Graph) (w : Want) (down : List Bool) (h0 : optErr g w down = 0) (hc : (check g).2 = 0) (a : St) (s : Sg) (hs : -9223372036854775808 ≤ s.to ∧ s.to ≤ 9223372036854775807) (H : AHeap) :
    APure Try.prog 51 [.box (optCells g w down) 0, refTab g, stateAV a, s.av] H (stepAV (segW g w down a s)) := by
  intro Q h
  have wf := wfit_of (optErr_right h0)
  have hf := wf.fit
  have fn := hf.n2
  have fn1 := hf.n1
  have fw := wf.few
  have ff := hf.few
  have ic := fun n H => isNode_ref_c g n H
  simp only [Graph.av] at ic
  have st := fun H => rostep_c g w down h0 a.1 a.2 s.to hs H
  obtain ⟨R, hR⟩ : ∃ R, R = stepAV (segW g w down a s) := ⟨_, rfl⟩
  rw [← hR] at h
  have hpl : (pts w).length = w.via.length + 2 := pts_length w
  suffices key : ACalls Try.prog 51 [.box (optCells g w down) 0, refTab g, stateAV a, s.av] H fun r H' => (∀ b o, H b = some o → H' b = some o) ∧ r = R by
    refine ACalls.relax (key.mono ?_)
    rintro r H' ⟨h1, rfl⟩
    exact ⟨fun _ => False, H, _, h1, by simp, Fz.refl _ _ _, h⟩
  clear h
  refine ACalls.of_code fn_waymarkref15_Opt_Seg ?_
  obtain ⟨ed, to⟩ := s
  cases ed with
  | true =>
    rw [segW, if_pos rfl] at hR
    dsimp only at hR st
    simp only [optCells, sl] at st
    rw [← hR] at st
    cases hsw : stepW g w down a to with
    | none =>
      rw [hsw] at hR
      simp only [stepAV] at hR
      rw [hR] at st ⊢
      simp -implicitDefEqProofs only [sc_waymarkref15_Opt_Seg, Sg.av, Sg.cells_eq, stateAV, optCells, refTab, sl, go_sem, seval]
      repeat' (first | simp -implicitDefEqProofs only [go_sem, seval] | simp -implicitDefEqProofs (disch := omega) only [ars, if_pos, exV_some, Option.map_some] | ((with_reducible first | apply exB_dec | apply exB_intro) <;> intro _) | with_reducible refine exC_pure (st _) ?_ | with_reducible refine exCq_pure (st _) ?_)
      all_goals first | exact ⟨fun b o ho => ho, rfl⟩ | exact fun b o ho => ho | (exfalso; omega) | skip
      done
    | some c =>
      rw [hsw] at hR
      simp only [stepAV, stateAV] at hR
      rw [hR] at st ⊢
      simp -implicitDefEqProofs only [sc_waymarkref15_Opt_Seg, Sg.av, Sg.cells_eq, stateAV, optCells, refTab, sl, go_sem, seval]
      repeat' (first | simp -implicitDefEqProofs only [go_sem, seval] | simp -implicitDefEqProofs (disch := omega) only [ars, if_pos, exV_some, Option.map_some] | ((with_reducible first | apply exB_dec | apply exB_intro) <;> intro _) | with_reducible refine exC_pure (st _) ?_ | with_reducible refine exCq_pure (st _) ?_)
      all_goals first | exact ⟨fun b o ho => ho, rfl⟩ | exact fun b o ho => ho | (exfalso; omega) | skip
      done
  | false =>
    rw [segW, if_neg (by simp), segN] at hR
    dsimp only at hR hs
    by_cases hr : (0 ≤ to ∧ to < g.nodes) ∧ (0 ≤ a.1 ∧ a.1 < g.nodes) ∧ (0 ≤ a.2 ∧ a.2 < w.via.length + 2) ∧ a.1 ≠ to
    · rw [if_neg hr.2.2.2] at hR
      simp -implicitDefEqProofs only [sc_waymarkref15_Opt_Seg, Sg.av, Sg.cells_eq, stateAV, optCells, refTab, sl, go_sem, seval]
      repeat' (first | simp -implicitDefEqProofs only [go_sem, seval] | simp -implicitDefEqProofs (disch := omega) only [hpl, ars, if_pos, exV_some, Option.map_some] | ((with_reducible first | apply exB_dec | apply exB_intro) <;> intro _) | with_reducible refine exC_pure (ic _ _) ?_ | with_reducible refine exCq_pure (ic _ _) ?_)
      all_goals first | (exfalso; omega) | skip
      intro rb hrb
      have hrb : H rb = none := hrb
      repeat' (first | simp -implicitDefEqProofs only [go_sem, seval] | simp -implicitDefEqProofs (disch := omega) only [ars, if_pos, exV_some, Option.map_some] | ((with_reducible first | apply exB_dec | apply exB_intro) <;> intro _))
      all_goals first | (exfalso; omega) | skip
      obtain ⟨c0, hc0⟩ : ∃ c0, c0 = AV.box [iv g.nodes, .vec g.nl (rows g.links) g.links.length, .vec false ((pts w).map iv) (w.via.length + 2), .vec false ((pruned g w down).map bv) g.links.length, .vec false (farsR g w down (w.via.length + 2)) (w.via.length + 2)] 0 := ⟨_, rfl⟩
      have hc0' : c0 = .box (optCells g w down) 0 := by rw [hc0, optCells, sl, hpl]
      have hc0f : ∀ H, rdA [] H (.v c0) = some ([iv g.nodes, .vec g.nl (rows g.links) g.links.length, .vec false ((pts w).map iv) (w.via.length + 2), .vec false ((pruned g w down).map bv) g.links.length, .vec false (farsR g w down (w.via.length + 2)) (w.via.length + 2)], 0) := fun H => by rw [hc0]; rfl
      obtain ⟨m, hm⟩ : ∃ m, m = w.via.length + 2 := ⟨_, rfl⟩
      have first : Gro H (upd H rb (some (.cells [c0, refTab g, iv to, .vec true [] 0, .vec true [] 0] 142))) rb m c0 (refTab g) (iv to) ((List.replicate m (0 : Int)).map iv) (rows (List.replicate m ((0, 0) : St))) (.vec true [] 0) (.vec true [] 0) none none [] [] :=
        ⟨upd_base hrb, fun b hb => by simp only [List.append_nil, List.mem_singleton] at hb; rw [hb]; exact hrb, by simp, upd_self _ _ _, .inl ⟨rfl, rfl, rfl⟩, .inl ⟨rfl, rfl, rfl⟩, (fun b hb => nomatch hb), (fun b hb => nomatch hb), (fun b hb => nomatch hb), (fun b hb => nomatch hb), (fun b hb => nomatch hb)⟩
      refine exL_modH (fun x : Int × AHeap => [(11, .v (iv x.1))]) (fun _ => []) (fun x => x.2) (fun x => (0 ≤ x.1 ∧ x.1 ≤ g.nodes) ∧ ∃ svk sve obk obe ks es, Gro H x.2 rb m c0 (refTab g) (iv to) ((List.replicate m (0 : Int)).map iv) (rows (List.replicate m ((0, 0) : St))) svk sve obk obe ks es ∧ (ks.length : Int) = x.1 ∧ (es.length : Int) = x.1) (fun x => (g.nodes - x.1).toNat) (0, _) (by rw [hc0] at first; rfl) ⟨⟨by simp, by dsimp only; omega⟩, _, _, _, _, _, _, (by rw [hc0] at first ⊢; exact first), rfl, rfl⟩ ?_
      clear first
      rintro ⟨i, H1⟩ ⟨⟨i0, i1⟩, svk, sve, obk, obe, ks, es, hg, hlk, hle⟩ ih
      dsimp only at i0 i1 hg hlk hle ih
      simp only [S.up, S.upH, ups, Abs.put, Nat.reduceEqDiff, ↓reduceIte, Nat.reduceAdd] at ih
      simp -implicitDefEqProofs only [congrArg KI.code sc_waymarkref15_Opt_Seg_L0.eq_1, go_sem, seval]
      have hrt := hg.rt
      by_cases hi : i < g.nodes
      · repeat' (first | simp -implicitDefEqProofs only [go_sem, seval] | simp -implicitDefEqProofs (disch := omega) only [hrt, ars, if_pos, exV_some, Option.map_some] | ((with_reducible first | apply exB_dec | apply exB_intro) <;> intro _))
        all_goals first | (exfalso; omega) | skip
        refine exHmk_int (by omega) (by omega) (by simp only [maxLen]; omega) rfl ?_
        intro b1 hb1
        have hb1 : H1 b1 = none := hb1
        have e1 : zrep [.int .i64 0] (((w.via.length + 2 : Nat) : Int)).toNat = (List.replicate m (0 : Int)).map iv := by rw [zrep_one, Int.toNat_natCast, ← hm, ← replicate_iv]; rfl
        have e2 : (((w.via.length + 2 : Nat) : Int)).toNat = m := by rw [Int.toNat_natCast, hm]
        rw [e1, e2]
        obtain ⟨H2, hH2⟩ : ∃ H2, H2 = upd H1 b1 (some (.row ((List.replicate m (0 : Int)).map iv) m 3 1)) := ⟨_, rfl⟩
        have rk1 : RowAt H H2 rb 25 svk (ks.map (pslc m)) obk := hg.rk.keep fun b hb => by
          obtain ⟨o, ho⟩ := hg.rk.at_ hb
          rw [hH2, upd_ne _ _ (by rintro rfl; rw [hb1] at ho; cases ho)]
        obtain ⟨capk, hpk⟩ := rk1.pre
        rw [List.length_map] at hpk
        have hst := fun b2 cap hb2 hc => hg.stepK (b1 := b1) hb1 (b2 := b2) (cap := cap) hb2 hc rfl
        rw [← hH2] at hst
        repeat' (first | simp -implicitDefEqProofs only [go_sem, seval] | simp -implicitDefEqProofs (disch := omega) only [hrt, ars, if_pos, exV_some, Option.map_some] | ((with_reducible first | apply exB_dec | apply exB_intro) <;> intro _))
        all_goals first | (exfalso; omega) | skip
        rw [← hH2, hpk]
        clear hpk rk1 hrt
        refine ⟨rfl, by omega, by simp only [maxLen]; omega, fun h => absurd h (by decide), fun _ b2 cap2 hb2 hc2 => ?_⟩
        have hb2 : obk = some b2 ∨ H2 b2 = none := hb2
        obtain ⟨hrt, hg⟩ := hst b2 cap2 hb2 hc2
        clear hst hH2
        obtain ⟨H3, hH3⟩ : ∃ H3, H3 = upd (delH H2 obk) b2 (some (.row (ks.map (pslc m) ++ [pslc m b1]) cap2 25 1)) := ⟨_, rfl⟩
        have hH3' : upd (delH H2 obk) b2 (some (.row (ks.map (pslc m) ++ [.raw (.slice (some ⟨b1, 0, none⟩) m m)]) cap2 25 1)) = H3 := hH3.symm
        rw [← hH3] at hrt hg
        simp only [S.newhd, hH3']
        clear hH3 hH3' hb2
        have hrt2 := hg.rt
        obtain ⟨H4, hH4⟩ : ∃ H4, H4 = upd H3 rb (some (.cells [c0, refTab g, iv to, .raw (.slice (some ⟨b2, 0, none⟩) (ks.length + 1) cap2), sve] 142)) := ⟨_, rfl⟩
        rw [← hH4] at hg hrt2
        have hH4' := hH4.symm
        simp only [iv] at hH4'
        repeat' (first | simp -implicitDefEqProofs only [go_sem, seval] | simp -implicitDefEqProofs (disch := omega) only [hrt, hH4', hrt2, ars, if_pos, exV_some, Option.map_some] | ((with_reducible first | apply exB_dec | apply exB_intro) <;> intro _))
        all_goals first | (exfalso; omega) | skip
        clear hrt hH4 hH4' hrt2 e1
        have hrt := hg.rt
        refine exHmk_int (by omega) (by omega) (by simp only [maxLen]; omega) rfl ?_
        intro b3 hb3
        have hb3 : H4 b3 = none := hb3
        have e1 : zrep [.int .i64 0, .int .i64 0] (((w.via.length + 2 : Nat) : Int)).toNat = rows (List.replicate m ((0, 0) : St)) := by rw [zrep_st, Int.toNat_natCast, ← hm]
        rw [e1, e2]
        obtain ⟨H5, hH5⟩ : ∃ H5, H5 = upd H4 b3 (some (.row (rows (List.replicate m ((0, 0) : St))) m 82 2)) := ⟨_, rfl⟩
        have rk1 : RowAt H H5 rb 105 sve (es.map (pslc m)) obe := hg.re.keep fun b hb => by
          obtain ⟨o, ho⟩ := hg.re.at_ hb
          rw [hH5, upd_ne _ _ (by rintro rfl; rw [hb3] at ho; cases ho)]
        obtain ⟨capk, hpk⟩ := rk1.pre
        rw [List.length_map] at hpk
        have hst := fun b2 cap hb2 hc => hg.stepE (b1 := b3) hb3 (b2 := b2) (cap := cap) hb2 hc rfl
        rw [← hH5] at hst
        repeat' (first | simp -implicitDefEqProofs only [go_sem, seval] | simp -implicitDefEqProofs (disch := omega) only [hrt, ars, if_pos, exV_some, Option.map_some] | ((with_reducible first | apply exB_dec | apply exB_intro) <;> intro _))
        all_goals first | (exfalso; omega) | skip
        rw [← hH5, hpk]
        clear hpk rk1 hrt
        refine ⟨rfl, by omega, by simp only [maxLen]; omega, fun h => absurd h (by decide), fun _ b4 cap4 hb4 hc4 => ?_⟩
        have hb4 : obe = some b4 ∨ H5 b4 = none := hb4
        obtain ⟨hrt, hg⟩ := hst b4 cap4 hb4 hc4
        clear hst hH5
        obtain ⟨H6, hH6⟩ : ∃ H6, H6 = upd (delH H5 obe) b4 (some (.row (es.map (pslc m) ++ [pslc m b3]) cap4 105 1)) := ⟨_, rfl⟩
        have hH6' : upd (delH H5 obe) b4 (some (.row (es.map (pslc m) ++ [.raw (.slice (some ⟨b3, 0, none⟩) m m)]) cap4 105 1)) = H6 := hH6.symm
        rw [← hH6] at hrt hg
        simp only [S.newhd, hH6']
        clear hH6 hH6' hb4
        obtain ⟨H7, hH7⟩ : ∃ H7, H7 = upd H6 rb (some (.cells [c0, refTab g, iv to, .raw (.slice (some ⟨b2, 0, none⟩) (ks.length + 1) cap2), .raw (.slice (some ⟨b4, 0, none⟩) (es.length + 1) cap4)] 142)) := ⟨_, rfl⟩
        rw [← hH7] at hg
        have hH7' := hH7.symm
        simp only [iv] at hH7'
        have nx := ih (i + 1, H7) ⟨⟨by dsimp only; omega, by dsimp only; omega⟩, _, _, _, _, _, _, hg, by simp; omega, by simp; omega⟩ (by dsimp only; omega)
        dsimp only at nx
        clear ih
        repeat' (first | simp -implicitDefEqProofs only [go_sem, seval] | simp -implicitDefEqProofs (disch := omega) only [hrt, hH7', ars, if_pos, exV_some, Option.map_some] | ((with_reducible first | apply exB_dec | apply exB_intro) <;> intro _))
        all_goals first | exact nx | (exfalso; omega) | skip
        done
      · obtain rfl : i = g.nodes := by omega
        clear ih
        rw [hm, hc0'] at hg
        obtain ⟨kb, kc, eb, ec, hk⟩ := Gro.kept fn1 hlk hle hg
        have fc := from15_c g w down h0 hc to rb kb kc eb ec ks es _ a (Nat.lt_succ_self _) hr.2.1 hr.2.2.1 H H1 _ _ hk (snd_zero g w down to)
        rw [← hR] at fc
        simp only [stateAV] at fc
        repeat' (first | simp -implicitDefEqProofs only [go_sem, seval] | simp -implicitDefEqProofs (disch := omega) only [ars, if_pos, exV_some, Option.map_some] | ((with_reducible first | apply exB_dec | apply exB_intro) <;> intro _))
        all_goals first | (exfalso; omega) | skip
        refine exC_intro fc ?_
        rintro r H2 ⟨rfl, K, E, hk2, -⟩
        have hbase := hk2.base
        clear fc
        rw [hR]
        cases endN g w down to a with
        | none =>
          simp -implicitDefEqProofs only [stepAV, go_sem, seval]
          repeat' (first | simp -implicitDefEqProofs only [go_sem, seval] | simp -implicitDefEqProofs (disch := omega) only [ars, if_pos, exV_some, Option.map_some] | ((with_reducible first | apply exB_dec | apply exB_intro) <;> intro _))
          all_goals first | exact ⟨hbase, rfl⟩ | exact hbase | (exfalso; omega) | skip
          done
        | some c =>
          simp -implicitDefEqProofs only [stepAV, stateAV, go_sem, seval]
          repeat' (first | simp -implicitDefEqProofs only [go_sem, seval] | simp -implicitDefEqProofs (disch := omega) only [ars, if_pos, exV_some, Option.map_some] | ((with_reducible first | apply exB_dec | apply exB_intro) <;> intro _))
          all_goals first | exact ⟨hbase, rfl⟩ | exact hbase | (exfalso; omega) | skip
          done
    · have hR2 : R = .tup [.agg [iv 0, iv 0], bv false] := by
        rw [hR]
        by_cases e : a.1 = to
        · rw [if_pos e]; rfl
        · rw [if_neg e, endN_out hf e (fun hh => hr ⟨hh.1, hh.2.1, hh.2.2, e⟩)]; rfl
      rw [hR2]
      clear hR hR2 st
      simp -implicitDefEqProofs only [sc_waymarkref15_Opt_Seg, Sg.av, Sg.cells_eq, stateAV, optCells, refTab, sl, go_sem, seval]
      repeat' (first | simp -implicitDefEqProofs only [go_sem, seval] | simp -implicitDefEqProofs (disch := omega) only [hpl, ars, if_pos, exV_some, Option.map_some] | ((with_reducible first | apply exB_dec | apply exB_intro) <;> intro _) | with_reducible refine exC_pure (ic _ _) ?_ | with_reducible refine exCq_pure (ic _ _) ?_)
      all_goals first | exact ⟨fun b o ho => ho, rfl⟩ | exact fun b o ho => ho | (exfalso; omega) | skip
      done
end Go.Proofs.Ytejmcijcdhoogaa
end

section
/- The document's own search for the shortest lists, in plain Lean: states as they are met, and how many segments are left from each. -/
namespace Go.Proofs.Ytejmcijcdhoogaa
open Go Abs
attribute [local irreducible] EX exL exG exC exCq exS exV exIf exGd exGq exB
set_option maxHeartbeats 1000000
section
variable (g : Graph) (w : Want) (down : List Bool)
/-- just so many segments lead from a state to the goal, and no fewer -/
def Lea (d : Nat) (a : St) : Prop := Tg g w down d a ∧ ∀ m < d, ¬ Tg g w down m a
/-- the first n segments of a state's row -/
def RowOk (S : List St) (a : St) (row : List Int) (n : Int) : Prop := row.length = (segsA g).length ∧ ∀ k : Int, 0 ≤ k → k < n → k < (segsA g).length →
  (segW g w down a (gi (segsA g) k) = none ∧ gi row k = -1) ∨ ∃ c, segW g w down a (gi (segsA g) k) = some c ∧ (0 ≤ gi row k ∧ gi row k < S.length) ∧ gi S (gi row k) = c
def LeftAt (S : List St) (left : List Int) (n : Nat) (i : Int) : Prop := (∃ d : Nat, d ≤ n ∧ gi left i = d ∧ Lea g w down d (gi S i)) ∨ (gi left i = -1 ∧ ∀ d ≤ n, ¬ Tg g w down d (gi S i))
/-- the states met, in order -/
structure Met (S : List St) : Prop where
  nd : S.Nodup
  rng : ∀ c ∈ S, rngS g c
  pos : 1 ≤ S.length
  start : gi S 0 = startW w
end
section
variable {g : Graph} {w : Want} {down : List Bool} {S : List St} {row left : List Int} {a c : St} {i j k : Int} {m n : Nat}
theorem gi_app {α : Type} [Inhabited α] {l : List α} {x : α} {i : Int} (h0 : 0 ≤ i) (h1 : i < l.length) : gi (l ++ [x]) i = gi l i := by
  rw [gi_get (by simp; omega), gi_get (by omega), List.getElem_append_left (by omega)]
theorem gi_app' {α : Type} [Inhabited α] {l : List α} {x : α} : gi (l ++ [x]) (l.length : Int) = x := by
  rw [gi_get (by simp)]; simp
theorem RowOk.more (h : RowOk g w down S a row i) (x : St) : RowOk g w down (S ++ [x]) a row i := by
  refine ⟨h.1, fun k k0 k1 k2 => ?_⟩
  rcases h.2 k k0 k1 k2 with h1 | ⟨c, h1, h2, h3⟩
  · exact .inl h1
  · exact .inr ⟨c, h1, ⟨h2.1, by simp; omega⟩, by rw [gi_app h2.1 h2.2]; exact h3⟩
theorem RowOk.none (h : RowOk g w down S a row k) (k0 : 0 ≤ k) (k1 : k < (segsA g).length) (hs : segW g w down a (gi (segsA g) k) = none) : RowOk g w down S a (row.set k.toNat (-1)) (k + 1) := by
  refine ⟨by simpa using h.1, fun q q0 q1 q2 => ?_⟩
  rw [gi_set k0 (by rw [h.1]; omega) q0]
  by_cases e : q = k
  · subst e; rw [if_pos rfl]; exact .inl ⟨hs, rfl⟩
  · rw [if_neg e]; exact h.2 q q0 (by omega) q2
theorem RowOk.some (h : RowOk g w down S a row k) (k0 : 0 ≤ k) (k1 : k < (segsA g).length) (hs : segW g w down a (gi (segsA g) k) = some c) (j0 : 0 ≤ j) (j1 : j < S.length) (hj : gi S j = c) : RowOk g w down S a (row.set k.toNat j) (k + 1) := by
  refine ⟨by simpa using h.1, fun q q0 q1 q2 => ?_⟩
  rw [gi_set k0 (by rw [h.1]; omega) q0]
  by_cases e : q = k
  · subst e; rw [if_pos rfl]; exact .inr ⟨c, hs, ⟨j0, j1⟩, hj⟩
  · rw [if_neg e]; exact h.2 q q0 (by omega) q2
theorem Met.add (h : Met g w S) (hc : rngS g c) (hn : c ∉ S) : Met g w (S ++ [c]) := by
  refine ⟨?_, fun x hx => ?_, by simp, ?_⟩
  · rw [List.nodup_append]
    exact ⟨h.nd, by simp, fun x hx y hy => by rintro rfl; rw [List.mem_singleton] at hy; exact hn (hy ▸ hx)⟩
  · rcases List.mem_append.1 hx with hx | hx
    · exact h.rng x hx
    · rw [List.mem_singleton.1 hx]; exact hc
  · have := h.pos
    rw [gi_app (by omega) (by omega)]; exact h.start
theorem lea_uniq (h1 : Lea g w down m a) (h2 : Lea g w down n a) : m = n := by
  by_cases e : m < n
  · exact absurd h1.1 (h2.2 m e)
  · by_cases e2 : n < m
    · exact absurd h2.1 (h1.2 n e2)
    · omega
theorem leftAt_eq (h : LeftAt g w down S left n j) (hm : m ≤ n) : gi left j = m ↔ Lea g w down m (gi S j) := by
  rcases h with ⟨d, h1, h2, h3⟩ | ⟨h1, h2⟩
  · rw [h2]
    constructor
    · intro e
      obtain rfl : d = m := by omega
      exact h3
    · intro h
      rw [lea_uniq h3 h]
  · rw [h1]
    constructor
    · intro e; omega
    · intro h; exact absurd h.1 (h2 m hm)
theorem tg_of {s : Sg} (hs : s ∈ segsA g) (hc : segW g w down a s = some c) (ht : Tg g w down m c) : Tg g w down (m + 1) a := by
  refine ⟨⟨s, c⟩, ?_, ht⟩
  rw [leadsL, List.mem_filterMap]
  exact ⟨s, hs, by rw [ldO, hc]; rfl⟩
theorem tg_lea (hn : ∀ d < m + 1, ¬ Tg g w down d a) {s : Sg} (hs : s ∈ segsA g) (hc : segW g w down a s = some c) : Tg g w down m c ↔ Lea g w down m c := by
  constructor
  · intro h
    exact ⟨h, fun d hd ht => hn (d + 1) (by omega) (tg_of hs hc ht)⟩
  · exact fun h => h.1
/-- what is left, as one goes through the states once more -/
structure Rnd (g : Graph) (w : Want) (down : List Bool) (S : List St) (left : List Int) (m : Nat) (i k : Int) : Prop where
  len : left.length = S.length
  pre : ∀ j : Int, 0 ≤ j → j < i → LeftAt g w down S left (m + 1) j
  post : ∀ j : Int, i < j → j < S.length → LeftAt g w down S left m j
  now : (0 ≤ gi left i ∧ LeftAt g w down S left (m + 1) i) ∨ (gi left i = -1 ∧ LeftAt g w down S left m i ∧ ∀ q : Int, 0 ≤ q → q < k → ∀ c, segW g w down (gi S i) (gi (segsA g) q) = some c → ¬ Lea g w down m c)
theorem Rnd.exit (h : Rnd g w down S left m i k) (hx : 0 ≤ gi left i ∨ ((segsA g).length : Int) ≤ k) : LeftAt g w down S left (m + 1) i := by
  rcases h.now with h1 | ⟨h1, h2, h3⟩
  · exact h1.2
  · refine .inr ⟨h1, fun d hd ht => ?_⟩
    have hk : ((segsA g).length : Int) ≤ k := by
      rcases hx with hx | hx
      · omega
      · exact hx
    rcases h2 with ⟨e, -, h5, -⟩ | ⟨-, h5⟩
    · omega
    by_cases hdm : d ≤ m
    · exact h5 d hdm ht
    · obtain rfl : d = m + 1 := by omega
      obtain ⟨s, hs, c, hc, htc⟩ := tg_seg ht
      have hl := (tg_lea (fun d hd => h5 d (by omega)) hs hc).1 htc
      obtain ⟨q, hq, rfl⟩ := List.getElem_of_mem hs
      have hg : gi (segsA g) (q : Int) = (segsA g)[q] := by rw [gi_get (by omega)]; simp
      exact h3 q (by omega) (by omega) c (by rw [hg]; exact hc) hl
theorem Rnd.skip (h : Rnd g w down S left m i k) (hi : gi left i < 0) (hk : ∀ c, segW g w down (gi S i) (gi (segsA g) k) = some c → ¬ Lea g w down m c) : Rnd g w down S left m i (k + 1) := by
  refine ⟨h.len, h.pre, h.post, ?_⟩
  rcases h.now with h1 | ⟨h1, h2, h3⟩
  · omega
  · refine .inr ⟨h1, h2, fun q q0 q1 c hc => ?_⟩
    by_cases e : q = k
    · subst e; exact hk c hc
    · exact h3 q q0 (by omega) c hc
theorem LeftAt.set (h : LeftAt g w down S left n j) (i0 : 0 ≤ i) (i1 : i < left.length) (j0 : 0 ≤ j) (e : j ≠ i) (x : Int) : LeftAt g w down S (left.set i.toNat x) n j := by
  unfold LeftAt
  rw [gi_set i0 i1 j0, if_neg e]
  exact h
theorem Rnd.hit (h : Rnd g w down S left m i k) (i0 : 0 ≤ i) (i1 : i < S.length) (hi : gi left i < 0) (k0 : 0 ≤ k) (k1 : k < (segsA g).length) (hc : segW g w down (gi S i) (gi (segsA g) k) = some c) (hl : Lea g w down m c) : Rnd g w down S (left.set i.toNat ((m : Int) + 1)) m i (k + 1) := by
  have hlen := h.len
  refine ⟨by simpa using h.len, fun j j0 j1 => (h.pre j j0 j1).set i0 (by omega) j0 (by omega) _, fun j j0 j1 => (h.post j j0 j1).set i0 (by omega) (by omega) (by omega) _, .inl ?_⟩
  have hg : gi (left.set i.toNat ((m : Int) + 1)) i = m + 1 := by rw [gi_set i0 (by omega) i0, if_pos rfl]
  refine ⟨by rw [hg]; omega, .inl ⟨m + 1, Nat.le_refl _, by rw [hg]; omega, ?_⟩⟩
  rcases h.now with h1 | ⟨h1, h2, h3⟩
  · omega
  · refine ⟨tg_of (gi_mem k0 k1) hc hl.1, fun d hd => ?_⟩
    rcases h2 with ⟨e, -, h5, -⟩ | ⟨-, h5⟩
    · omega
    · exact h5 d (by omega)
/-- the state behind a segment has so few left just if the number kept says so -/
theorem Rnd.at_ (h : Rnd g w down S left m i k) (i0 : 0 ≤ i) (j0 : 0 ≤ j) (j1 : j < S.length) : gi left j = m ↔ Lea g w down m (gi S j) := by
  by_cases e : j < i
  · exact leftAt_eq (h.pre j j0 e) (by omega)
  · by_cases e2 : i < j
    · exact leftAt_eq (h.post j e2 j1) (Nat.le_refl m)
    · obtain rfl : j = i := by omega
      rcases h.now with h1 | h1
      · exact leftAt_eq h1.2 (by omega)
      · exact leftAt_eq h1.2.1 (Nat.le_refl m)
theorem Rnd.next (h : Rnd g w down S left m i k) (i0 : 0 ≤ i) (hx : LeftAt g w down S left (m + 1) i) (h2 : i + 1 < S.length) : Rnd g w down S left m (i + 1) 0 := by
  refine ⟨h.len, fun j j0 j1 => ?_, fun j j0 j1 => h.post j (by omega) j1, ?_⟩
  · by_cases e : j = i
    · rw [e]; exact hx
    · exact h.pre j j0 (by omega)
  · have hn := h.post (i + 1) (by omega) h2
    by_cases e : 0 ≤ gi left (i + 1)
    · refine .inl ⟨e, ?_⟩
      rcases hn with ⟨d, h3, h4⟩ | ⟨h3, h4⟩
      · exact .inl ⟨d, by omega, h4⟩
      · omega
    · refine .inr ⟨?_, hn, fun q q0 q1 => by omega⟩
      rcases hn with ⟨d, h3, h4, -⟩ | ⟨h3, h4⟩
      · omega
      · exact h3
theorem Rnd.first (hl : left.length = S.length) (hp : 1 ≤ S.length) (h : ∀ j : Int, 0 ≤ j → j < S.length → LeftAt g w down S left m j) : Rnd g w down S left m 0 0 := by
  refine ⟨hl, fun j j0 j1 => by omega, fun j j0 j1 => h j (by omega) j1, ?_⟩
  have hn := h 0 (by omega) (by omega)
  by_cases e : 0 ≤ gi left 0
  · refine .inl ⟨e, ?_⟩
    rcases hn with ⟨d, h3, h4⟩ | ⟨h3, h4⟩
    · exact .inl ⟨d, by omega, h4⟩
    · omega
  · refine .inr ⟨?_, hn, fun q q0 q1 => by omega⟩
    rcases hn with ⟨d, h3, h4, -⟩ | ⟨h3, h4⟩
    · omega
    · exact h3
end
end Go.Proofs.Ytejmcijcdhoogaa
end

section
/- Whether a graph's slice of links is nil turns nothing. -/
namespace Go.Proofs.Ytejmcijcdhoogaa
open Go Abs
attribute [local irreducible] EX exL exG exC exCq exS exV exIf exGd exGq exB
set_option maxHeartbeats 1000000
section
variable (g : Graph)
theorem walk_cp {down : List Bool} {s v L : Int} : Walk g.cp down s v L ↔ Walk g down s v L := by
  constructor
  · intro h
    induction h with
    | nil => exact .nil
    | step _ e0 e1 hu ha ih => exact .step ih e0 e1 hu ha
  · intro h
    induction h with
    | nil => exact .nil
    | step _ e0 e1 hu ha ih => exact Walk.step (g := g.cp) ih e0 e1 hu ha
theorem isDist_cp {down : List Bool} {s : Int} {d : List Int} : IsDist g.cp down s d ↔ IsDist g down s d :=
  ⟨fun h => ⟨h.len, h.neg, fun v v0 v1 hv => (walk_cp g).1 (h.way v v0 v1 hv), fun v L hw => h.least v L ((walk_cp g).2 hw)⟩,
   fun h => ⟨h.len, h.neg, fun v v0 v1 hv => (walk_cp g).2 (h.way v v0 v1 hv), fun v L hw => h.least v L ((walk_cp g).1 hw)⟩⟩
theorem distL_cp : distL g.cp = distL g := by
  funext down s
  by_cases h : ∃ d, IsDist g down s d
  · obtain ⟨d, hd⟩ := h
    rw [distL_eq hd, distL_eq ((isDist_cp g).2 hd)]
  · unfold distL
    rw [dif_neg h, dif_neg (fun ⟨d, hd⟩ => h ⟨d, (isDist_cp g).1 hd⟩)]
theorem rightErr_cp : rightErr g.cp = rightErr g := by
  funext w
  unfold rightErr
  rw [check_cp]
  rfl
theorem leg_cp : leg g.cp = leg g := by
  funext w down i
  unfold leg
  rw [distL_cp]
  rfl
theorem legs_cp : legs g.cp = legs g := by
  funext w down n
  induction n with
  | zero => rfl
  | succ n ih => rw [legs, legs, ih, leg_cp]
theorem noLeg_cp : noLeg g.cp = noLeg g := by
  funext w down n
  unfold noLeg
  rw [leg_cp]
theorem optErr_cp : optErr g.cp = optErr g := by
  funext w down
  unfold optErr
  rw [rightErr_cp, noLeg_cp, legs_cp]
theorem farOf_cp : farOf g.cp = farOf g := by
  funext w down i
  unfold farOf
  rw [distL_cp]
  rfl
theorem distOf_cp : distOf g.cp = distOf g := by
  funext a b
  unfold distOf
  rw [distL_cp]
  rfl
theorem nxtOf_cp : nxtOf g.cp = nxtOf g := by
  funext a b
  unfold nxtOf
  rw [distL_cp]
  simp only [nextL_cp]
  rfl
theorem stepW_cp : stepW g.cp = stepW g := by
  funext w down a e
  have h : stepOk g.cp w down a.1 a.2 e ↔ stepOk g w down a.1 a.2 e := by
    unfold stepOk
    rw [optErr_cp, farOf_cp]
    exact Iff.rfl
  unfold stepW
  by_cases hh : stepOk g w down a.1 a.2 e
  · rw [if_pos hh, if_pos (h.2 hh)]; rfl
  · rw [if_neg hh, if_neg (fun h' => hh (h.1 h'))]
theorem esF_cp (w : Want) (down : List Bool) (to : Int) : ∀ n, esF g.cp w down to n = esF g w down to n
  | 0 => rfl
  | n + 1 => by
    funext a
    rw [esF, esF, nxtOf_cp, stepW_cp, esF_cp w down to n]
theorem endN_cp (w : Want) (down : List Bool) : endN g.cp w down = endN g w down := by
  funext to a
  unfold endN
  rw [esF_cp, distOf_cp]
theorem segW_cp : segW g.cp = segW g := by
  funext w down a s
  unfold segW segN
  rw [endN_cp, stepW_cp]
theorem leadsL_cp (w : Want) (down : List Bool) : leadsL g.cp w down = leadsL g w down := by
  funext a
  unfold leadsL
  have : ldO g.cp w down a = ldO g w down a := by
    funext s
    unfold ldO
    rw [segW_cp]
  rw [this]
  rfl
theorem tg_cp (w : Want) (down : List Bool) : ∀ (n : Nat) (a : St), Tg g.cp w down n a ↔ Tg g w down n a
  | 0, a => Iff.rfl
  | n + 1, a => by
    rw [Tg, Tg, leadsL_cp]
    simp only [tg_cp w down n]
theorem lst_cp (w : Want) (down : List Bool) : ∀ (n : Nat) (a : St), lst g.cp w down n a = lst g w down n a
  | 0, a => rfl
  | n + 1, a => by
    rw [lst, lst, leadsL_cp]
    have : (fun l : Ld => decide (Tg g.cp w down n l.to)) = fun l : Ld => decide (Tg g w down n l.to) := by
      funext l
      rw [decide_eq_decide]
      exact tg_cp g w down n l.to
    rw [this]
    split
    · rw [lst_cp w down n]
    · rfl
theorem compW_cp (w : Want) (down : List Bool) (depth : Int) : compW g.cp w down depth = compW g w down depth := by
  by_cases h0 : optErr g w down = 0
  · have h0' : optErr g.cp w down = 0 := by rw [optErr_cp]; exact h0
    rcases compW_cases g w down depth h0 with ⟨n, h1, h2, h3, h4⟩ | ⟨h1, h2⟩
    · rw [h4, compW_ok h0' h1 ((tg_cp g w down _ _).2 h2) fun m hm => h3 m ((tg_cp g w down _ _).1 hm), lst_cp]
    · rw [h2, compW_deep h0' fun k hk ht => h1 k hk ((tg_cp g w down _ _).1 ht)]
  · rw [compW, compW, if_pos h0, if_pos (by rw [optErr_cp]; exact h0), optErr_cp]
theorem refTab_cp : refTab g.cp = refTab g := by
  unfold refTab refTabCells
  have : toR g.cp = toR g := by
    funext n
    unfold toR
    rw [distL_cp]
  rw [show g.cp.nodes = g.nodes from rfl, this]
  rfl
end
end Go.Proofs.Ytejmcijcdhoogaa
end

section
/- The document's own search finds the same lists. -/
namespace Go.Proofs.Ytejmcijcdhoogaa
open Go Abs
attribute [local irreducible] EX exL exG exC exCq exS exV exIf exGd exGq exB
set_option maxHeartbeats 8000000
theorem cut10_c (n : Int) (H : AHeap) : APure Try.prog 47 [iv n, iv 0, iv 10] H (iv (cut10 n : Int)) := by
  intro Q h
  refine ACalls.of_code fn_waymarkref1_Cut ?_
  simp -implicitDefEqProofs only [sc_waymarkref1_Cut, go_sem, seval]
  repeat' (first | simp -implicitDefEqProofs only [go_sem, seval] | simp -implicitDefEqProofs (disch := omega) only [ars, if_pos, exV_some, Option.map_some] | ((with_reducible first | apply exB_dec | apply exB_intro) <;> intro _))
  all_goals
    refine fin_ h ?_
    simp only [cut10, iv, AV.raw.injEq, Value.int.injEq, true_and]
    omega
theorem segsA_len (g : Graph) : (segsA g).length = g.nodes.toNat + 2 * g.links.length := by
  rw [segsA, List.length_append, segsN_len, segsE_len]
  omega
theorem all_c (g : Graph) (hf : Fit g) (H : AHeap) : APure Try.prog 49 [g.av] H (.vec false (rows (segsA g)) (segsA g).length) := by
  intro Q h
  have f1 := hf.n1
  have f2 := hf.n2
  have f3 := hf.few
  refine ACalls.of_code fn_waymarkref15_all ?_
  simp -implicitDefEqProofs only [sc_waymarkref15_all, Graph.av, go_sem, seval]
  repeat' (first | simp -implicitDefEqProofs only [go_sem, seval] | simp -implicitDefEqProofs (disch := omega) only [ars, if_pos, exV_some, Option.map_some] | ((with_reducible first | apply exB_dec | apply exB_intro) <;> intro _))
  all_goals first | (exfalso; omega) | skip
  refine exL_mod (fun a : Int => [(3, .own 16), (4, .v (iv a))]) (fun a => [(16, .arr (segsN a).isEmpty (rows (segsN a)) (segsN a).length 50 2)]) (fun a => 0 ≤ a ∧ a ≤ g.nodes) (fun a => (g.nodes - a).toNat) 0 rfl ⟨by omega, by omega⟩ ?_
  rintro i ⟨i0, i1⟩ ih
  simp only [S.up, S.upH, ups, Abs.put, Nat.reduceEqDiff, ↓reduceIte, Nat.reduceAdd] at ih
  simp -implicitDefEqProofs only [congrArg KI.code sc_waymarkref15_all_L1.eq_1, go_sem, seval]
  have hl := segsN_len i
  by_cases hi : i < g.nodes
  · have nx := ih (i + 1) ⟨by omega, by omega⟩ (by omega)
    rw [segsN_succ i0] at nx
    clear ih
    repeat' (first | simp -implicitDefEqProofs only [go_sem, seval] | simp -implicitDefEqProofs (disch := omega) only [ars, if_pos, exV_some, Option.map_some] | ((with_reducible first | apply exB_dec | apply exB_intro) <;> intro _))
    all_goals first | (exfalso; omega) | skip
    refine exS_rows (⟨false, i⟩ : Sg) rfl rfl rfl (by omega) (by simp only [maxLen]; omega) ?_
    repeat' (first | simp -implicitDefEqProofs only [go_sem, seval] | simp -implicitDefEqProofs (disch := omega) only [ars, if_pos, exV_some, Option.map_some] | ((with_reducible first | apply exB_dec | apply exB_intro) <;> intro _))
    all_goals first | exact nx | (exfalso; omega) | skip
    done
  · obtain rfl : i = g.nodes := by omega
    clear ih
    repeat' (first | simp -implicitDefEqProofs only [go_sem, seval] | simp -implicitDefEqProofs (disch := omega) only [ars, if_pos, exV_some, Option.map_some] | ((with_reducible first | apply exB_dec | apply exB_intro) <;> intro _))
    all_goals first | (exfalso; omega) | skip
    refine exL_mod (fun a : Int × List Sg => [(5, .v (iv a.1))]) (fun a => [(16, .arr a.2.isEmpty (rows a.2) a.2.length 50 2)]) (fun a => (0 ≤ a.1 ∧ a.1 ≤ 2 * (g.links.length : Int)) ∧ a.2 = segsN g.nodes ++ segsE a.1) (fun a => (2 * (g.links.length : Int) - a.1).toNat) (0, segsN g.nodes) rfl ⟨⟨by dsimp only; omega, by dsimp only; omega⟩, by simp [segsE]⟩ ?_
    rintro ⟨k, l⟩ ⟨⟨k0, k1⟩, hlq⟩ ih
    dsimp only at k0 k1 hlq ih
    simp only [S.up, S.upH, ups, Abs.put, Nat.reduceEqDiff, ↓reduceIte, Nat.reduceAdd] at ih
    simp -implicitDefEqProofs only [congrArg KI.code sc_waymarkref15_all_L0.eq_1, go_sem, seval]
    have hl2 : l.length = g.nodes.toNat + k.toNat := by rw [hlq, List.length_append, segsN_len, segsE_len]
    by_cases hk : k < 2 * g.links.length
    · have nx := ih (k + 1, l ++ [⟨true, k⟩]) ⟨⟨by dsimp only; omega, by dsimp only; omega⟩, by dsimp only; rw [hlq, segsE_succ k0, List.append_assoc]⟩ (by dsimp only; omega)
      dsimp only at nx
      clear ih
      repeat' (first | simp -implicitDefEqProofs only [go_sem, seval] | simp -implicitDefEqProofs (disch := omega) only [ars, if_pos, exV_some, Option.map_some] | ((with_reducible first | apply exB_dec | apply exB_intro) <;> intro _))
      all_goals first | (exfalso; omega) | skip
      refine exS_rows (⟨true, k⟩ : Sg) rfl rfl rfl (by omega) (by simp only [maxLen]; omega) ?_
      repeat' (first | simp -implicitDefEqProofs only [go_sem, seval] | simp -implicitDefEqProofs (disch := omega) only [ars, if_pos, exV_some, Option.map_some] | ((with_reducible first | apply exB_dec | apply exB_intro) <;> intro _))
      all_goals first | exact nx | (exfalso; omega) | skip
      done
    · obtain rfl : k = 2 * g.links.length := by omega
      have hl3 : l = segsA g := hlq
      clear ih hlq
      subst hl3
      have hne : (segsA g).isEmpty = false := by
        cases hh : segsA g with
        | nil => rw [hh] at hl2; simp at hl2; omega
        | cons _ _ => rfl
      repeat' (first | simp -implicitDefEqProofs only [go_sem, seval] | simp -implicitDefEqProofs (disch := omega) only [hne, ars, if_pos, exV_some, Option.map_some] | ((with_reducible first | apply exB_dec | apply exB_intro) <;> intro _))
      all_goals first | exact h | (exfalso; omega) | skip
      done
theorem rd_sg {l : List Sg} {i : Int} (h0 : 0 ≤ i) (h1 : i < l.length) : rdV (rows l) (i.toNat * 2) 2 true = some (.agg [bv (gi l i).edge, iv (gi l i).to]) := rd_row rfl h0 h1
theorem upd_new {H H' : AHeap} {b : Nat} {o : HObj} (h : ∀ b o, H b = some o → H' b = some o) (hb : H' b = none) : ∀ b' o', H b' = some o' → upd H' b (some o) b' = some o' := fun b' o' ho => by
  rw [upd_ne _ _ (by rintro rfl; rw [h _ _ ho] at hb; cases hb)]
  exact h _ _ ho
theorem rcompile_aux (g : Graph) (hnl : g.links.isEmpty = g.nl) (w : Want) (hw : w.ok) (nl : Bool) (down : List Bool) (depth : Int) (H : AHeap) (hc : (check g).2 = 0) :
    ACalls Try.prog 21 [refTab g, w.av, blv nl down, iv depth] H fun r H' => (∀ b o, H b = some o → H' b = some o) ∧ r = compAV g w down depth := by
  have c1 := fun H => rcost_c g w nl down hw H
  have c2 := fun H => newOpt_c g w nl down hw H
  have c3 := fun H => rstart_c w hw H
  have c4 := fun H => rgoal_c w hw H
  have hf := fit_of g hc
  have f1 := hf.n1
  have f2 := hf.n2
  have f3 := hf.few
  have ca := fun H => all_c g hf H
  have cd := fun H => cut10_c depth H
  obtain ⟨R, hR⟩ : ∃ R, R = compAV g w down depth := ⟨_, rfl⟩
  rw [← hR]
  obtain ⟨D, hD⟩ : ∃ D, D = cut10 depth := ⟨_, rfl⟩
  rw [← hD] at cd
  have hD10 : D ≤ 10 := by rw [hD, cut10]; omega
  refine ACalls.of_code fn_waymarkref15_Compile ?_
  by_cases h0 : optErr g w down = 0
  · rw [h0] at c1
    rw [optAV, if_pos h0, decide_eq_true h0] at c2
    have wf := wfit_of (optErr_right h0)
    have fw := wf.few
    have cs := fun (a : St) (s : Sg) (hs : s ∈ segsA g) H => oseg_c g w down h0 hc a s (by
      unfold segsA at hs
      rcases List.mem_append.1 hs with hs | hs
      · have := segsN_mem hs; omega
      · have := segsE_mem hs; omega) H
    have hLn := segsA_len g
    obtain ⟨SG, hSG⟩ : ∃ SG, SG = segsA g := ⟨_, rfl⟩
    rw [← hSG] at ca cs hLn
    obtain ⟨oc, hoc⟩ : ∃ oc, oc = optCells g w down := ⟨_, rfl⟩
    rw [← hoc] at c2 cs
    simp only [Graph.av, Want.av, blv, sl] at c1 c2 c3 c4 ca
    simp only [refTab, refTabCells, hnl] at cs ⊢
    simp -implicitDefEqProofs only [sc_waymarkref15_Compile, Want.av, blv, sl, go_sem, seval]
    repeat' (first | simp -implicitDefEqProofs only [go_sem, seval] | simp -implicitDefEqProofs (disch := omega) only [ars, if_pos, exV_some, Option.map_some] | ((with_reducible first | apply exB_dec | apply exB_intro) <;> intro _) | with_reducible refine exC_pure (cd _) ?_ | with_reducible refine exCq_pure (cd _) ?_ | with_reducible refine exC_pure (c1 _) ?_ | with_reducible refine exCq_pure (c1 _) ?_ | with_reducible refine exC_pure (c2 _) ?_ | with_reducible refine exCq_pure (c2 _) ?_ | with_reducible refine exC_pure (ca _) ?_ | with_reducible refine exCq_pure (ca _) ?_ | with_reducible refine exC_pure (c3 _) ?_ | with_reducible refine exCq_pure (c3 _) ?_)
    all_goals first | (exfalso; omega) | skip
    have met0 : Met g w [startW w] := ⟨by simp, fun c hcc => by
      rw [List.mem_singleton.1 hcc]
      have := come_le (l := pts w) (node := w.src) (n := 0) (by omega) (by rw [pts_length]; omega)
      rw [pts_length] at this
      exact ⟨wf.src, by dsimp only [startW]; omega, by dsimp only [startW]; omega⟩, by simp, rfl⟩
    refine exL_modH (fun x : Int × List St × List (List Int) × AHeap => [(17, .v (iv x.1))]) (fun x => [(63, .arr x.2.1.isEmpty (rows x.2.1) x.2.1.length 82 2), (127, .arr (x.2.2.1.map dv).isEmpty (x.2.2.1.map dv) (x.2.2.1.map dv).length 25 1)]) (fun x => x.2.2.2) (fun x => (0 ≤ x.1 ∧ x.1 ≤ x.2.1.length) ∧ Met g w x.2.1 ∧ (x.2.2.1.length : Int) = x.1 ∧ (∀ r : Int, 0 ≤ r → r < x.1 → RowOk g w down x.2.1 (gi x.2.1 r) (gi x.2.2.1 r) SG.length) ∧ ∀ b o, H b = some o → x.2.2.2 b = some o) (fun x => (241 - x.1).toNat) (0, [startW w], [], H) rfl ⟨⟨by simp, by simp⟩, met0, rfl, fun r r0 r1 => by dsimp only at r1; omega, fun b o ho => ho⟩ ?_
    rintro ⟨i, Z, T, H1⟩ ⟨⟨i0, i1⟩, hmet, hTl, hrow, hbase⟩ ih
    dsimp only at i0 i1 hmet hTl hrow hbase ih
    simp only [S.up, S.upH, ups, Abs.put, Nat.reduceEqDiff, ↓reduceIte, Nat.reduceAdd] at ih
    have hS240 := states_few hf hmet.nd hmet.rng
    simp -implicitDefEqProofs only [congrArg KI.code sc_waymarkref15_Compile_L8.eq_1, go_sem, seval]
    by_cases hi : i < Z.length
    · repeat' (first | simp -implicitDefEqProofs only [go_sem, seval] | simp -implicitDefEqProofs (disch := omega) only [ars, if_pos, exV_some, Option.map_some] | ((with_reducible first | apply exB_dec | apply exB_intro) <;> intro _))
      all_goals first | (exfalso; omega) | skip
      refine exMk_int (by omega) (by omega) (by simp only [maxLen]; omega) rfl ?_
      repeat' (first | simp -implicitDefEqProofs only [go_sem, seval] | simp -implicitDefEqProofs (disch := omega) only [ars, if_pos, exV_some, Option.map_some] | ((with_reducible first | apply exB_dec | apply exB_intro) <;> intro _))
      all_goals first | (exfalso; omega) | skip
      rw [zrep_one, show ((SG.length : Nat) : Int).toNat = SG.length by omega, show List.replicate SG.length (cAV (.int .i64 0)) = (List.replicate SG.length (0 : Int)).map iv by rw [List.map_replicate]; rfl]
      obtain ⟨a, ha⟩ : ∃ a, a = gi Z i := ⟨_, rfl⟩
      refine exL_modH (fun x : Int × List St × List Int × AHeap => [(19, .v (iv x.1))]) (fun x => [(72, .arr false (x.2.2.1.map iv) SG.length 3 1), (63, .arr x.2.1.isEmpty (rows x.2.1) x.2.1.length 82 2)]) (fun x => x.2.2.2) (fun x => (0 ≤ x.1 ∧ x.1 ≤ SG.length) ∧ (Met g w x.2.1 ∧ i < x.2.1.length ∧ gi x.2.1 i = a) ∧ RowOk g w down x.2.1 a x.2.2.1 x.1 ∧ (∀ r : Int, 0 ≤ r → r < i → RowOk g w down x.2.1 (gi x.2.1 r) (gi T r) SG.length) ∧ ∀ b o, H b = some o → x.2.2.2 b = some o) (fun x => (SG.length - x.1).toNat) (0, Z, List.replicate SG.length 0, H1) rfl ⟨⟨by simp, by dsimp only; omega⟩, ⟨hmet, hi, ha.symm⟩, ⟨by simp [← hSG], fun k k0 k1 => by dsimp only at k1; omega⟩, hrow, hbase⟩ ?_
      clear hmet hrow hbase hS240 ha
      rintro ⟨k, Z2, row, H2⟩ ⟨⟨k0, k1⟩, ⟨hmet, hi2, hga⟩, hok, hrow, hbase⟩ ih2
      dsimp only at k0 k1 hmet hi2 hga hok hrow hbase ih2
      simp only [S.up, S.upH, ups, Abs.put, Nat.reduceEqDiff, ↓reduceIte, Nat.reduceAdd] at ih2
      have hS240 := states_few hf hmet.nd hmet.rng
      have hrl : row.length = SG.length := by rw [hok.1, hSG]
      simp -implicitDefEqProofs only [congrArg KI.code sc_waymarkref15_Compile_L7.eq_1, go_sem, seval]
      by_cases hk : k < SG.length
      · have hm := gi_mem (l := SG) k0 hk
        have cq := fun H => cs a (gi SG k) hm H
        have hrS : rdV (rows Z2) (i.toNat * 2) 2 true = some (.agg [iv a.1, iv a.2]) := by rw [rd_st i0 hi2, hga]
        have hrG := rd_sg (l := SG) k0 hk
        have nxt := fun Z' row' H' h1 h2 h3 h4 h5 => ih2 (k + 1, Z', row', H') ⟨⟨by dsimp only; omega, by dsimp only; omega⟩, h1, h2, h3, h4⟩ h5
        dsimp only at nxt
        clear ih2 ih
        cases hsw : segW g w down a (gi SG k) with
        | none =>
          rw [hsw] at cq
          simp only [stepAV, stateAV, Sg.av, Sg.cells_eq] at cq
          have hok2 := hok.none (k := k) k0 (by rw [← hSG]; omega) (by rw [← hSG]; exact hsw)
          repeat' (first | simp -implicitDefEqProofs only [go_sem, seval] | simp -implicitDefEqProofs (disch := omega) only [set_ints, hrS, hrG, ars, if_pos, exV_some, Option.map_some] | ((with_reducible first | apply exB_dec | apply exB_intro) <;> intro _) | with_reducible refine exC_pure (cq _) ?_ | with_reducible refine exCq_pure (cq _) ?_)
          all_goals first | (exfalso; omega) | skip
          intro b hb
          have hb : H2 b = none := hb
          have nx := fun o => nxt Z2 _ (upd H2 b (some o)) ⟨hmet, hi2, hga⟩ hok2 hrow (upd_new hbase hb) (by omega)
          repeat' (first | simp -implicitDefEqProofs only [go_sem, seval] | simp -implicitDefEqProofs (disch := omega) only [upd_self, updH_upd, ars, if_pos, exV_some, Option.map_some] | ((with_reducible first | apply exB_dec | apply exB_intro) <;> intro _))
          all_goals first | exact nx _ | (exfalso; omega) | skip
          done
        | some c =>
          rw [hsw] at cq
          simp only [stepAV, stateAV, Sg.av, Sg.cells_eq] at cq
          have hcr := seg_range wf hsw
          repeat' (first | simp -implicitDefEqProofs only [go_sem, seval] | simp -implicitDefEqProofs (disch := omega) only [set_ints, hrS, hrG, ars, if_pos, exV_some, Option.map_some] | ((with_reducible first | apply exB_dec | apply exB_intro) <;> intro _) | with_reducible refine exC_pure (cq _) ?_ | with_reducible refine exCq_pure (cq _) ?_)
          all_goals first | (exfalso; omega) | skip
          intro b hb
          have hb : H2 b = none := hb
          repeat' (first | simp -implicitDefEqProofs only [go_sem, seval] | simp -implicitDefEqProofs (disch := omega) only [upd_self, updH_upd, ars, if_pos, exV_some, Option.map_some] | ((with_reducible first | apply exB_dec | apply exB_intro) <;> intro _))
          all_goals first | (exfalso; omega) | skip
          obtain ⟨H3, hH3⟩ : ∃ H3, H3 = upd H2 b (some (.cells [iv c.1, iv c.2] 82)) := ⟨_, rfl⟩
          have hb3 : H3 b = some (.cells [iv c.1, iv c.2] 82) := by rw [hH3, upd_self]
          have hbase3 : ∀ b o, H b = some o → H3 b = some o := by rw [hH3]; exact upd_new hbase hb
          simp only [iv] at hH3
          rw [← hH3]
          clear hH3 cq
          refine exL_mod (fun x : Int => [(22, .v (iv x))]) (fun _ => []) (fun x => (0 ≤ x ∧ x ≤ Z2.length) ∧ ∀ q : Int, 0 ≤ q → q < x → gi Z2 q ≠ c) (fun x => (Z2.length - x).toNat) 0 rfl ⟨⟨by omega, by omega⟩, fun q q0 q1 => by omega⟩ ?_
          rintro j ⟨⟨j0, j1⟩, hno⟩ ih
          simp only [S.up, S.upH, ups, Abs.put, Nat.reduceEqDiff, ↓reduceIte, Nat.reduceAdd] at ih
          simp -implicitDefEqProofs only [congrArg KI.code sc_waymarkref15_Compile_L6.eq_1, go_sem, seval]
          by_cases hj : j < Z2.length
          · have hrj := rd_st (l := Z2) j0 hj
            by_cases hjc : gi Z2 j = c
            · have hok2 := (hok.some (k := k) (c := c) k0 (by rw [← hSG]; omega) (by rw [← hSG]; exact hsw) j0 hj hjc)
              have hss : (row.set k.toNat (-1)).set k.toNat j = row.set k.toNat j := by rw [List.set_set]
              have nx := nxt Z2 _ H3 ⟨hmet, hi2, hga⟩ hok2 hrow hbase3 (by omega)
              have hcj : (decide ((gi Z2 j).1 = c.1) && decide ((gi Z2 j).2 = c.2)) = true := by rw [hjc]; simp
              clear ih nxt
              repeat' (first | simp -implicitDefEqProofs only [go_sem, seval] | simp -implicitDefEqProofs (disch := omega) only [hrj, hb3, hcj, set_ints, hss, ars, if_pos, exV_some, Option.map_some] | ((with_reducible first | apply exB_dec | apply exB_intro) <;> intro _))
              all_goals first | exact nx | (exfalso; omega) | skip
              done
            · have nx := ih (j + 1) ⟨⟨by omega, by omega⟩, fun q q0 q1 => by
                by_cases e : q = j
                · rw [e]; exact hjc
                · exact hno q q0 (by omega)⟩ (by omega)
              have hcj : (decide ((gi Z2 j).1 = c.1) && decide ((gi Z2 j).2 = c.2)) = false := by
                rw [← Bool.decide_and]
                exact decide_eq_false fun hh => hjc (Prod.ext hh.1 hh.2)
              clear ih nxt
              repeat' (first | simp -implicitDefEqProofs only [go_sem, seval] | simp -implicitDefEqProofs (disch := omega) only [hrj, hb3, hcj, ars, if_pos, exV_some, Option.map_some] | ((with_reducible first | apply exB_dec | apply exB_intro) <;> intro _))
              all_goals first | exact nx | (exfalso; omega) | skip
              done
          · obtain rfl : j = Z2.length := by omega
            have hcn : c ∉ Z2 := fun hh => by
              obtain ⟨q, hq, e⟩ := List.getElem_of_mem hh
              exact hno q (by omega) (by omega) (by rw [gi_get (by omega)]; simpa using e)
            have hmet2 := hmet.add hcr hcn
            have hok2 := (hok.more c).some (k := k) (c := c) (j := Z2.length) k0 (by rw [← hSG]; omega) (by rw [← hSG]; exact hsw) (by omega) (by simp; omega) gi_app'
            have hss : (row.set k.toNat (-1)).set k.toNat (Z2.length : Int) = row.set k.toNat (Z2.length : Int) := by rw [List.set_set]
            have nx := nxt (Z2 ++ [c]) _ H3 ⟨hmet2, by simp; omega, by rw [gi_app i0 hi2]; exact hga⟩ hok2 (fun r r0 r1 => by rw [gi_app r0 (by omega)]; exact (hrow r r0 r1).more c) hbase3 (by omega)
            clear ih nxt
            repeat' (first | simp -implicitDefEqProofs only [go_sem, seval] | simp -implicitDefEqProofs (disch := omega) only [hb3, ars, if_pos, exV_some, Option.map_some] | ((with_reducible first | apply exB_dec | apply exB_intro) <;> intro _))
            all_goals first | (exfalso; omega) | skip
            refine exS_rows (l := Z2) c rfl rfl rfl (by omega) (by simp only [maxLen]; omega) ?_
            repeat' (first | simp -implicitDefEqProofs only [go_sem, seval] | simp -implicitDefEqProofs (disch := omega) only [set_ints, hss, ars, if_pos, exV_some, Option.map_some] | ((with_reducible first | apply exB_dec | apply exB_intro) <;> intro _))
            all_goals first | exact nx | (exfalso; omega) | skip
            done
      · obtain rfl : k = SG.length := by omega
        have nx := ih (i + 1, Z2, T ++ [row], H2) ⟨⟨by dsimp only; omega, by dsimp only; omega⟩, hmet, by simp; omega, fun r r0 r1 => by
            dsimp only at r1 ⊢
            by_cases e : r = i
            · rw [e, hga, ← hTl, gi_app']; exact hok
            · rw [gi_app r0 (by omega)]; exact hrow r r0 (by omega), hbase⟩ (by dsimp only; omega)
        dsimp only at nx
        rw [List.map_append, List.map_cons, List.map_nil] at nx
        clear ih ih2
        repeat' (first | simp -implicitDefEqProofs only [go_sem, seval] | simp -implicitDefEqProofs (disch := omega) only [ars, if_pos, exV_some, Option.map_some] | ((with_reducible first | apply exB_dec | apply exB_intro) <;> intro _))
        all_goals first | (exfalso; omega) | skip
        rw [show AV.vec false (row.map iv) SG.length = dv row by rw [dv, hrl]]
        refine exS_avs (l := T.map dv) (x := dv row) (by simp only [List.length_map]; rfl) (by simp only [List.length_map]; omega) (by simp only [List.length_map, maxLen]; omega) ?_
        repeat' (first | simp -implicitDefEqProofs only [go_sem, seval] | simp -implicitDefEqProofs (disch := omega) only [ars, if_pos, exV_some, Option.map_some] | ((with_reducible first | apply exB_dec | apply exB_intro) <;> intro _))
        all_goals first | exact nx | (exfalso; omega) | skip
        done
    · obtain rfl : i = Z.length := by omega
      clear ih cs
      have hp1 := hmet.pos
      have hrl : ∀ r : Int, 0 ≤ r → r < Z.length → (gi T r).length = SG.length := fun r r0 r1 => by rw [(hrow r r0 r1).1, hSG]
      repeat' (first | simp -implicitDefEqProofs only [go_sem, seval] | simp -implicitDefEqProofs (disch := omega) only [ars, if_pos, exV_some, Option.map_some] | ((with_reducible first | apply exB_dec | apply exB_intro) <;> intro _))
      all_goals first | (exfalso; omega) | skip
      refine exMk_int (by omega) (by omega) (by simp only [maxLen]; omega) rfl ?_
      repeat' (first | simp -implicitDefEqProofs only [go_sem, seval] | simp -implicitDefEqProofs (disch := omega) only [ars, if_pos, exV_some, Option.map_some] | ((with_reducible first | apply exB_dec | apply exB_intro) <;> intro _))
      all_goals first | (exfalso; omega) | skip
      rw [zrep_one, show ((Z.length : Nat) : Int).toNat = Z.length by omega, show List.replicate Z.length (cAV (.int .i64 0)) = (List.replicate Z.length (0 : Int)).map iv by rw [List.map_replicate]; rfl]
      refine exL_mod (fun x : Int × List Int => [(24, .v (iv x.1))]) (fun x => [(130, .arr false (x.2.map iv) Z.length 3 1)]) (fun x => (0 ≤ x.1 ∧ x.1 ≤ Z.length) ∧ x.2.length = Z.length ∧ ∀ j : Int, 0 ≤ j → j < x.1 → LeftAt g w down Z x.2 0 j) (fun x => (Z.length - x.1).toNat) (0, List.replicate Z.length 0) rfl ⟨⟨by simp, by dsimp only; omega⟩, by simp, fun j j0 j1 => by dsimp only at j1; omega⟩ ?_
      rintro ⟨i, left⟩ ⟨⟨i0, i1⟩, hll, hlt⟩ ih
      dsimp only at i0 i1 hll hlt ih
      simp only [S.up, S.upH, ups, Abs.put, Nat.reduceEqDiff, ↓reduceIte, Nat.reduceAdd] at ih
      simp -implicitDefEqProofs only [congrArg KI.code sc_waymarkref15_Compile_L5.eq_1, go_sem, seval]
      by_cases hi : i < Z.length
      · have hrj := rd_st (l := Z) i0 hi
        have nxt := fun left' h1 h2 => ih (i + 1, left') ⟨⟨by dsimp only; omega, by dsimp only; omega⟩, h1, h2⟩ (by dsimp only; omega)
        dsimp only at nxt
        by_cases hgl : gi Z i = goalW w
        · have hcj : (decide ((gi Z i).1 = w.dst) && decide ((gi Z i).2 = w.via.length + 1)) = true := by rw [hgl]; simp [goalW]
          have hss : (left.set i.toNat (-1)).set i.toNat 0 = left.set i.toNat 0 := by rw [List.set_set]
          have nx := nxt (left.set i.toNat 0) (by simpa using hll) (fun j j0 j1 => by
            by_cases e : j = i
            · refine .inl ⟨0, Nat.le_refl _, by rw [e, gi_set i0 (by omega) i0, if_pos rfl]; rfl, by rw [e, hgl]; exact ⟨rfl, fun m hm => by omega⟩⟩
            · exact (hlt j j0 (by omega)).set i0 (by omega) j0 e _)
          clear ih nxt
          repeat' (first | simp -implicitDefEqProofs only [go_sem, seval] | simp -implicitDefEqProofs (disch := omega) only [hrj, hcj, set_ints, hss, ars, if_pos, exV_some, Option.map_some] | ((with_reducible first | apply exB_dec | apply exB_intro) <;> intro _) | with_reducible refine exC_pure (c4 _) ?_ | with_reducible refine exCq_pure (c4 _) ?_)
          all_goals first | exact nx | (exfalso; omega) | skip
          done
        · have hcj : (decide ((gi Z i).1 = w.dst) && decide ((gi Z i).2 = w.via.length + 1)) = false := by
            rw [← Bool.decide_and]
            exact decide_eq_false fun hh => hgl (Prod.ext hh.1 hh.2)
          have nx := nxt (left.set i.toNat (-1)) (by simpa using hll) (fun j j0 j1 => by
            by_cases e : j = i
            · refine .inr ⟨by rw [e, gi_set i0 (by omega) i0, if_pos rfl], fun d hd ht => ?_⟩
              obtain rfl : d = 0 := by omega
              rw [e] at ht
              exact hgl ht
            · exact (hlt j j0 (by omega)).set i0 (by omega) j0 e _)
          clear ih nxt
          repeat' (first | simp -implicitDefEqProofs only [go_sem, seval] | simp -implicitDefEqProofs (disch := omega) only [hrj, hcj, set_ints, ars, if_pos, exV_some, Option.map_some] | ((with_reducible first | apply exB_dec | apply exB_intro) <;> intro _) | with_reducible refine exC_pure (c4 _) ?_ | with_reducible refine exCq_pure (c4 _) ?_)
          all_goals first | exact nx | (exfalso; omega) | skip
          done
      · obtain rfl : i = Z.length := by omega
        clear ih
        repeat' (first | simp -implicitDefEqProofs only [go_sem, seval] | simp -implicitDefEqProofs (disch := omega) only [ars, if_pos, exV_some, Option.map_some] | ((with_reducible first | apply exB_dec | apply exB_intro) <;> intro _))
        all_goals first | (exfalso; omega) | skip
        refine exL_mod (fun x : Nat × List Int => [(25, .v (iv ((x.1 : Int) + 1)))]) (fun x => [(130, .arr false (x.2.map iv) Z.length 3 1)]) (fun x => x.1 ≤ D ∧ x.2.length = Z.length ∧ ∀ j : Int, 0 ≤ j → j < Z.length → LeftAt g w down Z x.2 x.1 j) (fun x => D - x.1) (0, left) rfl ⟨Nat.zero_le _, hll, hlt⟩ ?_
        clear hlt hll i0 i1 hi
        rintro ⟨m, left⟩ ⟨hmD, hll, hlt⟩ ih
        dsimp only at hmD hll hlt ih
        simp only [S.up, S.upH, ups, Abs.put, Nat.reduceEqDiff, ↓reduceIte, Nat.reduceAdd] at ih
        simp -implicitDefEqProofs only [congrArg KI.code sc_waymarkref15_Compile_L4.eq_1, go_sem, seval]
        by_cases hmd : m < D
        · have nxt4 := fun left' h1 h2 => ih (m + 1, left') ⟨hmd, h1, h2⟩ (by dsimp only; omega)
          dsimp only at nxt4
          rw [Int.natCast_add, Int.natCast_one] at nxt4
          clear ih
          repeat' (first | simp -implicitDefEqProofs only [go_sem, seval] | simp -implicitDefEqProofs (disch := omega) only [ars, if_pos, exV_some, Option.map_some] | ((with_reducible first | apply exB_dec | apply exB_intro) <;> intro _))
          all_goals first | (exfalso; omega) | skip
          refine exL_mod (fun x : Int × List Int => [(26, .v (iv x.1))]) (fun x => [(130, .arr false (x.2.map iv) Z.length 3 1)]) (fun x => (0 ≤ x.1 ∧ x.1 ≤ Z.length) ∧ x.2.length = Z.length ∧ (x.1 < Z.length → Rnd g w down Z x.2 m x.1 0) ∧ (x.1 = Z.length → ∀ j : Int, 0 ≤ j → j < Z.length → LeftAt g w down Z x.2 (m + 1) j)) (fun x => (Z.length - x.1).toNat) (0, left) rfl ⟨⟨by simp, by dsimp only; omega⟩, hll, fun _ => Rnd.first hll hp1 hlt, fun hh => by dsimp only at hh; omega⟩ ?_
          clear hlt hll
          rintro ⟨i, left⟩ ⟨⟨i0, i1⟩, hll, hrn, hfin⟩ ih
          dsimp only at i0 i1 hll hrn hfin ih
          simp only [S.up, S.upH, ups, Abs.put, Nat.reduceEqDiff, ↓reduceIte, Nat.reduceAdd] at ih
          simp -implicitDefEqProofs only [congrArg KI.code sc_waymarkref15_Compile_L3.eq_1, go_sem, seval]
          by_cases hi : i < Z.length
          · have hrn := hrn hi
            have nxt3 := fun left' h1 h2 h3 => ih (i + 1, left') ⟨⟨by dsimp only; omega, by dsimp only; omega⟩, h1, h2, h3⟩ (by dsimp only; omega)
            dsimp only at nxt3
            clear ih hfin nxt4
            obtain ⟨row, hrw⟩ : ∃ row, row = gi T i := ⟨_, rfl⟩
            have hrokk := hrow i i0 hi
            have hrln := hrl i i0 hi
            rw [← hrw] at hrokk hrln
            have hrT : rdV (T.map dv) (i.toNat * 1) 1 false = some (.vec false (row.map iv) SG.length) := by rw [rd_map i0 (by omega), ← hrw, dv, hrln]
            repeat' (first | simp -implicitDefEqProofs only [go_sem, seval] | simp -implicitDefEqProofs (disch := omega) only [ars, if_pos, exV_some, Option.map_some] | ((with_reducible first | apply exB_dec | apply exB_intro) <;> intro _))
            all_goals first | (exfalso; omega) | skip
            refine exL_mod (fun x : Int × List Int => [(27, .v (iv x.1))]) (fun x => [(130, .arr false (x.2.map iv) Z.length 3 1)]) (fun x => (0 ≤ x.1 ∧ x.1 ≤ SG.length) ∧ Rnd g w down Z x.2 m i x.1) (fun x => (SG.length - x.1).toNat) (0, left) rfl ⟨⟨by simp, by dsimp only; omega⟩, hrn⟩ ?_
            clear hrn hll
            rintro ⟨k, left⟩ ⟨⟨k0, k1⟩, hrn⟩ ih
            dsimp only at k0 k1 hrn ih
            simp only [S.up, S.upH, ups, Abs.put, Nat.reduceEqDiff, ↓reduceIte, Nat.reduceAdd] at ih
            have hll := hrn.len
            simp -implicitDefEqProofs only [congrArg KI.code sc_waymarkref15_Compile_L2.eq_1, go_sem, seval]
            by_cases hgo : k < SG.length ∧ gi left i < 0
            · obtain ⟨hk, hneg⟩ := hgo
              have nxt2 := fun left' h1 => ih (k + 1, left') ⟨⟨by dsimp only; omega, by dsimp only; omega⟩, h1⟩ (by dsimp only; omega)
              dsimp only at nxt2
              clear ih nxt3
              have hkA : k < ((segsA g).length : Int) := by rw [← hSG]; exact hk
              rcases hrokk.2 k k0 hk hkA with ⟨h1, h2⟩ | ⟨c, h1, h2, h3⟩
              · have nx := nxt2 left (hrn.skip hneg fun c hc => by rw [h1] at hc; cases hc)
                clear nxt2
                repeat' (first | simp -implicitDefEqProofs only [go_sem, seval] | simp -implicitDefEqProofs (disch := omega) only [hrT, h2, ars, if_pos, exV_some, Option.map_some] | ((with_reducible first | apply exB_dec | apply exB_intro) <;> intro _))
                all_goals first | exact nx | (exfalso; omega) | skip
                done
              · have hat := hrn.at_ (j := gi row k) i0 h2.1 h2.2
                rw [h3] at hat
                by_cases hl : gi left (gi row k) = m
                · have nx := nxt2 _ (hrn.hit i0 hi hneg k0 hkA h1 (hat.1 hl))
                  clear nxt2
                  repeat' (first | simp -implicitDefEqProofs only [go_sem, seval] | simp -implicitDefEqProofs (disch := omega) only [hrT, set_ints, ars, if_pos, exV_some, Option.map_some] | ((with_reducible first | apply exB_dec | apply exB_intro) <;> intro _))
                  all_goals first | exact nx | (exfalso; omega) | skip
                  done
                · have nx := nxt2 left (hrn.skip hneg fun c' hc' => by rw [h1] at hc'; injection hc' with hc'; subst hc'; exact fun hh => hl (hat.2 hh))
                  clear nxt2
                  repeat' (first | simp -implicitDefEqProofs only [go_sem, seval] | simp -implicitDefEqProofs (disch := omega) only [hrT, ars, if_pos, exV_some, Option.map_some] | ((with_reducible first | apply exB_dec | apply exB_intro) <;> intro _))
                  all_goals first | exact nx | (exfalso; omega) | skip
                  done
            · have hex := hrn.exit (by rw [← hSG]; omega)
              have nx := nxt3 left hll (fun h => hrn.next i0 hex h) (fun h j j0 j1 => by
                by_cases e : j < i
                · exact hrn.pre j j0 e
                · obtain rfl : j = i := by omega
                  exact hex)
              clear ih nxt3
              repeat' (first | simp -implicitDefEqProofs only [go_sem, seval] | simp -implicitDefEqProofs (disch := omega) only [ars, if_pos, exV_some, Option.map_some] | ((with_reducible first | apply exB_dec | apply exB_intro) <;> intro _))
              all_goals first | exact nx | (exfalso; omega) | skip
              done
          · obtain rfl : i = Z.length := by omega
            have nx := nxt4 left hll (hfin rfl)
            clear ih nxt4 hfin hrn
            repeat' (first | simp -implicitDefEqProofs only [go_sem, seval] | simp -implicitDefEqProofs (disch := omega) only [ars, if_pos, exV_some, Option.map_some] | ((with_reducible first | apply exB_dec | apply exB_intro) <;> intro _))
            all_goals first | exact nx | (exfalso; omega) | skip
            done
        · obtain rfl : D = m := by omega
          clear ih
          have hl0 := hlt 0 (by omega) (by omega)
          have hz : rdV (left.map iv) 0 1 false = some (iv (gi left 0)) := rd_map (i := 0) (n := 1) (by omega) (by omega)
          unfold LeftAt at hl0
          rw [hmet.start] at hl0
          rcases hl0 with ⟨d0, hd0, hg0, hlea⟩ | ⟨hg0, hno⟩
          · have hcw : compAV g w down depth = .tup [.vec (lst g w down d0 (startW w)).isEmpty (rows (lst g w down d0 (startW w))) (lst g w down d0 (startW w)).length, iv 0] := by
              rw [compAV, compW_ok h0 (n := d0) (by omega) hlea.1 fun m hm => Nat.le_of_not_lt fun hlt => hlea.2 m hlt hm]
            rw [hcw] at hR
            have hll0 := lst_length hlea.1
            repeat' (first | simp -implicitDefEqProofs only [go_sem, seval] | simp -implicitDefEqProofs (disch := omega) only [hz, hg0, ars, if_pos, exV_some, Option.map_some] | ((with_reducible first | apply exB_dec | apply exB_intro) <;> intro _))
            all_goals first | (exfalso; omega) | skip
            refine exL_mod (fun x : Int × List Sg => [(28, .own 244), (29, .v (iv x.1))]) (fun x => [(244, .arr x.2.isEmpty (rows x.2) x.2.length 50 2)]) (fun x => (0 ≤ x.1 ∧ x.1 < Z.length) ∧ ∃ d : Nat, d ≤ D ∧ gi left x.1 = d ∧ Lea g w down d (gi Z x.1) ∧ x.2 ++ lst g w down d (gi Z x.1) = lst g w down d0 (startW w)) (fun x => (gi left x.1).toNat) (0, []) rfl ⟨⟨by simp, by dsimp only; omega⟩, d0, by omega, hg0, by rw [hmet.start]; exact hlea, by rw [hmet.start]; rfl⟩ ?_
            rintro ⟨i, out⟩ ⟨⟨i0, i1⟩, d, hdD, hgd, hled, hout⟩ ih
            dsimp only at i0 i1 hgd hled hout ih
            simp only [S.up, S.upH, ups, Abs.put, Nat.reduceEqDiff, ↓reduceIte, Nat.reduceAdd] at ih
            have holen : out.length + d = d0 := by
              have := congrArg List.length hout
              rw [List.length_append, lst_length hled.1, hll0] at this
              exact this
            simp -implicitDefEqProofs only [congrArg KI.code sc_waymarkref15_Compile_L1.eq_1, go_sem, seval]
            by_cases hdz : d = 0
            · subst hdz
              rw [lst, List.append_nil] at hout
              rw [← hout] at hR
              have hgz : gi left i = 0 := by rw [hgd]; rfl
              rw [hR]
              clear ih
              repeat' (first | simp -implicitDefEqProofs only [go_sem, seval] | simp -implicitDefEqProofs (disch := omega) only [hgz, ars, if_pos, exV_some, Option.map_some] | ((with_reducible first | apply exB_dec | apply exB_intro) <;> intro _))
              all_goals first | exact ⟨hbase, rfl⟩ | exact hbase | (exfalso; omega) | skip
              done
            · obtain ⟨m, rfl⟩ : ∃ m, d = m + 1 := ⟨d - 1, by omega⟩
              obtain ⟨row, hrw⟩ : ∃ row, row = gi T i := ⟨_, rfl⟩
              have hrokk := hrow i i0 i1
              have hrln := hrl i i0 i1
              rw [← hrw] at hrokk hrln
              have hrT : rdV (T.map dv) (i.toNat * 1) 1 false = some (.vec false (row.map iv) SG.length) := by rw [rd_map i0 (by omega), ← hrw, dv, hrln]
              repeat' (first | simp -implicitDefEqProofs only [go_sem, seval] | simp -implicitDefEqProofs (disch := omega) only [ars, if_pos, exV_some, Option.map_some] | ((with_reducible first | apply exB_dec | apply exB_intro) <;> intro _))
              all_goals first | (exfalso; omega) | skip
              refine exL_mod (fun x : Int => [(30, .v (iv x))]) (fun _ => []) (fun x => (0 ≤ x ∧ x ≤ SG.length) ∧ ∀ q : Int, 0 ≤ q → q < x → ∀ c, segW g w down (gi Z i) (gi SG q) = some c → ¬ Tg g w down m c) (fun x => (SG.length - x).toNat) 0 rfl ⟨⟨by omega, by omega⟩, fun q q0 q1 => by omega⟩ ?_
              rintro k ⟨⟨k0, k1⟩, hnok⟩ ih2
              simp only [S.up, S.upH, ups, Abs.put, Nat.reduceEqDiff, ↓reduceIte, Nat.reduceAdd] at ih2
              simp -implicitDefEqProofs only [congrArg KI.code sc_waymarkref15_Compile_L0.eq_1, go_sem, seval]
              have hk : k < SG.length := by
                by_cases hk : k < SG.length
                · exact hk
                · exfalso
                  obtain ⟨s, hs, c, hcs, htc⟩ := tg_seg hled.1
                  rw [← hSG] at hs
                  obtain ⟨q, hq, rfl⟩ := List.getElem_of_mem hs
                  refine hnok q (by omega) (by omega) c ?_ htc
                  have : gi SG (q : Int) = SG[q] := by rw [gi_get (by omega)]; simp
                  rw [this]
                  exact hcs
              have hkA : k < ((segsA g).length : Int) := by rw [← hSG]; exact hk
              have hmem : gi (segsA g) k ∈ segsA g := gi_mem k0 hkA
              rcases hrokk.2 k k0 hk hkA with ⟨h1, h2⟩ | ⟨c, h1, h2, h3⟩
              · have nx := ih2 (k + 1) ⟨⟨by omega, by omega⟩, fun q q0 q1 c hcq => by
                  by_cases e : q = k
                  · rw [e, hSG, h1] at hcq; cases hcq
                  · exact hnok q q0 (by omega) c hcq⟩ (by omega)
                clear ih ih2
                repeat' (first | simp -implicitDefEqProofs only [go_sem, seval] | simp -implicitDefEqProofs (disch := omega) only [hrT, h2, ars, if_pos, exV_some, Option.map_some] | ((with_reducible first | apply exB_dec | apply exB_intro) <;> intro _))
                all_goals first | exact nx | (exfalso; omega) | skip
                done
              · have hat := leftAt_eq (m := m) (hlt (gi row k) h2.1 h2.2) (by omega)
                rw [h3, ← tg_lea (fun d hd => hled.2 d (by omega)) hmem h1] at hat
                have hgm : gi left i = (m : Int) + 1 := by rw [hgd]; omega
                by_cases hl : gi left (gi row k) = m
                · have hls := lst_seg (g := g) (w := w) (down := down) (m := m) (a := gi Z i) (c := c) (pre := (segsA g).take k.toNat) (post := (segsA g).drop (k + 1).toNat) (s := gi (segsA g) k) (by rw [← drop_gi k0 hkA, List.take_append_drop]) (fun s' hs' c' hc' => by
                    obtain ⟨q, hq, e⟩ := List.getElem_of_mem hs'
                    rw [List.length_take] at hq
                    refine hnok q (by omega) (by omega) c' ?_
                    rw [List.getElem_take] at e
                    have : gi SG (q : Int) = (segsA g)[q] := by rw [hSG, gi_get (by omega)]; simp
                    rw [this, e]; exact hc') h1 (hat.1 hl)
                  rw [hls.2] at hout
                  have nx := ih (gi row k, out ++ [gi SG k]) ⟨⟨h2.1, h2.2⟩, m, by omega, hl, by
                    dsimp only
                    rw [h3]
                    exact (tg_lea (fun d hd => hled.2 d (by omega)) hmem h1).1 (hat.1 hl), by
                    dsimp only
                    rw [h3, List.append_assoc, hSG]; exact hout⟩ (by dsimp only; rw [hl, hgm]; omega)
                  dsimp only at nx
                  have hrG := rd_sg (l := SG) k0 hk
                  clear ih ih2
                  repeat' (first | simp -implicitDefEqProofs only [go_sem, seval] | simp -implicitDefEqProofs (disch := omega) only [hrT, hrG, ars, if_pos, exV_some, Option.map_some] | ((with_reducible first | apply exB_dec | apply exB_intro) <;> intro _))
                  all_goals first | (exfalso; omega) | skip
                  refine exS_rows (l := out) (gi SG k) rfl rfl rfl (by omega) (by simp only [maxLen]; omega) ?_
                  repeat' (first | simp -implicitDefEqProofs only [go_sem, seval] | simp -implicitDefEqProofs (disch := omega) only [hrT, ars, if_pos, exV_some, Option.map_some] | ((with_reducible first | apply exB_dec | apply exB_intro) <;> intro _))
                  all_goals first | exact nx | (exfalso; omega) | skip
                  done
                · have nx := ih2 (k + 1) ⟨⟨by omega, by omega⟩, fun q q0 q1 c' hcq => by
                    by_cases e : q = k
                    · rw [e, hSG, h1] at hcq
                      injection hcq with hcq
                      subst hcq
                      exact fun ht => hl (hat.2 ht)
                    · exact hnok q q0 (by omega) c' hcq⟩ (by omega)
                  clear ih ih2
                  repeat' (first | simp -implicitDefEqProofs only [go_sem, seval] | simp -implicitDefEqProofs (disch := omega) only [hrT, ars, if_pos, exV_some, Option.map_some] | ((with_reducible first | apply exB_dec | apply exB_intro) <;> intro _))
                  all_goals first | exact nx | (exfalso; omega) | skip
                  done
          · have hcw : compAV g w down depth = .tup [.vec true [] 0, iv 9] := by
              rw [compAV, compW_deep h0 fun k hk ht => hno k (by omega) ht]; rfl
            rw [hcw] at hR
            rw [hR]
            repeat' (first | simp -implicitDefEqProofs only [go_sem, seval] | simp -implicitDefEqProofs (disch := omega) only [hz, hg0, ars, if_pos, exV_some, Option.map_some] | ((with_reducible first | apply exB_dec | apply exB_intro) <;> intro _))
            all_goals first | exact ⟨hbase, rfl⟩ | exact hbase | (exfalso; omega) | skip
            done
  · have hR2 : R = .tup [.vec true [] 0, iv (optErr g w down)] := by rw [hR, compAV, compW, if_pos h0]; rfl
    rw [hR2]
    simp only [Graph.av, Want.av, blv, sl] at c1
    simp only [refTab, refTabCells, hnl]
    simp -implicitDefEqProofs only [sc_waymarkref15_Compile, Want.av, blv, sl, go_sem, seval]
    repeat' (first | simp -implicitDefEqProofs only [go_sem, seval] | simp -implicitDefEqProofs (disch := omega) only [ars, if_pos, exV_some, Option.map_some] | ((with_reducible first | apply exB_dec | apply exB_intro) <;> intro _) | with_reducible refine exC_pure (cd _) ?_ | with_reducible refine exCq_pure (cd _) ?_ | with_reducible refine exC_pure (c1 _) ?_ | with_reducible refine exCq_pure (c1 _) ?_)
    all_goals first | exact ⟨fun b o ho => ho, rfl⟩ | exact fun b o ho => ho | (exfalso; omega) | skip
    done
theorem rcompile_c (g : Graph) (w : Want) (hw : w.ok) (nl : Bool) (down : List Bool) (depth : Int) (hc : (check g).2 = 0) (H : AHeap) :
    APure Try.prog 21 [refTab g, w.av, blv nl down, iv depth] H (compAV g w down depth) := by
  intro Q h
  have key := rcompile_aux g.cp rfl w hw nl down depth H (by rw [check_cp]; exact hc)
  rw [refTab_cp] at key
  refine ACalls.relax (key.mono ?_)
  rintro r H' ⟨h1, rfl⟩
  refine ⟨fun _ => False, H, _, h1, by simp, Fz.refl _ _ _, ?_⟩
  have : compAV g.cp w down depth = compAV g w down depth := by
    rw [compAV, compAV, compW_cp]
  rw [this]
  exact h
end Go.Proofs.Ytejmcijcdhoogaa
end

section
/- The laws CompileTells and RepairTells of the chapters 17 and 18, as contracts. -/
namespace Go.Proofs.Ytejmcijcdhoogaa
open Go Abs
attribute [local irreducible] EX exL exG exC exCq exS exV exIf exGd exGq exB
set_option maxHeartbeats 4000000
theorem raround_c (g : Graph) (hc : (check g).2 = 0) (edge to depth : Int) (he : -9223372036854775808 ≤ edge ∧ edge ≤ 9223372036854775807) (H : AHeap) :
    APure Try.prog 27 [refTab g, iv edge, iv to, iv depth] H (aroundAV g edge to depth) := by
  intro Q h
  have c2 := fun H => ends_ref_c g.cp edge he H
  rw [show ends g.cp edge = ends g edge from rfl] at c2
  simp only [Graph.cp, Graph.av] at c2
  have hf := fit_of g hc
  have f3 := hf.few
  refine ACalls.of_code fn_waymarkref15_Around ?_
  cases hok : (ends g edge).2.2 with
  | true =>
    obtain ⟨e0, e1⟩ := ends_ok hok
    have cc := fun H => rcompile_c g (wR (ends g edge).1 to) (wR_ok _ _) false (downR g edge) depth hc H
    have ha : aroundAV g edge to depth = compAV g (wR (ends g edge).1 to) (downR g edge) depth := by rw [aroundAV, aroundW, if_pos hok, compAV]
    rw [ha] at h
    rw [downR] at cc h
    obtain ⟨r, hr⟩ : ∃ r, r = compAV g (wR (ends g edge).1 to) ((List.replicate g.links.length false).set (edge / 2).toNat true) depth := ⟨_, rfl⟩
    rw [compAV] at hr
    have hrt : ∃ x y, r = .tup [x, y] := ⟨_, _, hr⟩
    rw [compAV, ← hr] at h
    simp only [compAV, ← hr] at cc
    obtain ⟨x, y, rfl⟩ := hrt
    clear hr
    have ht : ends g edge = ((ends g edge).1, (ends g edge).2.1, true) := Prod.ext rfl (Prod.ext rfl hok)
    rw [ht, triIIB] at c2
    obtain ⟨a, haa⟩ : ∃ a, a = (ends g edge).1 := ⟨_, rfl⟩
    obtain ⟨b, hbb⟩ : ∃ b, b = (ends g edge).2.1 := ⟨_, rfl⟩
    rw [← haa] at cc
    rw [← haa, ← hbb] at c2
    simp only [refTab, refTabCells, wR, Want.av, blv, sl, List.map_nil, List.length_nil, List.length_set, List.length_replicate] at cc ⊢
    simp -implicitDefEqProofs only [sc_waymarkref15_Around, go_sem, seval]
    repeat' (first | simp -implicitDefEqProofs only [go_sem, seval] | simp -implicitDefEqProofs (disch := omega) only [ars, if_pos, exV_some, Option.map_some] | ((with_reducible first | apply exB_dec | apply exB_intro) <;> intro _) | with_reducible refine exC_pure (c2 _) ?_ | with_reducible refine exCq_pure (c2 _) ?_)
    all_goals first | (exfalso; omega) | skip
    refine exMk_int (by omega) (by omega) (by simp only [maxLen]; omega) rfl ?_
    rw [zrep_one, show List.replicate (g.links.length : Int).toNat (cAV (.bool false)) = (List.replicate g.links.length false).map bv by rw [List.map_replicate, show (g.links.length : Int).toNat = g.links.length by omega]; rfl]
    repeat' (first | simp -implicitDefEqProofs only [go_sem, seval] | simp -implicitDefEqProofs (disch := omega) only [set_bools, List.length_replicate, List.length_set, Int.toNat_natCast, ars, if_pos, exV_some, Option.map_some] | ((with_reducible first | apply exB_dec | apply exB_intro) <;> intro _) | with_reducible refine exC_pure (cc _) ?_ | with_reducible refine exCq_pure (cc _) ?_)
    all_goals first | exact h | (exfalso; omega) | skip
    done
  | false =>
    have ha : aroundAV g edge to depth = .tup [.vec true [] 0, iv 5] := by rw [aroundAV, aroundW, if_neg (by rw [hok]; simp)]; rfl
    rw [ha] at h
    have ht : ends g edge = ((ends g edge).1, (ends g edge).2.1, false) := Prod.ext rfl (Prod.ext rfl hok)
    rw [ht, triIIB] at c2
    simp only [refTab, refTabCells]
    simp -implicitDefEqProofs only [sc_waymarkref15_Around, go_sem, seval]
    repeat' (first | simp -implicitDefEqProofs only [go_sem, seval] | simp -implicitDefEqProofs (disch := omega) only [ars, if_pos, exV_some, Option.map_some] | ((with_reducible first | apply exB_dec | apply exB_intro) <;> intro _) | with_reducible refine exC_pure (c2 _) ?_ | with_reducible refine exCq_pure (c2 _) ?_)
    all_goals first | exact h | (exfalso; omega) | skip
    done
theorem aroundW_len (g : Graph) (edge to depth : Int) : (aroundW g edge to depth).1.length ≤ 10 := by
  unfold aroundW
  split
  · exact compW_len _ _ _ _
  · simp
theorem repairTells_c (g : Graph) (hb : g.links.length * 32 ≤ 140737488351232) (hn : g.nl = true → g.links = []) (edge to depth : Int) (he : -9223372036854775808 ≤ edge ∧ edge ≤ 9223372036854775807) (H : AHeap) :
    APure Try.prog 7 [g.av, iv edge, iv to, iv depth] H (bv true) := by
  intro Q h
  have sc := fun H => small15_c g H
  have tc := fun H => tables16_c g hb hn H
  have cc := fun H => around_c g hb hn edge to depth he H
  refine ACalls.of_code fn_waymarklaw18_RepairTells ?_
  by_cases hc : (check g).2 = 0
  · have rc := fun H => raround_c g hc edge to depth he H
    rw [tabs16, if_pos hc] at tc
    have hlen := aroundW_len g edge to depth
    obtain ⟨l, hl⟩ : ∃ l, l = (aroundW g edge to depth).1 := ⟨_, rfl⟩
    obtain ⟨e, he⟩ : ∃ e, e = (aroundW g edge to depth).2 := ⟨_, rfl⟩
    rw [← hl] at hlen
    simp only [aroundAV, ← hl, ← he] at cc rc
    have same := fun nl nm H => sameSegs_c nl nm l (by omega) H
    obtain ⟨cs, hcs⟩ : ∃ cs, tab g = .box cs 0 := ⟨_, rfl⟩
    obtain ⟨ds, hds⟩ : ∃ cs, refTab g = .box cs 0 := ⟨_, rfl⟩
    rw [hcs] at tc cc
    rw [hds] at tc rc
    simp only [Graph.av] at sc tc cc rc
    simp -implicitDefEqProofs only [sc_waymarklaw18_RepairTells, Graph.av, go_sem, seval]
    refine exC_pure (alive18_c _) ?_
    repeat' (first | simp -implicitDefEqProofs only [go_sem, seval] | simp -implicitDefEqProofs (disch := omega) only [ars, if_pos, exV_some, Option.map_some] | ((with_reducible first | apply exB_dec | apply exB_intro) <;> intro _) | with_reducible refine exC_pure (sc _) ?_ | with_reducible refine exCq_pure (sc _) ?_ | with_reducible refine exC_pure (tc _) ?_ | with_reducible refine exCq_pure (tc _) ?_ | with_reducible refine exC_pure (cc _) ?_ | with_reducible refine exCq_pure (cc _) ?_ | with_reducible refine exC_pure (rc _) ?_ | with_reducible refine exCq_pure (rc _) ?_ | with_reducible refine exC_pure (num18_c _ _) ?_ | with_reducible refine exCq_pure (num18_c _ _) ?_ | with_reducible refine exC_pure (same _ _ _) ?_ | with_reducible refine exCq_pure (same _ _ _) ?_)
    all_goals first | exact h | (exfalso; omega) | skip
    done
  · rw [tabs16, if_neg hc] at tc
    simp only [Graph.av] at sc tc cc
    simp -implicitDefEqProofs only [sc_waymarklaw18_RepairTells, Graph.av, go_sem, seval]
    refine exC_pure (alive18_c _) ?_
    repeat' (first | simp -implicitDefEqProofs only [go_sem, seval] | simp -implicitDefEqProofs (disch := omega) only [ars, if_pos, exV_some, Option.map_some] | ((with_reducible first | apply exB_dec | apply exB_intro) <;> intro _) | with_reducible refine exC_pure (sc _) ?_ | with_reducible refine exCq_pure (sc _) ?_ | with_reducible refine exC_pure (tc _) ?_ | with_reducible refine exCq_pure (tc _) ?_)
    all_goals first | exact h | (exfalso; omega) | skip
    done
end Go.Proofs.Ytejmcijcdhoogaa
end
