import Derived.Test.YtkephdahbplhfaaScWaymarklaw9
import Derived.Test.YtkephdahbplhfaaT5
set_option linter.unusedSimpArgs false
set_option linter.unusedVariables false
/- The laws TablesMeet and TablesNext of chapter 9, as contracts. -/
namespace Go.Proofs.Ytkephdahbplhfaa
open Go Abs
set_option maxHeartbeats 800000

theorem walk_trans {g : Graph} {down : List Bool} {s v u L M : Int} (h1 : Walk g down s v L) (h2 : Walk g down v u M) : Walk g down s u (L + M) := by
  induction h2 with
  | nil => rw [Int.add_zero]; exact h1
  | step _ e0 e1 hu ha ih => rw [← Int.add_assoc]; exact .step ih e0 e1 hu ha
theorem edge_back {g : Graph} {e : Int} (e0 : 0 ≤ e) (e1 : e < 2 * g.links.length) : ∃ e' : Int, 0 ≤ e' ∧ e' < 2 * g.links.length ∧ e' / 2 = e / 2 ∧ (ends g e').1 = (ends g e).2.1 ∧ (ends g e').2.1 = (ends g e).1 := by
  by_cases hp : e % 2 = 1
  · refine ⟨e - 1, by omega, by omega, by omega, ?_, ?_⟩ <;>
    · rw [ends, if_neg (by omega), if_neg (by omega), ends, if_neg (by omega), if_pos hp, show (e - 1) / 2 = e / 2 by omega]
  · refine ⟨e + 1, by omega, by omega, by omega, ?_, ?_⟩ <;>
    · rw [ends, if_neg (by omega), if_pos (by omega), ends, if_neg (by omega), if_neg hp, show (e + 1) / 2 = e / 2 by omega]
theorem walk_back {g : Graph} {down : List Bool} {s v L : Int} (h : Walk g down s v L) : Walk g down v s L := by
  induction h with
  | nil => exact .nil
  | @step a L e h1 e0 e1 hu ha ih =>
    obtain ⟨e', q0, q1, q2, q3, q4⟩ := edge_back e0 e1
    have hw := Walk.step (e := e') (Walk.nil (g := g) (down := down) (s := (ends g e).2.1)) q0 q1 (by unfold upE at hu ⊢; rw [q2]; exact hu) q3
    rw [q4, ha, Int.zero_add] at hw
    have := walk_trans hw ih
    rwa [show wt g e' = wt g e by unfold wt; rw [q2], Int.add_comm] at this
theorem dist_sym {g : Graph} (hf : Fit g) (down : List Bool) {a b : Int} (ha : 0 ≤ a ∧ a < g.nodes) (hb : 0 ≤ b ∧ b < g.nodes) : gi (distL g down a) b = gi (distL g down b) a := by
  have h1 := (distL_spec hf down ha).1
  have h2 := (distL_spec hf down hb).1
  by_cases p : 0 ≤ gi (distL g down a) b
  · have q := h2.least _ _ (walk_back (h1.way b hb.1 hb.2 p))
    have r := h1.least _ _ (walk_back (h2.way a ha.1 ha.2 q.1))
    omega
  · by_cases q : 0 ≤ gi (distL g down b) a
    · have r := h1.least _ _ (walk_back (h2.way a ha.1 ha.2 q))
      omega
    · rw [h1.neg b hb.1 hb.2 (by omega), h2.neg a ha.1 ha.2 (by omega)]
theorem distOf_sym {g : Graph} (hf : Fit g) (a b : Int) : distOf g a b = distOf g b a := by
  unfold distOf
  by_cases h : (0 ≤ a ∧ a < g.nodes) ∧ (0 ≤ b ∧ b < g.nodes)
  · rw [if_pos h, if_pos ⟨h.2, h.1⟩, dist_sym hf [] h.2 h.1]
  · rw [if_neg h, if_neg (fun hh => h ⟨hh.2, hh.1⟩)]
theorem distOf_tri {g : Graph} (hf : Fit g) (a b c : Int) (h1 : 0 ≤ distOf g a b) (h2 : 0 ≤ distOf g b c) : 0 ≤ distOf g a c ∧ distOf g a c ≤ distOf g a b + distOf g b c := by
  unfold distOf at h1 h2 ⊢
  by_cases hab : (0 ≤ a ∧ a < g.nodes) ∧ (0 ≤ b ∧ b < g.nodes)
  · by_cases hbc : (0 ≤ b ∧ b < g.nodes) ∧ (0 ≤ c ∧ c < g.nodes)
    · rw [if_pos hab] at h1 ⊢
      rw [if_pos hbc] at h2 ⊢
      rw [if_pos ⟨hab.1, hbc.2⟩]
      have w1 := (distL_spec hf [] hab.2).1.way a hab.1.1 hab.1.2 h1
      have w2 := (distL_spec hf [] hbc.2).1.way b hbc.1.1 hbc.1.2 h2
      have := (distL_spec hf [] hbc.2).1.least _ _ (walk_trans w2 w1)
      omega
    · rw [if_neg hbc] at h2; omega
  · rw [if_neg hab] at h1; omega
theorem distOf_bound {g : Graph} (hf : Fit g) (a b : Int) : -1 ≤ distOf g a b ∧ distOf g a b ≤ 671088640 := by
  unfold distOf
  split
  · rename_i h
    exact dist_bound hf [] h.2 h.1.1 h.1.2
  · omega

theorem err_num_c (e : Int) (H : AHeap) : APure Try.prog 51 [iv e] H (iv e) := by
  intro Q h
  refine ACalls.of_code fn_waymarklaw9_num ?_
  simp -implicitDefEqProofs only [sc_waymarklaw9_num, ex_nil, ex_seq, ex_skip, ex_block, ex_blk, ex_reg, ex_draw, ex_ops, ex_qops, ex_exit, ex_ret, ex_label, ex_cond, ex_loop, ex_lp, exitK, exIf_true, exIf_false, exV_some, exS_some, ex_gd, ex_gq, exGd_tt, exGd_ff, exGd_tf, exGd_ft, exGd_u, exGq_u, exGq_tt, exGq_ff, exGq_tf, exGq_ft, ex_mv, ex_pick, ex_nilc, ex_load, ex_bin, ex_beq, ex_eqs, ex_isnil, ex_un, ex_cnv, ex_fld, ex_prt, ex_ia, ex_ixs, ex_ixa, ex_ext, ex_len, ex_mnx, exF, ex_build, ex_mkfn, ex_slcs, ex_slc, exBsl, ex_bsl, exAl, ex_alloc, exBox, ex_box, exSt, ex_store, ex_mksl, exAp, ex_app, exCall, ex_call, exCal, exCald, ex_cald, exq_mv, exq_pick, exq_nilc, exq_load, exq_bin, exq_beq, exq_eqs, eqCells, scalEq, exq_isnil, exq_un, exq_cnv, exq_fld, exq_prt, exq_ia, exq_ixs, exq_ixa, exq_ext, exq_len, exq_mnx, exq_build, exq_mkfn, exq_slc, exq_bsl, exq_app, exq_call, exCalq, exq_cald, exq_store, qop, oval, cAV, rdA, rdV_t, rdV_f, binq_add, binq_sub, binq_mul, binq_and, binq_or, binq_xor, binq_eql, binq_neq, binq_lss, binq_leq, binq_gtr, binq_geq, binq_seql, binq_sneq, not_dec, Decidable.not_not, iv, bv, unq, fldq, lenq, isnilq, mnxq, slsq, slcq, ointq, allAV, partsq, fillA, catA, bslq, acells, aone, frzAll, frz1, frzE, S.frz, S.put, S.drop, S.keep, S.enter, S.thaws, S.thaw, S.newc, S.arr, keepE, keepL, clr, SV.key, Abs.put, Abs.get, Abs.del, envOf, storeq, setA, nilappq, fnOf, toAV, Value.oneCell', Nat.reduceEqDiff, Nat.reduceAdd, Nat.reduceMul, Nat.reduceLeDiff, Nat.reduceSub, Nat.reduceLT, Nat.reduceBEq, Int.reduceToNat, Option.some.injEq, reduceCtorEq, if_true, if_false, ↓reduceIte, ite_true, ite_false, Option.map_some, Option.map_none, Option.getD_some, Option.getD_none, List.map_cons, List.map_nil, List.all_cons, List.all_nil, List.take_succ_cons, List.take_zero, List.drop_zero, List.drop_succ_cons, Nat.zero_add, List.append_nil, List.nil_append, List.cons_append, List.set_cons_zero, List.set_cons_succ, List.length_cons, List.length_nil, Bool.and_true, Bool.true_and, Bool.and_self, true_and, and_true, and_self, List.flatMap_cons, List.flatMap_nil, SRes.opnds, retq, retK, resAll, resOne, tupOf, List.getElem?_cons_zero, List.getElem?_cons_succ, Bool.false_eq_true, Bool.true_eq_false, Bool.not_true, Bool.not_false, Bool.not_not, eq_self, decide_true, decide_false, Int.reduceEq, Int.reduceNeg, Int.reduceLT, Int.reduceLE, Int.reduceAdd, Int.reduceSub, Int.reduceMul, not_true_eq_false, not_false_eq_true, Int.natCast_one, Int.natCast_zero, Int.cast_ofNat_Int, beq_self_eq_true, iaq_ownE, List.length_map, List.length_set, ex_halloc, exHal, ex_hbox, exHbox, ex_hmksl, ex_hbsl, exHbsl, exHbl, hblq, ex_happ, exHapp, hpre_nil, exq_hload, exq_halloc, exq_hbox, exq_happ, hldq, ex_fz, S.fzs, S.fz1, fzL, S.newh, S.newhd, delH, upd_self, S.up, S.upH, ups]
  exact h
theorem dist2 : distL g2_ [] 0 = [0, 7] ∧ distL g2_ [] 1 = [7, 0] := by
  have hf : Fit g2_ := fit_of _ (by decide)
  have f2 := from2
  rw [fromAV, if_pos ⟨by decide, by decide, by decide⟩] at f2
  simp only [AV.vec.injEq, true_and] at f2
  have e0 : distL g2_ [] 0 = [0, 7] := by
    obtain ⟨h1, h2⟩ := f2
    match hh : distL g2_ [] 0 with
    | [a, b] =>
      rw [hh] at h1
      simp only [iv, List.map_cons, List.map_nil, List.cons.injEq, AV.raw.injEq, Value.int.injEq, true_and, and_true] at h1
      rw [h1.1, h1.2]
    | [] => rw [hh] at h2; simp at h2
    | [_] => rw [hh] at h2; simp at h2
    | _ :: _ :: _ :: _ => rw [hh] at h2; simp at h2
  refine ⟨e0, ?_⟩
  have s1 := dist_sym hf [] (a := 1) (b := 0) (by decide) (by decide)
  rw [e0] at s1
  have z : gi (distL g2_ [] 1) 1 = 0 := by have := (distL_spec hf [] (s := 1) (by decide)).1.least 1 0 .nil; omega
  have hl := (distL_spec hf [] (s := 1) (by decide)).1.len
  match hh : distL g2_ [] 1 with
  | [a, b] =>
    rw [hh] at s1 z
    simp [gi] at s1 z
    rw [s1, z]
  | [] => rw [hh] at hl; simp [g2_] at hl
  | [_] => rw [hh] at hl; simp [g2_] at hl
  | _ :: _ :: _ :: _ => rw [hh] at hl; simp [g2_] at hl; omega
theorem alive9_c (H : AHeap) : APure Try.prog 49 [] H (bv true) := by
  intro Q h
  refine ACalls.of_code fn_waymarklaw9_alive ?_
  have n := new_c g2_ (by decide) (by decide) H
  have hc2 : (check g2_).2 = 0 := by decide
  rw [if_pos hc2] at n
  have d00 := tdist_c g2_ hc2 0 0 H
  have d01 := tdist_c g2_ hc2 0 1 H
  have x01 := tnext_c g2_ hc2 0 1 H
  have e00 : distOf g2_ 0 0 = 0 := by rw [distOf, if_pos ⟨by decide, by decide⟩, dist2.1]; rfl
  have e01 : distOf g2_ 0 1 = 7 := by rw [distOf, if_pos ⟨by decide, by decide⟩, dist2.2]; rfl
  have f01 : nxtOf g2_ 0 1 = [0] := by rw [nxtOf, if_pos ⟨by decide, by decide⟩, dist2.2]; decide
  rw [e00] at d00
  rw [e01] at d01
  rw [f01] at x01
  obtain ⟨cs, hcs⟩ : ∃ cs, tab g2_ = .box cs 0 := ⟨_, rfl⟩
  rw [hcs] at n d00 d01 x01
  simp only [ints, List.map_cons, List.map_nil, List.isEmpty_cons] at x01
  have n' : APure Try.prog 50 [.agg [iv 2, .vec false [iv 0, iv 1, iv 7, iv 0] 1]] H (.tup [.box cs 0, iv 0]) := n
  simp -implicitDefEqProofs only [sc_waymarklaw9_alive, ex_nil, ex_seq, ex_skip, ex_block, ex_blk, ex_reg, ex_draw, ex_ops, ex_qops, ex_exit, ex_ret, ex_label, ex_cond, ex_loop, ex_lp, exitK, exIf_true, exIf_false, exV_some, exS_some, ex_gd, ex_gq, exGd_tt, exGd_ff, exGd_tf, exGd_ft, exGd_u, exGq_u, exGq_tt, exGq_ff, exGq_tf, exGq_ft, ex_mv, ex_pick, ex_nilc, ex_load, ex_bin, ex_beq, ex_eqs, ex_isnil, ex_un, ex_cnv, ex_fld, ex_prt, ex_ia, ex_ixs, ex_ixa, ex_ext, ex_len, ex_mnx, exF, ex_build, ex_mkfn, ex_slcs, ex_slc, exBsl, ex_bsl, exAl, ex_alloc, exBox, ex_box, exSt, ex_store, ex_mksl, exAp, ex_app, exCall, ex_call, exCal, exCald, ex_cald, exq_mv, exq_pick, exq_nilc, exq_load, exq_bin, exq_beq, exq_eqs, eqCells, scalEq, exq_isnil, exq_un, exq_cnv, exq_fld, exq_prt, exq_ia, exq_ixs, exq_ixa, exq_ext, exq_len, exq_mnx, exq_build, exq_mkfn, exq_slc, exq_bsl, exq_app, exq_call, exCalq, exq_cald, exq_store, qop, oval, cAV, rdA, rdV_t, rdV_f, binq_add, binq_sub, binq_mul, binq_and, binq_or, binq_xor, binq_eql, binq_neq, binq_lss, binq_leq, binq_gtr, binq_geq, binq_seql, binq_sneq, not_dec, Decidable.not_not, iv, bv, unq, fldq, lenq, isnilq, mnxq, slsq, slcq, ointq, allAV, partsq, fillA, catA, bslq, acells, aone, frzAll, frz1, frzE, S.frz, S.put, S.drop, S.keep, S.enter, S.thaws, S.thaw, S.newc, S.arr, keepE, keepL, clr, SV.key, Abs.put, Abs.get, Abs.del, envOf, storeq, setA, nilappq, fnOf, toAV, Value.oneCell', Nat.reduceEqDiff, Nat.reduceAdd, Nat.reduceMul, Nat.reduceLeDiff, Nat.reduceSub, Nat.reduceLT, Nat.reduceBEq, Int.reduceToNat, Option.some.injEq, reduceCtorEq, if_true, if_false, ↓reduceIte, ite_true, ite_false, Option.map_some, Option.map_none, Option.getD_some, Option.getD_none, List.map_cons, List.map_nil, List.all_cons, List.all_nil, List.take_succ_cons, List.take_zero, List.drop_zero, List.drop_succ_cons, Nat.zero_add, List.append_nil, List.nil_append, List.cons_append, List.set_cons_zero, List.set_cons_succ, List.length_cons, List.length_nil, Bool.and_true, Bool.true_and, Bool.and_self, true_and, and_true, and_self, List.flatMap_cons, List.flatMap_nil, SRes.opnds, retq, retK, resAll, resOne, tupOf, List.getElem?_cons_zero, List.getElem?_cons_succ, Bool.false_eq_true, Bool.true_eq_false, Bool.not_true, Bool.not_false, Bool.not_not, eq_self, decide_true, decide_false, Int.reduceEq, Int.reduceNeg, Int.reduceLT, Int.reduceLE, Int.reduceAdd, Int.reduceSub, Int.reduceMul, not_true_eq_false, not_false_eq_true, Int.natCast_one, Int.natCast_zero, Int.cast_ofNat_Int, beq_self_eq_true, iaq_ownE, List.length_map, List.length_set, ex_halloc, exHal, ex_hbox, exHbox, ex_hmksl, ex_hbsl, exHbsl, exHbl, hblq, ex_happ, exHapp, hpre_nil, exq_hload, exq_halloc, exq_hbox, exq_happ, hldq, ex_fz, S.fzs, S.fz1, fzL, S.newh, S.newhd, delH, upd_self, S.up, S.upH, ups]
  repeat' (first | simp -implicitDefEqProofs only [ex_nil, ex_seq, ex_skip, ex_block, ex_blk, ex_reg, ex_draw, ex_ops, ex_qops, ex_exit, ex_ret, ex_label, ex_cond, ex_loop, ex_lp, exitK, exIf_true, exIf_false, exV_some, exS_some, ex_gd, ex_gq, exGd_tt, exGd_ff, exGd_tf, exGd_ft, exGd_u, exGq_u, exGq_tt, exGq_ff, exGq_tf, exGq_ft, ex_mv, ex_pick, ex_nilc, ex_load, ex_bin, ex_beq, ex_eqs, ex_isnil, ex_un, ex_cnv, ex_fld, ex_prt, ex_ia, ex_ixs, ex_ixa, ex_ext, ex_len, ex_mnx, exF, ex_build, ex_mkfn, ex_slcs, ex_slc, exBsl, ex_bsl, exAl, ex_alloc, exBox, ex_box, exSt, ex_store, ex_mksl, exAp, ex_app, exCall, ex_call, exCal, exCald, ex_cald, exq_mv, exq_pick, exq_nilc, exq_load, exq_bin, exq_beq, exq_eqs, eqCells, scalEq, exq_isnil, exq_un, exq_cnv, exq_fld, exq_prt, exq_ia, exq_ixs, exq_ixa, exq_ext, exq_len, exq_mnx, exq_build, exq_mkfn, exq_slc, exq_bsl, exq_app, exq_call, exCalq, exq_cald, exq_store, qop, oval, cAV, rdA, rdV_t, rdV_f, binq_add, binq_sub, binq_mul, binq_and, binq_or, binq_xor, binq_eql, binq_neq, binq_lss, binq_leq, binq_gtr, binq_geq, binq_seql, binq_sneq, not_dec, Decidable.not_not, iv, bv, unq, fldq, lenq, isnilq, mnxq, slsq, slcq, ointq, allAV, partsq, fillA, catA, bslq, acells, aone, frzAll, frz1, frzE, S.frz, S.put, S.drop, S.keep, S.enter, S.thaws, S.thaw, S.newc, S.arr, keepE, keepL, clr, SV.key, Abs.put, Abs.get, Abs.del, envOf, storeq, setA, nilappq, fnOf, toAV, Value.oneCell', Nat.reduceEqDiff, Nat.reduceAdd, Nat.reduceMul, Nat.reduceLeDiff, Nat.reduceSub, Nat.reduceLT, Nat.reduceBEq, Int.reduceToNat, Option.some.injEq, reduceCtorEq, if_true, if_false, ↓reduceIte, ite_true, ite_false, Option.map_some, Option.map_none, Option.getD_some, Option.getD_none, List.map_cons, List.map_nil, List.all_cons, List.all_nil, List.take_succ_cons, List.take_zero, List.drop_zero, List.drop_succ_cons, Nat.zero_add, List.append_nil, List.nil_append, List.cons_append, List.set_cons_zero, List.set_cons_succ, List.length_cons, List.length_nil, Bool.and_true, Bool.true_and, Bool.and_self, true_and, and_true, and_self, List.flatMap_cons, List.flatMap_nil, SRes.opnds, retq, retK, resAll, resOne, tupOf, List.getElem?_cons_zero, List.getElem?_cons_succ, Bool.false_eq_true, Bool.true_eq_false, Bool.not_true, Bool.not_false, Bool.not_not, eq_self, decide_true, decide_false, Int.reduceEq, Int.reduceNeg, Int.reduceLT, Int.reduceLE, Int.reduceAdd, Int.reduceSub, Int.reduceMul, not_true_eq_false, not_false_eq_true, Int.natCast_one, Int.natCast_zero, Int.cast_ofNat_Int, beq_self_eq_true, iaq_ownE, List.length_map, List.length_set, ex_halloc, exHal, ex_hbox, exHbox, ex_hmksl, ex_hbsl, exHbsl, exHbl, hblq, ex_happ, exHapp, hpre_nil, exq_hload, exq_halloc, exq_hbox, exq_happ, hldq, ex_fz, S.fzs, S.fz1, fzL, S.newh, S.newhd, delH, upd_self, S.up, S.upH, ups] | simp -implicitDefEqProofs (disch := omega) only [iaq_vec, iao_arr, iaq_raw, rd_map, wrap_id, binq_quo, binq_rem, binq_shl, binq_shr, tdiv_pos, tmod_pos, if_pos, exV_some, Option.map_some] | ((first | with_reducible apply exIf_dec | ((with_reducible apply exGd_dec); focus exact rfl) | ((with_reducible apply exGq_dec); focus exact rfl) | with_reducible apply exIf_intro | ((with_reducible apply exGd_intro); focus exact rfl) | ((with_reducible apply exGq_intro); focus exact rfl)) <;> intro _) | with_reducible refine exC_pure (n') ?_ | with_reducible refine exCq_pure (n') ?_ | with_reducible refine exC_pure (d00) ?_ | with_reducible refine exCq_pure (d00) ?_ | with_reducible refine exC_pure (d01) ?_ | with_reducible refine exCq_pure (d01) ?_ | with_reducible refine exC_pure (x01) ?_ | with_reducible refine exCq_pure (x01) ?_ | with_reducible refine exC_pure (err_num_c _ _) ?_ | with_reducible refine exCq_pure (err_num_c _ _) ?_)
  all_goals exact h
theorem nxtOf_length (g : Graph) (a b : Int) : (nxtOf g a b).length ≤ 2 * g.links.length := by
  unfold nxtOf
  split
  · exact nextL_length _ _ _ _
  · simp
theorem shape_graphN {a : AV} (h : ArgShape tcGraph a) : ∃ g : Graph, a = g.av ∧ g.fine ∧ (g.nl = true → g.links = []) := by
  simp only [tcGraph, ArgShape, tcI, Shape, ShapeAll] at h
  obtain ⟨_, rfl, _, _, rfl, ⟨n, rfl, hn⟩, _, _, rfl, ⟨nl, rs, rfl, hnl, hb, hr⟩, rfl⟩ := h
  obtain ⟨l, rfl, hl⟩ := each_map fun r hr' => shape_link (hr r hr')
  rw [rows_map]
  exact ⟨⟨n, nl, l⟩, by simp [Graph.av], ⟨by simpa [reachBytes] using hb, wf_i64 hn, hl⟩, fun e => by simpa using hnl e⟩
end Go.Proofs.Ytkephdahbplhfaa
