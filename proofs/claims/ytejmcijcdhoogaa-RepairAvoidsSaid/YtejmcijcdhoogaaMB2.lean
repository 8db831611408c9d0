import Derived.Test.YtejmcijcdhoogaaMC1
import Derived.Test.YtejmcijcdhoogaaMB1
import Derived.Test.YtejmcijcdhoogaaAbsZ
set_option linter.unusedSimpArgs false
set_option linter.unusedVariables false
section
/- The package tables: New. -/
namespace Go.Proofs.Ytejmcijcdhoogaa
open Go Abs
attribute [local irreducible] EX exL exG exC exCq exS exV exIf exGd exGq
set_option maxHeartbeats 800000

noncomputable def toR (g : Graph) (n : Nat) : List AV := (List.range n).map fun (k : Nat) => dv (distL g [] (k : Int))
noncomputable def nextRow (g : Graph) (k : Int) (n : Nat) : List AV := (List.range n).map fun (j : Nat) => ints (nextL g [] (distL g [] k) (j : Int))
noncomputable def nextR (g : Graph) (m n : Nat) : List AV := (List.range n).map fun (k : Nat) => .vec (nextRow g (k : Int) m).isEmpty (nextRow g (k : Int) m) (nextRow g (k : Int) m).length
noncomputable def tabCells (g : Graph) : List AV := [iv g.nodes, .vec g.nl (rows g.links) g.links.length, .vec false (toR g g.nodes.toNat) g.nodes.toNat, .vec false (nextR g g.nodes.toNat g.nodes.toNat) g.nodes.toNat]
noncomputable def tab (g : Graph) : AV := .box (tabCells g) 0

structure TInv (H H' : AHeap) (bt tt : Nat) (c0 c1 : AV) (l2 l3 : List AV) : Prop where
  new : H bt = none
  base : ∀ b o, H b = some o → H' b = some o
  at_ : ∃ sv2 sv3 o2 o3, H' bt = some (.cells [c0, c1, sv2, sv3] tt) ∧ RowAt H H' bt 25 sv2 l2 o2 ∧ RowAt H H' bt 98 sv3 l3 o3 ∧ ∀ b, o2 = some b → o3 ≠ some b

theorem new_c (g : Graph) (hb : g.links.length * 32 ≤ 140737488351232) (hn : g.nl = true → g.links = []) (H : AHeap) : APure Try.prog 39 [g.av] H (if (check g).2 = 0 then .tup [tab g, iv 0] else .tup [.raw (.pointer none), iv (check g).2]) := by
  intro Q h
  by_cases hc : (check g).2 = 0
  · rw [if_pos hc] at h
    have hf := fit_of g hc
    have n1 := hf.n1
    have n2 := hf.n2
    obtain ⟨N, hN⟩ : ∃ N, N = g.nodes.toNat := ⟨_, rfl⟩
    refine ACalls.relax (ACalls.mono (Q := fun r H1 => ∃ bt tt, r = .tup [.raw (.pointer (some ⟨bt, 0, none⟩)), iv 0] ∧ TInv H H1 bt tt (iv g.nodes) (.vec g.nl (rows g.links) g.links.length) (toR g N) (nextR g N N)) ?_ ?_)
    · have tc := fun n H => to_c g true [] n H
      have tov : ∀ n : Int, 0 ≤ n → n < g.nodes → fromAV g [] n = dv (distL g [] n) := fun n n0 n1 => by rw [fromAV, if_pos ⟨hc, n0, n1⟩]; rfl
      have nx : ∀ (k j : Int), 0 ≤ k ∧ k < g.nodes → ∀ H, APure Try.prog 68 [.agg [iv g.nodes, .vec g.nl (rows g.links) g.links.length], .vec true [] 0, dv (distL g [] k), iv j] H (ints (nextL g [] (distL g [] k) j)) :=
        fun k j k0 H => next_c g true [] false (distL g [] k) (by have := fromL_i64 g [] k; rwa [fromL, if_pos ⟨hc, k0⟩] at this) j H
      have cl := cloneLinks_c g.nl g.links (by omega) hn
      simp only [Graph.av, blv, List.map_nil, List.length_nil] at tc
      refine ACalls.of_code fn_tables_New ?_
      simp -implicitDefEqProofs only [sc_tables_New, Graph.av, go_sem, Nat.reduceEqDiff, Nat.reduceAdd, Nat.reduceMul, Nat.reduceLeDiff, Nat.reduceSub, Nat.reduceLT, Nat.reduceBEq, Int.reduceToNat, reduceCtorEq, ↓reduceIte, Int.reduceEq, Int.reduceNeg, Int.reduceLT, Int.reduceLE, Int.reduceAdd, Int.reduceSub, Int.reduceMul]
      refine exC_pure (check_c g _) ?_
      simp -implicitDefEqProofs only [pairI, go_sem, Nat.reduceEqDiff, Nat.reduceAdd, Nat.reduceMul, Nat.reduceLeDiff, Nat.reduceSub, Nat.reduceLT, Nat.reduceBEq, Int.reduceToNat, reduceCtorEq, ↓reduceIte, Int.reduceEq, Int.reduceNeg, Int.reduceLT, Int.reduceLE, Int.reduceAdd, Int.reduceSub, Int.reduceMul]
      repeat' (first | simp -implicitDefEqProofs only [go_sem, Nat.reduceEqDiff, Nat.reduceAdd, Nat.reduceMul, Nat.reduceLeDiff, Nat.reduceSub, Nat.reduceLT, Nat.reduceBEq, Int.reduceToNat, reduceCtorEq, ↓reduceIte, Int.reduceEq, Int.reduceNeg, Int.reduceLT, Int.reduceLE, Int.reduceAdd, Int.reduceSub, Int.reduceMul] | simp -implicitDefEqProofs (disch := omega) only [hc, iaq_vec, iao_arr, iaq_raw, rd_map, wrap_id, binq_quo, binq_rem, binq_shl, binq_shr, tdiv_pos, tmod_pos, if_pos, exV_some, Option.map_some] | ((first | with_reducible apply exIf_dec | ((with_reducible apply exGd_dec); focus exact rfl) | ((with_reducible apply exGq_dec); focus exact rfl) | with_reducible apply exIf_intro | ((with_reducible apply exGd_intro); focus exact rfl) | ((with_reducible apply exGq_intro); focus exact rfl)) <;> intro _) | with_reducible refine exC_pure (cl _) ?_ | with_reducible refine exCq_pure (cl _) ?_)
      intro bt hbt
      have first : TInv H (upd H bt (some (.cells [iv g.nodes, .vec g.nl (rows g.links) g.links.length, .vec true [] 0, .vec true [] 0] 126))) bt 126 (iv g.nodes) (.vec g.nl (rows g.links) g.links.length) (toR g 0) (nextR g N 0) :=
        ⟨hbt, upd_base hbt, _, _, none, none, upd_self _ _ _, .inl ⟨rfl, rfl, rfl⟩, .inl ⟨rfl, rfl, rfl⟩, by simp⟩
      refine exL_modH (fun a : Int × AHeap => [(29, .v (iv a.1))]) (fun _ => []) (fun a => a.2)
        (fun a => 0 ≤ a.1 ∧ a.1 ≤ g.nodes ∧ TInv H a.2 bt 126 (iv g.nodes) (.vec g.nl (rows g.links) g.links.length) (toR g a.1.toNat) (nextR g N a.1.toNat)) (fun a => (g.nodes - a.1).toNat) (0, _) rfl ⟨by simp, by dsimp only; omega, first⟩ ?_
      rintro ⟨i, H'⟩ ⟨i0, i1, hT⟩ ih
      dsimp only at i0 i1 hT ih
      simp only [S.up, S.upH, ups, Abs.put, Nat.reduceEqDiff, ↓reduceIte, Nat.reduceAdd] at ih
      obtain ⟨hbt0, hbase, sv2, sv3, o2, o3, hat, hr2, hr3, hdis⟩ := hT
      simp -implicitDefEqProofs only [congrArg KI.code sc_tables_New_L1.eq_1, go_sem, Nat.reduceEqDiff, Nat.reduceAdd, Nat.reduceMul, Nat.reduceLeDiff, Nat.reduceSub, Nat.reduceLT, Nat.reduceBEq, Int.reduceToNat, reduceCtorEq, ↓reduceIte, Int.reduceEq, Int.reduceNeg, Int.reduceLT, Int.reduceLE, Int.reduceAdd, Int.reduceSub, Int.reduceMul]
      by_cases hi : i < g.nodes
      · have tci := tc i H'
        rw [tov i i0 hi] at tci
        repeat' (first | simp -implicitDefEqProofs only [go_sem, Nat.reduceEqDiff, Nat.reduceAdd, Nat.reduceMul, Nat.reduceLeDiff, Nat.reduceSub, Nat.reduceLT, Nat.reduceBEq, Int.reduceToNat, reduceCtorEq, ↓reduceIte, Int.reduceEq, Int.reduceNeg, Int.reduceLT, Int.reduceLE, Int.reduceAdd, Int.reduceSub, Int.reduceMul] | simp -implicitDefEqProofs (disch := omega) only [hat, iaq_vec, iao_arr, iaq_raw, rd_map, wrap_id, binq_quo, binq_rem, binq_shl, binq_shr, tdiv_pos, tmod_pos, if_pos, exV_some, Option.map_some] | ((first | with_reducible apply exIf_dec | ((with_reducible apply exGd_dec); focus exact rfl) | ((with_reducible apply exGq_dec); focus exact rfl) | with_reducible apply exIf_intro | ((with_reducible apply exGd_intro); focus exact rfl) | ((with_reducible apply exGq_intro); focus exact rfl)) <;> intro _) | with_reducible refine exC_pure (tci) ?_ | with_reducible refine exCq_pure (tci) ?_)
        all_goals first | (exfalso; omega) | skip
        obtain ⟨fr, hfr⟩ : ∃ fr : Int → List AV, fr = fun j => nextRow g i j.toNat := ⟨_, rfl⟩
        have fr0 : fr 0 = [] := by rw [hfr]; rfl
        have frl : ∀ j : Int, 0 ≤ j → j ≤ g.nodes → (fr j).length = j.toNat := fun j _ _ => by rw [hfr]; simp [nextRow]
        have frs : ∀ j : Int, 0 ≤ j → fr (j + 1) = fr j ++ [ints (nextL g [] (distL g [] i) j)] := fun j j0 => by
          rw [hfr]
          simp only [nextRow]
          rw [range_succ_map j0]
          simp only [Int.toNat_of_nonneg j0]
        have frN : fr g.nodes = nextRow g i N := by rw [hfr, hN]
        clear hfr
        refine exL_mod (fun j : Int => [(40, .v (iv j))]) (fun j => [(52, .arr (fr j).isEmpty (fr j) (fr j).length 25 1)]) (fun j => 0 ≤ j ∧ j ≤ g.nodes) (fun j => (g.nodes - j).toNat) 0 (by rw [fr0]; rfl) ⟨by omega, by omega⟩ ?_
        rintro j ⟨j0, j1⟩ ih2
        simp only [S.up, S.upH, ups, Abs.put, Nat.reduceEqDiff, ↓reduceIte, Nat.reduceAdd] at ih2
        simp -implicitDefEqProofs only [congrArg KI.code sc_tables_New_L0.eq_1, go_sem, Nat.reduceEqDiff, Nat.reduceAdd, Nat.reduceMul, Nat.reduceLeDiff, Nat.reduceSub, Nat.reduceLT, Nat.reduceBEq, Int.reduceToNat, reduceCtorEq, ↓reduceIte, Int.reduceEq, Int.reduceNeg, Int.reduceLT, Int.reduceLE, Int.reduceAdd, Int.reduceSub, Int.reduceMul]
        by_cases hj : j < g.nodes
        · have nxt := ih2 (j + 1) ⟨by omega, by omega⟩ (by omega)
          have nxj := nx i j ⟨i0, hi⟩ H'
          have hfl := frl j j0 j1
          rw [frs j j0] at nxt
          repeat' (first | simp -implicitDefEqProofs only [go_sem, Nat.reduceEqDiff, Nat.reduceAdd, Nat.reduceMul, Nat.reduceLeDiff, Nat.reduceSub, Nat.reduceLT, Nat.reduceBEq, Int.reduceToNat, reduceCtorEq, ↓reduceIte, Int.reduceEq, Int.reduceNeg, Int.reduceLT, Int.reduceLE, Int.reduceAdd, Int.reduceSub, Int.reduceMul] | simp -implicitDefEqProofs (disch := omega) only [hat, ints, iaq_vec, iao_arr, iaq_raw, rd_map, wrap_id, binq_quo, binq_rem, binq_shl, binq_shr, tdiv_pos, tmod_pos, if_pos, exV_some, Option.map_some] | ((first | with_reducible apply exIf_dec | ((with_reducible apply exGd_dec); focus exact rfl) | ((with_reducible apply exGq_dec); focus exact rfl) | with_reducible apply exIf_intro | ((with_reducible apply exGd_intro); focus exact rfl) | ((with_reducible apply exGq_intro); focus exact rfl)) <;> intro _) | with_reducible refine exC_pure (nxj) ?_ | with_reducible refine exCq_pure (nxj) ?_)
          all_goals first | (exfalso; omega) | skip
          refine exS_avs rfl (by omega) (by simp only [maxLen]; omega) ?_
          repeat' (first | simp -implicitDefEqProofs only [go_sem, Nat.reduceEqDiff, Nat.reduceAdd, Nat.reduceMul, Nat.reduceLeDiff, Nat.reduceSub, Nat.reduceLT, Nat.reduceBEq, Int.reduceToNat, reduceCtorEq, ↓reduceIte, Int.reduceEq, Int.reduceNeg, Int.reduceLT, Int.reduceLE, Int.reduceAdd, Int.reduceSub, Int.reduceMul] | simp -implicitDefEqProofs (disch := omega) only [iaq_vec, iao_arr, iaq_raw, rd_map, wrap_id, binq_quo, binq_rem, binq_shl, binq_shr, tdiv_pos, tmod_pos, if_pos, exV_some, Option.map_some] | ((first | with_reducible apply exIf_dec | ((with_reducible apply exGd_dec); focus exact rfl) | ((with_reducible apply exGq_dec); focus exact rfl) | with_reducible apply exIf_intro | ((with_reducible apply exGd_intro); focus exact rfl) | ((with_reducible apply exGq_intro); focus exact rfl)) <;> intro _))
          exact nxt
        · obtain rfl : j = g.nodes := by omega
          rw [frN]
          repeat' (first | simp -implicitDefEqProofs only [go_sem, Nat.reduceEqDiff, Nat.reduceAdd, Nat.reduceMul, Nat.reduceLeDiff, Nat.reduceSub, Nat.reduceLT, Nat.reduceBEq, Int.reduceToNat, reduceCtorEq, ↓reduceIte, Int.reduceEq, Int.reduceNeg, Int.reduceLT, Int.reduceLE, Int.reduceAdd, Int.reduceSub, Int.reduceMul] | simp -implicitDefEqProofs (disch := omega) only [hat, dv, iaq_vec, iao_arr, iaq_raw, rd_map, wrap_id, binq_quo, binq_rem, binq_shl, binq_shr, tdiv_pos, tmod_pos, if_pos, exV_some, Option.map_some] | ((first | with_reducible apply exIf_dec | ((with_reducible apply exGd_dec); focus exact rfl) | ((with_reducible apply exGq_dec); focus exact rfl) | with_reducible apply exIf_intro | ((with_reducible apply exGd_intro); focus exact rfl) | ((with_reducible apply exGq_intro); focus exact rfl)) <;> intro _))
          all_goals first | (exfalso; omega) | skip
          have lR : (toR g i.toNat).length = i.toNat := by simp [toR]
          have lN : (nextR g N i.toNat).length = i.toNat := by simp [nextR]
          have eR : toR g (i + 1).toNat = toR g i.toNat ++ [dv (distL g [] i)] := by
            simp only [toR]; rw [range_succ_map i0]; simp only [Int.toNat_of_nonneg i0]
          have eN : nextR g N (i + 1).toNat = nextR g N i.toNat ++ [.vec (nextRow g i N).isEmpty (nextRow g i N) (nextRow g i N).length] := by
            simp only [nextR]; rw [range_succ_map i0]; simp only [Int.toNat_of_nonneg i0]
          obtain ⟨cap2, hp2⟩ := hr2.pre
          rw [hp2]
          have hl2 : (toR g i.toNat).length + 1 ≤ maxLen := by rw [lR]; simp only [maxLen]; omega
          have hl2' : ((toR g i.toNat).length + 1) * 24 ≤ 140737488355328 := by rw [lR]; omega
          refine hapK_pos rfl hl2' hl2 (by omega) ?_
          intro b2 cap hb2 hcap
          simp only [S.newhd]
          have hbtn : H' bt ≠ none := by rw [hat]; simp
          obtain ⟨H1, hH1⟩ : ∃ H1, H1 = upd (delH H' o2) b2 (some (.row (toR g i.toNat ++ [dv (distL g [] i)]) cap 25 1)) := ⟨_, rfl⟩
          obtain ⟨r2, base1, keep1⟩ := row_step hr2 hbase hbtn hb2 hcap (dv (distL g [] i)) hH1
          obtain ⟨h1bt, nebt⟩ := keep1 bt _ hat (fun hh => (hr2.some_of hh).1 rfl)
          have r3 : RowAt H H1 bt 98 sv3 (nextR g N i.toNat) o3 := hr3.keep fun b hb => by
            have h0 := (hr3.some_of hb).2.2
            cases hq : H' b with
            | none => exact absurd hq h0
            | some o => exact (keep1 b o hq (fun hh => hdis b hh hb)).1
          have hd3 : o3 ≠ some b2 := fun hh => by
            have h0 := (hr3.some_of hh).2.2
            cases hq : H' b2 with
            | none => exact h0 hq
            | some o => exact (keep1 b2 o hq (fun hh' => hdis b2 hh' hh)).2 rfl
          have h1b2 : H1 b2 = some (.row (toR g i.toNat ++ [dv (distL g [] i)]) cap 25 1) := by rw [hH1, upd_self]
          rw [show upd (delH H' o2) b2 (some (.row (toR g i.toNat ++ [.vec false ((distL g [] i).map iv) (distL g [] i).length]) cap 25 1)) = H1 from hH1.symm]
          clear hH1 keep1 hb2 hp2
          repeat' (first | simp -implicitDefEqProofs only [go_sem, Nat.reduceEqDiff, Nat.reduceAdd, Nat.reduceMul, Nat.reduceLeDiff, Nat.reduceSub, Nat.reduceLT, Nat.reduceBEq, Int.reduceToNat, reduceCtorEq, ↓reduceIte, Int.reduceEq, Int.reduceNeg, Int.reduceLT, Int.reduceLE, Int.reduceAdd, Int.reduceSub, Int.reduceMul] | simp -implicitDefEqProofs (disch := omega) only [h1bt, iaq_vec, iao_arr, iaq_raw, rd_map, wrap_id, binq_quo, binq_rem, binq_shl, binq_shr, tdiv_pos, tmod_pos, if_pos, exV_some, Option.map_some] | ((first | with_reducible apply exIf_dec | ((with_reducible apply exGd_dec); focus exact rfl) | ((with_reducible apply exGq_dec); focus exact rfl) | with_reducible apply exIf_intro | ((with_reducible apply exGd_intro); focus exact rfl) | ((with_reducible apply exGq_intro); focus exact rfl)) <;> intro _))
          obtain ⟨cap3, hp3⟩ := r3.pre
          rw [hp3]
          have hl3 : (nextR g N i.toNat).length + 1 ≤ maxLen := by rw [lN]; simp only [maxLen]; omega
          have hl3' : ((nextR g N i.toNat).length + 1) * 24 ≤ 140737488355328 := by rw [lN]; omega
          refine hapK_pos rfl hl3' hl3 (by omega) ?_
          intro b3 capn hb3 hcap3
          simp only [S.newhd]
          have h1btn : H1 bt ≠ none := by rw [h1bt]; simp
          obtain ⟨H2, hH2⟩ : ∃ H2, H2 = upd (delH H1 o3) b3 (some (.row (nextR g N i.toNat ++ [.vec (nextRow g i N).isEmpty (nextRow g i N) (nextRow g i N).length]) capn 98 1)) := ⟨_, rfl⟩
          obtain ⟨r3', base2, keep2⟩ := row_step r3 base1 h1btn hb3 hcap3 (.vec (nextRow g i N).isEmpty (nextRow g i N) (nextRow g i N).length) hH2
          obtain ⟨h2bt, nebt3⟩ := keep2 bt _ h1bt (fun hh => (r3.some_of hh).1 rfl)
          obtain ⟨h2b2, ne23⟩ := keep2 b2 _ h1b2 hd3
          have h2b3 : H2 b3 = some (.row (nextR g N i.toNat ++ [.vec (nextRow g i N).isEmpty (nextRow g i N) (nextRow g i N).length]) capn 98 1) := by rw [hH2, upd_self]
          rw [← hH2]
          clear hH2 keep2 hb3 hp3
          repeat' (first | simp -implicitDefEqProofs only [go_sem, Nat.reduceEqDiff, Nat.reduceAdd, Nat.reduceMul, Nat.reduceLeDiff, Nat.reduceSub, Nat.reduceLT, Nat.reduceBEq, Int.reduceToNat, reduceCtorEq, ↓reduceIte, Int.reduceEq, Int.reduceNeg, Int.reduceLT, Int.reduceLE, Int.reduceAdd, Int.reduceSub, Int.reduceMul] | simp -implicitDefEqProofs (disch := omega) only [h2bt, upd_upd, lR, lN, iaq_vec, iao_arr, iaq_raw, rd_map, wrap_id, binq_quo, binq_rem, binq_shl, binq_shr, tdiv_pos, tmod_pos, if_pos, exV_some, Option.map_some] | ((first | with_reducible apply exIf_dec | ((with_reducible apply exGd_dec); focus exact rfl) | ((with_reducible apply exGq_dec); focus exact rfl) | with_reducible apply exIf_intro | ((with_reducible apply exGd_intro); focus exact rfl) | ((with_reducible apply exGq_intro); focus exact rfl)) <;> intro _))
          rw [lR] at r2
          rw [lN] at r3'
          have rr := ih (i + 1, upd H2 bt (some (.cells [iv g.nodes, .vec g.nl (rows g.links) g.links.length, .raw (.slice (some ⟨b2, 0, none⟩) (i.toNat + 1) cap), .raw (.slice (some ⟨b3, 0, none⟩) (i.toNat + 1) capn)] 126)))
          refine rr ⟨by dsimp only; omega, by dsimp only; omega, ?_⟩ (by dsimp only; omega)
          dsimp only
          rw [eR, eN]
          have nb : ∀ b x, b ≠ bt → upd H2 bt x b = H2 b := fun b x hb => upd_ne _ _ (Ne.symm hb)
          refine ⟨hbt0, fun b o ho => ?_, _, _, some b2, some b3, upd_self _ _ _, ?_, ?_, ?_⟩
          · rw [nb b _ (by rintro rfl; rw [hbt0] at ho; cases ho)]
            exact base2 b o ho
          · refine RowAt.keep (H' := H2) (RowAt.keep (H' := H1) r2 fun b hb => ?_) fun b hb => ?_
            · injection hb with hb; subst hb; rw [h2b2, h1b2]
            · injection hb with hb; subst hb; exact nb _ _ (r2.some_of rfl).1
          · refine RowAt.keep (H' := H2) r3' fun b hb => ?_
            injection hb with hb; subst hb; exact nb _ _ (r3'.some_of rfl).1
          · rintro b hb hb'
            injection hb with hb; injection hb' with hb'; exact ne23 (hb.trans hb'.symm)
      · obtain rfl : i = g.nodes := by omega
        repeat' (first | simp -implicitDefEqProofs only [go_sem, Nat.reduceEqDiff, Nat.reduceAdd, Nat.reduceMul, Nat.reduceLeDiff, Nat.reduceSub, Nat.reduceLT, Nat.reduceBEq, Int.reduceToNat, reduceCtorEq, ↓reduceIte, Int.reduceEq, Int.reduceNeg, Int.reduceLT, Int.reduceLE, Int.reduceAdd, Int.reduceSub, Int.reduceMul] | simp -implicitDefEqProofs (disch := omega) only [iaq_vec, iao_arr, iaq_raw, rd_map, wrap_id, binq_quo, binq_rem, binq_shl, binq_shr, tdiv_pos, tmod_pos, if_pos, exV_some, Option.map_some] | ((first | with_reducible apply exIf_dec | ((with_reducible apply exGd_dec); focus exact rfl) | ((with_reducible apply exGq_dec); focus exact rfl) | with_reducible apply exIf_intro | ((with_reducible apply exGd_intro); focus exact rfl) | ((with_reducible apply exGq_intro); focus exact rfl)) <;> intro _))
        all_goals first | (exfalso; omega) | skip
        exact ⟨bt, _, rfl, hbt, hbase, sv2, sv3, o2, o3, hat, by rw [hN]; exact hr2, by rw [hN] at *; exact hr3, hdis⟩
    · rintro r H1 ⟨bt, tt, rfl, hT⟩
      obtain ⟨hbt, hbase, sv2, sv3, o2, o3, hat, hr2, hr3, -⟩ := hT
      have l2 : (toR g N).length = N := by simp [toR]
      have l3 : (nextR g N N).length = N := by simp [nextR]
      have hN1 : N ≠ 0 := by omega
      have n2' : toR g N ≠ [] := fun e => hN1 (by rw [← l2, e]; rfl)
      have n3' : nextR g N N ≠ [] := fun e => hN1 (by rw [← l3, e]; rfl)
      obtain ⟨b2, c2, rfl, rfl, e2, m2, k2, u2⟩ : ∃ b cap, o2 = some b ∧ sv2 = .raw (.slice (some ⟨b, 0, none⟩) (toR g N).length cap) ∧ H1 b = some (.row (toR g N) cap 25 1) ∧ b ≠ bt ∧ H b = none ∧ (toR g N).length ≤ cap := by
        rcases hr2 with ⟨_, h2, _⟩ | h2
        · exact absurd h2 n2'
        · exact h2
      obtain ⟨b3, c3, rfl, rfl, e3, m3, k3, u3⟩ : ∃ b cap, o3 = some b ∧ sv3 = .raw (.slice (some ⟨b, 0, none⟩) (nextR g N N).length cap) ∧ H1 b = some (.row (nextR g N N) cap 98 1) ∧ b ≠ bt ∧ H b = none ∧ (nextR g N N).length ≤ cap := by
        rcases hr3 with ⟨_, h2, _⟩ | h2
        · exact absurd h2 n3'
        · exact h2
      refine ⟨fun b => b = bt ∨ b = b2 ∨ b = b3, H, .tup [tab g, iv 0], hbase, ?_, ?_, h⟩
      · rintro b (rfl | rfl | rfl)
        · exact ⟨by rw [hat]; simp, hbt⟩
        · exact ⟨by rw [e2]; simp, k2⟩
        · exact ⟨by rw [e3]; simp, k3⟩
      · refine Fz.tup (.cons (Fz.ptr (.inl rfl) hat ?_) (FzL.refl _ _ _))
        rw [l2] at *
        rw [l3] at *
        rw [tabCells, ← hN]
        refine .cons (Fz.refl _ _ _) (.cons (Fz.refl _ _ _) (.cons ?_ (.cons ?_ .nil)))
        · exact Fz.slice (.inr (.inl rfl)) e2 u2 (Nat.le_refl _) (fun j u hj => by rw [Nat.zero_add]; exact hj) (fun _ => n2') (FzL.refl _ _ _)
        · exact Fz.slice (.inr (.inr rfl)) e3 u3 (Nat.le_refl _) (fun j u hj => by rw [Nat.zero_add]; exact hj) (fun _ => n3') (FzL.refl _ _ _)
  · rw [if_neg hc] at h
    refine ACalls.of_code fn_tables_New ?_
    simp -implicitDefEqProofs only [sc_tables_New, Graph.av, go_sem, Nat.reduceEqDiff, Nat.reduceAdd, Nat.reduceMul, Nat.reduceLeDiff, Nat.reduceSub, Nat.reduceLT, Nat.reduceBEq, Int.reduceToNat, reduceCtorEq, ↓reduceIte, Int.reduceEq, Int.reduceNeg, Int.reduceLT, Int.reduceLE, Int.reduceAdd, Int.reduceSub, Int.reduceMul]
    refine exC_pure (check_c g _) ?_
    simp -implicitDefEqProofs only [pairI, go_sem, Nat.reduceEqDiff, Nat.reduceAdd, Nat.reduceMul, Nat.reduceLeDiff, Nat.reduceSub, Nat.reduceLT, Nat.reduceBEq, Int.reduceToNat, reduceCtorEq, ↓reduceIte, Int.reduceEq, Int.reduceNeg, Int.reduceLT, Int.reduceLE, Int.reduceAdd, Int.reduceSub, Int.reduceMul]
    repeat' (first | simp -implicitDefEqProofs only [go_sem, Nat.reduceEqDiff, Nat.reduceAdd, Nat.reduceMul, Nat.reduceLeDiff, Nat.reduceSub, Nat.reduceLT, Nat.reduceBEq, Int.reduceToNat, reduceCtorEq, ↓reduceIte, Int.reduceEq, Int.reduceNeg, Int.reduceLT, Int.reduceLE, Int.reduceAdd, Int.reduceSub, Int.reduceMul] | simp -implicitDefEqProofs (disch := omega) only [iaq_vec, iao_arr, iaq_raw, rd_map, wrap_id, binq_quo, binq_rem, binq_shl, binq_shr, tdiv_pos, tmod_pos, if_pos, exV_some, Option.map_some] | ((first | with_reducible apply exIf_dec | ((with_reducible apply exGd_dec); focus exact rfl) | ((with_reducible apply exGq_dec); focus exact rfl) | with_reducible apply exIf_intro | ((with_reducible apply exGd_intro); focus exact rfl) | ((with_reducible apply exGq_intro); focus exact rfl)) <;> intro _))
    all_goals first | contradiction | exact h
end Go.Proofs.Ytejmcijcdhoogaa
end

section
/- The package tables: what a made table tells. -/
namespace Go.Proofs.Ytejmcijcdhoogaa
open Go Abs
attribute [local irreducible] EX exL exG exC exCq exS exV exIf exGd exGq
set_option maxHeartbeats 800000

/-- how far it is -/
noncomputable def distOf (g : Graph) (a b : Int) : Int := if (0 ≤ a ∧ a < g.nodes) ∧ (0 ≤ b ∧ b < g.nodes) then gi (distL g [] b) a else -1
/-- the edges that go on -/
noncomputable def nxtOf (g : Graph) (a b : Int) : List Int := if (0 ≤ a ∧ a < g.nodes) ∧ (0 ≤ b ∧ b < g.nodes) then nextL g [] (distL g [] b) a else []
theorem rd_to {g : Graph} {n : Int} (h0 : 0 ≤ n) (h1 : n < g.nodes) : rdV (toR g g.nodes.toNat) (n.toNat * 1) 1 false = some (.vec false ((distL g [] n).map iv) (distL g [] n).length) := by
  rw [toR, rd_range h0 (by omega), Int.toNat_of_nonneg h0]; rfl
theorem rd_nextRow {g : Graph} {a b : Int} (h0 : 0 ≤ a) (h1 : a < g.nodes) : rdV (nextRow g b g.nodes.toNat) (a.toNat * 1) 1 false = some (.vec (nextL g [] (distL g [] b) a).isEmpty ((nextL g [] (distL g [] b) a).map iv) (nextL g [] (distL g [] b) a).length) := by
  rw [nextRow, rd_range h0 (by omega), Int.toNat_of_nonneg h0]; rfl
theorem nextRow_length (g : Graph) (b : Int) (n : Nat) : (nextRow g b n).length = n := by simp [nextRow]
theorem nextRow_ne {g : Graph} {b : Int} (h : 0 < g.nodes) : (nextRow g b g.nodes.toNat).isEmpty = false := by
  cases hh : nextRow g b g.nodes.toNat with
  | nil => have := nextRow_length g b g.nodes.toNat; rw [hh] at this; simp at this; omega
  | cons x l => rfl
theorem rd_next {g : Graph} {n : Int} (h0 : 0 ≤ n) (h1 : n < g.nodes) : rdV (nextR g g.nodes.toNat g.nodes.toNat) (n.toNat * 1) 1 false = some (.vec false (nextRow g n g.nodes.toNat) g.nodes.toNat) := by
  rw [nextR, rd_range h0 (by omega), Int.toNat_of_nonneg h0, nextRow_ne (by omega), nextRow_length]

theorem tis_c (g : Graph) (n : Int) (H : AHeap) : APure Try.prog 109 [tab g, iv n] H (bv (decide (0 ≤ n ∧ n < g.nodes))) := by
  intro Q h
  refine ACalls.of_code fn_tables_Tables_is ?_
  have ic := is_c g n
  simp only [Graph.av] at ic
  simp -implicitDefEqProofs only [sc_tables_Tables_is, tab, tabCells, go_sem, Nat.reduceEqDiff, Nat.reduceAdd, Nat.reduceMul, Nat.reduceLeDiff, Nat.reduceSub, Nat.reduceLT, Nat.reduceBEq, Int.reduceToNat, reduceCtorEq, ↓reduceIte, Int.reduceEq, Int.reduceNeg, Int.reduceLT, Int.reduceLE, Int.reduceAdd, Int.reduceSub, Int.reduceMul]
  repeat' (first | simp -implicitDefEqProofs only [go_sem, Nat.reduceEqDiff, Nat.reduceAdd, Nat.reduceMul, Nat.reduceLeDiff, Nat.reduceSub, Nat.reduceLT, Nat.reduceBEq, Int.reduceToNat, reduceCtorEq, ↓reduceIte, Int.reduceEq, Int.reduceNeg, Int.reduceLT, Int.reduceLE, Int.reduceAdd, Int.reduceSub, Int.reduceMul] | simp -implicitDefEqProofs (disch := omega) only [iaq_vec, iao_arr, iaq_raw, rd_map, wrap_id, binq_quo, binq_rem, binq_shl, binq_shr, tdiv_pos, tmod_pos, if_pos, exV_some, Option.map_some] | ((first | with_reducible apply exIf_dec | ((with_reducible apply exGd_dec); focus exact rfl) | ((with_reducible apply exGq_dec); focus exact rfl) | with_reducible apply exIf_intro | ((with_reducible apply exGd_intro); focus exact rfl) | ((with_reducible apply exGq_intro); focus exact rfl)) <;> intro _) | with_reducible refine exC_pure (ic _) ?_ | with_reducible refine exCq_pure (ic _) ?_)
  all_goals exact h
theorem tdist_c (g : Graph) (hc : (check g).2 = 0) (a b : Int) (H : AHeap) : APure Try.prog 105 [tab g, iv a, iv b] H (iv (distOf g a b)) := by
  intro Q h
  refine ACalls.of_code fn_tables_Tables_Dist ?_
  have hf := fit_of g hc
  have tis := tis_c g
  have hl : (0 ≤ b ∧ b < g.nodes) → ((distL g [] b).length : Int) = g.nodes := fun hb => (distL_spec hf [] hb).1.len
  have h0 : ¬ ((0 ≤ a ∧ a < g.nodes) ∧ (0 ≤ b ∧ b < g.nodes)) → distOf g a b = -1 := fun hh => by rw [distOf, if_neg hh]
  simp only [tab, tabCells] at tis
  simp -implicitDefEqProofs only [sc_tables_Tables_Dist, tab, tabCells, go_sem, Nat.reduceEqDiff, Nat.reduceAdd, Nat.reduceMul, Nat.reduceLeDiff, Nat.reduceSub, Nat.reduceLT, Nat.reduceBEq, Int.reduceToNat, reduceCtorEq, ↓reduceIte, Int.reduceEq, Int.reduceNeg, Int.reduceLT, Int.reduceLE, Int.reduceAdd, Int.reduceSub, Int.reduceMul]
  repeat' (first | simp -implicitDefEqProofs only [go_sem, Nat.reduceEqDiff, Nat.reduceAdd, Nat.reduceMul, Nat.reduceLeDiff, Nat.reduceSub, Nat.reduceLT, Nat.reduceBEq, Int.reduceToNat, reduceCtorEq, ↓reduceIte, Int.reduceEq, Int.reduceNeg, Int.reduceLT, Int.reduceLE, Int.reduceAdd, Int.reduceSub, Int.reduceMul] | simp -implicitDefEqProofs (disch := omega) only [rd_to, iaq_vec, iao_arr, iaq_raw, rd_map, wrap_id, binq_quo, binq_rem, binq_shl, binq_shr, tdiv_pos, tmod_pos, if_pos, exV_some, Option.map_some] | ((first | with_reducible apply exIf_dec | ((with_reducible apply exGd_dec); focus exact rfl) | ((with_reducible apply exGq_dec); focus exact rfl) | with_reducible apply exIf_intro | ((with_reducible apply exGd_intro); focus exact rfl) | ((with_reducible apply exGq_intro); focus exact rfl)) <;> intro _) | with_reducible refine exC_pure (tis _ _) ?_ | with_reducible refine exCq_pure (tis _ _) ?_)
  · rw [h0 (by omega)] at h; exact h
  · rw [h0 (by omega)] at h; exact h
  · rw [distOf, if_pos ⟨by omega, by omega⟩] at h; exact h
theorem tnext_c (g : Graph) (hc : (check g).2 = 0) (a b : Int) (H : AHeap) : APure Try.prog 95 [tab g, iv a, iv b] H (ints (nxtOf g a b)) := by
  intro Q h
  refine ACalls.of_code fn_tables_Tables_Next ?_
  have hf := fit_of g hc
  have tis := tis_c g
  have hfew := hf.few
  have hl := nextL_length g [] (distL g [] b) a
  have cl := cloneInts_c (nextL g [] (distL g [] b) a).isEmpty (nextL g [] (distL g [] b) a) (by omega) (fun e => by simpa using e) H
  have h0 : ¬ ((0 ≤ a ∧ a < g.nodes) ∧ (0 ≤ b ∧ b < g.nodes)) → nxtOf g a b = [] := fun hh => by rw [nxtOf, if_neg hh]
  simp only [tab, tabCells] at tis
  simp -implicitDefEqProofs only [sc_tables_Tables_Next, tab, tabCells, go_sem, Nat.reduceEqDiff, Nat.reduceAdd, Nat.reduceMul, Nat.reduceLeDiff, Nat.reduceSub, Nat.reduceLT, Nat.reduceBEq, Int.reduceToNat, reduceCtorEq, ↓reduceIte, Int.reduceEq, Int.reduceNeg, Int.reduceLT, Int.reduceLE, Int.reduceAdd, Int.reduceSub, Int.reduceMul]
  repeat' (first | simp -implicitDefEqProofs only [go_sem, Nat.reduceEqDiff, Nat.reduceAdd, Nat.reduceMul, Nat.reduceLeDiff, Nat.reduceSub, Nat.reduceLT, Nat.reduceBEq, Int.reduceToNat, reduceCtorEq, ↓reduceIte, Int.reduceEq, Int.reduceNeg, Int.reduceLT, Int.reduceLE, Int.reduceAdd, Int.reduceSub, Int.reduceMul] | simp -implicitDefEqProofs (disch := omega) only [rd_next, rd_nextRow, iaq_vec, iao_arr, iaq_raw, rd_map, wrap_id, binq_quo, binq_rem, binq_shl, binq_shr, tdiv_pos, tmod_pos, if_pos, exV_some, Option.map_some] | ((first | with_reducible apply exIf_dec | ((with_reducible apply exGd_dec); focus exact rfl) | ((with_reducible apply exGq_dec); focus exact rfl) | with_reducible apply exIf_intro | ((with_reducible apply exGd_intro); focus exact rfl) | ((with_reducible apply exGq_intro); focus exact rfl)) <;> intro _) | with_reducible refine exC_pure (tis _ _) ?_ | with_reducible refine exCq_pure (tis _ _) ?_ | with_reducible refine exC_pure (cl) ?_ | with_reducible refine exCq_pure (cl) ?_)
  · rw [h0 (by omega)] at h; exact h
  · rw [h0 (by omega)] at h; exact h
  · rw [nxtOf, if_pos ⟨by omega, by omega⟩] at h; exact h
theorem tgraph_c (g : Graph) (hb : g.links.length * 32 ≤ 140737488351232) (hn : g.nl = true → g.links = []) (H : AHeap) : APure Try.prog 56 [tab g] H g.av := by
  intro Q h
  refine ACalls.of_code fn_tables_Tables_Graph ?_
  have cl := cloneLinks_c g.nl g.links (by omega) hn H
  simp -implicitDefEqProofs only [sc_tables_Tables_Graph, tab, tabCells, go_sem, Nat.reduceEqDiff, Nat.reduceAdd, Nat.reduceMul, Nat.reduceLeDiff, Nat.reduceSub, Nat.reduceLT, Nat.reduceBEq, Int.reduceToNat, reduceCtorEq, ↓reduceIte, Int.reduceEq, Int.reduceNeg, Int.reduceLT, Int.reduceLE, Int.reduceAdd, Int.reduceSub, Int.reduceMul]
  repeat' (first | simp -implicitDefEqProofs only [go_sem, Nat.reduceEqDiff, Nat.reduceAdd, Nat.reduceMul, Nat.reduceLeDiff, Nat.reduceSub, Nat.reduceLT, Nat.reduceBEq, Int.reduceToNat, reduceCtorEq, ↓reduceIte, Int.reduceEq, Int.reduceNeg, Int.reduceLT, Int.reduceLE, Int.reduceAdd, Int.reduceSub, Int.reduceMul] | simp -implicitDefEqProofs (disch := omega) only [iaq_vec, iao_arr, iaq_raw, rd_map, wrap_id, binq_quo, binq_rem, binq_shl, binq_shr, tdiv_pos, tmod_pos, if_pos, exV_some, Option.map_some] | ((first | with_reducible apply exIf_dec | ((with_reducible apply exGd_dec); focus exact rfl) | ((with_reducible apply exGq_dec); focus exact rfl) | with_reducible apply exIf_intro | ((with_reducible apply exGd_intro); focus exact rfl) | ((with_reducible apply exGq_intro); focus exact rfl)) <;> intro _) | with_reducible refine exC_pure (cl) ?_ | with_reducible refine exCq_pure (cl) ?_)
  all_goals exact h
end Go.Proofs.Ytejmcijcdhoogaa
end

section
/- The document's tables. -/
namespace Go.Proofs.Ytejmcijcdhoogaa
open Go Abs
attribute [local irreducible] EX exL exG exC exCq exS exV exIf exGd exGq
set_option maxHeartbeats 800000

theorem copyGraph_c (g : Graph) (hb : g.links.length * 32 ≤ 140737488351232) (H : AHeap) : APure Try.prog 69 [g.av] H (.agg [iv g.nodes, .vec g.links.isEmpty (rows g.links) g.links.length]) := by
  intro Q h
  have hrl := rows_length g.links
  rw [Link.sz_eq] at hrl
  refine ACalls.relax (ACalls.of_code fn_waymarkref1_CopyGraph ?_)
  simp -implicitDefEqProofs only [sc_waymarkref1_CopyGraph, Graph.av, go_sem, Nat.reduceEqDiff, Nat.reduceAdd, Nat.reduceMul, Nat.reduceLeDiff, Nat.reduceSub, Nat.reduceLT, Nat.reduceBEq, Int.reduceToNat, reduceCtorEq, ↓reduceIte, Int.reduceEq, Int.reduceNeg, Int.reduceLT, Int.reduceLE, Int.reduceAdd, Int.reduceSub, Int.reduceMul]
  repeat' (first | simp -implicitDefEqProofs only [go_sem, Nat.reduceEqDiff, Nat.reduceAdd, Nat.reduceMul, Nat.reduceLeDiff, Nat.reduceSub, Nat.reduceLT, Nat.reduceBEq, Int.reduceToNat, reduceCtorEq, ↓reduceIte, Int.reduceEq, Int.reduceNeg, Int.reduceLT, Int.reduceLE, Int.reduceAdd, Int.reduceSub, Int.reduceMul] | simp -implicitDefEqProofs (disch := omega) only [iaq_vec, iao_arr, iaq_raw, rd_map, wrap_id, binq_quo, binq_rem, binq_shl, binq_shr, tdiv_pos, tmod_pos, if_pos, exV_some, Option.map_some] | ((first | with_reducible apply exIf_dec | ((with_reducible apply exGd_dec); focus exact rfl) | ((with_reducible apply exGq_dec); focus exact rfl) | with_reducible apply exIf_intro | ((with_reducible apply exGd_intro); focus exact rfl) | ((with_reducible apply exGq_intro); focus exact rfl)) <;> intro _))
  refine ⟨by omega, by omega, by simp only [maxLen]; omega, fun hm => ?_, fun hm b cap hob hcap => ?_⟩
  · have hl : g.links = [] := List.eq_nil_of_length_eq_zero hm
    rw [hl] at h
    repeat' (first | simp -implicitDefEqProofs only [go_sem, Nat.reduceEqDiff, Nat.reduceAdd, Nat.reduceMul, Nat.reduceLeDiff, Nat.reduceSub, Nat.reduceLT, Nat.reduceBEq, Int.reduceToNat, reduceCtorEq, ↓reduceIte, Int.reduceEq, Int.reduceNeg, Int.reduceLT, Int.reduceLE, Int.reduceAdd, Int.reduceSub, Int.reduceMul] | simp -implicitDefEqProofs (disch := omega) only [iaq_vec, iao_arr, iaq_raw, rd_map, wrap_id, binq_quo, binq_rem, binq_shl, binq_shr, tdiv_pos, tmod_pos, if_pos, exV_some, Option.map_some] | ((first | with_reducible apply exIf_dec | ((with_reducible apply exGd_dec); focus exact rfl) | ((with_reducible apply exGq_dec); focus exact rfl) | with_reducible apply exIf_intro | ((with_reducible apply exGd_intro); focus exact rfl) | ((with_reducible apply exGq_intro); focus exact rfl)) <;> intro _))
    exact ⟨fun _ => False, H, _, fun b o h => h, by simp, Fz.refl _ _ _, h⟩
  · have hbn : H b = none := by
      rcases hob with hob | hob
      · cases hob
      · exact hob
    have hne : g.links.isEmpty = false := by
      cases hh : g.links with
      | nil => rw [hh] at hm; simp at hm
      | cons _ _ => rfl
    rw [hne] at h
    simp only [Nat.zero_add, List.nil_append, S.newhd, delH] at hcap ⊢
    repeat' (first | simp -implicitDefEqProofs only [go_sem, Nat.reduceEqDiff, Nat.reduceAdd, Nat.reduceMul, Nat.reduceLeDiff, Nat.reduceSub, Nat.reduceLT, Nat.reduceBEq, Int.reduceToNat, reduceCtorEq, ↓reduceIte, Int.reduceEq, Int.reduceNeg, Int.reduceLT, Int.reduceLE, Int.reduceAdd, Int.reduceSub, Int.reduceMul] | simp -implicitDefEqProofs (disch := omega) only [iaq_vec, iao_arr, iaq_raw, rd_map, wrap_id, binq_quo, binq_rem, binq_shl, binq_shr, tdiv_pos, tmod_pos, if_pos, exV_some, Option.map_some] | ((first | with_reducible apply exIf_dec | ((with_reducible apply exGd_dec); focus exact rfl) | ((with_reducible apply exGq_dec); focus exact rfl) | with_reducible apply exIf_intro | ((with_reducible apply exGd_intro); focus exact rfl) | ((with_reducible apply exGq_intro); focus exact rfl)) <;> intro _))
    refine ⟨fun x => x = b, H, _, upd_base hbn, ?_, Fz.agg (.cons (Fz.refl _ _ _) (.cons (Fz.slice (ds' := rows g.links) (o := 0) rfl (upd_self _ _ _) hcap (Nat.le_refl _) (fun j u hj => by rw [Nat.zero_add]; exact hj) (fun _ hh => ?_) (FzL.refl _ _ _)) .nil)), h⟩
    · rintro x rfl
      exact ⟨by rw [upd_self]; simp, hbn⟩
    · rw [hh] at hrl; simp at hrl; omega

noncomputable def refTabCells (g : Graph) : List AV := [iv g.nodes, .vec g.links.isEmpty (rows g.links) g.links.length, .vec false (toR g g.nodes.toNat) g.nodes.toNat]
noncomputable def refTab (g : Graph) : AV := .box (refTabCells g) 0
structure RInv (H H' : AHeap) (bt tt : Nat) (c0 c1 : AV) (l : List AV) : Prop where
  new : H bt = none
  base : ∀ b o, H b = some o → H' b = some o
  at_ : ∃ sv o, H' bt = some (.cells [c0, c1, sv] tt) ∧ RowAt H H' bt 25 sv l o

theorem newTables_ref_c (g : Graph) (hb : g.links.length * 32 ≤ 140737488351232) (H : AHeap) : APure Try.prog 40 [g.av] H (if (check g).2 = 0 then .tup [refTab g, iv 0] else .tup [.raw (.pointer none), iv (check g).2]) := by
  intro Q h
  by_cases hc : (check g).2 = 0
  · rw [if_pos hc] at h
    have hf := fit_of g hc
    have n1 := hf.n1
    have n2 := hf.n2
    obtain ⟨N, hN⟩ : ∃ N, N = g.nodes.toNat := ⟨_, rfl⟩
    refine ACalls.relax (ACalls.mono (Q := fun r H1 => ∃ bt tt, r = .tup [.raw (.pointer (some ⟨bt, 0, none⟩)), iv 0] ∧ RInv H H1 bt tt (iv g.nodes) (.vec g.links.isEmpty (rows g.links) g.links.length) (toR g N)) ?_ ?_)
    · have fc := fun n H => from_ref_c g true [] n H
      have tov : ∀ n : Int, 0 ≤ n → n < g.nodes → fromAV g [] n = dv (distL g [] n) := fun n n0 n1 => by rw [fromAV, if_pos ⟨hc, n0, n1⟩]; rfl
      have cg := copyGraph_c g hb
      simp only [Graph.av, blv, List.map_nil, List.length_nil] at fc cg
      refine ACalls.of_code fn_waymarkref1_NewTables ?_
      simp -implicitDefEqProofs only [sc_waymarkref1_NewTables, Graph.av, go_sem, Nat.reduceEqDiff, Nat.reduceAdd, Nat.reduceMul, Nat.reduceLeDiff, Nat.reduceSub, Nat.reduceLT, Nat.reduceBEq, Int.reduceToNat, reduceCtorEq, ↓reduceIte, Int.reduceEq, Int.reduceNeg, Int.reduceLT, Int.reduceLE, Int.reduceAdd, Int.reduceSub, Int.reduceMul]
      refine exC_pure (check_ref_c g _) ?_
      simp -implicitDefEqProofs only [pairI, go_sem, Nat.reduceEqDiff, Nat.reduceAdd, Nat.reduceMul, Nat.reduceLeDiff, Nat.reduceSub, Nat.reduceLT, Nat.reduceBEq, Int.reduceToNat, reduceCtorEq, ↓reduceIte, Int.reduceEq, Int.reduceNeg, Int.reduceLT, Int.reduceLE, Int.reduceAdd, Int.reduceSub, Int.reduceMul]
      repeat' (first | simp -implicitDefEqProofs only [go_sem, Nat.reduceEqDiff, Nat.reduceAdd, Nat.reduceMul, Nat.reduceLeDiff, Nat.reduceSub, Nat.reduceLT, Nat.reduceBEq, Int.reduceToNat, reduceCtorEq, ↓reduceIte, Int.reduceEq, Int.reduceNeg, Int.reduceLT, Int.reduceLE, Int.reduceAdd, Int.reduceSub, Int.reduceMul] | simp -implicitDefEqProofs (disch := omega) only [hc, iaq_vec, iao_arr, iaq_raw, rd_map, wrap_id, binq_quo, binq_rem, binq_shl, binq_shr, tdiv_pos, tmod_pos, if_pos, exV_some, Option.map_some] | ((first | with_reducible apply exIf_dec | ((with_reducible apply exGd_dec); focus exact rfl) | ((with_reducible apply exGq_dec); focus exact rfl) | with_reducible apply exIf_intro | ((with_reducible apply exGd_intro); focus exact rfl) | ((with_reducible apply exGq_intro); focus exact rfl)) <;> intro _) | with_reducible refine exC_pure (cg _) ?_ | with_reducible refine exCq_pure (cg _) ?_)
      intro bt hbt
      have first : RInv H (upd H bt (some (.cells [iv g.nodes, .vec g.links.isEmpty (rows g.links) g.links.length, .vec true [] 0] 100))) bt 100 (iv g.nodes) (.vec g.links.isEmpty (rows g.links) g.links.length) (toR g 0) :=
        ⟨hbt, upd_base hbt, _, none, upd_self _ _ _, .inl ⟨rfl, rfl, rfl⟩⟩
      refine exL_modH (fun a : Int × AHeap => [(7, .v (iv a.1))]) (fun _ => []) (fun a => a.2)
        (fun a => 0 ≤ a.1 ∧ a.1 ≤ g.nodes ∧ RInv H a.2 bt 100 (iv g.nodes) (.vec g.links.isEmpty (rows g.links) g.links.length) (toR g a.1.toNat)) (fun a => (g.nodes - a.1).toNat) (0, _) rfl ⟨by simp, by dsimp only; omega, first⟩ ?_
      rintro ⟨i, H'⟩ ⟨i0, i1, hT⟩ ih
      dsimp only at i0 i1 hT ih
      simp only [S.up, S.upH, ups, Abs.put, Nat.reduceEqDiff, ↓reduceIte, Nat.reduceAdd] at ih
      obtain ⟨hbt0, hbase, sv, o, hat, hr⟩ := hT
      simp -implicitDefEqProofs only [congrArg KI.code sc_waymarkref1_NewTables_L0.eq_1, go_sem, Nat.reduceEqDiff, Nat.reduceAdd, Nat.reduceMul, Nat.reduceLeDiff, Nat.reduceSub, Nat.reduceLT, Nat.reduceBEq, Int.reduceToNat, reduceCtorEq, ↓reduceIte, Int.reduceEq, Int.reduceNeg, Int.reduceLT, Int.reduceLE, Int.reduceAdd, Int.reduceSub, Int.reduceMul]
      by_cases hi : i < g.nodes
      · have fci := fc i H'
        rw [tov i i0 hi] at fci
        repeat' (first | simp -implicitDefEqProofs only [go_sem, Nat.reduceEqDiff, Nat.reduceAdd, Nat.reduceMul, Nat.reduceLeDiff, Nat.reduceSub, Nat.reduceLT, Nat.reduceBEq, Int.reduceToNat, reduceCtorEq, ↓reduceIte, Int.reduceEq, Int.reduceNeg, Int.reduceLT, Int.reduceLE, Int.reduceAdd, Int.reduceSub, Int.reduceMul] | simp -implicitDefEqProofs (disch := omega) only [hat, dv, iaq_vec, iao_arr, iaq_raw, rd_map, wrap_id, binq_quo, binq_rem, binq_shl, binq_shr, tdiv_pos, tmod_pos, if_pos, exV_some, Option.map_some] | ((first | with_reducible apply exIf_dec | ((with_reducible apply exGd_dec); focus exact rfl) | ((with_reducible apply exGq_dec); focus exact rfl) | with_reducible apply exIf_intro | ((with_reducible apply exGd_intro); focus exact rfl) | ((with_reducible apply exGq_intro); focus exact rfl)) <;> intro _) | with_reducible refine exC_pure (fci) ?_ | with_reducible refine exCq_pure (fci) ?_)
        all_goals first | (exfalso; omega) | skip
        have lR : (toR g i.toNat).length = i.toNat := by simp [toR]
        have eR : toR g (i + 1).toNat = toR g i.toNat ++ [dv (distL g [] i)] := by
          simp only [toR]; rw [range_succ_map i0]; simp only [Int.toNat_of_nonneg i0]
        obtain ⟨cap2, hp2⟩ := hr.pre
        rw [hp2]
        have hl2 : (toR g i.toNat).length + 1 ≤ maxLen := by rw [lR]; simp only [maxLen]; omega
        have hl2' : ((toR g i.toNat).length + 1) * 24 ≤ 140737488355328 := by rw [lR]; omega
        refine hapK_pos rfl hl2' hl2 (by omega) ?_
        intro b2 cap hb2 hcap
        simp only [S.newhd]
        have hbtn : H' bt ≠ none := by rw [hat]; simp
        obtain ⟨H1, hH1⟩ : ∃ H1, H1 = upd (delH H' o) b2 (some (.row (toR g i.toNat ++ [dv (distL g [] i)]) cap 25 1)) := ⟨_, rfl⟩
        obtain ⟨r2, base1, keep1⟩ := row_step hr hbase hbtn hb2 hcap (dv (distL g [] i)) hH1
        obtain ⟨h1bt, nebt⟩ := keep1 bt _ hat (fun hh => (hr.some_of hh).1 rfl)
        rw [show upd (delH H' o) b2 (some (.row (toR g i.toNat ++ [.vec false ((distL g [] i).map iv) (distL g [] i).length]) cap 25 1)) = H1 from hH1.symm]
        clear hH1 keep1 hb2 hp2
        repeat' (first | simp -implicitDefEqProofs only [go_sem, Nat.reduceEqDiff, Nat.reduceAdd, Nat.reduceMul, Nat.reduceLeDiff, Nat.reduceSub, Nat.reduceLT, Nat.reduceBEq, Int.reduceToNat, reduceCtorEq, ↓reduceIte, Int.reduceEq, Int.reduceNeg, Int.reduceLT, Int.reduceLE, Int.reduceAdd, Int.reduceSub, Int.reduceMul] | simp -implicitDefEqProofs (disch := omega) only [h1bt, lR, iaq_vec, iao_arr, iaq_raw, rd_map, wrap_id, binq_quo, binq_rem, binq_shl, binq_shr, tdiv_pos, tmod_pos, if_pos, exV_some, Option.map_some] | ((first | with_reducible apply exIf_dec | ((with_reducible apply exGd_dec); focus exact rfl) | ((with_reducible apply exGq_dec); focus exact rfl) | with_reducible apply exIf_intro | ((with_reducible apply exGd_intro); focus exact rfl) | ((with_reducible apply exGq_intro); focus exact rfl)) <;> intro _))
        rw [lR] at r2
        have rr := ih (i + 1, upd H1 bt (some (.cells [iv g.nodes, .vec g.links.isEmpty (rows g.links) g.links.length, .raw (.slice (some ⟨b2, 0, none⟩) (i.toNat + 1) cap)] 100)))
        refine rr ⟨by dsimp only; omega, by dsimp only; omega, ?_⟩ (by dsimp only; omega)
        dsimp only
        rw [eR]
        have nb : ∀ b x, b ≠ bt → upd H1 bt x b = H1 b := fun b x hb => upd_ne _ _ (Ne.symm hb)
        refine ⟨hbt0, fun b o ho => ?_, _, some b2, upd_self _ _ _, ?_⟩
        · rw [nb b _ (by rintro rfl; rw [hbt0] at ho; cases ho)]
          exact base1 b o ho
        · refine RowAt.keep (H' := H1) r2 fun b hb => ?_
          injection hb with hb; subst hb; exact nb _ _ (r2.some_of rfl).1
      · obtain rfl : i = g.nodes := by omega
        repeat' (first | simp -implicitDefEqProofs only [go_sem, Nat.reduceEqDiff, Nat.reduceAdd, Nat.reduceMul, Nat.reduceLeDiff, Nat.reduceSub, Nat.reduceLT, Nat.reduceBEq, Int.reduceToNat, reduceCtorEq, ↓reduceIte, Int.reduceEq, Int.reduceNeg, Int.reduceLT, Int.reduceLE, Int.reduceAdd, Int.reduceSub, Int.reduceMul] | simp -implicitDefEqProofs (disch := omega) only [iaq_vec, iao_arr, iaq_raw, rd_map, wrap_id, binq_quo, binq_rem, binq_shl, binq_shr, tdiv_pos, tmod_pos, if_pos, exV_some, Option.map_some] | ((first | with_reducible apply exIf_dec | ((with_reducible apply exGd_dec); focus exact rfl) | ((with_reducible apply exGq_dec); focus exact rfl) | with_reducible apply exIf_intro | ((with_reducible apply exGd_intro); focus exact rfl) | ((with_reducible apply exGq_intro); focus exact rfl)) <;> intro _))
        all_goals first | (exfalso; omega) | skip
        exact ⟨bt, _, rfl, hbt, hbase, sv, o, hat, by rw [hN]; exact hr⟩
    · rintro r H1 ⟨bt, tt, rfl, hT⟩
      obtain ⟨hbt, hbase, sv2, o2, hat, hr2⟩ := hT
      have l2 : (toR g N).length = N := by simp [toR]
      have hN1 : N ≠ 0 := by omega
      have n2' : toR g N ≠ [] := fun e => hN1 (by rw [← l2, e]; rfl)
      obtain ⟨b2, c2, rfl, rfl, e2, m2, k2, u2⟩ : ∃ b cap, o2 = some b ∧ sv2 = .raw (.slice (some ⟨b, 0, none⟩) (toR g N).length cap) ∧ H1 b = some (.row (toR g N) cap 25 1) ∧ b ≠ bt ∧ H b = none ∧ (toR g N).length ≤ cap := by
        rcases hr2 with ⟨_, h2, _⟩ | h2
        · exact absurd h2 n2'
        · exact h2
      refine ⟨fun b => b = bt ∨ b = b2, H, .tup [refTab g, iv 0], hbase, ?_, ?_, h⟩
      · rintro b (rfl | rfl)
        · exact ⟨by rw [hat]; simp, hbt⟩
        · exact ⟨by rw [e2]; simp, k2⟩
      · refine Fz.tup (.cons (Fz.ptr (.inl rfl) hat ?_) (FzL.refl _ _ _))
        rw [l2] at *
        rw [refTabCells, ← hN]
        refine .cons (Fz.refl _ _ _) (.cons (Fz.refl _ _ _) (.cons ?_ .nil))
        exact Fz.slice (.inr rfl) e2 u2 (Nat.le_refl _) (fun j u hj => by rw [Nat.zero_add]; exact hj) (fun _ => n2') (FzL.refl _ _ _)
  · rw [if_neg hc] at h
    refine ACalls.of_code fn_waymarkref1_NewTables ?_
    simp -implicitDefEqProofs only [sc_waymarkref1_NewTables, Graph.av, go_sem, Nat.reduceEqDiff, Nat.reduceAdd, Nat.reduceMul, Nat.reduceLeDiff, Nat.reduceSub, Nat.reduceLT, Nat.reduceBEq, Int.reduceToNat, reduceCtorEq, ↓reduceIte, Int.reduceEq, Int.reduceNeg, Int.reduceLT, Int.reduceLE, Int.reduceAdd, Int.reduceSub, Int.reduceMul]
    refine exC_pure (check_ref_c g _) ?_
    simp -implicitDefEqProofs only [pairI, go_sem, Nat.reduceEqDiff, Nat.reduceAdd, Nat.reduceMul, Nat.reduceLeDiff, Nat.reduceSub, Nat.reduceLT, Nat.reduceBEq, Int.reduceToNat, reduceCtorEq, ↓reduceIte, Int.reduceEq, Int.reduceNeg, Int.reduceLT, Int.reduceLE, Int.reduceAdd, Int.reduceSub, Int.reduceMul]
    repeat' (first | simp -implicitDefEqProofs only [go_sem, Nat.reduceEqDiff, Nat.reduceAdd, Nat.reduceMul, Nat.reduceLeDiff, Nat.reduceSub, Nat.reduceLT, Nat.reduceBEq, Int.reduceToNat, reduceCtorEq, ↓reduceIte, Int.reduceEq, Int.reduceNeg, Int.reduceLT, Int.reduceLE, Int.reduceAdd, Int.reduceSub, Int.reduceMul] | simp -implicitDefEqProofs (disch := omega) only [iaq_vec, iao_arr, iaq_raw, rd_map, wrap_id, binq_quo, binq_rem, binq_shl, binq_shr, tdiv_pos, tmod_pos, if_pos, exV_some, Option.map_some] | ((first | with_reducible apply exIf_dec | ((with_reducible apply exGd_dec); focus exact rfl) | ((with_reducible apply exGq_dec); focus exact rfl) | with_reducible apply exIf_intro | ((with_reducible apply exGd_intro); focus exact rfl) | ((with_reducible apply exGq_intro); focus exact rfl)) <;> intro _))
    all_goals first | contradiction | exact h
end Go.Proofs.Ytejmcijcdhoogaa
end

section
/- The laws TablesMeet and TablesNext of chapter 9, as contracts. -/
namespace Go.Proofs.Ytejmcijcdhoogaa
open Go Abs
attribute [local irreducible] EX exL exG exC exCq exS exV exIf exGd exGq
set_option maxHeartbeats 800000

theorem nxtOf_length (g : Graph) (a b : Int) : (nxtOf g a b).length ≤ 2 * g.links.length := by
  unfold nxtOf
  split
  · exact nextL_length _ _ _ _
  · simp
theorem shape_graphN {a : AV} (h : ArgShape tcGraph a) : ∃ g : Graph, a = g.av ∧ g.fine ∧ (g.nl = true → g.links = []) := by
  simp only [tcGraph, ArgShape, tcI, Shape, ShapeAll] at h
  obtain ⟨_, rfl, _, _, rfl, ⟨n, rfl, hn⟩, _, _, rfl, ⟨nl, rs, rfl, hnl, hb, hr⟩, rfl⟩ := h
  obtain ⟨l, rfl, hl⟩ := each_map fun r hr' => shape_link (hr r hr')
  rw [rows_map]
  exact ⟨⟨n, nl, l⟩, by simp [Graph.av], ⟨by simpa [reachBytes] using hb, wf_i64 hn, hl⟩, fun e => by simpa using hnl e⟩
end Go.Proofs.Ytejmcijcdhoogaa
end

section
/- The law TablesTell of chapter 9, as a contract. -/
namespace Go.Proofs.Ytejmcijcdhoogaa
open Go Abs
attribute [local irreducible] EX exL exG exC exCq exS exV exIf exGd exGq
set_option maxHeartbeats 800000

/-- the document's copy of a graph -/
def Graph.cp (g : Graph) : Graph := ⟨g.nodes, g.links.isEmpty, g.links⟩
theorem checkFrom_cp (g : Graph) : ∀ (l : List Link) (i : Int), checkFrom g.cp l i = checkFrom g l i
  | [], i => rfl
  | x :: l, i => by
    have := checkFrom_cp g l (i + 1)
    unfold checkFrom
    rw [this]
    rfl
theorem check_cp (g : Graph) : check g.cp = check g := by
  unfold check
  rw [show g.cp.links = g.links from rfl, checkFrom_cp]
  rfl
theorem nextL_cp (g : Graph) (to : List Int) (node : Int) : nextL g.cp [] to node = nextL g [] to node := by
  have h : nextOk g.cp to node ↔ nextOk g to node := by
    unfold nextOk
    rw [check_cp]
    exact Iff.rfl
  unfold nextL
  by_cases hh : nextOk g to node
  · rw [if_pos hh, if_pos (h.2 hh)]; rfl
  · rw [if_neg hh, if_neg (fun x => hh (h.1 x))]
theorem rnext_c (g : Graph) (hc : (check g).2 = 0) (a b : Int) (H : AHeap) : APure Try.prog 31 [refTab g, iv a, iv b] H (ints (nxtOf g a b)) := by
  intro Q h
  refine ACalls.of_code fn_waymarkref1_Tables_Next ?_
  have hf := fit_of g hc
  have tis : ∀ n : Int, APure Try.prog 59 [.agg [iv g.nodes, .vec g.links.isEmpty (rows g.links) g.links.length], iv n] H (bv (decide (0 ≤ n ∧ n < g.nodes))) := fun n => isNode_ref_c g.cp n H
  have nr := fun (hb : 0 ≤ b ∧ b < g.nodes) => next_ref_c g.cp true [] false (distL g [] b) (by have := fromL_i64 g [] b; rwa [fromL, if_pos ⟨hc, hb⟩] at this) a H
  have h0 : ¬ ((0 ≤ a ∧ a < g.nodes) ∧ (0 ≤ b ∧ b < g.nodes)) → nxtOf g a b = [] := fun hh => by rw [nxtOf, if_neg hh]
  simp only [nextL_cp] at nr
  simp only [Graph.cp, Graph.av, blv, List.map_nil, List.length_nil] at nr
  simp -implicitDefEqProofs only [sc_waymarkref1_Tables_Next, refTab, refTabCells, go_sem, Nat.reduceEqDiff, Nat.reduceAdd, Nat.reduceMul, Nat.reduceLeDiff, Nat.reduceSub, Nat.reduceLT, Nat.reduceBEq, Int.reduceToNat, reduceCtorEq, ↓reduceIte, Int.reduceEq, Int.reduceNeg, Int.reduceLT, Int.reduceLE, Int.reduceAdd, Int.reduceSub, Int.reduceMul]
  repeat' (first | simp -implicitDefEqProofs only [go_sem, Nat.reduceEqDiff, Nat.reduceAdd, Nat.reduceMul, Nat.reduceLeDiff, Nat.reduceSub, Nat.reduceLT, Nat.reduceBEq, Int.reduceToNat, reduceCtorEq, ↓reduceIte, Int.reduceEq, Int.reduceNeg, Int.reduceLT, Int.reduceLE, Int.reduceAdd, Int.reduceSub, Int.reduceMul] | simp -implicitDefEqProofs (disch := omega) only [rd_to, iaq_vec, iao_arr, iaq_raw, rd_map, wrap_id, binq_quo, binq_rem, binq_shl, binq_shr, tdiv_pos, tmod_pos, if_pos, exV_some, Option.map_some] | ((first | with_reducible apply exIf_dec | ((with_reducible apply exGd_dec); focus exact rfl) | ((with_reducible apply exGq_dec); focus exact rfl) | with_reducible apply exIf_intro | ((with_reducible apply exGd_intro); focus exact rfl) | ((with_reducible apply exGq_intro); focus exact rfl)) <;> intro _) | with_reducible refine exC_pure (tis _) ?_ | with_reducible refine exCq_pure (tis _) ?_ | with_reducible refine exC_pure (nr ⟨by omega, by omega⟩) ?_ | with_reducible refine exCq_pure (nr ⟨by omega, by omega⟩) ?_)
  · rw [h0 (by omega)] at h; exact h
  · rw [h0 (by omega)] at h; exact h
  · rw [nxtOf, if_pos ⟨by omega, by omega⟩] at h; exact h
end Go.Proofs.Ytejmcijcdhoogaa
end

section
/- The laws TablesMeet and TablesNext of chapter 9, as contracts. -/
namespace Go.Proofs.Ytejmcijcdhoogaa
open Go Abs
attribute [local irreducible] EX exL exG exC exCq exS exV exIf exGd exGq
set_option maxHeartbeats 800000

theorem nxt_mem {g : Graph} (hf : Fit g) {a b e : Int} (h : e ∈ nxtOf g a b) : 0 ≤ e ∧ e < 2 * g.links.length ∧ (ends g e).1 = a ∧ (ends g e).2.2 = true ∧ distOf g (ends g e).2.1 b = distOf g a b - wt g e ∧ 0 < distOf g a b := by
  unfold nxtOf at h
  split at h
  · rename_i hab
    unfold nextL at h
    split at h
    · rename_i hok
      obtain ⟨h1, h2⟩ := List.mem_filter.1 h
      obtain ⟨e0, e1, e2⟩ := (out_mem g e a).1 h1
      have hb := (hf.b e e0 e1).2
      unfold onB at h2
      simp only [Bool.and_eq_true, decide_eq_true_eq] at h2
      refine ⟨e0, e1, e2, ?_, ?_, ?_⟩
      · unfold ends; rw [if_neg (by omega)]; split <;> rfl
      · rw [distOf, if_pos ⟨hb, hab.2⟩, distOf, if_pos hab]
        exact h2.2.2.symm
      · rw [distOf, if_pos hab]; exact hok.2.2.2
    · cases h
  · cases h
theorem nxt_some {g : Graph} (hc : (check g).2 = 0) {a b : Int} : 0 < ((nxtOf g a b).length : Int) ↔ 0 < distOf g a b := by
  have hf := fit_of g hc
  constructor
  · intro h
    exact (nxt_mem hf (gi_mem (l := nxtOf g a b) (Int.le_refl 0) h)).2.2.2.2.2
  · intro h
    by_cases hab : (0 ≤ a ∧ a < g.nodes) ∧ (0 ≤ b ∧ b < g.nodes)
    · rw [distOf, if_pos hab] at h
      have hd := (distL_spec hf [] hab.2).1
      have hw := hd.way a hab.1.1 hab.1.2 (by omega)
      have hsome : ∃ e : Int, 0 ≤ e ∧ e < 2 * g.links.length ∧ (ends g e).1 = a ∧ 0 ≤ gi (distL g [] b) (ends g e).2.1 ∧ gi (distL g [] b) a - wt g e = gi (distL g [] b) (ends g e).2.1 := by
        generalize hL : gi (distL g [] b) a = L at hw h
        cases hw with
        | nil => omega
        | @step x L e hw e0 e1 hu ha =>
          have h1 := hd.least _ _ hw
          obtain ⟨e', q0, q1, q2, q3, q4⟩ := edge_back e0 e1
          have hx := (hf.b e e0 e1).1
          have h3 := hd.least _ _ (.step (hd.way _ hx.1 hx.2 (by rw [ha]; exact h1.1)) e0 e1 hu rfl)
          rw [ha] at h3
          have hwe : wt g e' = wt g e := by unfold wt; rw [q2]
          refine ⟨e', q0, q1, q3, by rw [q4, ha]; exact h1.1, ?_⟩
          rw [q4, ha, hwe]
          omega
      obtain ⟨e, e0, e1, e2, e3, e4⟩ := hsome
      have hm : e ∈ nxtOf g a b := by
        rw [nxtOf, if_pos hab, nextL, if_pos ⟨hc, hd.len, hab.1, h⟩]
        refine List.mem_filter.2 ⟨(out_mem g e a).2 ⟨e0, e1, e2⟩, ?_⟩
        unfold onB
        simp only [Bool.and_eq_true, decide_eq_true_eq]
        exact ⟨by simp [upE]; left; omega, e3, e4⟩
      have := List.length_pos_of_mem hm
      omega
    · rw [distOf, if_neg hab] at h; omega
end Go.Proofs.Ytejmcijcdhoogaa
end

section
/- Texts as lists of bytes, and how one is taken apart, in plain Lean. -/
namespace Go.Proofs.Ytejmcijcdhoogaa
open Go Abs
attribute [local irreducible] EX exL exG exC exCq exS exV exIf exGd exGq

/-- a text -/
abbrev sv (l : List UInt8) : AV := .raw (.string ⟨l.toArray⟩)
structure Tok where
  kind : Int
  pos : Int
  text : List UInt8
  deriving Inhabited
instance : Enc Tok where
  sz := 3
  cells t := [iv t.kind, iv t.pos, sv t.text]
  len _ := rfl
  pos := by decide
theorem Tok.cells_eq (t : Tok) : Enc.cells t = [iv t.kind, iv t.pos, sv t.text] := rfl
theorem Tok.sz_eq : Enc.sz Tok = 3 := rfl
end Go.Proofs.Ytejmcijcdhoogaa
end

section
/- What the arguments of a law are: bytes, texts, lists of texts. -/
namespace Go.Proofs.Ytejmcijcdhoogaa
open Go Abs
attribute [local irreducible] EX exL exG exC exCq exS exV exIf exGd exGq

end Go.Proofs.Ytejmcijcdhoogaa
end

section
/- What is best, and allowed, of a want: in plain Lean. -/
namespace Go.Proofs.Ytejmcijcdhoogaa
open Go Abs
attribute [local irreducible] EX exL exG exC exCq exS exV exIf exGd exGq

/-- a want's points -/
def pts (w : Want) : List Int := w.src :: (w.via ++ [w.dst])
theorem pts_length (w : Want) : (pts w).length = w.via.length + 2 := by simp [pts]
theorem pts_zero (w : Want) : gi (pts w) 0 = w.src := rfl
/-- how many points one has come to -/
def come (l : List Int) (node n : Int) : Int := n + ((l.drop (n + 1).toNat).takeWhile fun x => decide (x = node)).length
theorem come_stop {l : List Int} {node n : Int} (n0 : 0 ≤ n) (h : ¬ (n + 1 < l.length ∧ gi l (n + 1) = node)) : come l node n = n := by
  unfold come
  by_cases h1 : n + 1 < l.length
  · rw [drop_gi (by omega) h1, List.takeWhile_cons, if_neg (by simpa using fun e => h ⟨h1, e⟩)]
    simp
  · rw [drop_end (by omega)]
    simp
theorem come_go {l : List Int} {node n : Int} (n0 : 0 ≤ n) (h1 : n + 1 < l.length) (h2 : gi l (n + 1) = node) : come l node n = come l node (n + 1) := by
  unfold come
  rw [drop_gi (by omega) h1, List.takeWhile_cons, if_pos (by simpa using h2), List.length_cons]
  omega
theorem come_le {l : List Int} {node n : Int} (n0 : 0 ≤ n) (n1 : n < l.length) : n ≤ come l node n ∧ come l node n < l.length := by
  unfold come
  have := (List.takeWhile_sublist (fun x => decide (x = node)) (l := l.drop (n + 1).toNat)).length_le
  rw [List.length_drop] at this
  omega
/-- how far a point is from the one ahead of it -/
noncomputable def leg (g : Graph) (w : Want) (down : List Bool) (i : Int) : Int := gi (distL g (pruned g w down) (gi (pts w) (i + 1))) (gi (pts w) i)
noncomputable def legs (g : Graph) (w : Want) (down : List Bool) : Nat → Int
  | 0 => 0
  | n + 1 => legs g w down n + leg g w down n
noncomputable def noLeg (g : Graph) (w : Want) (down : List Bool) (n : Nat) : Bool := (List.range n).any fun (i : Nat) => decide (leg g w down i < 0)
/-- why there is no best way; 0: there is one -/
noncomputable def optErr (g : Graph) (w : Want) (down : List Bool) : Int :=
  if rightErr g w ≠ 0 then rightErr g w
  else if noLeg g w down (w.via.length + 1) = true then 8
  else if 0 < w.bound ∧ w.bound < legs g w down (w.via.length + 1) then 8
  else 0
noncomputable def farOf (g : Graph) (w : Want) (down : List Bool) (i : Int) : List Int := distL g (pruned g w down) (gi (pts w) i)
noncomputable def tosR (g : Graph) (w : Want) (down : List Bool) (n : Nat) : List AV := (List.range n).map fun (k : Nat) => dv (farOf g w down ((k : Int) + 1))
noncomputable def waysCells (g : Graph) (w : Want) (down : List Bool) : List AV :=
  [iv g.nodes, .vec g.nl (rows g.links) g.links.length, sl false (pts w), .vec false ((pruned g w down).map bv) g.links.length, .vec false (tosR g w down (w.via.length + 1)) (w.via.length + 1), iv (legs g w down (w.via.length + 1))]
noncomputable def ways (g : Graph) (w : Want) (down : List Bool) : AV := .box (waysCells g w down) 0
noncomputable def waysAV (g : Graph) (w : Want) (down : List Bool) : AV := if optErr g w down = 0 then ways g w down else .raw (.pointer none)
theorem noLeg_succ (g : Graph) (w : Want) (down : List Bool) (n : Nat) : noLeg g w down (n + 1) = (noLeg g w down n || decide (leg g w down n < 0)) := by
  simp [noLeg, List.range_succ]

/-- what a want must be that is right -/
structure WFit (g : Graph) (w : Want) : Prop where
  fit : Fit g
  src : 0 ≤ w.src ∧ w.src < g.nodes
  dst : 0 ≤ w.dst ∧ w.dst < g.nodes
  via : ∀ x ∈ w.via, 0 ≤ x ∧ x < g.nodes
  few : w.via.length ≤ 4
  bound : 0 ≤ w.bound
theorem wfit_of {g : Graph} {w : Want} (h : rightErr g w = 0) : WFit g w := by
  have hc := (rightErr_ok h).1
  unfold rightErr at h
  rw [if_neg (by omega)] at h
  split at h
  · cases h
  split at h
  · cases h
  split at h
  · cases h
  split at h
  · cases h
  rename_i h1 h2 h3 h4
  simp only [Bool.or_eq_true, not_or, Bool.not_eq_true, noNode, decide_eq_false_iff_not, Decidable.not_not, List.any_eq_false] at h1
  exact ⟨fit_of g hc, h1.1, h1.2.1, h1.2.2.1, by omega, by omega⟩
theorem WFit.point {g : Graph} {w : Want} (h : WFit g w) {i : Int} (i0 : 0 ≤ i) (i1 : i ≤ w.via.length + 1) : 0 ≤ gi (pts w) i ∧ gi (pts w) i < g.nodes := by
  have hm := gi_mem (l := pts w) i0 (by rw [pts_length]; omega)
  simp only [pts, List.mem_cons, List.mem_append, List.not_mem_nil, or_false] at hm
  rcases hm with hm | hm | hm
  · rw [pts, hm]; exact h.src
  · exact h.via _ hm
  · rw [pts, hm]; exact h.dst
end Go.Proofs.Ytejmcijcdhoogaa
end

section
/- The package opt: points, states, and what is made of a want. -/
namespace Go.Proofs.Ytejmcijcdhoogaa
open Go Abs
attribute [local irreducible] EX exL exG exC exCq exS exV exIf exGd exGq
set_option maxHeartbeats 1000000

theorem points_c (w : Want) (hw : w.ok) (H : AHeap) : APure Try.prog 71 [w.av] H (sl false (pts w)) := by
  obtain ⟨w1, -⟩ := hw
  intro Q h
  refine ACalls.of_code fn_opt_points ?_
  simp -implicitDefEqProofs only [sc_opt_points, Want.av, sl, go_sem, Nat.reduceEqDiff, Nat.reduceAdd, Nat.reduceMul, Nat.reduceLeDiff, Nat.reduceSub, Nat.reduceLT, Nat.reduceBEq, Int.reduceToNat, reduceCtorEq, ↓reduceIte, Int.reduceEq, Int.reduceNeg, Int.reduceLT, Int.reduceLE, Int.reduceAdd, Int.reduceSub, Int.reduceMul]
  repeat' (first | simp -implicitDefEqProofs only [go_sem, Nat.reduceEqDiff, Nat.reduceAdd, Nat.reduceMul, Nat.reduceLeDiff, Nat.reduceSub, Nat.reduceLT, Nat.reduceBEq, Int.reduceToNat, reduceCtorEq, ↓reduceIte, Int.reduceEq, Int.reduceNeg, Int.reduceLT, Int.reduceLE, Int.reduceAdd, Int.reduceSub, Int.reduceMul] | simp -implicitDefEqProofs (disch := omega) only [iaq_vec, iao_arr, iaq_raw, rd_map, wrap_id, binq_quo, binq_rem, binq_shl, binq_shr, tdiv_pos, tmod_pos, if_pos, exV_some, Option.map_some] | ((first | with_reducible apply exIf_dec | ((with_reducible apply exGd_dec); focus exact rfl) | ((with_reducible apply exGq_dec); focus exact rfl) | with_reducible apply exIf_intro | ((with_reducible apply exGd_intro); focus exact rfl) | ((with_reducible apply exGq_intro); focus exact rfl)) <;> intro _))
  refine exS_ints' (l := [w.src]) rfl (by simp; omega) (by simp only [maxLen, List.length_singleton]; omega) ?_
  repeat' (first | simp -implicitDefEqProofs only [go_sem, Nat.reduceEqDiff, Nat.reduceAdd, Nat.reduceMul, Nat.reduceLeDiff, Nat.reduceSub, Nat.reduceLT, Nat.reduceBEq, Int.reduceToNat, reduceCtorEq, ↓reduceIte, Int.reduceEq, Int.reduceNeg, Int.reduceLT, Int.reduceLE, Int.reduceAdd, Int.reduceSub, Int.reduceMul] | simp -implicitDefEqProofs (disch := omega) only [iaq_vec, iao_arr, iaq_raw, rd_map, wrap_id, binq_quo, binq_rem, binq_shl, binq_shr, tdiv_pos, tmod_pos, if_pos, exV_some, Option.map_some] | ((first | with_reducible apply exIf_dec | ((with_reducible apply exGd_dec); focus exact rfl) | ((with_reducible apply exGq_dec); focus exact rfl) | with_reducible apply exIf_intro | ((with_reducible apply exGd_intro); focus exact rfl) | ((with_reducible apply exGq_intro); focus exact rfl)) <;> intro _))
  refine exS_ints (l := [w.src] ++ w.via) rfl (by simp; omega) (by simp only [maxLen, List.length_append, List.length_singleton]; omega) ?_
  repeat' (first | simp -implicitDefEqProofs only [go_sem, Nat.reduceEqDiff, Nat.reduceAdd, Nat.reduceMul, Nat.reduceLeDiff, Nat.reduceSub, Nat.reduceLT, Nat.reduceBEq, Int.reduceToNat, reduceCtorEq, ↓reduceIte, Int.reduceEq, Int.reduceNeg, Int.reduceLT, Int.reduceLE, Int.reduceAdd, Int.reduceSub, Int.reduceMul] | simp -implicitDefEqProofs (disch := omega) only [iaq_vec, iao_arr, iaq_raw, rd_map, wrap_id, binq_quo, binq_rem, binq_shl, binq_shr, tdiv_pos, tmod_pos, if_pos, exV_some, Option.map_some] | ((first | with_reducible apply exIf_dec | ((with_reducible apply exGd_dec); focus exact rfl) | ((with_reducible apply exGq_dec); focus exact rfl) | with_reducible apply exIf_intro | ((with_reducible apply exGd_intro); focus exact rfl) | ((with_reducible apply exGq_intro); focus exact rfl)) <;> intro _))
  exact fin_ h (by simp [sl, pts])
theorem come_c (nl : Bool) (l : List Int) (hl : l.length ≤ 140737488351232) (node n : Int) (n0 : 0 ≤ n) (n1 : n < l.length) (H : AHeap) : APure Try.prog 72 [sl nl l, iv node, iv n] H (.agg [iv node, iv (come l node n)]) := by
  intro Q h
  refine ACalls.of_code fn_opt_come ?_
  simp -implicitDefEqProofs only [sc_opt_come, sl, go_sem, Nat.reduceEqDiff, Nat.reduceAdd, Nat.reduceMul, Nat.reduceLeDiff, Nat.reduceSub, Nat.reduceLT, Nat.reduceBEq, Int.reduceToNat, reduceCtorEq, ↓reduceIte, Int.reduceEq, Int.reduceNeg, Int.reduceLT, Int.reduceLE, Int.reduceAdd, Int.reduceSub, Int.reduceMul]
  repeat' (first | simp -implicitDefEqProofs only [go_sem, Nat.reduceEqDiff, Nat.reduceAdd, Nat.reduceMul, Nat.reduceLeDiff, Nat.reduceSub, Nat.reduceLT, Nat.reduceBEq, Int.reduceToNat, reduceCtorEq, ↓reduceIte, Int.reduceEq, Int.reduceNeg, Int.reduceLT, Int.reduceLE, Int.reduceAdd, Int.reduceSub, Int.reduceMul] | simp -implicitDefEqProofs (disch := omega) only [iaq_vec, iao_arr, iaq_raw, rd_map, wrap_id, binq_quo, binq_rem, binq_shl, binq_shr, tdiv_pos, tmod_pos, if_pos, exV_some, Option.map_some] | ((first | with_reducible apply exIf_dec | ((with_reducible apply exGd_dec); focus exact rfl) | ((with_reducible apply exGq_dec); focus exact rfl) | with_reducible apply exIf_intro | ((with_reducible apply exGd_intro); focus exact rfl) | ((with_reducible apply exGq_intro); focus exact rfl)) <;> intro _))
  refine exL_mod (fun i : Int => [(2, .v (iv i))]) (fun _ => []) (fun i => 0 ≤ i ∧ i < l.length ∧ come l node n = come l node i) (fun i => (l.length - i).toNat) n rfl ⟨n0, n1, rfl⟩ ?_
  rintro i ⟨i0, i1, hi⟩ ih
  simp only [S.up, S.upH, ups, Abs.put, Nat.reduceEqDiff, ↓reduceIte, Nat.reduceAdd] at ih
  simp -implicitDefEqProofs only [congrArg KI.code sc_opt_come_L0.eq_1, go_sem, Nat.reduceEqDiff, Nat.reduceAdd, Nat.reduceMul, Nat.reduceLeDiff, Nat.reduceSub, Nat.reduceLT, Nat.reduceBEq, Int.reduceToNat, reduceCtorEq, ↓reduceIte, Int.reduceEq, Int.reduceNeg, Int.reduceLT, Int.reduceLE, Int.reduceAdd, Int.reduceSub, Int.reduceMul]
  by_cases hc : i + 1 < l.length ∧ gi l (i + 1) = node
  · have nxt := ih (i + 1) ⟨by omega, hc.1, by rw [hi, come_go i0 hc.1 hc.2]⟩ (by omega)
    repeat' (first | simp -implicitDefEqProofs only [go_sem, Nat.reduceEqDiff, Nat.reduceAdd, Nat.reduceMul, Nat.reduceLeDiff, Nat.reduceSub, Nat.reduceLT, Nat.reduceBEq, Int.reduceToNat, reduceCtorEq, ↓reduceIte, Int.reduceEq, Int.reduceNeg, Int.reduceLT, Int.reduceLE, Int.reduceAdd, Int.reduceSub, Int.reduceMul] | simp -implicitDefEqProofs (disch := omega) only [iaq_vec, iao_arr, iaq_raw, rd_map, wrap_id, binq_quo, binq_rem, binq_shl, binq_shr, tdiv_pos, tmod_pos, if_pos, exV_some, Option.map_some] | ((first | with_reducible apply exIf_dec | ((with_reducible apply exGd_dec); focus exact rfl) | ((with_reducible apply exGq_dec); focus exact rfl) | with_reducible apply exIf_intro | ((with_reducible apply exGd_intro); focus exact rfl) | ((with_reducible apply exGq_intro); focus exact rfl)) <;> intro _))
    all_goals first | exact nxt | (exfalso; omega)
  · have hs := come_stop i0 hc
    rw [hi, hs] at h
    repeat' (first | simp -implicitDefEqProofs only [go_sem, Nat.reduceEqDiff, Nat.reduceAdd, Nat.reduceMul, Nat.reduceLeDiff, Nat.reduceSub, Nat.reduceLT, Nat.reduceBEq, Int.reduceToNat, reduceCtorEq, ↓reduceIte, Int.reduceEq, Int.reduceNeg, Int.reduceLT, Int.reduceLE, Int.reduceAdd, Int.reduceSub, Int.reduceMul] | simp -implicitDefEqProofs (disch := omega) only [iaq_vec, iao_arr, iaq_raw, rd_map, wrap_id, binq_quo, binq_rem, binq_shl, binq_shr, tdiv_pos, tmod_pos, if_pos, exV_some, Option.map_some] | ((first | with_reducible apply exIf_dec | ((with_reducible apply exGd_dec); focus exact rfl) | ((with_reducible apply exGq_dec); focus exact rfl) | with_reducible apply exIf_intro | ((with_reducible apply exGd_intro); focus exact rfl) | ((with_reducible apply exGq_intro); focus exact rfl)) <;> intro _))
    all_goals first | exact h | (exfalso; omega)
theorem start_c (w : Want) (hw : w.ok) (H : AHeap) : APure Try.prog 43 [w.av] H (.agg [iv w.src, iv (come (pts w) w.src 0)]) := by
  have hp := points_c w hw
  have hl := pts_length w
  have hc := come_c false (pts w) (by have := hw.1; omega) w.src 0 (Int.le_refl _) (by omega)
  simp only [Want.av, sl] at hp hc
  intro Q h
  refine ACalls.of_code fn_opt_Start ?_
  simp -implicitDefEqProofs only [sc_opt_Start, Want.av, sl, go_sem, Nat.reduceEqDiff, Nat.reduceAdd, Nat.reduceMul, Nat.reduceLeDiff, Nat.reduceSub, Nat.reduceLT, Nat.reduceBEq, Int.reduceToNat, reduceCtorEq, ↓reduceIte, Int.reduceEq, Int.reduceNeg, Int.reduceLT, Int.reduceLE, Int.reduceAdd, Int.reduceSub, Int.reduceMul]
  repeat' (first | simp -implicitDefEqProofs only [go_sem, Nat.reduceEqDiff, Nat.reduceAdd, Nat.reduceMul, Nat.reduceLeDiff, Nat.reduceSub, Nat.reduceLT, Nat.reduceBEq, Int.reduceToNat, reduceCtorEq, ↓reduceIte, Int.reduceEq, Int.reduceNeg, Int.reduceLT, Int.reduceLE, Int.reduceAdd, Int.reduceSub, Int.reduceMul] | simp -implicitDefEqProofs (disch := omega) only [iaq_vec, iao_arr, iaq_raw, rd_map, wrap_id, binq_quo, binq_rem, binq_shl, binq_shr, tdiv_pos, tmod_pos, if_pos, exV_some, Option.map_some] | ((first | with_reducible apply exIf_dec | ((with_reducible apply exGd_dec); focus exact rfl) | ((with_reducible apply exGq_dec); focus exact rfl) | with_reducible apply exIf_intro | ((with_reducible apply exGd_intro); focus exact rfl) | ((with_reducible apply exGq_intro); focus exact rfl)) <;> intro _) | with_reducible refine exC_pure (hp _) ?_ | with_reducible refine exCq_pure (hp _) ?_ | with_reducible refine exC_pure (hc _) ?_ | with_reducible refine exCq_pure (hc _) ?_)
  exact h
theorem goal_c (w : Want) (hw : w.ok) (H : AHeap) : APure Try.prog 42 [w.av] H (.agg [iv w.dst, iv (w.via.length + 1)]) := by
  have hp := points_c w hw
  have hl := pts_length w
  have hw1 := hw.1
  simp only [Want.av, sl] at hp
  intro Q h
  refine ACalls.of_code fn_opt_Goal ?_
  simp -implicitDefEqProofs only [sc_opt_Goal, Want.av, sl, go_sem, Nat.reduceEqDiff, Nat.reduceAdd, Nat.reduceMul, Nat.reduceLeDiff, Nat.reduceSub, Nat.reduceLT, Nat.reduceBEq, Int.reduceToNat, reduceCtorEq, ↓reduceIte, Int.reduceEq, Int.reduceNeg, Int.reduceLT, Int.reduceLE, Int.reduceAdd, Int.reduceSub, Int.reduceMul]
  repeat' (first | simp -implicitDefEqProofs only [go_sem, Nat.reduceEqDiff, Nat.reduceAdd, Nat.reduceMul, Nat.reduceLeDiff, Nat.reduceSub, Nat.reduceLT, Nat.reduceBEq, Int.reduceToNat, reduceCtorEq, ↓reduceIte, Int.reduceEq, Int.reduceNeg, Int.reduceLT, Int.reduceLE, Int.reduceAdd, Int.reduceSub, Int.reduceMul] | simp -implicitDefEqProofs (disch := omega) only [iaq_vec, iao_arr, iaq_raw, rd_map, wrap_id, binq_quo, binq_rem, binq_shl, binq_shr, tdiv_pos, tmod_pos, if_pos, exV_some, Option.map_some] | ((first | with_reducible apply exIf_dec | ((with_reducible apply exGd_dec); focus exact rfl) | ((with_reducible apply exGq_dec); focus exact rfl) | with_reducible apply exIf_intro | ((with_reducible apply exGd_intro); focus exact rfl) | ((with_reducible apply exGq_intro); focus exact rfl)) <;> intro _) | with_reducible refine exC_pure (hp _) ?_ | with_reducible refine exCq_pure (hp _) ?_)
  rw [hl, show ((w.via.length + 2 : Nat) : Int) - 1 = w.via.length + 1 by omega]
  exact h
end Go.Proofs.Ytejmcijcdhoogaa
end

section
/- The package opt: New. -/
namespace Go.Proofs.Ytejmcijcdhoogaa
open Go Abs
attribute [local irreducible] EX exL exG exC exCq exS exV exIf exGd exGq
set_option maxHeartbeats 2000000

theorem leg_bound {g : Graph} {w : Want} (hw : WFit g w) (down : List Bool) {i : Int} (i0 : 0 ≤ i) (i1 : i ≤ w.via.length) : -1 ≤ leg g w down i ∧ leg g w down i ≤ 671088640 :=
  let p := hw.point i0 (show i ≤ w.via.length + 1 by omega)
  dist_bound hw.fit _ (hw.point (by omega) (by omega)) p.1 p.2
theorem legs_bound {g : Graph} {w : Want} (hw : WFit g w) (down : List Bool) : ∀ n : Nat, n ≤ w.via.length + 1 → noLeg g w down n = false → 0 ≤ legs g w down n ∧ legs g w down n ≤ 671088640 * n
  | 0, _, _ => by simp [legs]
  | n + 1, hn, h => by
    rw [noLeg_succ, Bool.or_eq_false_iff, decide_eq_false_iff_not] at h
    have h1 := legs_bound hw down n (by omega) h.1
    have h2 := leg_bound hw down (i := n) (by omega) (by omega)
    simp only [legs]
    omega
theorem tosR_length (g : Graph) (w : Want) (down : List Bool) (n : Nat) : (tosR g w down n).length = n := by simp [tosR]
theorem tosR_succ (g : Graph) (w : Want) (down : List Bool) {i : Int} (i0 : 0 ≤ i) : tosR g w down (i + 1).toNat = tosR g w down i.toNat ++ [dv (farOf g w down (i + 1))] := by
  simp only [tosR]
  rw [range_succ_map i0]
  simp only [Int.toNat_of_nonneg i0]
theorem noLeg_mono {g : Graph} {w : Want} {down : List Bool} {n m : Nat} (h : n ≤ m) (hn : noLeg g w down n = true) : noLeg g w down m = true := by
  simp only [noLeg, List.any_eq_true, List.mem_range] at hn ⊢
  obtain ⟨i, hi, hl⟩ := hn
  exact ⟨i, by omega, hl⟩

theorem onew_c (g : Graph) (w : Want) (nl : Bool) (down : List Bool) (hw : w.ok) (H : AHeap) : APure Try.prog 70 [g.av, w.av, blv nl down] H (.tup [waysAV g w down, iv (optErr g w down)]) := by
  intro Q h
  have rc := fun H => right_c g w hw H
  have pc := fun H => points_c w hw H
  have dc := fun H => down_c g w nl down hw H
  simp only [Graph.av, Want.av, blv, sl] at rc pc dc
  by_cases hr : rightErr g w = 0
  · have wf := wfit_of hr
    have hf := wf.fit
    have f1 := hf.n1
    have f2 := hf.n2
    have f3 := hf.few
    have f4 := wf.few
    have pl := pts_length w
    obtain ⟨gone, hgone⟩ : ∃ gone, gone = pruned g w down := ⟨_, rfl⟩
    have gl : gone.length = g.links.length := by rw [hgone]; simp [pruned]
    have tc := fun n H => to_c g false gone n H
    have tov : ∀ n : Int, 0 ≤ n → n < g.nodes → fromAV g gone n = dv (distL g gone n) := fun n n0 n1 => by rw [fromAV, if_pos ⟨hf.ok, n0, n1⟩]; rfl
    simp only [Graph.av, blv, gl] at tc
    have hdc : prunedAV g w down = .vec false (gone.map bv) g.links.length := by rw [prunedAV, if_pos hr, hgone]
    obtain ⟨m, hm⟩ : ∃ m, m = w.via.length + 1 := ⟨_, rfl⟩
    have dcl : gi (pts w) 0 = w.src := pts_zero w
    refine ACalls.relax (ACalls.mono (Q := fun r H1 =>
      (∀ b o, H b = some o → H1 b = some o) ∧ ((optErr g w down ≠ 0 ∧ r = .tup [.raw (.pointer none), iv (optErr g w down)]) ∨
        (optErr g w down = 0 ∧ ∃ bt tt sv ob, r = .tup [.raw (.pointer (some ⟨bt, 0, none⟩)), iv 0] ∧ H bt = none ∧ H1 bt = some (.cells [iv g.nodes, .vec g.nl (rows g.links) g.links.length, sl false (pts w), .vec false (gone.map bv) g.links.length, sv, iv (legs g w down m)] tt) ∧ RowAt H H1 bt 25 sv (tosR g w down m) ob))) ?_ ?_)
    · refine ACalls.of_code fn_opt_New ?_
      simp -implicitDefEqProofs only [sc_opt_New, Graph.av, Want.av, blv, sl, go_sem, Nat.reduceEqDiff, Nat.reduceAdd, Nat.reduceMul, Nat.reduceLeDiff, Nat.reduceSub, Nat.reduceLT, Nat.reduceBEq, Int.reduceToNat, reduceCtorEq, ↓reduceIte, Int.reduceEq, Int.reduceNeg, Int.reduceLT, Int.reduceLE, Int.reduceAdd, Int.reduceSub, Int.reduceMul]
      refine exC_pure (rc _) ?_
      rw [hr]
      repeat' (first | simp -implicitDefEqProofs only [go_sem, Nat.reduceEqDiff, Nat.reduceAdd, Nat.reduceMul, Nat.reduceLeDiff, Nat.reduceSub, Nat.reduceLT, Nat.reduceBEq, Int.reduceToNat, reduceCtorEq, ↓reduceIte, Int.reduceEq, Int.reduceNeg, Int.reduceLT, Int.reduceLE, Int.reduceAdd, Int.reduceSub, Int.reduceMul] | simp -implicitDefEqProofs (disch := omega) only [iaq_vec, iao_arr, iaq_raw, rd_map, wrap_id, binq_quo, binq_rem, binq_shl, binq_shr, tdiv_pos, tmod_pos, if_pos, exV_some, Option.map_some] | ((first | with_reducible apply exIf_dec | ((with_reducible apply exGd_dec); focus exact rfl) | ((with_reducible apply exGq_dec); focus exact rfl) | with_reducible apply exIf_intro | ((with_reducible apply exGd_intro); focus exact rfl) | ((with_reducible apply exGq_intro); focus exact rfl)) <;> intro _) | with_reducible refine exC_pure (pc _) ?_ | with_reducible refine exCq_pure (pc _) ?_ | with_reducible refine exC_pure (dc _) ?_ | with_reducible refine exCq_pure (dc _) ?_)
      rw [hdc]
      obtain ⟨q, hq⟩ : ∃ q, q = w.via ++ [w.dst] := ⟨_, rfl⟩
      have ql : q.length = m := by rw [hq, hm]; simp
      have qg : ∀ i : Int, 0 ≤ i → i < m → gi q i = gi (pts w) (i + 1) := by
        intro i i0 i1
        rw [gi_get (by omega), gi_get (by rw [pl]; omega)]
        simp only [hq, pts, show (i + 1).toNat = i.toNat + 1 by omega, List.getElem_cons_succ]
      have e33 : ((((pts w).length : Nat) : Int).toNat - 1) = m := by rw [pl]; omega
      have e34 : List.take (m * 1) (List.drop 1 ((pts w).map iv)) = q.map iv := by
        rw [pts, ← hq, List.map_cons, List.drop_succ_cons, List.drop_zero, List.take_of_length_le (by simp; omega)]
      have pl' : (pts w).length = m + 1 := by omega
      repeat' (first | simp -implicitDefEqProofs only [go_sem, Nat.reduceEqDiff, Nat.reduceAdd, Nat.reduceMul, Nat.reduceLeDiff, Nat.reduceSub, Nat.reduceLT, Nat.reduceBEq, Int.reduceToNat, reduceCtorEq, ↓reduceIte, Int.reduceEq, Int.reduceNeg, Int.reduceLT, Int.reduceLE, Int.reduceAdd, Int.reduceSub, Int.reduceMul] | simp -implicitDefEqProofs (disch := omega) only [e33, e34, iaq_vec, iao_arr, iaq_raw, rd_map, wrap_id, binq_quo, binq_rem, binq_shl, binq_shr, tdiv_pos, tmod_pos, if_pos, exV_some, Option.map_some] | ((first | with_reducible apply exIf_dec | ((with_reducible apply exGd_dec); focus exact rfl) | ((with_reducible apply exGq_dec); focus exact rfl) | with_reducible apply exIf_intro | ((with_reducible apply exGd_intro); focus exact rfl) | ((with_reducible apply exGq_intro); focus exact rfl)) <;> intro _))
      intro bt hbt
      refine exL_modH (fun a : Int × AHeap => [(35, .v (iv a.1))]) (fun _ => []) (fun a => a.2)
        (fun a => 0 ≤ a.1 ∧ a.1 ≤ m ∧ noLeg g w down a.1.toNat = false ∧ (∀ b o, H b = some o → a.2 b = some o) ∧ ∃ sv ob, a.2 bt = some (.cells [iv g.nodes, .vec g.nl (rows g.links) g.links.length, .vec false ((pts w).map iv) (pts w).length, .vec false (gone.map bv) g.links.length, sv, iv (legs g w down a.1.toNat)] 152) ∧ RowAt H a.2 bt 25 sv (tosR g w down a.1.toNat) ob)
        (fun a => (m - a.1).toNat) (0, _) rfl ⟨by simp, by simp, rfl, upd_base hbt, _, none, upd_self _ _ _, .inl ⟨rfl, rfl, rfl⟩⟩ ?_
      rintro ⟨i, H'⟩ ⟨i0, i1, hnl, hbase, sv, ob, hat, hrow⟩ ih
      dsimp only at i0 i1 hnl hbase hat hrow ih
      simp only [S.up, S.upH, ups, Abs.put, Nat.reduceEqDiff, ↓reduceIte, Nat.reduceAdd] at ih
      simp -implicitDefEqProofs only [congrArg KI.code sc_opt_New_L0.eq_1, go_sem, Nat.reduceEqDiff, Nat.reduceAdd, Nat.reduceMul, Nat.reduceLeDiff, Nat.reduceSub, Nat.reduceLT, Nat.reduceBEq, Int.reduceToNat, reduceCtorEq, ↓reduceIte, Int.reduceEq, Int.reduceNeg, Int.reduceLT, Int.reduceLE, Int.reduceAdd, Int.reduceSub, Int.reduceMul]
      by_cases hi : i < m
      · obtain ⟨p, hp⟩ : ∃ p, p = gi (pts w) (i + 1) := ⟨_, rfl⟩
        obtain ⟨p0, p1⟩ := wf.point (i := i + 1) (by omega) (by omega)
        obtain ⟨a0, a1⟩ := wf.point (i := i) (by omega) (by omega)
        have tci := tc p H'
        rw [tov p (by omega) (by omega)] at tci
        have hd := (distL_spec hf gone (s := p) (by omega)).1
        have hlg : leg g w down i = gi (distL g gone p) (gi (pts w) i) := by rw [leg, hp, hgone]
        have hfar : farOf g w down (i + 1) = distL g gone p := by rw [farOf, hp, hgone]
        have hdl := hd.len
        repeat' (first | simp -implicitDefEqProofs only [go_sem, Nat.reduceEqDiff, Nat.reduceAdd, Nat.reduceMul, Nat.reduceLeDiff, Nat.reduceSub, Nat.reduceLT, Nat.reduceBEq, Int.reduceToNat, reduceCtorEq, ↓reduceIte, Int.reduceEq, Int.reduceNeg, Int.reduceLT, Int.reduceLE, Int.reduceAdd, Int.reduceSub, Int.reduceMul] | simp -implicitDefEqProofs (disch := omega) only [hat, qg, ← hp, dv, rd_map, iaq_vec, iao_arr, iaq_raw, rd_map, wrap_id, binq_quo, binq_rem, binq_shl, binq_shr, tdiv_pos, tmod_pos, if_pos, exV_some, Option.map_some] | ((first | with_reducible apply exIf_dec | ((with_reducible apply exGd_dec); focus exact rfl) | ((with_reducible apply exGq_dec); focus exact rfl) | with_reducible apply exIf_intro | ((with_reducible apply exGd_intro); focus exact rfl) | ((with_reducible apply exGq_intro); focus exact rfl)) <;> intro _) | with_reducible refine exC_pure (tci) ?_ | with_reducible refine exCq_pure (tci) ?_)
        all_goals first | (exfalso; omega) | skip
        · refine ⟨hbase, .inl ?_⟩
          have : optErr g w down = 8 := by
            rw [optErr, if_neg (by simpa using hr), if_pos]
            refine noLeg_mono (n := (i + 1).toNat) (by omega) ?_
            rw [show (i + 1).toNat = i.toNat + 1 by omega, noLeg_succ, Int.toNat_of_nonneg i0, hlg, decide_eq_true (by omega), Bool.or_true]
          rw [this]
          exact ⟨by omega, rfl⟩
        · have hlR := tosR_length g w down i.toNat
          obtain ⟨cap2, hp2⟩ := hrow.pre
          rw [hp2]
          have hl2 : (tosR g w down i.toNat).length + 1 ≤ maxLen := by rw [hlR]; simp only [maxLen]; omega
          have hl2' : ((tosR g w down i.toNat).length + 1) * 24 ≤ 140737488355328 := by rw [hlR]; omega
          refine hapK_pos rfl hl2' hl2 (by omega) ?_
          intro b2 cap hb2 hcap
          simp only [S.newhd]
          have hbtn : H' bt ≠ none := by rw [hat]; simp
          obtain ⟨H1, hH1⟩ : ∃ H1, H1 = upd (delH H' ob) b2 (some (.row (tosR g w down i.toNat ++ [dv (distL g gone p)]) cap 25 1)) := ⟨_, rfl⟩
          obtain ⟨r2, base1, keep1⟩ := row_step hrow hbase hbtn hb2 hcap (dv (distL g gone p)) hH1
          obtain ⟨h1bt, nebt⟩ := keep1 bt _ hat (fun hh => (hrow.some_of hh).1 rfl)
          rw [show upd (delH H' ob) b2 (some (.row (tosR g w down i.toNat ++ [.vec false ((distL g gone p).map iv) (distL g gone p).length]) cap 25 1)) = H1 from hH1.symm]
          have lb1 := legs_bound wf down i.toNat (by omega) hnl
          have lb2 := leg_bound wf down i0 (by omega)
          rw [hlg] at lb2
          clear hH1 keep1 hb2 hp2
          repeat' (first | simp -implicitDefEqProofs only [go_sem, Nat.reduceEqDiff, Nat.reduceAdd, Nat.reduceMul, Nat.reduceLeDiff, Nat.reduceSub, Nat.reduceLT, Nat.reduceBEq, Int.reduceToNat, reduceCtorEq, ↓reduceIte, Int.reduceEq, Int.reduceNeg, Int.reduceLT, Int.reduceLE, Int.reduceAdd, Int.reduceSub, Int.reduceMul] | simp -implicitDefEqProofs (disch := omega) only [h1bt, hlR, upd_self, iaq_vec, iao_arr, iaq_raw, rd_map, wrap_id, binq_quo, binq_rem, binq_shl, binq_shr, tdiv_pos, tmod_pos, if_pos, exV_some, Option.map_some] | ((first | with_reducible apply exIf_dec | ((with_reducible apply exGd_dec); focus exact rfl) | ((with_reducible apply exGq_dec); focus exact rfl) | with_reducible apply exIf_intro | ((with_reducible apply exGd_intro); focus exact rfl) | ((with_reducible apply exGq_intro); focus exact rfl)) <;> intro _))
          all_goals first | (exfalso; omega) | skip
          rw [hlR] at r2
          refine ih (i + 1, upd (upd H1 bt (some (.cells [iv g.nodes, .vec g.nl (rows g.links) g.links.length, .vec false ((pts w).map iv) (pts w).length, .vec false (gone.map bv) g.links.length, .raw (.slice (some ⟨b2, 0, none⟩) (i.toNat + 1) cap), iv (legs g w down i.toNat)] 152))) bt (some (.cells [iv g.nodes, .vec g.nl (rows g.links) g.links.length, .vec false ((pts w).map iv) (pts w).length, .vec false (gone.map bv) g.links.length, .raw (.slice (some ⟨b2, 0, none⟩) (i.toNat + 1) cap), iv (legs g w down i.toNat + gi (distL g gone p) (gi (pts w) i))] 152))) ⟨by dsimp only; omega, by dsimp only; omega, ?_, ?_, .raw (.slice (some ⟨b2, 0, none⟩) (i.toNat + 1) cap), some b2, ?_, ?_⟩ (by dsimp only; omega)
          all_goals dsimp only
          · rw [show (i + 1).toNat = i.toNat + 1 by omega, noLeg_succ, hnl, Int.toNat_of_nonneg i0, hlg, decide_eq_false (by omega)]; rfl
          · intro b o ho
            rw [upd_upd, upd_ne _ _ (by rintro rfl; rw [hbt] at ho; cases ho)]
            exact base1 b o ho
          · rw [upd_self, show (i + 1).toNat = i.toNat + 1 by omega, legs, Int.toNat_of_nonneg i0, hlg]
          · rw [tosR_succ g w down i0, hfar]
            refine RowAt.keep (H' := H1) r2 fun b hb => ?_
            injection hb with hb
            subst hb
            rw [upd_upd]
            exact upd_ne _ _ (Ne.symm (r2.some_of rfl).1)
      · obtain rfl : i = m := by omega
        rw [Int.toNat_natCast] at hat hrow hnl
        have lb1 := legs_bound wf down m (by omega) hnl
        have e0 : optErr g w down = if 0 < w.bound ∧ w.bound < legs g w down m then 8 else 0 := by
          rw [optErr, if_neg (by simpa using hr), if_neg (by rw [← hm, hnl]; simp), hm]
        repeat' (first | simp -implicitDefEqProofs only [go_sem, Nat.reduceEqDiff, Nat.reduceAdd, Nat.reduceMul, Nat.reduceLeDiff, Nat.reduceSub, Nat.reduceLT, Nat.reduceBEq, Int.reduceToNat, reduceCtorEq, ↓reduceIte, Int.reduceEq, Int.reduceNeg, Int.reduceLT, Int.reduceLE, Int.reduceAdd, Int.reduceSub, Int.reduceMul] | simp -implicitDefEqProofs (disch := omega) only [hat, iaq_vec, iao_arr, iaq_raw, rd_map, wrap_id, binq_quo, binq_rem, binq_shl, binq_shr, tdiv_pos, tmod_pos, if_pos, exV_some, Option.map_some] | ((first | with_reducible apply exIf_dec | ((with_reducible apply exGd_dec); focus exact rfl) | ((with_reducible apply exGq_dec); focus exact rfl) | with_reducible apply exIf_intro | ((with_reducible apply exGd_intro); focus exact rfl) | ((with_reducible apply exGq_intro); focus exact rfl)) <;> intro _))
        all_goals first | (exfalso; omega) | skip
        · rw [if_pos ⟨by assumption, by assumption⟩] at e0
          exact ⟨hbase, .inl ⟨by omega, by rw [e0]⟩⟩
        · rw [if_neg (by omega)] at e0
          exact ⟨hbase, .inr ⟨e0, bt, _, sv, ob, rfl, hbt, hat, hrow⟩⟩
        · rw [if_neg (by omega)] at e0
          exact ⟨hbase, .inr ⟨e0, bt, _, sv, ob, rfl, hbt, hat, hrow⟩⟩
    · rintro r H1 ⟨hbase, ⟨he, rfl⟩ | ⟨he, bt, tt, sv, ob, rfl, hbt, hat, hrow⟩⟩
      · refine ⟨fun _ => False, H, _, hbase, by simp, Fz.refl _ _ _, ?_⟩
        rw [waysAV, if_neg he] at h
        exact h
      · have l2 := tosR_length g w down m
        have n2' : tosR g w down m ≠ [] := fun e => by rw [e] at l2; simp at l2; omega
        obtain ⟨b2, c2, rfl, rfl, e2, m2, k2, u2⟩ : ∃ b cap, ob = some b ∧ sv = .raw (.slice (some ⟨b, 0, none⟩) (tosR g w down m).length cap) ∧ H1 b = some (.row (tosR g w down m) cap 25 1) ∧ b ≠ bt ∧ H b = none ∧ (tosR g w down m).length ≤ cap := by
          rcases hrow with ⟨_, h2, _⟩ | h2
          · exact absurd h2 n2'
          · exact h2
        rw [waysAV, if_pos he, he] at h
        refine ⟨fun b => b = bt ∨ b = b2, H, .tup [ways g w down, iv 0], hbase, ?_, ?_, h⟩
        · rintro b (rfl | rfl)
          · exact ⟨by rw [hat]; simp, hbt⟩
          · exact ⟨by rw [e2]; simp, k2⟩
        · refine Fz.tup (.cons (Fz.ptr (.inl rfl) hat ?_) (FzL.refl _ _ _))
          rw [l2] at *
          rw [waysCells, ← hm, ← hgone]
          refine .cons (Fz.refl _ _ _) (.cons (Fz.refl _ _ _) (.cons (Fz.refl _ _ _) (.cons (Fz.refl _ _ _) (.cons ?_ (.cons (Fz.refl _ _ _) .nil)))))
          exact Fz.slice (.inr rfl) e2 u2 (Nat.le_refl _) (fun j u hj => by rw [Nat.zero_add]; exact hj) (fun _ => n2') (FzL.refl _ _ _)
  · refine ACalls.of_code fn_opt_New ?_
    simp -implicitDefEqProofs only [sc_opt_New, Graph.av, Want.av, blv, sl, go_sem, Nat.reduceEqDiff, Nat.reduceAdd, Nat.reduceMul, Nat.reduceLeDiff, Nat.reduceSub, Nat.reduceLT, Nat.reduceBEq, Int.reduceToNat, reduceCtorEq, ↓reduceIte, Int.reduceEq, Int.reduceNeg, Int.reduceLT, Int.reduceLE, Int.reduceAdd, Int.reduceSub, Int.reduceMul]
    refine exC_pure (rc _) ?_
    repeat' (first | simp -implicitDefEqProofs only [go_sem, Nat.reduceEqDiff, Nat.reduceAdd, Nat.reduceMul, Nat.reduceLeDiff, Nat.reduceSub, Nat.reduceLT, Nat.reduceBEq, Int.reduceToNat, reduceCtorEq, ↓reduceIte, Int.reduceEq, Int.reduceNeg, Int.reduceLT, Int.reduceLE, Int.reduceAdd, Int.reduceSub, Int.reduceMul] | simp -implicitDefEqProofs (disch := omega) only [iaq_vec, iao_arr, iaq_raw, rd_map, wrap_id, binq_quo, binq_rem, binq_shl, binq_shr, tdiv_pos, tmod_pos, if_pos, exV_some, Option.map_some] | ((first | with_reducible apply exIf_dec | ((with_reducible apply exGd_dec); focus exact rfl) | ((with_reducible apply exGq_dec); focus exact rfl) | with_reducible apply exIf_intro | ((with_reducible apply exGd_intro); focus exact rfl) | ((with_reducible apply exGq_intro); focus exact rfl)) <;> intro _))
    all_goals first | contradiction | skip
    have e : optErr g w down = rightErr g w := by rw [optErr, if_pos hr]
    rw [waysAV, if_neg (by rw [e]; exact hr), e] at h
    exact h
end Go.Proofs.Ytejmcijcdhoogaa
end

section
/- The package opt: states, and what a walk of edges is. -/
namespace Go.Proofs.Ytejmcijcdhoogaa
open Go Abs
attribute [local irreducible] EX exL exG exC exCq exS exV exIf exGd exGq
set_option maxHeartbeats 2000000

/-- the state behind an edge; none: it leads off all best ways -/
def stepOk (g : Graph) (w : Want) (down : List Bool) (node n e : Int) : Prop :=
  optErr g w down = 0 ∧ (0 ≤ n ∧ n < w.via.length + 1) ∧ (0 ≤ node ∧ node < g.nodes) ∧ gi (pts w) (n + 1) ≠ node ∧ (ends g e).2.2 = true ∧ (ends g e).1 = node ∧ upE (pruned g w down) e = true ∧
    0 ≤ gi (farOf g w down (n + 1)) (ends g e).2.1 ∧ gi (farOf g w down (n + 1)) node = gi (farOf g w down (n + 1)) (ends g e).2.1 + wt g e
noncomputable instance (g : Graph) (w : Want) (down : List Bool) (node n e : Int) : Decidable (stepOk g w down node n e) := Classical.propDecidable _
noncomputable def stepW (g : Graph) (w : Want) (down : List Bool) (at_ : Int × Int) (e : Int) : Option (Int × Int) :=
  if stepOk g w down at_.1 at_.2 e then some ((ends g e).2.1, come (pts w) (ends g e).2.1 at_.2) else none
def stateAV (a : Int × Int) : AV := .agg [iv a.1, iv a.2]
def stepAV : Option (Int × Int) → AV
  | some a => .tup [stateAV a, bv true]
  | none => .tup [.agg [iv 0, iv 0], bv false]
theorem rd_tos {g : Graph} {w : Want} {down : List Bool} {m : Nat} {n : Int} (h0 : 0 ≤ n) (h1 : n < m) : rdV (tosR g w down m) (n.toNat * 1) 1 false = some (.vec false ((farOf g w down (n + 1)).map iv) (farOf g w down (n + 1)).length) := by
  rw [tosR, rd_range h0 h1, Int.toNat_of_nonneg h0]; rfl
theorem ends_ok {g : Graph} {e : Int} (h : (ends g e).2.2 = true) : 0 ≤ e ∧ e < 2 * g.links.length := by
  unfold ends at h
  split at h
  · cases h
  · omega
theorem optErr_right {g : Graph} {w : Want} {down : List Bool} (h : optErr g w down = 0) : rightErr g w = 0 := by
  unfold optErr at h
  split at h
  · exact absurd h ‹_›
  · omega
theorem wstep_c (g : Graph) (w : Want) (down : List Bool) (node n e : Int) (he : -9223372036854775808 ≤ e ∧ e ≤ 9223372036854775807) (H : AHeap) :
    APure Try.prog 92 [waysAV g w down, .agg [iv node, iv n], iv e] H (stepAV (stepW g w down (node, n) e)) := by
  intro Q h
  refine ACalls.of_code fn_opt_Ways_Step ?_
  by_cases h0 : optErr g w down = 0
  · have wf := wfit_of (optErr_right h0)
    have hf := wf.fit
    have f1 := hf.n1
    have f2 := hf.n2
    have f3 := hf.few
    have f4 := wf.few
    have pl := pts_length w
    have hno : ¬ stepOk g w down node n e → Q (.tup [.agg [iv 0, iv 0], bv false]) H := fun hn => by rw [stepW, if_neg hn] at h; exact h
    have hyes : stepOk g w down node n e → Q (.tup [.agg [iv (ends g e).2.1, iv (come (pts w) (ends g e).2.1 n)], bv true]) H := fun hn => by rw [stepW, if_pos hn] at h; exact h
    clear h
    rw [waysAV, if_pos h0, ways, waysCells]
    have ic := is_c g
    have ec := ends_c g e he
    simp only [Graph.av, triIIB] at ic ec
    simp -implicitDefEqProofs only [sc_opt_Ways_Step, sl, go_sem, Nat.reduceEqDiff, Nat.reduceAdd, Nat.reduceMul, Nat.reduceLeDiff, Nat.reduceSub, Nat.reduceLT, Nat.reduceBEq, Int.reduceToNat, reduceCtorEq, ↓reduceIte, Int.reduceEq, Int.reduceNeg, Int.reduceLT, Int.reduceLE, Int.reduceAdd, Int.reduceSub, Int.reduceMul]
    repeat' (first | simp -implicitDefEqProofs only [go_sem, Nat.reduceEqDiff, Nat.reduceAdd, Nat.reduceMul, Nat.reduceLeDiff, Nat.reduceSub, Nat.reduceLT, Nat.reduceBEq, Int.reduceToNat, reduceCtorEq, ↓reduceIte, Int.reduceEq, Int.reduceNeg, Int.reduceLT, Int.reduceLE, Int.reduceAdd, Int.reduceSub, Int.reduceMul] | simp -implicitDefEqProofs (disch := omega) only [rd_tos, iaq_vec, iao_arr, iaq_raw, rd_map, wrap_id, binq_quo, binq_rem, binq_shl, binq_shr, tdiv_pos, tmod_pos, if_pos, exV_some, Option.map_some] | ((first | with_reducible apply exIf_dec | ((with_reducible apply exGd_dec); focus exact rfl) | ((with_reducible apply exGq_dec); focus exact rfl) | with_reducible apply exIf_intro | ((with_reducible apply exGd_intro); focus exact rfl) | ((with_reducible apply exGq_intro); focus exact rfl)) <;> intro _) | with_reducible refine exC_pure (ic _ _) ?_ | with_reducible refine exCq_pure (ic _ _) ?_)
    all_goals first | (exfalso; omega) | skip
    rotate_left
    rotate_left
    rotate_left
    rotate_left
    · have hnode : 0 ≤ node ∧ node < g.nodes := by omega
      have hn : 0 ≤ n ∧ n < w.via.length + 1 := by omega
      have hd := (distL_spec hf (pruned g w down) (wf.point (i := n + 1) (by omega) (by omega))).1
      have hfl : ((farOf g w down (n + 1)).length : Int) = g.nodes := hd.len
      have hcm := come_c false (pts w) (by omega)
      refine exC_pure (ec _) ?_
      cases hok : (ends g e).2.2 with
      | false =>
        repeat' (first | simp -implicitDefEqProofs only [go_sem, Nat.reduceEqDiff, Nat.reduceAdd, Nat.reduceMul, Nat.reduceLeDiff, Nat.reduceSub, Nat.reduceLT, Nat.reduceBEq, Int.reduceToNat, reduceCtorEq, ↓reduceIte, Int.reduceEq, Int.reduceNeg, Int.reduceLT, Int.reduceLE, Int.reduceAdd, Int.reduceSub, Int.reduceMul] | simp -implicitDefEqProofs (disch := omega) only [rd_tos, iaq_vec, iao_arr, iaq_raw, rd_map, wrap_id, binq_quo, binq_rem, binq_shl, binq_shr, tdiv_pos, tmod_pos, if_pos, exV_some, Option.map_some] | ((first | with_reducible apply exIf_dec | ((with_reducible apply exGd_dec); focus exact rfl) | ((with_reducible apply exGq_dec); focus exact rfl) | with_reducible apply exIf_intro | ((with_reducible apply exGd_intro); focus exact rfl) | ((with_reducible apply exGq_intro); focus exact rfl)) <;> intro _))
        all_goals first | (exact hno fun hs => by have h5 := hs.2.2.2.2.1; rw [hok] at h5; cases h5) | (exfalso; omega)
      | true =>
        obtain ⟨e0, e1⟩ := ends_ok hok
        have hb := hf.b e e0 e1
        have hwt := hf.w e e0 e1
        have gb := dist_bound hf (pruned g w down) (wf.point (i := n + 1) (by omega) (by omega)) hb.2.1 hb.2.2
        have upc := up_c false (pruned g w down) e e0 (by omega)
        have hpl : (pruned g w down).length = g.links.length := by simp [pruned]
        have cm := hcm (ends g e).2.1 n hn.1 (by omega)
        simp only [blv, hpl] at upc
        simp only [sl] at cm
        simp only [farOf] at hfl
        unfold wt at hwt
        repeat' (first | simp -implicitDefEqProofs only [go_sem, Nat.reduceEqDiff, Nat.reduceAdd, Nat.reduceMul, Nat.reduceLeDiff, Nat.reduceSub, Nat.reduceLT, Nat.reduceBEq, Int.reduceToNat, reduceCtorEq, ↓reduceIte, Int.reduceEq, Int.reduceNeg, Int.reduceLT, Int.reduceLE, Int.reduceAdd, Int.reduceSub, Int.reduceMul] | simp -implicitDefEqProofs (disch := omega) only [rd_tos, rd_link2, farOf, rd_map, iaq_vec, iao_arr, iaq_raw, rd_map, wrap_id, binq_quo, binq_rem, binq_shl, binq_shr, tdiv_pos, tmod_pos, if_pos, exV_some, Option.map_some] | ((first | with_reducible apply exIf_dec | ((with_reducible apply exGd_dec); focus exact rfl) | ((with_reducible apply exGq_dec); focus exact rfl) | with_reducible apply exIf_intro | ((with_reducible apply exGd_intro); focus exact rfl) | ((with_reducible apply exGq_intro); focus exact rfl)) <;> intro _) | with_reducible refine exC_pure (upc _) ?_ | with_reducible refine exCq_pure (upc _) ?_ | with_reducible refine exC_pure (cm _) ?_ | with_reducible refine exCq_pure (cm _) ?_)
        all_goals rename_i hlast
        · exact hno fun hs => hlast hs.2.2.2.2.2.1
        · exact hno fun hs => by have h6 := hs.2.2.2.2.2.2.1; rw [h6] at hlast; cases hlast
        · refine hno fun hs => ?_
          have h6 := hs.2.2.2.2.2.2.2.1
          rw [farOf] at h6
          omega
        · exact hno fun hs => hlast hs.2.2.2.2.2.2.2.2
        · rename_i hup hlt
          rw [Bool.not_eq_false'] at hup
          refine hyes ⟨h0, hn, hnode, by assumption, hok, by omega, hup, ?_, by rw [farOf, wt]; omega⟩
          rw [farOf]
          omega
    all_goals
      refine hno fun hs => ?_
      obtain ⟨_, a1, a2, a3, _⟩ := hs
      first | omega | contradiction
  · have e : stepW g w down (node, n) e = none := by rw [stepW, if_neg fun hs => h0 hs.1]
    rw [e] at h
    rw [waysAV, if_neg h0]
    simp -implicitDefEqProofs only [sc_opt_Ways_Step, go_sem, Nat.reduceEqDiff, Nat.reduceAdd, Nat.reduceMul, Nat.reduceLeDiff, Nat.reduceSub, Nat.reduceLT, Nat.reduceBEq, Int.reduceToNat, reduceCtorEq, ↓reduceIte, Int.reduceEq, Int.reduceNeg, Int.reduceLT, Int.reduceLE, Int.reduceAdd, Int.reduceSub, Int.reduceMul]
    repeat' (first | simp -implicitDefEqProofs only [go_sem, Nat.reduceEqDiff, Nat.reduceAdd, Nat.reduceMul, Nat.reduceLeDiff, Nat.reduceSub, Nat.reduceLT, Nat.reduceBEq, Int.reduceToNat, reduceCtorEq, ↓reduceIte, Int.reduceEq, Int.reduceNeg, Int.reduceLT, Int.reduceLE, Int.reduceAdd, Int.reduceSub, Int.reduceMul] | simp -implicitDefEqProofs (disch := omega) only [iaq_vec, iao_arr, iaq_raw, rd_map, wrap_id, binq_quo, binq_rem, binq_shl, binq_shr, tdiv_pos, tmod_pos, if_pos, exV_some, Option.map_some] | ((first | with_reducible apply exIf_dec | ((with_reducible apply exGd_dec); focus exact rfl) | ((with_reducible apply exGq_dec); focus exact rfl) | with_reducible apply exIf_intro | ((with_reducible apply exGd_intro); focus exact rfl) | ((with_reducible apply exGq_intro); focus exact rfl)) <;> intro _))
    exact h
end Go.Proofs.Ytejmcijcdhoogaa
end

section
/- The document's own answers of chapter 15: points, states, costs. -/
namespace Go.Proofs.Ytejmcijcdhoogaa
open Go Abs
attribute [local irreducible] EX exL exG exC exCq exS exV exIf exGd exGq
set_option maxHeartbeats 2000000

end Go.Proofs.Ytejmcijcdhoogaa
end

section
/- The document's own Cost of a want. -/
namespace Go.Proofs.Ytejmcijcdhoogaa
open Go Abs
attribute [local irreducible] EX exL exG exC exCq exS exV exIf exGd exGq
set_option maxHeartbeats 2000000

end Go.Proofs.Ytejmcijcdhoogaa
end

section
/- The document's own answers of chapter 15: what is kept of a want, and the state behind an edge. -/
namespace Go.Proofs.Ytejmcijcdhoogaa
open Go Abs
attribute [local irreducible] EX exL exG exC exCq exS exV exIf exGd exGq
set_option maxHeartbeats 2000000

end Go.Proofs.Ytejmcijcdhoogaa
end

section
/- The state behind an edge, as the document has it; walks of edges, both. -/
namespace Go.Proofs.Ytejmcijcdhoogaa
open Go Abs
attribute [local irreducible] EX exL exG exC exCq exS exV exIf exGd exGq
set_option maxHeartbeats 2000000

/-! ### walks of edges -/
noncomputable def runW (g : Graph) (w : Want) (down : List Bool) : Int × Int → List Int → Option (Int × Int)
  | a, [] => some a
  | a, e :: r => match stepW g w down a e with
    | some b => runW g w down b r
    | none => none
def startW (w : Want) : Int × Int := (w.src, come (pts w) w.src 0)
def goalW (w : Want) : Int × Int := (w.dst, w.via.length + 1)
def HasW (g : Graph) (w : Want) (down : List Bool) (es : List Int) : Prop := optErr g w down = 0 ∧ runW g w down (startW w) es = some (goalW w)
noncomputable instance (g : Graph) (w : Want) (down : List Bool) (es : List Int) : Decidable (HasW g w down es) := Classical.propDecidable _
end Go.Proofs.Ytejmcijcdhoogaa
end

section
/- The law OptTells of chapter 15, as a contract. -/
namespace Go.Proofs.Ytejmcijcdhoogaa
open Go Abs
attribute [local irreducible] EX exL exG exC exCq exS exV exIf exGd exGq
set_option maxHeartbeats 2000000

def w1_ : Want := ⟨0, 1, 0, true, [], true, [], true, [], true, []⟩
theorem far2 : farOf g2_ w1_ [] 1 = [7, 0] := by
  have hf : Fit g2_ := fit_of _ (by decide)
  have := distL_congr hf (d1 := pruned g2_ w1_ []) (d2 := []) (s := 1) (by decide) (fun e e0 e1 => by
    have e1' : e < 2 := e1
    have : e / 2 = 0 := by omega
    unfold upE
    rw [this]
    rfl)
  rw [← dist2.2, ← this]
  rfl
end Go.Proofs.Ytejmcijcdhoogaa
end

section
/- Where a segment to a node leads, in plain Lean: all shortest ways of the tables, and the state in which they end. -/
namespace Go.Proofs.Ytejmcijcdhoogaa
open Go Abs
attribute [local irreducible] EX exL exG exC exCq exS exV exIf exGd exGq
set_option maxHeartbeats 1000000

abbrev St := Int × Int
/-- the one of a list, if all are one -/
def joinO : List (Option St) → Option St
  | [] => none
  | x :: r => if r.all (fun y => decide (y = x)) = true then x else none
theorem joinO_some {l : List (Option St)} {e : St} : joinO l = some e ↔ l ≠ [] ∧ ∀ x ∈ l, x = some e := by
  cases l with
  | nil => simp [joinO]
  | cons x r =>
    rw [show joinO (x :: r) = if r.all (fun y => decide (y = x)) = true then x else none from rfl]
    constructor
    · intro h
      split at h
      · rename_i hr
        refine ⟨by simp, fun y hy => ?_⟩
        rcases List.mem_cons.1 hy with rfl | hy
        · exact h
        · have := List.all_eq_true.1 hr y hy
          rw [decide_eq_true_eq] at this
          rw [this, h]
      · cases h
    · rintro ⟨-, h⟩
      have hx := h x (by simp)
      rw [if_pos, hx]
      rw [List.all_eq_true]
      intro y hy
      rw [decide_eq_true_eq, h y (by simp [hy]), hx]
section
variable (g : Graph) (w : Want) (down : List Bool) (to : Int)
/-- the state in which all shortest ways to a node end -/
noncomputable def esF : Nat → St → Option St
  | 0, _ => none
  | f + 1, a => if a.1 = to then some a else joinO ((nxtOf g a.1 to).map fun e => (stepW g w down a e).bind (esF f))
noncomputable def endN (a : St) : Option St := esF g w down to ((distOf g a.1 to).toNat + 1) a
/-- the states that are come to on the way -/
inductive Rch (a : St) : St → Prop
  | refl : Rch a a
  | step {b c : St} {e : Int} : Rch a b → b.1 ≠ to → e ∈ nxtOf g b.1 to → stepW g w down b e = some c → Rch a c
end
theorem stepW_some {g : Graph} {w : Want} {down : List Bool} {a b : St} {e : Int} (h : stepW g w down a e = some b) : stepOk g w down a.1 a.2 e ∧ b = ((ends g e).2.1, come (pts w) (ends g e).2.1 a.2) := by
  unfold stepW at h
  split at h
  · rename_i hs
    simp only [Option.some.injEq] at h
    exact ⟨hs, h.symm⟩
  · cases h
section
variable {g : Graph} {w : Want} {down : List Bool} {to : Int}
theorem nxt_dist (hf : Fit g) {a : Int} {e : Int} (h : e ∈ nxtOf g a to) : (distOf g (ends g e).2.1 to).toNat < (distOf g a to).toNat := by
  obtain ⟨e0, e1, -, -, h5, h6⟩ := nxt_mem hf h
  have := hf.w e e0 e1
  omega
theorem step_dist (hf : Fit g) {a b : St} {e : Int} (h : e ∈ nxtOf g a.1 to) (hs : stepW g w down a e = some b) : (distOf g b.1 to).toNat < (distOf g a.1 to).toNat := by
  rw [(stepW_some hs).2]
  exact nxt_dist hf h
theorem esF_same (hf : Fit g) : ∀ (f f' : Nat) (a : St), (distOf g a.1 to).toNat < f → (distOf g a.1 to).toNat < f' → esF g w down to f a = esF g w down to f' a
  | 0, _, _, h, _ => by omega
  | _ + 1, 0, _, _, h => by omega
  | f + 1, f' + 1, a, h, h' => by
    unfold esF
    split
    · rfl
    · congr 1
      refine List.map_congr_left fun e he => ?_
      cases hs : stepW g w down a e with
      | none => rfl
      | some b =>
        have := step_dist hf he hs
        exact esF_same hf f f' b (by omega) (by omega)
theorem endN_eq (hf : Fit g) (a : St) : endN g w down to a = if a.1 = to then some a else joinO ((nxtOf g a.1 to).map fun e => (stepW g w down a e).bind (endN g w down to)) := by
  rw [endN, esF]
  split
  · rfl
  · congr 1
    refine List.map_congr_left fun e he => ?_
    cases hs : stepW g w down a e with
    | none => rfl
    | some b =>
      have := step_dist hf he hs
      exact esF_same hf _ _ b (by omega) (by omega)
theorem endN_next (hf : Fit g) {a : St} (ha : a.1 ≠ to) {r : St} (h : endN g w down to a = some r) : nxtOf g a.1 to ≠ [] ∧ ∀ e ∈ nxtOf g a.1 to, ∃ b, stepW g w down a e = some b ∧ endN g w down to b = some r := by
  rw [endN_eq hf, if_neg ha, joinO_some] at h
  refine ⟨fun hn => h.1 (by rw [hn]; rfl), fun e he => ?_⟩
  have := h.2 _ (List.mem_map.2 ⟨e, he, rfl⟩)
  cases hs : stepW g w down a e with
  | none => rw [hs] at this; cases this
  | some b => rw [hs] at this; exact ⟨b, rfl, this⟩
theorem endN_rch (hf : Fit g) {a : St} {r : St} (h : endN g w down to a = some r) {b : St} (hb : Rch g w down to a b) : endN g w down to b = some r := by
  induction hb with
  | refl => exact h
  | step _ hne he hs ih =>
    obtain ⟨c, h1, h2⟩ := (endN_next hf hne ih).2 _ he
    rw [hs] at h1
    injection h1 with h1
    rw [h1]
    exact h2
theorem endN_self (hf : Fit g) {a : St} (h : a.1 = to) : endN g w down to a = some a := by rw [endN_eq hf, if_pos h]
/-- whatever is come to at the node is the one -/
theorem endN_one (hf : Fit g) {a : St} {r : St} (h : endN g w down to a = some r) {b : St} (hb : Rch g w down to a b) (hb1 : b.1 = to) : b = r := by
  have := endN_rch hf h hb
  rw [endN_self hf hb1] at this
  injection this
/-- the other way around -/
theorem endN_of (hf : Fit g) {a : St} {r : St} (hstep : ∀ b, Rch g w down to a b → b.1 ≠ to → nxtOf g b.1 to ≠ [] ∧ ∀ e ∈ nxtOf g b.1 to, ∃ c, stepW g w down b e = some c) (hone : ∀ b, Rch g w down to a b → b.1 = to → b = r) : endN g w down to a = some r := by
  have : ∀ n b, (distOf g b.1 to).toNat = n → Rch g w down to a b → endN g w down to b = some r := by
    intro n
    induction n using Nat.strongRecOn with
    | _ n ih =>
      intro b hn hb
      by_cases h1 : b.1 = to
      · rw [endN_self hf h1, hone b hb h1]
      · obtain ⟨h2, h3⟩ := hstep b hb h1
        rw [endN_eq hf, if_neg h1, joinO_some]
        refine ⟨by simpa using h2, fun x hx => ?_⟩
        obtain ⟨e, he, rfl⟩ := List.mem_map.1 hx
        obtain ⟨c, hc⟩ := h3 e he
        rw [hc]
        have := step_dist hf he hc
        exact ih _ (by omega) c rfl (.step hb h1 he hc)
  exact this _ a rfl .refl
/-- it ends at the node -/
theorem endN_at (hf : Fit g) : ∀ {a : St} {r : St}, endN g w down to a = some r → r.1 = to := by
  have : ∀ n a r, (distOf g a.1 to).toNat = n → endN g w down to a = some r → r.1 = to := by
    intro n
    induction n using Nat.strongRecOn with
    | _ n ih =>
      intro a r hn h
      by_cases h1 : a.1 = to
      · rw [endN_self hf h1] at h
        injection h with h
        rw [← h]; exact h1
      · obtain ⟨h2, h3⟩ := endN_next hf h1 h
        cases hl : nxtOf g a.1 to with
        | nil => exact absurd hl h2
        | cons e l =>
          have he : e ∈ nxtOf g a.1 to := by rw [hl]; simp
          obtain ⟨b, hb, hr⟩ := h3 e he
          have := step_dist hf he hb
          exact ih _ (by omega) b r rfl hr
  exact fun {a r} h => this _ a r rfl h
end
end Go.Proofs.Ytejmcijcdhoogaa
end

section
/- The map of a want; how all states of a node go on by one edge. -/
namespace Go.Proofs.Ytejmcijcdhoogaa
open Go Abs
attribute [local irreducible] EX exL exG exC exCq exS exV exIf exGd exGq
set_option maxHeartbeats 4000000

noncomputable def mapAV (g : Graph) (w : Want) (down : List Bool) : AV := .box [tab g, iv g.nodes, .vec g.nl (rows g.links) g.links.length, waysAV g w down] 0
/-- which of the six states of a node there are -/
structure R6 where
  f : Int → Bool
instance : Inhabited R6 := ⟨⟨fun _ => false⟩⟩
instance : Enc R6 where
  sz := 6
  cells r := [bv (r.f 0), bv (r.f 1), bv (r.f 2), bv (r.f 3), bv (r.f 4), bv (r.f 5)]
  len _ := rfl
  pos := by decide
theorem R6.cells_eq (r : R6) : Enc.cells r = [bv (r.f 0), bv (r.f 1), bv (r.f 2), bv (r.f 3), bv (r.f 4), bv (r.f 5)] := rfl
theorem R6.sz_eq : Enc.sz R6 = 6 := rfl
theorem rd_r6 {l : List R6} {i : Int} (h0 : 0 ≤ i) (h1 : i < l.length) : rdV (rows l) (i.toNat * 6) 6 true = some (.agg (Enc.cells (gi l i))) := rd_row (n := 6) R6.sz_eq.symm h0 h1
theorem r6_get (r : R6) {i : Int} (h0 : 0 ≤ i) (h1 : i < 6) {n : Nat} : rdV (Enc.cells r) (i.toNat * 1) n false = some (bv (r.f i)) := by
  have : i = 0 ∨ i = 1 ∨ i = 2 ∨ i = 3 ∨ i = 4 ∨ i = 5 := by omega
  rcases this with rfl | rfl | rfl | rfl | rfl | rfl <;> rfl
def R6.mark (r : R6) (k : Int) : R6 := ⟨fun j => decide (j = k) || r.f j⟩
def markL (l : List R6) (c : St) : List R6 := l.set c.1.toNat ((gi l c.1).mark c.2)
theorem markL_length (l : List R6) (c : St) : (markL l c).length = l.length := by simp [markL]
theorem mark_cells (r : R6) {k : Int} (h0 : 0 ≤ k) (h1 : k < 6) : Enc.cells (r.mark k) = (Enc.cells r).set k.toNat (bv true) := by
  have : k = 0 ∨ k = 1 ∨ k = 2 ∨ k = 3 ∨ k = 4 ∨ k = 5 := by omega
  rcases this with rfl | rfl | rfl | rfl | rfl | rfl <;> simp [R6.cells_eq, R6.mark]
theorem rows_set1 {α : Type} [Enc α] [Inhabited α] {l : List α} {i : Nat} (hi : i < l.length) {j : Nat} (hj : j < Enc.sz α) {c : AV} {x : α} (hc : Enc.cells x = (Enc.cells (gi l (i : Int))).set j c) : (rows l).set (i * Enc.sz α + j) c = rows (l.set i x) := by
  rw [rows_set _ _ _ hi, hc]
  have hl : i * Enc.sz α + Enc.sz α ≤ (rows l).length := by
    rw [rows_length]
    have := Nat.mul_le_mul_right (Enc.sz α) (show i + 1 ≤ l.length by omega)
    rw [Nat.add_mul] at this
    omega
  have hat := rows_at l i hi
  have hg : l[i] = gi l (i : Int) := by rw [gi_get (by omega)]; rfl
  rw [hg] at hat
  have hcl : (Enc.cells (gi l (i : Int))).length = Enc.sz α := Enc.len _
  apply List.ext_getElem?
  intro k
  have hA : (List.take (i * Enc.sz α) (rows l)).length = i * Enc.sz α := by rw [List.length_take]; omega
  have hB : (List.take (i * Enc.sz α) (rows l) ++ (Enc.cells (gi l (i : Int))).set j c).length = i * Enc.sz α + Enc.sz α := by rw [List.length_append, hA, List.length_set, hcl]
  by_cases hk : k < i * Enc.sz α
  · rw [List.getElem?_append_left (by omega), List.getElem?_append_left (by omega), List.getElem?_take, if_pos hk, List.getElem?_set_ne (by omega)]
  by_cases hk2 : k < i * Enc.sz α + Enc.sz α
  · rw [List.getElem?_append_left (by omega), List.getElem?_append_right (by omega), hA]
    by_cases e : k = i * Enc.sz α + j
    · subst e
      rw [show i * Enc.sz α + j - i * Enc.sz α = j by omega, List.getElem?_set_self (by omega), List.getElem?_set_self (by omega)]
    · rw [List.getElem?_set_ne (by omega), List.getElem?_set_ne (by omega), ← hat, List.getElem?_take, if_pos (by omega), List.getElem?_drop, show i * Enc.sz α + (k - i * Enc.sz α) = k by omega]
  · rw [List.getElem?_set_ne (by omega), List.getElem?_append_right (by omega), hB, List.getElem?_drop, show i * Enc.sz α + Enc.sz α + (k - (i * Enc.sz α + Enc.sz α)) = k by omega]
theorem set_r6 {l : List R6} {a k : Int} (h0 : 0 ≤ a) (h1 : a < l.length) (k0 : 0 ≤ k) (k1 : k < 6) : (rows l).set (a.toNat * 6 + k.toNat * 1) (.raw (.bool true)) = rows (markL l (a, k)) := by
  have := rows_set1 (l := l) (i := a.toNat) (by omega) (j := k.toNat) (by rw [R6.sz_eq]; omega) (c := bv true) (x := (gi l a).mark k) (by rw [Int.toNat_of_nonneg h0]; exact mark_cells _ k0 k1)
  rw [R6.sz_eq] at this
  rw [Nat.mul_one]
  exact this
/-- the last state that there is, and how many there are -/
def lastB (r : R6) : Nat → Int
  | 0 => 0
  | i + 1 => if r.f (i : Int) = true then (i : Int) else lastB r i
def cntB (r : R6) : Nat → Int
  | 0 => 0
  | i + 1 => if r.f (i : Int) = true then cntB r i + 1 else cntB r i
theorem cntB_le (r : R6) : ∀ i : Nat, 0 ≤ cntB r i ∧ cntB r i ≤ i
  | 0 => by simp [cntB]
  | i + 1 => by
    have := cntB_le r i
    unfold cntB
    split <;> omega
theorem only_c (r : R6) (H : AHeap) : APure Try.prog 108 [.agg (Enc.cells r)] H (.tup [iv (lastB r 6), bv (decide (cntB r 6 = 1))]) := by
  intro Q h
  refine ACalls.of_code fn_expand_states_only ?_
  have hcl : (Enc.cells r).length = 6 := Enc.len _
  simp -implicitDefEqProofs only [sc_expand_states_only, R6.cells_eq, go_sem, Nat.reduceEqDiff, Nat.reduceAdd, Nat.reduceMul, Nat.reduceLeDiff, Nat.reduceSub, Nat.reduceLT, Nat.reduceBEq, Int.reduceToNat, reduceCtorEq, ↓reduceIte, Int.reduceEq, Int.reduceNeg, Int.reduceLT, Int.reduceLE, Int.reduceAdd, Int.reduceSub, Int.reduceMul]
  repeat' (first | simp -implicitDefEqProofs only [go_sem, Nat.reduceEqDiff, Nat.reduceAdd, Nat.reduceMul, Nat.reduceLeDiff, Nat.reduceSub, Nat.reduceLT, Nat.reduceBEq, Int.reduceToNat, reduceCtorEq, ↓reduceIte, Int.reduceEq, Int.reduceNeg, Int.reduceLT, Int.reduceLE, Int.reduceAdd, Int.reduceSub, Int.reduceMul] | simp -implicitDefEqProofs (disch := omega) only [iaq_vec, iao_arr, iaq_raw, rd_map, wrap_id, binq_quo, binq_rem, binq_shl, binq_shr, tdiv_pos, tmod_pos, if_pos, exV_some, Option.map_some] | ((first | with_reducible apply exIf_dec | ((with_reducible apply exGd_dec); focus exact rfl) | ((with_reducible apply exGq_dec); focus exact rfl) | with_reducible apply exIf_intro | ((with_reducible apply exGd_intro); focus exact rfl) | ((with_reducible apply exGq_intro); focus exact rfl)) <;> intro _))
  rw [← R6.cells_eq]
  refine exL_mod (fun i : Int => [(4, .v (iv (lastB r i.toNat))), (5, .v (iv (cntB r i.toNat))), (9, .v (iv i))]) (fun _ => []) (fun i => 0 ≤ i ∧ i ≤ 6) (fun i => (6 - i).toNat) 0 rfl ⟨by omega, by omega⟩ ?_
  rintro i ⟨i0, i1⟩ ih
  simp only [S.up, S.upH, ups, Abs.put, Nat.reduceEqDiff, ↓reduceIte, Nat.reduceAdd] at ih
  simp -implicitDefEqProofs only [congrArg KI.code sc_expand_states_only_L0.eq_1, go_sem, Nat.reduceEqDiff, Nat.reduceAdd, Nat.reduceMul, Nat.reduceLeDiff, Nat.reduceSub, Nat.reduceLT, Nat.reduceBEq, Int.reduceToNat, reduceCtorEq, ↓reduceIte, Int.reduceEq, Int.reduceNeg, Int.reduceLT, Int.reduceLE, Int.reduceAdd, Int.reduceSub, Int.reduceMul]
  by_cases hi : i < 6
  · have nx := ih (i + 1) ⟨by omega, by omega⟩ (by omega)
    rw [show (i + 1).toNat = i.toNat + 1 by omega, lastB, cntB, Int.toNat_of_nonneg i0] at nx
    have hc := cntB_le r i.toNat
    have hg := fun n => r6_get r i0 hi (n := n)
    clear ih
    cases hb : r.f i with
    | true =>
      rw [hb, if_pos rfl, if_pos rfl] at nx
      repeat' (first | simp -implicitDefEqProofs only [go_sem, Nat.reduceEqDiff, Nat.reduceAdd, Nat.reduceMul, Nat.reduceLeDiff, Nat.reduceSub, Nat.reduceLT, Nat.reduceBEq, Int.reduceToNat, reduceCtorEq, ↓reduceIte, Int.reduceEq, Int.reduceNeg, Int.reduceLT, Int.reduceLE, Int.reduceAdd, Int.reduceSub, Int.reduceMul] | simp -implicitDefEqProofs (disch := omega) only [hg, hb, iaq_vec, iao_arr, iaq_raw, rd_map, wrap_id, binq_quo, binq_rem, binq_shl, binq_shr, tdiv_pos, tmod_pos, if_pos, exV_some, Option.map_some] | ((first | with_reducible apply exIf_dec | ((with_reducible apply exGd_dec); focus exact rfl) | ((with_reducible apply exGq_dec); focus exact rfl) | with_reducible apply exIf_intro | ((with_reducible apply exGd_intro); focus exact rfl) | ((with_reducible apply exGq_intro); focus exact rfl)) <;> intro _))
      all_goals first | exact nx | (exfalso; omega) | skip
      done
    | false =>
      rw [hb, if_neg (by simp), if_neg (by simp)] at nx
      repeat' (first | simp -implicitDefEqProofs only [go_sem, Nat.reduceEqDiff, Nat.reduceAdd, Nat.reduceMul, Nat.reduceLeDiff, Nat.reduceSub, Nat.reduceLT, Nat.reduceBEq, Int.reduceToNat, reduceCtorEq, ↓reduceIte, Int.reduceEq, Int.reduceNeg, Int.reduceLT, Int.reduceLE, Int.reduceAdd, Int.reduceSub, Int.reduceMul] | simp -implicitDefEqProofs (disch := omega) only [hg, hb, iaq_vec, iao_arr, iaq_raw, rd_map, wrap_id, binq_quo, binq_rem, binq_shl, binq_shr, tdiv_pos, tmod_pos, if_pos, exV_some, Option.map_some] | ((first | with_reducible apply exIf_dec | ((with_reducible apply exGd_dec); focus exact rfl) | ((with_reducible apply exGq_dec); focus exact rfl) | with_reducible apply exIf_intro | ((with_reducible apply exGd_intro); focus exact rfl) | ((with_reducible apply exGq_intro); focus exact rfl)) <;> intro _))
      all_goals first | exact nx | (exfalso; omega) | skip
      done
  · obtain rfl : i = 6 := by omega
    clear ih
    repeat' (first | simp -implicitDefEqProofs only [go_sem, Nat.reduceEqDiff, Nat.reduceAdd, Nat.reduceMul, Nat.reduceLeDiff, Nat.reduceSub, Nat.reduceLT, Nat.reduceBEq, Int.reduceToNat, reduceCtorEq, ↓reduceIte, Int.reduceEq, Int.reduceNeg, Int.reduceLT, Int.reduceLE, Int.reduceAdd, Int.reduceSub, Int.reduceMul] | simp -implicitDefEqProofs (disch := omega) only [iaq_vec, iao_arr, iaq_raw, rd_map, wrap_id, binq_quo, binq_rem, binq_shl, binq_shr, tdiv_pos, tmod_pos, if_pos, exV_some, Option.map_some] | ((first | with_reducible apply exIf_dec | ((with_reducible apply exGd_dec); focus exact rfl) | ((with_reducible apply exGq_dec); focus exact rfl) | with_reducible apply exIf_intro | ((with_reducible apply exGd_intro); focus exact rfl) | ((with_reducible apply exGq_intro); focus exact rfl)) <;> intro _))
    all_goals first | exact h | (exfalso; omega) | skip
    done
end Go.Proofs.Ytejmcijcdhoogaa
end

section
/- How all states of a node go on by one edge. -/
namespace Go.Proofs.Ytejmcijcdhoogaa
open Go Abs
attribute [local irreducible] EX exL exG exC exCq exS exV exIf exGd exGq
set_option maxHeartbeats 4000000

/-- the states of a node, up to some number, go on by an edge; none: one of them can't -/
noncomputable def onL (g : Graph) (w : Want) (down : List Bool) (l : List R6) (node e : Int) : Nat → Option (List R6)
  | 0 => some l
  | k + 1 => match onL g w down l node e k with
    | none => none
    | some l' => if (gi l node).f (k : Int) = true then (stepW g w down (node, (k : Int)) e).map (markL l') else some l'
theorem onL_length {g : Graph} {w : Want} {down : List Bool} {l : List R6} {node e : Int} : ∀ {k : Nat} {l' : List R6}, onL g w down l node e k = some l' → l'.length = l.length
  | 0, l', h => by simp only [onL, Option.some.injEq] at h; rw [h]
  | k + 1, l', h => by
    unfold onL at h
    split at h
    · cases h
    · rename_i l'' hl
      have ih := onL_length hl
      split at h
      · obtain ⟨c, hc, rfl⟩ := Option.map_eq_some_iff.1 h
        rw [markL_length, ih]
      · simp only [Option.some.injEq] at h
        rw [← h, ih]
theorem onL_none {g : Graph} {w : Want} {down : List Bool} {l : List R6} {node e : Int} {k : Nat} (h : onL g w down l node e k = none) : ∀ {n : Nat}, k ≤ n → onL g w down l node e n = none
  | 0, hn => by
    obtain rfl : k = 0 := by omega
    exact h
  | n + 1, hn => by
    by_cases e : k = n + 1
    · rw [← e]; exact h
    · unfold onL
      rw [onL_none h (n := n) (by omega)]
theorem stepW_range {g : Graph} {w : Want} {down : List Bool} (wf : WFit g w) {a c : St} {e : Int} (h : stepW g w down a e = some c) : (0 ≤ c.1 ∧ c.1 < g.nodes) ∧ 0 ≤ c.2 ∧ c.2 < 6 := by
  obtain ⟨hs, rfl⟩ := stepW_some h
  obtain ⟨-, hn, -, -, hok, -⟩ := hs
  obtain ⟨e0, e1⟩ := ends_ok hok
  have hb := (wf.fit.b e e0 e1).2
  have hl := pts_length w
  have hc := come_le (l := pts w) (node := (ends g e).2.1) hn.1 (by omega)
  have := wf.few
  exact ⟨hb, by dsimp only; omega, by dsimp only; omega⟩
theorem updH_same {H : AHeap} {b : Nat} {o : HObj} (h : H b = some o) : upd H b (some o) = H := by
  funext z
  simp only [upd]
  split
  · rename_i e; subst e; exact h.symm
  · rfl
theorem updH_upd {H : AHeap} {b : Nat} {x y : Option HObj} : upd (upd H b x) b y = upd H b y := by
  funext z
  simp only [upd]
  split <;> rfl
abbrev r6obj (l : List R6) (cap : Nat) : HObj := .row (rows l) cap 165 6
theorem on_c (g : Graph) (w : Want) (down : List Bool) (h0 : optErr g w down = 0) (l : List R6) (hl : (l.length : Int) = g.nodes) (b n cap : Nat) (hn : n = l.length) (cap' : Nat) (node e : Int) (hnode : 0 ≤ node ∧ node < g.nodes) (he : -9223372036854775808 ≤ e ∧ e ≤ 9223372036854775807) (H : AHeap) (hH : H b = some (r6obj l cap')) :
    ACalls Try.prog 107 [mapAV g w down, .raw (.slice (some ⟨b, 0, none⟩) n cap), iv node, iv e] H fun r H' => ∃ l', l'.length = l.length ∧ H' = upd H b (some (r6obj l' cap')) ∧ ((r = bv false ∧ onL g w down l node e 6 = none) ∨ (r = bv true ∧ onL g w down l node e 6 = some l')) := by
  subst hn
  have wf := wfit_of (optErr_right h0)
  refine ACalls.of_code fn_expand_Map_on ?_
  simp -implicitDefEqProofs only [sc_expand_Map_on, mapAV, go_sem, Nat.reduceEqDiff, Nat.reduceAdd, Nat.reduceMul, Nat.reduceLeDiff, Nat.reduceSub, Nat.reduceLT, Nat.reduceBEq, Int.reduceToNat, reduceCtorEq, ↓reduceIte, Int.reduceEq, Int.reduceNeg, Int.reduceLT, Int.reduceLE, Int.reduceAdd, Int.reduceSub, Int.reduceMul]
  repeat' (first | simp -implicitDefEqProofs only [go_sem, Nat.reduceEqDiff, Nat.reduceAdd, Nat.reduceMul, Nat.reduceLeDiff, Nat.reduceSub, Nat.reduceLT, Nat.reduceBEq, Int.reduceToNat, reduceCtorEq, ↓reduceIte, Int.reduceEq, Int.reduceNeg, Int.reduceLT, Int.reduceLE, Int.reduceAdd, Int.reduceSub, Int.reduceMul] | simp -implicitDefEqProofs (disch := omega) only [hH, rd_r6, iaq_vec, iao_arr, iaq_raw, rd_map, wrap_id, binq_quo, binq_rem, binq_shl, binq_shr, tdiv_pos, tmod_pos, if_pos, exV_some, Option.map_some] | ((first | with_reducible apply exIf_dec | ((with_reducible apply exGd_dec); focus exact rfl) | ((with_reducible apply exGq_dec); focus exact rfl) | with_reducible apply exIf_intro | ((with_reducible apply exGd_intro); focus exact rfl) | ((with_reducible apply exGq_intro); focus exact rfl)) <;> intro _))
  all_goals first | (exfalso; omega) | skip
  refine exL_modH (fun a : Int × List R6 => [(17, .v (iv a.1))]) (fun _ => []) (fun a => upd H b (some (r6obj a.2 cap'))) (fun a => 0 ≤ a.1 ∧ a.1 ≤ 6 ∧ onL g w down l node e a.1.toNat = some a.2) (fun a => (6 - a.1).toNat) (0, l) (by rw [updH_same hH]; rfl) ⟨by simp, by simp, rfl⟩ ?_
  rintro ⟨k, l'⟩ ⟨k0, k1, hk⟩ ih
  dsimp only at k0 k1 hk ih
  simp only [S.up, S.upH, ups, Abs.put, Nat.reduceEqDiff, ↓reduceIte, Nat.reduceAdd] at ih
  simp -implicitDefEqProofs only [congrArg KI.code sc_expand_Map_on_L0.eq_1, go_sem, Nat.reduceEqDiff, Nat.reduceAdd, Nat.reduceMul, Nat.reduceLeDiff, Nat.reduceSub, Nat.reduceLT, Nat.reduceBEq, Int.reduceToNat, reduceCtorEq, ↓reduceIte, Int.reduceEq, Int.reduceNeg, Int.reduceLT, Int.reduceLE, Int.reduceAdd, Int.reduceSub, Int.reduceMul]
  have hll := onL_length hk
  by_cases hlt : k < 6
  · have hst := wstep_c g w down node k e he
    have hg := fun n => r6_get (gi l node) k0 hlt (n := n)
    have hon : onL g w down l node e (k + 1).toNat = if (gi l node).f k = true then (stepW g w down (node, k) e).map (markL l') else some l' := by
      rw [show (k + 1).toNat = k.toNat + 1 by omega, onL, hk]
      simp only [Int.toNat_of_nonneg k0]
    cases hb : (gi l node).f k with
    | false =>
      rw [hb, if_neg (by simp)] at hon
      have nx := ih (k + 1, l') ⟨by dsimp only; omega, by dsimp only; omega, hon⟩ (by dsimp only; omega)
      clear ih
      repeat' (first | simp -implicitDefEqProofs only [go_sem, Nat.reduceEqDiff, Nat.reduceAdd, Nat.reduceMul, Nat.reduceLeDiff, Nat.reduceSub, Nat.reduceLT, Nat.reduceBEq, Int.reduceToNat, reduceCtorEq, ↓reduceIte, Int.reduceEq, Int.reduceNeg, Int.reduceLT, Int.reduceLE, Int.reduceAdd, Int.reduceSub, Int.reduceMul] | simp -implicitDefEqProofs (disch := omega) only [hg, hb, iaq_vec, iao_arr, iaq_raw, rd_map, wrap_id, binq_quo, binq_rem, binq_shl, binq_shr, tdiv_pos, tmod_pos, if_pos, exV_some, Option.map_some] | ((first | with_reducible apply exIf_dec | ((with_reducible apply exGd_dec); focus exact rfl) | ((with_reducible apply exGq_dec); focus exact rfl) | with_reducible apply exIf_intro | ((with_reducible apply exGd_intro); focus exact rfl) | ((with_reducible apply exGq_intro); focus exact rfl)) <;> intro _))
      all_goals first | exact nx | (exfalso; omega) | skip
      done
    | true =>
      rw [hb, if_pos rfl] at hon
      cases hs : stepW g w down (node, k) e with
      | none =>
        rw [hs] at hon hst
        have hnone := onL_none (n := 6) hon (by omega)
        clear ih
        simp only [stepAV] at hst
        repeat' (first | simp -implicitDefEqProofs only [go_sem, Nat.reduceEqDiff, Nat.reduceAdd, Nat.reduceMul, Nat.reduceLeDiff, Nat.reduceSub, Nat.reduceLT, Nat.reduceBEq, Int.reduceToNat, reduceCtorEq, ↓reduceIte, Int.reduceEq, Int.reduceNeg, Int.reduceLT, Int.reduceLE, Int.reduceAdd, Int.reduceSub, Int.reduceMul] | simp -implicitDefEqProofs (disch := omega) only [hg, hb, iaq_vec, iao_arr, iaq_raw, rd_map, wrap_id, binq_quo, binq_rem, binq_shl, binq_shr, tdiv_pos, tmod_pos, if_pos, exV_some, Option.map_some] | ((first | with_reducible apply exIf_dec | ((with_reducible apply exGd_dec); focus exact rfl) | ((with_reducible apply exGq_dec); focus exact rfl) | with_reducible apply exIf_intro | ((with_reducible apply exGd_intro); focus exact rfl) | ((with_reducible apply exGq_intro); focus exact rfl)) <;> intro _) | with_reducible refine exC_pure (hst _) ?_ | with_reducible refine exCq_pure (hst _) ?_)
        all_goals first | exact ⟨l', hll, rfl, .inl hnone⟩ | (exfalso; omega) | skip
        done
      | some c =>
        rw [hs] at hon hst
        obtain ⟨c1, c2, c3⟩ := stepW_range wf hs
        have hset := set_r6 (l := l') (a := c.1) (k := c.2) c1.1 (by omega) c2 c3
        have nx := ih (k + 1, markL l' c) ⟨by dsimp only; omega, by dsimp only; omega, hon⟩ (by dsimp only; omega)
        clear ih
        simp only [stepAV, stateAV] at hst
        have hlen : (rows l').length = l'.length * 6 := by rw [rows_length, R6.sz_eq]
        repeat' (first | simp -implicitDefEqProofs only [go_sem, Nat.reduceEqDiff, Nat.reduceAdd, Nat.reduceMul, Nat.reduceLeDiff, Nat.reduceSub, Nat.reduceLT, Nat.reduceBEq, Int.reduceToNat, reduceCtorEq, ↓reduceIte, Int.reduceEq, Int.reduceNeg, Int.reduceLT, Int.reduceLE, Int.reduceAdd, Int.reduceSub, Int.reduceMul] | simp -implicitDefEqProofs (disch := omega) only [hg, hb, hlen, upd_self, updH_upd, hset, iaq_vec, iao_arr, iaq_raw, rd_map, wrap_id, binq_quo, binq_rem, binq_shl, binq_shr, tdiv_pos, tmod_pos, if_pos, exV_some, Option.map_some] | ((first | with_reducible apply exIf_dec | ((with_reducible apply exGd_dec); focus exact rfl) | ((with_reducible apply exGq_dec); focus exact rfl) | with_reducible apply exIf_intro | ((with_reducible apply exGd_intro); focus exact rfl) | ((with_reducible apply exGq_intro); focus exact rfl)) <;> intro _) | with_reducible refine exC_pure (hst _) ?_ | with_reducible refine exCq_pure (hst _) ?_)
        all_goals first | exact nx | (exfalso; omega) | skip
        done
  · obtain rfl : k = 6 := by omega
    clear ih
    repeat' (first | simp -implicitDefEqProofs only [go_sem, Nat.reduceEqDiff, Nat.reduceAdd, Nat.reduceMul, Nat.reduceLeDiff, Nat.reduceSub, Nat.reduceLT, Nat.reduceBEq, Int.reduceToNat, reduceCtorEq, ↓reduceIte, Int.reduceEq, Int.reduceNeg, Int.reduceLT, Int.reduceLE, Int.reduceAdd, Int.reduceSub, Int.reduceMul] | simp -implicitDefEqProofs (disch := omega) only [iaq_vec, iao_arr, iaq_raw, rd_map, wrap_id, binq_quo, binq_rem, binq_shl, binq_shr, tdiv_pos, tmod_pos, if_pos, exV_some, Option.map_some] | ((first | with_reducible apply exIf_dec | ((with_reducible apply exGd_dec); focus exact rfl) | ((with_reducible apply exGq_dec); focus exact rfl) | with_reducible apply exIf_intro | ((with_reducible apply exGd_intro); focus exact rfl) | ((with_reducible apply exGq_intro); focus exact rfl)) <;> intro _))
    all_goals first | exact ⟨l', hll, rfl, .inr hk⟩ | (exfalso; omega) | skip
    done
end Go.Proofs.Ytejmcijcdhoogaa
end

section
/- The nodes that shortest ways to a node pass, those that are farther ahead. -/
namespace Go.Proofs.Ytejmcijcdhoogaa
open Go Abs
attribute [local irreducible] EX exL exG exC exCq exS exV exIf exGd exGq
set_option maxHeartbeats 4000000

theorem nxt_near {g : Graph} {a b e : Int} (hf : Fit g) (h : e ∈ nxtOf g a b) : (0 ≤ (ends g e).2.1 ∧ (ends g e).2.1 < g.nodes) ∧ 0 ≤ distOf g (ends g e).2.1 b := by
  unfold nxtOf at h
  split at h
  · rename_i hab
    unfold nextL at h
    split at h
    · obtain ⟨h1, h2⟩ := List.mem_filter.1 h
      obtain ⟨e0, e1, e2⟩ := (out_mem g e a).1 h1
      have hb := (hf.b e e0 e1).2
      unfold onB at h2
      simp only [Bool.and_eq_true, decide_eq_true_eq] at h2
      refine ⟨hb, ?_⟩
      rw [distOf, if_pos ⟨hb, hab.2⟩]
      exact h2.2.1
    · cases h
  · cases h
/-- nodes that are passed: what is so of them -/
structure Pass (g : Graph) (src to : Int) (W : List Int) : Prop where
  src : src ∈ W
  node : ∀ n ∈ W, (0 ≤ n ∧ n < g.nodes) ∧ 0 ≤ distOf g n to
  nodup : W.Nodup
structure OrdW (g : Graph) (src to : Int) (W : List Int) : Prop where
  pass : Pass g src to W
  shut : ∀ n ∈ W, ∀ e ∈ nxtOf g n to, (ends g e).2.1 ∈ W
  desc : W.Pairwise fun a b => distOf g b to ≤ distOf g a to
def seenOk (W : List Int) (s : List Bool) : Prop := ∀ v : Int, 0 ≤ v → v < s.length → gi s v = decide (v ∈ W)
theorem seenOk_set {W : List Int} {s : List Bool} (h : seenOk W s) {x : Int} (x0 : 0 ≤ x) (x1 : x < s.length) : seenOk (W ++ [x]) (s.set x.toNat true) := by
  intro v v0 v1
  rw [List.length_set] at v1
  rw [gi_set x0 x1 v0]
  by_cases e : v = x
  · rw [if_pos e, e]; simp
  · rw [if_neg e, h v v0 v1]; simp [e]
theorem pass_length {g : Graph} {src to : Int} {W : List Int} (h : Pass g src to W) : (W.length : Int) ≤ g.nodes := by
  have hn : 0 ≤ g.nodes := by have := (h.node _ h.src).1; omega
  have hsub : W ⊆ (List.range g.nodes.toNat).map (fun k : Nat => (k : Int)) := by
    intro x hx
    have := (h.node x hx).1
    exact List.mem_map.2 ⟨x.toNat, List.mem_range.2 (by omega), by omega⟩
  have := List.Nodup.length_le_of_subset h.nodup hsub
  simp at this
  omega
theorem set_two {P T : List Int} {x y : Int} {k : Int} (hk : k = P.length + 1) : ((P ++ y :: x :: T).set k.toNat y).set (k - 1).toNat x = P ++ x :: y :: T := by
  have h1 : k.toNat = P.length + 1 := by omega
  have h2 : (k - 1).toNat = P.length := by omega
  rw [h1, h2]
  simp [List.set_append]
theorem gi_at {P T : List Int} {x : Int} {k : Int} (hk : k = P.length) : gi (P ++ x :: T) k = x := by
  subst hk
  rw [gi_get (by simp)]
  simp
theorem exS_ints1 {P : Program} {s : S} {dst : Option Nat} {e by_ d : Nat} {nly : Bool} {l : List Int} {x : Int} {r : List KI} {K : AEx → S → Prop} (hg : get s.loc d = some (.arr false (l.map iv) l.length e 1)) (h2 : (l.length + 1) * by_ ≤ 140737488355328) (h3 : l.length + 1 ≤ maxLen)
    (k : EX P r K (s.arr d dst false ((l ++ [x]).map iv) (l ++ [x]).length e 1)) : exS P (appq s dst e 1 by_ (.own d) (.v (.vec nly [iv x] 1))) r K := by
  rw [appq_own hg rfl h2 h3, exS_some]
  have e2 : l.map iv ++ [iv x] = (l ++ [x]).map iv := by simp
  have e3 : l.length + 1 = (l ++ [x]).length := by simp
  rw [e2, e3]
  exact k
theorem order_c (g : Graph) (w : Want) (down : List Bool) (hc : (check g).2 = 0) (src to : Int) (hs : (0 ≤ src ∧ src < g.nodes) ∧ 0 ≤ distOf g src to) (H : AHeap) :
    ACalls Try.prog 106 [mapAV g w down, iv src, iv to] H fun r H' => H' = H ∧ ∃ W, r = sl false W ∧ OrdW g src to W := by
  have hf := fit_of g hc
  have fn := hf.n2
  refine ACalls.of_code fn_expand_Map_order ?_
  simp -implicitDefEqProofs only [sc_expand_Map_order, mapAV, go_sem, Nat.reduceEqDiff, Nat.reduceAdd, Nat.reduceMul, Nat.reduceLeDiff, Nat.reduceSub, Nat.reduceLT, Nat.reduceBEq, Int.reduceToNat, reduceCtorEq, ↓reduceIte, Int.reduceEq, Int.reduceNeg, Int.reduceLT, Int.reduceLE, Int.reduceAdd, Int.reduceSub, Int.reduceMul]
  repeat' (first | simp -implicitDefEqProofs only [go_sem, Nat.reduceEqDiff, Nat.reduceAdd, Nat.reduceMul, Nat.reduceLeDiff, Nat.reduceSub, Nat.reduceLT, Nat.reduceBEq, Int.reduceToNat, reduceCtorEq, ↓reduceIte, Int.reduceEq, Int.reduceNeg, Int.reduceLT, Int.reduceLE, Int.reduceAdd, Int.reduceSub, Int.reduceMul] | simp -implicitDefEqProofs (disch := omega) only [iaq_vec, iao_arr, iaq_raw, rd_map, wrap_id, binq_quo, binq_rem, binq_shl, binq_shr, tdiv_pos, tmod_pos, if_pos, exV_some, Option.map_some] | ((first | with_reducible apply exIf_dec | ((with_reducible apply exGd_dec); focus exact rfl) | ((with_reducible apply exGq_dec); focus exact rfl) | with_reducible apply exIf_intro | ((with_reducible apply exGd_intro); focus exact rfl) | ((with_reducible apply exGq_intro); focus exact rfl)) <;> intro _))
  all_goals first | (exfalso; omega) | skip
  refine exMk_int (by omega) (by omega) (by simp only [maxLen]; omega) rfl ?_
  rw [zrep_one, show List.replicate g.nodes.toNat (cAV (.bool false)) = (List.replicate g.nodes.toNat false).map bv by rw [List.map_replicate]; rfl]
  repeat' (first | simp -implicitDefEqProofs only [go_sem, Nat.reduceEqDiff, Nat.reduceAdd, Nat.reduceMul, Nat.reduceLeDiff, Nat.reduceSub, Nat.reduceLT, Nat.reduceBEq, Int.reduceToNat, reduceCtorEq, ↓reduceIte, Int.reduceEq, Int.reduceNeg, Int.reduceLT, Int.reduceLE, Int.reduceAdd, Int.reduceSub, Int.reduceMul] | simp -implicitDefEqProofs (disch := omega) only [set_bools, List.length_replicate, iaq_vec, iao_arr, iaq_raw, rd_map, wrap_id, binq_quo, binq_rem, binq_shl, binq_shr, tdiv_pos, tmod_pos, if_pos, exV_some, Option.map_some] | ((first | with_reducible apply exIf_dec | ((with_reducible apply exGd_dec); focus exact rfl) | ((with_reducible apply exGq_dec); focus exact rfl) | with_reducible apply exIf_intro | ((with_reducible apply exGd_intro); focus exact rfl) | ((with_reducible apply exGq_intro); focus exact rfl)) <;> intro _))
  all_goals first | (exfalso; omega) | skip
  have hn0 : (g.nodes.toNat : Int) = g.nodes := by omega
  refine exL_mod (fun a : Int × List Int × List Bool => [(9, .v (iv a.1))]) (fun a => [(22, .arr false (a.2.2.map bv) g.nodes.toNat 4 1), (27, .arr false (a.2.1.map iv) a.2.1.length 3 1)]) (fun a => Pass g src to a.2.1 ∧ a.2.2.length = g.nodes.toNat ∧ seenOk a.2.1 a.2.2 ∧ (0 ≤ a.1 ∧ a.1 ≤ a.2.1.length) ∧ ∀ j : Int, 0 ≤ j → j < a.1 → ∀ e ∈ nxtOf g (gi a.2.1 j) to, (ends g e).2.1 ∈ a.2.1) (fun a => (g.nodes + 1 - a.1).toNat) (0, [src], (List.replicate g.nodes.toNat false).set src.toNat true) rfl
    ⟨⟨by simp, fun n hn => by rw [List.mem_singleton.1 hn]; exact hs, by simp⟩, by simp, by
      have := seenOk_set (W := []) (s := List.replicate g.nodes.toNat false) (x := src) (fun v v0 v1 => by
        rw [List.length_replicate] at v1
        rw [gi_get (by rw [List.length_replicate]; omega)]
        simp) hs.1.1 (by rw [List.length_replicate]; omega)
      exact this, by simp, fun j j0 j1 => by dsimp only at j1; omega⟩ ?_
  rintro ⟨i, W, s⟩ ⟨hp, hsl, hso, ⟨i0, i1⟩, hcl⟩ ih
  dsimp only at hp hsl hso i0 i1 hcl ih
  simp only [S.up, S.upH, ups, Abs.put, Nat.reduceEqDiff, ↓reduceIte, Nat.reduceAdd] at ih
  simp -implicitDefEqProofs only [congrArg KI.code sc_expand_Map_order_L3.eq_1, go_sem, Nat.reduceEqDiff, Nat.reduceAdd, Nat.reduceMul, Nat.reduceLeDiff, Nat.reduceSub, Nat.reduceLT, Nat.reduceBEq, Int.reduceToNat, reduceCtorEq, ↓reduceIte, Int.reduceEq, Int.reduceNeg, Int.reduceLT, Int.reduceLE, Int.reduceAdd, Int.reduceSub, Int.reduceMul]
  have hWn := pass_length hp
  by_cases hi : i < W.length
  · have hnode := hp.node _ (gi_mem i0 hi)
    have tn := fun H => tnext_c g hc (gi W i) to H
    simp only [ints] at tn
    have hlen := nxtOf_length g (gi W i) to
    have hfl := hf.few
    repeat' (first | simp -implicitDefEqProofs only [go_sem, Nat.reduceEqDiff, Nat.reduceAdd, Nat.reduceMul, Nat.reduceLeDiff, Nat.reduceSub, Nat.reduceLT, Nat.reduceBEq, Int.reduceToNat, reduceCtorEq, ↓reduceIte, Int.reduceEq, Int.reduceNeg, Int.reduceLT, Int.reduceLE, Int.reduceAdd, Int.reduceSub, Int.reduceMul] | simp -implicitDefEqProofs (disch := omega) only [iaq_vec, iao_arr, iaq_raw, rd_map, wrap_id, binq_quo, binq_rem, binq_shl, binq_shr, tdiv_pos, tmod_pos, if_pos, exV_some, Option.map_some] | ((first | with_reducible apply exIf_dec | ((with_reducible apply exGd_dec); focus exact rfl) | ((with_reducible apply exGq_dec); focus exact rfl) | with_reducible apply exIf_intro | ((with_reducible apply exGd_intro); focus exact rfl) | ((with_reducible apply exGq_intro); focus exact rfl)) <;> intro _) | with_reducible refine exC_pure (tn _) ?_ | with_reducible refine exCq_pure (tn _) ?_)
    all_goals first | (exfalso; omega) | skip
    obtain ⟨l, hld⟩ : ∃ l, l = nxtOf g (gi W i) to := ⟨_, rfl⟩
    have hlm : ∀ e ∈ l, e ∈ nxtOf g (gi W i) to := fun e he => hld ▸ he
    rw [← hld] at hlen ⊢
    refine exL_mod (fun a : Int × List Int × List Bool => [(45, .v (iv a.1))]) (fun a => [(22, .arr false (a.2.2.map bv) g.nodes.toNat 4 1), (27, .arr false (a.2.1.map iv) a.2.1.length 3 1)]) (fun a => Pass g src to a.2.1 ∧ a.2.2.length = g.nodes.toNat ∧ seenOk a.2.1 a.2.2 ∧ (0 ≤ a.1 ∧ a.1 ≤ l.length) ∧ (∃ X, a.2.1 = W ++ X) ∧ ∀ j : Int, 0 ≤ j → j < a.1 → (ends g (gi l j)).2.1 ∈ a.2.1) (fun a => (l.length - a.1).toNat) (0, W, s) rfl ⟨hp, hsl, hso, by simp, ⟨[], by simp⟩, fun j j0 j1 => by dsimp only at j1; omega⟩ ?_
    rintro ⟨j, V, u⟩ ⟨qp, qsl, qso, ⟨j0, j1⟩, ⟨X, hX⟩, qcl⟩ ih2
    dsimp only at qp qsl qso j0 j1 hX qcl ih2
    simp only [S.up, S.upH, ups, Abs.put, Nat.reduceEqDiff, ↓reduceIte, Nat.reduceAdd] at ih2
    simp -implicitDefEqProofs only [congrArg KI.code sc_expand_Map_order_L2.eq_1, go_sem, Nat.reduceEqDiff, Nat.reduceAdd, Nat.reduceMul, Nat.reduceLeDiff, Nat.reduceSub, Nat.reduceLT, Nat.reduceBEq, Int.reduceToNat, reduceCtorEq, ↓reduceIte, Int.reduceEq, Int.reduceNeg, Int.reduceLT, Int.reduceLE, Int.reduceAdd, Int.reduceSub, Int.reduceMul]
    have hVn := pass_length qp
    by_cases hj : j < l.length
    · have hmem := hlm _ (gi_mem j0 hj)
      obtain ⟨e0, e1, e2, e3, -, -⟩ := nxt_mem hf hmem
      obtain ⟨hb, hnear⟩ := nxt_near hf hmem
      have ec := fun H => ends_c g (gi l j) ⟨by omega, by omega⟩ H
      simp only [Graph.av, triIIB] at ec
      have hse := qso (ends g (gi l j)).2.1 hb.1 (by omega)
      cases hin : decide ((ends g (gi l j)).2.1 ∈ V) with
      | true =>
        rw [hin] at hse
        have nx := ih2 (j + 1, V, u) ⟨qp, qsl, qso, by dsimp only; omega, ⟨X, hX⟩, fun k k0 k1 => by
          by_cases e : k < j
          · exact qcl k k0 e
          · obtain rfl : k = j := by dsimp only at k1; omega
            simpa using hin⟩ (by dsimp only; omega)
        clear ih ih2
        repeat' (first | simp -implicitDefEqProofs only [go_sem, Nat.reduceEqDiff, Nat.reduceAdd, Nat.reduceMul, Nat.reduceLeDiff, Nat.reduceSub, Nat.reduceLT, Nat.reduceBEq, Int.reduceToNat, reduceCtorEq, ↓reduceIte, Int.reduceEq, Int.reduceNeg, Int.reduceLT, Int.reduceLE, Int.reduceAdd, Int.reduceSub, Int.reduceMul] | simp -implicitDefEqProofs (disch := omega) only [hse, iaq_vec, iao_arr, iaq_raw, rd_map, wrap_id, binq_quo, binq_rem, binq_shl, binq_shr, tdiv_pos, tmod_pos, if_pos, exV_some, Option.map_some] | ((first | with_reducible apply exIf_dec | ((with_reducible apply exGd_dec); focus exact rfl) | ((with_reducible apply exGq_dec); focus exact rfl) | with_reducible apply exIf_intro | ((with_reducible apply exGd_intro); focus exact rfl) | ((with_reducible apply exGq_intro); focus exact rfl)) <;> intro _) | with_reducible refine exC_pure (ec _) ?_ | with_reducible refine exCq_pure (ec _) ?_)
        all_goals first | exact nx | (exfalso; omega) | skip
        done
      | false =>
        rw [hin] at hse
        have hnin : (ends g (gi l j)).2.1 ∉ V := by simpa using hin
        have qp' : Pass g src to (V ++ [(ends g (gi l j)).2.1]) := ⟨by simp [qp.src], fun n hn => by
          rcases List.mem_append.1 hn with hn | hn
          · exact qp.node n hn
          · rw [List.mem_singleton.1 hn]; exact ⟨hb, hnear⟩, by
          rw [List.nodup_append]
          refine ⟨qp.nodup, by simp, fun a ha b hb' => ?_⟩
          rintro rfl
          exact hnin (by rwa [List.mem_singleton.1 hb'] at ha)⟩
        have nx := ih2 (j + 1, V ++ [(ends g (gi l j)).2.1], u.set (ends g (gi l j)).2.1.toNat true) ⟨qp', by simp [qsl], seenOk_set qso hb.1 (by omega), by dsimp only; omega, ⟨X ++ [(ends g (gi l j)).2.1], by rw [hX]; simp⟩, fun k k0 k1 => by
          by_cases e : k < j
          · exact List.mem_append_left _ (qcl k k0 e)
          · obtain rfl : k = j := by dsimp only at k1; omega
            simp⟩ (by dsimp only; omega)
        have hVl := pass_length qp'
        clear ih ih2
        repeat' (first | simp -implicitDefEqProofs only [go_sem, Nat.reduceEqDiff, Nat.reduceAdd, Nat.reduceMul, Nat.reduceLeDiff, Nat.reduceSub, Nat.reduceLT, Nat.reduceBEq, Int.reduceToNat, reduceCtorEq, ↓reduceIte, Int.reduceEq, Int.reduceNeg, Int.reduceLT, Int.reduceLE, Int.reduceAdd, Int.reduceSub, Int.reduceMul] | simp -implicitDefEqProofs (disch := omega) only [hse, set_bools, iaq_vec, iao_arr, iaq_raw, rd_map, wrap_id, binq_quo, binq_rem, binq_shl, binq_shr, tdiv_pos, tmod_pos, if_pos, exV_some, Option.map_some] | ((first | with_reducible apply exIf_dec | ((with_reducible apply exGd_dec); focus exact rfl) | ((with_reducible apply exGq_dec); focus exact rfl) | with_reducible apply exIf_intro | ((with_reducible apply exGd_intro); focus exact rfl) | ((with_reducible apply exGq_intro); focus exact rfl)) <;> intro _) | with_reducible refine exC_pure (ec _) ?_ | with_reducible refine exCq_pure (ec _) ?_)
        all_goals first | exact nx | (exfalso; omega) | skip
        refine exS_ints1 rfl (by omega) (by simp only [maxLen]; omega) ?_
        repeat' (first | simp -implicitDefEqProofs only [go_sem, Nat.reduceEqDiff, Nat.reduceAdd, Nat.reduceMul, Nat.reduceLeDiff, Nat.reduceSub, Nat.reduceLT, Nat.reduceBEq, Int.reduceToNat, reduceCtorEq, ↓reduceIte, Int.reduceEq, Int.reduceNeg, Int.reduceLT, Int.reduceLE, Int.reduceAdd, Int.reduceSub, Int.reduceMul] | simp -implicitDefEqProofs (disch := omega) only [iaq_vec, iao_arr, iaq_raw, rd_map, wrap_id, binq_quo, binq_rem, binq_shl, binq_shr, tdiv_pos, tmod_pos, if_pos, exV_some, Option.map_some] | ((first | with_reducible apply exIf_dec | ((with_reducible apply exGd_dec); focus exact rfl) | ((with_reducible apply exGq_dec); focus exact rfl) | with_reducible apply exIf_intro | ((with_reducible apply exGd_intro); focus exact rfl) | ((with_reducible apply exGq_intro); focus exact rfl)) <;> intro _))
        all_goals first | exact nx | (exfalso; omega) | skip
        done
    · obtain rfl : j = l.length := by omega
      have nx := ih (i + 1, V, u) ⟨qp, qsl, qso, by
        have : W.length ≤ V.length := by rw [hX]; simp
        dsimp only; omega, fun k k0 k1 => by
        dsimp only at k1 ⊢
        have hV : gi V k = gi W k := by
          rw [hX, gi_get (by simp; omega), gi_get (by omega), List.getElem_append_left (by omega)]
        rw [hV]
        intro e he
        by_cases hk : k < i
        · rw [hX]; exact List.mem_append_left _ (hcl k k0 hk e he)
        · obtain rfl : k = i := by omega
          rw [← hld] at he
          obtain ⟨m, hm, rfl⟩ := List.getElem_of_mem he
          have := qcl (m : Int) (by omega) (by omega)
          rwa [gi_get (by simpa using hm)] at this⟩ (by dsimp only; omega)
      clear ih ih2
      repeat' (first | simp -implicitDefEqProofs only [go_sem, Nat.reduceEqDiff, Nat.reduceAdd, Nat.reduceMul, Nat.reduceLeDiff, Nat.reduceSub, Nat.reduceLT, Nat.reduceBEq, Int.reduceToNat, reduceCtorEq, ↓reduceIte, Int.reduceEq, Int.reduceNeg, Int.reduceLT, Int.reduceLE, Int.reduceAdd, Int.reduceSub, Int.reduceMul] | simp -implicitDefEqProofs (disch := omega) only [iaq_vec, iao_arr, iaq_raw, rd_map, wrap_id, binq_quo, binq_rem, binq_shl, binq_shr, tdiv_pos, tmod_pos, if_pos, exV_some, Option.map_some] | ((first | with_reducible apply exIf_dec | ((with_reducible apply exGd_dec); focus exact rfl) | ((with_reducible apply exGq_dec); focus exact rfl) | with_reducible apply exIf_intro | ((with_reducible apply exGd_intro); focus exact rfl) | ((with_reducible apply exGq_intro); focus exact rfl)) <;> intro _))
      all_goals first | exact nx | (exfalso; omega) | skip
      done
  · obtain rfl : i = W.length := by omega
    clear ih
    have hshut : ∀ n ∈ W, ∀ e ∈ nxtOf g n to, (ends g e).2.1 ∈ W := fun n hn e he => by
      obtain ⟨m, hm, rfl⟩ := List.getElem_of_mem hn
      refine hcl (m : Int) (by omega) (by omega) e ?_
      rwa [gi_get (by simpa using hm)]
    clear hcl hso hsl
    repeat' (first | simp -implicitDefEqProofs only [go_sem, Nat.reduceEqDiff, Nat.reduceAdd, Nat.reduceMul, Nat.reduceLeDiff, Nat.reduceSub, Nat.reduceLT, Nat.reduceBEq, Int.reduceToNat, reduceCtorEq, ↓reduceIte, Int.reduceEq, Int.reduceNeg, Int.reduceLT, Int.reduceLE, Int.reduceAdd, Int.reduceSub, Int.reduceMul] | simp -implicitDefEqProofs (disch := omega) only [iaq_vec, iao_arr, iaq_raw, rd_map, wrap_id, binq_quo, binq_rem, binq_shl, binq_shr, tdiv_pos, tmod_pos, if_pos, exV_some, Option.map_some] | ((first | with_reducible apply exIf_dec | ((with_reducible apply exGd_dec); focus exact rfl) | ((with_reducible apply exGq_dec); focus exact rfl) | with_reducible apply exIf_intro | ((with_reducible apply exGd_intro); focus exact rfl) | ((with_reducible apply exGq_intro); focus exact rfl)) <;> intro _))
    all_goals first | (exfalso; omega) | skip
    refine exL_mod (fun a : Int × List Int => [(74, .v (iv a.1))]) (fun a => [(27, .arr false (a.2.map iv) W.length 3 1)]) (fun a => a.2.Perm W ∧ (0 ≤ a.1 ∧ a.1 ≤ W.length) ∧ (a.2.take a.1.toNat).Pairwise fun x y => distOf g y to ≤ distOf g x to) (fun a => (W.length - a.1).toNat) (0, W) rfl ⟨.refl _, by simp, by simp⟩ ?_
    rintro ⟨i, V⟩ ⟨hperm, ⟨i0, i1⟩, hsort⟩ ih
    dsimp only at hperm i0 i1 hsort ih
    simp only [S.up, S.upH, ups, Abs.put, Nat.reduceEqDiff, ↓reduceIte, Nat.reduceAdd] at ih
    simp -implicitDefEqProofs only [congrArg KI.code sc_expand_Map_order_L1.eq_1, go_sem, Nat.reduceEqDiff, Nat.reduceAdd, Nat.reduceMul, Nat.reduceLeDiff, Nat.reduceSub, Nat.reduceLT, Nat.reduceBEq, Int.reduceToNat, reduceCtorEq, ↓reduceIte, Int.reduceEq, Int.reduceNeg, Int.reduceLT, Int.reduceLE, Int.reduceAdd, Int.reduceSub, Int.reduceMul]
    have hVW := hperm.length_eq
    by_cases hi : i < W.length
    · obtain ⟨x, hx⟩ : ∃ x, x = gi V i := ⟨_, rfl⟩
      obtain ⟨R, hR⟩ : ∃ R, R = V.drop (i + 1).toNat := ⟨_, rfl⟩
      obtain ⟨A, hA⟩ : ∃ A, A = V.take i.toNat := ⟨_, rfl⟩
      have hV : V = A ++ x :: R := by rw [hA, hx, hR, ← drop_gi i0 (by omega), List.take_append_drop]
      have hAl : A.length = i.toNat := by rw [hA, List.length_take]; omega
      rw [← hA] at hsort
      have tdx := fun y H => tdist_c g hc y to H
      repeat' (first | simp -implicitDefEqProofs only [go_sem, Nat.reduceEqDiff, Nat.reduceAdd, Nat.reduceMul, Nat.reduceLeDiff, Nat.reduceSub, Nat.reduceLT, Nat.reduceBEq, Int.reduceToNat, reduceCtorEq, ↓reduceIte, Int.reduceEq, Int.reduceNeg, Int.reduceLT, Int.reduceLE, Int.reduceAdd, Int.reduceSub, Int.reduceMul] | simp -implicitDefEqProofs (disch := omega) only [iaq_vec, iao_arr, iaq_raw, rd_map, wrap_id, binq_quo, binq_rem, binq_shl, binq_shr, tdiv_pos, tmod_pos, if_pos, exV_some, Option.map_some] | ((first | with_reducible apply exIf_dec | ((with_reducible apply exGd_dec); focus exact rfl) | ((with_reducible apply exGq_dec); focus exact rfl) | with_reducible apply exIf_intro | ((with_reducible apply exGd_intro); focus exact rfl) | ((with_reducible apply exGq_intro); focus exact rfl)) <;> intro _))
      all_goals first | (exfalso; omega) | skip
      refine exL_mod (fun a : List Int × List Int => [(16, .v (iv a.1.length))]) (fun a => [(27, .arr false ((a.1 ++ x :: (a.2 ++ R)).map iv) W.length 3 1)]) (fun a => a.1 ++ a.2 = A ∧ ∀ q ∈ a.2, distOf g q to < distOf g x to) (fun a => a.1.length) (A, []) (by rw [hV, List.nil_append, hAl, Int.toNat_of_nonneg i0]; rfl) ⟨by simp, by simp⟩ ?_
      rintro ⟨P, Q⟩ ⟨hPQ, hQ⟩ ih2
      dsimp only at hPQ hQ ih2
      simp only [S.up, S.upH, ups, Abs.put, Nat.reduceEqDiff, ↓reduceIte, Nat.reduceAdd] at ih2
      simp -implicitDefEqProofs only [congrArg KI.code sc_expand_Map_order_L0.eq_1, go_sem, Nat.reduceEqDiff, Nat.reduceAdd, Nat.reduceMul, Nat.reduceLeDiff, Nat.reduceSub, Nat.reduceLT, Nat.reduceBEq, Int.reduceToNat, reduceCtorEq, ↓reduceIte, Int.reduceEq, Int.reduceNeg, Int.reduceLT, Int.reduceLE, Int.reduceAdd, Int.reduceSub, Int.reduceMul]
      have hPl : (P ++ x :: (Q ++ R)).length = W.length := by
        have h1 := congrArg List.length hPQ
        have h2 := congrArg List.length hV
        simp only [List.length_append, List.length_cons] at h1 h2 ⊢
        omega
      have hg1 : gi (P ++ x :: (Q ++ R)) (P.length : Int) = x := gi_at rfl
      have hPk : (P.length : Int) < W.length := by
        have := hPl
        simp only [List.length_append, List.length_cons] at this
        omega
      have hsx : (P ++ Q).Pairwise fun x y => distOf g y to ≤ distOf g x to := hPQ ▸ hsort
      by_cases hgo : 0 < (P.length : Int) ∧ distOf g (gi (P ++ x :: (Q ++ R)) ((P.length : Int) - 1)) to < distOf g (gi (P ++ x :: (Q ++ R)) (P.length : Int)) to
      · rcases List.eq_nil_or_concat P with rfl | ⟨P', y, hP'⟩
        · simp at hgo
        rw [List.concat_eq_append] at hP'
        subst hP'
        have hg2 : gi (P' ++ [y] ++ x :: (Q ++ R)) (((P' ++ [y]).length : Int) - 1) = y := by
          rw [List.append_assoc]
          exact gi_at (by simp)
        obtain ⟨hgo1, hgo2⟩ := hgo
        have hgo3 := hgo2
        rw [hg1, hg2] at hgo3
        have nx := ih2 (P', y :: Q) ⟨by rw [← hPQ]; simp, fun q hq => by
          rcases List.mem_cons.1 hq with rfl | hq
          · exact hgo3
          · exact hQ q hq⟩ (by simp)
        have hst : ((P' ++ [y] ++ x :: (Q ++ R)).set ((P' ++ [y]).length : Int).toNat y).set (((P' ++ [y]).length : Int) - 1).toNat x = P' ++ x :: (y :: Q ++ R) := by
          rw [List.append_assoc]
          exact set_two (by simp)
        have hcast : ((P' ++ [y]).length : Int) - 1 = (P'.length : Int) := by simp
        obtain ⟨k, hk⟩ : ∃ k : Int, k = ((P' ++ [y]).length : Int) := ⟨_, rfl⟩
        rw [← hk] at hgo1 hgo2 hg1 hg2 hst hcast hPk ⊢
        rw [← hcast] at nx
        clear ih ih2
        repeat' (first | simp -implicitDefEqProofs only [go_sem, Nat.reduceEqDiff, Nat.reduceAdd, Nat.reduceMul, Nat.reduceLeDiff, Nat.reduceSub, Nat.reduceLT, Nat.reduceBEq, Int.reduceToNat, reduceCtorEq, ↓reduceIte, Int.reduceEq, Int.reduceNeg, Int.reduceLT, Int.reduceLE, Int.reduceAdd, Int.reduceSub, Int.reduceMul] | simp -implicitDefEqProofs (disch := omega) only [hg1, hg2, set_ints, hst, List.length_map, iaq_vec, iao_arr, iaq_raw, rd_map, wrap_id, binq_quo, binq_rem, binq_shl, binq_shr, tdiv_pos, tmod_pos, if_pos, exV_some, Option.map_some] | ((first | with_reducible apply exIf_dec | ((with_reducible apply exGd_dec); focus exact rfl) | ((with_reducible apply exGq_dec); focus exact rfl) | with_reducible apply exIf_intro | ((with_reducible apply exGd_intro); focus exact rfl) | ((with_reducible apply exGq_intro); focus exact rfl)) <;> intro _) | with_reducible refine exC_pure (tdx _ _) ?_ | with_reducible refine exCq_pure (tdx _ _) ?_)
        all_goals first | exact nx | (exfalso; omega) | skip
        done
      · have hall : ∀ p ∈ P, distOf g x to ≤ distOf g p to := by
          rcases List.eq_nil_or_concat P with rfl | ⟨P', y, hP'⟩
          · intro p hp; cases hp
          rw [List.concat_eq_append] at hP'
          subst hP'
          have hg2 : gi (P' ++ [y] ++ x :: (Q ++ R)) (((P' ++ [y]).length : Int) - 1) = y := by
            rw [List.append_assoc]
            exact gi_at (by simp)
          have hy : distOf g x to ≤ distOf g y to := by
            rw [hg1, hg2] at hgo
            refine Int.not_lt.1 fun hh => hgo ⟨by simp, hh⟩
          intro p hp
          rcases List.mem_append.1 hp with hp | hp
          · have h1 := (List.pairwise_append.1 (List.pairwise_append.1 hsx).1).2.2 p hp y (by simp)
            omega
          · rw [List.mem_singleton.1 hp]; exact hy
        have nx := ih (i + 1, P ++ x :: (Q ++ R)) ⟨by
          refine .trans ?_ hperm
          rw [hV, ← hPQ]
          dsimp only
          rw [List.append_assoc]
          exact .append_left P List.perm_middle.symm, by dsimp only; omega, by
          have ht : (P ++ x :: (Q ++ R)).take (i + 1).toNat = P ++ x :: Q := by
            have h1 := congrArg List.length hPQ
            rw [List.length_append, hAl] at h1
            rw [show P ++ x :: (Q ++ R) = (P ++ x :: Q) ++ R by simp]
            exact List.take_left' (by simp; omega)
          dsimp only
          rw [ht, List.pairwise_append, List.pairwise_cons]
          obtain ⟨s1, s2, s3⟩ := List.pairwise_append.1 hsx
          refine ⟨s1, ⟨fun q hq => by have := hQ q hq; omega, s2⟩, fun p hp q hq => ?_⟩
          rcases List.mem_cons.1 hq with rfl | hq
          · exact hall p hp
          · exact s3 p hp q hq⟩ (by dsimp only; omega)
        obtain ⟨k, hk⟩ : ∃ k : Int, k = (P.length : Int) := ⟨_, rfl⟩
        rw [← hk] at hgo hg1 hPk ⊢
        have hk0 : 0 ≤ k := by omega
        clear ih ih2
        repeat' (first | simp -implicitDefEqProofs only [go_sem, Nat.reduceEqDiff, Nat.reduceAdd, Nat.reduceMul, Nat.reduceLeDiff, Nat.reduceSub, Nat.reduceLT, Nat.reduceBEq, Int.reduceToNat, reduceCtorEq, ↓reduceIte, Int.reduceEq, Int.reduceNeg, Int.reduceLT, Int.reduceLE, Int.reduceAdd, Int.reduceSub, Int.reduceMul] | simp -implicitDefEqProofs (disch := omega) only [iaq_vec, iao_arr, iaq_raw, rd_map, wrap_id, binq_quo, binq_rem, binq_shl, binq_shr, tdiv_pos, tmod_pos, if_pos, exV_some, Option.map_some] | ((first | with_reducible apply exIf_dec | ((with_reducible apply exGd_dec); focus exact rfl) | ((with_reducible apply exGq_dec); focus exact rfl) | with_reducible apply exIf_intro | ((with_reducible apply exGd_intro); focus exact rfl) | ((with_reducible apply exGq_intro); focus exact rfl)) <;> intro _) | with_reducible refine exC_pure (tdx _ _) ?_ | with_reducible refine exCq_pure (tdx _ _) ?_)
        all_goals first | exact nx | (exfalso; omega) | skip
        done
    · obtain rfl : i = W.length := by omega
      clear ih
      rw [Int.toNat_natCast, List.take_of_length_le (by omega)] at hsort
      have hord : OrdW g src to V := ⟨⟨hperm.mem_iff.2 hp.src, fun n hn => hp.node n (hperm.mem_iff.1 hn), hperm.nodup_iff.2 hp.nodup⟩, fun n hn e he => hperm.mem_iff.2 (hshut n (hperm.mem_iff.1 hn) e he), hsort⟩
      rw [← hVW]
      repeat' (first | simp -implicitDefEqProofs only [go_sem, Nat.reduceEqDiff, Nat.reduceAdd, Nat.reduceMul, Nat.reduceLeDiff, Nat.reduceSub, Nat.reduceLT, Nat.reduceBEq, Int.reduceToNat, reduceCtorEq, ↓reduceIte, Int.reduceEq, Int.reduceNeg, Int.reduceLT, Int.reduceLE, Int.reduceAdd, Int.reduceSub, Int.reduceMul] | simp -implicitDefEqProofs (disch := omega) only [iaq_vec, iao_arr, iaq_raw, rd_map, wrap_id, binq_quo, binq_rem, binq_shl, binq_shr, tdiv_pos, tmod_pos, if_pos, exV_some, Option.map_some] | ((first | with_reducible apply exIf_dec | ((with_reducible apply exGd_dec); focus exact rfl) | ((with_reducible apply exGq_dec); focus exact rfl) | with_reducible apply exIf_intro | ((with_reducible apply exGd_intro); focus exact rfl) | ((with_reducible apply exGq_intro); focus exact rfl)) <;> intro _))
      all_goals first | exact ⟨V, rfl, hord⟩ | (exfalso; omega) | skip
      done
end Go.Proofs.Ytejmcijcdhoogaa
end

section
/- Where a segment to a node leads: plain facts of the marks. -/
namespace Go.Proofs.Ytejmcijcdhoogaa
open Go Abs
attribute [local irreducible] EX exL exG exC exCq exS exV exIf exGd exGq
set_option maxHeartbeats 1000000

def mk6 (l : List R6) (c : St) : Bool := (gi l c.1).f c.2
theorem mk6_mark {l : List R6} {c d : St} (c0 : 0 ≤ c.1) (c1 : c.1 < l.length) (d0 : 0 ≤ d.1) : mk6 (markL l c) d = (decide (d = c) || mk6 l d) := by
  unfold mk6 markL
  rw [gi_set c0 c1 d0]
  by_cases e : d.1 = c.1
  · rw [if_pos e]
    show (decide (d.2 = c.2) || (gi l c.1).f d.2) = _
    rw [e]
    congr 1
    rw [decide_eq_decide]
    exact ⟨fun h => Prod.ext e h, fun h => by rw [h]⟩
  · rw [if_neg e]
    have : decide (d = c) = false := decide_eq_false fun h => e (by rw [h])
    rw [this, Bool.false_or]
structure OnSpec (g : Graph) (w : Want) (down : List Bool) (l : List R6) (node e : Int) (n : Nat) (l' : List R6) : Prop where
  on : ∀ k : Int, 0 ≤ k → k < n → mk6 l (node, k) = true → ∃ c, stepW g w down (node, k) e = some c ∧ mk6 l' c = true
  up : ∀ d : St, 0 ≤ d.1 → mk6 l d = true → mk6 l' d = true
  of : ∀ d : St, 0 ≤ d.1 → mk6 l' d = true → mk6 l d = true ∨ ∃ k : Int, 0 ≤ k ∧ k < n ∧ mk6 l (node, k) = true ∧ stepW g w down (node, k) e = some d
theorem onL_spec {g : Graph} {w : Want} {down : List Bool} (wf : WFit g w) {l : List R6} (hl : (l.length : Int) = g.nodes) {node e : Int} : ∀ {n : Nat} {l' : List R6}, onL g w down l node e n = some l' → OnSpec g w down l node e n l'
  | 0, l', h => by
    simp only [onL, Option.some.injEq] at h
    subst h
    exact ⟨fun k k0 k1 => by omega, fun d _ h => h, fun d _ h => .inl h⟩
  | n + 1, l', h => by
    unfold onL at h
    split at h
    · cases h
    · rename_i m hm
      have ih := onL_spec wf hl hm
      have hml := onL_length hm
      split at h
      · rename_i hk
        obtain ⟨c, hc, rfl⟩ := Option.map_eq_some_iff.1 h
        obtain ⟨c1, c2, c3⟩ := stepW_range wf hc
        have mm := fun d (hd : 0 ≤ d.1) => mk6_mark (l := m) (c := c) (d := d) c1.1 (by omega) hd
        refine ⟨fun k k0 k1 hkm => ?_, fun d d0 hd => by rw [mm d d0, ih.up d d0 hd, Bool.or_true], fun d d0 hd => ?_⟩
        · by_cases e1 : k = n
          · subst e1
            exact ⟨c, hc, by rw [mm c c1.1]; simp⟩
          · obtain ⟨c', h1, h2⟩ := ih.on k k0 (by omega) hkm
            exact ⟨c', h1, by rw [mm c' (stepW_range wf h1).1.1, h2, Bool.or_true]⟩
        · rw [mm d d0, Bool.or_eq_true, decide_eq_true_eq] at hd
          rcases hd with rfl | hd
          · exact .inr ⟨n, by omega, by omega, hk, hc⟩
          · rcases ih.of d d0 hd with h1 | ⟨k, h1, h2, h3⟩
            · exact .inl h1
            · exact .inr ⟨k, h1, by omega, h3⟩
      · rename_i hk
        simp only [Option.some.injEq] at h
        subst h
        refine ⟨fun k k0 k1 hkm => ?_, ih.up, fun d d0 hd => ?_⟩
        · by_cases e1 : k = n
          · subst e1; exact absurd hkm hk
          · exact ih.on k k0 (by omega) hkm
        · rcases ih.of d d0 hd with h1 | ⟨k, h1, h2, h3⟩
          · exact .inl h1
          · exact .inr ⟨k, h1, by omega, h3⟩
theorem onL_fail {g : Graph} {w : Want} {down : List Bool} {l : List R6} {node e : Int} : ∀ {n : Nat}, onL g w down l node e n = none → ∃ k : Int, 0 ≤ k ∧ k < n ∧ mk6 l (node, k) = true ∧ stepW g w down (node, k) e = none
  | 0, h => by simp [onL] at h
  | n + 1, h => by
    unfold onL at h
    split at h
    · rename_i hm
      obtain ⟨k, h1, h2, h3⟩ := onL_fail hm
      exact ⟨k, h1, by omega, h3⟩
    · split at h
      · rename_i hk
        rw [Option.map_eq_none_iff] at h
        exact ⟨n, by omega, by omega, hk, h⟩
      · cases h
theorem cnt_zero {r : R6} : ∀ {n : Nat}, cntB r n = 0 → ∀ k : Int, 0 ≤ k → k < n → r.f k = false
  | 0, _, k, k0, k1 => by omega
  | n + 1, h, k, k0, k1 => by
    have hle := cntB_le r n
    unfold cntB at h
    split at h
    · omega
    · rename_i hn
      by_cases e : k = n
      · subst e; simpa using hn
      · exact cnt_zero h k k0 (by omega)
theorem cnt_one {r : R6} : ∀ {n : Nat}, cntB r n = 1 → (0 ≤ lastB r n ∧ lastB r n < n) ∧ r.f (lastB r n) = true ∧ ∀ k : Int, 0 ≤ k → k < n → r.f k = true → k = lastB r n
  | 0, h => by simp [cntB] at h
  | n + 1, h => by
    unfold cntB at h
    unfold lastB
    split at h
    · rename_i hn
      rw [if_pos hn]
      refine ⟨by omega, hn, fun k k0 k1 hk => ?_⟩
      by_cases e : k = n
      · exact e
      · have := cnt_zero (show cntB r n = 0 by omega) k k0 (by omega)
        rw [hk] at this
        cases this
    · rename_i hn
      rw [if_neg hn]
      obtain ⟨h1, h2, h3⟩ := cnt_one h
      refine ⟨by omega, h2, fun k k0 k1 hk => ?_⟩
      by_cases e : k = n
      · subst e; exact absurd hk hn
      · exact h3 k k0 (by omega) hk
theorem cnt_uniq {r : R6} {k : Int} (k0 : 0 ≤ k) (hk : r.f k = true) : ∀ {n : Nat}, (∀ j : Int, 0 ≤ j → j < n → r.f j = true → j = k) → cntB r n = if k < n then 1 else 0
  | 0, _ => by rw [if_neg (by omega)]; rfl
  | n + 1, hu => by
    have ih := cnt_uniq k0 hk (n := n) fun j j0 j1 => hu j j0 (by omega)
    unfold cntB
    by_cases hn : r.f (n : Int) = true
    · have := hu n (by omega) (by omega) hn
      rw [if_pos hn, ih, if_neg (by omega), if_pos (by omega)]
      rfl
    · have : (n : Int) ≠ k := fun e => hn (e ▸ hk)
      rw [if_neg hn, ih]
      by_cases h : k < (n : Int)
      · rw [if_pos h, if_pos (by omega)]
      · rw [if_neg h, if_neg (by omega)]
theorem dist_pos {g : Graph} (hf : Fit g) {a b : Int} (h : 0 ≤ distOf g a b) (hne : a ≠ b) : 0 < distOf g a b := by
  unfold distOf at h ⊢
  split at h
  · rename_i hab
    rw [if_pos hab]
    have hd := (distL_spec hf [] hab.2).1
    by_cases e : gi (distL g [] b) a = 0
    · exfalso
      rcases IsDist.made hf hab.2 hd hab.1.1 hab.1.2 h with hh | ⟨e', h0, h1, h2, h3, h4, h5⟩
      · exact hne hh
      · have := hf.w e' h0 h1
        omega
    · omega
  · omega
theorem endN_range {g : Graph} {w : Want} {down : List Bool} {to : Int} (hf : Fit g) (wf : WFit g w) {a r : St} (ha : a.1 ≠ to) (h : endN g w down to a = some r) : (0 ≤ a.2 ∧ a.2 < 6) ∧ 0 < distOf g a.1 to := by
  obtain ⟨h1, h2⟩ := endN_next hf ha h
  cases hl : nxtOf g a.1 to with
  | nil => exact absurd hl h1
  | cons e l =>
    obtain ⟨b, hb, -⟩ := h2 e (by rw [hl]; simp)
    have hs := (stepW_some hb).1
    have := wf.few
    exact ⟨⟨hs.2.1.1, by have := hs.2.1.2; omega⟩, (nxt_mem hf (e := e) (by rw [hl]; simp)).2.2.2.2.2⟩
theorem endN_reach {g : Graph} {w : Want} {down : List Bool} {to : Int} (hf : Fit g) {a r : St} (h : endN g w down to a = some r) : Rch g w down to a r := by
  have : ∀ n b, (distOf g b.1 to).toNat = n → endN g w down to b = some r → Rch g w down to a b → Rch g w down to a r := by
    intro n
    induction n using Nat.strongRecOn with
    | _ n ih =>
      intro b hn hb hr
      by_cases h1 : b.1 = to
      · rw [endN_self hf h1] at hb
        injection hb with hb
        rw [← hb]; exact hr
      · obtain ⟨h2, h3⟩ := endN_next hf h1 hb
        cases hl : nxtOf g b.1 to with
        | nil => exact absurd hl h2
        | cons e l =>
          have he : e ∈ nxtOf g b.1 to := by rw [hl]; simp
          obtain ⟨c, hc, hc2⟩ := h3 e he
          have := step_dist hf he hc
          exact ih _ (by omega) c rfl hc2 (.step hr h1 he hc)
  exact this _ a rfl h .refl
end Go.Proofs.Ytejmcijcdhoogaa
end

section
/- Where a segment to a node leads: the program's answer. -/
namespace Go.Proofs.Ytejmcijcdhoogaa
open Go Abs
attribute [local irreducible] EX exL exG exC exCq exS exV exIf exGd exGq
set_option maxHeartbeats 4000000

structure NInv (g : Graph) (w : Want) (down : List Bool) (to : Int) (a : St) (W : List Int) (l : List R6) (i : Int) : Prop where
  len : (l.length : Int) = g.nodes
  start : mk6 l a = true
  sound : ∀ d : St, 0 ≤ d.1 → d.1 < g.nodes → 0 ≤ d.2 → d.2 < 6 → mk6 l d = true → Rch g w down to a d
  done : ∀ p : Int, 0 ≤ p → p < i → ∀ k : Int, 0 ≤ k → k < 6 → mk6 l (gi W p, k) = true → ∀ e ∈ nxtOf g (gi W p) to, ∃ c, stepW g w down (gi W p, k) e = some c ∧ mk6 l c = true
structure EInv (g : Graph) (w : Want) (down : List Bool) (to : Int) (a : St) (W : List Int) (l : List R6) (i j : Int) : Prop where
  n : NInv g w down to a W l i
  edges : ∀ m : Int, 0 ≤ m → m < j → ∀ k : Int, 0 ≤ k → k < 6 → mk6 l (gi W i, k) = true → ∃ c, stepW g w down (gi W i, k) (gi (nxtOf g (gi W i) to) m) = some c ∧ mk6 l c = true
theorem dist_self {g : Graph} (hf : Fit g) (b : Int) : distOf g b b ≤ 0 := by
  unfold distOf
  split
  · rename_i h
    rw [IsDist.zero hf h.2 (distL_spec hf [] h.2).1]
    exact Int.le_refl _
  · omega
theorem nxt_ne {g : Graph} (hf : Fit g) {n to e : Int} (h : e ∈ nxtOf g n to) : n ≠ to := by
  rintro rfl
  have h1 := (nxt_mem hf h).2.2.2.2.2
  have h2 := dist_self hf n
  omega
theorem EInv.step {g : Graph} {w : Want} {down : List Bool} {to src : Int} {a : St} {W : List Int} {l l' : List R6} {i j : Int} (wf : WFit g w) (hW : OrdW g src to W) (h : EInv g w down to a W l i j) (i0 : 0 ≤ i) (i1 : i < W.length) (j0 : 0 ≤ j) (j1 : j < (nxtOf g (gi W i) to).length)
    (ho : onL g w down l (gi W i) (gi (nxtOf g (gi W i) to) j) 6 = some l') : EInv g w down to a W l' i (j + 1) := by
  have hf := wf.fit
  have he := gi_mem j0 j1
  have hsp := onL_spec wf h.n.len ho
  have hll := onL_length ho
  have hn := hW.pass.node _ (gi_mem i0 i1)
  have ht := nxt_dist hf he
  -- what is new lies nearer
  have hnew : ∀ p : Int, 0 ≤ p → p ≤ i → ∀ k : Int, 0 ≤ k → mk6 l' (gi W p, k) = true → mk6 l (gi W p, k) = true := by
    intro p p0 p1 k k0 hm
    rcases hsp.of (gi W p, k) (hW.pass.node _ (gi_mem p0 (by omega))).1.1 hm with h1 | ⟨k', -, -, -, h4⟩
    · exact h1
    · exfalso
      have := congrArg Prod.fst (stepW_some h4).2
      dsimp only at this
      rw [← this] at ht
      have hd : distOf g (gi W i) to ≤ distOf g (gi W p) to := by
        by_cases e : p = i
        · rw [e]; exact Int.le_refl _
        · rw [gi_get (by omega), gi_get (by omega)]
          exact List.pairwise_iff_getElem.1 hW.desc _ _ _ _ (by omega)
      omega
  have keep : ∀ n k e : Int, ∀ c, stepW g w down (n, k) e = some c → mk6 l c = true → mk6 l' c = true := fun n k e c hc hm => hsp.up c (stepW_range wf hc).1.1 hm
  refine ⟨⟨by rw [hll]; exact h.n.len, ?_, fun d d0 d1 k0 k1 hm => ?_, fun p p0 p1 k k0 k1 hm e hee => ?_⟩, fun m m0 m1 k k0 k1 hm => ?_⟩
  · by_cases ha : 0 ≤ a.1
    · exact hsp.up a ha h.n.start
    · have h1 := h.n.start
      have hlt : a.1.toNat = 0 := by omega
      -- an index below 0 reads the first one
      have : mk6 l' a = mk6 l' (0, a.2) ∧ mk6 l a = mk6 l (0, a.2) := by
        unfold mk6 gi
        simp [hlt]
      rw [this.1]
      exact hsp.up _ (Int.le_refl _) (this.2 ▸ h1)
  · rcases hsp.of d d0 hm with h1 | ⟨k', q0, q1, h3, h4⟩
    · exact h.n.sound d d0 d1 k0 k1 h1
    · exact .step (h.n.sound (gi W i, k') hn.1.1 hn.1.2 q0 q1 h3) (nxt_ne hf he) he h4
  · obtain ⟨c, c1, c2⟩ := h.n.done p p0 p1 k k0 k1 (hnew p p0 (by omega) k k0 hm) e hee
    exact ⟨c, c1, keep _ _ _ c c1 c2⟩
  · have hm' := hnew i i0 (Int.le_refl _) k k0 hm
    by_cases e : m < j
    · obtain ⟨c, c1, c2⟩ := h.edges m m0 e k k0 k1 hm'
      exact ⟨c, c1, keep _ _ _ c c1 c2⟩
    · obtain rfl : m = j := by omega
      exact hsp.on k k0 k1 hm'
theorem EInv.all {g : Graph} {w : Want} {down : List Bool} {to : Int} {a : St} {W : List Int} {l : List R6} {i j : Int} (h : EInv g w down to a W l i j) (hj : ((nxtOf g (gi W i) to).length : Int) ≤ j) : NInv g w down to a W l (i + 1) := by
  refine ⟨h.n.len, h.n.start, h.n.sound, fun p p0 p1 k k0 k1 hm e he => ?_⟩
  by_cases hp : p < i
  · exact h.n.done p p0 hp k k0 k1 hm e he
  · obtain rfl : p = i := by omega
    obtain ⟨m, hm', rfl⟩ := List.getElem_of_mem he
    have := h.edges (m : Int) (by omega) (by omega) k k0 k1 hm
    rwa [gi_get (l := nxtOf g (gi W p) to) (i := (m : Int)) (by simpa using hm')] at this
theorem EInv.fail {g : Graph} {w : Want} {down : List Bool} {to src : Int} {a : St} {W : List Int} {l : List R6} {i j : Int} (wf : WFit g w) (hW : OrdW g src to W) (h : EInv g w down to a W l i j) (i0 : 0 ≤ i) (i1 : i < W.length) (j0 : 0 ≤ j) (j1 : j < (nxtOf g (gi W i) to).length)
    (ho : onL g w down l (gi W i) (gi (nxtOf g (gi W i) to) j) 6 = none) : endN g w down to a = none := by
  obtain ⟨k, k0, k1, h1, h2⟩ := onL_fail ho
  have he := gi_mem j0 j1
  have hn := hW.pass.node _ (gi_mem i0 i1)
  have hr := h.n.sound (gi W i, k) hn.1.1 hn.1.2 k0 k1 h1
  cases hE : endN g w down to a with
  | none => rfl
  | some r =>
    have h3 := endN_rch wf.fit hE hr
    obtain ⟨c, hc, -⟩ := (endN_next wf.fit (nxt_ne wf.fit he) h3).2 _ he
    rw [h2] at hc
    cases hc
theorem NInv.fin {g : Graph} {w : Want} {down : List Bool} {to : Int} {a : St} {W : List Int} {l : List R6} (wf : WFit g w) (hc : (check g).2 = 0) (hW : OrdW g a.1 to W) (ha : 0 ≤ a.2 ∧ a.2 < 6) (h : NInv g w down to a W l W.length) :
    endN g w down to a = if cntB (gi l to) 6 = 1 then some (to, lastB (gi l to) 6) else none := by
  have hf := wf.fit
  -- all that is come to is marked
  have hall : ∀ b, Rch g w down to a b → mk6 l b = true ∧ b.1 ∈ W ∧ 0 ≤ b.2 ∧ b.2 < 6 := by
    intro b hb
    induction hb with
    | refl => exact ⟨h.start, hW.pass.src, ha⟩
    | @step b c e _ hne he hs ih =>
      obtain ⟨i1, i2, i3, i4⟩ := ih
      obtain ⟨m, hm, hme⟩ := List.getElem_of_mem i2
      have hg : gi W (m : Int) = b.1 := by rw [gi_get (by simpa using hm)]; exact hme
      obtain ⟨c', c1, c2⟩ := h.done (m : Int) (by omega) (by omega) b.2 i3 i4 (by rw [hg]; exact i1) e (by rw [hg]; exact he)
      rw [hg] at c1
      rw [hs] at c1
      injection c1 with c1
      subst c1
      have hr := stepW_range wf hs
      refine ⟨c2, ?_, hr.2.1, hr.2.2⟩
      rw [(stepW_some hs).2]
      exact hW.shut _ i2 e he
  have hstep : ∀ b, Rch g w down to a b → b.1 ≠ to → nxtOf g b.1 to ≠ [] ∧ ∀ e ∈ nxtOf g b.1 to, ∃ c, stepW g w down b e = some c := by
    intro b hb hne
    obtain ⟨i1, i2, i3, i4⟩ := hall b hb
    have hn := hW.pass.node _ i2
    have hpos := (nxt_some hc (a := b.1) (b := to)).2 (dist_pos hf hn.2 hne)
    refine ⟨fun e => by rw [e] at hpos; simp at hpos, fun e he => ?_⟩
    obtain ⟨m, hm, hme⟩ := List.getElem_of_mem i2
    have hg : gi W (m : Int) = b.1 := by rw [gi_get (by simpa using hm)]; exact hme
    obtain ⟨c, c1, -⟩ := h.done (m : Int) (by omega) (by omega) b.2 i3 i4 (by rw [hg]; exact i1) e (by rw [hg]; exact he)
    rw [hg] at c1
    exact ⟨c, c1⟩
  by_cases hto : 0 ≤ to ∧ to < g.nodes
  case neg =>
    exfalso
    have h1 := (hW.pass.node _ hW.pass.src).2
    unfold distOf at h1
    rw [if_neg (fun hh => hto hh.2)] at h1
    omega
  by_cases h1 : cntB (gi l to) 6 = 1
  · rw [if_pos h1]
    obtain ⟨⟨l0, l1⟩, h2, h3⟩ := cnt_one h1
    refine endN_of hf hstep fun b hb hbt => ?_
    obtain ⟨i1, i2, i3, i4⟩ := hall b hb
    have : b.2 = lastB (gi l to) 6 := h3 b.2 i3 i4 (by rw [← hbt]; exact i1)
    exact Prod.ext hbt this
  · rw [if_neg h1]
    cases hE : endN g w down to a with
    | none => rfl
    | some r =>
      exfalso
      have hr := endN_reach hf hE
      have hrt := endN_at hf hE
      obtain ⟨i1, i2, i3, i4⟩ := hall r hr
      refine h1 ?_
      have := cnt_uniq (r := gi l to) (k := r.2) i3 (by rw [← hrt]; exact i1) (n := 6) fun j j0 j1 hj => by
        have hd := h.sound (to, j) hto.1 hto.2 j0 j1 hj
        have := endN_one hf hE hd rfl
        rw [← this]
      rw [this, if_pos (by omega)]
theorem zrep_r6 (n : Nat) : zrep [.bool false, .bool false, .bool false, .bool false, .bool false, .bool false] n = rows (List.replicate n (default : R6)) := by
  induction n with
  | zero => rfl
  | succ n ih =>
    rw [List.replicate_succ, show rows (default :: List.replicate n (default : R6)) = Enc.cells (default : R6) ++ rows (List.replicate n (default : R6)) from rfl, ← ih]
    rfl
noncomputable def segN (g : Graph) (w : Want) (down : List Bool) (a : St) (to : Int) : Option St := if a.1 = to then none else endN g w down to a
theorem node_c (g : Graph) (w : Want) (down : List Bool) (h0 : optErr g w down = 0) (a : St) (to : Int) (H : AHeap) : APure Try.prog 93 [mapAV g w down, stateAV a, iv to] H (stepAV (segN g w down a to)) := by
  intro Q h
  have wf := wfit_of (optErr_right h0)
  have hc := (rightErr_ok (optErr_right h0)).1
  have hf := wf.fit
  have fn := hf.n2
  have td := fun H => tdist_c g hc a.1 to H
  by_cases hto : a.1 = to
  · rw [segN, if_pos hto] at h
    refine ACalls.of_code fn_expand_Map_node ?_
    simp -implicitDefEqProofs only [sc_expand_Map_node, mapAV, stateAV, go_sem, Nat.reduceEqDiff, Nat.reduceAdd, Nat.reduceMul, Nat.reduceLeDiff, Nat.reduceSub, Nat.reduceLT, Nat.reduceBEq, Int.reduceToNat, reduceCtorEq, ↓reduceIte, Int.reduceEq, Int.reduceNeg, Int.reduceLT, Int.reduceLE, Int.reduceAdd, Int.reduceSub, Int.reduceMul]
    repeat' (first | simp -implicitDefEqProofs only [go_sem, Nat.reduceEqDiff, Nat.reduceAdd, Nat.reduceMul, Nat.reduceLeDiff, Nat.reduceSub, Nat.reduceLT, Nat.reduceBEq, Int.reduceToNat, reduceCtorEq, ↓reduceIte, Int.reduceEq, Int.reduceNeg, Int.reduceLT, Int.reduceLE, Int.reduceAdd, Int.reduceSub, Int.reduceMul] | simp -implicitDefEqProofs (disch := omega) only [iaq_vec, iao_arr, iaq_raw, rd_map, wrap_id, binq_quo, binq_rem, binq_shl, binq_shr, tdiv_pos, tmod_pos, if_pos, exV_some, Option.map_some] | ((first | with_reducible apply exIf_dec | ((with_reducible apply exGd_dec); focus exact rfl) | ((with_reducible apply exGq_dec); focus exact rfl) | with_reducible apply exIf_intro | ((with_reducible apply exGd_intro); focus exact rfl) | ((with_reducible apply exGq_intro); focus exact rfl)) <;> intro _) | with_reducible refine exC_pure (td _) ?_ | with_reducible refine exCq_pure (td _) ?_)
    all_goals first | exact h | (exfalso; omega) | skip
    done
  rw [segN, if_neg hto] at h
  by_cases hg : 0 ≤ distOf g a.1 to ∧ 0 ≤ a.2 ∧ a.2 < 6
  case neg =>
    have hE : endN g w down to a = none := by
      cases hE : endN g w down to a with
      | none => rfl
      | some r =>
        have := endN_range hf wf hto hE
        exact absurd ⟨by omega, this.1⟩ hg
    rw [hE] at h
    refine ACalls.of_code fn_expand_Map_node ?_
    simp -implicitDefEqProofs only [sc_expand_Map_node, mapAV, stateAV, go_sem, Nat.reduceEqDiff, Nat.reduceAdd, Nat.reduceMul, Nat.reduceLeDiff, Nat.reduceSub, Nat.reduceLT, Nat.reduceBEq, Int.reduceToNat, reduceCtorEq, ↓reduceIte, Int.reduceEq, Int.reduceNeg, Int.reduceLT, Int.reduceLE, Int.reduceAdd, Int.reduceSub, Int.reduceMul]
    repeat' (first | simp -implicitDefEqProofs only [go_sem, Nat.reduceEqDiff, Nat.reduceAdd, Nat.reduceMul, Nat.reduceLeDiff, Nat.reduceSub, Nat.reduceLT, Nat.reduceBEq, Int.reduceToNat, reduceCtorEq, ↓reduceIte, Int.reduceEq, Int.reduceNeg, Int.reduceLT, Int.reduceLE, Int.reduceAdd, Int.reduceSub, Int.reduceMul] | simp -implicitDefEqProofs (disch := omega) only [iaq_vec, iao_arr, iaq_raw, rd_map, wrap_id, binq_quo, binq_rem, binq_shl, binq_shr, tdiv_pos, tmod_pos, if_pos, exV_some, Option.map_some] | ((first | with_reducible apply exIf_dec | ((with_reducible apply exGd_dec); focus exact rfl) | ((with_reducible apply exGq_dec); focus exact rfl) | with_reducible apply exIf_intro | ((with_reducible apply exGd_intro); focus exact rfl) | ((with_reducible apply exGq_intro); focus exact rfl)) <;> intro _) | with_reducible refine exC_pure (td _) ?_ | with_reducible refine exCq_pure (td _) ?_)
    all_goals first | exact h | (exfalso; omega) | skip
    done
  obtain ⟨g0, ha⟩ := hg
  have hsrc : 0 ≤ a.1 ∧ a.1 < g.nodes := by
    unfold distOf at g0
    split at g0
    · rename_i hh; exact hh.1
    · omega
  have hn0 : (g.nodes.toNat : Int) = g.nodes := by omega
  have oc := fun H => order_c g w down hc a.1 to ⟨hsrc, g0⟩ H
  simp only [mapAV] at oc
  refine ACalls.forget (ACalls.of_code fn_expand_Map_node ?_)
  simp -implicitDefEqProofs only [sc_expand_Map_node, mapAV, stateAV, go_sem, Nat.reduceEqDiff, Nat.reduceAdd, Nat.reduceMul, Nat.reduceLeDiff, Nat.reduceSub, Nat.reduceLT, Nat.reduceBEq, Int.reduceToNat, reduceCtorEq, ↓reduceIte, Int.reduceEq, Int.reduceNeg, Int.reduceLT, Int.reduceLE, Int.reduceAdd, Int.reduceSub, Int.reduceMul]
  repeat' (first | simp -implicitDefEqProofs only [go_sem, Nat.reduceEqDiff, Nat.reduceAdd, Nat.reduceMul, Nat.reduceLeDiff, Nat.reduceSub, Nat.reduceLT, Nat.reduceBEq, Int.reduceToNat, reduceCtorEq, ↓reduceIte, Int.reduceEq, Int.reduceNeg, Int.reduceLT, Int.reduceLE, Int.reduceAdd, Int.reduceSub, Int.reduceMul] | simp -implicitDefEqProofs (disch := omega) only [iaq_vec, iao_arr, iaq_raw, rd_map, wrap_id, binq_quo, binq_rem, binq_shl, binq_shr, tdiv_pos, tmod_pos, if_pos, exV_some, Option.map_some] | ((first | with_reducible apply exIf_dec | ((with_reducible apply exGd_dec); focus exact rfl) | ((with_reducible apply exGq_dec); focus exact rfl) | with_reducible apply exIf_intro | ((with_reducible apply exGd_intro); focus exact rfl) | ((with_reducible apply exGq_intro); focus exact rfl)) <;> intro _) | with_reducible refine exC_pure (td _) ?_ | with_reducible refine exCq_pure (td _) ?_)
  all_goals first | (exfalso; omega) | skip
  refine exHmk_int (by omega) (by omega) (by simp only [maxLen]; omega) rfl fun b hb => ?_
  have hb : H b = none := hb
  rw [zrep_r6]
  obtain ⟨l0, hl0⟩ : ∃ l0 : List R6, l0 = List.replicate g.nodes.toNat default := ⟨_, rfl⟩
  have hll0 : l0.length = g.nodes.toNat := by rw [hl0, List.length_replicate]
  have hset := set_r6 (l := l0) (a := a.1) (k := a.2) hsrc.1 (by omega) ha.1 ha.2
  have hrl : (rows l0).length = g.nodes.toNat * 6 := by rw [rows_length, R6.sz_eq, hll0]
  rw [← hl0]
  have hbase : ∀ l : List R6, ∀ b' o, H b' = some o → upd H b (some (r6obj l g.nodes.toNat)) b' = some o := fun l b' o ho => by
    rw [upd_ne _ _ (by rintro rfl; rw [hb] at ho; cases ho)]; exact ho
  repeat' (first | simp -implicitDefEqProofs only [go_sem, Nat.reduceEqDiff, Nat.reduceAdd, Nat.reduceMul, Nat.reduceLeDiff, Nat.reduceSub, Nat.reduceLT, Nat.reduceBEq, Int.reduceToNat, reduceCtorEq, ↓reduceIte, Int.reduceEq, Int.reduceNeg, Int.reduceLT, Int.reduceLE, Int.reduceAdd, Int.reduceSub, Int.reduceMul] | simp -implicitDefEqProofs (disch := omega) only [upd_self, updH_upd, hset, hrl, iaq_vec, iao_arr, iaq_raw, rd_map, wrap_id, binq_quo, binq_rem, binq_shl, binq_shr, tdiv_pos, tmod_pos, if_pos, exV_some, Option.map_some] | ((first | with_reducible apply exIf_dec | ((with_reducible apply exGd_dec); focus exact rfl) | ((with_reducible apply exGq_dec); focus exact rfl) | with_reducible apply exIf_intro | ((with_reducible apply exGd_intro); focus exact rfl) | ((with_reducible apply exGq_intro); focus exact rfl)) <;> intro _))
  all_goals first | (exfalso; omega) | skip
  refine exC_intro (oc _) ?_
  rintro _ _ ⟨rfl, W, rfl, hW⟩
  simp -implicitDefEqProofs only [sl, go_sem, Nat.reduceEqDiff, Nat.reduceAdd, Nat.reduceMul, Nat.reduceLeDiff, Nat.reduceSub, Nat.reduceLT, Nat.reduceBEq, Int.reduceToNat, reduceCtorEq, ↓reduceIte, Int.reduceEq, Int.reduceNeg, Int.reduceLT, Int.reduceLE, Int.reduceAdd, Int.reduceSub, Int.reduceMul]
  repeat' (first | simp -implicitDefEqProofs only [go_sem, Nat.reduceEqDiff, Nat.reduceAdd, Nat.reduceMul, Nat.reduceLeDiff, Nat.reduceSub, Nat.reduceLT, Nat.reduceBEq, Int.reduceToNat, reduceCtorEq, ↓reduceIte, Int.reduceEq, Int.reduceNeg, Int.reduceLT, Int.reduceLE, Int.reduceAdd, Int.reduceSub, Int.reduceMul] | simp -implicitDefEqProofs (disch := omega) only [iaq_vec, iao_arr, iaq_raw, rd_map, wrap_id, binq_quo, binq_rem, binq_shl, binq_shr, tdiv_pos, tmod_pos, if_pos, exV_some, Option.map_some] | ((first | with_reducible apply exIf_dec | ((with_reducible apply exGd_dec); focus exact rfl) | ((with_reducible apply exGq_dec); focus exact rfl) | with_reducible apply exIf_intro | ((with_reducible apply exGd_intro); focus exact rfl) | ((with_reducible apply exGq_intro); focus exact rfl)) <;> intro _))
  all_goals first | (exfalso; omega) | skip
  have hm0 : ∀ d : St, mk6 l0 d = false := fun d => by
    unfold mk6
    rw [hl0]
    unfold gi
    rw [List.getD_eq_getElem?_getD, List.getElem?_replicate]
    split <;> rfl
  have hfirst : NInv g w down to a W (markL l0 a) 0 := ⟨by rw [markL_length]; omega, by rw [mk6_mark hsrc.1 (by omega) hsrc.1]; simp, fun d d0 d1 k0 k1 hm => by
    rw [mk6_mark hsrc.1 (by omega) d0, hm0, Bool.or_false, decide_eq_true_eq] at hm
    rw [hm]; exact .refl, fun p p0 p1 => by omega⟩
  refine exL_modH (fun x : Int × List R6 => [(59, .v (iv x.1))]) (fun _ => []) (fun x => upd H b (some (r6obj x.2 g.nodes.toNat))) (fun x => NInv g w down to a W x.2 x.1 ∧ 0 ≤ x.1 ∧ x.1 ≤ W.length) (fun x => (W.length - x.1).toNat) (0, markL l0 a) rfl ⟨hfirst, by simp, by simp⟩ ?_
  rintro ⟨i, l⟩ ⟨hinv, i0, i1⟩ ih
  dsimp only at hinv i0 i1 ih
  simp only [S.up, S.upH, ups, Abs.put, Nat.reduceEqDiff, ↓reduceIte, Nat.reduceAdd] at ih
  simp -implicitDefEqProofs only [congrArg KI.code sc_expand_Map_node_L1.eq_1, go_sem, Nat.reduceEqDiff, Nat.reduceAdd, Nat.reduceMul, Nat.reduceLeDiff, Nat.reduceSub, Nat.reduceLT, Nat.reduceBEq, Int.reduceToNat, reduceCtorEq, ↓reduceIte, Int.reduceEq, Int.reduceNeg, Int.reduceLT, Int.reduceLE, Int.reduceAdd, Int.reduceSub, Int.reduceMul]
  have hWn := pass_length hW.pass
  by_cases hi : i < W.length
  · have hnode := hW.pass.node _ (gi_mem i0 hi)
    have tn := fun H => tnext_c g hc (gi W i) to H
    simp only [ints] at tn
    have hlen := nxtOf_length g (gi W i) to
    have hfl := hf.few
    repeat' (first | simp -implicitDefEqProofs only [go_sem, Nat.reduceEqDiff, Nat.reduceAdd, Nat.reduceMul, Nat.reduceLeDiff, Nat.reduceSub, Nat.reduceLT, Nat.reduceBEq, Int.reduceToNat, reduceCtorEq, ↓reduceIte, Int.reduceEq, Int.reduceNeg, Int.reduceLT, Int.reduceLE, Int.reduceAdd, Int.reduceSub, Int.reduceMul] | simp -implicitDefEqProofs (disch := omega) only [iaq_vec, iao_arr, iaq_raw, rd_map, wrap_id, binq_quo, binq_rem, binq_shl, binq_shr, tdiv_pos, tmod_pos, if_pos, exV_some, Option.map_some] | ((first | with_reducible apply exIf_dec | ((with_reducible apply exGd_dec); focus exact rfl) | ((with_reducible apply exGq_dec); focus exact rfl) | with_reducible apply exIf_intro | ((with_reducible apply exGd_intro); focus exact rfl) | ((with_reducible apply exGq_intro); focus exact rfl)) <;> intro _) | with_reducible refine exC_pure (tn _) ?_ | with_reducible refine exCq_pure (tn _) ?_)
    all_goals first | (exfalso; omega) | skip
    refine exL_modH (fun x : Int × List R6 => [(71, .v (iv x.1))]) (fun _ => []) (fun x => upd H b (some (r6obj x.2 g.nodes.toNat))) (fun x => EInv g w down to a W x.2 i x.1 ∧ 0 ≤ x.1 ∧ x.1 ≤ (nxtOf g (gi W i) to).length) (fun x => ((nxtOf g (gi W i) to).length - x.1).toNat) (0, l) rfl ⟨⟨hinv, fun m m0 m1 => by dsimp only at m1; omega⟩, by simp, by simp⟩ ?_
    rintro ⟨j, u⟩ ⟨hei, j0, j1⟩ ih2
    dsimp only at hei j0 j1 ih2
    simp only [S.up, S.upH, ups, Abs.put, Nat.reduceEqDiff, ↓reduceIte, Nat.reduceAdd] at ih2
    simp -implicitDefEqProofs only [congrArg KI.code sc_expand_Map_node_L0.eq_1, go_sem, Nat.reduceEqDiff, Nat.reduceAdd, Nat.reduceMul, Nat.reduceLeDiff, Nat.reduceSub, Nat.reduceLT, Nat.reduceBEq, Int.reduceToNat, reduceCtorEq, ↓reduceIte, Int.reduceEq, Int.reduceNeg, Int.reduceLT, Int.reduceLE, Int.reduceAdd, Int.reduceSub, Int.reduceMul]
    have hul := hei.n.len
    by_cases hj : j < (nxtOf g (gi W i) to).length
    · have hmem := gi_mem j0 hj
      obtain ⟨e0, e1, -, -, -, -⟩ := nxt_mem hf hmem
      have on := on_c g w down h0 u hul b g.nodes.toNat g.nodes.toNat (by omega) g.nodes.toNat (gi W i) (gi (nxtOf g (gi W i) to) j) hnode.1 ⟨by omega, by omega⟩ (upd H b (some (r6obj u g.nodes.toNat))) (upd_self _ _ _)
      simp only [mapAV] at on
      clear ih
      repeat' (first | simp -implicitDefEqProofs only [go_sem, Nat.reduceEqDiff, Nat.reduceAdd, Nat.reduceMul, Nat.reduceLeDiff, Nat.reduceSub, Nat.reduceLT, Nat.reduceBEq, Int.reduceToNat, reduceCtorEq, ↓reduceIte, Int.reduceEq, Int.reduceNeg, Int.reduceLT, Int.reduceLE, Int.reduceAdd, Int.reduceSub, Int.reduceMul] | simp -implicitDefEqProofs (disch := omega) only [iaq_vec, iao_arr, iaq_raw, rd_map, wrap_id, binq_quo, binq_rem, binq_shl, binq_shr, tdiv_pos, tmod_pos, if_pos, exV_some, Option.map_some] | ((first | with_reducible apply exIf_dec | ((with_reducible apply exGd_dec); focus exact rfl) | ((with_reducible apply exGq_dec); focus exact rfl) | with_reducible apply exIf_intro | ((with_reducible apply exGd_intro); focus exact rfl) | ((with_reducible apply exGq_intro); focus exact rfl)) <;> intro _))
      all_goals first | (exfalso; omega) | skip
      refine exC_intro on ?_
      rintro _ _ ⟨u', hu', rfl, ⟨rfl, ho⟩ | ⟨rfl, ho⟩⟩
      · have hE := hei.fail wf hW i0 hi j0 hj ho
        rw [hE] at h
        clear ih2
        simp -implicitDefEqProofs only [updH_upd, go_sem, Nat.reduceEqDiff, Nat.reduceAdd, Nat.reduceMul, Nat.reduceLeDiff, Nat.reduceSub, Nat.reduceLT, Nat.reduceBEq, Int.reduceToNat, reduceCtorEq, ↓reduceIte, Int.reduceEq, Int.reduceNeg, Int.reduceLT, Int.reduceLE, Int.reduceAdd, Int.reduceSub, Int.reduceMul]
        repeat' (first | simp -implicitDefEqProofs only [go_sem, Nat.reduceEqDiff, Nat.reduceAdd, Nat.reduceMul, Nat.reduceLeDiff, Nat.reduceSub, Nat.reduceLT, Nat.reduceBEq, Int.reduceToNat, reduceCtorEq, ↓reduceIte, Int.reduceEq, Int.reduceNeg, Int.reduceLT, Int.reduceLE, Int.reduceAdd, Int.reduceSub, Int.reduceMul] | simp -implicitDefEqProofs (disch := omega) only [updH_upd, iaq_vec, iao_arr, iaq_raw, rd_map, wrap_id, binq_quo, binq_rem, binq_shl, binq_shr, tdiv_pos, tmod_pos, if_pos, exV_some, Option.map_some] | ((first | with_reducible apply exIf_dec | ((with_reducible apply exGd_dec); focus exact rfl) | ((with_reducible apply exGq_dec); focus exact rfl) | with_reducible apply exIf_intro | ((with_reducible apply exGd_intro); focus exact rfl) | ((with_reducible apply exGq_intro); focus exact rfl)) <;> intro _))
        all_goals first | exact ⟨hbase _, h⟩ | (exfalso; omega) | skip
        done
      · have nx := ih2 (j + 1, u') ⟨hei.step wf hW i0 hi j0 hj ho, by dsimp only; omega, by dsimp only; omega⟩ (by dsimp only; omega)
        clear ih2
        simp -implicitDefEqProofs only [updH_upd, go_sem, Nat.reduceEqDiff, Nat.reduceAdd, Nat.reduceMul, Nat.reduceLeDiff, Nat.reduceSub, Nat.reduceLT, Nat.reduceBEq, Int.reduceToNat, reduceCtorEq, ↓reduceIte, Int.reduceEq, Int.reduceNeg, Int.reduceLT, Int.reduceLE, Int.reduceAdd, Int.reduceSub, Int.reduceMul]
        repeat' (first | simp -implicitDefEqProofs only [go_sem, Nat.reduceEqDiff, Nat.reduceAdd, Nat.reduceMul, Nat.reduceLeDiff, Nat.reduceSub, Nat.reduceLT, Nat.reduceBEq, Int.reduceToNat, reduceCtorEq, ↓reduceIte, Int.reduceEq, Int.reduceNeg, Int.reduceLT, Int.reduceLE, Int.reduceAdd, Int.reduceSub, Int.reduceMul] | simp -implicitDefEqProofs (disch := omega) only [updH_upd, iaq_vec, iao_arr, iaq_raw, rd_map, wrap_id, binq_quo, binq_rem, binq_shl, binq_shr, tdiv_pos, tmod_pos, if_pos, exV_some, Option.map_some] | ((first | with_reducible apply exIf_dec | ((with_reducible apply exGd_dec); focus exact rfl) | ((with_reducible apply exGq_dec); focus exact rfl) | with_reducible apply exIf_intro | ((with_reducible apply exGd_intro); focus exact rfl) | ((with_reducible apply exGq_intro); focus exact rfl)) <;> intro _))
        all_goals first | exact nx | (exfalso; omega) | skip
        done
    · have nx := ih (i + 1, u) ⟨hei.all (by omega), by dsimp only; omega, by dsimp only; omega⟩ (by dsimp only; omega)
      clear ih ih2
      repeat' (first | simp -implicitDefEqProofs only [go_sem, Nat.reduceEqDiff, Nat.reduceAdd, Nat.reduceMul, Nat.reduceLeDiff, Nat.reduceSub, Nat.reduceLT, Nat.reduceBEq, Int.reduceToNat, reduceCtorEq, ↓reduceIte, Int.reduceEq, Int.reduceNeg, Int.reduceLT, Int.reduceLE, Int.reduceAdd, Int.reduceSub, Int.reduceMul] | simp -implicitDefEqProofs (disch := omega) only [iaq_vec, iao_arr, iaq_raw, rd_map, wrap_id, binq_quo, binq_rem, binq_shl, binq_shr, tdiv_pos, tmod_pos, if_pos, exV_some, Option.map_some] | ((first | with_reducible apply exIf_dec | ((with_reducible apply exGd_dec); focus exact rfl) | ((with_reducible apply exGq_dec); focus exact rfl) | with_reducible apply exIf_intro | ((with_reducible apply exGd_intro); focus exact rfl) | ((with_reducible apply exGq_intro); focus exact rfl)) <;> intro _))
      all_goals first | exact nx | (exfalso; omega) | skip
      done
  · obtain rfl : i = W.length := by omega
    have hE := hinv.fin wf hc hW ha
    have hlen := hinv.len
    have hto2 : 0 ≤ to ∧ to < g.nodes := by
      unfold distOf at g0
      split at g0
      · rename_i hh; exact hh.2
      · omega
    have onl := fun H => only_c (gi l to) H
    simp only [R6.cells_eq] at onl
    clear ih
    rw [hE] at h
    by_cases h1 : cntB (gi l to) 6 = 1
    · rw [if_pos h1] at h
      rw [decide_eq_true h1] at onl
      repeat' (first | simp -implicitDefEqProofs only [go_sem, Nat.reduceEqDiff, Nat.reduceAdd, Nat.reduceMul, Nat.reduceLeDiff, Nat.reduceSub, Nat.reduceLT, Nat.reduceBEq, Int.reduceToNat, reduceCtorEq, ↓reduceIte, Int.reduceEq, Int.reduceNeg, Int.reduceLT, Int.reduceLE, Int.reduceAdd, Int.reduceSub, Int.reduceMul] | simp -implicitDefEqProofs (disch := omega) only [upd_self, rd_r6, R6.cells_eq, iaq_vec, iao_arr, iaq_raw, rd_map, wrap_id, binq_quo, binq_rem, binq_shl, binq_shr, tdiv_pos, tmod_pos, if_pos, exV_some, Option.map_some] | ((first | with_reducible apply exIf_dec | ((with_reducible apply exGd_dec); focus exact rfl) | ((with_reducible apply exGq_dec); focus exact rfl) | with_reducible apply exIf_intro | ((with_reducible apply exGd_intro); focus exact rfl) | ((with_reducible apply exGq_intro); focus exact rfl)) <;> intro _) | with_reducible refine exC_pure (onl _) ?_ | with_reducible refine exCq_pure (onl _) ?_)
      all_goals first | exact ⟨hbase _, h⟩ | (exfalso; omega) | skip
      done
    · rw [if_neg h1] at h
      rw [decide_eq_false h1] at onl
      repeat' (first | simp -implicitDefEqProofs only [go_sem, Nat.reduceEqDiff, Nat.reduceAdd, Nat.reduceMul, Nat.reduceLeDiff, Nat.reduceSub, Nat.reduceLT, Nat.reduceBEq, Int.reduceToNat, reduceCtorEq, ↓reduceIte, Int.reduceEq, Int.reduceNeg, Int.reduceLT, Int.reduceLE, Int.reduceAdd, Int.reduceSub, Int.reduceMul] | simp -implicitDefEqProofs (disch := omega) only [upd_self, rd_r6, R6.cells_eq, iaq_vec, iao_arr, iaq_raw, rd_map, wrap_id, binq_quo, binq_rem, binq_shl, binq_shr, tdiv_pos, tmod_pos, if_pos, exV_some, Option.map_some] | ((first | with_reducible apply exIf_dec | ((with_reducible apply exGd_dec); focus exact rfl) | ((with_reducible apply exGq_dec); focus exact rfl) | with_reducible apply exIf_intro | ((with_reducible apply exGd_intro); focus exact rfl) | ((with_reducible apply exGq_intro); focus exact rfl)) <;> intro _) | with_reducible refine exC_pure (onl _) ?_ | with_reducible refine exCq_pure (onl _) ?_)
      all_goals first | exact ⟨hbase _, h⟩ | (exfalso; omega) | skip
      done
end Go.Proofs.Ytejmcijcdhoogaa
end

section
/- Where a segment leads; the map of a want. -/
namespace Go.Proofs.Ytejmcijcdhoogaa
open Go Abs
attribute [local irreducible] EX exL exG exC exCq exS exV exIf exGd exGq
set_option maxHeartbeats 4000000

structure Sg where
  edge : Bool
  to : Int
  deriving DecidableEq, Inhabited
instance : Enc Sg where
  sz := 2
  cells s := [bv s.edge, iv s.to]
  len _ := rfl
  pos := by decide
theorem Sg.cells_eq (s : Sg) : Enc.cells s = [bv s.edge, iv s.to] := rfl
theorem Sg.sz_eq : Enc.sz Sg = 2 := rfl
def Sg.av (s : Sg) : AV := .agg (Enc.cells s)
noncomputable def segW (g : Graph) (w : Want) (down : List Bool) (a : St) (s : Sg) : Option St := if s.edge = true then stepW g w down a s.to else segN g w down a s.to
theorem seg_c (g : Graph) (w : Want) (down : List Bool) (h0 : optErr g w down = 0) (a : St) (s : Sg) (hs : -9223372036854775808 ≤ s.to ∧ s.to ≤ 9223372036854775807) (H : AHeap) : APure Try.prog 74 [mapAV g w down, stateAV a, s.av] H (stepAV (segW g w down a s)) := by
  intro Q h
  have c1 := fun H => wstep_c g w down a.1 a.2 s.to hs H
  have c2 := fun H => node_c g w down h0 a s.to H
  obtain ⟨e, to⟩ := s
  cases e with
  | true =>
    rw [segW, if_pos rfl] at h
    simp only [mapAV, stateAV] at c1 c2
    refine ACalls.of_code fn_expand_Map_Seg ?_
    simp -implicitDefEqProofs only [sc_expand_Map_Seg, mapAV, stateAV, Sg.av, Sg.cells_eq, go_sem, Nat.reduceEqDiff, Nat.reduceAdd, Nat.reduceMul, Nat.reduceLeDiff, Nat.reduceSub, Nat.reduceLT, Nat.reduceBEq, Int.reduceToNat, reduceCtorEq, ↓reduceIte, Int.reduceEq, Int.reduceNeg, Int.reduceLT, Int.reduceLE, Int.reduceAdd, Int.reduceSub, Int.reduceMul]
    cases hr : stepW g w down a to with
    | none =>
      rw [hr] at h
      simp only [stepAV, stateAV, hr] at h c1
      repeat' (first | simp -implicitDefEqProofs only [go_sem, Nat.reduceEqDiff, Nat.reduceAdd, Nat.reduceMul, Nat.reduceLeDiff, Nat.reduceSub, Nat.reduceLT, Nat.reduceBEq, Int.reduceToNat, reduceCtorEq, ↓reduceIte, Int.reduceEq, Int.reduceNeg, Int.reduceLT, Int.reduceLE, Int.reduceAdd, Int.reduceSub, Int.reduceMul] | simp -implicitDefEqProofs (disch := omega) only [iaq_vec, iao_arr, iaq_raw, rd_map, wrap_id, binq_quo, binq_rem, binq_shl, binq_shr, tdiv_pos, tmod_pos, if_pos, exV_some, Option.map_some] | ((first | with_reducible apply exIf_dec | ((with_reducible apply exGd_dec); focus exact rfl) | ((with_reducible apply exGq_dec); focus exact rfl) | with_reducible apply exIf_intro | ((with_reducible apply exGd_intro); focus exact rfl) | ((with_reducible apply exGq_intro); focus exact rfl)) <;> intro _) | with_reducible refine exC_pure (c1 _) ?_ | with_reducible refine exCq_pure (c1 _) ?_)
      all_goals first | exact h | (exfalso; omega) | skip
      done
    | some c =>
      rw [hr] at h
      simp only [stepAV, stateAV, hr] at h c1
      repeat' (first | simp -implicitDefEqProofs only [go_sem, Nat.reduceEqDiff, Nat.reduceAdd, Nat.reduceMul, Nat.reduceLeDiff, Nat.reduceSub, Nat.reduceLT, Nat.reduceBEq, Int.reduceToNat, reduceCtorEq, ↓reduceIte, Int.reduceEq, Int.reduceNeg, Int.reduceLT, Int.reduceLE, Int.reduceAdd, Int.reduceSub, Int.reduceMul] | simp -implicitDefEqProofs (disch := omega) only [iaq_vec, iao_arr, iaq_raw, rd_map, wrap_id, binq_quo, binq_rem, binq_shl, binq_shr, tdiv_pos, tmod_pos, if_pos, exV_some, Option.map_some] | ((first | with_reducible apply exIf_dec | ((with_reducible apply exGd_dec); focus exact rfl) | ((with_reducible apply exGq_dec); focus exact rfl) | with_reducible apply exIf_intro | ((with_reducible apply exGd_intro); focus exact rfl) | ((with_reducible apply exGq_intro); focus exact rfl)) <;> intro _) | with_reducible refine exC_pure (c1 _) ?_ | with_reducible refine exCq_pure (c1 _) ?_)
      all_goals first | exact h | (exfalso; omega) | skip
      done
  | false =>
    rw [segW, if_neg (by simp)] at h
    simp only [mapAV, stateAV] at c1 c2
    refine ACalls.of_code fn_expand_Map_Seg ?_
    simp -implicitDefEqProofs only [sc_expand_Map_Seg, mapAV, stateAV, Sg.av, Sg.cells_eq, go_sem, Nat.reduceEqDiff, Nat.reduceAdd, Nat.reduceMul, Nat.reduceLeDiff, Nat.reduceSub, Nat.reduceLT, Nat.reduceBEq, Int.reduceToNat, reduceCtorEq, ↓reduceIte, Int.reduceEq, Int.reduceNeg, Int.reduceLT, Int.reduceLE, Int.reduceAdd, Int.reduceSub, Int.reduceMul]
    cases hr : segN g w down a to with
    | none =>
      rw [hr] at h
      simp only [stepAV, stateAV, hr] at h c2
      repeat' (first | simp -implicitDefEqProofs only [go_sem, Nat.reduceEqDiff, Nat.reduceAdd, Nat.reduceMul, Nat.reduceLeDiff, Nat.reduceSub, Nat.reduceLT, Nat.reduceBEq, Int.reduceToNat, reduceCtorEq, ↓reduceIte, Int.reduceEq, Int.reduceNeg, Int.reduceLT, Int.reduceLE, Int.reduceAdd, Int.reduceSub, Int.reduceMul] | simp -implicitDefEqProofs (disch := omega) only [iaq_vec, iao_arr, iaq_raw, rd_map, wrap_id, binq_quo, binq_rem, binq_shl, binq_shr, tdiv_pos, tmod_pos, if_pos, exV_some, Option.map_some] | ((first | with_reducible apply exIf_dec | ((with_reducible apply exGd_dec); focus exact rfl) | ((with_reducible apply exGq_dec); focus exact rfl) | with_reducible apply exIf_intro | ((with_reducible apply exGd_intro); focus exact rfl) | ((with_reducible apply exGq_intro); focus exact rfl)) <;> intro _) | with_reducible refine exC_pure (c2 _) ?_ | with_reducible refine exCq_pure (c2 _) ?_)
      all_goals first | exact h | (exfalso; omega) | skip
      done
    | some c =>
      rw [hr] at h
      simp only [stepAV, stateAV, hr] at h c2
      repeat' (first | simp -implicitDefEqProofs only [go_sem, Nat.reduceEqDiff, Nat.reduceAdd, Nat.reduceMul, Nat.reduceLeDiff, Nat.reduceSub, Nat.reduceLT, Nat.reduceBEq, Int.reduceToNat, reduceCtorEq, ↓reduceIte, Int.reduceEq, Int.reduceNeg, Int.reduceLT, Int.reduceLE, Int.reduceAdd, Int.reduceSub, Int.reduceMul] | simp -implicitDefEqProofs (disch := omega) only [iaq_vec, iao_arr, iaq_raw, rd_map, wrap_id, binq_quo, binq_rem, binq_shl, binq_shr, tdiv_pos, tmod_pos, if_pos, exV_some, Option.map_some] | ((first | with_reducible apply exIf_dec | ((with_reducible apply exGd_dec); focus exact rfl) | ((with_reducible apply exGq_dec); focus exact rfl) | with_reducible apply exIf_intro | ((with_reducible apply exGd_intro); focus exact rfl) | ((with_reducible apply exGq_intro); focus exact rfl)) <;> intro _) | with_reducible refine exC_pure (c2 _) ?_ | with_reducible refine exCq_pure (c2 _) ?_)
      all_goals first | exact h | (exfalso; omega) | skip
      done
theorem mnodes_c (g : Graph) (w : Want) (down : List Bool) (H : AHeap) : APure Try.prog 75 [mapAV g w down] H (iv g.nodes) := by
  intro Q h
  refine ACalls.of_code fn_expand_Map_Nodes ?_
  simp -implicitDefEqProofs only [sc_expand_Map_Nodes, mapAV, go_sem, Nat.reduceEqDiff, Nat.reduceAdd, Nat.reduceMul, Nat.reduceLeDiff, Nat.reduceSub, Nat.reduceLT, Nat.reduceBEq, Int.reduceToNat, reduceCtorEq, ↓reduceIte, Int.reduceEq, Int.reduceNeg, Int.reduceLT, Int.reduceLE, Int.reduceAdd, Int.reduceSub, Int.reduceMul]
  repeat' (first | simp -implicitDefEqProofs only [go_sem, Nat.reduceEqDiff, Nat.reduceAdd, Nat.reduceMul, Nat.reduceLeDiff, Nat.reduceSub, Nat.reduceLT, Nat.reduceBEq, Int.reduceToNat, reduceCtorEq, ↓reduceIte, Int.reduceEq, Int.reduceNeg, Int.reduceLT, Int.reduceLE, Int.reduceAdd, Int.reduceSub, Int.reduceMul] | simp -implicitDefEqProofs (disch := omega) only [iaq_vec, iao_arr, iaq_raw, rd_map, wrap_id, binq_quo, binq_rem, binq_shl, binq_shr, tdiv_pos, tmod_pos, if_pos, exV_some, Option.map_some] | ((first | with_reducible apply exIf_dec | ((with_reducible apply exGd_dec); focus exact rfl) | ((with_reducible apply exGq_dec); focus exact rfl) | with_reducible apply exIf_intro | ((with_reducible apply exGd_intro); focus exact rfl) | ((with_reducible apply exGq_intro); focus exact rfl)) <;> intro _))
  all_goals first | exact h | skip
  done
theorem medges_c (g : Graph) (hf : Fit g) (w : Want) (down : List Bool) (H : AHeap) : APure Try.prog 76 [mapAV g w down] H (iv (2 * g.links.length)) := by
  intro Q h
  have := hf.few
  refine ACalls.of_code fn_expand_Map_Edges ?_
  simp -implicitDefEqProofs only [sc_expand_Map_Edges, mapAV, go_sem, Nat.reduceEqDiff, Nat.reduceAdd, Nat.reduceMul, Nat.reduceLeDiff, Nat.reduceSub, Nat.reduceLT, Nat.reduceBEq, Int.reduceToNat, reduceCtorEq, ↓reduceIte, Int.reduceEq, Int.reduceNeg, Int.reduceLT, Int.reduceLE, Int.reduceAdd, Int.reduceSub, Int.reduceMul]
  repeat' (first | simp -implicitDefEqProofs only [go_sem, Nat.reduceEqDiff, Nat.reduceAdd, Nat.reduceMul, Nat.reduceLeDiff, Nat.reduceSub, Nat.reduceLT, Nat.reduceBEq, Int.reduceToNat, reduceCtorEq, ↓reduceIte, Int.reduceEq, Int.reduceNeg, Int.reduceLT, Int.reduceLE, Int.reduceAdd, Int.reduceSub, Int.reduceMul] | simp -implicitDefEqProofs (disch := omega) only [iaq_vec, iao_arr, iaq_raw, rd_map, wrap_id, binq_quo, binq_rem, binq_shl, binq_shr, tdiv_pos, tmod_pos, if_pos, exV_some, Option.map_some] | ((first | with_reducible apply exIf_dec | ((with_reducible apply exGd_dec); focus exact rfl) | ((with_reducible apply exGq_dec); focus exact rfl) | with_reducible apply exIf_intro | ((with_reducible apply exGd_intro); focus exact rfl) | ((with_reducible apply exGq_intro); focus exact rfl)) <;> intro _))
  all_goals first | exact h | skip
  done
theorem enew_c (g : Graph) (hb : g.links.length * 32 ≤ 140737488351232) (hn : g.nl = true → g.links = []) (w : Want) (hw : w.ok) (nl : Bool) (down : List Bool) (H : AHeap) :
    APure Try.prog 41 [tab g, w.av, blv nl down] H (if optErr g w down = 0 then .tup [mapAV g w down, iv 0] else .tup [.raw (.pointer none), iv (optErr g w down)]) := by
  intro Q h
  have c1 := fun H => tgraph_c g hb hn H
  have c2 := fun H => onew_c g w nl down hw H
  simp only [tab, tabCells, Graph.av, Want.av, blv, sl] at c1 c2
  refine ACalls.of_code fn_expand_New ?_
  simp -implicitDefEqProofs only [sc_expand_New, tab, tabCells, Want.av, blv, sl, go_sem, Nat.reduceEqDiff, Nat.reduceAdd, Nat.reduceMul, Nat.reduceLeDiff, Nat.reduceSub, Nat.reduceLT, Nat.reduceBEq, Int.reduceToNat, reduceCtorEq, ↓reduceIte, Int.reduceEq, Int.reduceNeg, Int.reduceLT, Int.reduceLE, Int.reduceAdd, Int.reduceSub, Int.reduceMul]
  by_cases h0 : optErr g w down = 0
  · rw [if_pos h0] at h
    rw [h0] at c2
    have hw2 : waysAV g w down = ways g w down := by rw [waysAV, if_pos h0]
    rw [mapAV, tab, tabCells] at h
    rw [hw2] at h c2
    rw [ways] at h c2
    repeat' (first | simp -implicitDefEqProofs only [go_sem, Nat.reduceEqDiff, Nat.reduceAdd, Nat.reduceMul, Nat.reduceLeDiff, Nat.reduceSub, Nat.reduceLT, Nat.reduceBEq, Int.reduceToNat, reduceCtorEq, ↓reduceIte, Int.reduceEq, Int.reduceNeg, Int.reduceLT, Int.reduceLE, Int.reduceAdd, Int.reduceSub, Int.reduceMul] | simp -implicitDefEqProofs (disch := omega) only [iaq_vec, iao_arr, iaq_raw, rd_map, wrap_id, binq_quo, binq_rem, binq_shl, binq_shr, tdiv_pos, tmod_pos, if_pos, exV_some, Option.map_some] | ((first | with_reducible apply exIf_dec | ((with_reducible apply exGd_dec); focus exact rfl) | ((with_reducible apply exGq_dec); focus exact rfl) | with_reducible apply exIf_intro | ((with_reducible apply exGd_intro); focus exact rfl) | ((with_reducible apply exGq_intro); focus exact rfl)) <;> intro _) | with_reducible refine exC_pure (c1 _) ?_ | with_reducible refine exCq_pure (c1 _) ?_ | with_reducible refine exC_pure (c2 _) ?_ | with_reducible refine exCq_pure (c2 _) ?_)
    all_goals first | exact h | (exfalso; omega) | skip
    done
  · rw [if_neg h0] at h
    repeat' (first | simp -implicitDefEqProofs only [go_sem, Nat.reduceEqDiff, Nat.reduceAdd, Nat.reduceMul, Nat.reduceLeDiff, Nat.reduceSub, Nat.reduceLT, Nat.reduceBEq, Int.reduceToNat, reduceCtorEq, ↓reduceIte, Int.reduceEq, Int.reduceNeg, Int.reduceLT, Int.reduceLE, Int.reduceAdd, Int.reduceSub, Int.reduceMul] | simp -implicitDefEqProofs (disch := omega) only [iaq_vec, iao_arr, iaq_raw, rd_map, wrap_id, binq_quo, binq_rem, binq_shl, binq_shr, tdiv_pos, tmod_pos, if_pos, exV_some, Option.map_some] | ((first | with_reducible apply exIf_dec | ((with_reducible apply exGd_dec); focus exact rfl) | ((with_reducible apply exGq_dec); focus exact rfl) | with_reducible apply exIf_intro | ((with_reducible apply exGd_intro); focus exact rfl) | ((with_reducible apply exGq_intro); focus exact rfl)) <;> intro _) | with_reducible refine exC_pure (c1 _) ?_ | with_reducible refine exCq_pure (c1 _) ?_ | with_reducible refine exC_pure (c2 _) ?_ | with_reducible refine exCq_pure (c2 _) ?_)
    all_goals first | exact h | (exfalso; omega) | skip
    done
end Go.Proofs.Ytejmcijcdhoogaa
end

section
/- All segments that lead on from a state. -/
namespace Go.Proofs.Ytejmcijcdhoogaa
open Go Abs
attribute [local irreducible] EX exL exG exC exCq exS exV exIf exGd exGq
set_option maxHeartbeats 4000000
theorem bx_list (c : AV) (cs : List AV) (o : Nat) : bx (c :: cs) o = .box (c :: cs) o := rfl
attribute [go_sem] bx_list

structure Ld where
  s : Sg
  to : St
  deriving DecidableEq, Inhabited
instance : Enc Ld where
  sz := 4
  cells l := [bv l.s.edge, iv l.s.to, iv l.to.1, iv l.to.2]
  len _ := rfl
  pos := by decide
theorem Ld.cells_eq (l : Ld) : Enc.cells l = [bv l.s.edge, iv l.s.to, iv l.to.1, iv l.to.2] := rfl
theorem Ld.sz_eq : Enc.sz Ld = 4 := rfl
theorem rd_ld {l : List Ld} {i : Int} (h0 : 0 ≤ i) (h1 : i < l.length) : rdV (rows l) (i.toNat * 4) 4 true = some (.agg [bv (gi l i).s.edge, iv (gi l i).s.to, iv (gi l i).to.1, iv (gi l i).to.2]) := rd_row rfl h0 h1
/-- a segment, and where it leads -/
noncomputable def ldO (g : Graph) (w : Want) (down : List Bool) (a : St) (s : Sg) : Option Ld := (segW g w down a s).map fun c => ⟨s, c⟩
def segsN (n : Int) : List Sg := (List.range n.toNat).map fun k : Nat => ⟨false, (k : Int)⟩
def segsE (n : Int) : List Sg := (List.range n.toNat).map fun k : Nat => ⟨true, (k : Int)⟩
def segsA (g : Graph) : List Sg := segsN g.nodes ++ segsE (2 * g.links.length)
theorem segsN_succ {n : Int} (h : 0 ≤ n) : segsN (n + 1) = segsN n ++ [⟨false, n⟩] := by
  unfold segsN
  rw [show (n + 1).toNat = n.toNat + 1 by omega, List.range_succ, List.map_append]
  simp [Int.toNat_of_nonneg h]
theorem segsE_succ {n : Int} (h : 0 ≤ n) : segsE (n + 1) = segsE n ++ [⟨true, n⟩] := by
  unfold segsE
  rw [show (n + 1).toNat = n.toNat + 1 by omega, List.range_succ, List.map_append]
  simp [Int.toNat_of_nonneg h]
noncomputable def leadsL (g : Graph) (w : Want) (down : List Bool) (a : St) : List Ld := (segsA g).filterMap (ldO g w down a)
noncomputable def leadsAV (g : Graph) (w : Want) (down : List Bool) (a : St) : AV := .vec (leadsL g w down a).isEmpty (rows (leadsL g w down a)) (leadsL g w down a).length
abbrev stKey (a : St) : MK := .a [a.1, a.2]
def LeadsOK (g : Graph) (w : Want) (down : List Bool) (es : List (MK × AV)) : Prop := ∀ k v, mget es k = some v → ∃ a : St, k = stKey a ∧ v = leadsAV g w down a
theorem mget_mput {es : List (MK × AV)} {k k' : MK} {v : AV} : mget (mput es k v) k' = if k = k' then some v else mget es k' := by
  induction es with
  | nil => simp [mput, mget]
  | cons e es ih =>
    obtain ⟨q, u⟩ := e
    unfold mput
    by_cases h : q = k
    · subst h
      rw [if_pos rfl]
      by_cases h2 : q = k' <;> simp [mget, h2]
    · rw [if_neg h]
      unfold mget
      by_cases h2 : q = k'
      · subst h2
        rw [if_pos rfl, if_neg (fun e => h e.symm), if_pos rfl]
      · rw [if_neg h2, ih, if_neg h2]
theorem LeadsOK.put {g : Graph} {w : Want} {down : List Bool} {es : List (MK × AV)} (h : LeadsOK g w down es) (a : St) : LeadsOK g w down (mput es (stKey a) (leadsAV g w down a)) := by
  intro k v hv
  rw [mget_mput] at hv
  split at hv
  · rename_i e
    injection hv with hv
    exact ⟨a, e.symm, hv.symm⟩
  · exact h k v hv
/-- the list that grows, behind a variable that a closure has -/
def LAt (H0 H : AHeap) (lb : Nat) (L : List Ld) : Prop := (∀ b o, H0 b = some o → H b = some o) ∧ H0 lb = none ∧ ((L = [] ∧ H lb = some (.cells [.vec true [] 0] 93)) ∨
  ∃ b cap, H lb = some (.cells [.raw (.slice (some ⟨b, 0, none⟩) L.length cap)] 93) ∧ H b = some (.row (rows L) cap 96 4) ∧ b ≠ lb ∧ H0 b = none ∧ L.length ≤ cap ∧ L ≠ [])
theorem LAt.open_ {H0 H : AHeap} {lb : Nat} {L : List Ld} (h : LAt H0 H lb L) : ∃ Hb v, H lb = some (.cells [v] 93) ∧ OnN Hb H 96 4 v (rows L) L.length ∧ Hb lb = some (.cells [v] 93) ∧ (∀ b o, H0 b = some o → Hb b = some o) := by
  obtain ⟨h1, h2, ⟨rfl, h3⟩ | ⟨b, cap, h3, h4, h5, h6, h7, h8⟩⟩ := h
  · exact ⟨H, _, h3, OnN.nil _ _ _, h3, h1⟩
  · refine ⟨upd H b none, _, h3, .inr ⟨fun b' o ho => ?_, by rw [rows_length, Ld.sz_eq], b, cap, rfl, h4, upd_self _ _ _, h7⟩, by rw [upd_ne _ _ h5]; exact h3, fun b' o ho => ?_⟩
    · by_cases e : b = b'
      · subst e; rw [upd_self] at ho; cases ho
      · rwa [upd_ne _ _ e] at ho
    · rw [upd_ne _ _ (by rintro rfl; rw [h6] at ho; cases ho)]
      exact h1 b' o ho
theorem LAt.shut_ {H0 Hb H1 : AHeap} {lb : Nat} {L : List Ld} {v v1 : AV} (hL : L ≠ []) (hlb : H0 lb = none) (hb : Hb lb = some (.cells [v] 93)) (hbase : ∀ b o, H0 b = some o → Hb b = some o) (h : OnH Hb H1 96 4 v1 (rows L) L.length) :
    LAt H0 (upd H1 lb (some (.cells [v1] 93))) lb L := by
  obtain ⟨h1, h2, b, cap, rfl, h3, h4, h5⟩ := h
  have hne : lb ≠ b := by rintro rfl; rw [h4] at hb; cases hb
  refine ⟨fun b' o ho => ?_, hlb, .inr ⟨b, cap, upd_self _ _ _, by rw [upd_ne _ _ hne]; exact h3, Ne.symm hne, ?_, h5, hL⟩⟩
  · rw [upd_ne _ _ (by rintro rfl; rw [hlb] at ho; cases ho)]
    exact h1 b' o (hbase b' o ho)
  · cases hq : H0 b with
    | none => rfl
    | some o => rw [hbase b o hq] at h4; cases h4
theorem LAt.more {H0 H : AHeap} {lb : Nat} {L : List Ld} (h : LAt H0 H lb L) {b5 : Nat} {x : HObj} (hb : H b5 = none) : LAt H0 (upd H b5 (some x)) lb L := by
  have keep : ∀ b o, H b = some o → upd H b5 (some x) b = some o := fun b o ho => by rw [upd_ne _ _ (by rintro rfl; rw [hb] at ho; cases ho)]; exact ho
  obtain ⟨h1, h2, ⟨rfl, h3⟩ | ⟨b, cap, h3, h4, h5, h6, h7, h8⟩⟩ := h
  · exact ⟨fun b o ho => keep b o (h1 b o ho), h2, .inl ⟨rfl, keep _ _ h3⟩⟩
  · exact ⟨fun b o ho => keep b o (h1 b o ho), h2, .inr ⟨b, cap, keep _ _ h3, keep _ _ h4, h5, h6, h7, h8⟩⟩
noncomputable def xAV (g : Graph) (w : Want) (down : List Bool) (mb : Nat) : AV := .box [mapAV g w down, iv w.dst, iv (w.via.length + 1), .raw (.map (some mb))] 0
theorem add_c (g : Graph) (w : Want) (down : List Bool) (h0 : optErr g w down = 0) (mb : Nat) (a : St) (s : Sg) (hs : -9223372036854775808 ≤ s.to ∧ s.to ≤ 9223372036854775807) (H0 H : AHeap) (lb : Nat) (L : List Ld) (hL : L.length ≤ 1000) (hat : LAt H0 H lb L) :
    ACalls Try.prog 73 [s.av, .box [xAV g w down mb] 0, .box [iv a.1, iv a.2] 0, .raw (.pointer (some ⟨lb, 0, none⟩))] H fun r H' => r = .tup [] ∧ LAt H0 H' lb (L ++ (ldO g w down a s).toList) := by
  have c1 := fun H => seg_c g w down h0 a s hs H
  refine ACalls.of_code fn_compile_search_from_d1 ?_
  cases hr : segW g w down a s with
  | none =>
    rw [hr] at c1
    simp only [stateAV, stepAV, Sg.av, Sg.cells_eq, mapAV] at c1
    have : (ldO g w down a s).toList = [] := by rw [ldO, hr]; rfl
    rw [this, List.append_nil]
    simp -implicitDefEqProofs only [sc_compile_search_from_d1, xAV, Sg.av, Sg.cells_eq, mapAV, go_sem, Nat.reduceEqDiff, Nat.reduceAdd, Nat.reduceMul, Nat.reduceLeDiff, Nat.reduceSub, Nat.reduceLT, Nat.reduceBEq, Int.reduceToNat, reduceCtorEq, ↓reduceIte, Int.reduceEq, Int.reduceNeg, Int.reduceLT, Int.reduceLE, Int.reduceAdd, Int.reduceSub, Int.reduceMul]
    repeat' (first | simp -implicitDefEqProofs only [go_sem, Nat.reduceEqDiff, Nat.reduceAdd, Nat.reduceMul, Nat.reduceLeDiff, Nat.reduceSub, Nat.reduceLT, Nat.reduceBEq, Int.reduceToNat, reduceCtorEq, ↓reduceIte, Int.reduceEq, Int.reduceNeg, Int.reduceLT, Int.reduceLE, Int.reduceAdd, Int.reduceSub, Int.reduceMul] | simp -implicitDefEqProofs (disch := omega) only [iaq_vec, iao_arr, iaq_raw, rd_map, wrap_id, binq_quo, binq_rem, binq_shl, binq_shr, tdiv_pos, tmod_pos, if_pos, exV_some, Option.map_some] | ((first | with_reducible apply exIf_dec | ((with_reducible apply exGd_dec); focus exact rfl) | ((with_reducible apply exGq_dec); focus exact rfl) | with_reducible apply exIf_intro | ((with_reducible apply exGd_intro); focus exact rfl) | ((with_reducible apply exGq_intro); focus exact rfl)) <;> intro _) | with_reducible refine exC_pure (c1 _) ?_ | with_reducible refine exCq_pure (c1 _) ?_)
    all_goals first | exact hat | (exfalso; omega) | skip
    intro b5 hb5
    have hb5 : H b5 = none := hb5
    have hm := hat.more (x := .cells [iv 0, iv 0] 82) hb5
    repeat' (first | simp -implicitDefEqProofs only [go_sem, Nat.reduceEqDiff, Nat.reduceAdd, Nat.reduceMul, Nat.reduceLeDiff, Nat.reduceSub, Nat.reduceLT, Nat.reduceBEq, Int.reduceToNat, reduceCtorEq, ↓reduceIte, Int.reduceEq, Int.reduceNeg, Int.reduceLT, Int.reduceLE, Int.reduceAdd, Int.reduceSub, Int.reduceMul] | simp -implicitDefEqProofs (disch := omega) only [upd_self, updH_upd, iaq_vec, iao_arr, iaq_raw, rd_map, wrap_id, binq_quo, binq_rem, binq_shl, binq_shr, tdiv_pos, tmod_pos, if_pos, exV_some, Option.map_some] | ((first | with_reducible apply exIf_dec | ((with_reducible apply exGd_dec); focus exact rfl) | ((with_reducible apply exGq_dec); focus exact rfl) | with_reducible apply exIf_intro | ((with_reducible apply exGd_intro); focus exact rfl) | ((with_reducible apply exGq_intro); focus exact rfl)) <;> intro _) | with_reducible refine exC_pure (c1 _) ?_ | with_reducible refine exCq_pure (c1 _) ?_)
    all_goals first | exact hm | (exfalso; omega) | skip
    done
  | some c =>
    rw [hr] at c1
    simp only [stateAV, stepAV, Sg.av, Sg.cells_eq, mapAV] at c1
    have : (ldO g w down a s).toList = [⟨s, c⟩] := by rw [ldO, hr]; rfl
    rw [this]
    simp -implicitDefEqProofs only [sc_compile_search_from_d1, xAV, Sg.av, Sg.cells_eq, mapAV, go_sem, Nat.reduceEqDiff, Nat.reduceAdd, Nat.reduceMul, Nat.reduceLeDiff, Nat.reduceSub, Nat.reduceLT, Nat.reduceBEq, Int.reduceToNat, reduceCtorEq, ↓reduceIte, Int.reduceEq, Int.reduceNeg, Int.reduceLT, Int.reduceLE, Int.reduceAdd, Int.reduceSub, Int.reduceMul]
    repeat' (first | simp -implicitDefEqProofs only [go_sem, Nat.reduceEqDiff, Nat.reduceAdd, Nat.reduceMul, Nat.reduceLeDiff, Nat.reduceSub, Nat.reduceLT, Nat.reduceBEq, Int.reduceToNat, reduceCtorEq, ↓reduceIte, Int.reduceEq, Int.reduceNeg, Int.reduceLT, Int.reduceLE, Int.reduceAdd, Int.reduceSub, Int.reduceMul] | simp -implicitDefEqProofs (disch := omega) only [iaq_vec, iao_arr, iaq_raw, rd_map, wrap_id, binq_quo, binq_rem, binq_shl, binq_shr, tdiv_pos, tmod_pos, if_pos, exV_some, Option.map_some] | ((first | with_reducible apply exIf_dec | ((with_reducible apply exGd_dec); focus exact rfl) | ((with_reducible apply exGq_dec); focus exact rfl) | with_reducible apply exIf_intro | ((with_reducible apply exGd_intro); focus exact rfl) | ((with_reducible apply exGq_intro); focus exact rfl)) <;> intro _) | with_reducible refine exC_pure (c1 _) ?_ | with_reducible refine exCq_pure (c1 _) ?_)
    all_goals first | (exfalso; omega) | skip
    intro b5 hb5
    have hb5 : H b5 = none := hb5
    obtain ⟨Hb, v, hv, hon, hbl, hbase⟩ := (hat.more (x := .cells [iv c.1, iv c.2] 82) hb5).open_
    repeat' (first | simp -implicitDefEqProofs only [go_sem, Nat.reduceEqDiff, Nat.reduceAdd, Nat.reduceMul, Nat.reduceLeDiff, Nat.reduceSub, Nat.reduceLT, Nat.reduceBEq, Int.reduceToNat, reduceCtorEq, ↓reduceIte, Int.reduceEq, Int.reduceNeg, Int.reduceLT, Int.reduceLE, Int.reduceAdd, Int.reduceSub, Int.reduceMul] | simp -implicitDefEqProofs (disch := omega) only [upd_self, updH_upd, hv, iaq_vec, iao_arr, iaq_raw, rd_map, wrap_id, binq_quo, binq_rem, binq_shl, binq_shr, tdiv_pos, tmod_pos, if_pos, exV_some, Option.map_some] | ((first | with_reducible apply exIf_dec | ((with_reducible apply exGd_dec); focus exact rfl) | ((with_reducible apply exGq_dec); focus exact rfl) | with_reducible apply exIf_intro | ((with_reducible apply exGd_intro); focus exact rfl) | ((with_reducible apply exGq_intro); focus exact rfl)) <;> intro _) | with_reducible refine exC_pure (c1 _) ?_ | with_reducible refine exCq_pure (c1 _) ?_)
    all_goals first | (exfalso; omega) | skip
    refine OnN.app hon rfl (by rfl) (by omega) (by simp only [maxLen]; omega) fun H1 v1 _ h1 => ?_
    have h1 := h1 (by decide)
    have hlb1 : H1 lb = some (.cells [v] 93) := h1.1 lb _ hbl
    have hsh := LAt.shut_ (L := L ++ [⟨s, c⟩]) (by simp) hat.2.1 hbl hbase (by rw [rows_append, rows_one, List.length_append]; exact h1)
    obtain ⟨-, -, bb, cc, rfl, -, -, -⟩ := h1
    repeat' (first | simp -implicitDefEqProofs only [go_sem, Nat.reduceEqDiff, Nat.reduceAdd, Nat.reduceMul, Nat.reduceLeDiff, Nat.reduceSub, Nat.reduceLT, Nat.reduceBEq, Int.reduceToNat, reduceCtorEq, ↓reduceIte, Int.reduceEq, Int.reduceNeg, Int.reduceLT, Int.reduceLE, Int.reduceAdd, Int.reduceSub, Int.reduceMul] | simp -implicitDefEqProofs (disch := omega) only [hlb1, iaq_vec, iao_arr, iaq_raw, rd_map, wrap_id, binq_quo, binq_rem, binq_shl, binq_shr, tdiv_pos, tmod_pos, if_pos, exV_some, Option.map_some] | ((first | with_reducible apply exIf_dec | ((with_reducible apply exGd_dec); focus exact rfl) | ((with_reducible apply exGq_dec); focus exact rfl) | with_reducible apply exIf_intro | ((with_reducible apply exGd_intro); focus exact rfl) | ((with_reducible apply exGq_intro); focus exact rfl)) <;> intro _))
    all_goals first | exact hsh | (exfalso; omega) | skip
    done
theorem filterMap_len {α β : Type} (f : α → Option β) (l : List α) : (l.filterMap f).length ≤ l.length := List.length_filterMap_le f l
theorem segsN_len (n : Int) : (segsN n).length = n.toNat := by simp [segsN]
theorem segsE_len (n : Int) : (segsE n).length = n.toNat := by simp [segsE]
theorem cfrom_c (g : Graph) (w : Want) (down : List Bool) (h0 : optErr g w down = 0) (mb : Nat) (a : St) (es : List (MK × AV)) (hes : LeadsOK g w down es) (H : AHeap) (hm : H mb = some (.map (.a 2 .i64) es)) :
    ACalls Try.prog 46 [xAV g w down mb, stateAV a] H fun r H' => r = leadsAV g w down a ∧ ∃ es', H' = upd H mb (some (.map (.a 2 .i64) es')) ∧ LeadsOK g w down es' := by
  have wf := wfit_of (optErr_right h0)
  have hf := wf.fit
  have fn := hf.n2
  have fs := wf.src
  have n1 := fun H => mnodes_c g w down H
  have n2 := fun H => medges_c g hf w down H
  simp only [mapAV] at n1 n2
  have fw := hf.few
  suffices key : ACalls Try.prog 46 [xAV g w down mb, stateAV a] H fun r H' => r = leadsAV g w down a ∧ ∃ es', (∀ b o, upd H mb (some (.map (.a 2 .i64) es')) b = some o → H' b = some o) ∧ LeadsOK g w down es' by
    refine ACalls.relax (key.mono ?_)
    rintro r H' ⟨rfl, es', h1, h2⟩
    exact ⟨fun _ => False, upd H mb (some (.map (.a 2 .i64) es')), _, h1, by simp, Fz.refl _ _ _, rfl, es', rfl, h2⟩
  refine ACalls.of_code fn_compile_search_from ?_
  simp -implicitDefEqProofs only [sc_compile_search_from, xAV, stateAV, mapAV, go_sem, Nat.reduceEqDiff, Nat.reduceAdd, Nat.reduceMul, Nat.reduceLeDiff, Nat.reduceSub, Nat.reduceLT, Nat.reduceBEq, Int.reduceToNat, reduceCtorEq, ↓reduceIte, Int.reduceEq, Int.reduceNeg, Int.reduceLT, Int.reduceLE, Int.reduceAdd, Int.reduceSub, Int.reduceMul]
  cases hget : mget es (.a [a.1, a.2]) with
  | some v =>
    obtain ⟨a', h1, h2⟩ := hes _ _ hget
    have : a' = a := by
      simp only [stKey, MK.a.injEq, List.cons.injEq, and_true] at h1
      exact (Prod.ext h1.1 h1.2).symm
    subst this
    have hsame : ∀ b o, upd H mb (some (.map (.a 2 .i64) es)) b = some o → H b = some o := fun b o ho => by rw [updH_same hm] at ho; exact ho
    repeat' (first | simp -implicitDefEqProofs only [go_sem, Nat.reduceEqDiff, Nat.reduceAdd, Nat.reduceMul, Nat.reduceLeDiff, Nat.reduceSub, Nat.reduceLT, Nat.reduceBEq, Int.reduceToNat, reduceCtorEq, ↓reduceIte, Int.reduceEq, Int.reduceNeg, Int.reduceLT, Int.reduceLE, Int.reduceAdd, Int.reduceSub, Int.reduceMul] | simp -implicitDefEqProofs (disch := omega) only [hm, lkres, hget, Option.isSome_some, Option.isSome_none, iaq_vec, iao_arr, iaq_raw, rd_map, wrap_id, binq_quo, binq_rem, binq_shl, binq_shr, tdiv_pos, tmod_pos, if_pos, exV_some, Option.map_some] | ((first | with_reducible apply exIf_dec | ((with_reducible apply exGd_dec); focus exact rfl) | ((with_reducible apply exGq_dec); focus exact rfl) | with_reducible apply exIf_intro | ((with_reducible apply exGd_intro); focus exact rfl) | ((with_reducible apply exGq_intro); focus exact rfl)) <;> intro _))
    all_goals first | exact ⟨h2, es, hsame, hes⟩ | (exfalso; omega) | skip
    done
  | none =>
    repeat' (first | simp -implicitDefEqProofs only [go_sem, Nat.reduceEqDiff, Nat.reduceAdd, Nat.reduceMul, Nat.reduceLeDiff, Nat.reduceSub, Nat.reduceLT, Nat.reduceBEq, Int.reduceToNat, reduceCtorEq, ↓reduceIte, Int.reduceEq, Int.reduceNeg, Int.reduceLT, Int.reduceLE, Int.reduceAdd, Int.reduceSub, Int.reduceMul] | simp -implicitDefEqProofs (disch := omega) only [hm, lkres, hget, Option.isSome_some, Option.isSome_none, iaq_vec, iao_arr, iaq_raw, rd_map, wrap_id, binq_quo, binq_rem, binq_shl, binq_shr, tdiv_pos, tmod_pos, if_pos, exV_some, Option.map_some] | ((first | with_reducible apply exIf_dec | ((with_reducible apply exGd_dec); focus exact rfl) | ((with_reducible apply exGq_dec); focus exact rfl) | with_reducible apply exIf_intro | ((with_reducible apply exGd_intro); focus exact rfl) | ((with_reducible apply exGq_intro); focus exact rfl)) <;> intro _))
    all_goals first | (exfalso; omega) | skip
    intro lb hlb
    have hlb : H lb = none := hlb
    have hat0 : LAt H (upd H lb (some (.cells [.vec true [] 0] 93))) lb [] := ⟨upd_base hlb, hlb, .inl ⟨rfl, upd_self _ _ _⟩⟩
    repeat' (first | simp -implicitDefEqProofs only [go_sem, Nat.reduceEqDiff, Nat.reduceAdd, Nat.reduceMul, Nat.reduceLeDiff, Nat.reduceSub, Nat.reduceLT, Nat.reduceBEq, Int.reduceToNat, reduceCtorEq, ↓reduceIte, Int.reduceEq, Int.reduceNeg, Int.reduceLT, Int.reduceLE, Int.reduceAdd, Int.reduceSub, Int.reduceMul] | simp -implicitDefEqProofs (disch := omega) only [iaq_vec, iao_arr, iaq_raw, rd_map, wrap_id, binq_quo, binq_rem, binq_shl, binq_shr, tdiv_pos, tmod_pos, if_pos, exV_some, Option.map_some] | ((first | with_reducible apply exIf_dec | ((with_reducible apply exGd_dec); focus exact rfl) | ((with_reducible apply exGq_dec); focus exact rfl) | with_reducible apply exIf_intro | ((with_reducible apply exGd_intro); focus exact rfl) | ((with_reducible apply exGq_intro); focus exact rfl)) <;> intro _) | with_reducible refine exC_pure (n1 _) ?_ | with_reducible refine exCq_pure (n1 _) ?_)
    refine exL_modH (fun x : Int × AHeap => [(28, .v (iv x.1))]) (fun _ => []) (fun x => x.2) (fun x => LAt H x.2 lb ((segsN x.1).filterMap (ldO g w down a)) ∧ 0 ≤ x.1 ∧ x.1 ≤ g.nodes) (fun x => (g.nodes - x.1).toNat) (0, upd H lb (some (.cells [.vec true [] 0] 93))) rfl ⟨hat0, by simp, by dsimp only; omega⟩ ?_
    rintro ⟨n, H1⟩ ⟨hat, m0, m1⟩ ih
    dsimp only at hat m0 m1 ih
    simp only [S.up, S.upH, ups, Abs.put, Nat.reduceEqDiff, ↓reduceIte, Nat.reduceAdd] at ih
    simp -implicitDefEqProofs only [congrArg KI.code sc_compile_search_from_L1.eq_1, go_sem, Nat.reduceEqDiff, Nat.reduceAdd, Nat.reduceMul, Nat.reduceLeDiff, Nat.reduceSub, Nat.reduceLT, Nat.reduceBEq, Int.reduceToNat, reduceCtorEq, ↓reduceIte, Int.reduceEq, Int.reduceNeg, Int.reduceLT, Int.reduceLE, Int.reduceAdd, Int.reduceSub, Int.reduceMul]
    by_cases hn : n < g.nodes
    · have hlen : ((segsN n).filterMap (ldO g w down a)).length ≤ 40 := by
        refine Nat.le_trans (filterMap_len _ _) ?_
        rw [segsN_len]; omega
      have ad := add_c g w down h0 mb a ⟨false, n⟩ ⟨by dsimp only; omega, by dsimp only; omega⟩ H H1 lb _ (by omega) hat
      simp only [Sg.av, Sg.cells_eq, xAV, mapAV] at ad
      have nxt := fun H2 hh => ih (n + 1, H2) ⟨hh, by dsimp only; omega, by dsimp only; omega⟩ (by dsimp only; omega)
      dsimp only at nxt
      rw [segsN_succ m0, List.filterMap_append] at nxt
      clear ih
      repeat' (first | simp -implicitDefEqProofs only [go_sem, Nat.reduceEqDiff, Nat.reduceAdd, Nat.reduceMul, Nat.reduceLeDiff, Nat.reduceSub, Nat.reduceLT, Nat.reduceBEq, Int.reduceToNat, reduceCtorEq, ↓reduceIte, Int.reduceEq, Int.reduceNeg, Int.reduceLT, Int.reduceLE, Int.reduceAdd, Int.reduceSub, Int.reduceMul] | simp -implicitDefEqProofs (disch := omega) only [iaq_vec, iao_arr, iaq_raw, rd_map, wrap_id, binq_quo, binq_rem, binq_shl, binq_shr, tdiv_pos, tmod_pos, if_pos, exV_some, Option.map_some] | ((first | with_reducible apply exIf_dec | ((with_reducible apply exGd_dec); focus exact rfl) | ((with_reducible apply exGq_dec); focus exact rfl) | with_reducible apply exIf_intro | ((with_reducible apply exGd_intro); focus exact rfl) | ((with_reducible apply exGq_intro); focus exact rfl)) <;> intro _))
      all_goals first | (exfalso; omega) | skip
      refine exC_intro ad ?_
      rintro _ H2 ⟨rfl, hat2⟩
      have nx := nxt H2 (by
        have e : List.filterMap (ldO g w down a) [(⟨false, n⟩ : Sg)] = (ldO g w down a ⟨false, n⟩).toList := by
          cases hq : ldO g w down a ⟨false, n⟩ <;> simp [hq]
        rw [e]; exact hat2)
      simp -implicitDefEqProofs only [go_sem, Nat.reduceEqDiff, Nat.reduceAdd, Nat.reduceMul, Nat.reduceLeDiff, Nat.reduceSub, Nat.reduceLT, Nat.reduceBEq, Int.reduceToNat, reduceCtorEq, ↓reduceIte, Int.reduceEq, Int.reduceNeg, Int.reduceLT, Int.reduceLE, Int.reduceAdd, Int.reduceSub, Int.reduceMul]
      repeat' (first | simp -implicitDefEqProofs only [go_sem, Nat.reduceEqDiff, Nat.reduceAdd, Nat.reduceMul, Nat.reduceLeDiff, Nat.reduceSub, Nat.reduceLT, Nat.reduceBEq, Int.reduceToNat, reduceCtorEq, ↓reduceIte, Int.reduceEq, Int.reduceNeg, Int.reduceLT, Int.reduceLE, Int.reduceAdd, Int.reduceSub, Int.reduceMul] | simp -implicitDefEqProofs (disch := omega) only [iaq_vec, iao_arr, iaq_raw, rd_map, wrap_id, binq_quo, binq_rem, binq_shl, binq_shr, tdiv_pos, tmod_pos, if_pos, exV_some, Option.map_some] | ((first | with_reducible apply exIf_dec | ((with_reducible apply exGd_dec); focus exact rfl) | ((with_reducible apply exGq_dec); focus exact rfl) | with_reducible apply exIf_intro | ((with_reducible apply exGd_intro); focus exact rfl) | ((with_reducible apply exGq_intro); focus exact rfl)) <;> intro _))
      all_goals first | exact nx | (exfalso; omega) | skip
      done
    · obtain rfl : n = g.nodes := by omega
      clear ih
      repeat' (first | simp -implicitDefEqProofs only [go_sem, Nat.reduceEqDiff, Nat.reduceAdd, Nat.reduceMul, Nat.reduceLeDiff, Nat.reduceSub, Nat.reduceLT, Nat.reduceBEq, Int.reduceToNat, reduceCtorEq, ↓reduceIte, Int.reduceEq, Int.reduceNeg, Int.reduceLT, Int.reduceLE, Int.reduceAdd, Int.reduceSub, Int.reduceMul] | simp -implicitDefEqProofs (disch := omega) only [iaq_vec, iao_arr, iaq_raw, rd_map, wrap_id, binq_quo, binq_rem, binq_shl, binq_shr, tdiv_pos, tmod_pos, if_pos, exV_some, Option.map_some] | ((first | with_reducible apply exIf_dec | ((with_reducible apply exGd_dec); focus exact rfl) | ((with_reducible apply exGq_dec); focus exact rfl) | with_reducible apply exIf_intro | ((with_reducible apply exGd_intro); focus exact rfl) | ((with_reducible apply exGq_intro); focus exact rfl)) <;> intro _) | with_reducible refine exC_pure (n2 _) ?_ | with_reducible refine exCq_pure (n2 _) ?_)
      all_goals first | (exfalso; omega) | skip
      refine exL_modH (fun x : Int × AHeap => [(41, .v (iv x.1))]) (fun _ => []) (fun x => x.2) (fun x => LAt H x.2 lb ((segsN g.nodes ++ segsE x.1).filterMap (ldO g w down a)) ∧ 0 ≤ x.1 ∧ x.1 ≤ 2 * g.links.length) (fun x => (2 * (g.links.length : Int) - x.1).toNat) (0, H1) rfl ⟨by simpa [segsE] using hat, by simp, by dsimp only; omega⟩ ?_
      rintro ⟨k, H2⟩ ⟨hat2, k0, k1⟩ ih
      dsimp only at hat2 k0 k1 ih
      simp only [S.up, S.upH, ups, Abs.put, Nat.reduceEqDiff, ↓reduceIte, Nat.reduceAdd] at ih
      simp -implicitDefEqProofs only [congrArg KI.code sc_compile_search_from_L0.eq_1, go_sem, Nat.reduceEqDiff, Nat.reduceAdd, Nat.reduceMul, Nat.reduceLeDiff, Nat.reduceSub, Nat.reduceLT, Nat.reduceBEq, Int.reduceToNat, reduceCtorEq, ↓reduceIte, Int.reduceEq, Int.reduceNeg, Int.reduceLT, Int.reduceLE, Int.reduceAdd, Int.reduceSub, Int.reduceMul]
      by_cases hk : k < 2 * g.links.length
      · have hlen : ((segsN g.nodes ++ segsE k).filterMap (ldO g w down a)).length ≤ 1000 := by
          refine Nat.le_trans (filterMap_len _ _) ?_
          rw [List.length_append, segsN_len, segsE_len]; omega
        have ad := add_c g w down h0 mb a ⟨true, k⟩ ⟨by dsimp only; omega, by dsimp only; omega⟩ H H2 lb _ hlen hat2
        simp only [Sg.av, Sg.cells_eq, xAV, mapAV] at ad
        have nxt := fun H3 hh => ih (k + 1, H3) ⟨hh, by dsimp only; omega, by dsimp only; omega⟩ (by dsimp only; omega)
        dsimp only at nxt
        rw [segsE_succ k0, ← List.append_assoc, List.filterMap_append] at nxt
        clear ih
        repeat' (first | simp -implicitDefEqProofs only [go_sem, Nat.reduceEqDiff, Nat.reduceAdd, Nat.reduceMul, Nat.reduceLeDiff, Nat.reduceSub, Nat.reduceLT, Nat.reduceBEq, Int.reduceToNat, reduceCtorEq, ↓reduceIte, Int.reduceEq, Int.reduceNeg, Int.reduceLT, Int.reduceLE, Int.reduceAdd, Int.reduceSub, Int.reduceMul] | simp -implicitDefEqProofs (disch := omega) only [iaq_vec, iao_arr, iaq_raw, rd_map, wrap_id, binq_quo, binq_rem, binq_shl, binq_shr, tdiv_pos, tmod_pos, if_pos, exV_some, Option.map_some] | ((first | with_reducible apply exIf_dec | ((with_reducible apply exGd_dec); focus exact rfl) | ((with_reducible apply exGq_dec); focus exact rfl) | with_reducible apply exIf_intro | ((with_reducible apply exGd_intro); focus exact rfl) | ((with_reducible apply exGq_intro); focus exact rfl)) <;> intro _))
        all_goals first | (exfalso; omega) | skip
        refine exC_intro ad ?_
        rintro _ H3 ⟨rfl, hat3⟩
        have nx := nxt H3 (by
          have e : List.filterMap (ldO g w down a) [(⟨true, k⟩ : Sg)] = (ldO g w down a ⟨true, k⟩).toList := by
            cases hq : ldO g w down a ⟨true, k⟩ <;> simp [hq]
          rw [e]; exact hat3)
        simp -implicitDefEqProofs only [go_sem, Nat.reduceEqDiff, Nat.reduceAdd, Nat.reduceMul, Nat.reduceLeDiff, Nat.reduceSub, Nat.reduceLT, Nat.reduceBEq, Int.reduceToNat, reduceCtorEq, ↓reduceIte, Int.reduceEq, Int.reduceNeg, Int.reduceLT, Int.reduceLE, Int.reduceAdd, Int.reduceSub, Int.reduceMul]
        repeat' (first | simp -implicitDefEqProofs only [go_sem, Nat.reduceEqDiff, Nat.reduceAdd, Nat.reduceMul, Nat.reduceLeDiff, Nat.reduceSub, Nat.reduceLT, Nat.reduceBEq, Int.reduceToNat, reduceCtorEq, ↓reduceIte, Int.reduceEq, Int.reduceNeg, Int.reduceLT, Int.reduceLE, Int.reduceAdd, Int.reduceSub, Int.reduceMul] | simp -implicitDefEqProofs (disch := omega) only [iaq_vec, iao_arr, iaq_raw, rd_map, wrap_id, binq_quo, binq_rem, binq_shl, binq_shr, tdiv_pos, tmod_pos, if_pos, exV_some, Option.map_some] | ((first | with_reducible apply exIf_dec | ((with_reducible apply exGd_dec); focus exact rfl) | ((with_reducible apply exGq_dec); focus exact rfl) | with_reducible apply exIf_intro | ((with_reducible apply exGd_intro); focus exact rfl) | ((with_reducible apply exGq_intro); focus exact rfl)) <;> intro _))
        all_goals first | exact nx | (exfalso; omega) | skip
        done
      · obtain rfl : k = 2 * g.links.length := by omega
        clear ih
        have hL : (segsN g.nodes ++ segsE (2 * g.links.length)).filterMap (ldO g w down a) = leadsL g w down a := rfl
        rw [hL] at hat2
        have hput := hes.put a
        simp only [stKey] at hput
        have hne : lb ≠ mb := by rintro rfl; rw [hlb] at hm; cases hm
        obtain ⟨hbase, -, ⟨hnil, hc⟩ | ⟨b, cap, hc, hr, hblb, hHb, hcap, hne0⟩⟩ := hat2
        · have hlv : leadsAV g w down a = .vec true [] 0 := by rw [leadsAV, hnil]; rfl
          rw [hlv] at hput
          have e1 : upd H2 lb (some (.cells [.vec true [] 0] 93)) mb = some (.map (.a 2 .i64) es) := by rw [upd_ne _ _ hne]; exact hbase _ _ hm
          have e2 : upd (upd H2 lb (some (.cells [.vec true [] 0] 93))) mb (some (.map (.a 2 .i64) (mput es (.a [a.1, a.2]) (.vec true [] 0)))) lb = some (.cells [.vec true [] 0] 93) := by
            rw [upd_ne _ _ (Ne.symm hne), upd_self]
          have hincl : ∀ b o, upd H mb (some (.map (.a 2 .i64) (mput es (.a [a.1, a.2]) (.vec true [] 0)))) b = some o → upd (upd H2 lb (some (.cells [.vec true [] 0] 93))) mb (some (.map (.a 2 .i64) (mput es (.a [a.1, a.2]) (.vec true [] 0)))) b = some o := fun b o ho => by
            by_cases e : mb = b
            · subst e; rw [upd_self] at ho ⊢; exact ho
            · rw [upd_ne _ _ e] at ho ⊢
              rw [upd_ne _ _ (by rintro rfl; rw [hlb] at ho; cases ho)]
              exact hbase b o ho
          repeat' (first | simp -implicitDefEqProofs only [go_sem, Nat.reduceEqDiff, Nat.reduceAdd, Nat.reduceMul, Nat.reduceLeDiff, Nat.reduceSub, Nat.reduceLT, Nat.reduceBEq, Int.reduceToNat, reduceCtorEq, ↓reduceIte, Int.reduceEq, Int.reduceNeg, Int.reduceLT, Int.reduceLE, Int.reduceAdd, Int.reduceSub, Int.reduceMul] | simp -implicitDefEqProofs (disch := omega) only [hc, e1, e2, iaq_vec, iao_arr, iaq_raw, rd_map, wrap_id, binq_quo, binq_rem, binq_shl, binq_shr, tdiv_pos, tmod_pos, if_pos, exV_some, Option.map_some] | ((first | with_reducible apply exIf_dec | ((with_reducible apply exGd_dec); focus exact rfl) | ((with_reducible apply exGq_dec); focus exact rfl) | with_reducible apply exIf_intro | ((with_reducible apply exGd_intro); focus exact rfl) | ((with_reducible apply exGq_intro); focus exact rfl)) <;> intro _))
          all_goals first | (exfalso; omega) | skip
          exact ⟨hlv.symm, _, hincl, hput⟩
        · have hle : (leadsL g w down a).length * 4 ≤ (rows (leadsL g w down a)).length := by rw [rows_length, Ld.sz_eq]; exact Nat.le_refl _
          have htk : List.take ((leadsL g w down a).length * 4) (rows (leadsL g w down a)) = rows (leadsL g w down a) := List.take_of_length_le (by rw [rows_length, Ld.sz_eq]; exact Nat.le_refl _)
          have hlv : leadsAV g w down a = .vec false (rows (leadsL g w down a)) (leadsL g w down a).length := by
            rw [leadsAV]
            cases hq : leadsL g w down a with
            | nil => exact absurd hq hne0
            | cons x l => rfl
          rw [hlv] at hput
          have hbmb : b ≠ mb := by rintro rfl; rw [hHb] at hm; cases hm
          have e1 : upd (upd H2 b none) lb (some (.cells [.vec false (rows (leadsL g w down a)) (leadsL g w down a).length] 93)) mb = some (.map (.a 2 .i64) es) := by rw [upd_ne _ _ hne, upd_ne _ _ hbmb]; exact hbase _ _ hm
          have e2 : upd (upd (upd H2 b none) lb (some (.cells [.vec false (rows (leadsL g w down a)) (leadsL g w down a).length] 93))) mb (some (.map (.a 2 .i64) (mput es (.a [a.1, a.2]) (.vec false (rows (leadsL g w down a)) (leadsL g w down a).length)))) lb = some (.cells [.vec false (rows (leadsL g w down a)) (leadsL g w down a).length] 93) := by
            rw [upd_ne _ _ (Ne.symm hne), upd_self]
          have hincl : ∀ b' o, upd H mb (some (.map (.a 2 .i64) (mput es (.a [a.1, a.2]) (.vec false (rows (leadsL g w down a)) (leadsL g w down a).length)))) b' = some o → upd (upd (upd H2 b none) lb (some (.cells [.vec false (rows (leadsL g w down a)) (leadsL g w down a).length] 93))) mb (some (.map (.a 2 .i64) (mput es (.a [a.1, a.2]) (.vec false (rows (leadsL g w down a)) (leadsL g w down a).length)))) b' = some o := fun b' o ho => by
            by_cases e : mb = b'
            · subst e; rw [upd_self] at ho ⊢; exact ho
            · rw [upd_ne _ _ e] at ho ⊢
              rw [upd_ne _ _ (by rintro rfl; rw [hlb] at ho; cases ho), upd_ne _ _ (by rintro rfl; rw [hHb] at ho; cases ho)]
              exact hbase b' o ho
          repeat' (first | simp -implicitDefEqProofs only [go_sem, Nat.reduceEqDiff, Nat.reduceAdd, Nat.reduceMul, Nat.reduceLeDiff, Nat.reduceSub, Nat.reduceLT, Nat.reduceBEq, Int.reduceToNat, reduceCtorEq, ↓reduceIte, Int.reduceEq, Int.reduceNeg, Int.reduceLT, Int.reduceLE, Int.reduceAdd, Int.reduceSub, Int.reduceMul] | simp -implicitDefEqProofs (disch := omega) only [hc, hr, hle, htk, Nat.le_refl, hcap, and_self, if_true, e1, e2, iaq_vec, iao_arr, iaq_raw, rd_map, wrap_id, binq_quo, binq_rem, binq_shl, binq_shr, tdiv_pos, tmod_pos, if_pos, exV_some, Option.map_some] | ((first | with_reducible apply exIf_dec | ((with_reducible apply exGd_dec); focus exact rfl) | ((with_reducible apply exGq_dec); focus exact rfl) | with_reducible apply exIf_intro | ((with_reducible apply exGd_intro); focus exact rfl) | ((with_reducible apply exGq_intro); focus exact rfl)) <;> intro _))
          all_goals first | (exfalso; omega) | skip
          exact ⟨hlv.symm, _, hincl, hput⟩
end Go.Proofs.Ytejmcijcdhoogaa
end
