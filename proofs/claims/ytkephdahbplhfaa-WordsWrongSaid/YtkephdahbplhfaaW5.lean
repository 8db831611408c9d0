import Derived.Test.YtkephdahbplhfaaScWaymarklaw12
import Derived.Test.YtkephdahbplhfaaW3
import Derived.Test.YtkephdahbplhfaaW4
import Derived.Test.YtkephdahbplhfaaD1
set_option linter.unusedSimpArgs false
set_option linter.unusedVariables false
/- The laws of chapter 12, as contracts. -/
namespace Go.Proofs.Ytkephdahbplhfaa
open Go Abs
attribute [local irreducible] EX exL exG exC exCq exS exV exIf exGd exGq
set_option maxHeartbeats 3000000

theorem num12_c (x : Int) (H : AHeap) : APure Try.prog 33 [iv x] H (iv x) := by
  intro Q h
  refine ACalls.of_code fn_waymarklaw12_num ?_
  simp -implicitDefEqProofs only [sc_waymarklaw12_num, go_sem, Nat.reduceEqDiff, Nat.reduceAdd, Nat.reduceMul, Nat.reduceLeDiff, Nat.reduceSub, Nat.reduceLT, Nat.reduceBEq, Int.reduceToNat, reduceCtorEq, ↓reduceIte, Int.reduceEq, Int.reduceNeg, Int.reduceLT, Int.reduceLE, Int.reduceAdd, Int.reduceSub, Int.reduceMul]
  exact h
theorem split_ok {l : List UInt8} {ts : List Tok} (hl : l.length ≤ 10000) (h : tk l 0 = (ts, -1)) : splitAV l = .tup [.vec ts.isEmpty (rows ts) ts.length, iv (-1), iv 0] := by
  rw [splitAV, if_neg (by omega), h, if_pos rfl]
  rfl
theorem split_bad {l : List UInt8} {e : Int} (hl : l.length ≤ 10000) (h : (tk l 0).2 = e) (he : e ≠ -1) : splitAV l = .tup [.vec true [] 0, iv e, iv 3] := by
  rw [splitAV, if_neg (by omega), h, if_neg he]
theorem alive12_c (H : AHeap) : APure Try.prog 30 [] H (bv true) := by
  have h1 := split_c [] (by simp) H
  rw [split_ok (by simp) (tk_nil 0)] at h1
  have h2 := split_c [97, 98, 32, 51, 59] (by simp) H
  have e : tk [97, 98, 32, 51, 59] 0 = ([⟨1, 0, [97, 98]⟩, ⟨2, 3, [51]⟩, ⟨3, 4, [59]⟩], -1) := by
    rw [tk_word (by decide)]
    simp only [List.takeWhile_cons, List.dropWhile_cons, show inW 98 = true by decide, show inW 32 = false by decide, if_true, Bool.false_eq_true, if_false, List.length_cons, List.length_nil]
    rw [tk_blank (.inl (by decide)), tk_num (by decide)]
    simp only [List.takeWhile_cons, List.dropWhile_cons, show inN 59 = false by decide, Bool.false_eq_true, if_false, List.length_nil]
    rw [tk_sign (by decide), tk_nil]
    rfl
  rw [split_ok (by simp) e] at h2
  intro Q h
  refine ACalls.of_code fn_waymarklaw12_alive ?_
  simp -implicitDefEqProofs only [sc_waymarklaw12_alive, go_sem, Nat.reduceEqDiff, Nat.reduceAdd, Nat.reduceMul, Nat.reduceLeDiff, Nat.reduceSub, Nat.reduceLT, Nat.reduceBEq, Int.reduceToNat, reduceCtorEq, ↓reduceIte, Int.reduceEq, Int.reduceNeg, Int.reduceLT, Int.reduceLE, Int.reduceAdd, Int.reduceSub, Int.reduceMul]
  refine exC_pure h1 ?_
  simp -implicitDefEqProofs only [go_sem, Nat.reduceEqDiff, Nat.reduceAdd, Nat.reduceMul, Nat.reduceLeDiff, Nat.reduceSub, Nat.reduceLT, Nat.reduceBEq, Int.reduceToNat, reduceCtorEq, ↓reduceIte, Int.reduceEq, Int.reduceNeg, Int.reduceLT, Int.reduceLE, Int.reduceAdd, Int.reduceSub, Int.reduceMul]
  refine exC_pure h2 ?_
  repeat' (first | simp -implicitDefEqProofs only [go_sem, Nat.reduceEqDiff, Nat.reduceAdd, Nat.reduceMul, Nat.reduceLeDiff, Nat.reduceSub, Nat.reduceLT, Nat.reduceBEq, Int.reduceToNat, reduceCtorEq, ↓reduceIte, Int.reduceEq, Int.reduceNeg, Int.reduceLT, Int.reduceLE, Int.reduceAdd, Int.reduceSub, Int.reduceMul] | simp -implicitDefEqProofs (disch := omega) only [rows, Tok.cells_eq, iaq_vec, iao_arr, iaq_raw, rd_map, wrap_id, binq_quo, binq_rem, binq_shl, binq_shr, tdiv_pos, tmod_pos, if_pos, exV_some, Option.map_some] | ((first | with_reducible apply exIf_dec | ((with_reducible apply exGd_dec); focus exact rfl) | ((with_reducible apply exGq_dec); focus exact rfl) | with_reducible apply exIf_intro | ((with_reducible apply exGd_intro); focus exact rfl) | ((with_reducible apply exGq_intro); focus exact rfl)) <;> intro _) | with_reducible refine exC_pure (num12_c _ _) ?_ | with_reducible refine exCq_pure (num12_c _ _) ?_)
  exact h
theorem set_byte {l : List UInt8} {k : Nat} : (l.map yv).set (k * 1) (.raw (.int .u8 32)) = (l.set k 32).map yv := by rw [Nat.mul_one, List.map_set]; rfl
theorem wordsWrong_c (c : UInt8) (at_ n : Int) (hn : -9223372036854775808 ≤ n) (H : AHeap) : APure Try.prog 8 [yv c, iv at_, iv n] H (bv true) := by
  intro Q h
  refine ACalls.of_code fn_waymarklaw12_WordsWrong ?_
  simp -implicitDefEqProofs only [sc_waymarklaw12_WordsWrong, go_sem, Nat.reduceEqDiff, Nat.reduceAdd, Nat.reduceMul, Nat.reduceLeDiff, Nat.reduceSub, Nat.reduceLT, Nat.reduceBEq, Int.reduceToNat, reduceCtorEq, ↓reduceIte, Int.reduceEq, Int.reduceNeg, Int.reduceLT, Int.reduceLE, Int.reduceAdd, Int.reduceSub, Int.reduceMul]
  refine exC_pure (alive12_c _) ?_
  repeat' (first | simp -implicitDefEqProofs only [go_sem, Nat.reduceEqDiff, Nat.reduceAdd, Nat.reduceMul, Nat.reduceLeDiff, Nat.reduceSub, Nat.reduceLT, Nat.reduceBEq, Int.reduceToNat, reduceCtorEq, ↓reduceIte, Int.reduceEq, Int.reduceNeg, Int.reduceLT, Int.reduceLE, Int.reduceAdd, Int.reduceSub, Int.reduceMul] | simp -implicitDefEqProofs (disch := omega) only [iaq_vec, iao_arr, iaq_raw, rd_map, wrap_id, binq_quo, binq_rem, binq_shl, binq_shr, tdiv_pos, tmod_pos, if_pos, exV_some, Option.map_some] | ((first | with_reducible apply exIf_dec | ((with_reducible apply exGd_dec); focus exact rfl) | ((with_reducible apply exGq_dec); focus exact rfl) | with_reducible apply exIf_intro | ((with_reducible apply exGd_intro); focus exact rfl) | ((with_reducible apply exGq_intro); focus exact rfl)) <;> intro _))
  all_goals first | exact h | skip
  refine exL_mod (fun i : Int => [(8, .v (sv (List.replicate i.toNat 59))), (9, .v (iv i))]) (fun _ => []) (fun i => 0 ≤ i ∧ i ≤ at_) (fun i => (at_ - i).toNat) 0 rfl ⟨by omega, by omega⟩ ?_
  rintro i ⟨i0, i1⟩ ih
  simp only [S.up, S.upH, ups, Abs.put, Nat.reduceEqDiff, ↓reduceIte, Nat.reduceAdd] at ih
  simp -implicitDefEqProofs only [congrArg KI.code sc_waymarklaw12_WordsWrong_L1.eq_1, go_sem, Nat.reduceEqDiff, Nat.reduceAdd, Nat.reduceMul, Nat.reduceLeDiff, Nat.reduceSub, Nat.reduceLT, Nat.reduceBEq, Int.reduceToNat, reduceCtorEq, ↓reduceIte, Int.reduceEq, Int.reduceNeg, Int.reduceLT, Int.reduceLE, Int.reduceAdd, Int.reduceSub, Int.reduceMul]
  by_cases hi : i < at_
  · have nxt := ih (i + 1) ⟨by omega, by omega⟩ (by omega)
    have e := binq_sadd (l := List.replicate i.toNat 59) (m := [59]) (by simp; omega)
    repeat' (first | simp -implicitDefEqProofs only [go_sem, Nat.reduceEqDiff, Nat.reduceAdd, Nat.reduceMul, Nat.reduceLeDiff, Nat.reduceSub, Nat.reduceLT, Nat.reduceBEq, Int.reduceToNat, reduceCtorEq, ↓reduceIte, Int.reduceEq, Int.reduceNeg, Int.reduceLT, Int.reduceLE, Int.reduceAdd, Int.reduceSub, Int.reduceMul] | simp -implicitDefEqProofs (disch := omega) only [e, iaq_vec, iao_arr, iaq_raw, rd_map, wrap_id, binq_quo, binq_rem, binq_shl, binq_shr, tdiv_pos, tmod_pos, if_pos, exV_some, Option.map_some] | ((first | with_reducible apply exIf_dec | ((with_reducible apply exGd_dec); focus exact rfl) | ((with_reducible apply exGq_dec); focus exact rfl) | with_reducible apply exIf_intro | ((with_reducible apply exGd_intro); focus exact rfl) | ((with_reducible apply exGq_intro); focus exact rfl)) <;> intro _))
    all_goals first | (exfalso; omega) | skip
    rw [show (i + 1).toNat = i.toNat + 1 by omega, List.replicate_succ'] at nxt
    exact nxt
  · clear ih
    obtain rfl : i = at_ := by omega
    have e1 : ∀ H, b2sq [] H (.v (.vec false [yv c] 1)) = some (.v (sv [c])) := fun H => b2sq_vec [c]
    have e2 := binq_sadd (l := List.replicate i.toNat 59) (m := [c]) (by simp; omega)
    obtain ⟨t, ht⟩ : ∃ t, t = List.replicate i.toNat 59 ++ [c] := ⟨_, rfl⟩
    have htl : t.length ≤ 10000 := by rw [ht]; simp; omega
    have he : (tk t 0).2 = (tk [c] i).2 := by
      rw [ht, tk_signs]
      congr 2
      omega
    rw [← ht] at e2
    have hs := split_c t (by omega) H
    have hsp : ∃ (v : AV) (e : Int), splitAV t = .tup [v, iv (if okB c then -1 else i), iv e] ∧ (okB c → e = 0) ∧ (¬ okB c → e = 3) := by
      by_cases hok : okB c
      · rw [tk_one_ok hok] at he
        refine ⟨.vec (tk t 0).1.isEmpty (rows (tk t 0).1) (tk t 0).1.length, 0, ?_, fun _ => rfl, fun h => absurd hok h⟩
        rw [if_pos hok]
        exact split_ok htl (Prod.ext rfl he)
      · rw [tk_one_bad hok] at he
        refine ⟨.vec true [] 0, 3, ?_, fun h => absurd h hok, fun _ => rfl⟩
        rw [if_neg hok]
        exact split_bad htl he (by omega)
    obtain ⟨v, e, hv, he1, he2⟩ := hsp
    rw [hv] at hs
    have hc := bI_range c
    have hok := Classical.em (okB c)
    repeat' (first | simp -implicitDefEqProofs only [e1, go_sem, Nat.reduceEqDiff, Nat.reduceAdd, Nat.reduceMul, Nat.reduceLeDiff, Nat.reduceSub, Nat.reduceLT, Nat.reduceBEq, Int.reduceToNat, reduceCtorEq, ↓reduceIte, Int.reduceEq, Int.reduceNeg, Int.reduceLT, Int.reduceLE, Int.reduceAdd, Int.reduceSub, Int.reduceMul] | simp -implicitDefEqProofs (disch := omega) only [e2, iaq_vec, iao_arr, iaq_raw, rd_map, wrap_id, binq_quo, binq_rem, binq_shl, binq_shr, tdiv_pos, tmod_pos, if_pos, exV_some, Option.map_some] | ((first | with_reducible apply exIf_dec | ((with_reducible apply exGd_dec); focus exact rfl) | ((with_reducible apply exGq_dec); focus exact rfl) | with_reducible apply exIf_intro | ((with_reducible apply exGd_intro); focus exact rfl) | ((with_reducible apply exGq_intro); focus exact rfl)) <;> intro _))
    all_goals first | (exfalso; omega) | skip
    refine exC_pure hs ?_
    clear hs e1 e2
    simp -implicitDefEqProofs only [go_sem, Nat.reduceEqDiff, Nat.reduceAdd, Nat.reduceMul, Nat.reduceLeDiff, Nat.reduceSub, Nat.reduceLT, Nat.reduceBEq, Int.reduceToNat, reduceCtorEq, ↓reduceIte, Int.reduceEq, Int.reduceNeg, Int.reduceLT, Int.reduceLE, Int.reduceAdd, Int.reduceSub, Int.reduceMul]
    refine exGd_join (fun b : Bool => b = decide (okB c)) (fun b => [(13, .v (bv b))]) (fun _ => []) _ (keep_seq (keep_seq (keep_reg (by decide)))) ?_ ?_
    · repeat' (first | simp -implicitDefEqProofs only [go_sem, Nat.reduceEqDiff, Nat.reduceAdd, Nat.reduceMul, Nat.reduceLeDiff, Nat.reduceSub, Nat.reduceLT, Nat.reduceBEq, Int.reduceToNat, reduceCtorEq, ↓reduceIte, Int.reduceEq, Int.reduceNeg, Int.reduceLT, Int.reduceLE, Int.reduceAdd, Int.reduceSub, Int.reduceMul] | simp -implicitDefEqProofs (disch := omega) only [iaq_vec, iao_arr, iaq_raw, rd_map, wrap_id, binq_quo, binq_rem, binq_shl, binq_shr, tdiv_pos, tmod_pos, if_pos, exV_some, Option.map_some] | ((first | with_reducible apply exIf_dec | ((with_reducible apply exGd_dec); focus exact rfl) | ((with_reducible apply exGq_dec); focus exact rfl) | with_reducible apply exIf_intro | ((with_reducible apply exGd_intro); focus exact rfl) | ((with_reducible apply exGq_intro); focus exact rfl)) <;> intro _))
      all_goals refine joinK_intro _ ?_ rfl
      all_goals first
        | (symm; rw [decide_eq_true_eq]; unfold okB; omega)
        | (rw [decide_eq_decide]; unfold okB; omega)
    rintro b rfl
    simp only [S.up, S.upH, ups, Abs.put, Nat.reduceEqDiff, ↓reduceIte, Nat.reduceAdd]
    have long : n ≤ 10000 → splitAV (List.replicate n.toNat 32) = .tup [.vec true [] 0, iv (-1), iv 0] := fun hn => by
      rw [split_ok (by simp; omega) (tk_spaces _ _)]
      rfl
    have long2 : ¬ n ≤ 10000 → splitAV (List.replicate n.toNat 32) = .tup [.vec true [] 0, iv 0, iv 6] := fun hn => by
      rw [splitAV, if_pos (by simp; omega)]
    have hs2 := split_c (List.replicate n.toNat 32) (by simp; omega) H
    have e3 : ∀ L : List (Nat × LObj), get L 106 = some (.arr false ((List.replicate n.toNat 32).map yv) n.toNat 5 1) → b2sq L H (.own 106) = some (.v (sv (List.replicate n.toNat 32))) := fun L hL => b2sq_own (nl := false) (e := 5) _ (by rw [hL, List.length_replicate])
    by_cases hok : okB c
    · rw [decide_eq_true hok, if_pos hok]
      obtain rfl := he1 hok
      clear he1 he2
      repeat' (first | simp -implicitDefEqProofs only [go_sem, Nat.reduceEqDiff, Nat.reduceAdd, Nat.reduceMul, Nat.reduceLeDiff, Nat.reduceSub, Nat.reduceLT, Nat.reduceBEq, Int.reduceToNat, reduceCtorEq, ↓reduceIte, Int.reduceEq, Int.reduceNeg, Int.reduceLT, Int.reduceLE, Int.reduceAdd, Int.reduceSub, Int.reduceMul] | simp -implicitDefEqProofs (disch := omega) only [iaq_vec, iao_arr, iaq_raw, rd_map, wrap_id, binq_quo, binq_rem, binq_shl, binq_shr, tdiv_pos, tmod_pos, if_pos, exV_some, Option.map_some] | ((first | with_reducible apply exIf_dec | ((with_reducible apply exGd_dec); focus exact rfl) | ((with_reducible apply exGq_dec); focus exact rfl) | with_reducible apply exIf_intro | ((with_reducible apply exGd_intro); focus exact rfl) | ((with_reducible apply exGq_intro); focus exact rfl)) <;> intro _) | with_reducible refine exC_pure (num12_c _ _) ?_ | with_reducible refine exCq_pure (num12_c _ _) ?_)
      all_goals first | (exfalso; omega) | skip
      all_goals refine exMk_int (by omega) (by omega) (by simp only [maxLen]; omega) rfl ?_
      all_goals skip
      rw [zrep_one, show List.replicate n.toNat (cAV (.int .u8 0)) = (List.replicate n.toNat (0 : UInt8)).map yv by rw [List.map_replicate]; rfl, ← fillTo_zero (fun _ => (32 : UInt8)) 0 n.toNat]
      simp -implicitDefEqProofs only [go_sem, Nat.reduceEqDiff, Nat.reduceAdd, Nat.reduceMul, Nat.reduceLeDiff, Nat.reduceSub, Nat.reduceLT, Nat.reduceBEq, Int.reduceToNat, reduceCtorEq, ↓reduceIte, Int.reduceEq, Int.reduceNeg, Int.reduceLT, Int.reduceLE, Int.reduceAdd, Int.reduceSub, Int.reduceMul]
      refine exL_mod (fun j : Int => [(15, .v (iv j))]) (fun j => [(106, .arr false ((fillTo (fun _ => (32 : UInt8)) 0 n.toNat j).map yv) n.toNat 5 1)]) (fun j => 0 ≤ j ∧ j ≤ n) (fun j => (n - j).toNat) 0 rfl ⟨by omega, by omega⟩ ?_
      rintro j ⟨j0, j1⟩ ih
      simp only [S.up, S.upH, ups, Abs.put, Nat.reduceEqDiff, ↓reduceIte, Nat.reduceAdd] at ih
      simp -implicitDefEqProofs only [congrArg KI.code sc_waymarklaw12_WordsWrong_L0.eq_1, go_sem, Nat.reduceEqDiff, Nat.reduceAdd, Nat.reduceMul, Nat.reduceLeDiff, Nat.reduceSub, Nat.reduceLT, Nat.reduceBEq, Int.reduceToNat, reduceCtorEq, ↓reduceIte, Int.reduceEq, Int.reduceNeg, Int.reduceLT, Int.reduceLE, Int.reduceAdd, Int.reduceSub, Int.reduceMul]
      by_cases hj : j < n
      · have nxt := ih (j + 1) ⟨by omega, by omega⟩ (by omega)
        rw [← fillTo_set (fun _ => (32 : UInt8)) 0 n.toNat j j0 rfl] at nxt
        repeat' (first | simp -implicitDefEqProofs only [go_sem, Nat.reduceEqDiff, Nat.reduceAdd, Nat.reduceMul, Nat.reduceLeDiff, Nat.reduceSub, Nat.reduceLT, Nat.reduceBEq, Int.reduceToNat, reduceCtorEq, ↓reduceIte, Int.reduceEq, Int.reduceNeg, Int.reduceLT, Int.reduceLE, Int.reduceAdd, Int.reduceSub, Int.reduceMul] | simp -implicitDefEqProofs (disch := omega) only [fillTo_length, set_byte, iaq_vec, iao_arr, iaq_raw, rd_map, wrap_id, binq_quo, binq_rem, binq_shl, binq_shr, tdiv_pos, tmod_pos, if_pos, exV_some, Option.map_some] | ((first | with_reducible apply exIf_dec | ((with_reducible apply exGd_dec); focus exact rfl) | ((with_reducible apply exGq_dec); focus exact rfl) | with_reducible apply exIf_intro | ((with_reducible apply exGd_intro); focus exact rfl) | ((with_reducible apply exGq_intro); focus exact rfl)) <;> intro _))
        all_goals first | (exfalso; omega) | exact nxt
      · obtain rfl : j = n := by omega
        clear ih
        rw [fillTo_full _ _ _ _ (by omega), show ((List.range j.toNat).map fun _ => (32 : UInt8)) = List.replicate j.toNat 32 by rw [List.map_const', List.length_range]]
        have e4 := e3 [(106, LObj.arr false ((List.replicate j.toNat 32).map yv) j.toNat 5 1)] rfl
        by_cases hn : j ≤ 10000
        · rw [long hn] at hs2
          repeat' (first | simp -implicitDefEqProofs only [e4, go_sem, Nat.reduceEqDiff, Nat.reduceAdd, Nat.reduceMul, Nat.reduceLeDiff, Nat.reduceSub, Nat.reduceLT, Nat.reduceBEq, Int.reduceToNat, reduceCtorEq, ↓reduceIte, Int.reduceEq, Int.reduceNeg, Int.reduceLT, Int.reduceLE, Int.reduceAdd, Int.reduceSub, Int.reduceMul] | simp -implicitDefEqProofs (disch := omega) only [iaq_vec, iao_arr, iaq_raw, rd_map, wrap_id, binq_quo, binq_rem, binq_shl, binq_shr, tdiv_pos, tmod_pos, if_pos, exV_some, Option.map_some] | ((first | with_reducible apply exIf_dec | ((with_reducible apply exGd_dec); focus exact rfl) | ((with_reducible apply exGq_dec); focus exact rfl) | with_reducible apply exIf_intro | ((with_reducible apply exGd_intro); focus exact rfl) | ((with_reducible apply exGq_intro); focus exact rfl)) <;> intro _) | with_reducible refine exC_pure (hs2) ?_ | with_reducible refine exCq_pure (num12_c _ _) ?_ | with_reducible refine exC_pure (num12_c _ _) ?_)
          all_goals first | exact h | (exfalso; omega) | skip
          rename_i hq; rw [decide_eq_true hn] at hq; cases hq
        · rw [long2 hn] at hs2
          repeat' (first | simp -implicitDefEqProofs only [e4, go_sem, Nat.reduceEqDiff, Nat.reduceAdd, Nat.reduceMul, Nat.reduceLeDiff, Nat.reduceSub, Nat.reduceLT, Nat.reduceBEq, Int.reduceToNat, reduceCtorEq, ↓reduceIte, Int.reduceEq, Int.reduceNeg, Int.reduceLT, Int.reduceLE, Int.reduceAdd, Int.reduceSub, Int.reduceMul] | simp -implicitDefEqProofs (disch := omega) only [iaq_vec, iao_arr, iaq_raw, rd_map, wrap_id, binq_quo, binq_rem, binq_shl, binq_shr, tdiv_pos, tmod_pos, if_pos, exV_some, Option.map_some] | ((first | with_reducible apply exIf_dec | ((with_reducible apply exGd_dec); focus exact rfl) | ((with_reducible apply exGq_dec); focus exact rfl) | with_reducible apply exIf_intro | ((with_reducible apply exGd_intro); focus exact rfl) | ((with_reducible apply exGq_intro); focus exact rfl)) <;> intro _) | with_reducible refine exC_pure (hs2) ?_ | with_reducible refine exCq_pure (num12_c _ _) ?_ | with_reducible refine exC_pure (num12_c _ _) ?_)
          all_goals first | exact h | (exfalso; omega) | skip
          rename_i hq; rw [decide_eq_false hn] at hq; cases hq
    · rw [decide_eq_false hok, if_neg hok]
      obtain rfl := he2 hok
      clear he1 he2
      repeat' (first | simp -implicitDefEqProofs only [go_sem, Nat.reduceEqDiff, Nat.reduceAdd, Nat.reduceMul, Nat.reduceLeDiff, Nat.reduceSub, Nat.reduceLT, Nat.reduceBEq, Int.reduceToNat, reduceCtorEq, ↓reduceIte, Int.reduceEq, Int.reduceNeg, Int.reduceLT, Int.reduceLE, Int.reduceAdd, Int.reduceSub, Int.reduceMul] | simp -implicitDefEqProofs (disch := omega) only [iaq_vec, iao_arr, iaq_raw, rd_map, wrap_id, binq_quo, binq_rem, binq_shl, binq_shr, tdiv_pos, tmod_pos, if_pos, exV_some, Option.map_some] | ((first | with_reducible apply exIf_dec | ((with_reducible apply exGd_dec); focus exact rfl) | ((with_reducible apply exGq_dec); focus exact rfl) | with_reducible apply exIf_intro | ((with_reducible apply exGd_intro); focus exact rfl) | ((with_reducible apply exGq_intro); focus exact rfl)) <;> intro _) | with_reducible refine exC_pure (num12_c _ _) ?_ | with_reducible refine exCq_pure (num12_c _ _) ?_)
      all_goals first | (exfalso; omega) | skip
      refine exMk_int (by omega) (by omega) (by simp only [maxLen]; omega) rfl ?_
      rw [zrep_one, show List.replicate n.toNat (cAV (.int .u8 0)) = (List.replicate n.toNat (0 : UInt8)).map yv by rw [List.map_replicate]; rfl, ← fillTo_zero (fun _ => (32 : UInt8)) 0 n.toNat]
      simp -implicitDefEqProofs only [go_sem, Nat.reduceEqDiff, Nat.reduceAdd, Nat.reduceMul, Nat.reduceLeDiff, Nat.reduceSub, Nat.reduceLT, Nat.reduceBEq, Int.reduceToNat, reduceCtorEq, ↓reduceIte, Int.reduceEq, Int.reduceNeg, Int.reduceLT, Int.reduceLE, Int.reduceAdd, Int.reduceSub, Int.reduceMul]
      refine exL_mod (fun j : Int => [(15, .v (iv j))]) (fun j => [(106, .arr false ((fillTo (fun _ => (32 : UInt8)) 0 n.toNat j).map yv) n.toNat 5 1)]) (fun j => 0 ≤ j ∧ j ≤ n) (fun j => (n - j).toNat) 0 rfl ⟨by omega, by omega⟩ ?_
      rintro j ⟨j0, j1⟩ ih
      simp only [S.up, S.upH, ups, Abs.put, Nat.reduceEqDiff, ↓reduceIte, Nat.reduceAdd] at ih
      simp -implicitDefEqProofs only [congrArg KI.code sc_waymarklaw12_WordsWrong_L0.eq_1, go_sem, Nat.reduceEqDiff, Nat.reduceAdd, Nat.reduceMul, Nat.reduceLeDiff, Nat.reduceSub, Nat.reduceLT, Nat.reduceBEq, Int.reduceToNat, reduceCtorEq, ↓reduceIte, Int.reduceEq, Int.reduceNeg, Int.reduceLT, Int.reduceLE, Int.reduceAdd, Int.reduceSub, Int.reduceMul]
      by_cases hj : j < n
      · have nxt := ih (j + 1) ⟨by omega, by omega⟩ (by omega)
        rw [← fillTo_set (fun _ => (32 : UInt8)) 0 n.toNat j j0 rfl] at nxt
        repeat' (first | simp -implicitDefEqProofs only [go_sem, Nat.reduceEqDiff, Nat.reduceAdd, Nat.reduceMul, Nat.reduceLeDiff, Nat.reduceSub, Nat.reduceLT, Nat.reduceBEq, Int.reduceToNat, reduceCtorEq, ↓reduceIte, Int.reduceEq, Int.reduceNeg, Int.reduceLT, Int.reduceLE, Int.reduceAdd, Int.reduceSub, Int.reduceMul] | simp -implicitDefEqProofs (disch := omega) only [fillTo_length, set_byte, iaq_vec, iao_arr, iaq_raw, rd_map, wrap_id, binq_quo, binq_rem, binq_shl, binq_shr, tdiv_pos, tmod_pos, if_pos, exV_some, Option.map_some] | ((first | with_reducible apply exIf_dec | ((with_reducible apply exGd_dec); focus exact rfl) | ((with_reducible apply exGq_dec); focus exact rfl) | with_reducible apply exIf_intro | ((with_reducible apply exGd_intro); focus exact rfl) | ((with_reducible apply exGq_intro); focus exact rfl)) <;> intro _))
        all_goals first | (exfalso; omega) | exact nxt
      · obtain rfl : j = n := by omega
        clear ih
        rw [fillTo_full _ _ _ _ (by omega), show ((List.range j.toNat).map fun _ => (32 : UInt8)) = List.replicate j.toNat 32 by rw [List.map_const', List.length_range]]
        have e4 := e3 [(106, LObj.arr false ((List.replicate j.toNat 32).map yv) j.toNat 5 1)] rfl
        by_cases hn : j ≤ 10000
        · rw [long hn] at hs2
          repeat' (first | simp -implicitDefEqProofs only [e4, go_sem, Nat.reduceEqDiff, Nat.reduceAdd, Nat.reduceMul, Nat.reduceLeDiff, Nat.reduceSub, Nat.reduceLT, Nat.reduceBEq, Int.reduceToNat, reduceCtorEq, ↓reduceIte, Int.reduceEq, Int.reduceNeg, Int.reduceLT, Int.reduceLE, Int.reduceAdd, Int.reduceSub, Int.reduceMul] | simp -implicitDefEqProofs (disch := omega) only [iaq_vec, iao_arr, iaq_raw, rd_map, wrap_id, binq_quo, binq_rem, binq_shl, binq_shr, tdiv_pos, tmod_pos, if_pos, exV_some, Option.map_some] | ((first | with_reducible apply exIf_dec | ((with_reducible apply exGd_dec); focus exact rfl) | ((with_reducible apply exGq_dec); focus exact rfl) | with_reducible apply exIf_intro | ((with_reducible apply exGd_intro); focus exact rfl) | ((with_reducible apply exGq_intro); focus exact rfl)) <;> intro _) | with_reducible refine exC_pure (hs2) ?_ | with_reducible refine exCq_pure (num12_c _ _) ?_ | with_reducible refine exC_pure (num12_c _ _) ?_)
          all_goals first | exact h | (exfalso; omega) | skip
          rename_i hq; rw [decide_eq_true hn] at hq; cases hq
        · rw [long2 hn] at hs2
          repeat' (first | simp -implicitDefEqProofs only [e4, go_sem, Nat.reduceEqDiff, Nat.reduceAdd, Nat.reduceMul, Nat.reduceLeDiff, Nat.reduceSub, Nat.reduceLT, Nat.reduceBEq, Int.reduceToNat, reduceCtorEq, ↓reduceIte, Int.reduceEq, Int.reduceNeg, Int.reduceLT, Int.reduceLE, Int.reduceAdd, Int.reduceSub, Int.reduceMul] | simp -implicitDefEqProofs (disch := omega) only [iaq_vec, iao_arr, iaq_raw, rd_map, wrap_id, binq_quo, binq_rem, binq_shl, binq_shr, tdiv_pos, tmod_pos, if_pos, exV_some, Option.map_some] | ((first | with_reducible apply exIf_dec | ((with_reducible apply exGd_dec); focus exact rfl) | ((with_reducible apply exGq_dec); focus exact rfl) | with_reducible apply exIf_intro | ((with_reducible apply exGd_intro); focus exact rfl) | ((with_reducible apply exGq_intro); focus exact rfl)) <;> intro _) | with_reducible refine exC_pure (hs2) ?_ | with_reducible refine exCq_pure (num12_c _ _) ?_ | with_reducible refine exC_pure (num12_c _ _) ?_)
          all_goals first | exact h | (exfalso; omega) | skip
          rename_i hq; rw [decide_eq_false hn] at hq; cases hq
end Go.Proofs.Ytkephdahbplhfaa
