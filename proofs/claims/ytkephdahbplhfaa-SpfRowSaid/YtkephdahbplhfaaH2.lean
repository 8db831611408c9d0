import Derived.Test.YtkephdahbplhfaaScHeap
import Derived.Test.YtkephdahbplhfaaH1
set_option linter.unusedSimpArgs false
set_option linter.unusedVariables false
/- The package heap. -/
namespace Go.Proofs.Ytkephdahbplhfaa
open Go Abs
set_option maxHeartbeats 400000

theorem Pr.cells_eq (p : Pr) : Enc.cells p = [iv p.1, iv p.2] := rfl
theorem ahead_c (p q : Pr) (H : AHeap) : APure Try.prog 83 [.agg [iv p.1, iv p.2], .agg [iv q.1, iv q.2]] H (bv (decide (ah p q))) := by
  intro Q h
  refine ACalls.of_code fn_heap_pair_ahead ?_
  simp -implicitDefEqProofs only [sc_heap_pair_ahead, go_sem, Nat.reduceEqDiff, Nat.reduceAdd, Nat.reduceMul, Nat.reduceLeDiff, Nat.reduceSub, Nat.reduceLT, Nat.reduceBEq, Int.reduceToNat, reduceCtorEq, ↓reduceIte, Int.reduceEq, Int.reduceNeg, Int.reduceLT, Int.reduceLE, Int.reduceAdd, Int.reduceSub, Int.reduceMul]
  repeat' (first | simp -implicitDefEqProofs only [go_sem, Nat.reduceEqDiff, Nat.reduceAdd, Nat.reduceMul, Nat.reduceLeDiff, Nat.reduceSub, Nat.reduceLT, Nat.reduceBEq, Int.reduceToNat, reduceCtorEq, ↓reduceIte, Int.reduceEq, Int.reduceNeg, Int.reduceLT, Int.reduceLE, Int.reduceAdd, Int.reduceSub, Int.reduceMul] | simp -implicitDefEqProofs (disch := omega) only [iaq_vec, iao_arr, iaq_raw, rd_map, wrap_id, binq_quo, binq_rem, binq_shl, binq_shr, tdiv_pos, tmod_pos, if_pos, exV_some, Option.map_some] | ((first | with_reducible apply exIf_dec | ((with_reducible apply exGd_dec); focus exact rfl) | ((with_reducible apply exGq_dec); focus exact rfl) | with_reducible apply exIf_intro | ((with_reducible apply exGd_intro); focus exact rfl) | ((with_reducible apply exGq_intro); focus exact rfl)) <;> intro _))
  all_goals
    refine fin_ h (congrArg (fun b => AV.raw (.bool b)) ?_)
    rw [Bool.eq_iff_iff, decide_eq_true_eq]
    unfold ah
    simp [*]

/-- a heap on the heap, beside what was there -/
structure HeapAt (H0 H : AHeap) (b : Nat) (l : List Pr) : Prop where
  new : H0 b = none
  base : ∀ b' o, H0 b' = some o → H b' = some o
  at_ : ∃ sv th, H b = some (.cells [sv] th) ∧ ((l = [] ∧ sv = .vec true [] 0) ∨ ∃ b2 cap ex, sv = .raw (.slice (some ⟨b2, 0, none⟩) l.length cap) ∧ H b2 = some (.row (rows l ++ ex) cap 105 2) ∧ b2 ≠ b ∧ H0 b2 = none ∧ l.length ≤ cap)
/-- one that has its row -/
structure HeapR (H0 H : AHeap) (b b2 cap th : Nat) (ex : List AV) (n : Nat) (l : List Pr) : Prop where
  new : H0 b = none
  base : ∀ b' o, H0 b' = some o → H b' = some o
  hb : H b = some (.cells [.raw (.slice (some ⟨b2, 0, none⟩) n cap)] th)
  hr : H b2 = some (.row (rows l ++ ex) cap 105 2)
  ne : b2 ≠ b
  new2 : H0 b2 = none
  le : l.length ≤ cap
theorem HeapR.at_ {H0 H : AHeap} {b b2 cap th : Nat} {ex : List AV} {l : List Pr} (h : HeapR H0 H b b2 cap th ex l.length l) : HeapAt H0 H b l :=
  ⟨h.new, h.base, _, th, h.hb, .inr ⟨b2, cap, ex, rfl, h.hr, h.ne, h.new2, h.le⟩⟩
theorem HeapR.set {H0 H : AHeap} {b b2 cap th n : Nat} {ex : List AV} {l l' : List Pr} (h : HeapR H0 H b b2 cap th ex n l) (hl : l'.length = l.length) : HeapR H0 (upd H b2 (some (.row (rows l' ++ ex) cap 105 2))) b b2 cap th ex n l' := by
  refine ⟨h.new, fun b' o ho => ?_, ?_, upd_self _ _ _, h.ne, h.new2, by rw [hl]; exact h.le⟩
  · rw [upd_ne _ _ (by rintro rfl; rw [h.new2] at ho; cases ho)]
    exact h.base b' o ho
  · rw [upd_ne _ _ h.ne]; exact h.hb
theorem upd_upd {H : AHeap} {b : Nat} {x y : Option HObj} : upd (upd H b x) b y = upd H b y := by
  funext z
  simp only [upd]
  split <;> rfl
theorem row2_set {l : List Pr} {ex : List AV} {i : Int} (h0 : 0 ≤ i) (h1 : i < l.length) (x : Pr) : (rows l ++ ex).take (i.toNat * 2) ++ [iv x.1, iv x.2] ++ (rows l ++ ex).drop (i.toNat * 2 + 2) = rows (l.set i.toNat x) ++ ex := by
  have := setA_rowx (l := l) (ex := ex) (i := i) (n := 2) Pr.sz_eq.symm x h0 h1 (Pr.cells_eq x).symm
  rw [← this, setA_eq _ _ _ (by simp [rows_length, Pr.sz_eq]; omega)]
  rfl
theorem rd_pair {l : List Pr} {ex : List AV} {i : Int} (h0 : 0 ≤ i) (h1 : i < l.length) : rdV (rows l ++ ex) (i.toNat * 2) 2 true = some (.agg [iv (gi l i).1, iv (gi l i).2]) := rd_rowx (n := 2) Pr.sz_eq.symm h0 h1
theorem rowx_length (l : List Pr) (ex : List AV) : (rows l ++ ex).length = l.length * 2 + ex.length := by rw [List.length_append, rows_length, Pr.sz_eq]

theorem hapK_pos {e sz by_ n cap m : Nat} {ob : Option Nat} {pre ds : List AV} {nly : Bool} {x : SV} {dst : Option Nat} {s : S} {K : S → Prop} (h1 : ds.length = m * sz) (h2 : (n + m) * by_ ≤ 140737488355328) (h3 : n + m ≤ maxLen) (hm : 0 < m)
    (k : ∀ b cap', ob = some b ∨ s.H b = none → n + m ≤ cap' → K ((s.newhd ob b (.row (pre ++ ds) cap' e sz)).put dst (.v (.raw (.slice (some ⟨b, 0, none⟩) (n + m) cap'))))) : hapK e sz by_ (some (ob, n, cap, pre)) x (.v (.vec nly ds m)) dst s K :=
  ⟨h1, h2, h3, fun h => by omega, fun _ => k⟩

/-- what the heap's slice is as an append sees it -/
theorem HeapAt.pre {H0 H : AHeap} {b : Nat} {l : List Pr} (h : HeapAt H0 H b l) : ∃ sv th ob cap, H b = some (.cells [sv] th) ∧ hpre H 105 2 (.v sv) = some (ob, l.length, cap, rows l) ∧ ∀ b', ob = some b' → b' ≠ b ∧ H0 b' = none := by
  obtain ⟨h1, h2, sv, th, hb, ⟨rfl, rfl⟩ | ⟨b2, cap, ex, rfl, h3, h4, h5, h6⟩⟩ := h
  · exact ⟨_, th, none, 0, hb, rfl, by simp⟩
  · refine ⟨_, th, some b2, cap, hb, ?_, ?_⟩
    · simp only [hpre, h3]
      rw [if_pos (by rw [rowx_length]; simp only [true_and]; omega)]
      congr 4
      have := rows_length l
      rw [Pr.sz_eq] at this
      rw [← this, List.take_left']
      rfl
    · intro b' hb'
      injection hb' with hb'
      subst hb'
      exact ⟨h4, h5⟩

theorem push_c (H0 H : AHeap) (b : Nat) (l : List Pr) (x : Pr) (hl : l.length ≤ 1099511627776) (hh : HeapAt H0 H b l) (hp : IsHeap l) :
    ACalls Try.prog 74 [.raw (.pointer (some ⟨b, 0, none⟩)), iv x.1, iv x.2] H fun r H' => r = .tup [] ∧ ∃ l', l'.Perm (x :: l) ∧ IsHeap l' ∧ HeapAt H0 H' b l' := by
  obtain ⟨sv, th, ob, cap0, hb, hpr, hob⟩ := hh.pre
  have hnew := hh.new
  have hbase := hh.base
  refine ACalls.of_code fn_heap_Heap_Push ?_
  simp -implicitDefEqProofs only [sc_heap_Heap_Push, go_sem, Nat.reduceEqDiff, Nat.reduceAdd, Nat.reduceMul, Nat.reduceLeDiff, Nat.reduceSub, Nat.reduceLT, Nat.reduceBEq, Int.reduceToNat, reduceCtorEq, ↓reduceIte, Int.reduceEq, Int.reduceNeg, Int.reduceLT, Int.reduceLE, Int.reduceAdd, Int.reduceSub, Int.reduceMul]
  repeat' (first | simp -implicitDefEqProofs only [go_sem, Nat.reduceEqDiff, Nat.reduceAdd, Nat.reduceMul, Nat.reduceLeDiff, Nat.reduceSub, Nat.reduceLT, Nat.reduceBEq, Int.reduceToNat, reduceCtorEq, ↓reduceIte, Int.reduceEq, Int.reduceNeg, Int.reduceLT, Int.reduceLE, Int.reduceAdd, Int.reduceSub, Int.reduceMul] | simp -implicitDefEqProofs (disch := omega) only [hb, iaq_vec, iao_arr, iaq_raw, rd_map, wrap_id, binq_quo, binq_rem, binq_shl, binq_shr, tdiv_pos, tmod_pos, if_pos, exV_some, Option.map_some] | ((first | with_reducible apply exIf_dec | ((with_reducible apply exGd_dec); focus exact rfl) | ((with_reducible apply exGq_dec); focus exact rfl) | with_reducible apply exIf_intro | ((with_reducible apply exGd_intro); focus exact rfl) | ((with_reducible apply exGq_intro); focus exact rfl)) <;> intro _))
  rw [hpr]
  refine hapK_pos rfl (by omega) (by simp only [maxLen]; omega) (by omega) ?_
  intro b2 cap hb2 hcap
  simp only [S.newhd]
  obtain ⟨H1, hH1⟩ : ∃ H1, H1 = upd (delH H ob) b2 (some (.row (rows l ++ [iv x.1, iv x.2]) cap 105 2)) := ⟨_, rfl⟩
  rw [← hH1]
  have hne : b2 ≠ b := by
    rcases hb2 with hb2 | hb2
    · exact (hob b2 hb2).1
    · rintro rfl; simp only at hb2; rw [hb] at hb2; cases hb2
  have hn2 : H0 b2 = none := by
    rcases hb2 with hb2 | hb2
    · exact (hob b2 hb2).2
    · cases hq : H0 b2 with
      | none => rfl
      | some o => simp only at hb2; rw [hbase b2 o hq] at hb2; cases hb2
  have hdel : ∀ b' o, H b' = some o → (∀ b0, ob = some b0 → b0 ≠ b') → delH H ob b' = some o := by
    intro b' o ho hh
    cases ob with
    | none => exact ho
    | some b0 => exact (upd_ne _ _ (hh b0 rfl)).trans ho
  have h1b : H1 b = some (.cells [sv] th) := by
    rw [hH1, upd_ne _ _ hne]
    exact hdel b _ hb fun b0 h0 => (hob b0 h0).1
  have h1r : H1 b2 = some (.row (rows (l ++ [x]) ++ []) cap 105 2) := by
    rw [hH1, upd_self, rows_append, rows_one, List.append_nil]; rfl
  have base1 : ∀ b' o, H0 b' = some o → H1 b' = some o := by
    intro b' o ho
    rw [hH1, upd_ne _ _ (by rintro rfl; rw [hn2] at ho; cases ho)]
    refine hdel b' o (hbase b' o ho) fun b0 h0 => ?_
    rintro rfl
    rw [(hob b0 h0).2] at ho; cases ho
  obtain ⟨ex, hex⟩ : ∃ ex : List AV, ex = [] := ⟨_, rfl⟩
  rw [← hex] at h1r
  have hR : HeapR H0 (upd H1 b (some (.cells [.raw (.slice (some ⟨b2, 0, none⟩) (l.length + 1) cap)] th))) b b2 cap th ex (l.length + 1) (l ++ [x]) := by
    refine ⟨hnew, fun b' o ho => ?_, upd_self _ _ _, by rw [upd_ne _ _ (Ne.symm hne)]; exact h1r, hne, hn2, by simpa using hcap⟩
    rw [upd_ne _ _ (by rintro rfl; rw [hnew] at ho; cases ho)]
    exact base1 b' o ho
  have hU : UpAt (l ++ [x]) l.length := by
    refine ⟨fun k k0 k1 hk => ?_, fun h0 k k0 k1 hk => ?_⟩
    · simp at k1
      have e1 : gi (l ++ [x]) k = gi l k := by rw [gi_get (by simp; omega), gi_get (by omega), List.getElem_append_left]
      have e2 : gi (l ++ [x]) ((k - 1) / 2) = gi l ((k - 1) / 2) := by rw [gi_get (by simp; omega), gi_get (by omega), List.getElem_append_left]
      rw [e1, e2]
      exact hp k k0 (by omega)
    · simp at k1
      omega
  clear hH1 hdel hob hb2 hpr hb hbase hh
  simp -implicitDefEqProofs only [go_sem, Nat.reduceEqDiff, Nat.reduceAdd, Nat.reduceMul, Nat.reduceLeDiff, Nat.reduceSub, Nat.reduceLT, Nat.reduceBEq, Int.reduceToNat, reduceCtorEq, ↓reduceIte, Int.reduceEq, Int.reduceNeg, Int.reduceLT, Int.reduceLE, Int.reduceAdd, Int.reduceSub, Int.reduceMul]
  repeat' (first | simp -implicitDefEqProofs only [go_sem, Nat.reduceEqDiff, Nat.reduceAdd, Nat.reduceMul, Nat.reduceLeDiff, Nat.reduceSub, Nat.reduceLT, Nat.reduceBEq, Int.reduceToNat, reduceCtorEq, ↓reduceIte, Int.reduceEq, Int.reduceNeg, Int.reduceLT, Int.reduceLE, Int.reduceAdd, Int.reduceSub, Int.reduceMul] | simp -implicitDefEqProofs (disch := omega) only [h1b, iaq_vec, iao_arr, iaq_raw, rd_map, wrap_id, binq_quo, binq_rem, binq_shl, binq_shr, tdiv_pos, tmod_pos, if_pos, exV_some, Option.map_some] | ((first | with_reducible apply exIf_dec | ((with_reducible apply exGd_dec); focus exact rfl) | ((with_reducible apply exGq_dec); focus exact rfl) | with_reducible apply exIf_intro | ((with_reducible apply exGd_intro); focus exact rfl) | ((with_reducible apply exGq_intro); focus exact rfl)) <;> intro _))
  refine exL_modH (fun a : Int × List Pr × AHeap => [(6, .v (iv a.1))]) (fun _ => []) (fun a => a.2.2)
    (fun a => 0 ≤ a.1 ∧ a.1 < a.2.1.length ∧ a.2.1.length = l.length + 1 ∧ UpAt a.2.1 a.1 ∧ a.2.1.Perm (l ++ [x]) ∧ HeapR H0 a.2.2 b b2 cap th ex (l.length + 1) a.2.1) (fun a => a.1.toNat) (_, l ++ [x], _) rfl
    ⟨by dsimp only; omega, by dsimp only; simp; omega, by simp, by simpa using hU, .refl _, hR⟩ ?_
  rintro ⟨i, l', H'⟩ ⟨h0, h1, hlen, hU', hP, hR'⟩ ih
  dsimp only at h0 h1 hlen hU' hP hR' ih
  simp only [S.up, S.upH, ups, Abs.put, Nat.reduceEqDiff, ↓reduceIte, Nat.reduceAdd] at ih
  obtain ⟨-, -, hb', hr', -, -, -⟩ := id hR'
  simp -implicitDefEqProofs only [congrArg KI.code sc_heap_Heap_Push_L0.eq_1, go_sem, Nat.reduceEqDiff, Nat.reduceAdd, Nat.reduceMul, Nat.reduceLeDiff, Nat.reduceSub, Nat.reduceLT, Nat.reduceBEq, Int.reduceToNat, reduceCtorEq, ↓reduceIte, Int.reduceEq, Int.reduceNeg, Int.reduceLT, Int.reduceLE, Int.reduceAdd, Int.reduceSub, Int.reduceMul]
  have fin : IsHeap l' → (∃ l', l'.Perm (x :: l) ∧ IsHeap l' ∧ HeapAt H0 H' b l') := fun hh => ⟨l', hP.trans (List.perm_append_singleton x l), hh, by rw [← hlen] at hR'; exact hR'.at_⟩
  have s1 := fun (u0 : 0 < i) => row2_set (l := l') (ex := ex) (i := i) h0 h1 (gi l' ((i - 1) / 2))
  have s2 := fun (u0 : 0 < i) => row2_set (l := l'.set i.toNat (gi l' ((i - 1) / 2))) (ex := ex) (i := (i - 1) / 2) (by omega) (by simp; omega) (gi l' i)
  repeat' (first | simp -implicitDefEqProofs only [go_sem, Nat.reduceEqDiff, Nat.reduceAdd, Nat.reduceMul, Nat.reduceLeDiff, Nat.reduceSub, Nat.reduceLT, Nat.reduceBEq, Int.reduceToNat, reduceCtorEq, ↓reduceIte, Int.reduceEq, Int.reduceNeg, Int.reduceLT, Int.reduceLE, Int.reduceAdd, Int.reduceSub, Int.reduceMul] | simp -implicitDefEqProofs (disch := omega) only [hb', hr', rd_pair, rowx_length, s1, s2, List.length_set, upd_upd, iaq_vec, iao_arr, iaq_raw, rd_map, wrap_id, binq_quo, binq_rem, binq_shl, binq_shr, tdiv_pos, tmod_pos, if_pos, exV_some, Option.map_some] | ((first | with_reducible apply exIf_dec | ((with_reducible apply exGd_dec); focus exact rfl) | ((with_reducible apply exGq_dec); focus exact rfl) | with_reducible apply exIf_intro | ((with_reducible apply exGd_intro); focus exact rfl) | ((with_reducible apply exGq_intro); focus exact rfl)) <;> intro _) | with_reducible refine exC_pure (ahead_c _ _ _) ?_ | with_reducible refine exCq_pure (ahead_c _ _ _) ?_)
  · exact fin (up_end hU' (.inr (by assumption)))
  · have i0 : 0 < i := by assumption
    have hst := up_step hU' i0 h1 (by simpa using ‹¬¬ah (gi l' i) (gi l' ((i - 1) / 2))›)
    have hl := swapL_length l' i ((i - 1) / 2)
    exact ih ((i - 1) / 2, swapL l' i ((i - 1) / 2), upd H' b2 (some (.row (rows (swapL l' i ((i - 1) / 2)) ++ ex) cap 105 2)))
      ⟨by dsimp only; omega, by dsimp only; omega, by dsimp only; omega, hst, (swapL_perm h0 h1 (by omega) (by omega)).trans hP, hR'.set hl⟩ (by dsimp only; omega)
  · exact fin (up_end hU' (.inl (by omega)))

theorem len_c (H : AHeap) (b b2 n cap th : Nat) (hb : H b = some (.cells [.raw (.slice (some ⟨b2, 0, none⟩) n cap)] th)) : APure Try.prog 84 [.raw (.pointer (some ⟨b, 0, none⟩))] H (iv n) := by
  intro Q h
  refine ACalls.of_code fn_heap_Heap_Len ?_
  simp -implicitDefEqProofs only [sc_heap_Heap_Len, go_sem, Nat.reduceEqDiff, Nat.reduceAdd, Nat.reduceMul, Nat.reduceLeDiff, Nat.reduceSub, Nat.reduceLT, Nat.reduceBEq, Int.reduceToNat, reduceCtorEq, ↓reduceIte, Int.reduceEq, Int.reduceNeg, Int.reduceLT, Int.reduceLE, Int.reduceAdd, Int.reduceSub, Int.reduceMul]
  repeat' (first | simp -implicitDefEqProofs only [go_sem, Nat.reduceEqDiff, Nat.reduceAdd, Nat.reduceMul, Nat.reduceLeDiff, Nat.reduceSub, Nat.reduceLT, Nat.reduceBEq, Int.reduceToNat, reduceCtorEq, ↓reduceIte, Int.reduceEq, Int.reduceNeg, Int.reduceLT, Int.reduceLE, Int.reduceAdd, Int.reduceSub, Int.reduceMul] | simp -implicitDefEqProofs (disch := omega) only [hb, iaq_vec, iao_arr, iaq_raw, rd_map, wrap_id, binq_quo, binq_rem, binq_shl, binq_shr, tdiv_pos, tmod_pos, if_pos, exV_some, Option.map_some] | ((first | with_reducible apply exIf_dec | ((with_reducible apply exGd_dec); focus exact rfl) | ((with_reducible apply exGq_dec); focus exact rfl) | with_reducible apply exIf_intro | ((with_reducible apply exGd_intro); focus exact rfl) | ((with_reducible apply exGq_intro); focus exact rfl)) <;> intro _))
  exact h
theorem len0_c (H : AHeap) (b th : Nat) (hb : H b = some (.cells [.vec true [] 0] th)) : APure Try.prog 84 [.raw (.pointer (some ⟨b, 0, none⟩))] H (iv 0) := by
  intro Q h
  refine ACalls.of_code fn_heap_Heap_Len ?_
  simp -implicitDefEqProofs only [sc_heap_Heap_Len, go_sem, Nat.reduceEqDiff, Nat.reduceAdd, Nat.reduceMul, Nat.reduceLeDiff, Nat.reduceSub, Nat.reduceLT, Nat.reduceBEq, Int.reduceToNat, reduceCtorEq, ↓reduceIte, Int.reduceEq, Int.reduceNeg, Int.reduceLT, Int.reduceLE, Int.reduceAdd, Int.reduceSub, Int.reduceMul]
  repeat' (first | simp -implicitDefEqProofs only [go_sem, Nat.reduceEqDiff, Nat.reduceAdd, Nat.reduceMul, Nat.reduceLeDiff, Nat.reduceSub, Nat.reduceLT, Nat.reduceBEq, Int.reduceToNat, reduceCtorEq, ↓reduceIte, Int.reduceEq, Int.reduceNeg, Int.reduceLT, Int.reduceLE, Int.reduceAdd, Int.reduceSub, Int.reduceMul] | simp -implicitDefEqProofs (disch := omega) only [hb, iaq_vec, iao_arr, iaq_raw, rd_map, wrap_id, binq_quo, binq_rem, binq_shl, binq_shr, tdiv_pos, tmod_pos, if_pos, exV_some, Option.map_some] | ((first | with_reducible apply exIf_dec | ((with_reducible apply exGd_dec); focus exact rfl) | ((with_reducible apply exGq_dec); focus exact rfl) | with_reducible apply exIf_intro | ((with_reducible apply exGd_intro); focus exact rfl) | ((with_reducible apply exGq_intro); focus exact rfl)) <;> intro _))
  exact h
theorem least_c (H : AHeap) (b b2 n cap cap' th : Nat) (ex : List AV) (l : List Pr) (hn : n = l.length) (hl : l.length ≤ 1099511627776) (hb : H b = some (.cells [.raw (.slice (some ⟨b2, 0, none⟩) n cap)] th)) (hr : H b2 = some (.row (rows l ++ ex) cap' 105 2)) (i : Int) (i0 : 0 ≤ i) (i1 : i < 1099511627776) :
    APure Try.prog 85 [.raw (.pointer (some ⟨b, 0, none⟩)), iv i] H (iv (leastOf l i)) := by
  subst hn
  intro Q h
  refine ACalls.of_code fn_heap_Heap_least ?_
  simp -implicitDefEqProofs only [sc_heap_Heap_least, go_sem, Nat.reduceEqDiff, Nat.reduceAdd, Nat.reduceMul, Nat.reduceLeDiff, Nat.reduceSub, Nat.reduceLT, Nat.reduceBEq, Int.reduceToNat, reduceCtorEq, ↓reduceIte, Int.reduceEq, Int.reduceNeg, Int.reduceLT, Int.reduceLE, Int.reduceAdd, Int.reduceSub, Int.reduceMul]
  repeat' (first | simp -implicitDefEqProofs only [go_sem, Nat.reduceEqDiff, Nat.reduceAdd, Nat.reduceMul, Nat.reduceLeDiff, Nat.reduceSub, Nat.reduceLT, Nat.reduceBEq, Int.reduceToNat, reduceCtorEq, ↓reduceIte, Int.reduceEq, Int.reduceNeg, Int.reduceLT, Int.reduceLE, Int.reduceAdd, Int.reduceSub, Int.reduceMul] | simp -implicitDefEqProofs (disch := omega) only [iaq_vec, iao_arr, iaq_raw, rd_map, wrap_id, binq_quo, binq_rem, binq_shl, binq_shr, tdiv_pos, tmod_pos, if_pos, exV_some, Option.map_some] | ((first | with_reducible apply exIf_dec | ((with_reducible apply exGd_dec); focus exact rfl) | ((with_reducible apply exGq_dec); focus exact rfl) | with_reducible apply exIf_intro | ((with_reducible apply exGd_intro); focus exact rfl) | ((with_reducible apply exGq_intro); focus exact rfl)) <;> intro _))
  refine exL_mod (fun a : Int × Int => [(5, .v (iv a.1)), (6, .v (iv a.2))]) (fun _ => [])
    (fun a => 2 * i + 1 ≤ a.2 ∧ a.2 ≤ 2 * i + 3 ∧ (0 ≤ a.1 ∧ (i < l.length → a.1 < l.length)) ∧ (a.2 = 2 * i + 1 → a.1 = i) ∧ (a.2 = 2 * i + 2 → a.1 = if 2 * i + 1 < l.length ∧ ah (gi l (2 * i + 1)) (gi l i) then 2 * i + 1 else i) ∧ (a.2 = 2 * i + 3 → a.1 = leastOf l i)) (fun a => (2 * i + 3 - a.2).toNat) (i, 2 * i + 1) rfl
    ⟨by simp, by simp, by simp [i0], by simp, by simp, by simp⟩ ?_
  rintro ⟨m, k⟩ ⟨k0, k1, ⟨m0, m1⟩, c1, c2, c3⟩ ih
  dsimp only at k0 k1 m0 m1 c1 c2 c3 ih
  simp only [S.up, S.upH, ups, Abs.put, Nat.reduceEqDiff, ↓reduceIte, Nat.reduceAdd] at ih
  simp -implicitDefEqProofs only [congrArg KI.code sc_heap_Heap_least_L0.eq_1, go_sem, Nat.reduceEqDiff, Nat.reduceAdd, Nat.reduceMul, Nat.reduceLeDiff, Nat.reduceSub, Nat.reduceLT, Nat.reduceBEq, Int.reduceToNat, reduceCtorEq, ↓reduceIte, Int.reduceEq, Int.reduceNeg, Int.reduceLT, Int.reduceLE, Int.reduceAdd, Int.reduceSub, Int.reduceMul]
  repeat' (first | simp -implicitDefEqProofs only [go_sem, Nat.reduceEqDiff, Nat.reduceAdd, Nat.reduceMul, Nat.reduceLeDiff, Nat.reduceSub, Nat.reduceLT, Nat.reduceBEq, Int.reduceToNat, reduceCtorEq, ↓reduceIte, Int.reduceEq, Int.reduceNeg, Int.reduceLT, Int.reduceLE, Int.reduceAdd, Int.reduceSub, Int.reduceMul] | simp -implicitDefEqProofs (disch := omega) only [hb, hr, rd_pair, rowx_length, iaq_vec, iao_arr, iaq_raw, rd_map, wrap_id, binq_quo, binq_rem, binq_shl, binq_shr, tdiv_pos, tmod_pos, if_pos, exV_some, Option.map_some] | ((first | with_reducible apply exIf_dec | ((with_reducible apply exGd_dec); focus exact rfl) | ((with_reducible apply exGq_dec); focus exact rfl) | with_reducible apply exIf_intro | ((with_reducible apply exGd_intro); focus exact rfl) | ((with_reducible apply exGq_intro); focus exact rfl)) <;> intro _) | with_reducible refine exC_pure (ahead_c _ _ _) ?_ | with_reducible refine exCq_pure (ahead_c _ _ _) ?_)
  · refine ih (k, k + 1) ⟨by dsimp only; omega, by dsimp only; omega, ⟨by dsimp only; omega, fun _ => by dsimp only; omega⟩, fun hh => by dsimp only at hh; omega, fun hh => ?_, fun hh => ?_⟩ (by dsimp only; omega)
    · dsimp only at hh ⊢
      obtain rfl : k = 2 * i + 1 := by omega
      rw [c1 rfl] at *
      rw [if_pos ⟨by assumption, by assumption⟩]
    · dsimp only at hh ⊢
      obtain rfl : k = 2 * i + 2 := by omega
      rw [leastOf, ← c2 rfl, if_pos ⟨by assumption, by assumption⟩]
  · have hna : ¬ ah (gi l k) (gi l m) := by assumption
    refine ih (m, k + 1) ⟨by dsimp only; omega, by dsimp only; omega, ⟨m0, m1⟩, fun hh => by dsimp only at hh; omega, fun hh => ?_, fun hh => ?_⟩ (by dsimp only; omega)
    · dsimp only at hh ⊢
      obtain rfl : k = 2 * i + 1 := by omega
      rw [c1 rfl] at hna ⊢
      rw [if_neg fun hx => hna hx.2]
    · dsimp only at hh ⊢
      obtain rfl : k = 2 * i + 2 := by omega
      rw [leastOf, ← c2 rfl, if_neg fun hx => hna hx.2]
  · refine fin_ h ?_
    congr 1
    rcases (show k = 2 * i + 1 ∨ k = 2 * i + 2 by omega) with rfl | rfl
    · rw [c1 rfl, leastOf, if_neg fun hx => by omega, if_neg fun hx => by omega]
    · rw [leastOf, ← c2 rfl, if_neg fun hx => by omega]
  · exact fin_ h (by rw [c3 (by omega)])

theorem pop_none_c (H0 H : AHeap) (b : Nat) (hh : HeapAt H0 H b []) : APure Try.prog 75 [.raw (.pointer (some ⟨b, 0, none⟩))] H (.tup [iv 0, iv 0, bv false]) := by
  obtain ⟨hnew, hbase, sv, th, hb, ⟨-, rfl⟩ | ⟨b2, cap, ex, rfl, hr, hne, hn2, hle⟩⟩ := hh
  · intro Q h
    refine ACalls.of_code fn_heap_Heap_Pop ?_
    simp -implicitDefEqProofs only [sc_heap_Heap_Pop, go_sem, Nat.reduceEqDiff, Nat.reduceAdd, Nat.reduceMul, Nat.reduceLeDiff, Nat.reduceSub, Nat.reduceLT, Nat.reduceBEq, Int.reduceToNat, reduceCtorEq, ↓reduceIte, Int.reduceEq, Int.reduceNeg, Int.reduceLT, Int.reduceLE, Int.reduceAdd, Int.reduceSub, Int.reduceMul]
    refine exC_pure (len0_c H b th hb) ?_
    repeat' (first | simp -implicitDefEqProofs only [go_sem, Nat.reduceEqDiff, Nat.reduceAdd, Nat.reduceMul, Nat.reduceLeDiff, Nat.reduceSub, Nat.reduceLT, Nat.reduceBEq, Int.reduceToNat, reduceCtorEq, ↓reduceIte, Int.reduceEq, Int.reduceNeg, Int.reduceLT, Int.reduceLE, Int.reduceAdd, Int.reduceSub, Int.reduceMul] | simp -implicitDefEqProofs (disch := omega) only [iaq_vec, iao_arr, iaq_raw, rd_map, wrap_id, binq_quo, binq_rem, binq_shl, binq_shr, tdiv_pos, tmod_pos, if_pos, exV_some, Option.map_some] | ((first | with_reducible apply exIf_dec | ((with_reducible apply exGd_dec); focus exact rfl) | ((with_reducible apply exGq_dec); focus exact rfl) | with_reducible apply exIf_intro | ((with_reducible apply exGd_intro); focus exact rfl) | ((with_reducible apply exGq_intro); focus exact rfl)) <;> intro _))
    exact h
  · intro Q h
    refine ACalls.of_code fn_heap_Heap_Pop ?_
    simp -implicitDefEqProofs only [sc_heap_Heap_Pop, go_sem, Nat.reduceEqDiff, Nat.reduceAdd, Nat.reduceMul, Nat.reduceLeDiff, Nat.reduceSub, Nat.reduceLT, Nat.reduceBEq, Int.reduceToNat, reduceCtorEq, ↓reduceIte, Int.reduceEq, Int.reduceNeg, Int.reduceLT, Int.reduceLE, Int.reduceAdd, Int.reduceSub, Int.reduceMul]
    refine exC_pure (len_c H b b2 0 cap th hb) ?_
    repeat' (first | simp -implicitDefEqProofs only [go_sem, Nat.reduceEqDiff, Nat.reduceAdd, Nat.reduceMul, Nat.reduceLeDiff, Nat.reduceSub, Nat.reduceLT, Nat.reduceBEq, Int.reduceToNat, reduceCtorEq, ↓reduceIte, Int.reduceEq, Int.reduceNeg, Int.reduceLT, Int.reduceLE, Int.reduceAdd, Int.reduceSub, Int.reduceMul] | simp -implicitDefEqProofs (disch := omega) only [iaq_vec, iao_arr, iaq_raw, rd_map, wrap_id, binq_quo, binq_rem, binq_shl, binq_shr, tdiv_pos, tmod_pos, if_pos, exV_some, Option.map_some] | ((first | with_reducible apply exIf_dec | ((with_reducible apply exGd_dec); focus exact rfl) | ((with_reducible apply exGq_dec); focus exact rfl) | with_reducible apply exIf_intro | ((with_reducible apply exGd_intro); focus exact rfl) | ((with_reducible apply exGq_intro); focus exact rfl)) <;> intro _))
    exact h
theorem pop_c (H0 H : AHeap) (b : Nat) (l : List Pr) (hl : l.length ≤ 1099511627776) (hl0 : l ≠ []) (hh : HeapAt H0 H b l) (hp : IsHeap l) :
    ACalls Try.prog 75 [.raw (.pointer (some ⟨b, 0, none⟩))] H fun r H' => ∃ (p : Pr) (l' : List Pr), r = .tup [iv p.1, iv p.2, bv true] ∧ l.Perm (p :: l') ∧ IsHeap l' ∧ (∀ q ∈ l, ¬ ah q p) ∧ HeapAt H0 H' b l' := by
  obtain ⟨hnew, hbase, sv, th, hb, ⟨e, -⟩ | ⟨b2, cap, ex, rfl, hr, hne, hn2, hle⟩⟩ := hh
  · exact absurd e hl0
  have hpos : 0 < l.length := List.length_pos_iff.2 hl0
  refine ACalls.of_code fn_heap_Heap_Pop ?_
  simp -implicitDefEqProofs only [sc_heap_Heap_Pop, go_sem, Nat.reduceEqDiff, Nat.reduceAdd, Nat.reduceMul, Nat.reduceLeDiff, Nat.reduceSub, Nat.reduceLT, Nat.reduceBEq, Int.reduceToNat, reduceCtorEq, ↓reduceIte, Int.reduceEq, Int.reduceNeg, Int.reduceLT, Int.reduceLE, Int.reduceAdd, Int.reduceSub, Int.reduceMul]
  refine exC_pure (len_c H b b2 l.length cap th hb) ?_
  have r0 := rd_pair (l := l) (ex := ex) (i := 0) (by omega) (by omega)
  rw [show (0 : Int).toNat * 2 = 0 from rfl] at r0
  repeat' (first | simp -implicitDefEqProofs only [go_sem, Nat.reduceEqDiff, Nat.reduceAdd, Nat.reduceMul, Nat.reduceLeDiff, Nat.reduceSub, Nat.reduceLT, Nat.reduceBEq, Int.reduceToNat, reduceCtorEq, ↓reduceIte, Int.reduceEq, Int.reduceNeg, Int.reduceLT, Int.reduceLE, Int.reduceAdd, Int.reduceSub, Int.reduceMul] | simp -implicitDefEqProofs (disch := omega) only [hb, hr, r0, rd_pair, iaq_vec, iao_arr, iaq_raw, rd_map, wrap_id, binq_quo, binq_rem, binq_shl, binq_shr, tdiv_pos, tmod_pos, if_pos, exV_some, Option.map_some] | ((first | with_reducible apply exIf_dec | ((with_reducible apply exGd_dec); focus exact rfl) | ((with_reducible apply exGq_dec); focus exact rfl) | with_reducible apply exIf_intro | ((with_reducible apply exGd_intro); focus exact rfl) | ((with_reducible apply exGq_intro); focus exact rfl)) <;> intro _))
  · omega
  rw [if_pos (by rw [rowx_length]; omega)]
  repeat' (first | simp -implicitDefEqProofs only [go_sem, Nat.reduceEqDiff, Nat.reduceAdd, Nat.reduceMul, Nat.reduceLeDiff, Nat.reduceSub, Nat.reduceLT, Nat.reduceBEq, Int.reduceToNat, reduceCtorEq, ↓reduceIte, Int.reduceEq, Int.reduceNeg, Int.reduceLT, Int.reduceLE, Int.reduceAdd, Int.reduceSub, Int.reduceMul] | simp -implicitDefEqProofs (disch := omega) only [iaq_vec, iao_arr, iaq_raw, rd_map, wrap_id, binq_quo, binq_rem, binq_shl, binq_shr, tdiv_pos, tmod_pos, if_pos, exV_some, Option.map_some] | ((first | with_reducible apply exIf_dec | ((with_reducible apply exGd_dec); focus exact rfl) | ((with_reducible apply exGq_dec); focus exact rfl) | with_reducible apply exIf_intro | ((with_reducible apply exGd_intro); focus exact rfl) | ((with_reducible apply exGq_intro); focus exact rfl)) <;> intro _))
  obtain ⟨q, hq⟩ : ∃ q, q = gi l (l.length - 1) := ⟨_, rfl⟩
  rw [← hq]
  have e0 : iv q.1 :: iv q.2 :: List.drop 2 (rows l ++ ex) = rows (l.set 0 q) ++ ex := by
    have := row2_set (l := l) (ex := ex) (i := 0) (by omega) (by omega) q
    simpa using this
  rw [e0]
  obtain ⟨l2, hl2⟩ : ∃ l2, l2 = (l.set 0 q).take (l.length - 1) := ⟨_, rfl⟩
  obtain ⟨ex2, hex2⟩ : ∃ ex2, ex2 = rows ((l.set 0 q).drop (l.length - 1)) ++ ex := ⟨_, rfl⟩
  have e1 : rows (l.set 0 q) ++ ex = rows l2 ++ ex2 := by
    rw [hl2, hex2, ← List.append_assoc, ← rows_append, List.take_append_drop]
  rw [e1]
  have l2l : l2.length = l.length - 1 := by rw [hl2]; simp
  obtain ⟨H1, hH1⟩ : ∃ H1, H1 = upd H b2 (some (.row (rows l2 ++ ex2) cap 105 2)) := ⟨_, rfl⟩
  rw [← hH1]
  have h1b : H1 b = some (.cells [.raw (.slice (some ⟨b2, 0, none⟩) l.length cap)] th) := by rw [hH1, upd_ne _ _ hne]; exact hb
  have h1r : H1 b2 = some (.row (rows l2 ++ ex2) cap 105 2) := by rw [hH1, upd_self]
  repeat' (first | simp -implicitDefEqProofs only [go_sem, Nat.reduceEqDiff, Nat.reduceAdd, Nat.reduceMul, Nat.reduceLeDiff, Nat.reduceSub, Nat.reduceLT, Nat.reduceBEq, Int.reduceToNat, reduceCtorEq, ↓reduceIte, Int.reduceEq, Int.reduceNeg, Int.reduceLT, Int.reduceLE, Int.reduceAdd, Int.reduceSub, Int.reduceMul] | simp -implicitDefEqProofs (disch := omega) only [h1b, h1r, iaq_vec, iao_arr, iaq_raw, rd_map, wrap_id, binq_quo, binq_rem, binq_shl, binq_shr, tdiv_pos, tmod_pos, if_pos, exV_some, Option.map_some] | ((first | with_reducible apply exIf_dec | ((with_reducible apply exGd_dec); focus exact rfl) | ((with_reducible apply exGq_dec); focus exact rfl) | with_reducible apply exIf_intro | ((with_reducible apply exGd_intro); focus exact rfl) | ((with_reducible apply exGq_intro); focus exact rfl)) <;> intro _))
  rw [if_neg (by omega), show ((l.length : Int) - 1).toNat - 0 = l.length - 1 by omega, show (cap : Int).toNat - 0 = cap by omega]
  repeat' (first | simp -implicitDefEqProofs only [go_sem, Nat.reduceEqDiff, Nat.reduceAdd, Nat.reduceMul, Nat.reduceLeDiff, Nat.reduceSub, Nat.reduceLT, Nat.reduceBEq, Int.reduceToNat, reduceCtorEq, ↓reduceIte, Int.reduceEq, Int.reduceNeg, Int.reduceLT, Int.reduceLE, Int.reduceAdd, Int.reduceSub, Int.reduceMul] | simp -implicitDefEqProofs (disch := omega) only [h1b, iaq_vec, iao_arr, iaq_raw, rd_map, wrap_id, binq_quo, binq_rem, binq_shl, binq_shr, tdiv_pos, tmod_pos, if_pos, exV_some, Option.map_some] | ((first | with_reducible apply exIf_dec | ((with_reducible apply exGd_dec); focus exact rfl) | ((with_reducible apply exGq_dec); focus exact rfl) | with_reducible apply exIf_intro | ((with_reducible apply exGd_intro); focus exact rfl) | ((with_reducible apply exGq_intro); focus exact rfl)) <;> intro _))
  obtain ⟨H2, hH2⟩ : ∃ H2, H2 = upd H1 b (some (.cells [.raw (.slice (some ⟨b2, 0, none⟩) (l.length - 1) cap)] th)) := ⟨_, rfl⟩
  rw [← hH2]
  have hR : HeapR H0 H2 b b2 cap th ex2 (l.length - 1) l2 := by
    refine ⟨hnew, fun b' o ho => ?_, by rw [hH2, upd_self], by rw [hH2, upd_ne _ _ (Ne.symm hne)]; exact h1r, hne, hn2, by omega⟩
    rw [hH2, upd_ne _ _ (by rintro rfl; rw [hnew] at ho; cases ho), hH1, upd_ne _ _ (by rintro rfl; rw [hn2] at ho; cases ho)]
    exact hbase b' o ho
  have gl2 : ∀ k : Int, 0 ≤ k → k < l2.length → gi l2 k = if k = 0 then q else gi l k := by
    intro k k0 k1
    have : gi l2 k = gi (l.set 0 q) k := by
      rw [gi_get (by omega), gi_get (by simp; omega)]
      subst hl2
      rw [List.getElem_take]
    rw [this]
    exact gi_set (i := 0) (by omega) (by omega) k0
  have hD : DownAt l2 0 := by
    refine ⟨fun k k0 k1 hk => ?_, fun h => by omega⟩
    rw [gl2 k (by omega) k1, gl2 _ (by omega) (by omega), if_neg (by omega), if_neg hk]
    exact hp k k0 (by omega)
  have hperm : l.Perm (gi l 0 :: l2) := by
    rw [hl2, hq]
    exact pop_perm l hpos
  clear hH1 hH2 h1b h1r hl2 hex2 e0 e1 gl2
  refine exL_modH (fun a : Int × List Pr × AHeap => [(7, .v (iv a.1))]) (fun _ => []) (fun a => a.2.2)
    (fun a => 0 ≤ a.1 ∧ (a.1 = 0 ∨ a.1 < l2.length) ∧ a.2.1.length = l2.length ∧ DownAt a.2.1 a.1 ∧ a.2.1.Perm l2 ∧ HeapR H0 a.2.2 b b2 cap th ex2 (l.length - 1) a.2.1) (fun a => (l2.length - a.1).toNat) (0, l2, H2) rfl
    ⟨by simp, by simp, by simp, hD, .refl _, hR⟩ ?_
  rintro ⟨i, l', H'⟩ ⟨h0, h1, hlen, hD', hP, hR'⟩ ih
  dsimp only at h0 h1 hlen hD' hP hR' ih
  simp only [S.up, S.upH, ups, Abs.put, Nat.reduceEqDiff, ↓reduceIte, Nat.reduceAdd] at ih
  obtain ⟨-, -, hb', hr', -, -, -⟩ := id hR'
  simp -implicitDefEqProofs only [congrArg KI.code sc_heap_Heap_Pop_L0.eq_1, go_sem, Nat.reduceEqDiff, Nat.reduceAdd, Nat.reduceMul, Nat.reduceLeDiff, Nat.reduceSub, Nat.reduceLT, Nat.reduceBEq, Int.reduceToNat, reduceCtorEq, ↓reduceIte, Int.reduceEq, Int.reduceNeg, Int.reduceLT, Int.reduceLE, Int.reduceAdd, Int.reduceSub, Int.reduceMul]
  refine exC_pure (least_c H' b b2 (l.length - 1) cap cap th ex2 l' (by omega) (by omega) hb' hr' i h0 (by omega)) ?_
  by_cases hn : leastOf l' i = i
  · repeat' (first | simp -implicitDefEqProofs only [go_sem, Nat.reduceEqDiff, Nat.reduceAdd, Nat.reduceMul, Nat.reduceLeDiff, Nat.reduceSub, Nat.reduceLT, Nat.reduceBEq, Int.reduceToNat, reduceCtorEq, ↓reduceIte, Int.reduceEq, Int.reduceNeg, Int.reduceLT, Int.reduceLE, Int.reduceAdd, Int.reduceSub, Int.reduceMul] | simp -implicitDefEqProofs (disch := omega) only [iaq_vec, iao_arr, iaq_raw, rd_map, wrap_id, binq_quo, binq_rem, binq_shl, binq_shr, tdiv_pos, tmod_pos, if_pos, exV_some, Option.map_some] | ((first | with_reducible apply exIf_dec | ((with_reducible apply exGd_dec); focus exact rfl) | ((with_reducible apply exGq_dec); focus exact rfl) | with_reducible apply exIf_intro | ((with_reducible apply exGd_intro); focus exact rfl) | ((with_reducible apply exGq_intro); focus exact rfl)) <;> intro _))
    all_goals first | contradiction | skip
    refine ⟨gi l 0, l', rfl, hperm.trans (hP.symm.cons _), down_end hD' h0 (.inr hn), heap_min hp, ?_⟩
    rw [show l.length - 1 = l'.length by omega] at hR'
    exact hR'.at_
  · have hi : i < l'.length := by
      rcases h1 with rfl | h1
      · by_cases hz : (l'.length : Int) ≤ 1
        · exact absurd (leastOf_out l' 0 (by omega)) hn
        · omega
      · omega
    obtain ⟨hst, p1, p2, p3⟩ := down_step hD' h0 hi hn
    have s1 := row2_set (l := l') (ex := ex2) (i := i) h0 hi (gi l' (leastOf l' i))
    have s2 := row2_set (l := l'.set i.toNat (gi l' (leastOf l' i))) (ex := ex2) (i := leastOf l' i) (by omega) (by simp; omega) (gi l' i)
    have hl := swapL_length l' i (leastOf l' i)
    repeat' (first | simp -implicitDefEqProofs only [go_sem, Nat.reduceEqDiff, Nat.reduceAdd, Nat.reduceMul, Nat.reduceLeDiff, Nat.reduceSub, Nat.reduceLT, Nat.reduceBEq, Int.reduceToNat, reduceCtorEq, ↓reduceIte, Int.reduceEq, Int.reduceNeg, Int.reduceLT, Int.reduceLE, Int.reduceAdd, Int.reduceSub, Int.reduceMul] | simp -implicitDefEqProofs (disch := omega) only [hb', hr', rd_pair, rowx_length, s1, s2, List.length_set, upd_upd, iaq_vec, iao_arr, iaq_raw, rd_map, wrap_id, binq_quo, binq_rem, binq_shl, binq_shr, tdiv_pos, tmod_pos, if_pos, exV_some, Option.map_some] | ((first | with_reducible apply exIf_dec | ((with_reducible apply exGd_dec); focus exact rfl) | ((with_reducible apply exGq_dec); focus exact rfl) | with_reducible apply exIf_intro | ((with_reducible apply exGd_intro); focus exact rfl) | ((with_reducible apply exGq_intro); focus exact rfl)) <;> intro _))
    all_goals first | contradiction | skip
    exact ih (leastOf l' i, swapL l' i (leastOf l' i), upd H' b2 (some (.row (rows (swapL l' i (leastOf l' i)) ++ ex2) cap 105 2)))
      ⟨by dsimp only; omega, by dsimp only; omega, by dsimp only; omega, hst, (swapL_perm h0 hi (by omega) p2).trans hP, hR'.set hl⟩ (by dsimp only; omega)
end Go.Proofs.Ytkephdahbplhfaa
