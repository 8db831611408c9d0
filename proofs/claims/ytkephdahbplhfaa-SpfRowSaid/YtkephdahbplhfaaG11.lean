import Derived.Test.YtkephdahbplhfaaScWaymarklaw6
import Derived.Test.YtkephdahbplhfaaH2
import Derived.Test.YtkephdahbplhfaaGP
set_option linter.unusedSimpArgs false
set_option linter.unusedVariables false
/- The law GraphLimits of chapter 6, as a contract. -/
namespace Go.Proofs.Ytkephdahbplhfaa
open Go Abs
set_option maxHeartbeats 800000

def glim (n m c : Int) : Graph := ⟨n, false, [⟨0, 1, m, c⟩]⟩
theorem glim_c (n m c a e : Int) (h : check (glim n m c) = (a, e)) (H : AHeap) : APure Try.prog 20 [.agg [iv n, .vec false [iv 0, iv 1, iv m, iv c] 1]] H (.tup [iv a, iv e]) := by
  have := check_c (glim n m c) H
  rw [h] at this
  exact this
def lk0 : Link := ⟨0, 1, 1, 0⟩
/-- links that grow on the heap -/
def LinksAt (H H' : AHeap) (sv : AV) (l : List Link) : Prop := (∀ b o, H b = some o → H' b = some o) ∧ ((l = [] ∧ sv = .vec true [] 0) ∨ ∃ b cap, sv = .raw (.slice (some ⟨b, 0, none⟩) l.length cap) ∧ H' b = some (.row (rows l) cap 41 4) ∧ H b = none ∧ l.length ≤ cap)
theorem LinksAt.pre {H H' : AHeap} {sv : AV} {l : List Link} (h : LinksAt H H' sv l) : ∃ ob cap, hpre H' 41 4 (.v sv) = some (ob, l.length, cap, rows l) ∧ ∀ b, ob = some b → H b = none := by
  obtain ⟨-, ⟨rfl, rfl⟩ | ⟨b, cap, rfl, h1, h2, h3⟩⟩ := h
  · exact ⟨none, 0, rfl, by simp⟩
  · refine ⟨some b, cap, ?_, ?_⟩
    · have hr := rows_length l
      rw [Link.sz_eq] at hr
      simp only [hpre, h1]
      rw [if_pos (by simp only [true_and]; omega), ← hr, List.take_length]
    · rintro b' hb; injection hb with hb; rw [← hb]; exact h2
theorem LinksAt.push {H H' : AHeap} {sv : AV} {l : List Link} {ob : Option Nat} {b cap : Nat} (h : LinksAt H H' sv l) (hob : ∀ b, ob = some b → H b = none) (hb : ob = some b ∨ H' b = none) (hc : l.length + 1 ≤ cap) (x : Link) :
    LinksAt H (upd (delH H' ob) b (some (.row (rows l ++ Enc.cells x) cap 41 4))) (.raw (.slice (some ⟨b, 0, none⟩) (l.length + 1) cap)) (l ++ [x]) := by
  have hn : H b = none := by
    rcases hb with hb | hb
    · exact hob b hb
    · cases hq : H b with
      | none => rfl
      | some o => rw [h.1 b o hq] at hb; cases hb
  refine ⟨fun b' o ho => ?_, .inr ⟨b, cap, by simp, by rw [upd_self, rows_append, rows_one], hn, by simpa using hc⟩⟩
  rw [upd_ne _ _ (by rintro rfl; rw [hn] at ho; cases ho)]
  cases ob with
  | none => exact h.1 b' o ho
  | some b0 => exact (upd_ne _ _ (by rintro rfl; rw [hob _ rfl] at ho; cases ho)).trans (h.1 b' o ho)
theorem graphLimits_c (which : Int) (over : Bool) (H : AHeap) : APure Try.prog 5 [iv which, bv over] H (bv true) := by
  intro Q h
  refine ACalls.forget (ACalls.of_code fn_waymarklaw6_GraphLimits ?_)
  simp -implicitDefEqProofs only [sc_waymarklaw6_GraphLimits, go_sem, Nat.reduceEqDiff, Nat.reduceAdd, Nat.reduceMul, Nat.reduceLeDiff, Nat.reduceSub, Nat.reduceLT, Nat.reduceBEq, Int.reduceToNat, reduceCtorEq, ↓reduceIte, Int.reduceEq, Int.reduceNeg, Int.reduceLT, Int.reduceLE, Int.reduceAdd, Int.reduceSub, Int.reduceMul]
  refine exC_pure (alive_c _) ?_
  repeat' (first | simp -implicitDefEqProofs only [go_sem, Nat.reduceEqDiff, Nat.reduceAdd, Nat.reduceMul, Nat.reduceLeDiff, Nat.reduceSub, Nat.reduceLT, Nat.reduceBEq, Int.reduceToNat, reduceCtorEq, ↓reduceIte, Int.reduceEq, Int.reduceNeg, Int.reduceLT, Int.reduceLE, Int.reduceAdd, Int.reduceSub, Int.reduceMul] | simp -implicitDefEqProofs (disch := omega) only [iaq_vec, iao_arr, iaq_raw, rd_map, wrap_id, binq_quo, binq_rem, binq_shl, binq_shr, tdiv_pos, tmod_pos, if_pos, exV_some, Option.map_some] | ((first | with_reducible apply exIf_dec | ((with_reducible apply exGd_dec); focus exact rfl) | ((with_reducible apply exGq_dec); focus exact rfl) | with_reducible apply exIf_intro | ((with_reducible apply exGd_intro); focus exact rfl) | ((with_reducible apply exGq_intro); focus exact rfl)) <;> intro _))
  all_goals first | exact ⟨fun _ _ h => h, h⟩ | skip
  · rename_i ho
    subst ho
    intro b hb
    have c0 := glim_c 41 1 0 (-1) 1 (by decide)
    have c2 := glim_c 2 16777217 0 0 1 (by decide)
    have c3 := glim_c 2 1 63 0 1 (by decide)
    have c4 := glim_c 2 0 0 0 1 (by decide)
    repeat' (first | simp -implicitDefEqProofs only [go_sem, Nat.reduceEqDiff, Nat.reduceAdd, Nat.reduceMul, Nat.reduceLeDiff, Nat.reduceSub, Nat.reduceLT, Nat.reduceBEq, Int.reduceToNat, reduceCtorEq, ↓reduceIte, Int.reduceEq, Int.reduceNeg, Int.reduceLT, Int.reduceLE, Int.reduceAdd, Int.reduceSub, Int.reduceMul] | simp -implicitDefEqProofs (disch := omega) only [upd_self, upd_upd, iaq_vec, iao_arr, iaq_raw, rd_map, wrap_id, binq_quo, binq_rem, binq_shl, binq_shr, tdiv_pos, tmod_pos, if_pos, exV_some, Option.map_some] | ((first | with_reducible apply exIf_dec | ((with_reducible apply exGd_dec); focus exact rfl) | ((with_reducible apply exGq_dec); focus exact rfl) | with_reducible apply exIf_intro | ((with_reducible apply exGd_intro); focus exact rfl) | ((with_reducible apply exGq_intro); focus exact rfl)) <;> intro _) | with_reducible refine exC_pure (c0 _) ?_ | with_reducible refine exCq_pure (c0 _) ?_ | with_reducible refine exC_pure (c2 _) ?_ | with_reducible refine exCq_pure (c2 _) ?_ | with_reducible refine exC_pure (c3 _) ?_ | with_reducible refine exCq_pure (c3 _) ?_ | with_reducible refine exC_pure (c4 _) ?_ | with_reducible refine exCq_pure (c4 _) ?_ | with_reducible refine exC_pure (num_c _ _) ?_ | with_reducible refine exCq_pure (num_c _ _) ?_)
    all_goals first | exact ⟨fun b' o ho => (upd_ne _ _ (by rintro rfl; rw [hb] at ho; cases ho)).trans ho, h⟩ | skip
    · refine exL_modH (fun a : Int × AV × AHeap => [(10, .v (iv a.1))]) (fun a => [(7, .cells [iv 2, a.2.1] 24)]) (fun a => a.2.2)
        (fun a => 0 ≤ a.1 ∧ a.1 ≤ 121 ∧ LinksAt H a.2.2 a.2.1 (List.replicate a.1.toNat lk0)) (fun a => (121 - a.1).toNat) (0, .vec true [] 0, _) rfl ⟨by simp, by dsimp only; omega, fun b' o ho => (upd_ne _ _ (by rintro rfl; rw [hb] at ho; cases ho)).trans ho, .inl ⟨rfl, rfl⟩⟩ ?_
      rintro ⟨i, sv, H'⟩ ⟨i0, i1, hT⟩ ih
      dsimp only at i0 i1 hT ih
      simp only [S.up, S.upH, ups, Abs.put, Nat.reduceEqDiff, ↓reduceIte, Nat.reduceAdd] at ih
      simp -implicitDefEqProofs only [congrArg KI.code sc_waymarklaw6_GraphLimits_L0.eq_1, go_sem, Nat.reduceEqDiff, Nat.reduceAdd, Nat.reduceMul, Nat.reduceLeDiff, Nat.reduceSub, Nat.reduceLT, Nat.reduceBEq, Int.reduceToNat, reduceCtorEq, ↓reduceIte, Int.reduceEq, Int.reduceNeg, Int.reduceLT, Int.reduceLE, Int.reduceAdd, Int.reduceSub, Int.reduceMul]
      by_cases hi : i < 121
      · obtain ⟨ob, cap, hp, hob⟩ := hT.pre
        repeat' (first | simp -implicitDefEqProofs only [go_sem, Nat.reduceEqDiff, Nat.reduceAdd, Nat.reduceMul, Nat.reduceLeDiff, Nat.reduceSub, Nat.reduceLT, Nat.reduceBEq, Int.reduceToNat, reduceCtorEq, ↓reduceIte, Int.reduceEq, Int.reduceNeg, Int.reduceLT, Int.reduceLE, Int.reduceAdd, Int.reduceSub, Int.reduceMul] | simp -implicitDefEqProofs (disch := omega) only [iaq_vec, iao_arr, iaq_raw, rd_map, wrap_id, binq_quo, binq_rem, binq_shl, binq_shr, tdiv_pos, tmod_pos, if_pos, exV_some, Option.map_some] | ((first | with_reducible apply exIf_dec | ((with_reducible apply exGd_dec); focus exact rfl) | ((with_reducible apply exGq_dec); focus exact rfl) | with_reducible apply exIf_intro | ((with_reducible apply exGd_intro); focus exact rfl) | ((with_reducible apply exGq_intro); focus exact rfl)) <;> intro _))
        all_goals first | (exfalso; omega) | skip
        rw [hp]
        have hlen : (List.replicate i.toNat lk0).length = i.toNat := by simp
        refine hapK_pos rfl (by omega) (by simp only [maxLen]; omega) (by omega) ?_
        intro b2 cap2 hb2 hc2
        simp only [S.newhd]
        have hS := hT.push hob hb2 hc2 lk0
        repeat' (first | simp -implicitDefEqProofs only [go_sem, Nat.reduceEqDiff, Nat.reduceAdd, Nat.reduceMul, Nat.reduceLeDiff, Nat.reduceSub, Nat.reduceLT, Nat.reduceBEq, Int.reduceToNat, reduceCtorEq, ↓reduceIte, Int.reduceEq, Int.reduceNeg, Int.reduceLT, Int.reduceLE, Int.reduceAdd, Int.reduceSub, Int.reduceMul] | simp -implicitDefEqProofs (disch := omega) only [hlen, iaq_vec, iao_arr, iaq_raw, rd_map, wrap_id, binq_quo, binq_rem, binq_shl, binq_shr, tdiv_pos, tmod_pos, if_pos, exV_some, Option.map_some] | ((first | with_reducible apply exIf_dec | ((with_reducible apply exGd_dec); focus exact rfl) | ((with_reducible apply exGq_dec); focus exact rfl) | with_reducible apply exIf_intro | ((with_reducible apply exGd_intro); focus exact rfl) | ((with_reducible apply exGq_intro); focus exact rfl)) <;> intro _))
        refine ih (i + 1, .raw (.slice (some ⟨b2, 0, none⟩) (i.toNat + 1) cap2), _) ⟨by dsimp only; omega, by dsimp only; omega, ?_⟩ (by dsimp only; omega)
        dsimp only
        rw [show (i + 1).toNat = i.toNat + 1 by omega, List.replicate_succ']
        rw [hlen] at hS
        exact hS
      · obtain rfl : i = 121 := by omega
        obtain ⟨hbs, ⟨hl0, _⟩ | ⟨b2, cap, rfl, hat, hn2, hcap⟩⟩ := hT
        · exact absurd hl0 (by decide)
        obtain ⟨L, hL⟩ : ∃ L, L = List.replicate (121 : Int).toNat lk0 := ⟨_, rfl⟩
        rw [← hL] at hat hcap ⊢
        have hl : L.length = 121 := by rw [hL]; rfl
        have hrl := rows_length L
        rw [Link.sz_eq, hl] at hrl
        have ck : ∀ H, APure Try.prog 20 [.agg [iv 2, .vec false (rows L) 121]] H (.tup [iv (-1), iv 6]) := fun H => by
          have := check_c ⟨2, false, L⟩ H
          rw [show check ⟨2, false, L⟩ = (-1, 6) by rw [hL]; kernel_rfl] at this
          rw [← hl]
          exact this
        have t1 : 484 ≤ (rows L).length := by omega
        have t2 : 121 ≤ cap := by omega
        have t3 : (rows L).take 484 = rows L := List.take_of_length_le (by omega)
        rw [hl]
        clear hL
        repeat' (first | simp -implicitDefEqProofs only [go_sem, Nat.reduceEqDiff, Nat.reduceAdd, Nat.reduceMul, Nat.reduceLeDiff, Nat.reduceSub, Nat.reduceLT, Nat.reduceBEq, Int.reduceToNat, reduceCtorEq, ↓reduceIte, Int.reduceEq, Int.reduceNeg, Int.reduceLT, Int.reduceLE, Int.reduceAdd, Int.reduceSub, Int.reduceMul] | simp -implicitDefEqProofs (disch := omega) only [hat, t1, t2, t3, Nat.le_refl, and_self, true_and, iaq_vec, iao_arr, iaq_raw, rd_map, wrap_id, binq_quo, binq_rem, binq_shl, binq_shr, tdiv_pos, tmod_pos, if_pos, exV_some, Option.map_some] | ((first | with_reducible apply exIf_dec | ((with_reducible apply exGd_dec); focus exact rfl) | ((with_reducible apply exGq_dec); focus exact rfl) | with_reducible apply exIf_intro | ((with_reducible apply exGd_intro); focus exact rfl) | ((with_reducible apply exGq_intro); focus exact rfl)) <;> intro _) | with_reducible refine exC_pure (ck _) ?_ | with_reducible refine exCq_pure (ck _) ?_ | with_reducible refine exC_pure (num_c _ _) ?_ | with_reducible refine exCq_pure (num_c _ _) ?_)
        all_goals first | exact ⟨fun b' o ho => (upd_ne _ _ (by rintro rfl; rw [hn2] at ho; cases ho)).trans (hbs b' o ho), h⟩ | skip
  · rename_i ho
    subst ho
    intro b hb
    have c0 := glim_c 40 1 0 (-1) 0 (by decide)
    have c2 := glim_c 2 16777216 0 (-1) 0 (by decide)
    have c3 := glim_c 2 1 62 (-1) 0 (by decide)
    have c4 := glim_c 2 1 0 (-1) 0 (by decide)
    repeat' (first | simp -implicitDefEqProofs only [go_sem, Nat.reduceEqDiff, Nat.reduceAdd, Nat.reduceMul, Nat.reduceLeDiff, Nat.reduceSub, Nat.reduceLT, Nat.reduceBEq, Int.reduceToNat, reduceCtorEq, ↓reduceIte, Int.reduceEq, Int.reduceNeg, Int.reduceLT, Int.reduceLE, Int.reduceAdd, Int.reduceSub, Int.reduceMul] | simp -implicitDefEqProofs (disch := omega) only [upd_self, upd_upd, iaq_vec, iao_arr, iaq_raw, rd_map, wrap_id, binq_quo, binq_rem, binq_shl, binq_shr, tdiv_pos, tmod_pos, if_pos, exV_some, Option.map_some] | ((first | with_reducible apply exIf_dec | ((with_reducible apply exGd_dec); focus exact rfl) | ((with_reducible apply exGq_dec); focus exact rfl) | with_reducible apply exIf_intro | ((with_reducible apply exGd_intro); focus exact rfl) | ((with_reducible apply exGq_intro); focus exact rfl)) <;> intro _) | with_reducible refine exC_pure (c0 _) ?_ | with_reducible refine exCq_pure (c0 _) ?_ | with_reducible refine exC_pure (c2 _) ?_ | with_reducible refine exCq_pure (c2 _) ?_ | with_reducible refine exC_pure (c3 _) ?_ | with_reducible refine exCq_pure (c3 _) ?_ | with_reducible refine exC_pure (c4 _) ?_ | with_reducible refine exCq_pure (c4 _) ?_ | with_reducible refine exC_pure (num_c _ _) ?_ | with_reducible refine exCq_pure (num_c _ _) ?_)
    all_goals first | exact ⟨fun b' o ho => (upd_ne _ _ (by rintro rfl; rw [hb] at ho; cases ho)).trans ho, h⟩ | skip
    · refine exL_modH (fun a : Int × AV × AHeap => [(10, .v (iv a.1))]) (fun a => [(7, .cells [iv 2, a.2.1] 24)]) (fun a => a.2.2)
        (fun a => 0 ≤ a.1 ∧ a.1 ≤ 120 ∧ LinksAt H a.2.2 a.2.1 (List.replicate a.1.toNat lk0)) (fun a => (120 - a.1).toNat) (0, .vec true [] 0, _) rfl ⟨by simp, by dsimp only; omega, fun b' o ho => (upd_ne _ _ (by rintro rfl; rw [hb] at ho; cases ho)).trans ho, .inl ⟨rfl, rfl⟩⟩ ?_
      rintro ⟨i, sv, H'⟩ ⟨i0, i1, hT⟩ ih
      dsimp only at i0 i1 hT ih
      simp only [S.up, S.upH, ups, Abs.put, Nat.reduceEqDiff, ↓reduceIte, Nat.reduceAdd] at ih
      simp -implicitDefEqProofs only [congrArg KI.code sc_waymarklaw6_GraphLimits_L0.eq_1, go_sem, Nat.reduceEqDiff, Nat.reduceAdd, Nat.reduceMul, Nat.reduceLeDiff, Nat.reduceSub, Nat.reduceLT, Nat.reduceBEq, Int.reduceToNat, reduceCtorEq, ↓reduceIte, Int.reduceEq, Int.reduceNeg, Int.reduceLT, Int.reduceLE, Int.reduceAdd, Int.reduceSub, Int.reduceMul]
      by_cases hi : i < 120
      · obtain ⟨ob, cap, hp, hob⟩ := hT.pre
        repeat' (first | simp -implicitDefEqProofs only [go_sem, Nat.reduceEqDiff, Nat.reduceAdd, Nat.reduceMul, Nat.reduceLeDiff, Nat.reduceSub, Nat.reduceLT, Nat.reduceBEq, Int.reduceToNat, reduceCtorEq, ↓reduceIte, Int.reduceEq, Int.reduceNeg, Int.reduceLT, Int.reduceLE, Int.reduceAdd, Int.reduceSub, Int.reduceMul] | simp -implicitDefEqProofs (disch := omega) only [iaq_vec, iao_arr, iaq_raw, rd_map, wrap_id, binq_quo, binq_rem, binq_shl, binq_shr, tdiv_pos, tmod_pos, if_pos, exV_some, Option.map_some] | ((first | with_reducible apply exIf_dec | ((with_reducible apply exGd_dec); focus exact rfl) | ((with_reducible apply exGq_dec); focus exact rfl) | with_reducible apply exIf_intro | ((with_reducible apply exGd_intro); focus exact rfl) | ((with_reducible apply exGq_intro); focus exact rfl)) <;> intro _))
        all_goals first | (exfalso; omega) | skip
        rw [hp]
        have hlen : (List.replicate i.toNat lk0).length = i.toNat := by simp
        refine hapK_pos rfl (by omega) (by simp only [maxLen]; omega) (by omega) ?_
        intro b2 cap2 hb2 hc2
        simp only [S.newhd]
        have hS := hT.push hob hb2 hc2 lk0
        repeat' (first | simp -implicitDefEqProofs only [go_sem, Nat.reduceEqDiff, Nat.reduceAdd, Nat.reduceMul, Nat.reduceLeDiff, Nat.reduceSub, Nat.reduceLT, Nat.reduceBEq, Int.reduceToNat, reduceCtorEq, ↓reduceIte, Int.reduceEq, Int.reduceNeg, Int.reduceLT, Int.reduceLE, Int.reduceAdd, Int.reduceSub, Int.reduceMul] | simp -implicitDefEqProofs (disch := omega) only [hlen, iaq_vec, iao_arr, iaq_raw, rd_map, wrap_id, binq_quo, binq_rem, binq_shl, binq_shr, tdiv_pos, tmod_pos, if_pos, exV_some, Option.map_some] | ((first | with_reducible apply exIf_dec | ((with_reducible apply exGd_dec); focus exact rfl) | ((with_reducible apply exGq_dec); focus exact rfl) | with_reducible apply exIf_intro | ((with_reducible apply exGd_intro); focus exact rfl) | ((with_reducible apply exGq_intro); focus exact rfl)) <;> intro _))
        refine ih (i + 1, .raw (.slice (some ⟨b2, 0, none⟩) (i.toNat + 1) cap2), _) ⟨by dsimp only; omega, by dsimp only; omega, ?_⟩ (by dsimp only; omega)
        dsimp only
        rw [show (i + 1).toNat = i.toNat + 1 by omega, List.replicate_succ']
        rw [hlen] at hS
        exact hS
      · obtain rfl : i = 120 := by omega
        obtain ⟨hbs, ⟨hl0, _⟩ | ⟨b2, cap, rfl, hat, hn2, hcap⟩⟩ := hT
        · exact absurd hl0 (by decide)
        obtain ⟨L, hL⟩ : ∃ L, L = List.replicate (120 : Int).toNat lk0 := ⟨_, rfl⟩
        rw [← hL] at hat hcap ⊢
        have hl : L.length = 120 := by rw [hL]; rfl
        have hrl := rows_length L
        rw [Link.sz_eq, hl] at hrl
        have ck : ∀ H, APure Try.prog 20 [.agg [iv 2, .vec false (rows L) 120]] H (.tup [iv (-1), iv 0]) := fun H => by
          have := check_c ⟨2, false, L⟩ H
          rw [show check ⟨2, false, L⟩ = (-1, 0) by rw [hL]; kernel_rfl] at this
          rw [← hl]
          exact this
        have t1 : 480 ≤ (rows L).length := by omega
        have t2 : 120 ≤ cap := by omega
        have t3 : (rows L).take 480 = rows L := List.take_of_length_le (by omega)
        rw [hl]
        clear hL
        repeat' (first | simp -implicitDefEqProofs only [go_sem, Nat.reduceEqDiff, Nat.reduceAdd, Nat.reduceMul, Nat.reduceLeDiff, Nat.reduceSub, Nat.reduceLT, Nat.reduceBEq, Int.reduceToNat, reduceCtorEq, ↓reduceIte, Int.reduceEq, Int.reduceNeg, Int.reduceLT, Int.reduceLE, Int.reduceAdd, Int.reduceSub, Int.reduceMul] | simp -implicitDefEqProofs (disch := omega) only [hat, t1, t2, t3, Nat.le_refl, and_self, true_and, iaq_vec, iao_arr, iaq_raw, rd_map, wrap_id, binq_quo, binq_rem, binq_shl, binq_shr, tdiv_pos, tmod_pos, if_pos, exV_some, Option.map_some] | ((first | with_reducible apply exIf_dec | ((with_reducible apply exGd_dec); focus exact rfl) | ((with_reducible apply exGq_dec); focus exact rfl) | with_reducible apply exIf_intro | ((with_reducible apply exGd_intro); focus exact rfl) | ((with_reducible apply exGq_intro); focus exact rfl)) <;> intro _) | with_reducible refine exC_pure (ck _) ?_ | with_reducible refine exCq_pure (ck _) ?_ | with_reducible refine exC_pure (num_c _ _) ?_ | with_reducible refine exCq_pure (num_c _ _) ?_)
        all_goals first | exact ⟨fun b' o ho => (upd_ne _ _ (by rintro rfl; rw [hn2] at ho; cases ho)).trans (hbs b' o ho), h⟩ | skip
end Go.Proofs.Ytkephdahbplhfaa
