import Derived.Test.YtkephdahbplhfaaScWaymarklaw7
import Derived.Test.YtkephdahbplhfaaS9
import Derived.Test.YtkephdahbplhfaaS6
import Derived.Test.YtkephdahbplhfaaG11
set_option linter.unusedSimpArgs false
set_option linter.unusedVariables false
/- The law SpfRow of chapter 7, as a contract. -/
namespace Go.Proofs.Ytkephdahbplhfaa
open Go Abs
set_option maxHeartbeats 800000

theorem and1023 (x : Int) : 0 ≤ iand .i64 x 1023 ∧ iand .i64 x 1023 ≤ 1023 := by
  have h : (BitVec.ofInt IntKind.i64.bits x &&& BitVec.ofInt IntKind.i64.bits 1023).toNat ≤ 1023 := by
    rw [BitVec.toNat_and]
    exact Nat.le_trans Nat.and_le_right (by decide)
  unfold iand
  rw [wrap_id (by omega) (by omega)]
  omega
theorem pre_bound {w : Int → Int} (hw : ∀ k, 1 ≤ w k ∧ w k ≤ 1024) : ∀ n : Nat, 0 ≤ pre w n ∧ pre w n ≤ 1024 * n
  | 0 => ⟨Int.le_refl _, Int.le_refl _⟩
  | n + 1 => by
    have h1 := pre_bound hw n
    have h2 := hw n
    rw [show ((n + 1 : Nat) : Int) = (n : Int) + 1 by omega, pre_succ w (by omega)]
    omega
theorem pre_mono {w : Int → Int} (hw : ∀ k, 1 ≤ w k ∧ w k ≤ 1024) {a b : Int} (a0 : 0 ≤ a) (hab : a ≤ b) : pre w a ≤ pre w b := by
  obtain ⟨n, rfl⟩ : ∃ n : Nat, b = a + n := ⟨(b - a).toNat, by omega⟩
  clear hab
  induction n with
  | zero => simp
  | succ n ih =>
    have h2 := hw (a + n)
    rw [show a + ((n + 1 : Nat) : Int) = a + n + 1 by omega, pre_succ w (by omega)]
    omega
theorem spfRow_c (nl : Bool) (ms : List Int) (hml : ms.length * 8 ≤ 140737488351232) (hms : I64s ms) (s gone : Int) (H : AHeap) : APure Try.prog 11 [.vec nl (ms.map iv) ms.length, iv s, iv gone] H (bv true) := by
  intro Q h
  refine ACalls.forget (ACalls.of_code fn_waymarklaw7_SpfRow ?_)
  simp -implicitDefEqProofs only [sc_waymarklaw7_SpfRow, go_sem, Nat.reduceEqDiff, Nat.reduceAdd, Nat.reduceMul, Nat.reduceLeDiff, Nat.reduceSub, Nat.reduceLT, Nat.reduceBEq, Int.reduceToNat, reduceCtorEq, ↓reduceIte, Int.reduceEq, Int.reduceNeg, Int.reduceLT, Int.reduceLE, Int.reduceAdd, Int.reduceSub, Int.reduceMul]
  refine exC_pure (alive7_c _) ?_
  repeat' (first | simp -implicitDefEqProofs only [go_sem, Nat.reduceEqDiff, Nat.reduceAdd, Nat.reduceMul, Nat.reduceLeDiff, Nat.reduceSub, Nat.reduceLT, Nat.reduceBEq, Int.reduceToNat, reduceCtorEq, ↓reduceIte, Int.reduceEq, Int.reduceNeg, Int.reduceLT, Int.reduceLE, Int.reduceAdd, Int.reduceSub, Int.reduceMul] | simp -implicitDefEqProofs (disch := omega) only [iaq_vec, iao_arr, iaq_raw, rd_map, wrap_id, binq_quo, binq_rem, binq_shl, binq_shr, tdiv_pos, tmod_pos, if_pos, exV_some, Option.map_some] | ((first | with_reducible apply exIf_dec | ((with_reducible apply exGd_dec); focus exact rfl) | ((with_reducible apply exGq_dec); focus exact rfl) | with_reducible apply exIf_intro | ((with_reducible apply exGd_intro); focus exact rfl) | ((with_reducible apply exGq_intro); focus exact rfl)) <;> intro _))
  all_goals first | exact ⟨fun _ _ h => h, h⟩ | skip
  obtain ⟨w, hw⟩ : ∃ w : Int → Int, w = fun k => 1 + iand .i64 (gi ms k) 1023 := ⟨_, rfl⟩
  obtain ⟨lk, hlk⟩ : ∃ lk : Int → Link, lk = fun k => ⟨k, k + 1, w k, 0⟩ := ⟨_, rfl⟩
  have hww : ∀ k, IntKind.i64.wrap (1 + iand .i64 (gi ms k) 1023) = w k ∧ 1 ≤ w k ∧ w k ≤ 1024 := fun k => by
    have := and1023 (gi ms k)
    rw [hw]
    dsimp only
    rw [wrap_id (by omega) (by omega)]
    omega
  refine exL_modH (fun a : Int × AV × AHeap => [(10, .v (iv a.1))]) (fun a => [(9, .cells [iv (ms.length + 1), a.2.1] 24)]) (fun a => a.2.2)
    (fun a => 0 ≤ a.1 ∧ a.1 ≤ ms.length ∧ LinksAt H a.2.2 a.2.1 ((List.range a.1.toNat).map fun (k : Nat) => lk (k : Int))) (fun a => (ms.length - a.1).toNat) (0, .vec true [] 0, _) rfl ⟨by simp, by dsimp only; omega, fun b' o ho => ho, .inl ⟨rfl, rfl⟩⟩ ?_
  rintro ⟨i, sv, H'⟩ ⟨i0, i1, hT⟩ ih
  dsimp only at i0 i1 hT ih
  simp only [S.up, S.upH, ups, Abs.put, Nat.reduceEqDiff, ↓reduceIte, Nat.reduceAdd] at ih
  simp -implicitDefEqProofs only [congrArg KI.code sc_waymarklaw7_SpfRow_L2.eq_1, go_sem, Nat.reduceEqDiff, Nat.reduceAdd, Nat.reduceMul, Nat.reduceLeDiff, Nat.reduceSub, Nat.reduceLT, Nat.reduceBEq, Int.reduceToNat, reduceCtorEq, ↓reduceIte, Int.reduceEq, Int.reduceNeg, Int.reduceLT, Int.reduceLE, Int.reduceAdd, Int.reduceSub, Int.reduceMul]
  by_cases hi : i < ms.length
  · obtain ⟨Li, hLi⟩ : ∃ Li, Li = (List.range i.toNat).map fun (k : Nat) => lk (k : Int) := ⟨_, rfl⟩
    have hlen : Li.length = i.toNat := by rw [hLi]; simp
    rw [← hLi] at hT
    obtain ⟨ob, cap, hp, hob⟩ := hT.pre
    have hwi := (hww i).1
    repeat' (first | simp -implicitDefEqProofs only [go_sem, Nat.reduceEqDiff, Nat.reduceAdd, Nat.reduceMul, Nat.reduceLeDiff, Nat.reduceSub, Nat.reduceLT, Nat.reduceBEq, Int.reduceToNat, reduceCtorEq, ↓reduceIte, Int.reduceEq, Int.reduceNeg, Int.reduceLT, Int.reduceLE, Int.reduceAdd, Int.reduceSub, Int.reduceMul] | simp -implicitDefEqProofs (disch := omega) only [hwi, iaq_vec, iao_arr, iaq_raw, rd_map, wrap_id, binq_quo, binq_rem, binq_shl, binq_shr, tdiv_pos, tmod_pos, if_pos, exV_some, Option.map_some] | ((first | with_reducible apply exIf_dec | ((with_reducible apply exGd_dec); focus exact rfl) | ((with_reducible apply exGq_dec); focus exact rfl) | with_reducible apply exIf_intro | ((with_reducible apply exGd_intro); focus exact rfl) | ((with_reducible apply exGq_intro); focus exact rfl)) <;> intro _))
    all_goals first | (exfalso; omega) | skip
    rw [hp]
    refine hapK_pos rfl (by omega) (by simp only [maxLen]; omega) (by omega) ?_
    intro b2 cap2 hb2 hc2
    simp only [S.newhd]
    have hS := hT.push hob hb2 hc2 (lk i)
    have eL : ((List.range (i + 1).toNat).map fun (k : Nat) => lk (k : Int)) = Li ++ [lk i] := by
      rw [show (i + 1).toNat = i.toNat + 1 by omega, List.range_succ, List.map_append, hLi]
      simp [Int.toNat_of_nonneg i0]
    have hcells : Enc.cells (lk i) = [iv i, iv (i + 1), iv (w i), iv 0] := by rw [hlk]; rfl
    rw [hcells] at hS
    repeat' (first | simp -implicitDefEqProofs only [go_sem, Nat.reduceEqDiff, Nat.reduceAdd, Nat.reduceMul, Nat.reduceLeDiff, Nat.reduceSub, Nat.reduceLT, Nat.reduceBEq, Int.reduceToNat, reduceCtorEq, ↓reduceIte, Int.reduceEq, Int.reduceNeg, Int.reduceLT, Int.reduceLE, Int.reduceAdd, Int.reduceSub, Int.reduceMul] | simp -implicitDefEqProofs (disch := omega) only [iaq_vec, iao_arr, iaq_raw, rd_map, wrap_id, binq_quo, binq_rem, binq_shl, binq_shr, tdiv_pos, tmod_pos, if_pos, exV_some, Option.map_some] | ((first | with_reducible apply exIf_dec | ((with_reducible apply exGd_dec); focus exact rfl) | ((with_reducible apply exGq_dec); focus exact rfl) | with_reducible apply exIf_intro | ((with_reducible apply exGd_intro); focus exact rfl) | ((with_reducible apply exGq_intro); focus exact rfl)) <;> intro _))
    refine ih (i + 1, .raw (.slice (some ⟨b2, 0, none⟩) (Li.length + 1) cap2), upd (delH H' ob) b2 (some (.row (rows Li ++ [iv i, iv (i + 1), iv (w i), iv 0]) cap2 41 4))) ⟨by dsimp only; omega, by dsimp only; omega, ?_⟩ (by dsimp only; omega)
    dsimp only
    rw [eL]
    exact hS
  · have hi' : i = ms.length := by omega
    subst hi'
    obtain ⟨L, hL⟩ : ∃ L, L = (List.range ((ms.length : Nat) : Int).toNat).map fun (k : Nat) => lk (k : Int) := ⟨_, rfl⟩
    rw [← hL] at hT
    have hLn : L.length = ms.length := by rw [hL]; simp
    clear ih
    repeat' (first | simp -implicitDefEqProofs only [go_sem, Nat.reduceEqDiff, Nat.reduceAdd, Nat.reduceMul, Nat.reduceLeDiff, Nat.reduceSub, Nat.reduceLT, Nat.reduceBEq, Int.reduceToNat, reduceCtorEq, ↓reduceIte, Int.reduceEq, Int.reduceNeg, Int.reduceLT, Int.reduceLE, Int.reduceAdd, Int.reduceSub, Int.reduceMul] | simp -implicitDefEqProofs (disch := omega) only [iaq_vec, iao_arr, iaq_raw, rd_map, wrap_id, binq_quo, binq_rem, binq_shl, binq_shr, tdiv_pos, tmod_pos, if_pos, exV_some, Option.map_some] | ((first | with_reducible apply exIf_dec | ((with_reducible apply exGd_dec); focus exact rfl) | ((with_reducible apply exGq_dec); focus exact rfl) | with_reducible apply exIf_intro | ((with_reducible apply exGd_intro); focus exact rfl) | ((with_reducible apply exGq_intro); focus exact rfl)) <;> intro _))
    all_goals first | (exfalso; omega) | skip
    generalize hn : ms.length = n at *
    refine exMk_int (by omega) (by omega) (by simp only [maxLen]; omega) rfl ?_
    rw [zrep_one, show ((n : Int) + 1 - 1).toNat = n by omega, show List.replicate n (cAV (.bool false)) = (List.replicate n false).map bv by rw [List.map_replicate]; rfl]
    obtain ⟨hbs, ⟨hl0, _⟩ | ⟨b2, cap, rfl, hat, hn2, hcap⟩⟩ := hT
    · rw [hl0] at hLn; simp at hLn; omega
    obtain ⟨g, hg⟩ : ∃ g : Graph, g = ⟨n + 1, false, L⟩ := ⟨_, rfl⟩
    have w1 : ∀ k, 1 ≤ w k ∧ w k ≤ 1024 := fun k => (hww k).2
    have gL : ∀ k : Int, 0 ≤ k → k < n → gi L k = ⟨k, k + 1, w k, 0⟩ := by
      intro k k0 k1
      rw [gi_get (by omega)]
      simp only [hL, List.getElem_map, List.getElem_range]
      rw [Int.toNat_of_nonneg k0, hlk]
    have hR : RowG g w := by
      subst hg
      exact ⟨by dsimp only; omega, by dsimp only; omega, fun k k0 k1 => gL k k0 (by dsimp only at k1; omega), fun k _ _ => w1 k⟩
    have hf := fit_of g hR.ok
    have hgn : g.nodes = n + 1 := by rw [hg]
    have hgl : g.links.length = n := by rw [hg]; exact hLn
    have hs : 0 ≤ s ∧ s < g.nodes := by omega
    have fr : ∀ nl dn H, ∃ d, IsDist g dn s d ∧ d = distL g dn s ∧ APure Try.prog 43 [.agg [iv (n + 1), .vec false (rows L) n], .vec nl (dn.map bv) dn.length, iv s] H (.vec (fromNl g s) (d.map iv) d.length) := by
      intro nl dn H
      refine ⟨_, (distL_spec hf dn hs).1, rfl, ?_⟩
      have := from_c g nl dn s H
      rw [fromAV_eq, fromL, if_pos ⟨hR.ok, hs⟩] at this
      simp only [Graph.av, blv, hgl] at this
      rw [hg] at this ⊢
      exact this
    obtain ⟨dn, hdn⟩ : ∃ dn, dn = (List.replicate n false).set gone.toNat true := ⟨_, rfl⟩
    have hdnl : dn.length = n := by rw [hdn]; simp
    obtain ⟨a, da, ea, fa⟩ := fr true [] (upd H' b2 none)
    have hA : ∀ v : Int, 0 ≤ v → v < n + 1 → gi a v = if s ≤ v then pre w v - pre w s else pre w s - pre w v := by
      intro v v0 v1
      rw [ea, hR.dist (gone := -1) (fun e e0 e1 => ⟨fun _ => by omega, fun _ => ?_⟩) hs (by omega), if_neg (by omega)]
      simp [upE]
      omega
    obtain ⟨b, db, eb, fb⟩ := fr false dn (upd H' b2 none)
    have hup : ∀ e : Int, 0 ≤ e → e < 2 * g.links.length → (upE dn e = true ↔ e / 2 ≠ gone) := by
      intro e e0 e1
      unfold upE
      rw [hdnl, decide_eq_true (show e / 2 < (n : Int) by omega), Bool.true_and, hdn, gi_set (by omega) (by simp; omega) (by omega)]
      have hr : gi (List.replicate n false) (e / 2) = false := by
        rw [gi_get (by simp; omega)]; simp
      rw [hr]
      split <;> simp_all
    have hB : ∀ v : Int, 0 ≤ v → v < n + 1 → gi b v = if (s ≤ gone ∧ gone < v) ∨ (v ≤ gone ∧ gone < s) then -1 else gi a v := by
      intro v v0 v1
      rw [eb, hR.dist hup hs (by omega), hA v v0 v1]
    have la := da.len
    have lb := db.len
    have hrl := rows_length L
    rw [Link.sz_eq, hLn] at hrl
    have t1 : n * 4 ≤ (rows L).length := by omega
    have t2 : n ≤ cap := by omega
    have t3 : (rows L).take (n * 4) = rows L := List.take_of_length_le (by omega)
    rw [hLn]
    rw [hdnl] at fb
    simp only [List.map_nil, List.length_nil] at fa
    clear hL hR hf fr hup
    repeat' (first | simp -implicitDefEqProofs only [go_sem, Nat.reduceEqDiff, Nat.reduceAdd, Nat.reduceMul, Nat.reduceLeDiff, Nat.reduceSub, Nat.reduceLT, Nat.reduceBEq, Int.reduceToNat, reduceCtorEq, ↓reduceIte, Int.reduceEq, Int.reduceNeg, Int.reduceLT, Int.reduceLE, Int.reduceAdd, Int.reduceSub, Int.reduceMul] | simp -implicitDefEqProofs (disch := omega) only [set_bools, iaq_vec, iao_arr, iaq_raw, rd_map, wrap_id, binq_quo, binq_rem, binq_shl, binq_shr, tdiv_pos, tmod_pos, if_pos, exV_some, Option.map_some] | ((first | with_reducible apply exIf_dec | ((with_reducible apply exGd_dec); focus exact rfl) | ((with_reducible apply exGq_dec); focus exact rfl) | with_reducible apply exIf_intro | ((with_reducible apply exGd_intro); focus exact rfl) | ((with_reducible apply exGq_intro); focus exact rfl)) <;> intro _))
    all_goals first | (exfalso; omega) | skip
    rw [if_pos (by rw [List.length_replicate]; omega), ← hdn]
    have h4 : n ≤ n * 4 := by omega
    repeat' (first | simp -implicitDefEqProofs only [go_sem, Nat.reduceEqDiff, Nat.reduceAdd, Nat.reduceMul, Nat.reduceLeDiff, Nat.reduceSub, Nat.reduceLT, Nat.reduceBEq, Int.reduceToNat, reduceCtorEq, ↓reduceIte, Int.reduceEq, Int.reduceNeg, Int.reduceLT, Int.reduceLE, Int.reduceAdd, Int.reduceSub, Int.reduceMul] | simp -implicitDefEqProofs (disch := omega) only [hat, t1, t2, t3, Nat.le_refl, and_self, true_and, iaq_vec, iao_arr, iaq_raw, rd_map, wrap_id, binq_quo, binq_rem, binq_shl, binq_shr, tdiv_pos, tmod_pos, if_pos, exV_some, Option.map_some] | ((first | with_reducible apply exIf_dec | ((with_reducible apply exGd_dec); focus exact rfl) | ((with_reducible apply exGq_dec); focus exact rfl) | with_reducible apply exIf_intro | ((with_reducible apply exGd_intro); focus exact rfl) | ((with_reducible apply exGq_intro); focus exact rfl)) <;> intro _) | with_reducible refine exC_pure (fa) ?_ | with_reducible refine exCq_pure (fa) ?_ | with_reducible refine exC_pure (fb) ?_ | with_reducible refine exCq_pure (fb) ?_)
    all_goals first | (exfalso; omega) | skip
    refine exL_mod (fun i : Int => [(14, .v (iv i))]) (fun _ => []) (fun i => 0 ≤ i ∧ i ≤ n + 1) (fun i => (n + 1 - i).toNat) 0 rfl ⟨by omega, by omega⟩ ?_
    rintro i ⟨i0, i1⟩ ih
    simp only [S.up, S.upH, ups, Abs.put, Nat.reduceEqDiff, ↓reduceIte, Nat.reduceAdd] at ih
    simp -implicitDefEqProofs only [congrArg KI.code sc_waymarklaw7_SpfRow_L1.eq_1, go_sem, Nat.reduceEqDiff, Nat.reduceAdd, Nat.reduceMul, Nat.reduceLeDiff, Nat.reduceSub, Nat.reduceLT, Nat.reduceBEq, Int.reduceToNat, reduceCtorEq, ↓reduceIte, Int.reduceEq, Int.reduceNeg, Int.reduceLT, Int.reduceLE, Int.reduceAdd, Int.reduceSub, Int.reduceMul]
    by_cases hi : i < n + 1
    · have nxt := ih (i + 1) ⟨by omega, by omega⟩ (by omega)
      have ha := hA i i0 hi
      have hb := hB i i0 hi
      have p0 := fun (k : Int) (k0 : 0 ≤ k) => pre_bound w1 k.toNat
      repeat' (first | simp -implicitDefEqProofs only [go_sem, Nat.reduceEqDiff, Nat.reduceAdd, Nat.reduceMul, Nat.reduceLeDiff, Nat.reduceSub, Nat.reduceLT, Nat.reduceBEq, Int.reduceToNat, reduceCtorEq, ↓reduceIte, Int.reduceEq, Int.reduceNeg, Int.reduceLT, Int.reduceLE, Int.reduceAdd, Int.reduceSub, Int.reduceMul] | simp -implicitDefEqProofs (disch := omega) only [iaq_vec, iao_arr, iaq_raw, rd_map, wrap_id, binq_quo, binq_rem, binq_shl, binq_shr, tdiv_pos, tmod_pos, if_pos, exV_some, Option.map_some] | ((first | with_reducible apply exIf_dec | ((with_reducible apply exGd_dec); focus exact rfl) | ((with_reducible apply exGq_dec); focus exact rfl) | with_reducible apply exIf_intro | ((with_reducible apply exGd_intro); focus exact rfl) | ((with_reducible apply exGq_intro); focus exact rfl)) <;> intro _))
      all_goals first | (exfalso; omega) | skip
      obtain ⟨lo, hlo⟩ : ∃ lo, lo = min s i := ⟨_, rfl⟩
      obtain ⟨up, hup⟩ : ∃ up, up = max s i := ⟨_, rfl⟩
      have hgi : ∀ k : Int, 0 ≤ k → k < n → (gi L k).metric = w k := fun k k0 k1 => by rw [gL k k0 k1]
      refine exL_mod (fun k : Int => [(15, .v (iv (pre w (max lo (min up k)) - pre w lo))), (16, .v (bv (decide (lo ≤ gone ∧ gone < up ∧ gone < k)))), (17, .v (iv k))]) (fun _ => []) (fun k => 0 ≤ k ∧ k ≤ n) (fun k => (n - k).toNat) 0 ?_ ⟨by omega, by omega⟩ ?_
      · rw [show max lo (min up 0) = lo by omega, decide_eq_false (by omega), Int.sub_self]; rfl
      rintro k ⟨k0, k1⟩ ih2
      simp only [S.up, S.upH, ups, Abs.put, Nat.reduceEqDiff, ↓reduceIte, Nat.reduceAdd] at ih2
      simp -implicitDefEqProofs only [congrArg KI.code sc_waymarklaw7_SpfRow_L0.eq_1, go_sem, Nat.reduceEqDiff, Nat.reduceAdd, Nat.reduceMul, Nat.reduceLeDiff, Nat.reduceSub, Nat.reduceLT, Nat.reduceBEq, Int.reduceToNat, reduceCtorEq, ↓reduceIte, Int.reduceEq, Int.reduceNeg, Int.reduceLT, Int.reduceLE, Int.reduceAdd, Int.reduceSub, Int.reduceMul]
      by_cases hk : k < n
      · have nxt2 := ih2 (k + 1) ⟨by omega, by omega⟩ (by omega)
        have q1 := p0 (max lo (min up k)) (by omega)
        have q2 := p0 lo (by omega)
        have q3 := pre_mono w1 (a := lo) (b := max lo (min up k)) (by omega) (by omega)
        have q4 := w1 k
        rw [Int.toNat_of_nonneg (by omega)] at q1 q2
        have e1 : lo ≤ k ∧ k < up → pre w (max lo (min up (k + 1))) - pre w lo = pre w (max lo (min up k)) - pre w lo + w k := fun hin => by
          rw [show max lo (min up (k + 1)) = k + 1 by omega, show max lo (min up k) = k by omega, pre_succ w k0]; omega
        have e2 : ¬ (lo ≤ k ∧ k < up) → pre w (max lo (min up (k + 1))) - pre w lo = pre w (max lo (min up k)) - pre w lo := fun hin => by
          rw [show max lo (min up (k + 1)) = max lo (min up k) by omega]
        repeat' (first | simp -implicitDefEqProofs only [go_sem, Nat.reduceEqDiff, Nat.reduceAdd, Nat.reduceMul, Nat.reduceLeDiff, Nat.reduceSub, Nat.reduceLT, Nat.reduceBEq, Int.reduceToNat, reduceCtorEq, ↓reduceIte, Int.reduceEq, Int.reduceNeg, Int.reduceLT, Int.reduceLE, Int.reduceAdd, Int.reduceSub, Int.reduceMul] | simp -implicitDefEqProofs (disch := omega) only [rd_link2, hgi, iaq_vec, iao_arr, iaq_raw, rd_map, wrap_id, binq_quo, binq_rem, binq_shl, binq_shr, tdiv_pos, tmod_pos, if_pos, exV_some, Option.map_some] | ((first | with_reducible apply exIf_dec | ((with_reducible apply exGd_dec); focus exact rfl) | ((with_reducible apply exGq_dec); focus exact rfl) | with_reducible apply exIf_intro | ((with_reducible apply exGd_intro); focus exact rfl) | ((with_reducible apply exGq_intro); focus exact rfl)) <;> intro _))
        all_goals first | (exfalso; omega) | skip
        all_goals first
          | (rw [e1 (by omega), show decide (lo ≤ gone ∧ gone < up ∧ gone < k + 1) = true by (rw [decide_eq_true_eq]; omega)] at nxt2; exact nxt2)
          | (rw [e1 (by omega), show decide (lo ≤ gone ∧ gone < up ∧ gone < k + 1) = decide (k = gone) by (rw [decide_eq_decide]; omega)] at nxt2; exact nxt2)
          | (rw [e2 (by omega), show decide (lo ≤ gone ∧ gone < up ∧ gone < k + 1) = decide (lo ≤ gone ∧ gone < up ∧ gone < k) by (rw [decide_eq_decide]; omega)] at nxt2; exact nxt2)
      · clear ih2
        have hsum : pre w (max lo (min up k)) - pre w lo = gi a i := by
          rw [ha, show max lo (min up k) = up by omega, hlo, hup]
          split
          · rw [show max s i = i by omega, show min s i = s by omega]
          · rw [show max s i = s by omega, show min s i = i by omega]
        rw [hsum]
        have hover : decide (lo ≤ gone ∧ gone < up ∧ gone < k) = decide ((s ≤ gone ∧ gone < i) ∨ (i ≤ gone ∧ gone < s)) := by
          rw [decide_eq_decide]; omega
        rw [hover]
        have q1 := p0 i i0
        have q2 := p0 s (by omega)
        rw [Int.toNat_of_nonneg (by omega)] at q1 q2
        have hnn : 0 ≤ gi a i := by
          rw [ha]
          split
          · have := pre_mono w1 (a := s) (b := i) (by omega) (by omega); omega
          · have := pre_mono w1 (a := i) (b := s) (by omega) (by omega); omega
        repeat' (first | simp -implicitDefEqProofs only [go_sem, Nat.reduceEqDiff, Nat.reduceAdd, Nat.reduceMul, Nat.reduceLeDiff, Nat.reduceSub, Nat.reduceLT, Nat.reduceBEq, Int.reduceToNat, reduceCtorEq, ↓reduceIte, Int.reduceEq, Int.reduceNeg, Int.reduceLT, Int.reduceLE, Int.reduceAdd, Int.reduceSub, Int.reduceMul] | simp -implicitDefEqProofs (disch := omega) only [iaq_vec, iao_arr, iaq_raw, rd_map, wrap_id, binq_quo, binq_rem, binq_shl, binq_shr, tdiv_pos, tmod_pos, if_pos, exV_some, Option.map_some] | ((first | with_reducible apply exIf_dec | ((with_reducible apply exGd_dec); focus exact rfl) | ((with_reducible apply exGq_dec); focus exact rfl) | with_reducible apply exIf_intro | ((with_reducible apply exGd_intro); focus exact rfl) | ((with_reducible apply exGq_intro); focus exact rfl)) <;> intro _))
        all_goals first | (exfalso; omega) | skip
        all_goals exact nxt

    · repeat' (first | simp -implicitDefEqProofs only [go_sem, Nat.reduceEqDiff, Nat.reduceAdd, Nat.reduceMul, Nat.reduceLeDiff, Nat.reduceSub, Nat.reduceLT, Nat.reduceBEq, Int.reduceToNat, reduceCtorEq, ↓reduceIte, Int.reduceEq, Int.reduceNeg, Int.reduceLT, Int.reduceLE, Int.reduceAdd, Int.reduceSub, Int.reduceMul] | simp -implicitDefEqProofs (disch := omega) only [iaq_vec, iao_arr, iaq_raw, rd_map, wrap_id, binq_quo, binq_rem, binq_shl, binq_shr, tdiv_pos, tmod_pos, if_pos, exV_some, Option.map_some] | ((first | with_reducible apply exIf_dec | ((with_reducible apply exGd_dec); focus exact rfl) | ((with_reducible apply exGq_dec); focus exact rfl) | with_reducible apply exIf_intro | ((with_reducible apply exGd_intro); focus exact rfl) | ((with_reducible apply exGq_intro); focus exact rfl)) <;> intro _))
      all_goals first | (exfalso; omega) | skip
      refine ⟨fun b' o ho => (upd_ne _ _ (by rintro rfl; rw [hn2] at ho; cases ho)).trans (hbs b' o ho), h⟩
end Go.Proofs.Ytkephdahbplhfaa
