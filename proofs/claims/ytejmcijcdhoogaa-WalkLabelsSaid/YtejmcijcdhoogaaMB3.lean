import Derived.Test.YtejmcijcdhoogaaMB1
import Derived.Test.YtejmcijcdhoogaaMC1
import Derived.Test.YtejmcijcdhoogaaMB2
set_option linter.unusedSimpArgs false
set_option linter.unusedVariables false
section
/- The law WalkLabels of chapter 21, as a contract. -/
namespace Go.Proofs.Ytejmcijcdhoogaa
open Go Abs
attribute [local irreducible] EX exL exG exC exCq exS exV exIf exGd exGq exB
set_option maxHeartbeats 4000000
def g3_ : Graph := ⟨3, false, [⟨0, 1, 1, 0⟩]⟩
theorem g3_ok : (check g3_).2 = 0 := by decide
theorem g3_edges {e : Int} (e0 : 0 ≤ e) (e1 : e < 2 * g3_.links.length) : e = 0 ∨ e = 1 := by
  have : (g3_.links.length : Int) = 1 := rfl
  omega
theorem g3_nodes {v : Int} (v0 : 0 ≤ v) (v1 : v < g3_.nodes) : v = 0 ∨ v = 1 ∨ v = 2 := by
  have : g3_.nodes = 3 := rfl
  omega
theorem g3_d1 : distL g3_ [] 1 = [1, 0, -1] := by
  refine dist_of rfl rfl (fun v v0 v1 => ?_) (fun e e0 e1 => ?_)
  · rcases g3_nodes v0 v1 with rfl | rfl | rfl
    · exact .inr ⟨by decide, Walk.step (g := g3_) (e := 1) .nil (by decide) (by decide) (by decide) rfl⟩
    · exact .inr ⟨by decide, .nil⟩
    · exact .inl rfl
  · rcases g3_edges e0 e1 with rfl | rfl
    · intro _ _; exact ⟨by decide, by decide⟩
    · intro _ _; exact ⟨by decide, by decide⟩
theorem g3_d2 : distL g3_ [] 2 = [-1, -1, 0] := by
  refine dist_of rfl rfl (fun v v0 v1 => ?_) (fun e e0 e1 => ?_)
  · rcases g3_nodes v0 v1 with rfl | rfl | rfl
    · exact .inl rfl
    · exact .inl rfl
    · exact .inr ⟨by decide, .nil⟩
  · rcases g3_edges e0 e1 with rfl | rfl
    · intro _ h; exact absurd h (by decide)
    · intro _ h; exact absurd h (by decide)
theorem g3_n01 : nxtOf g3_ 0 1 = [0] := by rw [nxtOf, if_pos ⟨by decide, by decide⟩, g3_d1]; decide
theorem g3_n02 : nxtOf g3_ 0 2 = [] := by rw [nxtOf, if_pos ⟨by decide, by decide⟩, g3_d2]; decide
theorem g3_hop1 : hopO g3_ 3 ⟨false, 1⟩ 0 = some 0 := by rw [hopO, if_neg (by decide), g3_n01]; rfl
def lab : Int → List Sg
  | 0 => [⟨false, 1⟩, ⟨false, 7⟩]
  | 1 => [⟨false, -1⟩]
  | 2 => [⟨true, 1⟩]
  | 3 => [⟨true, 2⟩]
  | 4 => [⟨true, 0⟩, ⟨true, 0⟩]
  | 5 => [⟨false, 2⟩]
  | _ => [⟨false, 0⟩, ⟨false, 1⟩, ⟨false, 1⟩]
theorem lab0 : ∃ l, walkW g3_ 0 (lab 0) 3 [] false 9 = (⟨l, 1, [0], 0, 2⟩, 5) :=
  ⟨_, walkW_of (by decide) (wend_go (wstep_hop (e := 0) (by decide) (by decide) (by decide) g3_hop1 (by decide)) (wend_go (wstep_drop ⟨rfl, rfl⟩) (wend_fin (wstep_label (by decide) (by decide) (by decide)) (by decide))))⟩
theorem lab1 : ∃ l, walkW g3_ 0 (lab 1) 3 [] false 9 = (⟨l, 0, [], 0, 1⟩, 5) :=
  ⟨_, walkW_of (by decide) (wend_fin (wstep_label (by decide) (by decide) (by decide)) (by decide))⟩
theorem lab2 : ∃ l, walkW g3_ 0 (lab 2) 3 [] false 9 = (⟨l, 0, [], 0, 1⟩, 5) :=
  ⟨_, walkW_of (by decide) (wend_fin (wstep_label (by decide) (by decide) (by decide)) (by decide))⟩
theorem lab3 : ∃ l, walkW g3_ 0 (lab 3) 3 [] false 9 = (⟨l, 0, [], 0, 1⟩, 5) :=
  ⟨_, walkW_of (by decide) (wend_fin (wstep_label (by decide) (by decide) (by decide)) (by decide))⟩
theorem lab4 : ∃ l, walkW g3_ 0 (lab 4) 3 [] false 9 = (⟨l, 1, [0], 0, 2⟩, 5) :=
  ⟨_, walkW_of (by decide) (wend_go (wstep_hop (e := 0) (by decide) (by decide) (by decide) (by rw [hopO, if_pos (by decide)]) (by decide)) (wend_fin (wstep_label (by decide) (by decide) (by decide)) (by decide)))⟩
theorem lab5 : ∃ l, walkW g3_ 0 (lab 5) 3 [] false 9 = (⟨l, 0, [], 0, 1⟩, 4) :=
  ⟨_, walkW_of (by decide) (wend_fin (wstep_none (by decide) (by decide) (by decide) (by rw [hopO, if_neg (by decide), g3_n02, if_pos rfl])) (by decide))⟩
theorem lab6 : ∃ l, walkW g3_ 0 (lab 6) 3 [] false 9 = (⟨l, 1, [0], 0, 3⟩, 1) :=
  ⟨_, walkW_of (by decide) (wend_go (wstep_drop ⟨rfl, rfl⟩) (wend_go (wstep_hop (e := 0) (by decide) (by decide) (by decide) g3_hop1 (by decide)) (wend_go (wstep_drop ⟨rfl, rfl⟩) (wend_go (wstep_drop ⟨rfl, rfl⟩) (wend_fin rfl (by decide))))))⟩
theorem walkLabels_c (which : Int) (H : AHeap) : APure Try.prog 15 [iv which] H (bv true) := by
  intro Q h
  refine ACalls.of_code fn_waymarklaw21_WalkLabels ?_
  have c1 := tables16_c g3_ (by decide) (by decide) H
  rw [tabs16, if_pos g3_ok] at c1
  have c2 := fun (l : List Sg) (h1 : ∀ s ∈ l, i64 s.to) (h2 : l.length ≤ 280) => run_c g3_ g3_ok (by decide) 0 false l h1 h2 3 ⟨by decide, by decide⟩ true [] false 9 H
  obtain ⟨cs, hcs⟩ : ∃ cs, tab g3_ = .box cs 0 := ⟨_, rfl⟩
  obtain ⟨ds, hds⟩ : ∃ cs, refTab g3_ = .box cs 0 := ⟨_, rfl⟩
  rw [hcs] at c1 c2
  rw [hds] at c1
  simp only [Graph.av, blv, g3_] at c1
  simp only [rows, List.flatMap_cons, List.flatMap_nil, List.append_nil, Link.cells_eq, List.map_nil, List.length_cons, List.length_nil, List.isEmpty_nil, List.isEmpty_cons, Nat.zero_add, Int.natCast_zero, Int.zero_add, Int.cast_ofNat_Int] at c1
  by_cases hw : 0 ≤ which ∧ which ≤ 6
  · have hcase : which = 0 ∨ which = 1 ∨ which = 2 ∨ which = 3 ∨ which = 4 ∨ which = 5 ∨ which = 6 := by omega
    have fin : ∀ (k : Int) (n e : Int) (es : List Int) (mo : Int), (∃ l, walkW g3_ 0 (lab k) 3 [] false 9 = (⟨l, n, es, 0, mo⟩, e)) → (∀ s ∈ lab k, i64 s.to) → (lab k).length ≤ 280 → APure Try.prog 34 [.box cs 0, iv 0, .vec false (rows (lab k)) (lab k).length, iv 3, blv true [], bv false, iv 9] H (.agg [ints es, iv n, iv e, iv 0, iv mo]) := by
      rintro k n e es mo ⟨l, hl⟩ h1 h2
      have := c2 (lab k) h1 h2
      rw [hl] at this
      exact this
    clear c2
    rcases hcase with rfl | rfl | rfl | rfl | rfl | rfl | rfl
    · have c := fin 0 1 5 [0] 2 lab0 (by unfold i64; decide) (by decide)
      simp only [lab, ints, blv, rows, List.flatMap_cons, List.flatMap_nil, List.append_nil, List.map_cons, List.map_nil, List.length_cons, List.length_nil, List.isEmpty_nil, List.isEmpty_cons, Sg.cells_eq, List.cons_append, List.nil_append] at c
      simp -implicitDefEqProofs only [sc_waymarklaw21_WalkLabels, go_sem, seval]
      refine exC_pure (alive21_c _) ?_
      repeat' (first | simp -implicitDefEqProofs only [go_sem, seval] | simp -implicitDefEqProofs (disch := omega) only [ars, if_pos, exV_some, Option.map_some] | ((with_reducible first | apply exB_dec | apply exB_intro) <;> intro _) | with_reducible refine exC_pure (c1) ?_ | with_reducible refine exCq_pure (c1) ?_ | with_reducible refine exC_pure (c) ?_ | with_reducible refine exCq_pure (c) ?_)
      all_goals first | exact h | skip
      done
    · have c := fin 1 0 5 [] 1 lab1 (by unfold i64; decide) (by decide)
      simp only [lab, ints, blv, rows, List.flatMap_cons, List.flatMap_nil, List.append_nil, List.map_cons, List.map_nil, List.length_cons, List.length_nil, List.isEmpty_nil, List.isEmpty_cons, Sg.cells_eq, List.cons_append, List.nil_append] at c
      simp -implicitDefEqProofs only [sc_waymarklaw21_WalkLabels, go_sem, seval]
      refine exC_pure (alive21_c _) ?_
      repeat' (first | simp -implicitDefEqProofs only [go_sem, seval] | simp -implicitDefEqProofs (disch := omega) only [ars, if_pos, exV_some, Option.map_some] | ((with_reducible first | apply exB_dec | apply exB_intro) <;> intro _) | with_reducible refine exC_pure (c1) ?_ | with_reducible refine exCq_pure (c1) ?_ | with_reducible refine exC_pure (c) ?_ | with_reducible refine exCq_pure (c) ?_)
      all_goals first | exact h | skip
      done
    · have c := fin 2 0 5 [] 1 lab2 (by unfold i64; decide) (by decide)
      simp only [lab, ints, blv, rows, List.flatMap_cons, List.flatMap_nil, List.append_nil, List.map_cons, List.map_nil, List.length_cons, List.length_nil, List.isEmpty_nil, List.isEmpty_cons, Sg.cells_eq, List.cons_append, List.nil_append] at c
      simp -implicitDefEqProofs only [sc_waymarklaw21_WalkLabels, go_sem, seval]
      refine exC_pure (alive21_c _) ?_
      repeat' (first | simp -implicitDefEqProofs only [go_sem, seval] | simp -implicitDefEqProofs (disch := omega) only [ars, if_pos, exV_some, Option.map_some] | ((with_reducible first | apply exB_dec | apply exB_intro) <;> intro _) | with_reducible refine exC_pure (c1) ?_ | with_reducible refine exCq_pure (c1) ?_ | with_reducible refine exC_pure (c) ?_ | with_reducible refine exCq_pure (c) ?_)
      all_goals first | exact h | skip
      done
    · have c := fin 3 0 5 [] 1 lab3 (by unfold i64; decide) (by decide)
      simp only [lab, ints, blv, rows, List.flatMap_cons, List.flatMap_nil, List.append_nil, List.map_cons, List.map_nil, List.length_cons, List.length_nil, List.isEmpty_nil, List.isEmpty_cons, Sg.cells_eq, List.cons_append, List.nil_append] at c
      simp -implicitDefEqProofs only [sc_waymarklaw21_WalkLabels, go_sem, seval]
      refine exC_pure (alive21_c _) ?_
      repeat' (first | simp -implicitDefEqProofs only [go_sem, seval] | simp -implicitDefEqProofs (disch := omega) only [ars, if_pos, exV_some, Option.map_some] | ((with_reducible first | apply exB_dec | apply exB_intro) <;> intro _) | with_reducible refine exC_pure (c1) ?_ | with_reducible refine exCq_pure (c1) ?_ | with_reducible refine exC_pure (c) ?_ | with_reducible refine exCq_pure (c) ?_)
      all_goals first | exact h | skip
      done
    · have c := fin 4 1 5 [0] 2 lab4 (by unfold i64; decide) (by decide)
      simp only [lab, ints, blv, rows, List.flatMap_cons, List.flatMap_nil, List.append_nil, List.map_cons, List.map_nil, List.length_cons, List.length_nil, List.isEmpty_nil, List.isEmpty_cons, Sg.cells_eq, List.cons_append, List.nil_append] at c
      simp -implicitDefEqProofs only [sc_waymarklaw21_WalkLabels, go_sem, seval]
      refine exC_pure (alive21_c _) ?_
      repeat' (first | simp -implicitDefEqProofs only [go_sem, seval] | simp -implicitDefEqProofs (disch := omega) only [ars, if_pos, exV_some, Option.map_some] | ((with_reducible first | apply exB_dec | apply exB_intro) <;> intro _) | with_reducible refine exC_pure (c1) ?_ | with_reducible refine exCq_pure (c1) ?_ | with_reducible refine exC_pure (c) ?_ | with_reducible refine exCq_pure (c) ?_)
      all_goals first | exact h | skip
      done
    · have c := fin 5 0 4 [] 1 lab5 (by unfold i64; decide) (by decide)
      simp only [lab, ints, blv, rows, List.flatMap_cons, List.flatMap_nil, List.append_nil, List.map_cons, List.map_nil, List.length_cons, List.length_nil, List.isEmpty_nil, List.isEmpty_cons, Sg.cells_eq, List.cons_append, List.nil_append] at c
      simp -implicitDefEqProofs only [sc_waymarklaw21_WalkLabels, go_sem, seval]
      refine exC_pure (alive21_c _) ?_
      repeat' (first | simp -implicitDefEqProofs only [go_sem, seval] | simp -implicitDefEqProofs (disch := omega) only [ars, if_pos, exV_some, Option.map_some] | ((with_reducible first | apply exB_dec | apply exB_intro) <;> intro _) | with_reducible refine exC_pure (c1) ?_ | with_reducible refine exCq_pure (c1) ?_ | with_reducible refine exC_pure (c) ?_ | with_reducible refine exCq_pure (c) ?_)
      all_goals first | exact h | skip
      done
    · have c := fin 6 1 1 [0] 3 lab6 (by unfold i64; decide) (by decide)
      simp only [lab, ints, blv, rows, List.flatMap_cons, List.flatMap_nil, List.append_nil, List.map_cons, List.map_nil, List.length_cons, List.length_nil, List.isEmpty_nil, List.isEmpty_cons, Sg.cells_eq, List.cons_append, List.nil_append] at c
      simp -implicitDefEqProofs only [sc_waymarklaw21_WalkLabels, go_sem, seval]
      refine exC_pure (alive21_c _) ?_
      repeat' (first | simp -implicitDefEqProofs only [go_sem, seval] | simp -implicitDefEqProofs (disch := omega) only [ars, if_pos, exV_some, Option.map_some] | ((with_reducible first | apply exB_dec | apply exB_intro) <;> intro _) | with_reducible refine exC_pure (c1) ?_ | with_reducible refine exCq_pure (c1) ?_ | with_reducible refine exC_pure (c) ?_ | with_reducible refine exCq_pure (c) ?_)
      all_goals first | exact h | skip
      done
  · simp -implicitDefEqProofs only [sc_waymarklaw21_WalkLabels, go_sem, seval]
    refine exC_pure (alive21_c _) ?_
    repeat' (first | simp -implicitDefEqProofs only [go_sem, seval] | simp -implicitDefEqProofs (disch := omega) only [ars, if_pos, exV_some, Option.map_some] | ((with_reducible first | apply exB_dec | apply exB_intro) <;> intro _))
    all_goals first | exact h | (exfalso; omega) | skip
    done
end Go.Proofs.Ytejmcijcdhoogaa
end

section
/- The law WalkSpreads of chapter 21, as a contract. -/
namespace Go.Proofs.Ytejmcijcdhoogaa
open Go Abs
attribute [local irreducible] EX exL exG exC exCq exS exV exIf exGd exGq exB
set_option maxHeartbeats 4000000
def spr (n : Nat) : Graph := ⟨2, false, List.replicate n ⟨0, 1, 3, 0⟩⟩
section
variable {n : Nat}
theorem spr_len : (spr n).links.length = n := by simp [spr]
theorem spr_gi {k : Int} (k0 : 0 ≤ k) (k1 : k < n) : gi (spr n).links k = ⟨0, 1, 3, 0⟩ := by
  rw [gi_get (by rw [spr_len]; omega)]
  simp [spr]
theorem spr_e0 {k : Int} (k0 : 0 ≤ k) (k1 : k < n) : ends (spr n) (2 * k) = (0, 1, true) := by
  rw [ends, if_neg (by rw [spr_len]; omega), if_neg (by omega), show 2 * k / 2 = k by omega, spr_gi k0 k1]
theorem spr_e1 {k : Int} (k0 : 0 ≤ k) (k1 : k < n) : ends (spr n) (2 * k + 1) = (1, 0, true) := by
  rw [ends, if_neg (by rw [spr_len]; omega), if_pos (by omega), show (2 * k + 1) / 2 = k by omega, spr_gi k0 k1]
theorem spr_wt {e : Int} (e0 : 0 ≤ e) (e1 : e < 2 * (n : Int)) : wt (spr n) e = 3 := by
  rw [wt, spr_gi (by omega) (by omega)]
theorem spr_ok (h1 : 1 ≤ n) (h8 : n ≤ 8) : (check (spr n)).2 = 0 := by
  rcases (show n = 1 ∨ n = 2 ∨ n = 3 ∨ n = 4 ∨ n = 5 ∨ n = 6 ∨ n = 7 ∨ n = 8 by omega) with rfl | rfl | rfl | rfl | rfl | rfl | rfl | rfl <;> decide
theorem spr_d (h1 : 1 ≤ n) : distL (spr n) [] 1 = [3, 0] := by
  refine dist_of rfl rfl (fun v v0 v1 => ?_) (fun e e0 e1 => ?_)
  · have hn : (spr n).nodes = 2 := rfl
    rcases (show v = 0 ∨ v = 1 by omega) with rfl | rfl
    · refine .inr ⟨by decide, ?_⟩
      have q : ends (spr n) 1 = (1, 0, true) := spr_e1 (k := 0) (by decide) (by omega)
      have := Walk.step (g := spr n) (down := []) (s := 1) (e := 1) .nil (by decide) (by rw [spr_len]; omega) (by rfl) (by rw [q])
      rw [q, spr_wt (by decide) (by omega)] at this
      exact this
    · exact .inr ⟨by decide, .nil⟩
  · rw [spr_len] at e1
    intro _ _
    rcases (show e = 2 * (e / 2) ∨ e = 2 * (e / 2) + 1 by omega) with he | he
    · rw [spr_wt e0 e1, he, spr_e0 (by omega) (by omega)]
      exact ⟨by decide, by decide⟩
    · rw [spr_wt e0 e1, he, spr_e1 (by omega) (by omega)]
      exact ⟨by decide, by decide⟩
theorem spr_nxt (h1 : 1 ≤ n) (h8 : n ≤ 8) : nxtOf (spr n) 0 1 = (List.range n).map fun (k : Nat) => 2 * (k : Int) := by
  rw [nxtOf, if_pos ⟨⟨by decide, by simp [spr]⟩, by decide, by simp [spr]⟩, spr_d h1]
  rcases (show n = 1 ∨ n = 2 ∨ n = 3 ∨ n = 4 ∨ n = 5 ∨ n = 6 ∨ n = 7 ∨ n = 8 by omega) with rfl | rfl | rfl | rfl | rfl | rfl | rfl | rfl <;> decide
theorem spr_walk (h1 : 1 ≤ n) (h8 : n ≤ 8) (hash : Int) (strict : Bool) : walkW (spr n) 0 [⟨false, 1⟩] hash [] strict 3 = (⟨[], 1, [2 * (hash % n)], 0, 1⟩, 1) := by
  have m0 : 0 ≤ hash % n := Int.emod_nonneg _ (by omega)
  have m1 : hash % n < n := Int.emod_lt_of_pos _ (by omega)
  have hh : hopO (spr n) hash ⟨false, 1⟩ 0 = some (2 * (hash % n)) := by
    rw [hopO, if_neg (by decide), spr_nxt h1 h8, if_neg (by intro hh; have := congrArg List.length hh; simp at this; omega), gi_get (by simp; omega)]
    simp only [List.length_map, List.length_range, List.getElem_map, List.getElem_range]
    rw [Int.toNat_of_nonneg m0]
  have hs := wstep_hop (g := spr n) (hash := hash) (down := []) (strict := strict) (D := cut10 3) (s := ⟨false, 1⟩) (r := []) (n := 0) (es := []) (ar := 0) (mo := 1) (by decide) (by decide) (by simp [noHere, isSeg, spr]) hh (by rw [upE, decide_eq_false (by simp; omega)]; rfl)
  rw [spr_e0 m0 m1, if_neg (by decide), List.nil_append] at hs
  exact walkW_of ⟨by decide, by simp [spr]⟩ (wend_go hs (wend_go (wstep_drop ⟨rfl, rfl⟩) (wend_fin rfl (by simp [wstep]))))
end
theorem sameWalk_c (R : WS × Int) (H : AHeap) (hl : R.1.es.length ≤ 300) : APure Try.prog 33 [walkAV R, walkAV R] H (bv true) := by
  intro Q h
  refine ACalls.of_code fn_waymarkref15_SameWalk ?_
  obtain ⟨⟨l, n, es, ar, mo⟩, c⟩ := R
  have sc := same_ints_c es es es.isEmpty es.isEmpty (by dsimp only at hl; omega) H
  simp only [decide_true] at sc
  simp only [walkAV, ints]
  simp -implicitDefEqProofs only [sc_waymarkref15_SameWalk, go_sem, seval]
  repeat' (first | simp -implicitDefEqProofs only [go_sem, seval] | simp -implicitDefEqProofs (disch := omega) only [ars, if_pos, exV_some, Option.map_some] | ((with_reducible first | apply exB_dec | apply exB_intro) <;> intro _) | with_reducible refine exC_pure (sc) ?_ | with_reducible refine exCq_pure (sc) ?_)
  all_goals first | exact h | skip
  done
theorem walkSpreads_c (ways hash : Int) (hh : i64 hash) (H : AHeap) : APure Try.prog 14 [iv ways, iv hash] H (bv true) := by
  intro Q h
  refine ACalls.forget (ACalls.of_code fn_waymarklaw21_WalkSpreads ?_)
  by_cases hin : 1 ≤ ways ∧ ways ≤ 8
  case neg =>
    simp -implicitDefEqProofs only [sc_waymarklaw21_WalkSpreads, go_sem, seval]
    refine exC_pure (alive21_c _) ?_
    repeat' (first | simp -implicitDefEqProofs only [go_sem, seval] | simp -implicitDefEqProofs (disch := omega) only [ars, if_pos, exV_some, Option.map_some] | ((with_reducible first | apply exB_dec | apply exB_intro) <;> intro _))
    all_goals first | exact ⟨fun _ _ h => h, h⟩ | (exfalso; omega) | skip
    done
  obtain ⟨n2, n8⟩ := hin
  obtain ⟨n, rfl⟩ : ∃ n : Nat, ways = n := ⟨ways.toNat, by omega⟩
  simp -implicitDefEqProofs only [sc_waymarklaw21_WalkSpreads, go_sem, seval]
  refine exC_pure (alive21_c _) ?_
  repeat' (first | simp -implicitDefEqProofs only [go_sem, seval] | simp -implicitDefEqProofs (disch := omega) only [ars, if_pos, exV_some, Option.map_some] | ((with_reducible first | apply exB_dec | apply exB_intro) <;> intro _))
  all_goals first | (exfalso; omega) | skip
  refine exL_modH (fun a : Int × AV × AHeap => [(7, .v (iv a.1))]) (fun a => [(6, .cells [iv 2, a.2.1] 24)]) (fun a => a.2.2)
    (fun a => 0 ≤ a.1 ∧ a.1 ≤ n ∧ LinksAt H a.2.2 a.2.1 (List.replicate a.1.toNat ⟨0, 1, 3, 0⟩)) (fun a => (n - a.1).toNat) (0, .vec true [] 0, _) rfl ⟨by simp, by dsimp only; omega, fun b' o ho => ho, .inl ⟨rfl, rfl⟩⟩ ?_
  rintro ⟨i, sv, H'⟩ ⟨i0, i1, hT⟩ ih
  dsimp only at i0 i1 hT ih
  simp only [S.up, S.upH, ups, Abs.put, Nat.reduceEqDiff, ↓reduceIte, Nat.reduceAdd] at ih
  simp -implicitDefEqProofs only [congrArg KI.code sc_waymarklaw21_WalkSpreads_L1.eq_1, go_sem, seval]
  by_cases hi : i < n
  · obtain ⟨Li, hLi⟩ : ∃ Li, Li = List.replicate i.toNat (⟨0, 1, 3, 0⟩ : Link) := ⟨_, rfl⟩
    have hlen : Li.length = i.toNat := by rw [hLi]; simp
    rw [← hLi] at hT
    obtain ⟨ob, cap, hp, hob⟩ := hT.pre
    repeat' (first | simp -implicitDefEqProofs only [go_sem, seval] | simp -implicitDefEqProofs (disch := omega) only [ars, if_pos, exV_some, Option.map_some] | ((with_reducible first | apply exB_dec | apply exB_intro) <;> intro _))
    all_goals first | (exfalso; omega) | skip
    rw [hp]
    refine hapK_pos rfl (by omega) (by simp only [maxLen]; omega) (by omega) ?_
    intro b2 cap2 hb2 hc2
    simp only [S.newhd]
    have hS := hT.push hob hb2 hc2 ⟨0, 1, 3, 0⟩
    have eL : List.replicate (i + 1).toNat (⟨0, 1, 3, 0⟩ : Link) = Li ++ [⟨0, 1, 3, 0⟩] := by
      rw [show (i + 1).toNat = i.toNat + 1 by omega, List.replicate_succ', hLi]
    rw [Link.cells_eq] at hS
    have nx := ih (i + 1, .raw (.slice (some ⟨b2, 0, none⟩) (Li.length + 1) cap2), upd (delH H' ob) b2 (some (.row (rows Li ++ [iv 0, iv 1, iv 3, iv 0]) cap2 48 4))) ⟨by dsimp only; omega, by dsimp only; omega, by dsimp only; rw [eL]; exact hS⟩ (by dsimp only; omega)
    clear ih
    repeat' (first | simp -implicitDefEqProofs only [go_sem, seval] | simp -implicitDefEqProofs (disch := omega) only [ars, if_pos, exV_some, Option.map_some] | ((with_reducible first | apply exB_dec | apply exB_intro) <;> intro _))
    all_goals first | exact nx | (exfalso; omega) | skip
    done
  · have hi' : i = n := by omega
    subst hi'
    rw [Int.toNat_natCast] at hT
    have hck := spr_ok (n := n) (by omega) (by omega)
    have hlen : (spr n).links.length = n := spr_len
    have c1 := fun H => tables16_c (spr n) (by rw [hlen]; omega) (fun hh => by cases hh) H
    rw [tabs16, if_pos hck] at c1
    have rc := fun (k : Int) (hk : i64 k) (st : Bool) H => run_c (spr n) hck (fun hh => by cases hh) 0 false [⟨false, 1⟩] (fun s hs => by rw [List.mem_singleton.1 hs]; exact ⟨by decide, by decide⟩) (by simp) k hk true [] st 3 H
    have sc := fun H => sameWalk_c (⟨[], 1, [2 * (hash % n)], 0, 1⟩, 1) H (by simp)
    have rc' : ∀ (k : Int) (hk : i64 k) (st : Bool) H, APure Try.prog 34 [tab (spr n), iv 0, .vec false [bv false, iv 1] 1, iv k, blv true [], bv st, iv 3] H (walkAV (⟨[], 1, [2 * (k % n)], 0, 1⟩, 1)) := fun k hk st H => by
      have := rc k hk st H
      rw [spr_walk (by omega) (by omega)] at this
      exact this
    clear rc
    have hg : (spr n).links = List.replicate n ⟨0, 1, 3, 0⟩ := rfl
    have hrl := rows_length (spr n).links
    rw [Link.sz_eq, hlen] at hrl
    obtain ⟨cs, hcs⟩ : ∃ cs, tab (spr n) = .box cs 0 := ⟨_, rfl⟩
    obtain ⟨ds, hds⟩ : ∃ cs, refTab (spr n) = .box cs 0 := ⟨_, rfl⟩
    rw [hcs] at c1 rc'
    rw [hds] at c1
    rw [← hg] at hT
    obtain ⟨L, hL⟩ : ∃ L, L = (spr n).links := ⟨_, rfl⟩
    have hav : (spr n).av = .agg [iv 2, .vec false (rows L) n] := by rw [hL, Graph.av, hlen]; rfl
    rw [hav] at c1
    rw [← hL] at hT hrl hlen
    obtain ⟨hbs, ⟨hl0, hv0⟩ | ⟨b3, cap3, rfl, hat, hn2, hcap⟩⟩ := hT
    · rw [hl0] at hlen; simp at hlen; omega
    have t1 : L.length * 4 ≤ (rows L).length := by omega
    have t3 : (rows L).take (L.length * 4) = rows L := List.take_of_length_le (by omega)
    rw [hlen] at t1 t3 hcap
    clear ih
    simp only [walkAV, ints, blv, List.map_cons, List.map_nil, List.length_cons, List.length_nil, List.isEmpty_cons, List.isEmpty_nil, Nat.zero_add] at rc' sc
    repeat' (first | simp -implicitDefEqProofs only [go_sem, seval] | simp -implicitDefEqProofs (disch := omega) only [hlen, hat, t1, hcap, t3, Nat.le_refl, and_self, true_and, ars, if_pos, exV_some, Option.map_some] | ((with_reducible first | apply exB_dec | apply exB_intro) <;> intro _) | with_reducible refine exC_pure (c1 _) ?_ | with_reducible refine exCq_pure (c1 _) ?_)
    all_goals first | (exfalso; omega) | skip
    refine exMk_int (by omega) (by omega) (by simp only [maxLen]; omega) rfl ?_
    rw [zrep_one, Int.toNat_natCast, show List.replicate n (cAV (.bool false)) = (List.replicate n false).map bv by rw [List.map_replicate]; rfl]
    repeat' (first | simp -implicitDefEqProofs only [go_sem, seval] | simp -implicitDefEqProofs (disch := omega) only [ars, if_pos, exV_some, Option.map_some] | ((with_reducible first | apply exB_dec | apply exB_intro) <;> intro _))
    all_goals first | (exfalso; omega) | skip
    rw [← fillTo_zero (fun _ => true) false n]
    refine exL_mod (fun i : Int => [(12, .v (iv i))]) (fun i => [(49, .arr false ((fillTo (fun _ => true) false n i).map bv) n 4 1)]) (fun i => 0 ≤ i ∧ i ≤ n) (fun i => (n - i).toNat) 0 rfl ⟨by omega, by omega⟩ ?_
    rintro i ⟨j0, j1⟩ ih
    simp only [S.up, S.upH, ups, Abs.put, Nat.reduceEqDiff, ↓reduceIte, Nat.reduceAdd] at ih
    simp -implicitDefEqProofs only [congrArg KI.code sc_waymarklaw21_WalkSpreads_L0.eq_1, go_sem, seval]
    by_cases hi : i < n
    · have nx := ih (i + 1) ⟨by omega, by omega⟩ (by omega)
      clear ih
      rw [← fillTo_set (fun _ => true) false n i j0 rfl] at nx
      have r1 := rc' i ⟨by omega, by omega⟩ false
      rw [Int.emod_eq_of_lt j0 hi] at r1
      have hq : 2 * i / 2 = i := by omega
      have hrd : rdV ((fillTo (fun _ => true) false n i).map bv) (i.toNat * 1) 1 false = some (bv false) := by
        rw [rd_map j0 (by rw [fillTo_length]; omega), gi_get (by rw [fillTo_length]; omega)]
        simp only [fillTo, List.getElem_map, List.getElem_range]
        rw [if_neg (by omega)]
      repeat' (first | simp -implicitDefEqProofs only [go_sem, seval] | simp -implicitDefEqProofs (disch := omega) only [fillTo_length, set_bools, hq, hrd, ars, if_pos, exV_some, Option.map_some] | ((with_reducible first | apply exB_dec | apply exB_intro) <;> intro _) | with_reducible refine exC_pure (r1 _) ?_ | with_reducible refine exCq_pure (r1 _) ?_)
      all_goals first | exact nx | (exfalso; omega) | skip
      done
    · have hi' : i = n := by omega
      subst hi'
      clear ih
      have r1 := rc' hash hh false
      have r2 := rc' hash hh true
      repeat' (first | simp -implicitDefEqProofs only [go_sem, seval] | simp -implicitDefEqProofs (disch := omega) only [ars, if_pos, exV_some, Option.map_some] | ((with_reducible first | apply exB_dec | apply exB_intro) <;> intro _) | with_reducible refine exC_pure (r1 _) ?_ | with_reducible refine exCq_pure (r1 _) ?_ | with_reducible refine exC_pure (r2 _) ?_ | with_reducible refine exCq_pure (r2 _) ?_ | with_reducible refine exC_pure (sc _) ?_ | with_reducible refine exCq_pure (sc _) ?_)
      all_goals first | exact ⟨fun b o ho => (upd_ne _ _ (by rintro rfl; rw [hn2] at ho; cases ho)).trans (hbs b o ho), h⟩ | (exfalso; omega) | skip
      done
end Go.Proofs.Ytejmcijcdhoogaa
end
