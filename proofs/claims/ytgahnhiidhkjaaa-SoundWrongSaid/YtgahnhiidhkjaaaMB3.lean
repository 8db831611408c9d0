import Derived.Test.YtgahnhiidhkjaaaMB1
import Derived.Test.YtgahnhiidhkjaaaMC1
import Derived.Test.YtgahnhiidhkjaaaMB2
set_option linter.unusedSimpArgs false
set_option linter.unusedVariables false
section
/- Words, as the document tells them; which rule is wrong, as the program tells it. -/
namespace Go.Proofs.Ytgahnhiidhkjaaa
open Go Abs
attribute [local irreducible] EX exL exG exC exCq exS exV exIf exGd exGq
set_option maxHeartbeats 4000000

theorem bx_cons (c : AV) (cs : List AV) (o : Nat) : bx (c :: cs) o = .box (c :: cs) o := rfl
attribute [go_sem] bx_cons
theorem isWord_tk {l : List UInt8} (h : isWord l = true) : tk l 0 = ([⟨1, 0, l⟩], -1) := by
  cases l with
  | nil => simp [isWord] at h
  | cons c r =>
    simp only [isWord, List.all_cons, Bool.and_eq_true] at h
    obtain ⟨h1, h2, h3⟩ := h
    have e1 : r.takeWhile inW = r ∧ r.dropWhile inW = [] := by
      clear h1 h2
      induction r with
      | nil => exact ⟨rfl, rfl⟩
      | cons b r ih =>
        simp only [List.all_cons, Bool.and_eq_true] at h3
        have := ih h3.2
        rw [List.takeWhile_cons, List.dropWhile_cons, h3.1, if_pos rfl, if_pos rfl, this.1, this.2]
        exact ⟨rfl, rfl⟩
    rw [tk_word (by simpa [wl] using h1), e1.1, e1.2, tk_nil]
    rfl
theorem isWord_iff (l : List UInt8) : isWord l = decide ((tk l 0).2 = -1 ∧ (tk l 0).1.length = 1 ∧ (gi (tk l 0).1 0).kind = 1 ∧ (gi (tk l 0).1 0).text = l) := by
  cases hw : isWord l with
  | true =>
    rw [isWord_tk hw]
    symm
    rw [decide_eq_true_eq]
    exact ⟨rfl, rfl, rfl, rfl⟩
  | false =>
    symm
    rw [decide_eq_false_iff_not]
    rintro ⟨h1, h2, h3, h4⟩
    have hm := gi_mem (l := (tk l 0).1) (i := 0) (Int.le_refl _) (by omega)
    have hok := ((tk_all l.length l 0 (Nat.le_refl _)).2 _ hm).1
    rcases hok with ⟨-, c, r, h5, h6, h7⟩ | ⟨h5, -⟩ | ⟨h5, -⟩
    · rw [h4] at h5
      have : isWord l = true := by
        rw [h5, isWord, List.all_cons, inW_first h6]
        simp only [wl] at h6
        rw [h6, Bool.true_and, Bool.true_and, List.all_eq_true]
        exact h7
      rw [this] at hw
      cases hw
    · omega
    · omega
theorem rd_tok00 {l : List Tok} {m : Nat} (h : (0 : Int) < l.length) : rdV (rows l) 0 m false = some (iv (gi l 0).kind) := by
  have := rd_tok0 (l := l) (i := 0) (m := m) (Int.le_refl _) h
  simpa using this
theorem rd_tok02 {l : List Tok} {m : Nat} (h : (0 : Int) < l.length) : rdV (rows l) 2 m false = some (sv (gi l 0).text) := by
  have := rd_tok2 (l := l) (i := 0) (m := m) (Int.le_refl _) h
  simpa using this
theorem rword_c (l : List UInt8) (hl : l.length ≤ 10000) (H : AHeap) : APure Try.prog 60 [sv l] H (bv (isWord l)) := by
  intro Q h
  have sp := fun H => rsplit_c l (by omega) H
  have hw := isWord_iff l
  refine ACalls.of_code fn_waymarkref11_word ?_
  simp -implicitDefEqProofs only [sc_waymarkref11_word, go_sem, Nat.reduceEqDiff, Nat.reduceAdd, Nat.reduceMul, Nat.reduceLeDiff, Nat.reduceSub, Nat.reduceLT, Nat.reduceBEq, Int.reduceToNat, reduceCtorEq, ↓reduceIte, Int.reduceEq, Int.reduceNeg, Int.reduceLT, Int.reduceLE, Int.reduceAdd, Int.reduceSub, Int.reduceMul]
  by_cases hb : (tk l 0).2 = -1
  · have e : splitAV l = .tup [toksAV (tk l 0).1, iv (-1), iv 0] := by rw [splitAV, if_neg (by omega), if_pos hb]
    rw [e, toksAV] at sp
    repeat' (first | simp -implicitDefEqProofs only [go_sem, Nat.reduceEqDiff, Nat.reduceAdd, Nat.reduceMul, Nat.reduceLeDiff, Nat.reduceSub, Nat.reduceLT, Nat.reduceBEq, Int.reduceToNat, reduceCtorEq, ↓reduceIte, Int.reduceEq, Int.reduceNeg, Int.reduceLT, Int.reduceLE, Int.reduceAdd, Int.reduceSub, Int.reduceMul] | simp -implicitDefEqProofs (disch := omega) only [rd_tok00, rd_tok02, iaq_vec, iao_arr, iaq_raw, rd_map, wrap_id, binq_quo, binq_rem, binq_shl, binq_shr, tdiv_pos, tmod_pos, if_pos, exV_some, Option.map_some] | ((first | with_reducible apply exIf_dec | ((with_reducible apply exGd_dec); focus exact rfl) | ((with_reducible apply exGq_dec); focus exact rfl) | with_reducible apply exIf_intro | ((with_reducible apply exGd_intro); focus exact rfl) | ((with_reducible apply exGq_intro); focus exact rfl)) <;> intro _) | with_reducible refine exC_pure (sp _) ?_ | with_reducible refine exCq_pure (sp _) ?_)
    all_goals
      refine fin_ h ?_
      show bv _ = bv _
      congr 1
      rw [hw]
      first | (rw [decide_eq_decide]; simp_all; done) | (rw [decide_eq_decide]; simp only [hb, true_and]; constructor <;> intro hh <;> simp_all <;> omega) | (symm; rw [decide_eq_false_iff_not]; intro hh; simp_all <;> omega)
  · have e : splitAV l = .tup [.vec true [] 0, iv (tk l 0).2, iv 3] := by rw [splitAV, if_neg (by omega), if_neg hb]
    rw [e] at sp
    repeat' (first | simp -implicitDefEqProofs only [go_sem, Nat.reduceEqDiff, Nat.reduceAdd, Nat.reduceMul, Nat.reduceLeDiff, Nat.reduceSub, Nat.reduceLT, Nat.reduceBEq, Int.reduceToNat, reduceCtorEq, ↓reduceIte, Int.reduceEq, Int.reduceNeg, Int.reduceLT, Int.reduceLE, Int.reduceAdd, Int.reduceSub, Int.reduceMul] | simp -implicitDefEqProofs (disch := omega) only [rd_tok00, rd_tok02, iaq_vec, iao_arr, iaq_raw, rd_map, wrap_id, binq_quo, binq_rem, binq_shl, binq_shr, tdiv_pos, tmod_pos, if_pos, exV_some, Option.map_some] | ((first | with_reducible apply exIf_dec | ((with_reducible apply exGd_dec); focus exact rfl) | ((with_reducible apply exGq_dec); focus exact rfl) | with_reducible apply exIf_intro | ((with_reducible apply exGd_intro); focus exact rfl) | ((with_reducible apply exGq_intro); focus exact rfl)) <;> intro _) | with_reducible refine exC_pure (sp _) ?_ | with_reducible refine exCq_pure (sp _) ?_)
    all_goals
      refine fin_ h ?_
      rw [hw, decide_eq_false (fun hh => hb hh.1)]

/-- where a rule first stands -/
def idxR (p : Rule → Bool) : List Rule → Int → Int
  | [], _ => -1
  | x :: l, i => if p x = true then i else idxR p l (i + 1)
theorem idxR_any (p : Rule → Bool) : ∀ (l : List Rule) (i : Int), 0 ≤ i → (decide (0 ≤ idxR p l i)) = l.any p
  | [], _, _ => by simp [idxR]
  | x :: l, i, h => by
    rw [idxR, List.any_cons]
    split
    · rename_i hx; simp [hx, h]
    · rename_i hx; rw [idxR_any p l (i + 1) (by omega)]; simp [hx]
theorem indexFuncR_c (nl : Bool) (l : List Rule) (f : FuncId) (us vs : List AV) (p : Rule → Bool) (hl : l.length ≤ 140737488355328) (H : AHeap) (hp : ∀ x ∈ l, APure Try.prog f (us ++ [x.av] ++ vs) H (bv (p x))) :
    APure Try.prog 96 [.vec nl (rows l) l.length, .fn (.func f) us vs] H (iv (idxR p l 0)) := by
  intro Q h
  refine ACalls.of_code fn_slices_IndexFunc_api_Rule_api_Rule ?_
  simp -implicitDefEqProofs only [sc_slices_IndexFunc_api_Rule_api_Rule, go_sem, Nat.reduceEqDiff, Nat.reduceAdd, Nat.reduceMul, Nat.reduceLeDiff, Nat.reduceSub, Nat.reduceLT, Nat.reduceBEq, Int.reduceToNat, reduceCtorEq, ↓reduceIte, Int.reduceEq, Int.reduceNeg, Int.reduceLT, Int.reduceLE, Int.reduceAdd, Int.reduceSub, Int.reduceMul]
  repeat' (first | simp -implicitDefEqProofs only [go_sem, Nat.reduceEqDiff, Nat.reduceAdd, Nat.reduceMul, Nat.reduceLeDiff, Nat.reduceSub, Nat.reduceLT, Nat.reduceBEq, Int.reduceToNat, reduceCtorEq, ↓reduceIte, Int.reduceEq, Int.reduceNeg, Int.reduceLT, Int.reduceLE, Int.reduceAdd, Int.reduceSub, Int.reduceMul] | simp -implicitDefEqProofs (disch := omega) only [iaq_vec, iao_arr, iaq_raw, rd_map, wrap_id, binq_quo, binq_rem, binq_shl, binq_shr, tdiv_pos, tmod_pos, if_pos, exV_some, Option.map_some] | ((first | with_reducible apply exIf_dec | ((with_reducible apply exGd_dec); focus exact rfl) | ((with_reducible apply exGq_dec); focus exact rfl) | with_reducible apply exIf_intro | ((with_reducible apply exGd_intro); focus exact rfl) | ((with_reducible apply exGq_intro); focus exact rfl)) <;> intro _))
  refine exL_mod (fun i : Int => [(8, .v (iv i))]) (fun _ => []) (fun i => 0 ≤ i ∧ i ≤ l.length ∧ idxR p (l.drop i.toNat) i = idxR p l 0) (fun i => (l.length - i).toNat) 0 rfl ⟨by omega, by omega, by simp⟩ ?_
  rintro i ⟨h0, h1, h2⟩ ih
  simp only [S.up, S.upH, ups, Abs.put, Nat.reduceEqDiff, ↓reduceIte, Nat.reduceAdd] at ih
  simp -implicitDefEqProofs only [congrArg KI.code sc_slices_IndexFunc_api_Rule_api_Rule_L0.eq_1, go_sem, Nat.reduceEqDiff, Nat.reduceAdd, Nat.reduceMul, Nat.reduceLeDiff, Nat.reduceSub, Nat.reduceLT, Nat.reduceBEq, Int.reduceToNat, reduceCtorEq, ↓reduceIte, Int.reduceEq, Int.reduceNeg, Int.reduceLT, Int.reduceLE, Int.reduceAdd, Int.reduceSub, Int.reduceMul]
  by_cases hi : i < l.length
  · rw [drop_gi h0 hi, idxR] at h2
    have hm := hp _ (gi_mem h0 hi)
    repeat' (first | simp -implicitDefEqProofs only [go_sem, Nat.reduceEqDiff, Nat.reduceAdd, Nat.reduceMul, Nat.reduceLeDiff, Nat.reduceSub, Nat.reduceLT, Nat.reduceBEq, Int.reduceToNat, reduceCtorEq, ↓reduceIte, Int.reduceEq, Int.reduceNeg, Int.reduceLT, Int.reduceLE, Int.reduceAdd, Int.reduceSub, Int.reduceMul] | simp -implicitDefEqProofs (disch := omega) only [rd_rule_v, iaq_vec, iao_arr, iaq_raw, rd_map, wrap_id, binq_quo, binq_rem, binq_shl, binq_shr, tdiv_pos, tmod_pos, if_pos, exV_some, Option.map_some] | ((first | with_reducible apply exIf_dec | ((with_reducible apply exGd_dec); focus exact rfl) | ((with_reducible apply exGq_dec); focus exact rfl) | with_reducible apply exIf_intro | ((with_reducible apply exGd_intro); focus exact rfl) | ((with_reducible apply exGq_intro); focus exact rfl)) <;> intro _))
    all_goals first | (exfalso; omega) | skip
    refine exC_pure hm ?_
    repeat' (first | simp -implicitDefEqProofs only [go_sem, Nat.reduceEqDiff, Nat.reduceAdd, Nat.reduceMul, Nat.reduceLeDiff, Nat.reduceSub, Nat.reduceLT, Nat.reduceBEq, Int.reduceToNat, reduceCtorEq, ↓reduceIte, Int.reduceEq, Int.reduceNeg, Int.reduceLT, Int.reduceLE, Int.reduceAdd, Int.reduceSub, Int.reduceMul] | simp -implicitDefEqProofs (disch := omega) only [iaq_vec, iao_arr, iaq_raw, rd_map, wrap_id, binq_quo, binq_rem, binq_shl, binq_shr, tdiv_pos, tmod_pos, if_pos, exV_some, Option.map_some] | ((first | with_reducible apply exIf_dec | ((with_reducible apply exGd_dec); focus exact rfl) | ((with_reducible apply exGq_dec); focus exact rfl) | with_reducible apply exIf_intro | ((with_reducible apply exGd_intro); focus exact rfl) | ((with_reducible apply exGq_intro); focus exact rfl)) <;> intro _))
    · rename_i hv
      rw [if_pos hv] at h2
      exact fin_ h (by rw [← h2])
    · rename_i hv
      rw [if_neg (by rw [hv]; simp)] at h2
      exact ih (i + 1) ⟨by omega, by omega, h2⟩ (by omega)
  · rw [drop_end (by omega), idxR] at h2
    repeat' (first | simp -implicitDefEqProofs only [go_sem, Nat.reduceEqDiff, Nat.reduceAdd, Nat.reduceMul, Nat.reduceLeDiff, Nat.reduceSub, Nat.reduceLT, Nat.reduceBEq, Int.reduceToNat, reduceCtorEq, ↓reduceIte, Int.reduceEq, Int.reduceNeg, Int.reduceLT, Int.reduceLE, Int.reduceAdd, Int.reduceSub, Int.reduceMul] | simp -implicitDefEqProofs (disch := omega) only [iaq_vec, iao_arr, iaq_raw, rd_map, wrap_id, binq_quo, binq_rem, binq_shl, binq_shr, tdiv_pos, tmod_pos, if_pos, exV_some, Option.map_some] | ((first | with_reducible apply exIf_dec | ((with_reducible apply exGd_dec); focus exact rfl) | ((with_reducible apply exGq_dec); focus exact rfl) | with_reducible apply exIf_intro | ((with_reducible apply exGd_intro); focus exact rfl) | ((with_reducible apply exGq_intro); focus exact rfl)) <;> intro _))
    all_goals first | (exfalso; omega) | exact fin_ h (by rw [← h2])
theorem containsFuncR_c (nl : Bool) (l : List Rule) (f : FuncId) (us vs : List AV) (p : Rule → Bool) (hl : l.length ≤ 140737488355328) (H : AHeap) (hp : ∀ x ∈ l, APure Try.prog f (us ++ [x.av] ++ vs) H (bv (p x))) :
    APure Try.prog 78 [.vec nl (rows l) l.length, .fn (.func f) us vs] H (bv (l.any p)) := by
  intro Q h
  refine ACalls.of_code fn_slices_ContainsFunc_api_Rule_api_Rule ?_
  simp -implicitDefEqProofs only [sc_slices_ContainsFunc_api_Rule_api_Rule, go_sem, Nat.reduceEqDiff, Nat.reduceAdd, Nat.reduceMul, Nat.reduceLeDiff, Nat.reduceSub, Nat.reduceLT, Nat.reduceBEq, Int.reduceToNat, reduceCtorEq, ↓reduceIte, Int.reduceEq, Int.reduceNeg, Int.reduceLT, Int.reduceLE, Int.reduceAdd, Int.reduceSub, Int.reduceMul]
  refine exC_pure (indexFuncR_c nl l f us vs p hl _ hp) ?_
  simp -implicitDefEqProofs only [idxR_any p l 0 (Int.le_refl 0), go_sem, Nat.reduceEqDiff, Nat.reduceAdd, Nat.reduceMul, Nat.reduceLeDiff, Nat.reduceSub, Nat.reduceLT, Nat.reduceBEq, Int.reduceToNat, reduceCtorEq, ↓reduceIte, Int.reduceEq, Int.reduceNeg, Int.reduceLT, Int.reduceLE, Int.reduceAdd, Int.reduceSub, Int.reduceMul]
  exact h
def Rule.box (r : Rule) : AV := .box (Enc.cells r) 0
def named (r x : Rule) : Bool := decide (x.name = r.name)
theorem named_c (r x : Rule) (H : AHeap) : APure Try.prog 79 [x.av, r.box] H (bv (named r x)) := by
  intro Q h
  refine ACalls.of_code fn_sound_rule_d1 ?_
  simp -implicitDefEqProofs only [sc_sound_rule_d1, Rule.av, Rule.box, Rule.cells_eq, sl, go_sem, Nat.reduceEqDiff, Nat.reduceAdd, Nat.reduceMul, Nat.reduceLeDiff, Nat.reduceSub, Nat.reduceLT, Nat.reduceBEq, Int.reduceToNat, reduceCtorEq, ↓reduceIte, Int.reduceEq, Int.reduceNeg, Int.reduceLT, Int.reduceLE, Int.reduceAdd, Int.reduceSub, Int.reduceMul]
  repeat' (first | simp -implicitDefEqProofs only [go_sem, Nat.reduceEqDiff, Nat.reduceAdd, Nat.reduceMul, Nat.reduceLeDiff, Nat.reduceSub, Nat.reduceLT, Nat.reduceBEq, Int.reduceToNat, reduceCtorEq, ↓reduceIte, Int.reduceEq, Int.reduceNeg, Int.reduceLT, Int.reduceLE, Int.reduceAdd, Int.reduceSub, Int.reduceMul] | simp -implicitDefEqProofs (disch := omega) only [rdV_f, iaq_vec, iao_arr, iaq_raw, rd_map, wrap_id, binq_quo, binq_rem, binq_shl, binq_shr, tdiv_pos, tmod_pos, if_pos, exV_some, Option.map_some] | ((first | with_reducible apply exIf_dec | ((with_reducible apply exGd_dec); focus exact rfl) | ((with_reducible apply exGq_dec); focus exact rfl) | with_reducible apply exIf_intro | ((with_reducible apply exGd_intro); focus exact rfl) | ((with_reducible apply exGq_intro); focus exact rfl)) <;> intro _))
  all_goals exact h
/-- what is wrong with a rule, behind others -/
def ruleErr (g : Graph) (pre : List Rule) (r : Rule) : Int :=
  if isWord r.name = false ∨ pre.any (named r) = true then 3
  else if ¬ rightErr g r.w = 0 then rightErr g r.w
  else if 0 ≤ r.pri ∧ portsOk r.m.proto r.m.sport r.m.dport = true ∧ (0 ≤ r.m.sl ∧ r.m.sl ≤ 32) ∧ (0 ≤ r.m.dl ∧ r.m.dl ≤ 32) then 0 else 1
theorem rule_c (g : Graph) (nl : Bool) (pre : List Rule) (r : Rule) (hw : r.w.ok) (hn : r.name.length ≤ 1099511627776) (hl : pre.length ≤ 1000) (H : AHeap) :
    APure Try.prog 59 [g.av, r.av, .vec nl (rows pre) pre.length] H (iv (ruleErr g pre r)) := by
  intro Q h
  have c1 := fun H => word_c r.name hn H
  have c2 := fun H => containsFuncR_c nl pre 79 [] [r.box] (named r) (by omega) H fun x _ => named_c r x H
  have c3 := fun H => right_c g r.w hw H
  have c4 := fun H => ports_c r.m.proto r.m.sport r.m.dport H
  have c5 := fun H => length_c r.m.sa r.m.sl H
  have c6 := fun H => length_c r.m.da r.m.dl H
  simp only [Graph.av, Want.av, Rule.box, Rule.cells_eq, sl] at c1 c2 c3
  refine ACalls.of_code fn_sound_rule ?_
  simp -implicitDefEqProofs only [sc_sound_rule, Graph.av, Rule.av, Rule.cells_eq, sl, go_sem, Nat.reduceEqDiff, Nat.reduceAdd, Nat.reduceMul, Nat.reduceLeDiff, Nat.reduceSub, Nat.reduceLT, Nat.reduceBEq, Int.reduceToNat, reduceCtorEq, ↓reduceIte, Int.reduceEq, Int.reduceNeg, Int.reduceLT, Int.reduceLE, Int.reduceAdd, Int.reduceSub, Int.reduceMul]
  repeat' (first | simp -implicitDefEqProofs only [go_sem, Nat.reduceEqDiff, Nat.reduceAdd, Nat.reduceMul, Nat.reduceLeDiff, Nat.reduceSub, Nat.reduceLT, Nat.reduceBEq, Int.reduceToNat, reduceCtorEq, ↓reduceIte, Int.reduceEq, Int.reduceNeg, Int.reduceLT, Int.reduceLE, Int.reduceAdd, Int.reduceSub, Int.reduceMul] | simp -implicitDefEqProofs (disch := omega) only [iaq_vec, iao_arr, iaq_raw, rd_map, wrap_id, binq_quo, binq_rem, binq_shl, binq_shr, tdiv_pos, tmod_pos, if_pos, exV_some, Option.map_some] | ((first | with_reducible apply exIf_dec | ((with_reducible apply exGd_dec); focus exact rfl) | ((with_reducible apply exGq_dec); focus exact rfl) | with_reducible apply exIf_intro | ((with_reducible apply exGd_intro); focus exact rfl) | ((with_reducible apply exGq_intro); focus exact rfl)) <;> intro _) | with_reducible refine exC_pure (c1 _) ?_ | with_reducible refine exCq_pure (c1 _) ?_ | with_reducible refine exC_pure (c2 _) ?_ | with_reducible refine exCq_pure (c2 _) ?_ | with_reducible refine exC_pure (c3 _) ?_ | with_reducible refine exCq_pure (c3 _) ?_ | with_reducible refine exC_pure (c4 _) ?_ | with_reducible refine exCq_pure (c4 _) ?_ | with_reducible refine exC_pure (c5 _) ?_ | with_reducible refine exCq_pure (c5 _) ?_ | with_reducible refine exC_pure (c6 _) ?_ | with_reducible refine exCq_pure (c6 _) ?_)
  all_goals
    refine fin_ h ?_
    unfold ruleErr
    first
      | (rw [if_pos (by simp_all)]; done)
      | (rw [if_neg (by simp_all), if_pos (by assumption)]; done)
      | (rw [if_neg (by simp_all), if_neg (by assumption), if_pos (by simp_all <;> omega)]; done)
      | (rw [if_neg (by simp_all), if_neg (by assumption), if_neg (by simp_all <;> omega)]; done)
end Go.Proofs.Ytgahnhiidhkjaaa
end

section
/- Which rule of many is wrong: the program's Check, and the document's. -/
namespace Go.Proofs.Ytgahnhiidhkjaaa
open Go Abs
attribute [local irreducible] EX exL exG exC exCq exS exV exIf exGd exGq
set_option maxHeartbeats 4000000

def crGo (g : Graph) (pre : List Rule) : List Rule → Int × Int
  | [] => (-1, 0)
  | r :: t => if ruleErr g pre r = 0 then crGo g (pre ++ [r]) t else (pre.length, ruleErr g pre r)
def checkR (g : Graph) (l : List Rule) : Int × Int := if (check g).2 = 0 then crGo g [] l else (-1, (check g).2)
theorem crGo_step {g : Graph} {l : List Rule} {i : Int} (h0 : 0 ≤ i) (h1 : i < l.length) : crGo g (l.take i.toNat) (l.drop i.toNat) = if ruleErr g (l.take i.toNat) (gi l i) = 0 then crGo g (l.take (i + 1).toNat) (l.drop (i + 1).toNat) else (i, ruleErr g (l.take i.toNat) (gi l i)) := by
  rw [drop_gi h0 h1, crGo, take_gi h0 h1, List.length_take, show ((min i.toNat l.length : Nat) : Int) = i by omega]
/-- rules as a law lets them in -/
def Rule.brief (r : Rule) : Prop := r.w.ok ∧ r.w.nils ∧ r.name.length ≤ 100
theorem soundCheck_c (g : Graph) (nl : Bool) (l : List Rule) (hl : l.length ≤ 1000) (hf : ∀ r ∈ l, r.brief) (H : AHeap) :
    APure Try.prog 38 [g.av, .vec nl (rows l) l.length] H (pairI (checkR g l)) := by
  intro Q h
  have cg := fun H => check_c g H
  simp only [Graph.av, pairI] at cg
  refine ACalls.of_code fn_sound_Check ?_
  simp -implicitDefEqProofs only [sc_sound_Check, Graph.av, go_sem, Nat.reduceEqDiff, Nat.reduceAdd, Nat.reduceMul, Nat.reduceLeDiff, Nat.reduceSub, Nat.reduceLT, Nat.reduceBEq, Int.reduceToNat, reduceCtorEq, ↓reduceIte, Int.reduceEq, Int.reduceNeg, Int.reduceLT, Int.reduceLE, Int.reduceAdd, Int.reduceSub, Int.reduceMul]
  repeat' (first | simp -implicitDefEqProofs only [go_sem, Nat.reduceEqDiff, Nat.reduceAdd, Nat.reduceMul, Nat.reduceLeDiff, Nat.reduceSub, Nat.reduceLT, Nat.reduceBEq, Int.reduceToNat, reduceCtorEq, ↓reduceIte, Int.reduceEq, Int.reduceNeg, Int.reduceLT, Int.reduceLE, Int.reduceAdd, Int.reduceSub, Int.reduceMul] | simp -implicitDefEqProofs (disch := omega) only [iaq_vec, iao_arr, iaq_raw, rd_map, wrap_id, binq_quo, binq_rem, binq_shl, binq_shr, tdiv_pos, tmod_pos, if_pos, exV_some, Option.map_some] | ((first | with_reducible apply exIf_dec | ((with_reducible apply exGd_dec); focus exact rfl) | ((with_reducible apply exGq_dec); focus exact rfl) | with_reducible apply exIf_intro | ((with_reducible apply exGd_intro); focus exact rfl) | ((with_reducible apply exGq_intro); focus exact rfl)) <;> intro _) | with_reducible refine exC_pure (cg _) ?_ | with_reducible refine exCq_pure (cg _) ?_)
  · refine fin_ h ?_
    rw [checkR, if_neg (by assumption)]
    rfl
  have hc : (check g).2 = 0 := by omega
  rw [checkR, if_pos hc] at h
  refine exL_mod (fun i : Int => [(21, .v (iv i))]) (fun _ => []) (fun i => 0 ≤ i ∧ i ≤ l.length ∧ crGo g (l.take i.toNat) (l.drop i.toNat) = crGo g [] l) (fun i => (l.length - i).toNat) 0 rfl ⟨by omega, by omega, rfl⟩ ?_
  rintro i ⟨i0, i1, hi⟩ ih
  simp only [S.up, S.upH, ups, Abs.put, Nat.reduceEqDiff, ↓reduceIte, Nat.reduceAdd] at ih
  simp -implicitDefEqProofs only [congrArg KI.code sc_sound_Check_L0.eq_1, go_sem, Nat.reduceEqDiff, Nat.reduceAdd, Nat.reduceMul, Nat.reduceLeDiff, Nat.reduceSub, Nat.reduceLT, Nat.reduceBEq, Int.reduceToNat, reduceCtorEq, ↓reduceIte, Int.reduceEq, Int.reduceNeg, Int.reduceLT, Int.reduceLE, Int.reduceAdd, Int.reduceSub, Int.reduceMul]
  by_cases hlt : i < l.length
  · have hfi := hf _ (gi_mem i0 hlt)
    have hs1 : (0 ≤ i ∧ i ≤ i ∧ i ≤ (l.length : Int) ∧ (l.length : Int) * 17 ≤ ((rows l).length : Int)) := ⟨i0, Int.le_refl _, i1, by rw [rows_length, Rule.sz_eq]; omega⟩
    have hs2 : List.take ((i.toNat - 0) * 17) (rows l) = rows (l.take i.toNat) := rows_take l i.toNat
    have hk2 : i.toNat - 0 = (l.take i.toNat).length := by rw [List.length_take]; omega
    have cr := fun nl H => rule_c g nl (l.take i.toNat) (gi l i) hfi.1 (by have := hfi.2.2; omega) (by rw [List.length_take]; omega) H
    simp only [Graph.av, Rule.av, Rule.cells_eq, sl] at cr
    rw [← hs2, ← hk2] at cr
    rw [crGo_step i0 hlt] at hi
    by_cases he : ruleErr g (l.take i.toNat) (gi l i) = 0
    · rw [if_pos he] at hi
      have nx := ih (i + 1) ⟨by omega, by omega, hi⟩ (by omega)
      clear ih
      repeat' (first | simp -implicitDefEqProofs only [go_sem, Nat.reduceEqDiff, Nat.reduceAdd, Nat.reduceMul, Nat.reduceLeDiff, Nat.reduceSub, Nat.reduceLT, Nat.reduceBEq, Int.reduceToNat, reduceCtorEq, ↓reduceIte, Int.reduceEq, Int.reduceNeg, Int.reduceLT, Int.reduceLE, Int.reduceAdd, Int.reduceSub, Int.reduceMul] | simp -implicitDefEqProofs (disch := omega) only [rd_rule_v, Rule.av, Rule.cells_eq, sl, hs1, iaq_vec, iao_arr, iaq_raw, rd_map, wrap_id, binq_quo, binq_rem, binq_shl, binq_shr, tdiv_pos, tmod_pos, if_pos, exV_some, Option.map_some] | ((first | with_reducible apply exIf_dec | ((with_reducible apply exGd_dec); focus exact rfl) | ((with_reducible apply exGq_dec); focus exact rfl) | with_reducible apply exIf_intro | ((with_reducible apply exGd_intro); focus exact rfl) | ((with_reducible apply exGq_intro); focus exact rfl)) <;> intro _) | with_reducible refine exC_pure (cr _ _) ?_ | with_reducible refine exCq_pure (cr _ _) ?_)
      all_goals first | exact nx | (exfalso; omega) | skip
      done
    · rw [if_neg he] at hi
      rw [← hi] at h
      clear ih
      repeat' (first | simp -implicitDefEqProofs only [go_sem, Nat.reduceEqDiff, Nat.reduceAdd, Nat.reduceMul, Nat.reduceLeDiff, Nat.reduceSub, Nat.reduceLT, Nat.reduceBEq, Int.reduceToNat, reduceCtorEq, ↓reduceIte, Int.reduceEq, Int.reduceNeg, Int.reduceLT, Int.reduceLE, Int.reduceAdd, Int.reduceSub, Int.reduceMul] | simp -implicitDefEqProofs (disch := omega) only [rd_rule_v, Rule.av, Rule.cells_eq, sl, hs1, iaq_vec, iao_arr, iaq_raw, rd_map, wrap_id, binq_quo, binq_rem, binq_shl, binq_shr, tdiv_pos, tmod_pos, if_pos, exV_some, Option.map_some] | ((first | with_reducible apply exIf_dec | ((with_reducible apply exGd_dec); focus exact rfl) | ((with_reducible apply exGq_dec); focus exact rfl) | with_reducible apply exIf_intro | ((with_reducible apply exGd_intro); focus exact rfl) | ((with_reducible apply exGq_intro); focus exact rfl)) <;> intro _) | with_reducible refine exC_pure (cr _ _) ?_ | with_reducible refine exCq_pure (cr _ _) ?_)
      all_goals first | exact h | (exfalso; omega) | skip
      done
  · rw [drop_end (by omega), crGo] at hi
    rw [← hi] at h
    clear ih
    repeat' (first | simp -implicitDefEqProofs only [go_sem, Nat.reduceEqDiff, Nat.reduceAdd, Nat.reduceMul, Nat.reduceLeDiff, Nat.reduceSub, Nat.reduceLT, Nat.reduceBEq, Int.reduceToNat, reduceCtorEq, ↓reduceIte, Int.reduceEq, Int.reduceNeg, Int.reduceLT, Int.reduceLE, Int.reduceAdd, Int.reduceSub, Int.reduceMul] | simp -implicitDefEqProofs (disch := omega) only [iaq_vec, iao_arr, iaq_raw, rd_map, wrap_id, binq_quo, binq_rem, binq_shl, binq_shr, tdiv_pos, tmod_pos, if_pos, exV_some, Option.map_some] | ((first | with_reducible apply exIf_dec | ((with_reducible apply exGd_dec); focus exact rfl) | ((with_reducible apply exGq_dec); focus exact rfl) | with_reducible apply exIf_intro | ((with_reducible apply exGd_intro); focus exact rfl) | ((with_reducible apply exGq_intro); focus exact rfl)) <;> intro _))
    all_goals first | exact h | (exfalso; omega) | skip
    done
theorem rd_rule0 {l : List Rule} {i : Int} {m : Nat} (h0 : 0 ≤ i) (h1 : i < l.length) : rdV (rows l) (i.toNat * 17) m false = some (sv (gi l i).name) := by
  have := rd_field (l := l) (i := i) (m := m) (n := 17) (j := 0) Rule.sz_eq.symm (by decide) h0 h1
  exact this
theorem rd_rule00 {l : List Rule} {i : Int} {m : Nat} (h0 : 0 ≤ i) (h1 : i < l.length) : rdV (rows l) (i.toNat * 17 + 0) m false = some (sv (gi l i).name) := rd_rule0 h0 h1
theorem any_take {l : List Rule} {p : Rule → Bool} {k : Int} (h0 : 0 ≤ k) (h1 : k < l.length) : (l.take (k + 1).toNat).any p = ((l.take k.toNat).any p || p (gi l k)) := by
  rw [take_gi h0 h1, List.any_append]
  simp
theorem checkRules_c (g : Graph) (nl : Bool) (l : List Rule) (hl : l.length ≤ 1000) (hf : ∀ r ∈ l, r.brief) (H : AHeap) :
    APure Try.prog 39 [g.av, .vec nl (rows l) l.length] H (pairI (checkR g l)) := by
  intro Q h
  have cg := fun H => check_ref_c g H
  simp only [Graph.av, pairI] at cg
  refine ACalls.of_code fn_waymarkref11_CheckRules ?_
  simp -implicitDefEqProofs only [sc_waymarkref11_CheckRules, Graph.av, go_sem, Nat.reduceEqDiff, Nat.reduceAdd, Nat.reduceMul, Nat.reduceLeDiff, Nat.reduceSub, Nat.reduceLT, Nat.reduceBEq, Int.reduceToNat, reduceCtorEq, ↓reduceIte, Int.reduceEq, Int.reduceNeg, Int.reduceLT, Int.reduceLE, Int.reduceAdd, Int.reduceSub, Int.reduceMul]
  repeat' (first | simp -implicitDefEqProofs only [go_sem, Nat.reduceEqDiff, Nat.reduceAdd, Nat.reduceMul, Nat.reduceLeDiff, Nat.reduceSub, Nat.reduceLT, Nat.reduceBEq, Int.reduceToNat, reduceCtorEq, ↓reduceIte, Int.reduceEq, Int.reduceNeg, Int.reduceLT, Int.reduceLE, Int.reduceAdd, Int.reduceSub, Int.reduceMul] | simp -implicitDefEqProofs (disch := omega) only [iaq_vec, iao_arr, iaq_raw, rd_map, wrap_id, binq_quo, binq_rem, binq_shl, binq_shr, tdiv_pos, tmod_pos, if_pos, exV_some, Option.map_some] | ((first | with_reducible apply exIf_dec | ((with_reducible apply exGd_dec); focus exact rfl) | ((with_reducible apply exGq_dec); focus exact rfl) | with_reducible apply exIf_intro | ((with_reducible apply exGd_intro); focus exact rfl) | ((with_reducible apply exGq_intro); focus exact rfl)) <;> intro _) | with_reducible refine exC_pure (cg _) ?_ | with_reducible refine exCq_pure (cg _) ?_)
  · refine fin_ h ?_
    rw [checkR, if_neg (by assumption)]
    rfl
  have hc : (check g).2 = 0 := by omega
  rw [checkR, if_pos hc] at h
  refine exL_mod (fun i : Int => [(8, .v (iv i))]) (fun _ => []) (fun i => 0 ≤ i ∧ i ≤ l.length ∧ crGo g (l.take i.toNat) (l.drop i.toNat) = crGo g [] l) (fun i => (l.length - i).toNat) 0 rfl ⟨by omega, by omega, rfl⟩ ?_
  rintro i ⟨i0, i1, hi⟩ ih
  simp only [S.up, S.upH, ups, Abs.put, Nat.reduceEqDiff, ↓reduceIte, Nat.reduceAdd] at ih
  simp -implicitDefEqProofs only [congrArg KI.code sc_waymarkref11_CheckRules_L1.eq_1, go_sem, Nat.reduceEqDiff, Nat.reduceAdd, Nat.reduceMul, Nat.reduceLeDiff, Nat.reduceSub, Nat.reduceLT, Nat.reduceBEq, Int.reduceToNat, reduceCtorEq, ↓reduceIte, Int.reduceEq, Int.reduceNeg, Int.reduceLT, Int.reduceLE, Int.reduceAdd, Int.reduceSub, Int.reduceMul]
  by_cases hlt : i < l.length
  · have hfi := hf _ (gi_mem i0 hlt)
    have hnm : (gi l i).name.length ≤ 10000 := by have := hfi.2.2; omega
    have c1 := fun H => rword_c (gi l i).name hnm H
    have c3 := fun H => rightWant_c g (gi l i).w hfi.1 H
    simp only [Graph.av, Want.av, sl] at c3
    rw [crGo_step i0 hlt] at hi
    repeat' (first | simp -implicitDefEqProofs only [go_sem, Nat.reduceEqDiff, Nat.reduceAdd, Nat.reduceMul, Nat.reduceLeDiff, Nat.reduceSub, Nat.reduceLT, Nat.reduceBEq, Int.reduceToNat, reduceCtorEq, ↓reduceIte, Int.reduceEq, Int.reduceNeg, Int.reduceLT, Int.reduceLE, Int.reduceAdd, Int.reduceSub, Int.reduceMul] | simp -implicitDefEqProofs (disch := omega) only [rd_rule_v, Rule.av, Rule.cells_eq, sl, iaq_vec, iao_arr, iaq_raw, rd_map, wrap_id, binq_quo, binq_rem, binq_shl, binq_shr, tdiv_pos, tmod_pos, if_pos, exV_some, Option.map_some] | ((first | with_reducible apply exIf_dec | ((with_reducible apply exGd_dec); focus exact rfl) | ((with_reducible apply exGq_dec); focus exact rfl) | with_reducible apply exIf_intro | ((with_reducible apply exGd_intro); focus exact rfl) | ((with_reducible apply exGq_intro); focus exact rfl)) <;> intro _))
    all_goals first | (exfalso; omega) | skip
    refine exL_mod (fun k : Int => [(10, .v (bv ((l.take k.toNat).any (named (gi l i))))), (11, .v (iv k))]) (fun _ => []) (fun k => 0 ≤ k ∧ k ≤ i) (fun k => (i - k).toNat) 0 rfl ⟨by omega, by omega⟩ ?_
    rintro k ⟨k0, k1⟩ ih2
    simp only [S.up, S.upH, ups, Abs.put, Nat.reduceEqDiff, ↓reduceIte, Nat.reduceAdd] at ih2
    simp -implicitDefEqProofs only [congrArg KI.code sc_waymarkref11_CheckRules_L0.eq_1, go_sem, Nat.reduceEqDiff, Nat.reduceAdd, Nat.reduceMul, Nat.reduceLeDiff, Nat.reduceSub, Nat.reduceLT, Nat.reduceBEq, Int.reduceToNat, reduceCtorEq, ↓reduceIte, Int.reduceEq, Int.reduceNeg, Int.reduceLT, Int.reduceLE, Int.reduceAdd, Int.reduceSub, Int.reduceMul]
    by_cases hk : k < i
    · have nx := ih2 (k + 1) ⟨by omega, by omega⟩ (by omega)
      rw [any_take k0 (by omega)] at nx
      clear ih ih2
      cases hb : (l.take k.toNat).any (named (gi l i)) with
      | true =>
        rw [hb, Bool.true_or] at nx
        repeat' (first | simp -implicitDefEqProofs only [go_sem, Nat.reduceEqDiff, Nat.reduceAdd, Nat.reduceMul, Nat.reduceLeDiff, Nat.reduceSub, Nat.reduceLT, Nat.reduceBEq, Int.reduceToNat, reduceCtorEq, ↓reduceIte, Int.reduceEq, Int.reduceNeg, Int.reduceLT, Int.reduceLE, Int.reduceAdd, Int.reduceSub, Int.reduceMul] | simp -implicitDefEqProofs (disch := omega) only [rd_rule00, rd_rule_v, Rule.av, Rule.cells_eq, sl, iaq_vec, iao_arr, iaq_raw, rd_map, wrap_id, binq_quo, binq_rem, binq_shl, binq_shr, tdiv_pos, tmod_pos, if_pos, exV_some, Option.map_some] | ((first | with_reducible apply exIf_dec | ((with_reducible apply exGd_dec); focus exact rfl) | ((with_reducible apply exGq_dec); focus exact rfl) | with_reducible apply exIf_intro | ((with_reducible apply exGd_intro); focus exact rfl) | ((with_reducible apply exGq_intro); focus exact rfl)) <;> intro _))
        all_goals first | exact nx | (exfalso; omega) | skip
        done
      | false =>
        rw [hb, Bool.false_or] at nx
        repeat' (first | simp -implicitDefEqProofs only [go_sem, Nat.reduceEqDiff, Nat.reduceAdd, Nat.reduceMul, Nat.reduceLeDiff, Nat.reduceSub, Nat.reduceLT, Nat.reduceBEq, Int.reduceToNat, reduceCtorEq, ↓reduceIte, Int.reduceEq, Int.reduceNeg, Int.reduceLT, Int.reduceLE, Int.reduceAdd, Int.reduceSub, Int.reduceMul] | simp -implicitDefEqProofs (disch := omega) only [rd_rule00, rd_rule_v, Rule.av, Rule.cells_eq, sl, iaq_vec, iao_arr, iaq_raw, rd_map, wrap_id, binq_quo, binq_rem, binq_shl, binq_shr, tdiv_pos, tmod_pos, if_pos, exV_some, Option.map_some] | ((first | with_reducible apply exIf_dec | ((with_reducible apply exGd_dec); focus exact rfl) | ((with_reducible apply exGq_dec); focus exact rfl) | with_reducible apply exIf_intro | ((with_reducible apply exGd_intro); focus exact rfl) | ((with_reducible apply exGq_intro); focus exact rfl)) <;> intro _))
        all_goals first | exact nx | (exfalso; omega) | skip
        done
    · obtain rfl : k = i := by omega
      clear ih2
      have good : ruleErr g (l.take k.toNat) (gi l k) = 0 → _ := fun he => by
        rw [if_pos he] at hi
        exact ih (k + 1) ⟨by omega, by omega, hi⟩ (by omega)
      have bad : ∀ e, ruleErr g (l.take k.toNat) (gi l k) = e → e ≠ 0 → Q (.tup [iv k, iv e]) H := fun e he h0 => by
        rw [he, if_neg h0] at hi
        rw [← hi] at h
        exact h
      clear ih hi h
      repeat' (first | simp -implicitDefEqProofs only [go_sem, Nat.reduceEqDiff, Nat.reduceAdd, Nat.reduceMul, Nat.reduceLeDiff, Nat.reduceSub, Nat.reduceLT, Nat.reduceBEq, Int.reduceToNat, reduceCtorEq, ↓reduceIte, Int.reduceEq, Int.reduceNeg, Int.reduceLT, Int.reduceLE, Int.reduceAdd, Int.reduceSub, Int.reduceMul] | simp -implicitDefEqProofs (disch := omega) only [rd_rule00, rd_rule_v, Rule.av, Rule.cells_eq, sl, iaq_vec, iao_arr, iaq_raw, rd_map, wrap_id, binq_quo, binq_rem, binq_shl, binq_shr, tdiv_pos, tmod_pos, if_pos, exV_some, Option.map_some] | ((first | with_reducible apply exIf_dec | ((with_reducible apply exGd_dec); focus exact rfl) | ((with_reducible apply exGq_dec); focus exact rfl) | with_reducible apply exIf_intro | ((with_reducible apply exGd_intro); focus exact rfl) | ((with_reducible apply exGq_intro); focus exact rfl)) <;> intro _) | with_reducible refine exC_pure (c1 _) ?_ | with_reducible refine exCq_pure (c1 _) ?_ | with_reducible refine exC_pure (c3 _) ?_ | with_reducible refine exCq_pure (c3 _) ?_)
      all_goals first | refine bad _ ?_ (by omega) | refine good ?_ | (exfalso; omega)
      all_goals
        unfold ruleErr portsOk
        first
          | (rw [if_pos (by simp_all)]; done)
          | (rw [if_neg (by simp_all), if_pos (by assumption)]; done)
          | (rw [if_neg (by simp_all), if_neg (by assumption), if_neg (by simp only [decide_eq_true_eq]; omega)]; done)
          | (rw [if_neg (by simp_all), if_neg (by assumption), if_pos (by simp only [decide_eq_true_eq]; omega)]; done)
  · rw [drop_end (by omega), crGo] at hi
    rw [← hi] at h
    clear ih
    repeat' (first | simp -implicitDefEqProofs only [go_sem, Nat.reduceEqDiff, Nat.reduceAdd, Nat.reduceMul, Nat.reduceLeDiff, Nat.reduceSub, Nat.reduceLT, Nat.reduceBEq, Int.reduceToNat, reduceCtorEq, ↓reduceIte, Int.reduceEq, Int.reduceNeg, Int.reduceLT, Int.reduceLE, Int.reduceAdd, Int.reduceSub, Int.reduceMul] | simp -implicitDefEqProofs (disch := omega) only [iaq_vec, iao_arr, iaq_raw, rd_map, wrap_id, binq_quo, binq_rem, binq_shl, binq_shr, tdiv_pos, tmod_pos, if_pos, exV_some, Option.map_some] | ((first | with_reducible apply exIf_dec | ((with_reducible apply exGd_dec); focus exact rfl) | ((with_reducible apply exGq_dec); focus exact rfl) | with_reducible apply exIf_intro | ((with_reducible apply exGd_intro); focus exact rfl) | ((with_reducible apply exGq_intro); focus exact rfl)) <;> intro _))
    all_goals first | exact h | (exfalso; omega) | skip
    done
end Go.Proofs.Ytgahnhiidhkjaaa
end

section
/- Which flows a match takes, as the document tells it; rules that are one; the first rule that takes a flow. -/
namespace Go.Proofs.Ytgahnhiidhkjaaa
open Go Abs
attribute [local irreducible] EX exL exG exC exCq exS exV exIf exGd exGq
set_option maxHeartbeats 4000000

theorem and1u {x : Int} (h0 : 0 ≤ x) (h1 : x < 4294967296) : iand .u32 x 1 = x % 2 := by
  obtain ⟨n, rfl⟩ : ∃ n : Nat, x = n := ⟨x.toNat, by omega⟩
  have hb : (BitVec.ofInt 32 (n : Int) &&& BitVec.ofInt 32 1).toNat = n % 2 := by
    rw [BitVec.toNat_and]
    have : (BitVec.ofInt 32 (n : Int)).toNat = n := by
      simp [BitVec.toNat_ofInt]
      omega
    rw [this]
    exact Nat.and_one_is_mod n
  unfold iand
  rw [show (BitVec.ofInt IntKind.u32.bits (n : Int) &&& BitVec.ofInt IntKind.u32.bits 1).toNat = n % 2 from hb]
  simp [IntKind.wrap, IntKind.signed, IntKind.bits]
  omega
theorem shr_u {x s : Int} (h0 : 0 ≤ s) (h1 : s ≤ 32) : ishr .u32 x s = x / 2 ^ s.toNat := by
  have hm : min s.toNat IntKind.u32.bits = s.toNat := by show min s.toNat 32 = s.toNat; omega
  rw [ishr, hm, Int.fdiv_eq_ediv_of_nonneg _ (Int.pow_nonneg (by decide))]
theorem div_u {x : Int} (h0 : 0 ≤ x) (h1 : x < 4294967296) (n : Nat) : 0 ≤ x / 2 ^ n ∧ x / 2 ^ n < 4294967296 := by
  have hp : (0 : Int) < 2 ^ n := Int.pow_pos (by decide)
  refine ⟨Int.ediv_nonneg h0 (by omega), ?_⟩
  have := Int.ediv_le_self (2 ^ n : Int) h0
  omega
theorem cutN_range (n : Int) : 0 ≤ cutN n ∧ cutN n ≤ 32 := by unfold cutN; omega
theorem maskU_iff {p a : Int} (n : Int) (p0 : 0 ≤ p) (p1 : p < 4294967296) (a0 : 0 ≤ a) (a1 : a < 4294967296) : maskU p n = maskU a n ↔ p / 2 ^ (32 - cutN n).toNat = a / 2 ^ (32 - cutN n).toNat := by
  obtain ⟨k0, k1⟩ := cutN_range n
  have e : ∀ x : Int, 0 ≤ x → x < 4294967296 → maskU x n = (x / 2 ^ (32 - cutN n).toNat) * 2 ^ (32 - cutN n).toNat := by
    intro x x0 x1
    have hm : min (32 - cutN n).toNat IntKind.u32.bits = (32 - cutN n).toNat := by show min (32 - cutN n).toNat 32 = _; omega
    have hp : (0 : Int) < 2 ^ (32 - cutN n).toNat := Int.pow_pos (by decide)
    rw [maskU, shr_u (by omega) (by omega), ishl, hm]
    have h2 := Int.ediv_mul_le x (b := 2 ^ (32 - cutN n).toNat) (by omega)
    have h3 : 0 ≤ (x / 2 ^ (32 - cutN n).toNat) * 2 ^ (32 - cutN n).toNat := Int.mul_nonneg (div_u x0 x1 _).1 (by omega)
    generalize (x / 2 ^ (32 - cutN n).toNat) * 2 ^ (32 - cutN n).toNat = z at h2 h3 ⊢
    simp [IntKind.wrap, IntKind.signed, IntKind.bits]
    omega
  have hp : (2 : Int) ^ (32 - cutN n).toNat ≠ 0 := by
    have : (0 : Int) < 2 ^ (32 - cutN n).toNat := Int.pow_pos (by decide)
    omega
  rw [e p p0 p1, e a a0 a1]
  exact ⟨fun h => Int.eq_of_mul_eq_mul_right hp h, fun h => by rw [h]⟩
theorem div_half (x : Int) {n m : Nat} (h : m = n + 1) : x / 2 ^ m = x / 2 ^ n / 2 := by
  subst h
  rw [Int.pow_succ, Int.ediv_ediv_of_nonneg (Int.pow_nonneg (by decide))]
theorem div_eq_of_le {p a : Int} {n : Nat} (h : p / 2 ^ n = a / 2 ^ n) : ∀ {m : Nat}, n ≤ m → p / 2 ^ m = a / 2 ^ m := by
  intro m hm
  induction m with
  | zero => obtain rfl : n = 0 := by omega
            exact h
  | succ m ih =>
    by_cases e : n = m + 1
    · subst e; exact h
    · rw [div_half p rfl, div_half a rfl, ih (by omega)]
theorem cutR_c (n : Int) (H : AHeap) : APure Try.prog 68 [iv n, iv 0, iv 32] H (iv (cutN n)) := by
  intro Q h
  refine ACalls.of_code fn_waymarkref1_Cut ?_
  simp -implicitDefEqProofs only [sc_waymarkref1_Cut, go_sem, Nat.reduceEqDiff, Nat.reduceAdd, Nat.reduceMul, Nat.reduceLeDiff, Nat.reduceSub, Nat.reduceLT, Nat.reduceBEq, Int.reduceToNat, reduceCtorEq, ↓reduceIte, Int.reduceEq, Int.reduceNeg, Int.reduceLT, Int.reduceLE, Int.reduceAdd, Int.reduceSub, Int.reduceMul]
  repeat' (first | simp -implicitDefEqProofs only [go_sem, Nat.reduceEqDiff, Nat.reduceAdd, Nat.reduceMul, Nat.reduceLeDiff, Nat.reduceSub, Nat.reduceLT, Nat.reduceBEq, Int.reduceToNat, reduceCtorEq, ↓reduceIte, Int.reduceEq, Int.reduceNeg, Int.reduceLT, Int.reduceLE, Int.reduceAdd, Int.reduceSub, Int.reduceMul] | simp -implicitDefEqProofs (disch := omega) only [iaq_vec, iao_arr, iaq_raw, rd_map, wrap_id, binq_quo, binq_rem, binq_shl, binq_shr, tdiv_pos, tmod_pos, if_pos, exV_some, Option.map_some] | ((first | with_reducible apply exIf_dec | ((with_reducible apply exGd_dec); focus exact rfl) | ((with_reducible apply exGq_dec); focus exact rfl) | with_reducible apply exIf_intro | ((with_reducible apply exGd_intro); focus exact rfl) | ((with_reducible apply exGq_intro); focus exact rfl)) <;> intro _))
  all_goals
    refine fin_ h ?_
    show iv _ = iv _
    congr 1
    unfold cutN
    omega
theorem u64_id {x : Int} (h0 : 0 ≤ x) (h1 : x ≤ 63) : IntKind.u64.wrap x = x := by
  simp [IntKind.wrap, IntKind.signed, IntKind.bits]
  omega
theorem inR_c (p n a : Int) (p0 : 0 ≤ p) (p1 : p < 4294967296) (a0 : 0 ≤ a) (a1 : a < 4294967296) (H : AHeap) : APure Try.prog 46 [.agg [uv p, iv n], uv a] H (bv (decide (maskU p n = maskU a n))) := by
  intro Q h
  obtain ⟨k0, k1⟩ := cutN_range n
  refine ACalls.of_code fn_waymarkref11_In ?_
  simp -implicitDefEqProofs only [sc_waymarkref11_In, go_sem, Nat.reduceEqDiff, Nat.reduceAdd, Nat.reduceMul, Nat.reduceLeDiff, Nat.reduceSub, Nat.reduceLT, Nat.reduceBEq, Int.reduceToNat, reduceCtorEq, ↓reduceIte, Int.reduceEq, Int.reduceNeg, Int.reduceLT, Int.reduceLE, Int.reduceAdd, Int.reduceSub, Int.reduceMul]
  repeat' (first | simp -implicitDefEqProofs only [go_sem, Nat.reduceEqDiff, Nat.reduceAdd, Nat.reduceMul, Nat.reduceLeDiff, Nat.reduceSub, Nat.reduceLT, Nat.reduceBEq, Int.reduceToNat, reduceCtorEq, ↓reduceIte, Int.reduceEq, Int.reduceNeg, Int.reduceLT, Int.reduceLE, Int.reduceAdd, Int.reduceSub, Int.reduceMul] | simp -implicitDefEqProofs (disch := omega) only [iaq_vec, iao_arr, iaq_raw, rd_map, wrap_id, binq_quo, binq_rem, binq_shl, binq_shr, tdiv_pos, tmod_pos, if_pos, exV_some, Option.map_some] | ((first | with_reducible apply exIf_dec | ((with_reducible apply exGd_dec); focus exact rfl) | ((with_reducible apply exGq_dec); focus exact rfl) | with_reducible apply exIf_intro | ((with_reducible apply exGd_intro); focus exact rfl) | ((with_reducible apply exGq_intro); focus exact rfl)) <;> intro _) | with_reducible refine exC_pure (cutR_c _ _) ?_ | with_reducible refine exCq_pure (cutR_c _ _) ?_)
  refine exL_mod (fun i : Int => [(6, .v (iv i))]) (fun _ => []) (fun i => 0 ≤ i ∧ i ≤ cutN n ∧ p / 2 ^ (32 - i).toNat = a / 2 ^ (32 - i).toNat) (fun i => (32 - i).toNat) 0 rfl ⟨by omega, by omega, by
    rw [show ((32 : Int) - 0).toNat = 32 by omega, Int.ediv_eq_zero_of_lt p0 (by omega), Int.ediv_eq_zero_of_lt a0 (by omega)]⟩ ?_
  rintro i ⟨i0, i1, hi⟩ ih
  simp only [S.up, S.upH, ups, Abs.put, Nat.reduceEqDiff, ↓reduceIte, Nat.reduceAdd] at ih
  simp -implicitDefEqProofs only [congrArg KI.code sc_waymarkref11_In_L0.eq_1, go_sem, Nat.reduceEqDiff, Nat.reduceAdd, Nat.reduceMul, Nat.reduceLeDiff, Nat.reduceSub, Nat.reduceLT, Nat.reduceBEq, Int.reduceToNat, reduceCtorEq, ↓reduceIte, Int.reduceEq, Int.reduceNeg, Int.reduceLT, Int.reduceLE, Int.reduceAdd, Int.reduceSub, Int.reduceMul]
  by_cases hlt : i < cutN n
  · have hp := div_u p0 p1 (31 - i).toNat
    have ha := div_u a0 a1 (31 - i).toNat
    have e1 := div_half p (n := (31 - i).toNat) (m := (32 - i).toNat) (by omega)
    have e2 := div_half a (n := (31 - i).toNat) (m := (32 - i).toNat) (by omega)
    rw [e1, e2] at hi
    have nxt := ih (i + 1)
    rw [show (32 - (i + 1)).toNat = (31 - i).toNat by omega] at nxt
    have hmi := maskU_iff n p0 p1 a0 a1
    clear ih e1 e2
    by_cases hb : p / 2 ^ (31 - i).toNat % 2 = a / 2 ^ (31 - i).toNat % 2
    · have nx := nxt ⟨by omega, by omega, by omega⟩ (by omega)
      clear nxt
      repeat' (first | simp -implicitDefEqProofs only [go_sem, Nat.reduceEqDiff, Nat.reduceAdd, Nat.reduceMul, Nat.reduceLeDiff, Nat.reduceSub, Nat.reduceLT, Nat.reduceBEq, Int.reduceToNat, reduceCtorEq, ↓reduceIte, Int.reduceEq, Int.reduceNeg, Int.reduceLT, Int.reduceLE, Int.reduceAdd, Int.reduceSub, Int.reduceMul] | simp -implicitDefEqProofs (disch := omega) only [u64_id, shr_u, and1u, hp.1, hp.2, ha.1, ha.2, iaq_vec, iao_arr, iaq_raw, rd_map, wrap_id, binq_quo, binq_rem, binq_shl, binq_shr, tdiv_pos, tmod_pos, if_pos, exV_some, Option.map_some] | ((first | with_reducible apply exIf_dec | ((with_reducible apply exGd_dec); focus exact rfl) | ((with_reducible apply exGq_dec); focus exact rfl) | with_reducible apply exIf_intro | ((with_reducible apply exGd_intro); focus exact rfl) | ((with_reducible apply exGq_intro); focus exact rfl)) <;> intro _))
      all_goals first | exact nx | (exfalso; omega) | skip
      done
    · have hno : ¬ maskU p n = maskU a n := fun hh => by
        have := div_eq_of_le (hmi.1 hh) (m := (31 - i).toNat) (by omega)
        rw [this] at hb
        exact hb rfl
      rw [decide_eq_false hno] at h
      clear nxt hmi
      repeat' (first | simp -implicitDefEqProofs only [go_sem, Nat.reduceEqDiff, Nat.reduceAdd, Nat.reduceMul, Nat.reduceLeDiff, Nat.reduceSub, Nat.reduceLT, Nat.reduceBEq, Int.reduceToNat, reduceCtorEq, ↓reduceIte, Int.reduceEq, Int.reduceNeg, Int.reduceLT, Int.reduceLE, Int.reduceAdd, Int.reduceSub, Int.reduceMul] | simp -implicitDefEqProofs (disch := omega) only [u64_id, shr_u, and1u, hp.1, hp.2, ha.1, ha.2, iaq_vec, iao_arr, iaq_raw, rd_map, wrap_id, binq_quo, binq_rem, binq_shl, binq_shr, tdiv_pos, tmod_pos, if_pos, exV_some, Option.map_some] | ((first | with_reducible apply exIf_dec | ((with_reducible apply exGd_dec); focus exact rfl) | ((with_reducible apply exGq_dec); focus exact rfl) | with_reducible apply exIf_intro | ((with_reducible apply exGd_intro); focus exact rfl) | ((with_reducible apply exGq_intro); focus exact rfl)) <;> intro _))
      all_goals first | exact h | (exfalso; omega) | skip
      done
  · obtain rfl : i = cutN n := by omega
    rw [decide_eq_true ((maskU_iff n p0 p1 a0 a1).2 hi)] at h
    clear ih
    repeat' (first | simp -implicitDefEqProofs only [go_sem, Nat.reduceEqDiff, Nat.reduceAdd, Nat.reduceMul, Nat.reduceLeDiff, Nat.reduceSub, Nat.reduceLT, Nat.reduceBEq, Int.reduceToNat, reduceCtorEq, ↓reduceIte, Int.reduceEq, Int.reduceNeg, Int.reduceLT, Int.reduceLE, Int.reduceAdd, Int.reduceSub, Int.reduceMul] | simp -implicitDefEqProofs (disch := omega) only [iaq_vec, iao_arr, iaq_raw, rd_map, wrap_id, binq_quo, binq_rem, binq_shl, binq_shr, tdiv_pos, tmod_pos, if_pos, exV_some, Option.map_some] | ((first | with_reducible apply exIf_dec | ((with_reducible apply exGd_dec); focus exact rfl) | ((with_reducible apply exGq_dec); focus exact rfl) | with_reducible apply exIf_intro | ((with_reducible apply exGd_intro); focus exact rfl) | ((with_reducible apply exGq_intro); focus exact rfl)) <;> intro _))
    all_goals first | exact h | (exfalso; omega) | skip
    done
def u32 (x : Int) : Prop := 0 ≤ x ∧ x < 4294967296
def RMatch.fine (m : RMatch) : Prop := u32 m.sa ∧ u32 m.da
def Flow.fine (t : Flow) : Prop := u32 t.src ∧ u32 t.dst
theorem matchesR_c (m : RMatch) (t : Flow) (hm : m.fine) (ht : t.fine) (H : AHeap) : APure Try.prog 17 [m.av, t.av] H (bv (meansF m t)) := by
  intro Q h
  have c1 := fun H => inR_c m.sa m.sl t.src hm.1.1 hm.1.2 ht.1.1 ht.1.2 H
  have c2 := fun H => inR_c m.da m.dl t.dst hm.2.1 hm.2.2 ht.2.1 ht.2.2 H
  refine ACalls.of_code fn_waymarkref11_Matches ?_
  simp -implicitDefEqProofs only [sc_waymarkref11_Matches, RMatch.av, Flow.av, go_sem, Nat.reduceEqDiff, Nat.reduceAdd, Nat.reduceMul, Nat.reduceLeDiff, Nat.reduceSub, Nat.reduceLT, Nat.reduceBEq, Int.reduceToNat, reduceCtorEq, ↓reduceIte, Int.reduceEq, Int.reduceNeg, Int.reduceLT, Int.reduceLE, Int.reduceAdd, Int.reduceSub, Int.reduceMul]
  repeat' (first | simp -implicitDefEqProofs only [go_sem, Nat.reduceEqDiff, Nat.reduceAdd, Nat.reduceMul, Nat.reduceLeDiff, Nat.reduceSub, Nat.reduceLT, Nat.reduceBEq, Int.reduceToNat, reduceCtorEq, ↓reduceIte, Int.reduceEq, Int.reduceNeg, Int.reduceLT, Int.reduceLE, Int.reduceAdd, Int.reduceSub, Int.reduceMul] | simp -implicitDefEqProofs (disch := omega) only [iaq_vec, iao_arr, iaq_raw, rd_map, wrap_id, binq_quo, binq_rem, binq_shl, binq_shr, tdiv_pos, tmod_pos, if_pos, exV_some, Option.map_some] | ((first | with_reducible apply exIf_dec | ((with_reducible apply exGd_dec); focus exact rfl) | ((with_reducible apply exGq_dec); focus exact rfl) | with_reducible apply exIf_intro | ((with_reducible apply exGd_intro); focus exact rfl) | ((with_reducible apply exGq_intro); focus exact rfl)) <;> intro _) | with_reducible refine exC_pure (c1 _) ?_ | with_reducible refine exCq_pure (c1 _) ?_ | with_reducible refine exC_pure (c2 _) ?_ | with_reducible refine exCq_pure (c2 _) ?_)
  all_goals
    refine fin_ h ?_
    show bv _ = bv _
    congr 1
    unfold meansF
    first | (rw [decide_eq_decide]; simp only [*, true_and]; done) | (symm; simp_all; done) | (symm; simp_all <;> omega)
end Go.Proofs.Ytgahnhiidhkjaaa
end

section
/- Rules that are one; the first rule that takes a flow. -/
namespace Go.Proofs.Ytgahnhiidhkjaaa
open Go Abs
attribute [local irreducible] EX exL exG exC exCq exS exV exIf exGd exGq
set_option maxHeartbeats 4000000

theorem rd_sub {α : Type} [Enc α] [Inhabited α] {l : List α} {i : Int} {n j m : Nat} (hn : n = Enc.sz α) (hj : j + m ≤ Enc.sz α) (h0 : 0 ≤ i) (h1 : i < l.length) : rdV (rows l) (i.toNat * n + j) m true = some (.agg (((Enc.cells (gi l i)).drop j).take m)) := by
  subst hn
  have hlt : i.toNat < l.length := by omega
  have hle : i.toNat * Enc.sz α + Enc.sz α ≤ (rows l).length := by
    rw [rows_length]
    have := Nat.mul_le_mul_right (Enc.sz α) (show i.toNat + 1 ≤ l.length by omega)
    rw [Nat.add_mul] at this
    omega
  unfold rdV
  rw [if_pos rfl, if_pos (by omega), gi_eq hlt, ← rows_at l _ hlt, List.drop_take, List.take_take, List.drop_drop, Nat.min_eq_left (by omega)]
theorem rd_rule_m {l : List Rule} {i : Int} (h0 : 0 ≤ i) (h1 : i < l.length) : rdV (rows l) (i.toNat * 17 + 2) 7 true = some (gi l i).m.av := by
  rw [rd_sub (n := 17) Rule.sz_eq.symm (by decide) h0 h1]; rfl
theorem rd_rule_w {l : List Rule} {i : Int} (h0 : 0 ≤ i) (h1 : i < l.length) : rdV (rows l) (i.toNat * 17 + 9) 7 true = some (gi l i).w.av := by
  rw [rd_sub (n := 17) Rule.sz_eq.symm (by decide) h0 h1]; rfl
theorem sameWant_c (w : Want) (hw : w.ok) (H : AHeap) : APure Try.prog 45 [w.av, w.av] H (bv true) := by
  intro Q h
  obtain ⟨w1, w2, w3, w4⟩ := hw
  have c1 := fun H => same_ints_c w.via w.via w.viaNl w.viaNl (by omega) H
  have c2 := fun H => same_ints_c w.nodes w.nodes w.nodesNl w.nodesNl (by omega) H
  have c3 := fun H => same_ints_c w.links w.links w.linksNl w.linksNl (by omega) H
  have c4 := fun H => same_ints_c w.colours w.colours w.coloursNl w.coloursNl (by omega) H
  simp only [decide_true] at c1 c2 c3 c4
  refine ACalls.of_code fn_waymarkref11_SameWant ?_
  simp -implicitDefEqProofs only [sc_waymarkref11_SameWant, Want.av, sl, go_sem, Nat.reduceEqDiff, Nat.reduceAdd, Nat.reduceMul, Nat.reduceLeDiff, Nat.reduceSub, Nat.reduceLT, Nat.reduceBEq, Int.reduceToNat, reduceCtorEq, ↓reduceIte, Int.reduceEq, Int.reduceNeg, Int.reduceLT, Int.reduceLE, Int.reduceAdd, Int.reduceSub, Int.reduceMul]
  repeat' (first | simp -implicitDefEqProofs only [go_sem, Nat.reduceEqDiff, Nat.reduceAdd, Nat.reduceMul, Nat.reduceLeDiff, Nat.reduceSub, Nat.reduceLT, Nat.reduceBEq, Int.reduceToNat, reduceCtorEq, ↓reduceIte, Int.reduceEq, Int.reduceNeg, Int.reduceLT, Int.reduceLE, Int.reduceAdd, Int.reduceSub, Int.reduceMul] | simp -implicitDefEqProofs (disch := omega) only [iaq_vec, iao_arr, iaq_raw, rd_map, wrap_id, binq_quo, binq_rem, binq_shl, binq_shr, tdiv_pos, tmod_pos, if_pos, exV_some, Option.map_some] | ((first | with_reducible apply exIf_dec | ((with_reducible apply exGd_dec); focus exact rfl) | ((with_reducible apply exGq_dec); focus exact rfl) | with_reducible apply exIf_intro | ((with_reducible apply exGd_intro); focus exact rfl) | ((with_reducible apply exGq_intro); focus exact rfl)) <;> intro _) | with_reducible refine exC_pure (c1 _) ?_ | with_reducible refine exCq_pure (c1 _) ?_ | with_reducible refine exC_pure (c2 _) ?_ | with_reducible refine exCq_pure (c2 _) ?_ | with_reducible refine exC_pure (c3 _) ?_ | with_reducible refine exCq_pure (c3 _) ?_ | with_reducible refine exC_pure (c4 _) ?_ | with_reducible refine exCq_pure (c4 _) ?_)
  all_goals first | exact h | (exfalso; omega) | skip
  done
theorem sameRule_c (r : Rule) (hw : r.w.ok) (H : AHeap) : APure Try.prog 16 [r.av, r.av] H (bv true) := by
  intro Q h
  have c1 := fun H => sameWant_c r.w hw H
  simp only [Want.av, sl] at c1
  refine ACalls.of_code fn_waymarkref11_SameRule ?_
  simp -implicitDefEqProofs only [sc_waymarkref11_SameRule, Rule.av, Rule.cells_eq, sl, go_sem, Nat.reduceEqDiff, Nat.reduceAdd, Nat.reduceMul, Nat.reduceLeDiff, Nat.reduceSub, Nat.reduceLT, Nat.reduceBEq, Int.reduceToNat, reduceCtorEq, ↓reduceIte, Int.reduceEq, Int.reduceNeg, Int.reduceLT, Int.reduceLE, Int.reduceAdd, Int.reduceSub, Int.reduceMul]
  repeat' (first | simp -implicitDefEqProofs only [go_sem, Nat.reduceEqDiff, Nat.reduceAdd, Nat.reduceMul, Nat.reduceLeDiff, Nat.reduceSub, Nat.reduceLT, Nat.reduceBEq, Int.reduceToNat, reduceCtorEq, ↓reduceIte, Int.reduceEq, Int.reduceNeg, Int.reduceLT, Int.reduceLE, Int.reduceAdd, Int.reduceSub, Int.reduceMul] | simp -implicitDefEqProofs (disch := omega) only [iaq_vec, iao_arr, iaq_raw, rd_map, wrap_id, binq_quo, binq_rem, binq_shl, binq_shr, tdiv_pos, tmod_pos, if_pos, exV_some, Option.map_some] | ((first | with_reducible apply exIf_dec | ((with_reducible apply exGd_dec); focus exact rfl) | ((with_reducible apply exGq_dec); focus exact rfl) | with_reducible apply exIf_intro | ((with_reducible apply exGd_intro); focus exact rfl) | ((with_reducible apply exGq_intro); focus exact rfl)) <;> intro _) | with_reducible refine exC_pure (c1 _) ?_ | with_reducible refine exCq_pure (c1 _) ?_)
  all_goals first | exact h | (exfalso; omega) | skip
  all_goals first | (exfalso; simp_all; done) | skip
  all_goals (refine fin_ h ?_; simp_all)
theorem sameRules_c (nl nm : Bool) (l : List Rule) (hl : ∀ r ∈ l, r.w.ok) (hll : l.length ≤ 1000) (H : AHeap) : APure Try.prog 41 [.vec nl (rows l) l.length, .vec nm (rows l) l.length] H (bv true) := by
  intro Q h
  refine ACalls.of_code fn_waymarkref11_SameRules ?_
  simp -implicitDefEqProofs only [sc_waymarkref11_SameRules, go_sem, Nat.reduceEqDiff, Nat.reduceAdd, Nat.reduceMul, Nat.reduceLeDiff, Nat.reduceSub, Nat.reduceLT, Nat.reduceBEq, Int.reduceToNat, reduceCtorEq, ↓reduceIte, Int.reduceEq, Int.reduceNeg, Int.reduceLT, Int.reduceLE, Int.reduceAdd, Int.reduceSub, Int.reduceMul]
  repeat' (first | simp -implicitDefEqProofs only [go_sem, Nat.reduceEqDiff, Nat.reduceAdd, Nat.reduceMul, Nat.reduceLeDiff, Nat.reduceSub, Nat.reduceLT, Nat.reduceBEq, Int.reduceToNat, reduceCtorEq, ↓reduceIte, Int.reduceEq, Int.reduceNeg, Int.reduceLT, Int.reduceLE, Int.reduceAdd, Int.reduceSub, Int.reduceMul] | simp -implicitDefEqProofs (disch := omega) only [iaq_vec, iao_arr, iaq_raw, rd_map, wrap_id, binq_quo, binq_rem, binq_shl, binq_shr, tdiv_pos, tmod_pos, if_pos, exV_some, Option.map_some] | ((first | with_reducible apply exIf_dec | ((with_reducible apply exGd_dec); focus exact rfl) | ((with_reducible apply exGq_dec); focus exact rfl) | with_reducible apply exIf_intro | ((with_reducible apply exGd_intro); focus exact rfl) | ((with_reducible apply exGq_intro); focus exact rfl)) <;> intro _))
  all_goals first | (exfalso; omega) | skip
  refine exL_mod (fun i : Int => [(5, .v (iv i))]) (fun _ => []) (fun i => 0 ≤ i ∧ i ≤ l.length) (fun i => (l.length - i).toNat) 0 rfl ⟨by omega, by omega⟩ ?_
  rintro i ⟨i0, i1⟩ ih
  simp only [S.up, S.upH, ups, Abs.put, Nat.reduceEqDiff, ↓reduceIte, Nat.reduceAdd] at ih
  simp -implicitDefEqProofs only [congrArg KI.code sc_waymarkref11_SameRules_L0.eq_1, go_sem, Nat.reduceEqDiff, Nat.reduceAdd, Nat.reduceMul, Nat.reduceLeDiff, Nat.reduceSub, Nat.reduceLT, Nat.reduceBEq, Int.reduceToNat, reduceCtorEq, ↓reduceIte, Int.reduceEq, Int.reduceNeg, Int.reduceLT, Int.reduceLE, Int.reduceAdd, Int.reduceSub, Int.reduceMul]
  by_cases hlt : i < l.length
  · have nx := ih (i + 1) ⟨by omega, by omega⟩ (by omega)
    have c1 := fun H => sameRule_c (gi l i) (hl _ (gi_mem i0 hlt)) H
    clear ih
    repeat' (first | simp -implicitDefEqProofs only [go_sem, Nat.reduceEqDiff, Nat.reduceAdd, Nat.reduceMul, Nat.reduceLeDiff, Nat.reduceSub, Nat.reduceLT, Nat.reduceBEq, Int.reduceToNat, reduceCtorEq, ↓reduceIte, Int.reduceEq, Int.reduceNeg, Int.reduceLT, Int.reduceLE, Int.reduceAdd, Int.reduceSub, Int.reduceMul] | simp -implicitDefEqProofs (disch := omega) only [rd_rule_v, iaq_vec, iao_arr, iaq_raw, rd_map, wrap_id, binq_quo, binq_rem, binq_shl, binq_shr, tdiv_pos, tmod_pos, if_pos, exV_some, Option.map_some] | ((first | with_reducible apply exIf_dec | ((with_reducible apply exGd_dec); focus exact rfl) | ((with_reducible apply exGq_dec); focus exact rfl) | with_reducible apply exIf_intro | ((with_reducible apply exGd_intro); focus exact rfl) | ((with_reducible apply exGq_intro); focus exact rfl)) <;> intro _) | with_reducible refine exC_pure (c1 _) ?_ | with_reducible refine exCq_pure (c1 _) ?_)
    all_goals first | exact nx | (exfalso; omega) | skip
    done
  · clear ih
    repeat' (first | simp -implicitDefEqProofs only [go_sem, Nat.reduceEqDiff, Nat.reduceAdd, Nat.reduceMul, Nat.reduceLeDiff, Nat.reduceSub, Nat.reduceLT, Nat.reduceBEq, Int.reduceToNat, reduceCtorEq, ↓reduceIte, Int.reduceEq, Int.reduceNeg, Int.reduceLT, Int.reduceLE, Int.reduceAdd, Int.reduceSub, Int.reduceMul] | simp -implicitDefEqProofs (disch := omega) only [iaq_vec, iao_arr, iaq_raw, rd_map, wrap_id, binq_quo, binq_rem, binq_shl, binq_shr, tdiv_pos, tmod_pos, if_pos, exV_some, Option.map_some] | ((first | with_reducible apply exIf_dec | ((with_reducible apply exGd_dec); focus exact rfl) | ((with_reducible apply exGq_dec); focus exact rfl) | with_reducible apply exIf_intro | ((with_reducible apply exGd_intro); focus exact rfl) | ((with_reducible apply exGq_intro); focus exact rfl)) <;> intro _))
    all_goals first | exact h | (exfalso; omega) | skip
    done
/-- what First answers -/
def firstAV (o : Option Rule) : AV := .tup [(o.getD default).av, bv o.isSome]
def firstL (x : List Rule) (t : Flow) : Option Rule := x.find? fun r => meansF r.m t
theorem insD_perm (x : Rule) : ∀ t : List Rule, (insD x t).Perm (x :: t)
  | [] => .refl _
  | y :: t => by
    unfold insD
    split
    · exact ((insD_perm x t).cons y).trans (.swap x y t)
    · exact .refl _
theorem sortD_perm (l : List Rule) : (sortD l).Perm l := by
  have : ∀ (l acc : List Rule), (l.foldl (fun acc x => insD x acc) acc).Perm (acc ++ l) := by
    intro l
    induction l with
    | nil => intro acc; rw [List.append_nil]; exact .refl _
    | cons x l ih =>
      intro acc
      refine (ih (insD x acc)).trans ?_
      refine ((insD_perm x acc).append_right l).trans ?_
      exact List.perm_middle.symm
  exact this l []
theorem atL_mem {l : List Rule} {node : Int} {r : Rule} : r ∈ atL l node ↔ r ∈ l ∧ r.w.src = node := by
  unfold atL
  rw [(sortD_perm _).mem_iff, List.mem_filter, decide_eq_true_eq]
theorem atL_length (l : List Rule) (node : Int) : (atL l node).length ≤ l.length := by
  unfold atL
  rw [(sortD_perm _).length_eq]
  exact List.length_filter_le _ _
theorem first_c (nl : Bool) (l : List Rule) (hl : l.length < 40) (hf : ∀ r ∈ l, r.fine) (node : Int) (t : Flow) (H : AHeap) :
    APure Try.prog 14 [.vec nl (rows l) l.length, iv node, t.av] H (firstAV (firstL (atL l node) t)) := by
  intro Q h
  have c0 := fun H => at_c nl l hl hf node H
  have hal := atL_length l node
  obtain ⟨x, hx⟩ : ∃ x, x = atL l node := ⟨_, rfl⟩
  rw [← hx] at c0 h hal
  refine ACalls.of_code fn_classify_First ?_
  simp -implicitDefEqProofs only [sc_classify_First, Flow.av, go_sem, Nat.reduceEqDiff, Nat.reduceAdd, Nat.reduceMul, Nat.reduceLeDiff, Nat.reduceSub, Nat.reduceLT, Nat.reduceBEq, Int.reduceToNat, reduceCtorEq, ↓reduceIte, Int.reduceEq, Int.reduceNeg, Int.reduceLT, Int.reduceLE, Int.reduceAdd, Int.reduceSub, Int.reduceMul]
  repeat' (first | simp -implicitDefEqProofs only [go_sem, Nat.reduceEqDiff, Nat.reduceAdd, Nat.reduceMul, Nat.reduceLeDiff, Nat.reduceSub, Nat.reduceLT, Nat.reduceBEq, Int.reduceToNat, reduceCtorEq, ↓reduceIte, Int.reduceEq, Int.reduceNeg, Int.reduceLT, Int.reduceLE, Int.reduceAdd, Int.reduceSub, Int.reduceMul] | simp -implicitDefEqProofs (disch := omega) only [iaq_vec, iao_arr, iaq_raw, rd_map, wrap_id, binq_quo, binq_rem, binq_shl, binq_shr, tdiv_pos, tmod_pos, if_pos, exV_some, Option.map_some] | ((first | with_reducible apply exIf_dec | ((with_reducible apply exGd_dec); focus exact rfl) | ((with_reducible apply exGq_dec); focus exact rfl) | with_reducible apply exIf_intro | ((with_reducible apply exGd_intro); focus exact rfl) | ((with_reducible apply exGq_intro); focus exact rfl)) <;> intro _) | with_reducible refine exC_pure (c0 _) ?_ | with_reducible refine exCq_pure (c0 _) ?_)
  refine exL_mod (fun i : Int => [(14, .v (iv i))]) (fun _ => []) (fun i => 0 ≤ i ∧ i ≤ x.length ∧ firstL (x.drop i.toNat) t = firstL x t) (fun i => (x.length - i).toNat) 0 rfl ⟨by omega, by omega, rfl⟩ ?_
  rintro i ⟨i0, i1, hi⟩ ih
  simp only [S.up, S.upH, ups, Abs.put, Nat.reduceEqDiff, ↓reduceIte, Nat.reduceAdd] at ih
  simp -implicitDefEqProofs only [congrArg KI.code sc_classify_First_L0.eq_1, go_sem, Nat.reduceEqDiff, Nat.reduceAdd, Nat.reduceMul, Nat.reduceLeDiff, Nat.reduceSub, Nat.reduceLT, Nat.reduceBEq, Int.reduceToNat, reduceCtorEq, ↓reduceIte, Int.reduceEq, Int.reduceNeg, Int.reduceLT, Int.reduceLE, Int.reduceAdd, Int.reduceSub, Int.reduceMul]
  by_cases hlt : i < x.length
  · have c1 := fun H => matches_c (gi x i).m t H
    simp only [RMatch.av, Flow.av] at c1
    rw [drop_gi i0 hlt, firstL, List.find?_cons] at hi
    cases hb : meansF (gi x i).m t with
    | true =>
      rw [hb] at hi c1
      simp only at hi
      rw [← hi] at h
      clear ih
      repeat' (first | simp -implicitDefEqProofs only [go_sem, Nat.reduceEqDiff, Nat.reduceAdd, Nat.reduceMul, Nat.reduceLeDiff, Nat.reduceSub, Nat.reduceLT, Nat.reduceBEq, Int.reduceToNat, reduceCtorEq, ↓reduceIte, Int.reduceEq, Int.reduceNeg, Int.reduceLT, Int.reduceLE, Int.reduceAdd, Int.reduceSub, Int.reduceMul] | simp -implicitDefEqProofs (disch := omega) only [rd_rule_v, Rule.av, Rule.cells_eq, sl, iaq_vec, iao_arr, iaq_raw, rd_map, wrap_id, binq_quo, binq_rem, binq_shl, binq_shr, tdiv_pos, tmod_pos, if_pos, exV_some, Option.map_some] | ((first | with_reducible apply exIf_dec | ((with_reducible apply exGd_dec); focus exact rfl) | ((with_reducible apply exGq_dec); focus exact rfl) | with_reducible apply exIf_intro | ((with_reducible apply exGd_intro); focus exact rfl) | ((with_reducible apply exGq_intro); focus exact rfl)) <;> intro _) | with_reducible refine exC_pure (c1 _) ?_ | with_reducible refine exCq_pure (c1 _) ?_)
      all_goals first | exact h | (exfalso; omega) | skip
      done
    | false =>
      rw [hb] at hi c1
      simp only at hi
      have nx := ih (i + 1) ⟨by omega, by omega, hi⟩ (by omega)
      clear ih
      repeat' (first | simp -implicitDefEqProofs only [go_sem, Nat.reduceEqDiff, Nat.reduceAdd, Nat.reduceMul, Nat.reduceLeDiff, Nat.reduceSub, Nat.reduceLT, Nat.reduceBEq, Int.reduceToNat, reduceCtorEq, ↓reduceIte, Int.reduceEq, Int.reduceNeg, Int.reduceLT, Int.reduceLE, Int.reduceAdd, Int.reduceSub, Int.reduceMul] | simp -implicitDefEqProofs (disch := omega) only [rd_rule_v, Rule.av, Rule.cells_eq, sl, iaq_vec, iao_arr, iaq_raw, rd_map, wrap_id, binq_quo, binq_rem, binq_shl, binq_shr, tdiv_pos, tmod_pos, if_pos, exV_some, Option.map_some] | ((first | with_reducible apply exIf_dec | ((with_reducible apply exGd_dec); focus exact rfl) | ((with_reducible apply exGq_dec); focus exact rfl) | with_reducible apply exIf_intro | ((with_reducible apply exGd_intro); focus exact rfl) | ((with_reducible apply exGq_intro); focus exact rfl)) <;> intro _) | with_reducible refine exC_pure (c1 _) ?_ | with_reducible refine exCq_pure (c1 _) ?_)
      all_goals first | exact nx | (exfalso; omega) | skip
      done
  · rw [drop_end (by omega), firstL, List.find?_nil] at hi
    rw [← hi] at h
    clear ih
    repeat' (first | simp -implicitDefEqProofs only [go_sem, Nat.reduceEqDiff, Nat.reduceAdd, Nat.reduceMul, Nat.reduceLeDiff, Nat.reduceSub, Nat.reduceLT, Nat.reduceBEq, Int.reduceToNat, reduceCtorEq, ↓reduceIte, Int.reduceEq, Int.reduceNeg, Int.reduceLT, Int.reduceLE, Int.reduceAdd, Int.reduceSub, Int.reduceMul] | simp -implicitDefEqProofs (disch := omega) only [iaq_vec, iao_arr, iaq_raw, rd_map, wrap_id, binq_quo, binq_rem, binq_shl, binq_shr, tdiv_pos, tmod_pos, if_pos, exV_some, Option.map_some] | ((first | with_reducible apply exIf_dec | ((with_reducible apply exGd_dec); focus exact rfl) | ((with_reducible apply exGq_dec); focus exact rfl) | with_reducible apply exIf_intro | ((with_reducible apply exGd_intro); focus exact rfl) | ((with_reducible apply exGq_intro); focus exact rfl)) <;> intro _))
    all_goals first | exact h | (exfalso; omega) | skip
    done
theorem firstR_c (nl : Bool) (l : List Rule) (hl : l.length < 40) (hf : ∀ r ∈ l, r.m.fine) (node : Int) (t : Flow) (ht : t.fine) (H : AHeap) :
    APure Try.prog 15 [.vec nl (rows l) l.length, iv node, t.av] H (firstAV (firstL (atL l node) t)) := by
  intro Q h
  have c0 := fun H => refAt_c nl l hl node H
  have hal := atL_length l node
  have hmf : ∀ r ∈ atL l node, r.m.fine := fun r hr => hf r (atL_mem.1 hr).1
  obtain ⟨x, hx⟩ : ∃ x, x = atL l node := ⟨_, rfl⟩
  rw [← hx] at c0 h hal hmf
  refine ACalls.of_code fn_waymarkref11_First ?_
  simp -implicitDefEqProofs only [sc_waymarkref11_First, Flow.av, go_sem, Nat.reduceEqDiff, Nat.reduceAdd, Nat.reduceMul, Nat.reduceLeDiff, Nat.reduceSub, Nat.reduceLT, Nat.reduceBEq, Int.reduceToNat, reduceCtorEq, ↓reduceIte, Int.reduceEq, Int.reduceNeg, Int.reduceLT, Int.reduceLE, Int.reduceAdd, Int.reduceSub, Int.reduceMul]
  repeat' (first | simp -implicitDefEqProofs only [go_sem, Nat.reduceEqDiff, Nat.reduceAdd, Nat.reduceMul, Nat.reduceLeDiff, Nat.reduceSub, Nat.reduceLT, Nat.reduceBEq, Int.reduceToNat, reduceCtorEq, ↓reduceIte, Int.reduceEq, Int.reduceNeg, Int.reduceLT, Int.reduceLE, Int.reduceAdd, Int.reduceSub, Int.reduceMul] | simp -implicitDefEqProofs (disch := omega) only [iaq_vec, iao_arr, iaq_raw, rd_map, wrap_id, binq_quo, binq_rem, binq_shl, binq_shr, tdiv_pos, tmod_pos, if_pos, exV_some, Option.map_some] | ((first | with_reducible apply exIf_dec | ((with_reducible apply exGd_dec); focus exact rfl) | ((with_reducible apply exGq_dec); focus exact rfl) | with_reducible apply exIf_intro | ((with_reducible apply exGd_intro); focus exact rfl) | ((with_reducible apply exGq_intro); focus exact rfl)) <;> intro _) | with_reducible refine exC_pure (c0 _) ?_ | with_reducible refine exCq_pure (c0 _) ?_)
  refine exL_mod (fun i : Int => [(9, .v (iv i))]) (fun _ => []) (fun i => 0 ≤ i ∧ i ≤ x.length ∧ firstL (x.drop i.toNat) t = firstL x t) (fun i => (x.length - i).toNat) 0 rfl ⟨by omega, by omega, rfl⟩ ?_
  rintro i ⟨i0, i1, hi⟩ ih
  simp only [S.up, S.upH, ups, Abs.put, Nat.reduceEqDiff, ↓reduceIte, Nat.reduceAdd] at ih
  simp -implicitDefEqProofs only [congrArg KI.code sc_waymarkref11_First_L0.eq_1, go_sem, Nat.reduceEqDiff, Nat.reduceAdd, Nat.reduceMul, Nat.reduceLeDiff, Nat.reduceSub, Nat.reduceLT, Nat.reduceBEq, Int.reduceToNat, reduceCtorEq, ↓reduceIte, Int.reduceEq, Int.reduceNeg, Int.reduceLT, Int.reduceLE, Int.reduceAdd, Int.reduceSub, Int.reduceMul]
  by_cases hlt : i < x.length
  · have c1 := fun H => matchesR_c (gi x i).m t (hmf _ (gi_mem i0 hlt)) ht H
    simp only [RMatch.av, Flow.av] at c1
    rw [drop_gi i0 hlt, firstL, List.find?_cons] at hi
    cases hb : meansF (gi x i).m t with
    | true =>
      rw [hb] at hi c1
      simp only at hi
      rw [← hi] at h
      clear ih
      repeat' (first | simp -implicitDefEqProofs only [go_sem, Nat.reduceEqDiff, Nat.reduceAdd, Nat.reduceMul, Nat.reduceLeDiff, Nat.reduceSub, Nat.reduceLT, Nat.reduceBEq, Int.reduceToNat, reduceCtorEq, ↓reduceIte, Int.reduceEq, Int.reduceNeg, Int.reduceLT, Int.reduceLE, Int.reduceAdd, Int.reduceSub, Int.reduceMul] | simp -implicitDefEqProofs (disch := omega) only [rd_rule_m, RMatch.av, rd_rule_v, Rule.av, Rule.cells_eq, sl, iaq_vec, iao_arr, iaq_raw, rd_map, wrap_id, binq_quo, binq_rem, binq_shl, binq_shr, tdiv_pos, tmod_pos, if_pos, exV_some, Option.map_some] | ((first | with_reducible apply exIf_dec | ((with_reducible apply exGd_dec); focus exact rfl) | ((with_reducible apply exGq_dec); focus exact rfl) | with_reducible apply exIf_intro | ((with_reducible apply exGd_intro); focus exact rfl) | ((with_reducible apply exGq_intro); focus exact rfl)) <;> intro _) | with_reducible refine exC_pure (c1 _) ?_ | with_reducible refine exCq_pure (c1 _) ?_)
      all_goals first | exact h | (exfalso; omega) | skip
      done
    | false =>
      rw [hb] at hi c1
      simp only at hi
      have nx := ih (i + 1) ⟨by omega, by omega, hi⟩ (by omega)
      clear ih
      repeat' (first | simp -implicitDefEqProofs only [go_sem, Nat.reduceEqDiff, Nat.reduceAdd, Nat.reduceMul, Nat.reduceLeDiff, Nat.reduceSub, Nat.reduceLT, Nat.reduceBEq, Int.reduceToNat, reduceCtorEq, ↓reduceIte, Int.reduceEq, Int.reduceNeg, Int.reduceLT, Int.reduceLE, Int.reduceAdd, Int.reduceSub, Int.reduceMul] | simp -implicitDefEqProofs (disch := omega) only [rd_rule_m, RMatch.av, rd_rule_v, Rule.av, Rule.cells_eq, sl, iaq_vec, iao_arr, iaq_raw, rd_map, wrap_id, binq_quo, binq_rem, binq_shl, binq_shr, tdiv_pos, tmod_pos, if_pos, exV_some, Option.map_some] | ((first | with_reducible apply exIf_dec | ((with_reducible apply exGd_dec); focus exact rfl) | ((with_reducible apply exGq_dec); focus exact rfl) | with_reducible apply exIf_intro | ((with_reducible apply exGd_intro); focus exact rfl) | ((with_reducible apply exGq_intro); focus exact rfl)) <;> intro _) | with_reducible refine exC_pure (c1 _) ?_ | with_reducible refine exCq_pure (c1 _) ?_)
      all_goals first | exact nx | (exfalso; omega) | skip
      done
  · rw [drop_end (by omega), firstL, List.find?_nil] at hi
    rw [← hi] at h
    clear ih
    repeat' (first | simp -implicitDefEqProofs only [go_sem, Nat.reduceEqDiff, Nat.reduceAdd, Nat.reduceMul, Nat.reduceLeDiff, Nat.reduceSub, Nat.reduceLT, Nat.reduceBEq, Int.reduceToNat, reduceCtorEq, ↓reduceIte, Int.reduceEq, Int.reduceNeg, Int.reduceLT, Int.reduceLE, Int.reduceAdd, Int.reduceSub, Int.reduceMul] | simp -implicitDefEqProofs (disch := omega) only [iaq_vec, iao_arr, iaq_raw, rd_map, wrap_id, binq_quo, binq_rem, binq_shl, binq_shr, tdiv_pos, tmod_pos, if_pos, exV_some, Option.map_some] | ((first | with_reducible apply exIf_dec | ((with_reducible apply exGd_dec); focus exact rfl) | ((with_reducible apply exGq_dec); focus exact rfl) | with_reducible apply exIf_intro | ((with_reducible apply exGd_intro); focus exact rfl) | ((with_reducible apply exGq_intro); focus exact rfl)) <;> intro _))
    all_goals first | exact h | (exfalso; omega) | skip
    done
end Go.Proofs.Ytgahnhiidhkjaaa
end

section
/- The laws of chapter 14: its small functions, and SoundTells as a contract. -/
namespace Go.Proofs.Ytgahnhiidhkjaaa
open Go Abs
attribute [local irreducible] EX exL exG exC exCq exS exV exIf exGd exGq
set_option maxHeartbeats 4000000

theorem num14_c (n : Int) (H : AHeap) : APure Try.prog 40 [iv n] H (iv n) := by
  intro Q h
  refine ACalls.of_code fn_waymarklaw14_num ?_
  simp -implicitDefEqProofs only [sc_waymarklaw14_num, go_sem, Nat.reduceEqDiff, Nat.reduceAdd, Nat.reduceMul, Nat.reduceLeDiff, Nat.reduceSub, Nat.reduceLT, Nat.reduceBEq, Int.reduceToNat, reduceCtorEq, ↓reduceIte, Int.reduceEq, Int.reduceNeg, Int.reduceLT, Int.reduceLE, Int.reduceAdd, Int.reduceSub, Int.reduceMul]
  repeat' (first | simp -implicitDefEqProofs only [go_sem, Nat.reduceEqDiff, Nat.reduceAdd, Nat.reduceMul, Nat.reduceLeDiff, Nat.reduceSub, Nat.reduceLT, Nat.reduceBEq, Int.reduceToNat, reduceCtorEq, ↓reduceIte, Int.reduceEq, Int.reduceNeg, Int.reduceLT, Int.reduceLE, Int.reduceAdd, Int.reduceSub, Int.reduceMul] | simp -implicitDefEqProofs (disch := omega) only [iaq_vec, iao_arr, iaq_raw, rd_map, wrap_id, binq_quo, binq_rem, binq_shl, binq_shr, tdiv_pos, tmod_pos, if_pos, exV_some, Option.map_some] | ((first | with_reducible apply exIf_dec | ((with_reducible apply exGd_dec); focus exact rfl) | ((with_reducible apply exGq_dec); focus exact rfl) | with_reducible apply exIf_intro | ((with_reducible apply exGd_intro); focus exact rfl) | ((with_reducible apply exGq_intro); focus exact rfl)) <;> intro _))
  all_goals exact h
def few14 (l : List Rule) : Bool := l.all (fun r => decide (r.name.length ≤ 100) && fewB r.w) && decide (l.length ≤ 30)
theorem few14_c (nl : Bool) (l : List Rule) (hl : l.length ≤ 140737488355328) (hs : ∀ r ∈ l, r.name.length ≤ 140737488351232) (H : AHeap) : APure Try.prog 13 [.vec nl (rows l) l.length] H (bv (few14 l)) := by
  intro Q h
  refine ACalls.of_code fn_waymarklaw14_Few ?_
  simp -implicitDefEqProofs only [sc_waymarklaw14_Few, go_sem, Nat.reduceEqDiff, Nat.reduceAdd, Nat.reduceMul, Nat.reduceLeDiff, Nat.reduceSub, Nat.reduceLT, Nat.reduceBEq, Int.reduceToNat, reduceCtorEq, ↓reduceIte, Int.reduceEq, Int.reduceNeg, Int.reduceLT, Int.reduceLE, Int.reduceAdd, Int.reduceSub, Int.reduceMul]
  repeat' (first | simp -implicitDefEqProofs only [go_sem, Nat.reduceEqDiff, Nat.reduceAdd, Nat.reduceMul, Nat.reduceLeDiff, Nat.reduceSub, Nat.reduceLT, Nat.reduceBEq, Int.reduceToNat, reduceCtorEq, ↓reduceIte, Int.reduceEq, Int.reduceNeg, Int.reduceLT, Int.reduceLE, Int.reduceAdd, Int.reduceSub, Int.reduceMul] | simp -implicitDefEqProofs (disch := omega) only [iaq_vec, iao_arr, iaq_raw, rd_map, wrap_id, binq_quo, binq_rem, binq_shl, binq_shr, tdiv_pos, tmod_pos, if_pos, exV_some, Option.map_some] | ((first | with_reducible apply exIf_dec | ((with_reducible apply exGd_dec); focus exact rfl) | ((with_reducible apply exGq_dec); focus exact rfl) | with_reducible apply exIf_intro | ((with_reducible apply exGd_intro); focus exact rfl) | ((with_reducible apply exGq_intro); focus exact rfl)) <;> intro _))
  refine exL_mod (fun i : Int => [(3, .v (iv i))]) (fun _ => []) (fun i => 0 ≤ i ∧ i ≤ l.length ∧ (l.drop i.toNat).all (fun r => decide (r.name.length ≤ 100) && fewB r.w) = l.all (fun r => decide (r.name.length ≤ 100) && fewB r.w)) (fun i => (l.length - i).toNat) 0 rfl ⟨by omega, by omega, rfl⟩ ?_
  rintro i ⟨i0, i1, hi⟩ ih
  simp only [S.up, S.upH, ups, Abs.put, Nat.reduceEqDiff, ↓reduceIte, Nat.reduceAdd] at ih
  simp -implicitDefEqProofs only [congrArg KI.code sc_waymarklaw14_Few_L0.eq_1, go_sem, Nat.reduceEqDiff, Nat.reduceAdd, Nat.reduceMul, Nat.reduceLeDiff, Nat.reduceSub, Nat.reduceLT, Nat.reduceBEq, Int.reduceToNat, reduceCtorEq, ↓reduceIte, Int.reduceEq, Int.reduceNeg, Int.reduceLT, Int.reduceLE, Int.reduceAdd, Int.reduceSub, Int.reduceMul]
  by_cases hlt : i < l.length
  · rw [drop_gi i0 hlt, List.all_cons] at hi
    have fc := fun H => few_c (gi l i).w H
    simp only [Want.av, sl] at fc
    cases hb : decide ((gi l i).name.length ≤ 100) && fewB (gi l i).w with
    | true =>
      rw [hb, Bool.true_and] at hi
      have nx := ih (i + 1) ⟨by omega, by omega, hi⟩ (by omega)
      simp only [Bool.and_eq_true, decide_eq_true_eq] at hb
      clear ih
      repeat' (first | simp -implicitDefEqProofs only [go_sem, Nat.reduceEqDiff, Nat.reduceAdd, Nat.reduceMul, Nat.reduceLeDiff, Nat.reduceSub, Nat.reduceLT, Nat.reduceBEq, Int.reduceToNat, reduceCtorEq, ↓reduceIte, Int.reduceEq, Int.reduceNeg, Int.reduceLT, Int.reduceLE, Int.reduceAdd, Int.reduceSub, Int.reduceMul] | simp -implicitDefEqProofs (disch := omega) only [rd_rule00, rd_rule_w, Want.av, sl, iaq_vec, iao_arr, iaq_raw, rd_map, wrap_id, binq_quo, binq_rem, binq_shl, binq_shr, tdiv_pos, tmod_pos, if_pos, exV_some, Option.map_some] | ((first | with_reducible apply exIf_dec | ((with_reducible apply exGd_dec); focus exact rfl) | ((with_reducible apply exGq_dec); focus exact rfl) | with_reducible apply exIf_intro | ((with_reducible apply exGd_intro); focus exact rfl) | ((with_reducible apply exGq_intro); focus exact rfl)) <;> intro _) | with_reducible refine exC_pure (fc _) ?_ | with_reducible refine exCq_pure (fc _) ?_)
      all_goals first | exact nx | (exfalso; omega) | (exfalso; simp_all; done) | skip
      done
    | false =>
      rw [hb, Bool.false_and] at hi
      rw [few14, ← hi, Bool.false_and] at h
      clear ih
      by_cases hn : (gi l i).name.length ≤ 100
      · rw [decide_eq_true hn, Bool.true_and] at hb
        rw [hb] at fc
        repeat' (first | simp -implicitDefEqProofs only [go_sem, Nat.reduceEqDiff, Nat.reduceAdd, Nat.reduceMul, Nat.reduceLeDiff, Nat.reduceSub, Nat.reduceLT, Nat.reduceBEq, Int.reduceToNat, reduceCtorEq, ↓reduceIte, Int.reduceEq, Int.reduceNeg, Int.reduceLT, Int.reduceLE, Int.reduceAdd, Int.reduceSub, Int.reduceMul] | simp -implicitDefEqProofs (disch := omega) only [rd_rule00, rd_rule_w, Want.av, sl, iaq_vec, iao_arr, iaq_raw, rd_map, wrap_id, binq_quo, binq_rem, binq_shl, binq_shr, tdiv_pos, tmod_pos, if_pos, exV_some, Option.map_some] | ((first | with_reducible apply exIf_dec | ((with_reducible apply exGd_dec); focus exact rfl) | ((with_reducible apply exGq_dec); focus exact rfl) | with_reducible apply exIf_intro | ((with_reducible apply exGd_intro); focus exact rfl) | ((with_reducible apply exGq_intro); focus exact rfl)) <;> intro _) | with_reducible refine exC_pure (fc _) ?_ | with_reducible refine exCq_pure (fc _) ?_)
        all_goals first | exact h | (exfalso; omega) | skip
        done
      · repeat' (first | simp -implicitDefEqProofs only [go_sem, Nat.reduceEqDiff, Nat.reduceAdd, Nat.reduceMul, Nat.reduceLeDiff, Nat.reduceSub, Nat.reduceLT, Nat.reduceBEq, Int.reduceToNat, reduceCtorEq, ↓reduceIte, Int.reduceEq, Int.reduceNeg, Int.reduceLT, Int.reduceLE, Int.reduceAdd, Int.reduceSub, Int.reduceMul] | simp -implicitDefEqProofs (disch := omega) only [rd_rule00, rd_rule_w, Want.av, sl, iaq_vec, iao_arr, iaq_raw, rd_map, wrap_id, binq_quo, binq_rem, binq_shl, binq_shr, tdiv_pos, tmod_pos, if_pos, exV_some, Option.map_some] | ((first | with_reducible apply exIf_dec | ((with_reducible apply exGd_dec); focus exact rfl) | ((with_reducible apply exGq_dec); focus exact rfl) | with_reducible apply exIf_intro | ((with_reducible apply exGd_intro); focus exact rfl) | ((with_reducible apply exGq_intro); focus exact rfl)) <;> intro _) | with_reducible refine exC_pure (fc _) ?_ | with_reducible refine exCq_pure (fc _) ?_)
        all_goals first | exact h | (exfalso; omega) | skip
        done
  · rw [drop_end (by omega), List.all_nil] at hi
    rw [few14, ← hi, Bool.true_and] at h
    clear ih
    repeat' (first | simp -implicitDefEqProofs only [go_sem, Nat.reduceEqDiff, Nat.reduceAdd, Nat.reduceMul, Nat.reduceLeDiff, Nat.reduceSub, Nat.reduceLT, Nat.reduceBEq, Int.reduceToNat, reduceCtorEq, ↓reduceIte, Int.reduceEq, Int.reduceNeg, Int.reduceLT, Int.reduceLE, Int.reduceAdd, Int.reduceSub, Int.reduceMul] | simp -implicitDefEqProofs (disch := omega) only [iaq_vec, iao_arr, iaq_raw, rd_map, wrap_id, binq_quo, binq_rem, binq_shl, binq_shr, tdiv_pos, tmod_pos, if_pos, exV_some, Option.map_some] | ((first | with_reducible apply exIf_dec | ((with_reducible apply exGd_dec); focus exact rfl) | ((with_reducible apply exGq_dec); focus exact rfl) | with_reducible apply exIf_intro | ((with_reducible apply exGd_intro); focus exact rfl) | ((with_reducible apply exGq_intro); focus exact rfl)) <;> intro _))
    all_goals first | (exfalso; omega) | skip
    all_goals
      refine fin_ h ?_
      show bv _ = bv _
      congr 1
      rw [decide_eq_decide]
      omega
theorem few14_brief {l : List Rule} (h : few14 l = true) : l.length ≤ 30 ∧ ∀ r ∈ l, r.name.length ≤ 100 ∧ r.w.ok := by
  simp only [few14, Bool.and_eq_true, decide_eq_true_eq, List.all_eq_true] at h
  exact ⟨h.2, fun r hr => ⟨(h.1 r hr).1, rightErr_few (g := ⟨0, true, []⟩) (h.1 r hr).2⟩⟩
def rA : Rule := ⟨[97], 0, ⟨0, 0, 0, 0, 0, 0, 0⟩, ⟨0, 0, 0, true, [], true, [], true, [], true, []⟩, false⟩
def rB : Rule := ⟨[98], 3, ⟨0, 0, 0, 0, 0, 0, 0⟩, ⟨0, 0, 0, true, [], true, [], true, [], true, []⟩, false⟩
theorem alive14_c (H : AHeap) : APure Try.prog 37 [] H (bv true) := by
  intro Q h
  have c1 := fun H => soundCheck_c ⟨1, true, []⟩ true [] (by decide) (by intro r hr; cases hr) H
  have e1 : checkR ⟨1, true, []⟩ [] = (-1, 0) := by decide +kernel
  have c2 := fun H => at_c false [rA, rB] (by decide) (by intro r hr; simp only [List.mem_cons, List.not_mem_nil, or_false] at hr; rcases hr with rfl | rfl <;> simp [Rule.fine, rA, rB, Want.ok, Want.nils]) 0 H
  have e2 : atL [rA, rB] 0 = [rB, rA] := by rfl
  rw [e1] at c1
  rw [e2] at c2
  have h1 : rows [rA, rB] = Enc.cells rA ++ Enc.cells rB := by simp [rows]
  have h2 : rows [rB, rA] = Enc.cells rB ++ Enc.cells rA := by simp [rows]
  rw [h1, h2] at c2
  simp only [Graph.av, pairI, Rule.cells_eq, rA, rB, sl, rows_nil, List.length_cons, List.length_nil, List.map_nil, List.cons_append, List.nil_append] at c1 c2
  refine ACalls.of_code fn_waymarklaw14_alive ?_
  simp -implicitDefEqProofs only [sc_waymarklaw14_alive, go_sem, Nat.reduceEqDiff, Nat.reduceAdd, Nat.reduceMul, Nat.reduceLeDiff, Nat.reduceSub, Nat.reduceLT, Nat.reduceBEq, Int.reduceToNat, reduceCtorEq, ↓reduceIte, Int.reduceEq, Int.reduceNeg, Int.reduceLT, Int.reduceLE, Int.reduceAdd, Int.reduceSub, Int.reduceMul]
  repeat' (first | simp -implicitDefEqProofs only [go_sem, Nat.reduceEqDiff, Nat.reduceAdd, Nat.reduceMul, Nat.reduceLeDiff, Nat.reduceSub, Nat.reduceLT, Nat.reduceBEq, Int.reduceToNat, reduceCtorEq, ↓reduceIte, Int.reduceEq, Int.reduceNeg, Int.reduceLT, Int.reduceLE, Int.reduceAdd, Int.reduceSub, Int.reduceMul] | simp -implicitDefEqProofs (disch := omega) only [iaq_vec, iao_arr, iaq_raw, rd_map, wrap_id, binq_quo, binq_rem, binq_shl, binq_shr, tdiv_pos, tmod_pos, if_pos, exV_some, Option.map_some] | ((first | with_reducible apply exIf_dec | ((with_reducible apply exGd_dec); focus exact rfl) | ((with_reducible apply exGq_dec); focus exact rfl) | with_reducible apply exIf_intro | ((with_reducible apply exGd_intro); focus exact rfl) | ((with_reducible apply exGq_intro); focus exact rfl)) <;> intro _) | with_reducible refine exC_pure (c1 _) ?_ | with_reducible refine exCq_pure (c1 _) ?_ | with_reducible refine exC_pure (c2 _) ?_ | with_reducible refine exCq_pure (c2 _) ?_ | with_reducible refine exC_pure (num14_c _ _) ?_ | with_reducible refine exCq_pure (num14_c _ _) ?_)
  all_goals first | exact h | skip
  done
theorem soundTells_c (g : Graph) (hg : g.links.length * 32 ≤ 140737488351232) (nl : Bool) (l : List Rule) (hl : l.length ≤ 140737488355328) (hs : ∀ r ∈ l, r.name.length ≤ 140737488351232) (hn : ∀ r ∈ l, r.w.nils) (node : Int) (H : AHeap) :
    APure Try.prog 9 [g.av, .vec nl (rows l) l.length, iv node] H (bv true) := by
  intro Q h
  have fc := fun H => few14_c nl l hl hs H
  cases hfew : few14 l with
  | false =>
    rw [hfew] at fc
    refine ACalls.of_code fn_waymarklaw14_SoundTells ?_
    simp -implicitDefEqProofs only [sc_waymarklaw14_SoundTells, Graph.av, go_sem, Nat.reduceEqDiff, Nat.reduceAdd, Nat.reduceMul, Nat.reduceLeDiff, Nat.reduceSub, Nat.reduceLT, Nat.reduceBEq, Int.reduceToNat, reduceCtorEq, ↓reduceIte, Int.reduceEq, Int.reduceNeg, Int.reduceLT, Int.reduceLE, Int.reduceAdd, Int.reduceSub, Int.reduceMul]
    repeat' (first | simp -implicitDefEqProofs only [go_sem, Nat.reduceEqDiff, Nat.reduceAdd, Nat.reduceMul, Nat.reduceLeDiff, Nat.reduceSub, Nat.reduceLT, Nat.reduceBEq, Int.reduceToNat, reduceCtorEq, ↓reduceIte, Int.reduceEq, Int.reduceNeg, Int.reduceLT, Int.reduceLE, Int.reduceAdd, Int.reduceSub, Int.reduceMul] | simp -implicitDefEqProofs (disch := omega) only [iaq_vec, iao_arr, iaq_raw, rd_map, wrap_id, binq_quo, binq_rem, binq_shl, binq_shr, tdiv_pos, tmod_pos, if_pos, exV_some, Option.map_some] | ((first | with_reducible apply exIf_dec | ((with_reducible apply exGd_dec); focus exact rfl) | ((with_reducible apply exGq_dec); focus exact rfl) | with_reducible apply exIf_intro | ((with_reducible apply exGd_intro); focus exact rfl) | ((with_reducible apply exGq_intro); focus exact rfl)) <;> intro _) | with_reducible refine exC_pure (alive14_c _) ?_ | with_reducible refine exCq_pure (alive14_c _) ?_ | with_reducible refine exC_pure (fc _) ?_ | with_reducible refine exCq_pure (fc _) ?_)
    all_goals first | exact h | (exfalso; omega) | skip
    done
  | true =>
    rw [hfew] at fc
    obtain ⟨f1, f2⟩ := few14_brief hfew
    have hb : ∀ r ∈ l, r.brief := fun r hr => ⟨(f2 r hr).2, hn r hr, (f2 r hr).1⟩
    have c1 := fun H => soundCheck_c g nl l (by omega) hb H
    have c2 := fun H => checkRules_c g nl l (by omega) hb H
    have c3 := fun H => at_c nl l (by omega) (fun r hr => ⟨(f2 r hr).2, hn r hr⟩) node H
    have c4 := fun H => refAt_c nl l (by omega) node H
    have hal := atL_length l node
    have c5 := fun a b H => sameRules_c a b (atL l node) (fun r hr => (f2 r (atL_mem.1 hr).1).2) (by omega) H
    simp only [Graph.av, pairI] at c1 c2
    refine ACalls.of_code fn_waymarklaw14_SoundTells ?_
    simp -implicitDefEqProofs only [sc_waymarklaw14_SoundTells, Graph.av, go_sem, Nat.reduceEqDiff, Nat.reduceAdd, Nat.reduceMul, Nat.reduceLeDiff, Nat.reduceSub, Nat.reduceLT, Nat.reduceBEq, Int.reduceToNat, reduceCtorEq, ↓reduceIte, Int.reduceEq, Int.reduceNeg, Int.reduceLT, Int.reduceLE, Int.reduceAdd, Int.reduceSub, Int.reduceMul]
    repeat' (first | simp -implicitDefEqProofs only [go_sem, Nat.reduceEqDiff, Nat.reduceAdd, Nat.reduceMul, Nat.reduceLeDiff, Nat.reduceSub, Nat.reduceLT, Nat.reduceBEq, Int.reduceToNat, reduceCtorEq, ↓reduceIte, Int.reduceEq, Int.reduceNeg, Int.reduceLT, Int.reduceLE, Int.reduceAdd, Int.reduceSub, Int.reduceMul] | simp -implicitDefEqProofs (disch := omega) only [iaq_vec, iao_arr, iaq_raw, rd_map, wrap_id, binq_quo, binq_rem, binq_shl, binq_shr, tdiv_pos, tmod_pos, if_pos, exV_some, Option.map_some] | ((first | with_reducible apply exIf_dec | ((with_reducible apply exGd_dec); focus exact rfl) | ((with_reducible apply exGq_dec); focus exact rfl) | with_reducible apply exIf_intro | ((with_reducible apply exGd_intro); focus exact rfl) | ((with_reducible apply exGq_intro); focus exact rfl)) <;> intro _) | with_reducible refine exC_pure (alive14_c _) ?_ | with_reducible refine exCq_pure (alive14_c _) ?_ | with_reducible refine exC_pure (fc _) ?_ | with_reducible refine exCq_pure (fc _) ?_ | with_reducible refine exC_pure (c1 _) ?_ | with_reducible refine exCq_pure (c1 _) ?_ | with_reducible refine exC_pure (c2 _) ?_ | with_reducible refine exCq_pure (c2 _) ?_ | with_reducible refine exC_pure (c3 _) ?_ | with_reducible refine exCq_pure (c3 _) ?_ | with_reducible refine exC_pure (c4 _) ?_ | with_reducible refine exCq_pure (c4 _) ?_ | with_reducible refine exC_pure (num14_c _ _) ?_ | with_reducible refine exCq_pure (num14_c _ _) ?_ | with_reducible refine exC_pure (c5 _ _ _) ?_ | with_reducible refine exCq_pure (c5 _ _ _) ?_)
    all_goals first | exact h | (exfalso; omega) | skip
    done
end Go.Proofs.Ytgahnhiidhkjaaa
end

section
/- Rules and flows as arguments. -/
namespace Go.Proofs.Ytgahnhiidhkjaaa
open Go Abs
attribute [local irreducible] EX exL exG exC exCq exS exV exIf exGd exGq

def tcU : TC := .int .u32
def tcMatch : TC := .st [.st [tcU, tcI], .st [tcU, tcI], tcI, tcI, tcI]
def tcRule : TC := .st [.str, tcI, tcMatch, tcWant, .bool]
def tcRules : TC := .sl 208 tcRule
def tcFlow : TC := .st [tcU, tcU, tcI, tcI, tcI]
theorem wf_u32 {n : Int} (h : (Lit.int .u32 n).wf = true) : u32 n := by
  simp [Lit.wf, IntKind.min, IntKind.max, IntKind.signed, IntKind.bits] at h
  unfold u32
  try omega
def i64 (x : Int) : Prop := -9223372036854775808 ≤ x ∧ x ≤ 9223372036854775807
/-- what is so of each rule that is an argument -/
structure Rule.arg (r : Rule) : Prop where
  name : r.name.length ≤ 140737488351232
  pri : i64 r.pri
  m : r.m.fine
  ms : i64 r.m.sl ∧ i64 r.m.dl ∧ i64 r.m.proto ∧ i64 r.m.sport ∧ i64 r.m.dport
  w : r.w.fine
  nils : r.w.nils
theorem shape_want2L {r : List AV} (h : Shape tcWant r) : ∃ w : Want, r = [iv w.src, iv w.dst, iv w.bound, sl w.viaNl w.via, sl w.nodesNl w.nodes, sl w.linksNl w.links, sl w.coloursNl w.colours] ∧ w.fine ∧ w.nils := by
  simp only [tcWant, Shape, ShapeAll, tcI] at h
  obtain ⟨_, _, rfl, ⟨a, rfl, ha⟩, _, _, rfl, ⟨b, rfl, hb⟩, _, _, rfl, ⟨c, rfl, hc⟩, _, _, rfl, h1, _, _, rfl, h2, _, _, rfl, h3, _, _, rfl, h4, rfl⟩ := h
  obtain ⟨n1, l1, rfl, b1, z1, i1⟩ := shape_intsL h1
  obtain ⟨n2, l2, rfl, b2, z2, i2⟩ := shape_intsL h2
  obtain ⟨n3, l3, rfl, b3, z3, i3⟩ := shape_intsL h3
  obtain ⟨n4, l4, rfl, b4, z4, i4⟩ := shape_intsL h4
  exact ⟨⟨a, b, c, n1, l1, n2, l2, n3, l3, n4, l4⟩, by simp [sl], ⟨⟨b1, b2, b3, b4⟩, wf_i64 ha, wf_i64 hb, wf_i64 hc, i1, i2, i3, i4⟩, z1, z2, z3, z4⟩
theorem shape_matchL {r : List AV} (h : Shape tcMatch r) : ∃ m : RMatch, r = [uv m.sa, iv m.sl, uv m.da, iv m.dl, iv m.proto, iv m.sport, iv m.dport] ∧ m.fine ∧ i64 m.sl ∧ i64 m.dl ∧ i64 m.proto ∧ i64 m.sport ∧ i64 m.dport := by
  simp only [tcMatch, Shape, ShapeAll, tcI, tcU] at h
  obtain ⟨_, _, rfl, ⟨_, _, rfl, ⟨a, rfl, ha⟩, _, _, rfl, ⟨b, rfl, hb⟩, rfl⟩, _, _, rfl, ⟨_, _, rfl, ⟨c, rfl, hc⟩, _, _, rfl, ⟨d, rfl, hd⟩, rfl⟩, _, _, rfl, ⟨e, rfl, he⟩, _, _, rfl, ⟨f, rfl, hf⟩, _, _, rfl, ⟨g, rfl, hg⟩, rfl⟩ := h
  exact ⟨⟨a, b, c, d, e, f, g⟩, by simp, ⟨wf_u32 ha, wf_u32 hc⟩, wf_i64 hb, wf_i64 hd, wf_i64 he, wf_i64 hf, wf_i64 hg⟩
theorem shape_ruleL {r : List AV} (h : Shape tcRule r) : ∃ x : Rule, r = Enc.cells x ∧ x.arg := by
  simp only [tcRule, Shape, ShapeAll] at h
  obtain ⟨_, _, rfl, ⟨s, rfl, hs⟩, _, _, rfl, h1, _, _, rfl, h2, _, _, rfl, h3, _, _, rfl, ⟨b, rfl⟩, rfl⟩ := h
  simp only [tcI, Shape] at h1
  obtain ⟨p, rfl, hp⟩ := h1
  obtain ⟨m, rfl, hm, hms⟩ := shape_matchL (by simpa only [tcMatch, Shape] using h2)
  obtain ⟨w, rfl, hw, hz⟩ := shape_want2L (by simpa only [tcWant, Shape] using h3)
  obtain ⟨l, rfl⟩ := sv_of s
  exact ⟨⟨l, p, m, w, b⟩, by simp [Rule.cells_eq], ⟨by simpa [sv_size, reachBytes] using hs, wf_i64 hp, hm, hms, hw, hz⟩⟩
theorem shape_rules {a : AV} (h : ArgShape tcRules a) : ∃ (nl : Bool) (l : List Rule), a = .vec nl (rows l) l.length ∧ l.length * 208 ≤ 140737488351232 ∧ ∀ r ∈ l, r.arg := by
  simp only [tcRules, ArgShape, Shape] at h
  obtain ⟨nl, rs, h1, hn, hb, hr⟩ := h
  obtain ⟨l, rfl, hl⟩ := each_map fun r hr' => shape_ruleL (by simpa only [tcRule] using hr r hr')
  rw [rows_map] at h1
  simp only [List.cons.injEq, and_true, List.length_map] at h1
  exact ⟨nl, l, h1, by simpa [reachBytes] using hb, hl⟩
theorem shape_flow {a : AV} (h : ArgShape tcFlow a) : ∃ t : Flow, a = t.av ∧ t.fine := by
  simp only [tcFlow, ArgShape, Shape, ShapeAll, tcI, tcU] at h
  obtain ⟨_, rfl, _, _, rfl, ⟨a, rfl, ha⟩, _, _, rfl, ⟨b, rfl, hb⟩, _, _, rfl, ⟨c, rfl, hc⟩, _, _, rfl, ⟨d, rfl, hd⟩, _, _, rfl, ⟨e, rfl, he⟩, rfl⟩ := h
  exact ⟨⟨a, b, c, d, e⟩, by simp [Flow.av], wf_u32 ha, wf_u32 hb⟩
end Go.Proofs.Ytgahnhiidhkjaaa
end

section
/- The law SoundWrong of chapter 14 as a contract. -/
namespace Go.Proofs.Ytgahnhiidhkjaaa
open Go Abs
attribute [local irreducible] EX exL exG exC exCq exS exV exIf exGd exGq
set_option maxHeartbeats 4000000

def wk (k : Nat) : Rule := ⟨[UInt8.ofNat (97 + k)], 0, ⟨0, 0, 0, 0, 0, 0, 0⟩, ⟨0, 1, 0, true, [], true, [], true, [], true, []⟩, false⟩
def wks (i : Int) : List Rule := (List.range i.toNat).map wk
theorem wks_length (i : Int) : (wks i).length = i.toNat := by simp [wks]
theorem wks_succ {i : Int} (h0 : 0 ≤ i) : wks (i + 1) = wks i ++ [wk i.toNat] := by
  unfold wks
  rw [show (i + 1).toNat = i.toNat + 1 by omega, List.range_succ, List.map_append]
  rfl
theorem wk_name : ∀ i : Int, 0 ≤ i → i < 5 → (([97, 98, 99, 100, 101] : List UInt8).take (i + 1).toNat).drop i.toNat = (wk i.toNat).name := by
  intro i h0 h1
  have : i = 0 ∨ i = 1 ∨ i = 2 ∨ i = 3 ∨ i = 4 := by omega
  rcases this with rfl | rfl | rfl | rfl | rfl <;> rfl
def wrongR (which : Int) (r : Rule) : Rule :=
  if which = 0 then { r with name := [65] }
  else if which = 1 then { r with name := [] }
  else if which = 2 then { r with w := { r.w with dst := 3 } }
  else if which = 3 then { r with w := { r.w with viaNl := false, via := [-1] } }
  else if which = 4 then { r with w := { r.w with linksNl := false, links := [1] } }
  else if which = 5 then { r with w := { r.w with coloursNl := false, colours := [63] } }
  else if which = 6 then { r with pri := -1 }
  else if which = 7 then { r with m := { r.m with proto := 256 } }
  else if which = 8 then { r with m := { r.m with sl := 33 } }
  else { r with w := { r.w with viaNl := false, via := [0, 0, 0, 0, 0] } }
def wrongL (which a : Int) : List Rule := (wks 5).set a.toNat (wrongR which (wk a.toNat))
def g3 : Graph := ⟨3, false, [⟨0, 1, 1, 0⟩]⟩
def errK (which : Int) : Int := gi [3, 3, 4, 4, 5, 1, 1, 1, 1, 6] which
theorem wrong_check : ∀ w : Fin 10, ∀ a : Fin 5, checkR g3 (wrongL (w.val : Int) (a.val : Int)) = ((a.val : Int), errK (w.val : Int)) := by decide +kernel
theorem wrong_brief : ∀ w : Fin 10, ∀ a : Fin 5, ∀ r ∈ wrongL (w.val : Int) (a.val : Int), r.w.ok ∧ r.w.nils ∧ r.name.length ≤ 100 := by
  intro w a
  unfold Want.ok Want.nils
  revert w a
  decide +kernel
theorem wrongL_length (which a : Int) : (wrongL which a).length = 5 := by unfold wrongL; rw [List.length_set]; rfl
theorem rows5 : (rows (wks 5)).length = 85 := rfl
theorem gi_wks {a : Int} (h0 : 0 ≤ a) (h1 : a < 5) : gi (wks 5) a = wk a.toNat := by
  rw [gi_get (by rw [wks_length]; omega)]
  simp [wks]
theorem set_wks {which a : Int} {j : Nat} {c : AV} (h0 : 0 ≤ a) (h1 : a < 5) (hj : j < 17) (hc : Enc.cells (wrongR which (wk a.toNat)) = (Enc.cells (wk a.toNat)).set j c) : (rows (wks 5)).set (a.toNat * 17 + j) c = rows (wrongL which a) := by
  have hlt : a.toNat < (wks 5).length := by rw [wks_length]; omega
  unfold wrongL
  rw [rows_set _ _ _ hlt, hc]
  have h5 : (rows (wks 5)).length = 85 := rfl
  have hle : a.toNat * 17 + 17 ≤ 85 := by omega
  have hat := rows_at (wks 5) a.toNat hlt
  have hg : (wks 5)[a.toNat] = wk a.toNat := by rw [← gi_get hlt, gi_wks h0 h1]
  rw [hg] at hat
  have hcl : (Enc.cells (wk a.toNat)).length = 17 := Enc.len _
  rw [Rule.sz_eq]
  rw [Rule.sz_eq] at hat
  apply List.ext_getElem?
  intro k
  have hA : (List.take (a.toNat * 17) (rows (wks 5))).length = a.toNat * 17 := by rw [List.length_take]; omega
  have hB : (List.take (a.toNat * 17) (rows (wks 5)) ++ (Enc.cells (wk a.toNat)).set j c).length = a.toNat * 17 + 17 := by rw [List.length_append, hA, List.length_set, hcl]
  by_cases hk : k < a.toNat * 17
  · rw [List.getElem?_append_left (by omega), List.getElem?_append_left (by omega), List.getElem?_take, if_pos hk, List.getElem?_set_ne (by omega)]
  by_cases hk2 : k < a.toNat * 17 + 17
  · rw [List.getElem?_append_left (by omega), List.getElem?_append_right (by omega), hA]
    by_cases e : k = a.toNat * 17 + j
    · subst e
      rw [show a.toNat * 17 + j - a.toNat * 17 = j by omega, List.getElem?_set_self (by omega), List.getElem?_set_self (by omega)]
    · rw [List.getElem?_set_ne (by omega), List.getElem?_set_ne (by omega), ← hat, List.getElem?_take, if_pos (by omega), List.getElem?_drop, show a.toNat * 17 + (k - a.toNat * 17) = k by omega]
  · rw [List.getElem?_set_ne (by omega), List.getElem?_append_right (by omega), hB, List.getElem?_drop, show a.toNat * 17 + 17 + (k - (a.toNat * 17 + 17)) = k by omega]
set_option maxHeartbeats 40000000 in
theorem soundWrong_c (which at_ : Int) (H : AHeap) : APure Try.prog 11 [iv which, iv at_] H (bv true) := by
  intro Q h
  refine ACalls.of_code fn_waymarklaw14_SoundWrong ?_
  simp -implicitDefEqProofs only [sc_waymarklaw14_SoundWrong, go_sem, Nat.reduceEqDiff, Nat.reduceAdd, Nat.reduceMul, Nat.reduceLeDiff, Nat.reduceSub, Nat.reduceLT, Nat.reduceBEq, Int.reduceToNat, reduceCtorEq, ↓reduceIte, Int.reduceEq, Int.reduceNeg, Int.reduceLT, Int.reduceLE, Int.reduceAdd, Int.reduceSub, Int.reduceMul]
  repeat' (first | simp -implicitDefEqProofs only [go_sem, Nat.reduceEqDiff, Nat.reduceAdd, Nat.reduceMul, Nat.reduceLeDiff, Nat.reduceSub, Nat.reduceLT, Nat.reduceBEq, Int.reduceToNat, reduceCtorEq, ↓reduceIte, Int.reduceEq, Int.reduceNeg, Int.reduceLT, Int.reduceLE, Int.reduceAdd, Int.reduceSub, Int.reduceMul] | simp -implicitDefEqProofs (disch := omega) only [iaq_vec, iao_arr, iaq_raw, rd_map, wrap_id, binq_quo, binq_rem, binq_shl, binq_shr, tdiv_pos, tmod_pos, if_pos, exV_some, Option.map_some] | ((first | with_reducible apply exIf_dec | ((with_reducible apply exGd_dec); focus exact rfl) | ((with_reducible apply exGq_dec); focus exact rfl) | with_reducible apply exIf_intro | ((with_reducible apply exGd_intro); focus exact rfl) | ((with_reducible apply exGq_intro); focus exact rfl)) <;> intro _) | with_reducible refine exC_pure (alive14_c _) ?_ | with_reducible refine exCq_pure (alive14_c _) ?_)
  all_goals first | exact h | skip
  refine exL_mod (fun i : Int => [(7, .own 47), (8, .v (iv i))]) (fun i => [(47, .arr (wks i).isEmpty (rows (wks i)) (wks i).length 36 17)]) (fun i => 0 ≤ i ∧ i ≤ 5) (fun i => (5 - i).toNat) 0 rfl ⟨by omega, by omega⟩ ?_
  rintro i ⟨i0, i1⟩ ih
  simp only [S.up, S.upH, ups, Abs.put, Nat.reduceEqDiff, ↓reduceIte, Nat.reduceAdd] at ih
  simp -implicitDefEqProofs only [congrArg KI.code sc_waymarklaw14_SoundWrong_L0.eq_1, go_sem, Nat.reduceEqDiff, Nat.reduceAdd, Nat.reduceMul, Nat.reduceLeDiff, Nat.reduceSub, Nat.reduceLT, Nat.reduceBEq, Int.reduceToNat, reduceCtorEq, ↓reduceIte, Int.reduceEq, Int.reduceNeg, Int.reduceLT, Int.reduceLE, Int.reduceAdd, Int.reduceSub, Int.reduceMul]
  by_cases hi : i < 5
  · have nx := ih (i + 1) ⟨by omega, by omega⟩ (by omega)
    rw [wks_succ i0] at nx
    have hwl := wks_length i
    have hs1 : (0 ≤ i ∧ i ≤ i + 1 ∧ i + 1 ≤ 5) := ⟨i0, by omega, by omega⟩
    clear ih
    repeat' (first | simp -implicitDefEqProofs only [go_sem, Nat.reduceEqDiff, Nat.reduceAdd, Nat.reduceMul, Nat.reduceLeDiff, Nat.reduceSub, Nat.reduceLT, Nat.reduceBEq, Int.reduceToNat, reduceCtorEq, ↓reduceIte, Int.reduceEq, Int.reduceNeg, Int.reduceLT, Int.reduceLE, Int.reduceAdd, Int.reduceSub, Int.reduceMul] | simp -implicitDefEqProofs (disch := omega) only [iaq_vec, iao_arr, iaq_raw, rd_map, wrap_id, binq_quo, binq_rem, binq_shl, binq_shr, tdiv_pos, tmod_pos, if_pos, exV_some, Option.map_some] | ((first | with_reducible apply exIf_dec | ((with_reducible apply exGd_dec); focus exact rfl) | ((with_reducible apply exGq_dec); focus exact rfl) | with_reducible apply exIf_intro | ((with_reducible apply exGd_intro); focus exact rfl) | ((with_reducible apply exGq_intro); focus exact rfl)) <;> intro _))
    all_goals first | exact nx | (exfalso; omega) | skip
    refine exS_rows (wk i.toNat) rfl rfl ?_ (by omega) (by simp only [maxLen]; omega) ?_
    · have hn := wk_name i i0 hi
      show _ = [sv (wk i.toNat).name, _, _, _, _, _, _, _, _, _, _, _, _, _, _, _, _]
      rw [← hn]
      rfl
    repeat' (first | simp -implicitDefEqProofs only [go_sem, Nat.reduceEqDiff, Nat.reduceAdd, Nat.reduceMul, Nat.reduceLeDiff, Nat.reduceSub, Nat.reduceLT, Nat.reduceBEq, Int.reduceToNat, reduceCtorEq, ↓reduceIte, Int.reduceEq, Int.reduceNeg, Int.reduceLT, Int.reduceLE, Int.reduceAdd, Int.reduceSub, Int.reduceMul] | simp -implicitDefEqProofs (disch := omega) only [iaq_vec, iao_arr, iaq_raw, rd_map, wrap_id, binq_quo, binq_rem, binq_shl, binq_shr, tdiv_pos, tmod_pos, if_pos, exV_some, Option.map_some] | ((first | with_reducible apply exIf_dec | ((with_reducible apply exGd_dec); focus exact rfl) | ((with_reducible apply exGq_dec); focus exact rfl) | with_reducible apply exIf_intro | ((with_reducible apply exGd_intro); focus exact rfl) | ((with_reducible apply exGq_intro); focus exact rfl)) <;> intro _))
    all_goals first | exact nx | (exfalso; omega) | skip
    done
  · obtain rfl : i = 5 := by omega
    clear ih
    repeat' (first | simp -implicitDefEqProofs only [go_sem, Nat.reduceEqDiff, Nat.reduceAdd, Nat.reduceMul, Nat.reduceLeDiff, Nat.reduceSub, Nat.reduceLT, Nat.reduceBEq, Int.reduceToNat, reduceCtorEq, ↓reduceIte, Int.reduceEq, Int.reduceNeg, Int.reduceLT, Int.reduceLE, Int.reduceAdd, Int.reduceSub, Int.reduceMul] | simp -implicitDefEqProofs (disch := omega) only [iaq_vec, iao_arr, iaq_raw, rd_map, wrap_id, binq_quo, binq_rem, binq_shl, binq_shr, tdiv_pos, tmod_pos, if_pos, exV_some, Option.map_some] | ((first | with_reducible apply exIf_dec | ((with_reducible apply exGd_dec); focus exact rfl) | ((with_reducible apply exGq_dec); focus exact rfl) | with_reducible apply exIf_intro | ((with_reducible apply exGd_intro); focus exact rfl) | ((with_reducible apply exGq_intro); focus exact rfl)) <;> intro _))
    all_goals first | (exfalso; omega) | skip
    have hw5 : (wks 5).length = 5 := rfl
    have hfin : ∀ w : Fin 10, ∀ a : Fin 5, which = (w.val : Int) → at_ = (a.val : Int) → (∀ H, APure Try.prog 38 [.agg [iv 3, .vec false [iv 0, iv 1, iv 1, iv 0] 1], .vec (wks 5).isEmpty (rows (wrongL which at_)) (wks 5).length] H (.tup [iv at_, iv (errK which)])) := by
      rintro w a rfl rfl H
      have := soundCheck_c g3 (wks 5).isEmpty (wrongL (w.val : Int) (a.val : Int)) (by rw [wrongL_length]; omega) (wrong_brief w a) H
      rw [wrong_check w a, wrongL_length] at this
      exact this
    have hck := fun H => hfin ⟨which.toNat, by omega⟩ ⟨at_.toNat, by omega⟩ (by simp; omega) (by simp; omega) H
    clear hfin
    have hall : which = 0 ∨ which = 1 ∨ which = 2 ∨ which = 3 ∨ which = 4 ∨ which = 5 ∨ which = 6 ∨ which = 7 ∨ which = 8 ∨ which = 9 := by omega
    rcases hall with rfl | rfl | rfl | rfl | rfl | rfl | rfl | rfl | rfl | rfl
    · have hst : (rows (wks 5)).set (at_.toNat * 17 + 0) (sv [65]) = rows (wrongL 0 at_) := set_wks (j := 0) (by omega) (by omega) (by decide) rfl
      have he : errK 0 = 3 := rfl
      rw [he] at hck
      repeat' (first | simp -implicitDefEqProofs only [go_sem, Nat.reduceEqDiff, Nat.reduceAdd, Nat.reduceMul, Nat.reduceLeDiff, Nat.reduceSub, Nat.reduceLT, Nat.reduceBEq, Int.reduceToNat, reduceCtorEq, ↓reduceIte, Int.reduceEq, Int.reduceNeg, Int.reduceLT, Int.reduceLE, Int.reduceAdd, Int.reduceSub, Int.reduceMul] | simp -implicitDefEqProofs (disch := omega) only [iao_arr, rows5, iaq_vec, iao_arr, iaq_raw, rd_map, wrap_id, binq_quo, binq_rem, binq_shl, binq_shr, tdiv_pos, tmod_pos, if_pos, exV_some, Option.map_some] | ((first | with_reducible apply exIf_dec | ((with_reducible apply exGd_dec); focus exact rfl) | ((with_reducible apply exGq_dec); focus exact rfl) | with_reducible apply exIf_intro | ((with_reducible apply exGd_intro); focus exact rfl) | ((with_reducible apply exGq_intro); focus exact rfl)) <;> intro _))
      all_goals first | (exfalso; omega) | skip
      repeat' (first | simp -implicitDefEqProofs only [go_sem, Nat.reduceEqDiff, Nat.reduceAdd, Nat.reduceMul, Nat.reduceLeDiff, Nat.reduceSub, Nat.reduceLT, Nat.reduceBEq, Int.reduceToNat, reduceCtorEq, ↓reduceIte, Int.reduceEq, Int.reduceNeg, Int.reduceLT, Int.reduceLE, Int.reduceAdd, Int.reduceSub, Int.reduceMul] | simp -implicitDefEqProofs (disch := omega) only [iao_arr, rows5, hst, iaq_vec, iao_arr, iaq_raw, rd_map, wrap_id, binq_quo, binq_rem, binq_shl, binq_shr, tdiv_pos, tmod_pos, if_pos, exV_some, Option.map_some] | ((first | with_reducible apply exIf_dec | ((with_reducible apply exGd_dec); focus exact rfl) | ((with_reducible apply exGq_dec); focus exact rfl) | with_reducible apply exIf_intro | ((with_reducible apply exGd_intro); focus exact rfl) | ((with_reducible apply exGq_intro); focus exact rfl)) <;> intro _) | with_reducible refine exC_pure (hck _) ?_ | with_reducible refine exCq_pure (hck _) ?_ | with_reducible refine exC_pure (num14_c _ _) ?_ | with_reducible refine exCq_pure (num14_c _ _) ?_)
      all_goals first | exact h | (exfalso; omega) | skip
      done
    · have hst : (rows (wks 5)).set (at_.toNat * 17 + 0) (sv []) = rows (wrongL 1 at_) := set_wks (j := 0) (by omega) (by omega) (by decide) rfl
      have he : errK 1 = 3 := rfl
      rw [he] at hck
      repeat' (first | simp -implicitDefEqProofs only [go_sem, Nat.reduceEqDiff, Nat.reduceAdd, Nat.reduceMul, Nat.reduceLeDiff, Nat.reduceSub, Nat.reduceLT, Nat.reduceBEq, Int.reduceToNat, reduceCtorEq, ↓reduceIte, Int.reduceEq, Int.reduceNeg, Int.reduceLT, Int.reduceLE, Int.reduceAdd, Int.reduceSub, Int.reduceMul] | simp -implicitDefEqProofs (disch := omega) only [iao_arr, rows5, iaq_vec, iao_arr, iaq_raw, rd_map, wrap_id, binq_quo, binq_rem, binq_shl, binq_shr, tdiv_pos, tmod_pos, if_pos, exV_some, Option.map_some] | ((first | with_reducible apply exIf_dec | ((with_reducible apply exGd_dec); focus exact rfl) | ((with_reducible apply exGq_dec); focus exact rfl) | with_reducible apply exIf_intro | ((with_reducible apply exGd_intro); focus exact rfl) | ((with_reducible apply exGq_intro); focus exact rfl)) <;> intro _))
      all_goals first | (exfalso; omega) | skip
      repeat' (first | simp -implicitDefEqProofs only [go_sem, Nat.reduceEqDiff, Nat.reduceAdd, Nat.reduceMul, Nat.reduceLeDiff, Nat.reduceSub, Nat.reduceLT, Nat.reduceBEq, Int.reduceToNat, reduceCtorEq, ↓reduceIte, Int.reduceEq, Int.reduceNeg, Int.reduceLT, Int.reduceLE, Int.reduceAdd, Int.reduceSub, Int.reduceMul] | simp -implicitDefEqProofs (disch := omega) only [iao_arr, rows5, hst, iaq_vec, iao_arr, iaq_raw, rd_map, wrap_id, binq_quo, binq_rem, binq_shl, binq_shr, tdiv_pos, tmod_pos, if_pos, exV_some, Option.map_some] | ((first | with_reducible apply exIf_dec | ((with_reducible apply exGd_dec); focus exact rfl) | ((with_reducible apply exGq_dec); focus exact rfl) | with_reducible apply exIf_intro | ((with_reducible apply exGd_intro); focus exact rfl) | ((with_reducible apply exGq_intro); focus exact rfl)) <;> intro _) | with_reducible refine exC_pure (hck _) ?_ | with_reducible refine exCq_pure (hck _) ?_ | with_reducible refine exC_pure (num14_c _ _) ?_ | with_reducible refine exCq_pure (num14_c _ _) ?_)
      all_goals first | exact h | (exfalso; omega) | skip
      done
    · have hst : (rows (wks 5)).set (at_.toNat * 17 + 9 + 1) (iv 3) = rows (wrongL 2 at_) := set_wks (j := 9 + 1) (by omega) (by omega) (by decide) rfl
      have he : errK 2 = 4 := rfl
      rw [he] at hck
      repeat' (first | simp -implicitDefEqProofs only [go_sem, Nat.reduceEqDiff, Nat.reduceAdd, Nat.reduceMul, Nat.reduceLeDiff, Nat.reduceSub, Nat.reduceLT, Nat.reduceBEq, Int.reduceToNat, reduceCtorEq, ↓reduceIte, Int.reduceEq, Int.reduceNeg, Int.reduceLT, Int.reduceLE, Int.reduceAdd, Int.reduceSub, Int.reduceMul] | simp -implicitDefEqProofs (disch := omega) only [iao_arr, rows5, iaq_vec, iao_arr, iaq_raw, rd_map, wrap_id, binq_quo, binq_rem, binq_shl, binq_shr, tdiv_pos, tmod_pos, if_pos, exV_some, Option.map_some] | ((first | with_reducible apply exIf_dec | ((with_reducible apply exGd_dec); focus exact rfl) | ((with_reducible apply exGq_dec); focus exact rfl) | with_reducible apply exIf_intro | ((with_reducible apply exGd_intro); focus exact rfl) | ((with_reducible apply exGq_intro); focus exact rfl)) <;> intro _))
      all_goals first | (exfalso; omega) | skip
      repeat' (first | simp -implicitDefEqProofs only [go_sem, Nat.reduceEqDiff, Nat.reduceAdd, Nat.reduceMul, Nat.reduceLeDiff, Nat.reduceSub, Nat.reduceLT, Nat.reduceBEq, Int.reduceToNat, reduceCtorEq, ↓reduceIte, Int.reduceEq, Int.reduceNeg, Int.reduceLT, Int.reduceLE, Int.reduceAdd, Int.reduceSub, Int.reduceMul] | simp -implicitDefEqProofs (disch := omega) only [iao_arr, rows5, hst, iaq_vec, iao_arr, iaq_raw, rd_map, wrap_id, binq_quo, binq_rem, binq_shl, binq_shr, tdiv_pos, tmod_pos, if_pos, exV_some, Option.map_some] | ((first | with_reducible apply exIf_dec | ((with_reducible apply exGd_dec); focus exact rfl) | ((with_reducible apply exGq_dec); focus exact rfl) | with_reducible apply exIf_intro | ((with_reducible apply exGd_intro); focus exact rfl) | ((with_reducible apply exGq_intro); focus exact rfl)) <;> intro _) | with_reducible refine exC_pure (hck _) ?_ | with_reducible refine exCq_pure (hck _) ?_ | with_reducible refine exC_pure (num14_c _ _) ?_ | with_reducible refine exCq_pure (num14_c _ _) ?_)
      all_goals first | exact h | (exfalso; omega) | skip
      done
    · have hst : (rows (wks 5)).set (at_.toNat * 17 + 9 + 3) (.vec false [iv (-1)] 1) = rows (wrongL 3 at_) := set_wks (j := 9 + 3) (by omega) (by omega) (by decide) rfl
      have he : errK 3 = 4 := rfl
      rw [he] at hck
      repeat' (first | simp -implicitDefEqProofs only [go_sem, Nat.reduceEqDiff, Nat.reduceAdd, Nat.reduceMul, Nat.reduceLeDiff, Nat.reduceSub, Nat.reduceLT, Nat.reduceBEq, Int.reduceToNat, reduceCtorEq, ↓reduceIte, Int.reduceEq, Int.reduceNeg, Int.reduceLT, Int.reduceLE, Int.reduceAdd, Int.reduceSub, Int.reduceMul] | simp -implicitDefEqProofs (disch := omega) only [iao_arr, rows5, iaq_vec, iao_arr, iaq_raw, rd_map, wrap_id, binq_quo, binq_rem, binq_shl, binq_shr, tdiv_pos, tmod_pos, if_pos, exV_some, Option.map_some] | ((first | with_reducible apply exIf_dec | ((with_reducible apply exGd_dec); focus exact rfl) | ((with_reducible apply exGq_dec); focus exact rfl) | with_reducible apply exIf_intro | ((with_reducible apply exGd_intro); focus exact rfl) | ((with_reducible apply exGq_intro); focus exact rfl)) <;> intro _))
      all_goals first | (exfalso; omega) | skip
      repeat' (first | simp -implicitDefEqProofs only [go_sem, Nat.reduceEqDiff, Nat.reduceAdd, Nat.reduceMul, Nat.reduceLeDiff, Nat.reduceSub, Nat.reduceLT, Nat.reduceBEq, Int.reduceToNat, reduceCtorEq, ↓reduceIte, Int.reduceEq, Int.reduceNeg, Int.reduceLT, Int.reduceLE, Int.reduceAdd, Int.reduceSub, Int.reduceMul] | simp -implicitDefEqProofs (disch := omega) only [iao_arr, rows5, hst, iaq_vec, iao_arr, iaq_raw, rd_map, wrap_id, binq_quo, binq_rem, binq_shl, binq_shr, tdiv_pos, tmod_pos, if_pos, exV_some, Option.map_some] | ((first | with_reducible apply exIf_dec | ((with_reducible apply exGd_dec); focus exact rfl) | ((with_reducible apply exGq_dec); focus exact rfl) | with_reducible apply exIf_intro | ((with_reducible apply exGd_intro); focus exact rfl) | ((with_reducible apply exGq_intro); focus exact rfl)) <;> intro _) | with_reducible refine exC_pure (hck _) ?_ | with_reducible refine exCq_pure (hck _) ?_ | with_reducible refine exC_pure (num14_c _ _) ?_ | with_reducible refine exCq_pure (num14_c _ _) ?_)
      all_goals first | exact h | (exfalso; omega) | skip
      done
    · have hst : (rows (wks 5)).set (at_.toNat * 17 + 9 + 5) (.vec false [iv 1] 1) = rows (wrongL 4 at_) := set_wks (j := 9 + 5) (by omega) (by omega) (by decide) rfl
      have he : errK 4 = 5 := rfl
      rw [he] at hck
      repeat' (first | simp -implicitDefEqProofs only [go_sem, Nat.reduceEqDiff, Nat.reduceAdd, Nat.reduceMul, Nat.reduceLeDiff, Nat.reduceSub, Nat.reduceLT, Nat.reduceBEq, Int.reduceToNat, reduceCtorEq, ↓reduceIte, Int.reduceEq, Int.reduceNeg, Int.reduceLT, Int.reduceLE, Int.reduceAdd, Int.reduceSub, Int.reduceMul] | simp -implicitDefEqProofs (disch := omega) only [iao_arr, rows5, iaq_vec, iao_arr, iaq_raw, rd_map, wrap_id, binq_quo, binq_rem, binq_shl, binq_shr, tdiv_pos, tmod_pos, if_pos, exV_some, Option.map_some] | ((first | with_reducible apply exIf_dec | ((with_reducible apply exGd_dec); focus exact rfl) | ((with_reducible apply exGq_dec); focus exact rfl) | with_reducible apply exIf_intro | ((with_reducible apply exGd_intro); focus exact rfl) | ((with_reducible apply exGq_intro); focus exact rfl)) <;> intro _))
      all_goals first | (exfalso; omega) | skip
      repeat' (first | simp -implicitDefEqProofs only [go_sem, Nat.reduceEqDiff, Nat.reduceAdd, Nat.reduceMul, Nat.reduceLeDiff, Nat.reduceSub, Nat.reduceLT, Nat.reduceBEq, Int.reduceToNat, reduceCtorEq, ↓reduceIte, Int.reduceEq, Int.reduceNeg, Int.reduceLT, Int.reduceLE, Int.reduceAdd, Int.reduceSub, Int.reduceMul] | simp -implicitDefEqProofs (disch := omega) only [iao_arr, rows5, hst, iaq_vec, iao_arr, iaq_raw, rd_map, wrap_id, binq_quo, binq_rem, binq_shl, binq_shr, tdiv_pos, tmod_pos, if_pos, exV_some, Option.map_some] | ((first | with_reducible apply exIf_dec | ((with_reducible apply exGd_dec); focus exact rfl) | ((with_reducible apply exGq_dec); focus exact rfl) | with_reducible apply exIf_intro | ((with_reducible apply exGd_intro); focus exact rfl) | ((with_reducible apply exGq_intro); focus exact rfl)) <;> intro _) | with_reducible refine exC_pure (hck _) ?_ | with_reducible refine exCq_pure (hck _) ?_ | with_reducible refine exC_pure (num14_c _ _) ?_ | with_reducible refine exCq_pure (num14_c _ _) ?_)
      all_goals first | exact h | (exfalso; omega) | skip
      done
    · have hst : (rows (wks 5)).set (at_.toNat * 17 + 9 + 6) (.vec false [iv 63] 1) = rows (wrongL 5 at_) := set_wks (j := 9 + 6) (by omega) (by omega) (by decide) rfl
      have he : errK 5 = 1 := rfl
      rw [he] at hck
      repeat' (first | simp -implicitDefEqProofs only [go_sem, Nat.reduceEqDiff, Nat.reduceAdd, Nat.reduceMul, Nat.reduceLeDiff, Nat.reduceSub, Nat.reduceLT, Nat.reduceBEq, Int.reduceToNat, reduceCtorEq, ↓reduceIte, Int.reduceEq, Int.reduceNeg, Int.reduceLT, Int.reduceLE, Int.reduceAdd, Int.reduceSub, Int.reduceMul] | simp -implicitDefEqProofs (disch := omega) only [iao_arr, rows5, iaq_vec, iao_arr, iaq_raw, rd_map, wrap_id, binq_quo, binq_rem, binq_shl, binq_shr, tdiv_pos, tmod_pos, if_pos, exV_some, Option.map_some] | ((first | with_reducible apply exIf_dec | ((with_reducible apply exGd_dec); focus exact rfl) | ((with_reducible apply exGq_dec); focus exact rfl) | with_reducible apply exIf_intro | ((with_reducible apply exGd_intro); focus exact rfl) | ((with_reducible apply exGq_intro); focus exact rfl)) <;> intro _))
      all_goals first | (exfalso; omega) | skip
      repeat' (first | simp -implicitDefEqProofs only [go_sem, Nat.reduceEqDiff, Nat.reduceAdd, Nat.reduceMul, Nat.reduceLeDiff, Nat.reduceSub, Nat.reduceLT, Nat.reduceBEq, Int.reduceToNat, reduceCtorEq, ↓reduceIte, Int.reduceEq, Int.reduceNeg, Int.reduceLT, Int.reduceLE, Int.reduceAdd, Int.reduceSub, Int.reduceMul] | simp -implicitDefEqProofs (disch := omega) only [iao_arr, rows5, hst, iaq_vec, iao_arr, iaq_raw, rd_map, wrap_id, binq_quo, binq_rem, binq_shl, binq_shr, tdiv_pos, tmod_pos, if_pos, exV_some, Option.map_some] | ((first | with_reducible apply exIf_dec | ((with_reducible apply exGd_dec); focus exact rfl) | ((with_reducible apply exGq_dec); focus exact rfl) | with_reducible apply exIf_intro | ((with_reducible apply exGd_intro); focus exact rfl) | ((with_reducible apply exGq_intro); focus exact rfl)) <;> intro _) | with_reducible refine exC_pure (hck _) ?_ | with_reducible refine exCq_pure (hck _) ?_ | with_reducible refine exC_pure (num14_c _ _) ?_ | with_reducible refine exCq_pure (num14_c _ _) ?_)
      all_goals first | exact h | (exfalso; omega) | skip
      done
    · have hst : (rows (wks 5)).set (at_.toNat * 17 + 1) (iv (-1)) = rows (wrongL 6 at_) := set_wks (j := 1) (by omega) (by omega) (by decide) rfl
      have he : errK 6 = 1 := rfl
      rw [he] at hck
      repeat' (first | simp -implicitDefEqProofs only [go_sem, Nat.reduceEqDiff, Nat.reduceAdd, Nat.reduceMul, Nat.reduceLeDiff, Nat.reduceSub, Nat.reduceLT, Nat.reduceBEq, Int.reduceToNat, reduceCtorEq, ↓reduceIte, Int.reduceEq, Int.reduceNeg, Int.reduceLT, Int.reduceLE, Int.reduceAdd, Int.reduceSub, Int.reduceMul] | simp -implicitDefEqProofs (disch := omega) only [iao_arr, rows5, iaq_vec, iao_arr, iaq_raw, rd_map, wrap_id, binq_quo, binq_rem, binq_shl, binq_shr, tdiv_pos, tmod_pos, if_pos, exV_some, Option.map_some] | ((first | with_reducible apply exIf_dec | ((with_reducible apply exGd_dec); focus exact rfl) | ((with_reducible apply exGq_dec); focus exact rfl) | with_reducible apply exIf_intro | ((with_reducible apply exGd_intro); focus exact rfl) | ((with_reducible apply exGq_intro); focus exact rfl)) <;> intro _))
      all_goals first | (exfalso; omega) | skip
      repeat' (first | simp -implicitDefEqProofs only [go_sem, Nat.reduceEqDiff, Nat.reduceAdd, Nat.reduceMul, Nat.reduceLeDiff, Nat.reduceSub, Nat.reduceLT, Nat.reduceBEq, Int.reduceToNat, reduceCtorEq, ↓reduceIte, Int.reduceEq, Int.reduceNeg, Int.reduceLT, Int.reduceLE, Int.reduceAdd, Int.reduceSub, Int.reduceMul] | simp -implicitDefEqProofs (disch := omega) only [iao_arr, rows5, hst, iaq_vec, iao_arr, iaq_raw, rd_map, wrap_id, binq_quo, binq_rem, binq_shl, binq_shr, tdiv_pos, tmod_pos, if_pos, exV_some, Option.map_some] | ((first | with_reducible apply exIf_dec | ((with_reducible apply exGd_dec); focus exact rfl) | ((with_reducible apply exGq_dec); focus exact rfl) | with_reducible apply exIf_intro | ((with_reducible apply exGd_intro); focus exact rfl) | ((with_reducible apply exGq_intro); focus exact rfl)) <;> intro _) | with_reducible refine exC_pure (hck _) ?_ | with_reducible refine exCq_pure (hck _) ?_ | with_reducible refine exC_pure (num14_c _ _) ?_ | with_reducible refine exCq_pure (num14_c _ _) ?_)
      all_goals first | exact h | (exfalso; omega) | skip
      done
    · have hst : (rows (wks 5)).set (at_.toNat * 17 + 2 + 4) (iv 256) = rows (wrongL 7 at_) := set_wks (j := 2 + 4) (by omega) (by omega) (by decide) rfl
      have he : errK 7 = 1 := rfl
      rw [he] at hck
      repeat' (first | simp -implicitDefEqProofs only [go_sem, Nat.reduceEqDiff, Nat.reduceAdd, Nat.reduceMul, Nat.reduceLeDiff, Nat.reduceSub, Nat.reduceLT, Nat.reduceBEq, Int.reduceToNat, reduceCtorEq, ↓reduceIte, Int.reduceEq, Int.reduceNeg, Int.reduceLT, Int.reduceLE, Int.reduceAdd, Int.reduceSub, Int.reduceMul] | simp -implicitDefEqProofs (disch := omega) only [iao_arr, rows5, iaq_vec, iao_arr, iaq_raw, rd_map, wrap_id, binq_quo, binq_rem, binq_shl, binq_shr, tdiv_pos, tmod_pos, if_pos, exV_some, Option.map_some] | ((first | with_reducible apply exIf_dec | ((with_reducible apply exGd_dec); focus exact rfl) | ((with_reducible apply exGq_dec); focus exact rfl) | with_reducible apply exIf_intro | ((with_reducible apply exGd_intro); focus exact rfl) | ((with_reducible apply exGq_intro); focus exact rfl)) <;> intro _))
      all_goals first | (exfalso; omega) | skip
      repeat' (first | simp -implicitDefEqProofs only [go_sem, Nat.reduceEqDiff, Nat.reduceAdd, Nat.reduceMul, Nat.reduceLeDiff, Nat.reduceSub, Nat.reduceLT, Nat.reduceBEq, Int.reduceToNat, reduceCtorEq, ↓reduceIte, Int.reduceEq, Int.reduceNeg, Int.reduceLT, Int.reduceLE, Int.reduceAdd, Int.reduceSub, Int.reduceMul] | simp -implicitDefEqProofs (disch := omega) only [iao_arr, rows5, hst, iaq_vec, iao_arr, iaq_raw, rd_map, wrap_id, binq_quo, binq_rem, binq_shl, binq_shr, tdiv_pos, tmod_pos, if_pos, exV_some, Option.map_some] | ((first | with_reducible apply exIf_dec | ((with_reducible apply exGd_dec); focus exact rfl) | ((with_reducible apply exGq_dec); focus exact rfl) | with_reducible apply exIf_intro | ((with_reducible apply exGd_intro); focus exact rfl) | ((with_reducible apply exGq_intro); focus exact rfl)) <;> intro _) | with_reducible refine exC_pure (hck _) ?_ | with_reducible refine exCq_pure (hck _) ?_ | with_reducible refine exC_pure (num14_c _ _) ?_ | with_reducible refine exCq_pure (num14_c _ _) ?_)
      all_goals first | exact h | (exfalso; omega) | skip
      done
    · have hst : (rows (wks 5)).set (at_.toNat * 17 + 2 + 0 + 1) (iv 33) = rows (wrongL 8 at_) := set_wks (j := 2 + 0 + 1) (by omega) (by omega) (by decide) rfl
      have he : errK 8 = 1 := rfl
      rw [he] at hck
      repeat' (first | simp -implicitDefEqProofs only [go_sem, Nat.reduceEqDiff, Nat.reduceAdd, Nat.reduceMul, Nat.reduceLeDiff, Nat.reduceSub, Nat.reduceLT, Nat.reduceBEq, Int.reduceToNat, reduceCtorEq, ↓reduceIte, Int.reduceEq, Int.reduceNeg, Int.reduceLT, Int.reduceLE, Int.reduceAdd, Int.reduceSub, Int.reduceMul] | simp -implicitDefEqProofs (disch := omega) only [iao_arr, rows5, iaq_vec, iao_arr, iaq_raw, rd_map, wrap_id, binq_quo, binq_rem, binq_shl, binq_shr, tdiv_pos, tmod_pos, if_pos, exV_some, Option.map_some] | ((first | with_reducible apply exIf_dec | ((with_reducible apply exGd_dec); focus exact rfl) | ((with_reducible apply exGq_dec); focus exact rfl) | with_reducible apply exIf_intro | ((with_reducible apply exGd_intro); focus exact rfl) | ((with_reducible apply exGq_intro); focus exact rfl)) <;> intro _))
      all_goals first | (exfalso; omega) | skip
      repeat' (first | simp -implicitDefEqProofs only [go_sem, Nat.reduceEqDiff, Nat.reduceAdd, Nat.reduceMul, Nat.reduceLeDiff, Nat.reduceSub, Nat.reduceLT, Nat.reduceBEq, Int.reduceToNat, reduceCtorEq, ↓reduceIte, Int.reduceEq, Int.reduceNeg, Int.reduceLT, Int.reduceLE, Int.reduceAdd, Int.reduceSub, Int.reduceMul] | simp -implicitDefEqProofs (disch := omega) only [iao_arr, rows5, hst, iaq_vec, iao_arr, iaq_raw, rd_map, wrap_id, binq_quo, binq_rem, binq_shl, binq_shr, tdiv_pos, tmod_pos, if_pos, exV_some, Option.map_some] | ((first | with_reducible apply exIf_dec | ((with_reducible apply exGd_dec); focus exact rfl) | ((with_reducible apply exGq_dec); focus exact rfl) | with_reducible apply exIf_intro | ((with_reducible apply exGd_intro); focus exact rfl) | ((with_reducible apply exGq_intro); focus exact rfl)) <;> intro _) | with_reducible refine exC_pure (hck _) ?_ | with_reducible refine exCq_pure (hck _) ?_ | with_reducible refine exC_pure (num14_c _ _) ?_ | with_reducible refine exCq_pure (num14_c _ _) ?_)
      all_goals first | exact h | (exfalso; omega) | skip
      done
    · have hst : (rows (wks 5)).set (at_.toNat * 17 + 9 + 3) (.vec false (List.replicate 5 (iv 0)) 5) = rows (wrongL 9 at_) := set_wks (j := 9 + 3) (by omega) (by omega) (by decide) rfl
      have he : errK 9 = 6 := rfl
      rw [he] at hck
      repeat' (first | simp -implicitDefEqProofs only [go_sem, Nat.reduceEqDiff, Nat.reduceAdd, Nat.reduceMul, Nat.reduceLeDiff, Nat.reduceSub, Nat.reduceLT, Nat.reduceBEq, Int.reduceToNat, reduceCtorEq, ↓reduceIte, Int.reduceEq, Int.reduceNeg, Int.reduceLT, Int.reduceLE, Int.reduceAdd, Int.reduceSub, Int.reduceMul] | simp -implicitDefEqProofs (disch := omega) only [iao_arr, rows5, iaq_vec, iao_arr, iaq_raw, rd_map, wrap_id, binq_quo, binq_rem, binq_shl, binq_shr, tdiv_pos, tmod_pos, if_pos, exV_some, Option.map_some] | ((first | with_reducible apply exIf_dec | ((with_reducible apply exGd_dec); focus exact rfl) | ((with_reducible apply exGq_dec); focus exact rfl) | with_reducible apply exIf_intro | ((with_reducible apply exGd_intro); focus exact rfl) | ((with_reducible apply exGq_intro); focus exact rfl)) <;> intro _))
      all_goals first | (exfalso; omega) | skip
      refine exMk_int (by omega) (by omega) (by simp only [maxLen]; omega) rfl ?_
      rw [zrep_one]
      repeat' (first | simp -implicitDefEqProofs only [go_sem, Nat.reduceEqDiff, Nat.reduceAdd, Nat.reduceMul, Nat.reduceLeDiff, Nat.reduceSub, Nat.reduceLT, Nat.reduceBEq, Int.reduceToNat, reduceCtorEq, ↓reduceIte, Int.reduceEq, Int.reduceNeg, Int.reduceLT, Int.reduceLE, Int.reduceAdd, Int.reduceSub, Int.reduceMul] | simp -implicitDefEqProofs (disch := omega) only [iao_arr, rows5, hst, iaq_vec, iao_arr, iaq_raw, rd_map, wrap_id, binq_quo, binq_rem, binq_shl, binq_shr, tdiv_pos, tmod_pos, if_pos, exV_some, Option.map_some] | ((first | with_reducible apply exIf_dec | ((with_reducible apply exGd_dec); focus exact rfl) | ((with_reducible apply exGq_dec); focus exact rfl) | with_reducible apply exIf_intro | ((with_reducible apply exGd_intro); focus exact rfl) | ((with_reducible apply exGq_intro); focus exact rfl)) <;> intro _) | with_reducible refine exC_pure (hck _) ?_ | with_reducible refine exCq_pure (hck _) ?_ | with_reducible refine exC_pure (num14_c _ _) ?_ | with_reducible refine exCq_pure (num14_c _ _) ?_)
      all_goals first | exact h | (exfalso; omega) | skip
      done
end Go.Proofs.Ytgahnhiidhkjaaa
end
