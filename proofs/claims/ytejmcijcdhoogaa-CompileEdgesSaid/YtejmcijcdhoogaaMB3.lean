import Derived.Test.YtejmcijcdhoogaaMB1
import Derived.Test.YtejmcijcdhoogaaMC1
import Derived.Test.YtejmcijcdhoogaaMB2
set_option linter.unusedSimpArgs false
set_option linter.unusedVariables false
section
/- The shortest lists, in plain Lean. -/
namespace Go.Proofs.Ytejmcijcdhoogaa
open Go Abs
attribute [local irreducible] EX exL exG exC exCq exS exV exIf exGd exGq
set_option maxHeartbeats 1000000
theorem leastN {p : Nat → Prop} (h : ∃ n, p n) : ∃ n, p n ∧ ∀ m, p m → n ≤ m := by
  obtain ⟨n, hn⟩ := h
  induction n using Nat.strongRecOn with
  | _ n ih =>
    by_cases hm : ∃ m < n, p m
    · obtain ⟨m, h1, h2⟩ := hm
      exact ih m h1 h2
    · exact ⟨n, hn, fun m h => Nat.le_of_not_lt fun h' => hm ⟨m, h', h⟩⟩
section
variable (g : Graph) (w : Want) (down : List Bool)
/-- just so many segments lead to a state -/
def Ch : Nat → St → Prop
  | 0, c => c = startW w
  | k + 1, c => ∃ a, Ch k a ∧ c ∈ tosL g w down a
/-- just so many segments lead from a state to the goal -/
def Tg : Nat → St → Prop
  | 0, a => a = goalW w
  | k + 1, a => ∃ l ∈ leadsL g w down a, Tg k l.to
noncomputable instance (k : Nat) (a : St) : Decidable (Tg g w down k a) := Classical.propDecidable _
/-- the first of the lists of so many segments -/
noncomputable def lst : Nat → St → List Sg
  | 0, _ => []
  | k + 1, a => match (leadsL g w down a).find? fun l => decide (Tg g w down k l.to) with
    | some l => l.s :: lst k l.to
    | none => []
noncomputable instance (n : Nat) : Decidable (∃ k, k ≤ n ∧ Tg g w down k (startW w)) := Classical.propDecidable _
/-- how many segments the shortest list has -/
noncomputable def few (h : ∃ k, Tg g w down k (startW w)) : Nat := (leastN h).choose
def cut10 (depth : Int) : Nat := (max 0 (min depth 10)).toNat
noncomputable def compW (depth : Int) : List Sg × Int :=
  if optErr g w down ≠ 0 then ([], optErr g w down)
  else if h : ∃ k, k ≤ cut10 depth ∧ Tg g w down k (startW w) then (lst g w down (few g w down ⟨h.choose, h.choose_spec.2⟩) (startW w), 0)
  else ([], 9)
end
section
variable {g : Graph} {w : Want} {down : List Bool}
theorem few_spec (h : ∃ k, Tg g w down k (startW w)) : Tg g w down (few g w down h) (startW w) := by
  exact (leastN h).choose_spec.1
theorem few_least (h : ∃ k, Tg g w down k (startW w)) {m : Nat} (hm : Tg g w down m (startW w)) : few g w down h ≤ m := by
  exact (leastN h).choose_spec.2 _ hm
theorem few_eq {n : Nat} (hn : Tg g w down n (startW w)) (hl : ∀ m, Tg g w down m (startW w) → n ≤ m) (h : ∃ k, Tg g w down k (startW w)) : few g w down h = n :=
  Nat.le_antisymm (few_least h hn) (hl _ (few_spec h))
theorem mem_tos {a c : St} : c ∈ tosL g w down a ↔ ∃ l ∈ leadsL g w down a, l.to = c := by
  rw [tosL, List.mem_map]
theorem ch_tg {c : St} : ∀ {m k : Nat}, Ch g w down m c → Tg g w down k c → Tg g w down (m + k) (startW w)
  | 0, k, h, h2 => by rw [Ch] at h; rw [← h, Nat.zero_add]; exact h2
  | m + 1, k, h, h2 => by
    obtain ⟨a, h1, h3⟩ := h
    obtain ⟨l, hl, rfl⟩ := mem_tos.1 h3
    have := ch_tg h1 (k := k + 1) ⟨l, hl, h2⟩
    rwa [show m + 1 + k = m + (k + 1) by omega]
theorem tg_ch {a : St} : ∀ {m k : Nat}, Ch g w down m a → Tg g w down k a → Ch g w down (m + k) (goalW w)
  | m, 0, h, h2 => by rw [Tg] at h2; rw [← h2]; exact h
  | m, k + 1, h, h2 => by
    obtain ⟨l, hl, h3⟩ := h2
    have := tg_ch (m := m + 1) (k := k) ⟨a, h, mem_tos.2 ⟨l, hl, rfl⟩⟩ h3
    rwa [show m + (k + 1) = m + 1 + k by omega]
theorem ch_goal {n : Nat} : Ch g w down n (goalW w) ↔ Tg g w down n (startW w) :=
  ⟨fun h => by simpa using ch_tg (k := 0) h rfl, fun h => by simpa using tg_ch (m := 0) rfl h⟩
theorem lst_length : ∀ {n : Nat} {a : St}, Tg g w down n a → (lst g w down n a).length = n
  | 0, _, _ => rfl
  | n + 1, a, h => by
    obtain ⟨l, hl, h2⟩ := h
    rw [lst]
    cases hf : (leadsL g w down a).find? fun l => decide (Tg g w down n l.to) with
    | none => exact absurd h2 (by simpa using List.find?_eq_none.1 hf l hl)
    | some l' =>
      have := List.find?_some hf
      rw [decide_eq_true_eq] at this
      dsimp only
      rw [List.length_cons, lst_length this]
theorem fold_mem {L : List St} {acc : List St × List St} {c : St} : (c ∈ (L.foldl addS acc).1 ↔ c ∈ acc.1 ∨ c ∈ L) ∧ (c ∈ (L.foldl addS acc).2 ↔ c ∈ acc.2 ∨ (c ∈ L ∧ c ∉ acc.1)) := by
  induction L generalizing acc with
  | nil => simp
  | cons x L ih =>
    rw [List.foldl_cons]
    obtain ⟨h1, h2⟩ := ih (acc := addS acc x)
    rw [h1, h2]
    unfold addS
    by_cases hx : x ∈ acc.1
    · rw [if_pos hx]
      constructor
      · constructor
        · rintro (h | h)
          · exact .inl h
          · exact .inr (List.mem_cons_of_mem _ h)
        · rintro (h | h)
          · exact .inl h
          · rcases List.mem_cons.1 h with rfl | h
            · exact .inl hx
            · exact .inr h
      · constructor
        · rintro (h | ⟨h, h'⟩)
          · exact .inl h
          · exact .inr ⟨List.mem_cons_of_mem _ h, h'⟩
        · rintro (h | ⟨h, h'⟩)
          · exact .inl h
          · rcases List.mem_cons.1 h with rfl | h
            · exact absurd hx h'
            · exact .inr ⟨h, h'⟩
    · rw [if_neg hx]
      dsimp only
      constructor
      · rw [List.mem_append, List.mem_singleton, List.mem_cons, or_assoc]
      · rw [List.mem_append, List.mem_singleton, List.mem_append, List.mem_singleton, List.mem_cons]
        constructor
        · rintro ((h | rfl) | ⟨h, h'⟩)
          · exact .inl h
          · exact .inr ⟨.inl rfl, hx⟩
          · exact .inr ⟨.inr h, fun hh => h' (.inl hh)⟩
        · rintro (h | ⟨rfl | h, h'⟩)
          · exact .inl (.inl h)
          · exact .inl (.inr rfl)
          · by_cases e : c = x
            · exact .inl (.inr e)
            · exact .inr ⟨h, fun hh => hh.elim h' e⟩
theorem rs_mem : ∀ n : Nat, (∀ c, c ∈ (rs g w down n).1 ↔ ∃ k ≤ n, Ch g w down k c) ∧ ∀ k : Nat, k ≤ n → ∀ c, c ∈ gi (rs g w down n).2 k ↔ (Ch g w down k c ∧ ∀ m < k, ¬ Ch g w down m c)
  | 0 => by
    refine ⟨fun c => ?_, fun k hk c => ?_⟩
    · rw [rs, List.mem_singleton]
      constructor
      · intro h
        exact ⟨0, Nat.le_refl _, h⟩
      · rintro ⟨k, hk, h⟩
        obtain rfl : k = 0 := by omega
        exact h
    · obtain rfl : k = 0 := by omega
      rw [rs]
      show c ∈ [startW w] ↔ _
      rw [List.mem_singleton]
      exact ⟨fun h => ⟨h, fun m hm => by omega⟩, fun h => h.1⟩
  | n + 1 => by
    obtain ⟨h1, h2⟩ := rs_mem n
    have hl := rs_length (g := g) (w := w) (down := down) n
    have hL : ∀ c, c ∈ (gi (rs g w down n).2 n).flatMap (tosL g w down) ↔ ∃ a, (Ch g w down n a ∧ ∀ m < n, ¬ Ch g w down m a) ∧ c ∈ tosL g w down a := by
      intro c
      rw [List.mem_flatMap]
      exact ⟨fun ⟨a, ha, hc⟩ => ⟨a, (h2 n (Nat.le_refl _) a).1 ha, hc⟩, fun ⟨a, ha, hc⟩ => ⟨a, (h2 n (Nat.le_refl _) a).2 ha, hc⟩⟩
    have hup : ∀ c, Ch g w down (n + 1) c → (∃ k ≤ n, Ch g w down k c) ∨ c ∈ (gi (rs g w down n).2 n).flatMap (tosL g w down) := by
      rintro c ⟨a, ha, hc⟩
      by_cases hm : ∃ m < n, Ch g w down m a
      · obtain ⟨m, hm, hma⟩ := hm
        exact .inl ⟨m + 1, by omega, a, hma, hc⟩
      · exact .inr ((hL c).2 ⟨a, ⟨ha, fun m hm' hh => hm ⟨m, hm', hh⟩⟩, hc⟩)
    refine ⟨fun c => ?_, fun k hk c => ?_⟩
    · rw [rs]
      show c ∈ (List.foldl addS _ _).1 ↔ _
      rw [fold_mem.1, h1 c]
      constructor
      · rintro (⟨k, hk, h⟩ | h)
        · exact ⟨k, by omega, h⟩
        · obtain ⟨a, ⟨ha, -⟩, hc⟩ := (hL c).1 h
          exact ⟨n + 1, Nat.le_refl _, a, ha, hc⟩
      · rintro ⟨k, hk, h⟩
        by_cases e : k = n + 1
        · subst e; exact hup c h
        · exact .inl ⟨k, by omega, h⟩
    · rw [rs]
      dsimp only
      by_cases e : k = n + 1
      · subst e
        have hg : gi ((rs g w down n).2 ++ [(roundN g w down (rs g w down n).1 (gi (rs g w down n).2 n)).2]) ((n + 1 : Nat) : Int) = (roundN g w down (rs g w down n).1 (gi (rs g w down n).2 n)).2 := by
          rw [gi_get (by rw [List.length_append, List.length_singleton, hl]; omega)]
          rw [List.getElem_append_right (by rw [hl]; omega)]
          simp [hl]
        rw [hg]
        show c ∈ (List.foldl addS _ _).2 ↔ _
        rw [fold_mem.2, h1 c]
        constructor
        · rintro (h | ⟨h, hn⟩)
          · cases h
          · obtain ⟨a, ⟨ha, -⟩, hc⟩ := (hL c).1 h
            exact ⟨⟨a, ha, hc⟩, fun m hm hh => hn ⟨m, by omega, hh⟩⟩
        · rintro ⟨h, hn⟩
          rcases hup c h with ⟨m, hm, hh⟩ | hh
          · exact absurd hh (hn m (by omega))
          · exact .inr ⟨hh, fun ⟨m, hm, hh⟩ => hn m (by omega) hh⟩
      · have hg : gi ((rs g w down n).2 ++ [(roundN g w down (rs g w down n).1 (gi (rs g w down n).2 n)).2]) (k : Int) = gi (rs g w down n).2 k := by
          rw [gi_get (by rw [List.length_append, List.length_singleton, hl]; omega), List.getElem_append_left (by rw [hl]; omega), ← gi_get (by rw [hl]; omega)]
        rw [hg]
        exact h2 k (by omega) c
/-- the program's maps tell which states lead on to the goal -/
theorem lf_tg {n : Nat} (hn : ∀ m < n, ¬ Ch g w down m (goalW w)) : ∀ {k : Nat} {c : St}, k ≤ n → Ch g w down (n - k) c → (Lf g w down (rs g w down n).2 k c ↔ Tg g w down k c)
  | 0, c, _, _ => Iff.rfl
  | k + 1, c, hk, hc => by
    have hl := rs_length (g := g) (w := w) (down := down) n
    rw [Lf, Tg]
    have nx : ∀ l ∈ leadsL g w down c, Ch g w down (n - k) l.to := fun l hl => by
      rw [show n - k = (n - (k + 1)) + 1 by omega]
      exact ⟨c, hc, mem_tos.2 ⟨l, hl, rfl⟩⟩
    constructor
    · rintro ⟨-, l, hl, h⟩
      exact ⟨l, hl, (lf_tg hn (by omega) (nx l hl)).1 h⟩
    · rintro ⟨l, hl', h⟩
      refine ⟨?_, l, hl', (lf_tg hn (by omega) (nx l hl')).2 h⟩
      rw [show ((rs g w down n).2.length : Int) - 2 - (k : Int) = ((n - (k + 1) : Nat) : Int) by rw [hl]; omega]
      refine ((rs_mem n).2 _ (by omega) c).2 ⟨hc, fun m hm hh => ?_⟩
      have := tg_ch hh (k := k + 1) ⟨l, hl', h⟩
      exact hn _ (by omega) this
theorem compW_ok (h0 : optErr g w down = 0) {depth : Int} {n : Nat} (hn : n ≤ cut10 depth) (ht : Tg g w down n (startW w)) (hl : ∀ m, Tg g w down m (startW w) → n ≤ m) : compW g w down depth = (lst g w down n (startW w), 0) := by
  have h : ∃ k, k ≤ cut10 depth ∧ Tg g w down k (startW w) := ⟨n, hn, ht⟩
  rw [compW, if_neg (fun hh => hh h0), dif_pos h, few_eq ht hl]
theorem compW_deep (h0 : optErr g w down = 0) {depth : Int} (hn : ∀ k, k ≤ cut10 depth → ¬ Tg g w down k (startW w)) : compW g w down depth = ([], 9) := by
  rw [compW, if_neg (fun hh => hh h0), dif_neg fun ⟨k, hk, h⟩ => hn k hk h]
end
end Go.Proofs.Ytejmcijcdhoogaa
end

section
/- The program finds the first of the shortest lists. -/
namespace Go.Proofs.Ytejmcijcdhoogaa
open Go Abs
attribute [local irreducible] EX exL exG exC exCq exS exV exIf exGd exGq
set_option maxHeartbeats 4000000
noncomputable def compAV (g : Graph) (w : Want) (down : List Bool) (depth : Int) : AV := .tup [.vec (compW g w down depth).1.isEmpty (rows (compW g w down depth).1) (compW g w down depth).1.length, iv (compW g w down depth).2]
theorem lst_find {g : Graph} {w : Want} {down : List Bool} {m : Nat} {a : St} {j : Int} (j0 : 0 ≤ j) (j1 : j < (leadsL g w down a).length) (hn : ∀ l ∈ (leadsL g w down a).take j.toNat, ¬ Tg g w down m l.to) (h : Tg g w down m (gi (leadsL g w down a) j).to) :
    lst g w down (m + 1) a = (gi (leadsL g w down a) j).s :: lst g w down m (gi (leadsL g w down a) j).to := by
  have : (leadsL g w down a).find? (fun l => decide (Tg g w down m l.to)) = some (gi (leadsL g w down a) j) := by
    rw [List.find?_eq_some_iff_append]
    refine ⟨by simpa using h, (leadsL g w down a).take j.toNat, (leadsL g w down a).drop (j + 1).toNat, ?_, fun l hl => by simpa using hn l hl⟩
    rw [← drop_gi j0 j1, List.take_append_drop]
  rw [lst, this]
theorem compile_c (g : Graph) (hb : g.links.length * 32 ≤ 140737488351232) (hn : g.nl = true → g.links = []) (w : Want) (hw : w.ok) (nl : Bool) (down : List Bool) (depth : Int) (H : AHeap) :
    APure Try.prog 20 [tab g, w.av, blv nl down, iv depth] H (compAV g w down depth) := by
  intro Q h
  suffices key : ACalls Try.prog 20 [tab g, w.av, blv nl down, iv depth] H fun r H' => (∀ b o, H b = some o → H' b = some o) ∧ r = compAV g w down depth by
    refine ACalls.relax (key.mono ?_)
    rintro r H' ⟨h1, rfl⟩
    exact ⟨fun _ => False, H, _, h1, by simp, Fz.refl _ _ _, h⟩
  have c1 := fun H => enew_c g hb hn w hw nl down H
  have c2 := fun H => start_c w hw H
  have c3 := fun H => goal_c w hw H
  refine ACalls.of_code fn_compile_List ?_
  by_cases h0 : optErr g w down = 0
  · rw [if_pos h0] at c1
    obtain ⟨d, hd⟩ : ∃ d : Nat, d = cut10 depth := ⟨_, rfl⟩
    simp only [tab, tabCells, Want.av, blv, sl, mapAV] at c1 c2 c3
    simp -implicitDefEqProofs only [sc_compile_List, tab, tabCells, Want.av, blv, sl, go_sem, Nat.reduceEqDiff, Nat.reduceAdd, Nat.reduceMul, Nat.reduceLeDiff, Nat.reduceSub, Nat.reduceLT, Nat.reduceBEq, Int.reduceToNat, reduceCtorEq, ↓reduceIte, Int.reduceEq, Int.reduceNeg, Int.reduceLT, Int.reduceLE, Int.reduceAdd, Int.reduceSub, Int.reduceMul]
    repeat' (first | simp -implicitDefEqProofs only [go_sem, Nat.reduceEqDiff, Nat.reduceAdd, Nat.reduceMul, Nat.reduceLeDiff, Nat.reduceSub, Nat.reduceLT, Nat.reduceBEq, Int.reduceToNat, reduceCtorEq, ↓reduceIte, Int.reduceEq, Int.reduceNeg, Int.reduceLT, Int.reduceLE, Int.reduceAdd, Int.reduceSub, Int.reduceMul] | simp -implicitDefEqProofs (disch := omega) only [iaq_vec, iao_arr, iaq_raw, rd_map, wrap_id, binq_quo, binq_rem, binq_shl, binq_shr, tdiv_pos, tmod_pos, if_pos, exV_some, Option.map_some] | ((first | with_reducible apply exIf_dec | ((with_reducible apply exGd_dec); focus exact rfl) | ((with_reducible apply exGq_dec); focus exact rfl) | with_reducible apply exIf_intro | ((with_reducible apply exGd_intro); focus exact rfl) | ((with_reducible apply exGq_intro); focus exact rfl)) <;> intro _) | with_reducible refine exC_pure (c1 _) ?_ | with_reducible refine exCq_pure (c1 _) ?_ | with_reducible refine exC_pure (c2 _) ?_ | with_reducible refine exCq_pure (c2 _) ?_ | with_reducible refine exC_pure (c3 _) ?_ | with_reducible refine exCq_pure (c3 _) ?_)
    all_goals first | (exfalso; omega) | skip
    intro mb hmb
    have hmb : H mb = none := hmb
    repeat' (first | simp -implicitDefEqProofs only [go_sem, Nat.reduceEqDiff, Nat.reduceAdd, Nat.reduceMul, Nat.reduceLeDiff, Nat.reduceSub, Nat.reduceLT, Nat.reduceBEq, Int.reduceToNat, reduceCtorEq, ↓reduceIte, Int.reduceEq, Int.reduceNeg, Int.reduceLT, Int.reduceLE, Int.reduceAdd, Int.reduceSub, Int.reduceMul] | simp -implicitDefEqProofs (disch := omega) only [iaq_vec, iao_arr, iaq_raw, rd_map, wrap_id, binq_quo, binq_rem, binq_shl, binq_shr, tdiv_pos, tmod_pos, if_pos, exV_some, Option.map_some] | ((first | with_reducible apply exIf_dec | ((with_reducible apply exGd_dec); focus exact rfl) | ((with_reducible apply exGq_dec); focus exact rfl) | with_reducible apply exIf_intro | ((with_reducible apply exGd_intro); focus exact rfl) | ((with_reducible apply exGq_intro); focus exact rfl)) <;> intro _) | with_reducible refine exC_pure (c2 _) ?_ | with_reducible refine exCq_pure (c2 _) ?_)
    all_goals first | (exfalso; omega) | skip
    have hdd : (if 0 < (if 10 < depth then 10 else depth) then (if 10 < depth then 10 else depth) else 0 : Int) = (d : Int) := by
      rw [hd, cut10]; split <;> (try split) <;> omega
    have hd10 : d ≤ 10 := by rw [hd, cut10]; omega
    rw [hdd]
    have wf := wfit_of (optErr_right h0)
    have hf := wf.fit
    have fn := hf.n2
    have fw := wf.few
    have hsr : rngS g (startW w) := by
      have := come_le (l := pts w) (node := w.src) (n := 0) (by omega) (by rw [pts_length]; omega)
      rw [pts_length] at this
      exact ⟨wf.src, by dsimp only [startW]; omega, by dsimp only [startW]; omega⟩
    have rc := rounds_c g w down h0 mb d ⟨by omega, by omega⟩ [] (fun k v hh => by simp [mget] at hh) (upd H mb (some (.map (.a 2 .i64) []))) (upd_self _ _ _) hsr
    have base0 : ∀ (es : List (MK × AV)) b o, H b = some o → upd (upd H mb (some (.map (.a 2 .i64) []))) mb (some (.map (.a 2 .i64) es)) b = some o := fun es b o ho => by
      have : mb ≠ b := by rintro rfl; rw [hmb] at ho; cases ho
      rw [upd_ne _ _ this, upd_ne _ _ this]; exact ho
    simp only [xAV, stateAV, startW, mapAV, tab, tabCells] at rc
    refine exC_intro rc ?_
    rintro r H1 ⟨⟨es, rfl, hes⟩, ⟨n, n1, hgo, hno, rfl⟩ | ⟨hno, rfl⟩⟩
    · have hch : ∀ m < n, ¬ Ch g w down m (goalW w) := fun m hm hh => hno m hm (((rs_mem m).1 _).2 ⟨m, Nat.le_refl _, hh⟩)
      obtain ⟨k, hk, hkg⟩ := ((rs_mem n).1 _).1 hgo
      obtain rfl : k = n := by
        by_cases e : k = n
        · exact e
        · exact absurd hkg (hch k (by omega))
      clear hk hgo hno
      have htg := ch_goal.1 hkg
      have hw : compAV g w down depth = .tup [.vec (lst g w down k (startW w)).isEmpty (rows (lst g w down k (startW w))) (lst g w down k (startW w)).length, iv 0] := by
        rw [compAV, compW_ok h0 (n := k) (by omega) htg fun m hm => Nat.le_of_not_lt fun hlt => hch m hlt (ch_goal.2 hm)]
      rw [hw]
      have hRl := rs_length (g := g) (w := w) (down := down) k
      have hR2 := (rs_ok (down := down) wf hsr k).2
      obtain ⟨R, hR⟩ : ∃ R, R = (rs g w down k).2 := ⟨_, rfl⟩
      have hlf : ∀ {j : Nat} {c : St}, j ≤ k → Ch g w down (k - j) c → (Lf g w down R j c ↔ Tg g w down j c) := fun h1 h2 => by rw [hR]; exact lf_tg hch h1 h2
      rw [← hR] at hRl hR2 ⊢
      have lc := left_c g w down h0 mb R ⟨by omega, by omega⟩ (fun l hl => (hR2 l hl).2) es hes (upd (upd H mb (some (.map (.a 2 .i64) []))) mb (some (.map (.a 2 .i64) es))) (upd_self _ _ _)
      simp only [xAV, mapAV, tab, tabCells] at lc
      repeat' (first | simp -implicitDefEqProofs only [go_sem, Nat.reduceEqDiff, Nat.reduceAdd, Nat.reduceMul, Nat.reduceLeDiff, Nat.reduceSub, Nat.reduceLT, Nat.reduceBEq, Int.reduceToNat, reduceCtorEq, ↓reduceIte, Int.reduceEq, Int.reduceNeg, Int.reduceLT, Int.reduceLE, Int.reduceAdd, Int.reduceSub, Int.reduceMul] | simp -implicitDefEqProofs (disch := omega) only [iaq_vec, iao_arr, iaq_raw, rd_map, wrap_id, binq_quo, binq_rem, binq_shl, binq_shr, tdiv_pos, tmod_pos, if_pos, exV_some, Option.map_some] | ((first | with_reducible apply exIf_dec | ((with_reducible apply exGd_dec); focus exact rfl) | ((with_reducible apply exGq_dec); focus exact rfl) | with_reducible apply exIf_intro | ((with_reducible apply exGd_intro); focus exact rfl) | ((with_reducible apply exGq_intro); focus exact rfl)) <;> intro _))
      all_goals first | (exfalso; omega) | skip
      refine exC_intro lc ?_
      rintro r H2 ⟨hb2, ⟨es2, hm2, hes2⟩, bs, rfl, hbl, hbs⟩
      have hbase : ∀ b o, H b = some o → H2 b = some o := fun b o ho => hb2 b o (base0 es b o ho) (by rintro rfl; rw [hmb] at ho; cases ho)
      simp -implicitDefEqProofs only [go_sem, Nat.reduceEqDiff, Nat.reduceAdd, Nat.reduceMul, Nat.reduceLeDiff, Nat.reduceSub, Nat.reduceLT, Nat.reduceBEq, Int.reduceToNat, reduceCtorEq, ↓reduceIte, Int.reduceEq, Int.reduceNeg, Int.reduceLT, Int.reduceLE, Int.reduceAdd, Int.reduceSub, Int.reduceMul]
      repeat' (first | simp -implicitDefEqProofs only [go_sem, Nat.reduceEqDiff, Nat.reduceAdd, Nat.reduceMul, Nat.reduceLeDiff, Nat.reduceSub, Nat.reduceLT, Nat.reduceBEq, Int.reduceToNat, reduceCtorEq, ↓reduceIte, Int.reduceEq, Int.reduceNeg, Int.reduceLT, Int.reduceLE, Int.reduceAdd, Int.reduceSub, Int.reduceMul] | simp -implicitDefEqProofs (disch := omega) only [iaq_vec, iao_arr, iaq_raw, rd_map, wrap_id, binq_quo, binq_rem, binq_shl, binq_shr, tdiv_pos, tmod_pos, if_pos, exV_some, Option.map_some] | ((first | with_reducible apply exIf_dec | ((with_reducible apply exGd_dec); focus exact rfl) | ((with_reducible apply exGq_dec); focus exact rfl) | with_reducible apply exIf_intro | ((with_reducible apply exGd_intro); focus exact rfl) | ((with_reducible apply exGq_intro); focus exact rfl)) <;> intro _))
      all_goals first | (exfalso; omega) | skip
      obtain ⟨t, htd⟩ : ∃ t, t = bs.drop 1 := ⟨_, rfl⟩
      have htl : t.length = k := by rw [htd, List.length_drop]; omega
      have ht : ∀ i : Int, 0 ≤ i → i < k → ∃ b es, gi t i = some b ∧ b ≠ mb ∧ H2 b = some (.map (.a 2 .i64) es) ∧ Says es (Lf g w down R (k - 1 - i.toNat)) := fun i i0 i1 => by
        obtain ⟨b, es, q1, q2, q3, q4⟩ := hbs (i + 1) (by omega) (by omega) (by omega)
        refine ⟨b, es, ?_, q2, q3, ?_⟩
        · rw [← q1, htd, gi_get (by rw [List.length_drop]; omega), gi_get (by omega), List.getElem_drop]
          congr 1
          omega
        · rw [show k - 1 - i.toNat = ((R.length : Int) - 1 - (i + 1)).toNat by omega]; exact q4
      rw [show ((R.length : Int)).toNat - 1 = k by omega, Nat.mul_one, ← List.map_drop, ← htd, List.take_of_length_le (by rw [List.length_map, htl]; exact Nat.le_refl _)]
      refine exL_modH (fun a : Int × St × List Sg × AHeap => [(17, .own 77), (57, .v (iv a.1))]) (fun a => [(13, .cells [iv a.2.1.1, iv a.2.1.2] 82), (77, .arr a.2.2.1.isEmpty (rows a.2.2.1) a.2.2.1.length 50 2)]) (fun a => a.2.2.2) (fun a => (0 ≤ a.1 ∧ a.1 ≤ k) ∧ (a.2.2.1.length : Int) = a.1 ∧ a.2.2.1 ++ lst g w down (k - a.1.toNat) a.2.1 = lst g w down k (startW w) ∧ Tg g w down (k - a.1.toNat) a.2.1 ∧ Ch g w down a.1.toNat a.2.1 ∧ (∀ b o, H2 b = some o → b ≠ mb → a.2.2.2 b = some o) ∧ ∃ es', a.2.2.2 mb = some (.map (.a 2 .i64) es') ∧ LeadsOK g w down es') (fun a => (k - a.1).toNat) (0, startW w, [], H2) rfl ⟨⟨by simp, by dsimp only; omega⟩, rfl, rfl, htg, rfl, fun b o ho _ => ho, es2, hm2, hes2⟩ ?_
      rintro ⟨i, a, o, H3⟩ ⟨⟨i0, i1⟩, ho, hlst, htga, hcha, hb3, ⟨es3, hm3, hes3⟩⟩ ih
      dsimp only at i0 i1 ho hlst htga hcha hb3 hm3 ih
      simp only [S.up, S.upH, ups, Abs.put, Nat.reduceEqDiff, ↓reduceIte, Nat.reduceAdd] at ih
      simp -implicitDefEqProofs only [congrArg KI.code sc_compile_List_L1.eq_1, go_sem, Nat.reduceEqDiff, Nat.reduceAdd, Nat.reduceMul, Nat.reduceLeDiff, Nat.reduceSub, Nat.reduceLT, Nat.reduceBEq, Int.reduceToNat, reduceCtorEq, ↓reduceIte, Int.reduceEq, Int.reduceNeg, Int.reduceLT, Int.reduceLE, Int.reduceAdd, Int.reduceSub, Int.reduceMul]
      by_cases hi : i < k
      · obtain ⟨b, esb, hgb, hbm, hHb, hsb⟩ := ht i i0 hi
        have hrd : rdV (t.map mvv) (i.toNat * 1) 1 false = some (.raw (.map (some b))) := by rw [rd_map i0 (by omega), hgb]; rfl
        have cf := cfrom_c g w down h0 mb a es3 hes3 H3 hm3
        simp only [xAV, mapAV, tab, tabCells, stateAV, leadsAV] at cf
        repeat' (first | simp -implicitDefEqProofs only [go_sem, Nat.reduceEqDiff, Nat.reduceAdd, Nat.reduceMul, Nat.reduceLeDiff, Nat.reduceSub, Nat.reduceLT, Nat.reduceBEq, Int.reduceToNat, reduceCtorEq, ↓reduceIte, Int.reduceEq, Int.reduceNeg, Int.reduceLT, Int.reduceLE, Int.reduceAdd, Int.reduceSub, Int.reduceMul] | simp -implicitDefEqProofs (disch := omega) only [hrd, iaq_vec, iao_arr, iaq_raw, rd_map, wrap_id, binq_quo, binq_rem, binq_shl, binq_shr, tdiv_pos, tmod_pos, if_pos, exV_some, Option.map_some] | ((first | with_reducible apply exIf_dec | ((with_reducible apply exGd_dec); focus exact rfl) | ((with_reducible apply exGq_dec); focus exact rfl) | with_reducible apply exIf_intro | ((with_reducible apply exGd_intro); focus exact rfl) | ((with_reducible apply exGq_intro); focus exact rfl)) <;> intro _))
        all_goals first | (exfalso; omega) | skip
        obtain ⟨m, hm⟩ : ∃ m, m + 1 = k - i.toNat := ⟨k - i.toNat - 1, by omega⟩
        rw [← hm] at hlst htga
        rw [show k - 1 - i.toNat = m by omega] at hsb
        have hlfa : ∀ l ∈ leadsL g w down a, (Lf g w down R m l.to ↔ Tg g w down m l.to) := fun l hl => hlf (by omega) (by
          rw [show k - m = i.toNat + 1 by omega]
          exact ⟨a, hcha, mem_tos.2 ⟨l, hl, rfl⟩⟩)
        have hfd := fun (j : Int) (j0 : 0 ≤ j) (j1 : j < (leadsL g w down a).length) => lst_find (g := g) (w := w) (down := down) (m := m) (a := a) j0 j1
        have hchn : ∀ l ∈ leadsL g w down a, Ch g w down (i + 1).toNat l.to := fun l hl => by
          rw [show (i + 1).toNat = i.toNat + 1 by omega]
          exact ⟨a, hcha, mem_tos.2 ⟨l, hl, rfl⟩⟩
        have hll := leads_length g w down a
        have hfw := hf.few
        have hle := hf.n2
        refine exC_intro cf ?_
        rintro _ H4 ⟨rfl, es4, rfl, hes4⟩
        rw [Tg] at htga
        obtain ⟨lds, hlds⟩ : ∃ l, l = leadsL g w down a := ⟨_, rfl⟩
        rw [← hlds] at hll hlfa hfd htga hchn ⊢
        clear cf hlds
        have hHb' : upd H3 mb (some (.map (.a 2 .i64) es4)) b = some (.map (.a 2 .i64) esb) := by rw [upd_ne _ _ (Ne.symm hbm)]; exact hb3 b _ hHb hbm
        have nxt := fun (a' : St) (o' : List Sg) (h1 : (o'.length : Int) = i + 1) (h2 : o' ++ lst g w down m a' = lst g w down k (startW w)) (h3 : Tg g w down m a') (h4 : Ch g w down (i + 1).toNat a') => ih (i + 1, a', o', upd H3 mb (some (.map (.a 2 .i64) es4))) ⟨⟨by dsimp only; omega, by dsimp only; omega⟩, h1, by rw [show k - (i + 1).toNat = m by omega]; exact h2, by rw [show k - (i + 1).toNat = m by omega]; exact h3, h4, fun b o ho hb => by dsimp only; rw [upd_ne _ _ (Ne.symm hb)]; exact hb3 b o ho hb, es4, upd_self _ _ _, hes4⟩ (by dsimp only; omega)
        dsimp only at nxt
        clear ih
        simp -implicitDefEqProofs only [go_sem, Nat.reduceEqDiff, Nat.reduceAdd, Nat.reduceMul, Nat.reduceLeDiff, Nat.reduceSub, Nat.reduceLT, Nat.reduceBEq, Int.reduceToNat, reduceCtorEq, ↓reduceIte, Int.reduceEq, Int.reduceNeg, Int.reduceLT, Int.reduceLE, Int.reduceAdd, Int.reduceSub, Int.reduceMul]
        repeat' (first | simp -implicitDefEqProofs only [go_sem, Nat.reduceEqDiff, Nat.reduceAdd, Nat.reduceMul, Nat.reduceLeDiff, Nat.reduceSub, Nat.reduceLT, Nat.reduceBEq, Int.reduceToNat, reduceCtorEq, ↓reduceIte, Int.reduceEq, Int.reduceNeg, Int.reduceLT, Int.reduceLE, Int.reduceAdd, Int.reduceSub, Int.reduceMul] | simp -implicitDefEqProofs (disch := omega) only [iaq_vec, iao_arr, iaq_raw, rd_map, wrap_id, binq_quo, binq_rem, binq_shl, binq_shr, tdiv_pos, tmod_pos, if_pos, exV_some, Option.map_some] | ((first | with_reducible apply exIf_dec | ((with_reducible apply exGd_dec); focus exact rfl) | ((with_reducible apply exGq_dec); focus exact rfl) | with_reducible apply exIf_intro | ((with_reducible apply exGd_intro); focus exact rfl) | ((with_reducible apply exGq_intro); focus exact rfl)) <;> intro _))
        all_goals first | (exfalso; omega) | skip
        refine exL_modH (fun a : Int => [(65, .v (iv a))]) (fun _ => []) (fun _ => upd H3 mb (some (.map (.a 2 .i64) es4))) (fun j => (0 ≤ j ∧ j ≤ lds.length) ∧ ∀ l ∈ lds.take j.toNat, ¬ Tg g w down m l.to) (fun j => (lds.length - j).toNat) 0 rfl ⟨⟨by omega, by omega⟩, by simp⟩ ?_
        rintro j ⟨⟨j0, j1⟩, hnot⟩ ih
        simp only [S.up, S.upH, ups, Abs.put, Nat.reduceEqDiff, ↓reduceIte, Nat.reduceAdd] at ih
        simp -implicitDefEqProofs only [congrArg KI.code sc_compile_List_L0.eq_1, go_sem, Nat.reduceEqDiff, Nat.reduceAdd, Nat.reduceMul, Nat.reduceLeDiff, Nat.reduceSub, Nat.reduceLT, Nat.reduceBEq, Int.reduceToNat, reduceCtorEq, ↓reduceIte, Int.reduceEq, Int.reduceNeg, Int.reduceLT, Int.reduceLE, Int.reduceAdd, Int.reduceSub, Int.reduceMul]
        by_cases hj : j < lds.length
        · have hlj := rd_ld (l := lds) j0 hj
          have hmem := gi_mem (l := lds) j0 hj
          have hsw := hsb (gi lds j).to
          have hlq := hlfa _ hmem
          by_cases hin : Tg g w down m (gi lds j).to
          · have hsw := hsw.1 (hlq.2 hin)
            simp only [stKey] at hsw
            have hst := hfd j j0 hj hnot hin
            rw [hst] at hlst
            have nx := nxt (gi lds j).to (o ++ [(gi lds j).s]) (by rw [List.length_append, List.length_singleton]; omega) (by rw [List.append_assoc]; exact hlst) hin (hchn _ hmem)
            clear ih nxt
            repeat' (first | simp -implicitDefEqProofs only [go_sem, Nat.reduceEqDiff, Nat.reduceAdd, Nat.reduceMul, Nat.reduceLeDiff, Nat.reduceSub, Nat.reduceLT, Nat.reduceBEq, Int.reduceToNat, reduceCtorEq, ↓reduceIte, Int.reduceEq, Int.reduceNeg, Int.reduceLT, Int.reduceLE, Int.reduceAdd, Int.reduceSub, Int.reduceMul] | simp -implicitDefEqProofs (disch := omega) only [hlj, hHb', lkres, hsw, Option.getD_some, iaq_vec, iao_arr, iaq_raw, rd_map, wrap_id, binq_quo, binq_rem, binq_shl, binq_shr, tdiv_pos, tmod_pos, if_pos, exV_some, Option.map_some] | ((first | with_reducible apply exIf_dec | ((with_reducible apply exGd_dec); focus exact rfl) | ((with_reducible apply exGq_dec); focus exact rfl) | with_reducible apply exIf_intro | ((with_reducible apply exGd_intro); focus exact rfl) | ((with_reducible apply exGq_intro); focus exact rfl)) <;> intro _))
            all_goals first | (exfalso; omega) | skip
            refine exS_rows (gi lds j).s rfl rfl rfl (by omega) (by simp only [maxLen]; omega) ?_
            repeat' (first | simp -implicitDefEqProofs only [go_sem, Nat.reduceEqDiff, Nat.reduceAdd, Nat.reduceMul, Nat.reduceLeDiff, Nat.reduceSub, Nat.reduceLT, Nat.reduceBEq, Int.reduceToNat, reduceCtorEq, ↓reduceIte, Int.reduceEq, Int.reduceNeg, Int.reduceLT, Int.reduceLE, Int.reduceAdd, Int.reduceSub, Int.reduceMul] | simp -implicitDefEqProofs (disch := omega) only [iaq_vec, iao_arr, iaq_raw, rd_map, wrap_id, binq_quo, binq_rem, binq_shl, binq_shr, tdiv_pos, tmod_pos, if_pos, exV_some, Option.map_some] | ((first | with_reducible apply exIf_dec | ((with_reducible apply exGd_dec); focus exact rfl) | ((with_reducible apply exGq_dec); focus exact rfl) | with_reducible apply exIf_intro | ((with_reducible apply exGd_intro); focus exact rfl) | ((with_reducible apply exGq_intro); focus exact rfl)) <;> intro _))
            all_goals first | exact nx | (exfalso; omega) | skip
            done
          · have hsw := hsw.2 fun hh => hin (hlq.1 hh)
            simp only [stKey] at hsw
            have nx := ih (j + 1) ⟨⟨by omega, by omega⟩, fun l hl => by
              rw [take_gi j0 hj] at hl
              rcases List.mem_append.1 hl with hl | hl
              · exact hnot l hl
              · rw [List.mem_singleton.1 hl]; exact hin⟩ (by omega)
            clear ih nxt
            repeat' (first | simp -implicitDefEqProofs only [go_sem, Nat.reduceEqDiff, Nat.reduceAdd, Nat.reduceMul, Nat.reduceLeDiff, Nat.reduceSub, Nat.reduceLT, Nat.reduceBEq, Int.reduceToNat, reduceCtorEq, ↓reduceIte, Int.reduceEq, Int.reduceNeg, Int.reduceLT, Int.reduceLE, Int.reduceAdd, Int.reduceSub, Int.reduceMul] | simp -implicitDefEqProofs (disch := omega) only [hlj, hHb', lkres, hsw, Option.getD_none, iaq_vec, iao_arr, iaq_raw, rd_map, wrap_id, binq_quo, binq_rem, binq_shl, binq_shr, tdiv_pos, tmod_pos, if_pos, exV_some, Option.map_some] | ((first | with_reducible apply exIf_dec | ((with_reducible apply exGd_dec); focus exact rfl) | ((with_reducible apply exGq_dec); focus exact rfl) | with_reducible apply exIf_intro | ((with_reducible apply exGd_intro); focus exact rfl) | ((with_reducible apply exGq_intro); focus exact rfl)) <;> intro _))
            all_goals first | exact nx | (exfalso; omega) | skip
            done
        · obtain ⟨l, hl, hl2⟩ := htga
          exfalso
          refine hnot l ?_ hl2
          rw [List.take_of_length_le (by omega)]
          exact hl
      · obtain rfl : i = k := by omega
        clear ih
        rw [Int.toNat_natCast, Nat.sub_self, lst, List.append_nil] at hlst
        rw [← hlst]
        have hfin : ∀ b o, H b = some o → H3 b = some o := fun b o ho => hb3 b o (hbase b o ho) (by rintro rfl; rw [hmb] at ho; cases ho)
        repeat' (first | simp -implicitDefEqProofs only [go_sem, Nat.reduceEqDiff, Nat.reduceAdd, Nat.reduceMul, Nat.reduceLeDiff, Nat.reduceSub, Nat.reduceLT, Nat.reduceBEq, Int.reduceToNat, reduceCtorEq, ↓reduceIte, Int.reduceEq, Int.reduceNeg, Int.reduceLT, Int.reduceLE, Int.reduceAdd, Int.reduceSub, Int.reduceMul] | simp -implicitDefEqProofs (disch := omega) only [iaq_vec, iao_arr, iaq_raw, rd_map, wrap_id, binq_quo, binq_rem, binq_shl, binq_shr, tdiv_pos, tmod_pos, if_pos, exV_some, Option.map_some] | ((first | with_reducible apply exIf_dec | ((with_reducible apply exGd_dec); focus exact rfl) | ((with_reducible apply exGq_dec); focus exact rfl) | with_reducible apply exIf_intro | ((with_reducible apply exGd_intro); focus exact rfl) | ((with_reducible apply exGq_intro); focus exact rfl)) <;> intro _))
        all_goals first | exact hfin | (exfalso; omega) | skip
        done
    · have hno' : ∀ j, j ≤ cut10 depth → ¬ Tg g w down j (startW w) := fun j hj hh => hno j (by omega) (((rs_mem j).1 _).2 ⟨j, Nat.le_refl _, ch_goal.2 hh⟩)
      have hw : compAV g w down depth = .tup [.vec true [] 0, iv 9] := by rw [compAV, compW_deep h0 hno']; rfl
      rw [hw]
      repeat' (first | simp -implicitDefEqProofs only [go_sem, Nat.reduceEqDiff, Nat.reduceAdd, Nat.reduceMul, Nat.reduceLeDiff, Nat.reduceSub, Nat.reduceLT, Nat.reduceBEq, Int.reduceToNat, reduceCtorEq, ↓reduceIte, Int.reduceEq, Int.reduceNeg, Int.reduceLT, Int.reduceLE, Int.reduceAdd, Int.reduceSub, Int.reduceMul] | simp -implicitDefEqProofs (disch := omega) only [iaq_vec, iao_arr, iaq_raw, rd_map, wrap_id, binq_quo, binq_rem, binq_shl, binq_shr, tdiv_pos, tmod_pos, if_pos, exV_some, Option.map_some] | ((first | with_reducible apply exIf_dec | ((with_reducible apply exGd_dec); focus exact rfl) | ((with_reducible apply exGq_dec); focus exact rfl) | with_reducible apply exIf_intro | ((with_reducible apply exGd_intro); focus exact rfl) | ((with_reducible apply exGq_intro); focus exact rfl)) <;> intro _))
      all_goals first | exact fun b o ho => base0 es b o ho | (exfalso; omega) | skip
      done
  · rw [if_neg h0] at c1
    have hr : compAV g w down depth = .tup [.vec true [] 0, iv (optErr g w down)] := by
      rw [compAV, compW, if_pos h0]; rfl
    rw [hr]
    simp only [tab, tabCells, Want.av, blv, sl] at c1 c2 c3
    simp -implicitDefEqProofs only [sc_compile_List, tab, tabCells, Want.av, blv, sl, go_sem, Nat.reduceEqDiff, Nat.reduceAdd, Nat.reduceMul, Nat.reduceLeDiff, Nat.reduceSub, Nat.reduceLT, Nat.reduceBEq, Int.reduceToNat, reduceCtorEq, ↓reduceIte, Int.reduceEq, Int.reduceNeg, Int.reduceLT, Int.reduceLE, Int.reduceAdd, Int.reduceSub, Int.reduceMul]
    repeat' (first | simp -implicitDefEqProofs only [go_sem, Nat.reduceEqDiff, Nat.reduceAdd, Nat.reduceMul, Nat.reduceLeDiff, Nat.reduceSub, Nat.reduceLT, Nat.reduceBEq, Int.reduceToNat, reduceCtorEq, ↓reduceIte, Int.reduceEq, Int.reduceNeg, Int.reduceLT, Int.reduceLE, Int.reduceAdd, Int.reduceSub, Int.reduceMul] | simp -implicitDefEqProofs (disch := omega) only [iaq_vec, iao_arr, iaq_raw, rd_map, wrap_id, binq_quo, binq_rem, binq_shl, binq_shr, tdiv_pos, tmod_pos, if_pos, exV_some, Option.map_some] | ((first | with_reducible apply exIf_dec | ((with_reducible apply exGd_dec); focus exact rfl) | ((with_reducible apply exGq_dec); focus exact rfl) | with_reducible apply exIf_intro | ((with_reducible apply exGd_intro); focus exact rfl) | ((with_reducible apply exGq_intro); focus exact rfl)) <;> intro _) | with_reducible refine exC_pure (c1 _) ?_ | with_reducible refine exCq_pure (c1 _) ?_ | with_reducible refine exC_pure (c2 _) ?_ | with_reducible refine exCq_pure (c2 _) ?_ | with_reducible refine exC_pure (c3 _) ?_ | with_reducible refine exCq_pure (c3 _) ?_)
    all_goals first | exact fun b o ho => ho | (exfalso; omega) | skip
    done
end Go.Proofs.Ytejmcijcdhoogaa
end

section
/- The laws CompileNone and CompileDeeper of chapter 17, as contracts. -/
namespace Go.Proofs.Ytejmcijcdhoogaa
open Go Abs
attribute [local irreducible] EX exL exG exC exCq exS exV exIf exGd exGq
set_option maxHeartbeats 4000000
theorem lst_seg {g : Graph} {w : Want} {down : List Bool} {m : Nat} {a c : St} {pre post : List Sg} {s : Sg} (h : segsA g = pre ++ s :: post) (hp : ∀ s' ∈ pre, ∀ c', segW g w down a s' = some c' → ¬ Tg g w down m c') (hs : segW g w down a s = some c) (hc : Tg g w down m c) :
    Tg g w down (m + 1) a ∧ lst g w down (m + 1) a = s :: lst g w down m c := by
  have hl : leadsL g w down a = pre.filterMap (ldO g w down a) ++ ⟨s, c⟩ :: post.filterMap (ldO g w down a) := by
    rw [leadsL, h, List.filterMap_append, List.filterMap_cons, show ldO g w down a s = some ⟨s, c⟩ by rw [ldO, hs]; rfl]
  have hf : (leadsL g w down a).find? (fun l => decide (Tg g w down m l.to)) = some ⟨s, c⟩ := by
    rw [List.find?_eq_some_iff_append]
    refine ⟨by simpa using hc, _, _, hl, fun l hl' => ?_⟩
    obtain ⟨s', hs', h2⟩ := List.mem_filterMap.1 hl'
    unfold ldO at h2
    obtain ⟨c', hc', rfl⟩ := Option.map_eq_some_iff.1 h2
    simpa using hp s' hs' c' hc'
  refine ⟨⟨⟨s, c⟩, by rw [hl]; simp, hc⟩, ?_⟩
  rw [lst, hf]
theorem tg_seg {g : Graph} {w : Want} {down : List Bool} {m : Nat} {a : St} (h : Tg g w down (m + 1) a) : ∃ s ∈ segsA g, ∃ c, segW g w down a s = some c ∧ Tg g w down m c := by
  obtain ⟨l, hl, h2⟩ := h
  unfold leadsL at hl
  obtain ⟨s, hs, h3⟩ := List.mem_filterMap.1 hl
  unfold ldO at h3
  obtain ⟨c, hc, rfl⟩ := Option.map_eq_some_iff.1 h3
  exact ⟨s, hs, c, hc, h2⟩
/-- no segments are needed -/
theorem comp_nil {g : Graph} {w : Want} {down : List Bool} (h0 : optErr g w down = 0) (h : startW w = goalW w) (depth : Int) : compW g w down depth = ([], 0) :=
  compW_ok h0 (n := 0) (Nat.zero_le _) h fun m _ => Nat.zero_le m
/-- one segment is -/
theorem comp_one {g : Graph} {w : Want} {down : List Bool} (h0 : optErr g w down = 0) (h : startW w ≠ goalW w) {depth : Int} (hd : 1 ≤ depth) {pre post : List Sg} {s : Sg} (hg : segsA g = pre ++ s :: post) (hp : ∀ s' ∈ pre, segW g w down (startW w) s' ≠ some (goalW w)) (hs : segW g w down (startW w) s = some (goalW w)) : compW g w down depth = ([s], 0) := by
  obtain ⟨h1, h2⟩ := lst_seg (m := 0) hg (fun s' hs' c' hc' hh => hp s' hs' (by rw [hc', show c' = goalW w from hh])) hs rfl
  rw [compW_ok h0 (n := 1) (by unfold cut10; omega) h1 fun m hm => ?_, h2, lst]
  cases m with
  | zero => exact absurd hm h
  | succ m => omega
theorem num17_c (x : Int) (H : AHeap) : APure Try.prog 23 [iv x] H (iv x) := by
  intro Q h
  refine ACalls.of_code fn_waymarklaw17_num ?_
  simp -implicitDefEqProofs only [sc_waymarklaw17_num, go_sem, Nat.reduceEqDiff, Nat.reduceAdd, Nat.reduceMul, Nat.reduceLeDiff, Nat.reduceSub, Nat.reduceLT, Nat.reduceBEq, Int.reduceToNat, reduceCtorEq, ↓reduceIte, Int.reduceEq, Int.reduceNeg, Int.reduceLT, Int.reduceLE, Int.reduceAdd, Int.reduceSub, Int.reduceMul]
  exact h
noncomputable def tabs16 (g : Graph) : AV := if (check g).2 = 0 then .tup [tab g, refTab g, bv true] else .tup [.raw (.pointer none), .raw (.pointer none), bv false]
theorem tables16_c (g : Graph) (hb : g.links.length * 32 ≤ 140737488351232) (hn : g.nl = true → g.links = []) (H : AHeap) : APure Try.prog 19 [g.av] H (tabs16 g) := by
  intro Q h
  have c1 := fun H => new_c g hb hn H
  have c2 := fun H => newTables_ref_c g hb H
  refine ACalls.of_code fn_waymarklaw16_Tables ?_
  by_cases hc : (check g).2 = 0
  · rw [tabs16, if_pos hc] at h
    rw [if_pos hc] at c1 c2
    simp only [Graph.av, tab, refTab] at c1 c2 h
    simp -implicitDefEqProofs only [sc_waymarklaw16_Tables, Graph.av, go_sem, Nat.reduceEqDiff, Nat.reduceAdd, Nat.reduceMul, Nat.reduceLeDiff, Nat.reduceSub, Nat.reduceLT, Nat.reduceBEq, Int.reduceToNat, reduceCtorEq, ↓reduceIte, Int.reduceEq, Int.reduceNeg, Int.reduceLT, Int.reduceLE, Int.reduceAdd, Int.reduceSub, Int.reduceMul]
    repeat' (first | simp -implicitDefEqProofs only [go_sem, Nat.reduceEqDiff, Nat.reduceAdd, Nat.reduceMul, Nat.reduceLeDiff, Nat.reduceSub, Nat.reduceLT, Nat.reduceBEq, Int.reduceToNat, reduceCtorEq, ↓reduceIte, Int.reduceEq, Int.reduceNeg, Int.reduceLT, Int.reduceLE, Int.reduceAdd, Int.reduceSub, Int.reduceMul] | simp -implicitDefEqProofs (disch := omega) only [iaq_vec, iao_arr, iaq_raw, rd_map, wrap_id, binq_quo, binq_rem, binq_shl, binq_shr, tdiv_pos, tmod_pos, if_pos, exV_some, Option.map_some] | ((first | with_reducible apply exIf_dec | ((with_reducible apply exGd_dec); focus exact rfl) | ((with_reducible apply exGq_dec); focus exact rfl) | with_reducible apply exIf_intro | ((with_reducible apply exGd_intro); focus exact rfl) | ((with_reducible apply exGq_intro); focus exact rfl)) <;> intro _) | with_reducible refine exC_pure (c1 _) ?_ | with_reducible refine exCq_pure (c1 _) ?_ | with_reducible refine exC_pure (c2 _) ?_ | with_reducible refine exCq_pure (c2 _) ?_)
    all_goals first | exact h | (exfalso; omega) | skip
    done
  · rw [tabs16, if_neg hc] at h
    rw [if_neg hc] at c1 c2
    simp only [Graph.av] at c1 c2
    simp -implicitDefEqProofs only [sc_waymarklaw16_Tables, Graph.av, go_sem, Nat.reduceEqDiff, Nat.reduceAdd, Nat.reduceMul, Nat.reduceLeDiff, Nat.reduceSub, Nat.reduceLT, Nat.reduceBEq, Int.reduceToNat, reduceCtorEq, ↓reduceIte, Int.reduceEq, Int.reduceNeg, Int.reduceLT, Int.reduceLE, Int.reduceAdd, Int.reduceSub, Int.reduceMul]
    repeat' (first | simp -implicitDefEqProofs only [go_sem, Nat.reduceEqDiff, Nat.reduceAdd, Nat.reduceMul, Nat.reduceLeDiff, Nat.reduceSub, Nat.reduceLT, Nat.reduceBEq, Int.reduceToNat, reduceCtorEq, ↓reduceIte, Int.reduceEq, Int.reduceNeg, Int.reduceLT, Int.reduceLE, Int.reduceAdd, Int.reduceSub, Int.reduceMul] | simp -implicitDefEqProofs (disch := omega) only [iaq_vec, iao_arr, iaq_raw, rd_map, wrap_id, binq_quo, binq_rem, binq_shl, binq_shr, tdiv_pos, tmod_pos, if_pos, exV_some, Option.map_some] | ((first | with_reducible apply exIf_dec | ((with_reducible apply exGd_dec); focus exact rfl) | ((with_reducible apply exGq_dec); focus exact rfl) | with_reducible apply exIf_intro | ((with_reducible apply exGd_intro); focus exact rfl) | ((with_reducible apply exGq_intro); focus exact rfl)) <;> intro _) | with_reducible refine exC_pure (c1 _) ?_ | with_reducible refine exCq_pure (c1 _) ?_ | with_reducible refine exC_pure (c2 _) ?_ | with_reducible refine exCq_pure (c2 _) ?_)
    all_goals first | exact h | (exfalso; omega) | skip
    done
theorem small15_c (g : Graph) (H : AHeap) : APure Try.prog 17 [g.av] H (bv (decide (g.nodes ≤ 10 ∧ g.links.length ≤ 16))) := by
  intro Q h
  refine ACalls.of_code fn_waymarklaw15_Small ?_
  simp -implicitDefEqProofs only [sc_waymarklaw15_Small, Graph.av, go_sem, Nat.reduceEqDiff, Nat.reduceAdd, Nat.reduceMul, Nat.reduceLeDiff, Nat.reduceSub, Nat.reduceLT, Nat.reduceBEq, Int.reduceToNat, reduceCtorEq, ↓reduceIte, Int.reduceEq, Int.reduceNeg, Int.reduceLT, Int.reduceLE, Int.reduceAdd, Int.reduceSub, Int.reduceMul]
  repeat' (first | simp -implicitDefEqProofs only [go_sem, Nat.reduceEqDiff, Nat.reduceAdd, Nat.reduceMul, Nat.reduceLeDiff, Nat.reduceSub, Nat.reduceLT, Nat.reduceBEq, Int.reduceToNat, reduceCtorEq, ↓reduceIte, Int.reduceEq, Int.reduceNeg, Int.reduceLT, Int.reduceLE, Int.reduceAdd, Int.reduceSub, Int.reduceMul] | simp -implicitDefEqProofs (disch := omega) only [iaq_vec, iao_arr, iaq_raw, rd_map, wrap_id, binq_quo, binq_rem, binq_shl, binq_shr, tdiv_pos, tmod_pos, if_pos, exV_some, Option.map_some] | ((first | with_reducible apply exIf_dec | ((with_reducible apply exGd_dec); focus exact rfl) | ((with_reducible apply exGq_dec); focus exact rfl) | with_reducible apply exIf_intro | ((with_reducible apply exGd_intro); focus exact rfl) | ((with_reducible apply exGq_intro); focus exact rfl)) <;> intro _))
  all_goals first | (exfalso; omega) | skip
  all_goals refine fin_ h (congrArg (fun b => AV.raw (.bool b)) ?_)
  all_goals simp [*]
  all_goals first | omega | skip
theorem rd_sg_v {nl : Bool} {l : List Sg} {i : Int} (h0 : 0 ≤ i) (h1 : i < l.length) : rdV (rows l) (i.toNat * 2) 2 true = some (.agg [bv (gi l i).edge, iv (gi l i).to]) := rd_row rfl h0 h1
theorem sameSegs_c (nl nm : Bool) (l : List Sg) (hll : l.length ≤ 1000) (H : AHeap) : APure Try.prog 22 [.vec nl (rows l) l.length, .vec nm (rows l) l.length] H (bv true) := by
  intro Q h
  refine ACalls.of_code fn_waymarkref11_SameSegs ?_
  simp -implicitDefEqProofs only [sc_waymarkref11_SameSegs, go_sem, Nat.reduceEqDiff, Nat.reduceAdd, Nat.reduceMul, Nat.reduceLeDiff, Nat.reduceSub, Nat.reduceLT, Nat.reduceBEq, Int.reduceToNat, reduceCtorEq, ↓reduceIte, Int.reduceEq, Int.reduceNeg, Int.reduceLT, Int.reduceLE, Int.reduceAdd, Int.reduceSub, Int.reduceMul]
  repeat' (first | simp -implicitDefEqProofs only [go_sem, Nat.reduceEqDiff, Nat.reduceAdd, Nat.reduceMul, Nat.reduceLeDiff, Nat.reduceSub, Nat.reduceLT, Nat.reduceBEq, Int.reduceToNat, reduceCtorEq, ↓reduceIte, Int.reduceEq, Int.reduceNeg, Int.reduceLT, Int.reduceLE, Int.reduceAdd, Int.reduceSub, Int.reduceMul] | simp -implicitDefEqProofs (disch := omega) only [iaq_vec, iao_arr, iaq_raw, rd_map, wrap_id, binq_quo, binq_rem, binq_shl, binq_shr, tdiv_pos, tmod_pos, if_pos, exV_some, Option.map_some] | ((first | with_reducible apply exIf_dec | ((with_reducible apply exGd_dec); focus exact rfl) | ((with_reducible apply exGq_dec); focus exact rfl) | with_reducible apply exIf_intro | ((with_reducible apply exGd_intro); focus exact rfl) | ((with_reducible apply exGq_intro); focus exact rfl)) <;> intro _))
  all_goals first | (exfalso; omega) | skip
  refine exL_mod (fun i : Int => [(5, .v (iv i))]) (fun _ => []) (fun i => 0 ≤ i ∧ i ≤ l.length) (fun i => (l.length - i).toNat) 0 rfl ⟨by omega, by omega⟩ ?_
  rintro i ⟨i0, i1⟩ ih
  simp only [S.up, S.upH, ups, Abs.put, Nat.reduceEqDiff, ↓reduceIte, Nat.reduceAdd] at ih
  simp -implicitDefEqProofs only [congrArg KI.code sc_waymarkref11_SameSegs_L0.eq_1, go_sem, Nat.reduceEqDiff, Nat.reduceAdd, Nat.reduceMul, Nat.reduceLeDiff, Nat.reduceSub, Nat.reduceLT, Nat.reduceBEq, Int.reduceToNat, reduceCtorEq, ↓reduceIte, Int.reduceEq, Int.reduceNeg, Int.reduceLT, Int.reduceLE, Int.reduceAdd, Int.reduceSub, Int.reduceMul]
  by_cases hlt : i < l.length
  · have nx := ih (i + 1) ⟨by omega, by omega⟩ (by omega)
    have hrd := rd_sg_v (nl := nl) i0 hlt
    clear ih
    repeat' (first | simp -implicitDefEqProofs only [go_sem, Nat.reduceEqDiff, Nat.reduceAdd, Nat.reduceMul, Nat.reduceLeDiff, Nat.reduceSub, Nat.reduceLT, Nat.reduceBEq, Int.reduceToNat, reduceCtorEq, ↓reduceIte, Int.reduceEq, Int.reduceNeg, Int.reduceLT, Int.reduceLE, Int.reduceAdd, Int.reduceSub, Int.reduceMul] | simp -implicitDefEqProofs (disch := omega) only [hrd, iaq_vec, iao_arr, iaq_raw, rd_map, wrap_id, binq_quo, binq_rem, binq_shl, binq_shr, tdiv_pos, tmod_pos, if_pos, exV_some, Option.map_some] | ((first | with_reducible apply exIf_dec | ((with_reducible apply exGd_dec); focus exact rfl) | ((with_reducible apply exGq_dec); focus exact rfl) | with_reducible apply exIf_intro | ((with_reducible apply exGd_intro); focus exact rfl) | ((with_reducible apply exGq_intro); focus exact rfl)) <;> intro _))
    all_goals first | exact nx | (exfalso; omega) | skip
    done
  · clear ih
    repeat' (first | simp -implicitDefEqProofs only [go_sem, Nat.reduceEqDiff, Nat.reduceAdd, Nat.reduceMul, Nat.reduceLeDiff, Nat.reduceSub, Nat.reduceLT, Nat.reduceBEq, Int.reduceToNat, reduceCtorEq, ↓reduceIte, Int.reduceEq, Int.reduceNeg, Int.reduceLT, Int.reduceLE, Int.reduceAdd, Int.reduceSub, Int.reduceMul] | simp -implicitDefEqProofs (disch := omega) only [iaq_vec, iao_arr, iaq_raw, rd_map, wrap_id, binq_quo, binq_rem, binq_shl, binq_shr, tdiv_pos, tmod_pos, if_pos, exV_some, Option.map_some] | ((first | with_reducible apply exIf_dec | ((with_reducible apply exGd_dec); focus exact rfl) | ((with_reducible apply exGq_dec); focus exact rfl) | with_reducible apply exIf_intro | ((with_reducible apply exGd_intro); focus exact rfl) | ((with_reducible apply exGq_intro); focus exact rfl)) <;> intro _))
    all_goals first | exact h | (exfalso; omega) | skip
    done
theorem segsA2 : segsA g2_ = [⟨false, 0⟩] ++ ⟨false, 1⟩ :: [⟨true, 0⟩, ⟨true, 1⟩] := by decide
theorem opt20 : optErr g2_ w0_ [] = 0 := by
  have hr : rightErr g2_ w0_ = 0 := by decide
  have hf := (wfit_of hr).fit
  have hz : leg g2_ w0_ [] 0 = 0 := ((distL_spec hf (pruned g2_ w0_ []) (s := 0) (by decide)).1).zero hf (by decide)
  rw [optErr, if_neg (by rw [hr]; decide), if_neg, if_neg (by decide)]
  show ¬ noLeg g2_ w0_ [] (0 + 1) = true
  rw [noLeg_succ]
  simp [noLeg, hz]
theorem step2 : stepW g2_ w1_ [] (startW w1_) 0 = some (1, 1) := by
  have he := opt2.1
  rw [stepW, if_pos]
  · rfl
  · refine ⟨he, by decide, by decide, by decide, by decide, by decide, by decide, ?_, ?_⟩
    · show 0 ≤ gi (farOf g2_ w1_ [] 1) 1
      rw [far2]; decide
    · show gi (farOf g2_ w1_ [] 1) 0 = gi (farOf g2_ w1_ [] 1) 1 + 7
      rw [far2]; decide
theorem comp20 : compW g2_ w0_ [] 3 = ([], 0) := comp_nil opt20 (by decide) 3
theorem nxt201 : nxtOf g2_ 0 1 = [0] := by rw [nxtOf, if_pos ⟨by decide, by decide⟩, dist2.2]; decide
theorem comp21 : compW g2_ w1_ [] 3 = ([⟨false, 1⟩], 0) := by
  have hf : Fit g2_ := fit_of _ (by decide)
  refine comp_one opt2.1 (by decide) (by decide) segsA2 (fun s' hs' => ?_) ?_
  · rw [List.mem_singleton.1 hs']
    show segN g2_ w1_ [] (startW w1_) 0 ≠ _
    rw [segN, if_pos (by decide)]; simp
  · show segN g2_ w1_ [] (startW w1_) 1 = _
    rw [segN, if_neg (by decide), endN_eq hf, if_neg (by decide), show (startW w1_).1 = 0 from rfl, nxt201]
    simp only [List.map_cons, List.map_nil, step2, Option.bind_some, joinO, List.all_nil, if_true]
    exact endN_self hf rfl
theorem alive17_c (H : AHeap) : APure Try.prog 16 [] H (bv true) := by
  intro Q h
  refine ACalls.of_code fn_waymarklaw17_alive ?_
  have hc2 : (check g2_).2 = 0 := by decide
  have c1 := tables16_c g2_ (by decide) (by decide) H
  rw [tabs16, if_pos hc2] at c1
  have c2 := compile_c g2_ (by decide) (by decide) w0_ ⟨by decide, by decide, by decide, by decide⟩ true [] 3 H
  have c3 := compile_c g2_ (by decide) (by decide) w1_ ⟨by decide, by decide, by decide, by decide⟩ true [] 3 H
  rw [compAV, comp20] at c2
  rw [compAV, comp21] at c3
  obtain ⟨cs, hcs⟩ : ∃ cs, tab g2_ = .box cs 0 := ⟨_, rfl⟩
  obtain ⟨ds, hds⟩ : ∃ cs, refTab g2_ = .box cs 0 := ⟨_, rfl⟩
  rw [hcs] at c1 c2 c3
  rw [hds] at c1
  simp only [Graph.av, Want.av, blv, sl, g2_, w0_, w1_] at c1 c2 c3
  simp only [rows, List.flatMap_cons, List.flatMap_nil, List.append_nil, Link.cells_eq, Sg.cells_eq, List.map_cons, List.map_nil, List.length_cons, List.length_nil, List.isEmpty_nil, List.isEmpty_cons, Nat.zero_add, Int.natCast_zero, Int.zero_add, Int.cast_ofNat_Int] at c1 c2 c3
  simp -implicitDefEqProofs only [sc_waymarklaw17_alive, go_sem, Nat.reduceEqDiff, Nat.reduceAdd, Nat.reduceMul, Nat.reduceLeDiff, Nat.reduceSub, Nat.reduceLT, Nat.reduceBEq, Int.reduceToNat, reduceCtorEq, ↓reduceIte, Int.reduceEq, Int.reduceNeg, Int.reduceLT, Int.reduceLE, Int.reduceAdd, Int.reduceSub, Int.reduceMul]
  repeat' (first | simp -implicitDefEqProofs only [go_sem, Nat.reduceEqDiff, Nat.reduceAdd, Nat.reduceMul, Nat.reduceLeDiff, Nat.reduceSub, Nat.reduceLT, Nat.reduceBEq, Int.reduceToNat, reduceCtorEq, ↓reduceIte, Int.reduceEq, Int.reduceNeg, Int.reduceLT, Int.reduceLE, Int.reduceAdd, Int.reduceSub, Int.reduceMul] | simp -implicitDefEqProofs (disch := omega) only [iaq_vec, iao_arr, iaq_raw, rd_map, wrap_id, binq_quo, binq_rem, binq_shl, binq_shr, tdiv_pos, tmod_pos, if_pos, exV_some, Option.map_some] | ((first | with_reducible apply exIf_dec | ((with_reducible apply exGd_dec); focus exact rfl) | ((with_reducible apply exGq_dec); focus exact rfl) | with_reducible apply exIf_intro | ((with_reducible apply exGd_intro); focus exact rfl) | ((with_reducible apply exGq_intro); focus exact rfl)) <;> intro _) | with_reducible refine exC_pure (c1) ?_ | with_reducible refine exCq_pure (c1) ?_ | with_reducible refine exC_pure (c2) ?_ | with_reducible refine exCq_pure (c2) ?_ | with_reducible refine exC_pure (c3) ?_ | with_reducible refine exCq_pure (c3) ?_ | with_reducible refine exC_pure (num17_c _ _) ?_ | with_reducible refine exCq_pure (num17_c _ _) ?_)
  all_goals first | exact h | skip
  done
end Go.Proofs.Ytejmcijcdhoogaa
end

section
/- The laws CompileNone and CompileDeeper of chapter 17, as contracts. -/
namespace Go.Proofs.Ytejmcijcdhoogaa
open Go Abs
attribute [local irreducible] EX exL exG exC exCq exS exV exIf exGd exGq
set_option maxHeartbeats 4000000
theorem compW_cases (g : Graph) (w : Want) (down : List Bool) (depth : Int) (h0 : optErr g w down = 0) :
    (∃ n, n ≤ cut10 depth ∧ Tg g w down n (startW w) ∧ (∀ m, Tg g w down m (startW w) → n ≤ m) ∧ compW g w down depth = (lst g w down n (startW w), 0)) ∨ ((∀ n, n ≤ cut10 depth → ¬ Tg g w down n (startW w)) ∧ compW g w down depth = ([], 9)) := by
  by_cases h : ∃ n, n ≤ cut10 depth ∧ Tg g w down n (startW w)
  · obtain ⟨n, hn, ht⟩ := h
    obtain ⟨m, hm, hl⟩ := leastN (p := fun k => Tg g w down k (startW w)) ⟨n, ht⟩
    have := hl n ht
    exact .inl ⟨m, by omega, hm, hl, compW_ok h0 (by omega) hm hl⟩
  · exact .inr ⟨fun n hn ht => h ⟨n, hn, ht⟩, compW_deep h0 fun n hn ht => h ⟨n, hn, ht⟩⟩
theorem compW_len (g : Graph) (w : Want) (down : List Bool) (depth : Int) : (compW g w down depth).1.length ≤ 10 := by
  by_cases h0 : optErr g w down = 0
  · rcases compW_cases g w down depth h0 with ⟨n, h1, h2, -, h3⟩ | ⟨-, h3⟩
    · rw [h3]
      dsimp only
      rw [lst_length h2]
      unfold cut10 at h1
      omega
    · rw [h3]; simp
  · rw [compW, if_pos h0]; simp
theorem compW_err {g : Graph} {w : Want} {down : List Bool} {d : Int} (h : (compW g w down d).2 = 0) : optErr g w down = 0 := by
  by_cases h0 : optErr g w down = 0
  · exact h0
  · rw [compW, if_pos h0] at h; exact absurd h h0
theorem compW_first {g : Graph} {w : Want} {down : List Bool} {d : Int} (d0 : 0 ≤ d) (d1 : d ≤ 10) (h : (compW g w down d).2 = 0) (hl : ∀ d', 0 ≤ d' → d' < d → (compW g w down d').2 ≠ 0) : ((compW g w down d).1.length : Int) = d := by
  have h0 := compW_err h
  rcases compW_cases g w down d h0 with ⟨n, h1, h2, h4, h3⟩ | ⟨-, h3⟩
  · rw [h3]
    dsimp only
    rw [lst_length h2]
    unfold cut10 at h1
    by_cases e : (n : Int) = d
    · exact e
    · exfalso
      refine hl n (by omega) (by omega) ?_
      rw [compW_ok h0 (by unfold cut10; omega) h2 h4]
  · rw [h3] at h; cases h
theorem compW_more {g : Graph} {w : Want} {down : List Bool} {d d' : Int} {l : List Sg} (hd : d' ≤ d) (h : compW g w down d' = (l, 0)) : compW g w down d = (l, 0) := by
  have h0 : optErr g w down = 0 := compW_err (by rw [h])
  rcases compW_cases g w down d' h0 with ⟨n, h1, h2, h4, h3⟩ | ⟨-, h3⟩
  · rw [h3] at h
    rw [compW_ok h0 (by unfold cut10 at h1 ⊢; omega) h2 h4, h]
  · rw [h3] at h; cases h
theorem compileDeeper_c (g : Graph) (hb : g.links.length * 32 ≤ 140737488351232) (hn : g.nl = true → g.links = []) (w : Want) (hw : w.ok) (nl : Bool) (down : List Bool) (H : AHeap) :
    APure Try.prog 6 [g.av, w.av, blv nl down] H (bv true) := by
  intro Q h
  have fc := fun H => few_c w H
  have sc := fun H => small15_c g H
  have tc := fun H => tables16_c g hb hn H
  have cc := fun depth H => compile_c g hb hn w hw nl down depth H
  refine ACalls.of_code fn_waymarklaw17_CompileDeeper ?_
  by_cases hc : (check g).2 = 0
  · rw [tabs16, if_pos hc] at tc
    obtain ⟨cs, hcs⟩ : ∃ cs, tab g = .box cs 0 := ⟨_, rfl⟩
    obtain ⟨ds, hds⟩ : ∃ cs, refTab g = .box cs 0 := ⟨_, rfl⟩
    rw [hcs] at tc cc
    rw [hds] at tc
    simp only [Graph.av, Want.av, blv, sl] at fc sc tc cc
    simp -implicitDefEqProofs only [sc_waymarklaw17_CompileDeeper, Graph.av, Want.av, blv, sl, go_sem, Nat.reduceEqDiff, Nat.reduceAdd, Nat.reduceMul, Nat.reduceLeDiff, Nat.reduceSub, Nat.reduceLT, Nat.reduceBEq, Int.reduceToNat, reduceCtorEq, ↓reduceIte, Int.reduceEq, Int.reduceNeg, Int.reduceLT, Int.reduceLE, Int.reduceAdd, Int.reduceSub, Int.reduceMul]
    refine exC_pure (alive17_c _) ?_
    repeat' (first | simp -implicitDefEqProofs only [go_sem, Nat.reduceEqDiff, Nat.reduceAdd, Nat.reduceMul, Nat.reduceLeDiff, Nat.reduceSub, Nat.reduceLT, Nat.reduceBEq, Int.reduceToNat, reduceCtorEq, ↓reduceIte, Int.reduceEq, Int.reduceNeg, Int.reduceLT, Int.reduceLE, Int.reduceAdd, Int.reduceSub, Int.reduceMul] | simp -implicitDefEqProofs (disch := omega) only [iaq_vec, iao_arr, iaq_raw, rd_map, wrap_id, binq_quo, binq_rem, binq_shl, binq_shr, tdiv_pos, tmod_pos, if_pos, exV_some, Option.map_some] | ((first | with_reducible apply exIf_dec | ((with_reducible apply exGd_dec); focus exact rfl) | ((with_reducible apply exGq_dec); focus exact rfl) | with_reducible apply exIf_intro | ((with_reducible apply exGd_intro); focus exact rfl) | ((with_reducible apply exGq_intro); focus exact rfl)) <;> intro _) | with_reducible refine exC_pure (fc _) ?_ | with_reducible refine exCq_pure (fc _) ?_ | with_reducible refine exC_pure (sc _) ?_ | with_reducible refine exCq_pure (sc _) ?_ | with_reducible refine exC_pure (tc _) ?_ | with_reducible refine exCq_pure (tc _) ?_)
    all_goals first | exact h | (exfalso; omega) | skip
    refine exL_mod (fun a : Int × Bool × Bool × List Sg => [(11, .v (bv a.2.1)), (12, .v (.vec a.2.2.1 (rows a.2.2.2) a.2.2.2.length)), (13, .v (iv a.1))]) (fun _ => []) (fun a => (0 ≤ a.1 ∧ a.1 ≤ 11) ∧ (a.2.1 = false → ∀ d : Int, 0 ≤ d → d < a.1 → (compW g w down d).2 ≠ 0) ∧ (a.2.1 = true → ∃ d : Int, 0 ≤ d ∧ d < a.1 ∧ compW g w down d = (a.2.2.2, 0))) (fun a => (11 - a.1).toNat) (0, false, true, []) rfl ⟨⟨by decide, by decide⟩, fun _ d d0 d1 => by dsimp only at d1; omega, fun hh => by cases hh⟩ ?_
    rintro ⟨d, had, fnl, first⟩ ⟨⟨d0, d1⟩, hf, ht⟩ ih
    dsimp only at d0 d1 hf ht ih
    simp only [S.up, S.upH, ups, Abs.put, Nat.reduceEqDiff, ↓reduceIte, Nat.reduceAdd] at ih
    simp -implicitDefEqProofs only [congrArg KI.code sc_waymarklaw17_CompileDeeper_L0.eq_1, go_sem, Nat.reduceEqDiff, Nat.reduceAdd, Nat.reduceMul, Nat.reduceLeDiff, Nat.reduceSub, Nat.reduceLT, Nat.reduceBEq, Int.reduceToNat, reduceCtorEq, ↓reduceIte, Int.reduceEq, Int.reduceNeg, Int.reduceLT, Int.reduceLE, Int.reduceAdd, Int.reduceSub, Int.reduceMul]
    by_cases hd : d ≤ 10
    · have ccd := fun H => cc d H
      have same := fun nl nm H => sameSegs_c nl nm (compW g w down d).1 (by have := compW_len g w down d; omega) H
      by_cases he : (compW g w down d).2 = 0
      · have hcw : compW g w down d = ((compW g w down d).1, 0) := Prod.ext rfl he
        obtain ⟨l, hl⟩ : ∃ l, l = (compW g w down d).1 := ⟨_, rfl⟩
        rw [← hl] at hcw same
        rw [compAV, hcw] at ccd
        have ccd : ∀ H, APure Try.prog 20 [.box cs 0, w.av, blv nl down, iv d] H (.tup [.vec l.isEmpty (rows l) l.length, iv 0]) := ccd
        simp only [Want.av, blv, sl] at ccd
        cases had with
        | false =>
          have hlen := compW_first d0 hd he (hf rfl)
          rw [← hl] at hlen
          have nx := ih (d + 1, true, l.isEmpty, l) ⟨⟨by dsimp only; omega, by dsimp only; omega⟩, (fun hh => by cases hh), fun _ => ⟨d, d0, by dsimp only; omega, hcw⟩⟩ (by dsimp only; omega)
          dsimp only at nx
          clear ih
          repeat' (first | simp -implicitDefEqProofs only [go_sem, Nat.reduceEqDiff, Nat.reduceAdd, Nat.reduceMul, Nat.reduceLeDiff, Nat.reduceSub, Nat.reduceLT, Nat.reduceBEq, Int.reduceToNat, reduceCtorEq, ↓reduceIte, Int.reduceEq, Int.reduceNeg, Int.reduceLT, Int.reduceLE, Int.reduceAdd, Int.reduceSub, Int.reduceMul] | simp -implicitDefEqProofs (disch := omega) only [iaq_vec, iao_arr, iaq_raw, rd_map, wrap_id, binq_quo, binq_rem, binq_shl, binq_shr, tdiv_pos, tmod_pos, if_pos, exV_some, Option.map_some] | ((first | with_reducible apply exIf_dec | ((with_reducible apply exGd_dec); focus exact rfl) | ((with_reducible apply exGq_dec); focus exact rfl) | with_reducible apply exIf_intro | ((with_reducible apply exGd_intro); focus exact rfl) | ((with_reducible apply exGq_intro); focus exact rfl)) <;> intro _) | with_reducible refine exC_pure (ccd _) ?_ | with_reducible refine exCq_pure (ccd _) ?_ | with_reducible refine exC_pure (num17_c _ _) ?_ | with_reducible refine exCq_pure (num17_c _ _) ?_)
          all_goals first | exact nx | (exfalso; omega) | skip
          done
        | true =>
          obtain ⟨d', e0, e1, e2⟩ := ht rfl
          have e3 := compW_more (d := d) (by omega) e2
          obtain rfl : l = first := by rw [hcw] at e3; injection e3
          have nx := ih (d + 1, true, fnl, l) ⟨⟨by dsimp only; omega, by dsimp only; omega⟩, (fun hh => by cases hh), fun _ => ⟨d, d0, by dsimp only; omega, hcw⟩⟩ (by dsimp only; omega)
          dsimp only at nx
          clear ih
          repeat' (first | simp -implicitDefEqProofs only [go_sem, Nat.reduceEqDiff, Nat.reduceAdd, Nat.reduceMul, Nat.reduceLeDiff, Nat.reduceSub, Nat.reduceLT, Nat.reduceBEq, Int.reduceToNat, reduceCtorEq, ↓reduceIte, Int.reduceEq, Int.reduceNeg, Int.reduceLT, Int.reduceLE, Int.reduceAdd, Int.reduceSub, Int.reduceMul] | simp -implicitDefEqProofs (disch := omega) only [iaq_vec, iao_arr, iaq_raw, rd_map, wrap_id, binq_quo, binq_rem, binq_shl, binq_shr, tdiv_pos, tmod_pos, if_pos, exV_some, Option.map_some] | ((first | with_reducible apply exIf_dec | ((with_reducible apply exGd_dec); focus exact rfl) | ((with_reducible apply exGq_dec); focus exact rfl) | with_reducible apply exIf_intro | ((with_reducible apply exGd_intro); focus exact rfl) | ((with_reducible apply exGq_intro); focus exact rfl)) <;> intro _) | with_reducible refine exC_pure (ccd _) ?_ | with_reducible refine exCq_pure (ccd _) ?_ | with_reducible refine exC_pure (same _ _ _) ?_ | with_reducible refine exCq_pure (same _ _ _) ?_ | with_reducible refine exC_pure (num17_c _ _) ?_ | with_reducible refine exCq_pure (num17_c _ _) ?_)
          all_goals first | exact nx | (exfalso; omega) | skip
          done
      · have hb2 : (compW g w down d).2 ≠ 0 := he
        cases had with
        | false =>
          have nx := ih (d + 1, false, fnl, first) ⟨⟨by dsimp only; omega, by dsimp only; omega⟩, (fun _ d' e0 e1 => by
            by_cases e : d' = d
            · rw [e]; exact he
            · exact hf rfl d' e0 (by dsimp only at e1; omega)), fun hh => by cases hh⟩ (by dsimp only; omega)
          dsimp only at nx
          clear ih
          rw [compAV] at ccd
          obtain ⟨l, hl⟩ : ∃ l, l = (compW g w down d).1 := ⟨_, rfl⟩
          obtain ⟨e, hee⟩ : ∃ e, e = (compW g w down d).2 := ⟨_, rfl⟩
          rw [← hl, ← hee] at ccd
          rw [← hee] at he
          repeat' (first | simp -implicitDefEqProofs only [go_sem, Nat.reduceEqDiff, Nat.reduceAdd, Nat.reduceMul, Nat.reduceLeDiff, Nat.reduceSub, Nat.reduceLT, Nat.reduceBEq, Int.reduceToNat, reduceCtorEq, ↓reduceIte, Int.reduceEq, Int.reduceNeg, Int.reduceLT, Int.reduceLE, Int.reduceAdd, Int.reduceSub, Int.reduceMul] | simp -implicitDefEqProofs (disch := omega) only [iaq_vec, iao_arr, iaq_raw, rd_map, wrap_id, binq_quo, binq_rem, binq_shl, binq_shr, tdiv_pos, tmod_pos, if_pos, exV_some, Option.map_some] | ((first | with_reducible apply exIf_dec | ((with_reducible apply exGd_dec); focus exact rfl) | ((with_reducible apply exGq_dec); focus exact rfl) | with_reducible apply exIf_intro | ((with_reducible apply exGd_intro); focus exact rfl) | ((with_reducible apply exGq_intro); focus exact rfl)) <;> intro _) | with_reducible refine exC_pure (ccd _) ?_ | with_reducible refine exCq_pure (ccd _) ?_ | with_reducible refine exC_pure (num17_c _ _) ?_ | with_reducible refine exCq_pure (num17_c _ _) ?_)
          all_goals first | exact nx | (exfalso; omega) | skip
          done
        | true =>
          exfalso
          obtain ⟨d', e0, e1, e2⟩ := ht rfl
          have e3 := compW_more (d := d) (by omega) e2
          rw [e3] at he
          exact he rfl
    · clear ih
      repeat' (first | simp -implicitDefEqProofs only [go_sem, Nat.reduceEqDiff, Nat.reduceAdd, Nat.reduceMul, Nat.reduceLeDiff, Nat.reduceSub, Nat.reduceLT, Nat.reduceBEq, Int.reduceToNat, reduceCtorEq, ↓reduceIte, Int.reduceEq, Int.reduceNeg, Int.reduceLT, Int.reduceLE, Int.reduceAdd, Int.reduceSub, Int.reduceMul] | simp -implicitDefEqProofs (disch := omega) only [iaq_vec, iao_arr, iaq_raw, rd_map, wrap_id, binq_quo, binq_rem, binq_shl, binq_shr, tdiv_pos, tmod_pos, if_pos, exV_some, Option.map_some] | ((first | with_reducible apply exIf_dec | ((with_reducible apply exGd_dec); focus exact rfl) | ((with_reducible apply exGq_dec); focus exact rfl) | with_reducible apply exIf_intro | ((with_reducible apply exGd_intro); focus exact rfl) | ((with_reducible apply exGq_intro); focus exact rfl)) <;> intro _))
      all_goals first | exact h | (exfalso; omega) | skip
      done
  · rw [tabs16, if_neg hc] at tc
    simp only [Graph.av, Want.av, blv, sl] at fc sc tc cc
    simp -implicitDefEqProofs only [sc_waymarklaw17_CompileDeeper, Graph.av, Want.av, blv, sl, go_sem, Nat.reduceEqDiff, Nat.reduceAdd, Nat.reduceMul, Nat.reduceLeDiff, Nat.reduceSub, Nat.reduceLT, Nat.reduceBEq, Int.reduceToNat, reduceCtorEq, ↓reduceIte, Int.reduceEq, Int.reduceNeg, Int.reduceLT, Int.reduceLE, Int.reduceAdd, Int.reduceSub, Int.reduceMul]
    refine exC_pure (alive17_c _) ?_
    repeat' (first | simp -implicitDefEqProofs only [go_sem, Nat.reduceEqDiff, Nat.reduceAdd, Nat.reduceMul, Nat.reduceLeDiff, Nat.reduceSub, Nat.reduceLT, Nat.reduceBEq, Int.reduceToNat, reduceCtorEq, ↓reduceIte, Int.reduceEq, Int.reduceNeg, Int.reduceLT, Int.reduceLE, Int.reduceAdd, Int.reduceSub, Int.reduceMul] | simp -implicitDefEqProofs (disch := omega) only [iaq_vec, iao_arr, iaq_raw, rd_map, wrap_id, binq_quo, binq_rem, binq_shl, binq_shr, tdiv_pos, tmod_pos, if_pos, exV_some, Option.map_some] | ((first | with_reducible apply exIf_dec | ((with_reducible apply exGd_dec); focus exact rfl) | ((with_reducible apply exGq_dec); focus exact rfl) | with_reducible apply exIf_intro | ((with_reducible apply exGd_intro); focus exact rfl) | ((with_reducible apply exGq_intro); focus exact rfl)) <;> intro _) | with_reducible refine exC_pure (fc _) ?_ | with_reducible refine exCq_pure (fc _) ?_ | with_reducible refine exC_pure (sc _) ?_ | with_reducible refine exCq_pure (sc _) ?_ | with_reducible refine exC_pure (tc _) ?_ | with_reducible refine exCq_pure (tc _) ?_)
    all_goals first | exact h | (exfalso; omega) | skip
    done
end Go.Proofs.Ytejmcijcdhoogaa
end

section
/- Three nodes, each joined to each other: where its segments lead. -/
namespace Go.Proofs.Ytejmcijcdhoogaa
open Go Abs
attribute [local irreducible] EX exL exG exC exCq exS exV exIf exGd exGq
set_option maxHeartbeats 1000000
theorem dist_of {g : Graph} {down : List Bool} {s : Int} {d : List Int} (hl : (d.length : Int) = g.nodes) (h0 : gi d s = 0) (hw : ∀ v : Int, 0 ≤ v → v < g.nodes → gi d v = -1 ∨ (0 ≤ gi d v ∧ Walk g down s v (gi d v))) (hr : ∀ e : Int, 0 ≤ e → e < 2 * g.links.length → Relaxed g down d e) : distL g down s = d := by
  refine distL_eq ⟨hl, fun v v0 v1 hn => ?_, fun v v0 v1 hp => ?_, fun v L hh => ?_⟩
  · rcases hw v v0 v1 with h | h <;> omega
  · rcases hw v v0 v1 with h | h
    · omega
    · exact h.2
  · induction hh with
    | nil => omega
    | step _ e0 e1 hu ha ih =>
      have := hr _ e0 e1 hu (by rw [ha]; exact ih.1)
      rw [ha] at this
      omega
theorem mem_nxt {g : Graph} (hf : Fit g) {a b e : Int} : e ∈ nxtOf g a b ↔ ((0 ≤ a ∧ a < g.nodes) ∧ (0 ≤ b ∧ b < g.nodes)) ∧ (0 ≤ e ∧ e < 2 * g.links.length) ∧ (ends g e).1 = a ∧ 0 < distOf g a b ∧ 0 ≤ distOf g (ends g e).2.1 b ∧ distOf g a b - wt g e = distOf g (ends g e).2.1 b := by
  constructor
  · intro h
    obtain ⟨h1, h2, h3, -, h5, h6⟩ := nxt_mem hf h
    have hab : (0 ≤ a ∧ a < g.nodes) ∧ (0 ≤ b ∧ b < g.nodes) := by
      unfold nxtOf at h
      split at h
      · assumption
      · cases h
    refine ⟨hab, ⟨h1, h2⟩, h3, h6, ?_, h5.symm⟩
    unfold nxtOf at h
    rw [if_pos hab] at h
    unfold nextL at h
    split at h
    · obtain ⟨-, h8⟩ := List.mem_filter.1 h
      unfold onB at h8
      simp only [Bool.and_eq_true, decide_eq_true_eq] at h8
      rw [distOf, if_pos ⟨(hf.b e h1 h2).2, hab.2⟩]
      exact h8.2.1
    · cases h
  · rintro ⟨hab, ⟨h1, h2⟩, h3, h4, h5, h6⟩
    have hb := (hf.b e h1 h2).2
    have q1 : distOf g (ends g e).2.1 b = gi (distL g [] b) (ends g e).2.1 := by rw [distOf, if_pos ⟨hb, hab.2⟩]
    have q2 : distOf g a b = gi (distL g [] b) a := by rw [distOf, if_pos hab]
    rw [q1] at h5 h6
    rw [q2] at h4 h6
    rw [nxtOf, if_pos hab, nextL, if_pos ⟨hf.ok, (distL_spec hf [] hab.2).1.len, hab.1, h4⟩, List.mem_filter, onB]
    refine ⟨(out_mem g e a).2 ⟨h1, h2, h3⟩, ?_⟩
    have hu : upE [] e = true := by simp [upE, gi]
    simp [h5, h6, hu]
theorem endN_ne {g : Graph} (hf : Fit g) {w : Want} {down : List Bool} {to : Int} {a : St} {e : Int} (ha : a.1 ≠ to) (he : e ∈ nxtOf g a.1 to) (hs : stepW g w down a e = none) {r : St} : endN g w down to a ≠ some r := by
  intro h
  obtain ⟨b, h1, -⟩ := (endN_next hf ha h).2 e he
  rw [hs] at h1
  cases h1
theorem endN_all {g : Graph} (hf : Fit g) {w : Want} {down : List Bool} {to : Int} {a r : St} {e : Int} (ha : a.1 ≠ to) (he : e ∈ nxtOf g a.1 to) (hs : ∀ e ∈ nxtOf g a.1 to, ∃ b, stepW g w down a e = some b ∧ endN g w down to b = some r) : endN g w down to a = some r := by
  rw [endN_eq hf, if_neg ha, joinO_some]
  refine ⟨?_, fun x hx => ?_⟩
  · intro h
    rw [List.map_eq_nil_iff] at h
    rw [h] at he
    cases he
  · obtain ⟨e', he', rfl⟩ := List.mem_map.1 hx
    obtain ⟨b, h1, h2⟩ := hs e' he'
    rw [h1]
    exact h2
def tri (d c : Int) : Graph := ⟨3, false, [⟨0, 1, d, 0⟩, ⟨0, 2, c, 0⟩, ⟨2, 1, c, 0⟩]⟩
section
variable {d c : Int}
theorem tri_ends0 : ends (tri d c) 0 = (0, 1, true) := rfl
theorem tri_ends1 : ends (tri d c) 1 = (1, 0, true) := rfl
theorem tri_ends2 : ends (tri d c) 2 = (0, 2, true) := rfl
theorem tri_ends3 : ends (tri d c) 3 = (2, 0, true) := rfl
theorem tri_ends4 : ends (tri d c) 4 = (2, 1, true) := rfl
theorem tri_ends5 : ends (tri d c) 5 = (1, 2, true) := rfl
theorem tri_w0 : wt (tri d c) 0 = d := rfl
theorem tri_w1 : wt (tri d c) 1 = d := rfl
theorem tri_w2 : wt (tri d c) 2 = c := rfl
theorem tri_w3 : wt (tri d c) 3 = c := rfl
theorem tri_w4 : wt (tri d c) 4 = c := rfl
theorem tri_w5 : wt (tri d c) 5 = c := rfl
theorem tri_edges {e : Int} (e0 : 0 ≤ e) (e1 : e < 2 * (tri d c).links.length) : e = 0 ∨ e = 1 ∨ e = 2 ∨ e = 3 ∨ e = 4 ∨ e = 5 := by
  have : e < 6 := e1
  omega
theorem tri_nodes {v : Int} (v0 : 0 ≤ v) (v1 : v < (tri d c).nodes) : v = 0 ∨ v = 1 ∨ v = 2 := by
  have : v < 3 := v1
  omega
theorem tri_check (hd : 1 ≤ d ∧ d ≤ 16777216) (hc : 1 ≤ c ∧ c ≤ 16777216) : check (tri d c) = (-1, 0) := by
  have l1 : linkErr (tri d c) ⟨0, 1, d, 0⟩ = 0 := by
    unfold linkErr
    rw [if_neg (by show ¬ (¬ ((0 : Int) ≤ 0 ∧ (0 : Int) < 3) ∨ ¬ ((0 : Int) ≤ 1 ∧ (1 : Int) < 3) ∨ (0 : Int) = 1); decide), if_neg (by dsimp only; omega)]
  have l2 : linkErr (tri d c) ⟨0, 2, c, 0⟩ = 0 := by
    unfold linkErr
    rw [if_neg (by show ¬ (¬ ((0 : Int) ≤ 0 ∧ (0 : Int) < 3) ∨ ¬ ((0 : Int) ≤ 2 ∧ (2 : Int) < 3) ∨ (0 : Int) = 2); decide), if_neg (by dsimp only; omega)]
  have l3 : linkErr (tri d c) ⟨2, 1, c, 0⟩ = 0 := by
    unfold linkErr
    rw [if_neg (by show ¬ (¬ ((0 : Int) ≤ 2 ∧ (2 : Int) < 3) ∨ ¬ ((0 : Int) ≤ 1 ∧ (1 : Int) < 3) ∨ (2 : Int) = 1); decide), if_neg (by dsimp only; omega)]
  rw [check, if_neg (by show ¬ (120 < 3); decide), if_neg (by show ¬ ((3 : Int) < 1 ∨ (3 : Int) > 40); decide)]
  show checkFrom (tri d c) [⟨0, 1, d, 0⟩, ⟨0, 2, c, 0⟩, ⟨2, 1, c, 0⟩] 0 = _
  rw [checkFrom, if_pos l1, checkFrom, if_pos l2, checkFrom, if_pos l3, checkFrom]
theorem tri_fit (hd : 1 ≤ d ∧ d ≤ 16777216) (hc : 1 ≤ c ∧ c ≤ 16777216) : Fit (tri d c) := fit_of _ (by rw [tri_check hd hc])
/-- over the links 1 and 2 from 1 to 0 -/
theorem tri_10 {down : List Bool} (h5 : upE down 5 = true) (h3 : upE down 3 = true) : Walk (tri d c) down 1 0 (2 * c) := by
  have := Walk.step (e := 5) (Walk.nil (g := tri d c) (down := down) (s := 1)) (by omega) (by simp [tri]) h5 rfl
  have := Walk.step (e := 3) this (by omega) (by simp [tri]) h3 rfl
  rw [tri_ends3, tri_w3, tri_w5] at this
  rwa [show 0 + c + c = 2 * c by omega] at this
theorem tri_12 {down : List Bool} (h5 : upE down 5 = true) : Walk (tri d c) down 1 2 c := by
  have := Walk.step (e := 5) (Walk.nil (g := tri d c) (down := down) (s := 1)) (by omega) (by simp [tri]) h5 rfl
  rw [tri_ends5, tri_w5] at this
  rwa [show 0 + c = c by omega] at this
theorem tri_10' {down : List Bool} (h1 : upE down 1 = true) : Walk (tri d c) down 1 0 d := by
  have := Walk.step (e := 1) (Walk.nil (g := tri d c) (down := down) (s := 1)) (by omega) (by simp [tri]) h1 rfl
  rw [tri_ends1, tri_w1] at this
  rwa [show 0 + d = d by omega] at this
/-- by the tables -/
theorem tri_d1 (hd : 1 ≤ d ∧ d ≤ 16777216) (hc : 1 ≤ c ∧ c ≤ 16777216) : distL (tri d c) [] 1 = [min d (2 * c), 0, c] := by
  refine dist_of rfl rfl (fun v v0 v1 => ?_) fun e e0 e1 => ?_
  · rcases tri_nodes v0 v1 with rfl | rfl | rfl
    · refine .inr ⟨by show 0 ≤ min d (2 * c); omega, ?_⟩
      show Walk _ _ _ _ (min d (2 * c))
      by_cases h : d ≤ 2 * c
      · rw [show min d (2 * c) = d by omega]; exact tri_10' rfl
      · rw [show min d (2 * c) = 2 * c by omega]; exact tri_10 rfl rfl
    · exact .inr ⟨by show (0 : Int) ≤ 0; omega, .nil⟩
    · exact .inr ⟨by show 0 ≤ c; omega, tri_12 rfl⟩
  · intro _ _
    rcases tri_edges e0 e1 with rfl | rfl | rfl | rfl | rfl | rfl
    · show 0 ≤ (0 : Int) ∧ (0 : Int) ≤ min d (2 * c) + d; omega
    · show 0 ≤ min d (2 * c) ∧ min d (2 * c) ≤ 0 + d; omega
    · show 0 ≤ c ∧ c ≤ min d (2 * c) + c; omega
    · show 0 ≤ min d (2 * c) ∧ min d (2 * c) ≤ c + c; omega
    · show 0 ≤ (0 : Int) ∧ (0 : Int) ≤ c + c; omega
    · show 0 ≤ c ∧ c ≤ 0 + c; omega
theorem tri_d2 (hd : 1 ≤ d ∧ d ≤ 16777216) (hc : 1 ≤ c ∧ c ≤ 16777216) : distL (tri d c) [] 2 = [c, c, 0] := by
  refine dist_of rfl rfl (fun v v0 v1 => ?_) fun e e0 e1 => ?_
  · rcases tri_nodes v0 v1 with rfl | rfl | rfl
    · refine .inr ⟨by show 0 ≤ c; omega, ?_⟩
      have := Walk.step (e := 3) (Walk.nil (g := tri d c) (down := []) (s := 2)) (by omega) (by simp [tri]) rfl rfl
      rw [tri_ends3, tri_w3, Int.zero_add] at this
      exact this
    · refine .inr ⟨by show 0 ≤ c; omega, ?_⟩
      have := Walk.step (e := 4) (Walk.nil (g := tri d c) (down := []) (s := 2)) (by omega) (by simp [tri]) rfl rfl
      rw [tri_ends4, tri_w4, Int.zero_add] at this
      exact this
    · exact .inr ⟨by show (0 : Int) ≤ 0; omega, .nil⟩
  · intro _ _
    rcases tri_edges e0 e1 with rfl | rfl | rfl | rfl | rfl | rfl
    · show 0 ≤ c ∧ c ≤ c + d; omega
    · show 0 ≤ c ∧ c ≤ c + d; omega
    · show 0 ≤ (0 : Int) ∧ (0 : Int) ≤ c + c; omega
    · show 0 ≤ c ∧ c ≤ 0 + c; omega
    · show 0 ≤ c ∧ c ≤ 0 + c; omega
    · show 0 ≤ (0 : Int) ∧ (0 : Int) ≤ c + c; omega
/-- without the direct link -/
theorem tri_f1 (hd : 1 ≤ d ∧ d ≤ 16777216) (hc : 1 ≤ c ∧ c ≤ 16777216) : distL (tri d c) [true, false, false] 1 = [2 * c, 0, c] := by
  refine dist_of rfl rfl (fun v v0 v1 => ?_) fun e e0 e1 => ?_
  · rcases tri_nodes v0 v1 with rfl | rfl | rfl
    · exact .inr ⟨by show 0 ≤ 2 * c; omega, tri_10 rfl rfl⟩
    · exact .inr ⟨by show (0 : Int) ≤ 0; omega, .nil⟩
    · exact .inr ⟨by show 0 ≤ c; omega, tri_12 rfl⟩
  · intro hu _
    rcases tri_edges e0 e1 with rfl | rfl | rfl | rfl | rfl | rfl
    · cases hu
    · cases hu
    · show 0 ≤ c ∧ c ≤ 2 * c + c; omega
    · show 0 ≤ 2 * c ∧ 2 * c ≤ c + c; omega
    · show 0 ≤ (0 : Int) ∧ (0 : Int) ≤ c + c; omega
    · show 0 ≤ c ∧ c ≤ 0 + c; omega
/-- with no other one -/
theorem tri_f2 (hd : 1 ≤ d ∧ d ≤ 16777216) (hc : 1 ≤ c ∧ c ≤ 16777216) : distL (tri d c) [false, true, true] 1 = [d, 0, -1] := by
  refine dist_of rfl rfl (fun v v0 v1 => ?_) fun e e0 e1 => ?_
  · rcases tri_nodes v0 v1 with rfl | rfl | rfl
    · exact .inr ⟨by show 0 ≤ d; omega, tri_10' rfl⟩
    · exact .inr ⟨by show (0 : Int) ≤ 0; omega, .nil⟩
    · exact .inl rfl
  · intro hu ha
    rcases tri_edges e0 e1 with rfl | rfl | rfl | rfl | rfl | rfl
    · show 0 ≤ (0 : Int) ∧ (0 : Int) ≤ d + d; omega
    · show 0 ≤ d ∧ d ≤ 0 + d; omega
    · cases hu
    · cases hu
    · cases hu
    · cases hu
theorem tri_D01 (hd : 1 ≤ d ∧ d ≤ 16777216) (hc : 1 ≤ c ∧ c ≤ 16777216) : distOf (tri d c) 0 1 = min d (2 * c) := by
  rw [distOf, if_pos ⟨by show (0 : Int) ≤ 0 ∧ (0 : Int) < 3; decide, by show (0 : Int) ≤ 1 ∧ (1 : Int) < 3; decide⟩, tri_d1 hd hc]; rfl
theorem tri_D11 (hd : 1 ≤ d ∧ d ≤ 16777216) (hc : 1 ≤ c ∧ c ≤ 16777216) : distOf (tri d c) 1 1 = 0 := by
  rw [distOf, if_pos ⟨by show (0 : Int) ≤ 1 ∧ (1 : Int) < 3; decide, by show (0 : Int) ≤ 1 ∧ (1 : Int) < 3; decide⟩, tri_d1 hd hc]; rfl
theorem tri_D21 (hd : 1 ≤ d ∧ d ≤ 16777216) (hc : 1 ≤ c ∧ c ≤ 16777216) : distOf (tri d c) 2 1 = c := by
  rw [distOf, if_pos ⟨by show (0 : Int) ≤ 2 ∧ (2 : Int) < 3; decide, by show (0 : Int) ≤ 1 ∧ (1 : Int) < 3; decide⟩, tri_d1 hd hc]; rfl
theorem tri_D02 (hd : 1 ≤ d ∧ d ≤ 16777216) (hc : 1 ≤ c ∧ c ≤ 16777216) : distOf (tri d c) 0 2 = c := by
  rw [distOf, if_pos ⟨by show (0 : Int) ≤ 0 ∧ (0 : Int) < 3; decide, by show (0 : Int) ≤ 2 ∧ (2 : Int) < 3; decide⟩, tri_d2 hd hc]; rfl
theorem tri_D12 (hd : 1 ≤ d ∧ d ≤ 16777216) (hc : 1 ≤ c ∧ c ≤ 16777216) : distOf (tri d c) 1 2 = c := by
  rw [distOf, if_pos ⟨by show (0 : Int) ≤ 1 ∧ (1 : Int) < 3; decide, by show (0 : Int) ≤ 2 ∧ (2 : Int) < 3; decide⟩, tri_d2 hd hc]; rfl
theorem tri_D22 (hd : 1 ≤ d ∧ d ≤ 16777216) (hc : 1 ≤ c ∧ c ≤ 16777216) : distOf (tri d c) 2 2 = 0 := by
  rw [distOf, if_pos ⟨by show (0 : Int) ≤ 2 ∧ (2 : Int) < 3; decide, by show (0 : Int) ≤ 2 ∧ (2 : Int) < 3; decide⟩, tri_d2 hd hc]; rfl
/-- which edges go on by the tables -/
theorem tri_n01 (hd : 1 ≤ d ∧ d ≤ 16777216) (hc : 1 ≤ c ∧ c ≤ 16777216) (e : Int) : e ∈ nxtOf (tri d c) 0 1 ↔ (e = 0 ∧ d ≤ 2 * c) ∨ (e = 2 ∧ 2 * c ≤ d) := by
  rw [mem_nxt (tri_fit hd hc)]
  have h01 := tri_D01 hd hc
  have h11 := tri_D11 hd hc
  have h21 := tri_D21 hd hc
  constructor
  · rintro ⟨-, ⟨e0, e1⟩, h1, -, -, h2⟩
    rcases tri_edges e0 e1 with rfl | rfl | rfl | rfl | rfl | rfl
    · rw [tri_ends0, tri_w0, h01, h11] at h2; omega
    · rw [tri_ends1] at h1; cases h1
    · rw [tri_ends2, tri_w2, h01, h21] at h2; omega
    · rw [tri_ends3] at h1; cases h1
    · rw [tri_ends4] at h1; cases h1
    · rw [tri_ends5] at h1; cases h1
  · rintro (⟨rfl, h⟩ | ⟨rfl, h⟩)
    · rw [tri_ends0, tri_w0, h01, h11]
      refine ⟨⟨by show (0 : Int) ≤ 0 ∧ (0 : Int) < 3; decide, by show (0 : Int) ≤ 1 ∧ (1 : Int) < 3; decide⟩, by show (0 : Int) ≤ 0 ∧ (0 : Int) < 6; decide, rfl, by omega, by omega, by omega⟩
    · rw [tri_ends2, tri_w2, h01, h21]
      refine ⟨⟨by show (0 : Int) ≤ 0 ∧ (0 : Int) < 3; decide, by show (0 : Int) ≤ 1 ∧ (1 : Int) < 3; decide⟩, by show (0 : Int) ≤ 2 ∧ (2 : Int) < 6; decide, rfl, by omega, by omega, by omega⟩
theorem tri_n02 (hd : 1 ≤ d ∧ d ≤ 16777216) (hc : 1 ≤ c ∧ c ≤ 16777216) (e : Int) : e ∈ nxtOf (tri d c) 0 2 ↔ e = 2 := by
  rw [mem_nxt (tri_fit hd hc)]
  have h02 := tri_D02 hd hc
  have h12 := tri_D12 hd hc
  have h22 := tri_D22 hd hc
  constructor
  · rintro ⟨-, ⟨e0, e1⟩, h1, -, -, h2⟩
    rcases tri_edges e0 e1 with rfl | rfl | rfl | rfl | rfl | rfl
    · rw [tri_ends0, tri_w0, h02, h12] at h2; omega
    · rw [tri_ends1] at h1; cases h1
    · rfl
    · rw [tri_ends3] at h1; cases h1
    · rw [tri_ends4] at h1; cases h1
    · rw [tri_ends5] at h1; cases h1
  · rintro rfl
    rw [tri_ends2, tri_w2, h02, h22]
    refine ⟨⟨by show (0 : Int) ≤ 0 ∧ (0 : Int) < 3; decide, by show (0 : Int) ≤ 2 ∧ (2 : Int) < 3; decide⟩, by show (0 : Int) ≤ 2 ∧ (2 : Int) < 6; decide, rfl, by omega, by omega, by omega⟩
theorem tri_n21 (hd : 1 ≤ d ∧ d ≤ 16777216) (hc : 1 ≤ c ∧ c ≤ 16777216) (e : Int) : e ∈ nxtOf (tri d c) 2 1 ↔ e = 4 := by
  rw [mem_nxt (tri_fit hd hc)]
  have h01 := tri_D01 hd hc
  have h11 := tri_D11 hd hc
  have h21 := tri_D21 hd hc
  constructor
  · rintro ⟨-, ⟨e0, e1⟩, h1, -, -, h2⟩
    rcases tri_edges e0 e1 with rfl | rfl | rfl | rfl | rfl | rfl
    · rw [tri_ends0] at h1; cases h1
    · rw [tri_ends1] at h1; cases h1
    · rw [tri_ends2] at h1; cases h1
    · rw [tri_ends3, tri_w3, h21, h01] at h2; omega
    · rfl
    · rw [tri_ends5] at h1; cases h1
  · rintro rfl
    rw [tri_ends4, tri_w4, h21, h11]
    refine ⟨⟨by show (0 : Int) ≤ 2 ∧ (2 : Int) < 3; decide, by show (0 : Int) ≤ 1 ∧ (1 : Int) < 3; decide⟩, by show (0 : Int) ≤ 4 ∧ (4 : Int) < 6; decide, rfl, by omega, by omega, by omega⟩
end
end Go.Proofs.Ytejmcijcdhoogaa
end

section
/- The lists of the triangle; the law CompileEdges. -/
namespace Go.Proofs.Ytejmcijcdhoogaa
open Go Abs
attribute [local irreducible] EX exL exG exC exCq exS exV exIf exGd exGq
set_option maxHeartbeats 1000000
theorem segW_node {g : Graph} {w : Want} {down : List Bool} {a : St} {to : Int} : segW g w down a ⟨false, to⟩ = segN g w down a to := by rw [segW, if_neg (by simp)]
theorem segW_edge {g : Graph} {w : Want} {down : List Bool} {a : St} {to : Int} : segW g w down a ⟨true, to⟩ = stepW g w down a to := by rw [segW, if_pos rfl]
/-- a want from 0 to 1 without the links that are gone -/
structure TriW (d c : Int) (w : Want) (down gone : List Bool) (far : List Int) : Prop where
  d1 : 1 ≤ d ∧ d ≤ 16777216
  c1 : 1 ≤ c ∧ c ≤ 16777216
  src : w.src = 0
  dst : w.dst = 1
  via : w.via = []
  pr : pruned (tri d c) w down = gone
  ok : optErr (tri d c) w down = 0
  far : distL (tri d c) gone 1 = far
section
variable {d c : Int} {w : Want} {down gone : List Bool} {far : List Int}
theorem TriW.pts (h : TriW d c w down gone far) : pts w = [0, 1] := by rw [Go.Proofs.Ytejmcijcdhoogaa.pts, h.src, h.via, h.dst]; rfl
theorem TriW.start (h : TriW d c w down gone far) : startW w = (0, 0) := by rw [startW, h.pts, h.src]; rfl
theorem TriW.goal (h : TriW d c w down gone far) : goalW w = (1, 1) := by rw [goalW, h.dst, h.via]; rfl
theorem TriW.farOf (h : TriW d c w down gone far) : farOf (tri d c) w down 1 = far := by
  rw [Go.Proofs.Ytejmcijcdhoogaa.farOf, h.pr, h.pts]
  exact h.far
theorem TriW.step (h : TriW d c w down gone far) {x e b : Int} (hb : (ends (tri d c) e).2.2 = true ∧ (ends (tri d c) e).1 = x) (hx : (0 ≤ x ∧ x < 3) ∧ x ≠ 1) (hu : upE gone e = true) (hf : 0 ≤ gi far (ends (tri d c) e).2.1 ∧ gi far x = gi far (ends (tri d c) e).2.1 + wt (tri d c) e) :
    stepW (tri d c) w down (x, 0) e = some ((ends (tri d c) e).2.1, come [0, 1] (ends (tri d c) e).2.1 0) := by
  rw [stepW, if_pos, h.pts]
  refine ⟨h.ok, ⟨by dsimp only; omega, by dsimp only; rw [h.via]; decide⟩, hx.1, ?_, hb.1, hb.2, by rw [h.pr]; exact hu, ?_, ?_⟩
  · rw [h.pts]; exact fun hh => hx.2 hh.symm
  · show 0 ≤ gi (Go.Proofs.Ytejmcijcdhoogaa.farOf (tri d c) w down 1) _; rw [h.farOf]; exact hf.1
  · show gi (Go.Proofs.Ytejmcijcdhoogaa.farOf (tri d c) w down 1) _ = gi (Go.Proofs.Ytejmcijcdhoogaa.farOf (tri d c) w down 1) _ + _; rw [h.farOf]; exact hf.2
theorem TriW.none (h : TriW d c w down gone far) {x n e : Int} (hu : upE gone e = false) : stepW (tri d c) w down (x, n) e = none := by
  rw [stepW, if_neg]
  intro hs
  have := hs.2.2.2.2.2.2.1
  rw [h.pr, hu] at this
  cases this
/-- only edges that begin there, of links that are left -/
theorem TriW.some (h : TriW d c w down gone far) {x n e : Int} {b : St} (hs : stepW (tri d c) w down (x, n) e = some b) : (0 ≤ e ∧ e < 2 * (tri d c).links.length) ∧ (ends (tri d c) e).1 = x ∧ upE gone e = true := by
  obtain ⟨h1, -⟩ := stepW_some hs
  have h2 := h1.2.2.2.2.2.2.1
  rw [h.pr] at h2
  exact ⟨ends_ok h1.2.2.2.2.1, h1.2.2.2.2.2.1, h2⟩
end
theorem triSegs (d c : Int) : segsA (tri d c) = [⟨false, 0⟩, ⟨false, 1⟩, ⟨false, 2⟩, ⟨true, 0⟩, ⟨true, 1⟩, ⟨true, 2⟩, ⟨true, 3⟩, ⟨true, 4⟩, ⟨true, 5⟩] := rfl
/-- over the direct edge, which no table takes -/
theorem tri_edge {d c : Int} {w : Want} {down : List Bool} (h : TriW d c w down [false, true, true] [d, 0, -1]) (hdc : 2 * c ≤ d) {depth : Int} (hd : 1 ≤ depth) : compW (tri d c) w down depth = ([⟨true, 0⟩], 0) := by
  have hf := tri_fit h.d1 h.c1
  have hdd := h.d1
  have s0 : stepW (tri d c) w down (0, 0) 0 = some (1, 1) := h.step (x := 0) (e := 0) (b := 1) ⟨rfl, rfl⟩ ⟨by decide, by decide⟩ rfl ⟨by show (0 : Int) ≤ 0; omega, by show d = 0 + d; omega⟩
  have hst := h.start
  have hgo := h.goal
  refine comp_one h.ok (by rw [hst, hgo]; decide) hd (pre := [⟨false, 0⟩, ⟨false, 1⟩, ⟨false, 2⟩]) (post := [⟨true, 1⟩, ⟨true, 2⟩, ⟨true, 3⟩, ⟨true, 4⟩, ⟨true, 5⟩]) (triSegs d c) (fun s' hs' => ?_) ?_
  · rw [hst, hgo]
    simp only [List.mem_cons, List.not_mem_nil, or_false] at hs'
    rcases hs' with rfl | rfl | rfl
    · rw [segW_node, segN, if_pos rfl]; simp
    · rw [segW_node, segN, if_neg (by decide)]
      exact endN_ne hf (by decide) ((tri_n01 h.d1 h.c1 2).2 (.inr ⟨rfl, hdc⟩)) (h.none rfl)
    · rw [segW_node, segN, if_neg (by decide)]
      exact endN_ne hf (by decide) ((tri_n02 h.d1 h.c1 2).2 rfl) (h.none rfl)
  · rw [hst, hgo, segW_edge]
    exact s0
section
variable {d c : Int} {w : Want} {down : List Bool} (h : TriW d c w down [true, false, false] [2 * c, 0, c])
include h
theorem tri_s02 : stepW (tri d c) w down (0, 0) 2 = some (2, 0) := h.step (x := 0) (e := 2) (b := 2) ⟨rfl, rfl⟩ ⟨by decide, by decide⟩ rfl ⟨by have := h.c1; show (0 : Int) ≤ c; omega, by show 2 * c = c + c; omega⟩
theorem tri_s24 : stepW (tri d c) w down (2, 0) 4 = some (1, 1) := h.step (x := 2) (e := 4) (b := 1) ⟨rfl, rfl⟩ ⟨by decide, by decide⟩ rfl ⟨by show (0 : Int) ≤ 0; omega, by show c = 0 + c; omega⟩
theorem tri_21 : segW (tri d c) w down (2, 0) ⟨false, 1⟩ = some (1, 1) := by
  have hf := tri_fit h.d1 h.c1
  rw [segW_node, segN, if_neg (by decide)]
  refine endN_all hf (by decide) ((tri_n21 h.d1 h.c1 4).2 rfl) fun e he => ?_
  rw [(tri_n21 h.d1 h.c1 e).1 he]
  exact ⟨_, tri_s24 h, endN_self hf rfl⟩
theorem tri_02 : segW (tri d c) w down (0, 0) ⟨false, 2⟩ = some (2, 0) := by
  have hf := tri_fit h.d1 h.c1
  rw [segW_node, segN, if_neg (by decide)]
  refine endN_all hf (by decide) ((tri_n02 h.d1 h.c1 2).2 rfl) fun e he => ?_
  rw [(tri_n02 h.d1 h.c1 e).1 he]
  exact ⟨_, tri_s02 h, endN_self hf rfl⟩
/-- the tables lead just there -/
theorem tri_node (hdc : 2 * c < d) {depth : Int} (hd : 1 ≤ depth) : compW (tri d c) w down depth = ([⟨false, 1⟩], 0) := by
  have hf := tri_fit h.d1 h.c1
  have hst := h.start
  have hgo := h.goal
  refine comp_one h.ok (by rw [hst, hgo]; decide) hd (pre := [⟨false, 0⟩]) (post := [⟨false, 2⟩, ⟨true, 0⟩, ⟨true, 1⟩, ⟨true, 2⟩, ⟨true, 3⟩, ⟨true, 4⟩, ⟨true, 5⟩]) (triSegs d c) (fun s' hs' => ?_) ?_
  · rw [hst, hgo, List.mem_singleton.1 hs']
    rw [segW_node, segN, if_pos rfl]; simp
  · rw [hst, hgo]
    rw [segW_node, segN, if_neg (by decide)]
    refine endN_all hf (by decide) ((tri_n01 h.d1 h.c1 2).2 (.inr ⟨rfl, by omega⟩)) fun e he => ?_
    rcases (tri_n01 h.d1 h.c1 e).1 he with ⟨-, h1⟩ | ⟨rfl, -⟩
    · omega
    · have := tri_21 h
      rw [segW_node, segN, if_neg (by decide)] at this
      exact ⟨_, tri_s02 h, this⟩
/-- the tables go both ways, or only the other one -/
theorem tri_nodes2 (hdc : d ≤ 2 * c) {depth : Int} (hd : 2 ≤ depth) : compW (tri d c) w down depth = ([⟨false, 2⟩, ⟨false, 1⟩], 0) := by
  have hf := tri_fit h.d1 h.c1
  have hst := h.start
  have hgo := h.goal
  have n1 : ∀ r, segW (tri d c) w down (0, 0) ⟨false, 1⟩ ≠ some r := fun r => by
    rw [segW_node, segN, if_neg (by decide)]
    exact endN_ne hf (by decide) ((tri_n01 h.d1 h.c1 0).2 (.inl ⟨rfl, hdc⟩)) (h.none rfl)
  obtain ⟨a1, a2⟩ := lst_seg (g := tri d c) (w := w) (down := down) (m := 0) (a := (2, 0)) (c := (1, 1)) (pre := [⟨false, 0⟩]) (s := ⟨false, 1⟩) (post := [⟨false, 2⟩, ⟨true, 0⟩, ⟨true, 1⟩, ⟨true, 2⟩, ⟨true, 3⟩, ⟨true, 4⟩, ⟨true, 5⟩]) (triSegs d c) (fun s' hs' c' hc' ht => by
    rw [List.mem_singleton.1 hs'] at hc'
    rw [segW_node, segN, if_neg (by decide)] at hc'
    have := endN_at hf hc'
    rw [show c' = goalW w from ht, hgo] at this
    cases this) (tri_21 h) (by show (1, 1) = goalW w; rw [hgo])
  obtain ⟨b1, b2⟩ := lst_seg (g := tri d c) (w := w) (down := down) (m := 1) (a := (0, 0)) (c := (2, 0)) (pre := [⟨false, 0⟩, ⟨false, 1⟩]) (s := ⟨false, 2⟩) (post := [⟨true, 0⟩, ⟨true, 1⟩, ⟨true, 2⟩, ⟨true, 3⟩, ⟨true, 4⟩, ⟨true, 5⟩]) (triSegs d c) (fun s' hs' c' hc' ht => by
    simp only [List.mem_cons, List.not_mem_nil, or_false] at hs'
    rcases hs' with rfl | rfl
    · rw [segW_node, segN, if_pos rfl] at hc'
      cases hc'
    · exact n1 _ hc') (tri_02 h) a1
  rw [a2] at b2
  rw [compW_ok h.ok (n := 2) (by unfold cut10; omega) (by rw [hst]; exact b1) ?_, hst, b2]
  · rfl
  intro m hm
  rw [hst] at hm
  match m, hm with
  | 0, hm =>
    rw [Tg, hgo] at hm
    cases hm
  | 1, hm =>
    exfalso
    obtain ⟨s, hs, r, hr, ht⟩ := tg_seg hm
    rw [show r = goalW w from ht, hgo] at hr
    obtain ⟨e, to⟩ := s
    cases e with
    | false =>
      have hr' := hr
      rw [segW_node, segN] at hr'
      split at hr'
      · cases hr'
      · have := endN_at hf hr'
        obtain rfl : 1 = to := this
        exact n1 _ hr
    | true =>
      rw [segW_edge] at hr
      obtain ⟨⟨e0, e1⟩, hb, hu⟩ := h.some hr
      rcases tri_edges e0 e1 with rfl | rfl | rfl | rfl | rfl | rfl
      · cases hu
      · cases hu
      · rw [tri_s02 h] at hr; cases hr
      · cases hb
      · cases hb
      · cases hb
  | m + 2, _ => omega
end
end Go.Proofs.Ytejmcijcdhoogaa
end

section
/- The law CompileEdges of chapter 17, as a contract. -/
namespace Go.Proofs.Ytejmcijcdhoogaa
open Go Abs
attribute [local irreducible] EX exL exG exC exCq exS exV exIf exGd exGq
set_option maxHeartbeats 4000000
theorem tri_right {d c : Int} (hd : 1 ≤ d ∧ d ≤ 16777216) (hc : 1 ≤ c ∧ c ≤ 16777216) {w : Want} (hs : w.src = 0 ∧ w.dst = 1 ∧ w.bound = 0 ∧ w.via = [] ∧ w.colours = []) (hn : w.nodes.any (noNode (tri d c)) = false) (hl : w.links.any (noLink (tri d c)) = false) : rightErr (tri d c) w = 0 := by
  obtain ⟨h1, h2, h3, h4, h5⟩ := hs
  rw [rightErr, tri_check hd hc, if_neg (by simp), if_neg, if_neg (by rw [hl]; simp), if_neg (by rw [h5, h3]; simp), if_neg (by rw [h4]; simp)]
  rw [h1, h2, h4, hn]
  rw [show noNode (tri d c) 0 = false from rfl, show noNode (tri d c) 1 = false from rfl]
  simp
theorem tri_opt {d c : Int} {w : Want} {down gone : List Bool} {far : List Int} (hs : w.src = 0 ∧ w.dst = 1 ∧ w.bound = 0 ∧ w.via = []) (hr : rightErr (tri d c) w = 0) (hp : pruned (tri d c) w down = gone) (hf : distL (tri d c) gone 1 = far) (h0 : 0 ≤ gi far 0) : optErr (tri d c) w down = 0 := by
  obtain ⟨h1, h2, h3, h4⟩ := hs
  have hpt : pts w = [0, 1] := by rw [pts, h1, h4, h2]; rfl
  have hz : leg (tri d c) w down 0 = gi far 0 := by rw [leg, hpt, hp]; show gi (distL (tri d c) gone 1) 0 = _; rw [hf]
  rw [optErr, if_neg (by rw [hr]; decide), if_neg, if_neg (by rw [h3]; omega)]
  rw [h4]
  show ¬ noLeg (tri d c) w down (0 + 1) = true
  rw [noLeg_succ]
  simp [noLeg, hz, h0]
def wA_ : Want := ⟨0, 1, 0, true, [], false, [2], true, [], true, []⟩
def wB_ : Want := ⟨0, 1, 0, true, [], true, [], false, [0], true, []⟩
theorem triA {d c : Int} (hd : 1 ≤ d ∧ d ≤ 16777216) (hc : 1 ≤ c ∧ c ≤ 16777216) : TriW d c wA_ [] [false, true, true] [d, 0, -1] := by
  have hp : pruned (tri d c) wA_ [] = [false, true, true] := rfl
  exact ⟨hd, hc, rfl, rfl, rfl, hp, tri_opt ⟨rfl, rfl, rfl, rfl⟩ (tri_right hd hc ⟨rfl, rfl, rfl, rfl, rfl⟩ rfl rfl) hp (tri_f2 hd hc) (by show 0 ≤ d; omega), tri_f2 hd hc⟩
theorem triB {d c : Int} (hd : 1 ≤ d ∧ d ≤ 16777216) (hc : 1 ≤ c ∧ c ≤ 16777216) : TriW d c wB_ [] [true, false, false] [2 * c, 0, c] := by
  have hp : pruned (tri d c) wB_ [] = [true, false, false] := rfl
  exact ⟨hd, hc, rfl, rfl, rfl, hp, tri_opt ⟨rfl, rfl, rfl, rfl⟩ (tri_right hd hc ⟨rfl, rfl, rfl, rfl, rfl⟩ rfl rfl) hp (tri_f1 hd hc) (by show 0 ≤ 2 * c; omega), tri_f1 hd hc⟩
theorem compA0 {d c : Int} (hd : 1 ≤ d ∧ d ≤ 16777216) (hc : 1 ≤ c ∧ c ≤ 16777216) : compW (tri d c) wA_ [] 0 = ([], 9) := by
  refine compW_deep (triA hd hc).ok fun k hk ht => ?_
  obtain rfl : k = 0 := by unfold cut10 at hk; omega
  exact absurd (show startW wA_ = goalW wA_ from ht) (by decide)
theorem compileEdges_c (c d : Int) (hc64 : -9223372036854775808 ≤ c ∧ c ≤ 9223372036854775807) (hd64 : -9223372036854775808 ≤ d ∧ d ≤ 9223372036854775807) (H : AHeap) : APure Try.prog 5 [iv c, iv d] H (bv true) := by
  intro Q h
  refine ACalls.of_code fn_waymarklaw17_CompileEdges ?_
  by_cases hin : 1 ≤ c ∧ c ≤ 1000 ∧ 2 * c ≤ d ∧ d ≤ 100000
  · obtain ⟨i1, i2, i3, i4⟩ := hin
    have hd : 1 ≤ d ∧ d ≤ 16777216 := ⟨by omega, by omega⟩
    have hc : 1 ≤ c ∧ c ≤ 16777216 := ⟨by omega, by omega⟩
    have hck : (check (tri d c)).2 = 0 := by rw [tri_check hd hc]
    have c1 := tables16_c (tri d c) (by show 3 * 32 ≤ 140737488351232; decide) (fun hh => by cases hh) H
    rw [tabs16, if_pos hck] at c1
    have ca := fun depth => compile_c (tri d c) (by show 3 * 32 ≤ 140737488351232; decide) (fun hh => by cases hh) wA_ ⟨by decide, by decide, by decide, by decide⟩ true [] depth H
    have cb := fun depth => compile_c (tri d c) (by show 3 * 32 ≤ 140737488351232; decide) (fun hh => by cases hh) wB_ ⟨by decide, by decide, by decide, by decide⟩ true [] depth H
    have ca3 := ca 3
    have ca0 := ca 0
    have cb3 := cb 3
    rw [compAV, tri_edge (triA hd hc) i3 (by decide)] at ca3
    rw [compAV, compA0 hd hc] at ca0
    obtain ⟨cs, hcs⟩ : ∃ cs, tab (tri d c) = .box cs 0 := ⟨_, rfl⟩
    obtain ⟨ds, hds⟩ : ∃ cs, refTab (tri d c) = .box cs 0 := ⟨_, rfl⟩
    rw [hcs] at c1 ca3 ca0 cb3
    rw [hds] at c1
    clear ca cb
    by_cases he : d = 2 * c
    · rw [compAV, tri_nodes2 (triB hd hc) (by omega) (by decide)] at cb3
      simp only [Graph.av, Want.av, blv, sl, tri, wA_, wB_] at c1 ca3 ca0 cb3
      simp only [rows, List.flatMap_cons, List.flatMap_nil, List.append_nil, Link.cells_eq, Sg.cells_eq, List.map_cons, List.map_nil, List.length_cons, List.length_nil, List.isEmpty_nil, List.isEmpty_cons, Nat.zero_add, Int.natCast_zero, Int.zero_add, Int.cast_ofNat_Int, List.cons_append, List.nil_append] at c1 ca3 ca0 cb3
      simp -implicitDefEqProofs only [sc_waymarklaw17_CompileEdges, go_sem, Nat.reduceEqDiff, Nat.reduceAdd, Nat.reduceMul, Nat.reduceLeDiff, Nat.reduceSub, Nat.reduceLT, Nat.reduceBEq, Int.reduceToNat, reduceCtorEq, ↓reduceIte, Int.reduceEq, Int.reduceNeg, Int.reduceLT, Int.reduceLE, Int.reduceAdd, Int.reduceSub, Int.reduceMul]
      refine exC_pure (alive17_c _) ?_
      repeat' (first | simp -implicitDefEqProofs only [go_sem, Nat.reduceEqDiff, Nat.reduceAdd, Nat.reduceMul, Nat.reduceLeDiff, Nat.reduceSub, Nat.reduceLT, Nat.reduceBEq, Int.reduceToNat, reduceCtorEq, ↓reduceIte, Int.reduceEq, Int.reduceNeg, Int.reduceLT, Int.reduceLE, Int.reduceAdd, Int.reduceSub, Int.reduceMul] | simp -implicitDefEqProofs (disch := omega) only [iaq_vec, iao_arr, iaq_raw, rd_map, wrap_id, binq_quo, binq_rem, binq_shl, binq_shr, tdiv_pos, tmod_pos, if_pos, exV_some, Option.map_some] | ((first | with_reducible apply exIf_dec | ((with_reducible apply exGd_dec); focus exact rfl) | ((with_reducible apply exGq_dec); focus exact rfl) | with_reducible apply exIf_intro | ((with_reducible apply exGd_intro); focus exact rfl) | ((with_reducible apply exGq_intro); focus exact rfl)) <;> intro _) | with_reducible refine exC_pure (c1) ?_ | with_reducible refine exCq_pure (c1) ?_ | with_reducible refine exC_pure (ca3) ?_ | with_reducible refine exCq_pure (ca3) ?_ | with_reducible refine exC_pure (ca0) ?_ | with_reducible refine exCq_pure (ca0) ?_ | with_reducible refine exC_pure (cb3) ?_ | with_reducible refine exCq_pure (cb3) ?_ | with_reducible refine exC_pure (num17_c _ _) ?_ | with_reducible refine exCq_pure (num17_c _ _) ?_)
      all_goals first | exact h | (exfalso; omega) | skip
      done
    · rw [compAV, tri_node (triB hd hc) (by omega) (by decide)] at cb3
      simp only [Graph.av, Want.av, blv, sl, tri, wA_, wB_] at c1 ca3 ca0 cb3
      simp only [rows, List.flatMap_cons, List.flatMap_nil, List.append_nil, Link.cells_eq, Sg.cells_eq, List.map_cons, List.map_nil, List.length_cons, List.length_nil, List.isEmpty_nil, List.isEmpty_cons, Nat.zero_add, Int.natCast_zero, Int.zero_add, Int.cast_ofNat_Int, List.cons_append, List.nil_append] at c1 ca3 ca0 cb3
      simp -implicitDefEqProofs only [sc_waymarklaw17_CompileEdges, go_sem, Nat.reduceEqDiff, Nat.reduceAdd, Nat.reduceMul, Nat.reduceLeDiff, Nat.reduceSub, Nat.reduceLT, Nat.reduceBEq, Int.reduceToNat, reduceCtorEq, ↓reduceIte, Int.reduceEq, Int.reduceNeg, Int.reduceLT, Int.reduceLE, Int.reduceAdd, Int.reduceSub, Int.reduceMul]
      refine exC_pure (alive17_c _) ?_
      repeat' (first | simp -implicitDefEqProofs only [go_sem, Nat.reduceEqDiff, Nat.reduceAdd, Nat.reduceMul, Nat.reduceLeDiff, Nat.reduceSub, Nat.reduceLT, Nat.reduceBEq, Int.reduceToNat, reduceCtorEq, ↓reduceIte, Int.reduceEq, Int.reduceNeg, Int.reduceLT, Int.reduceLE, Int.reduceAdd, Int.reduceSub, Int.reduceMul] | simp -implicitDefEqProofs (disch := omega) only [iaq_vec, iao_arr, iaq_raw, rd_map, wrap_id, binq_quo, binq_rem, binq_shl, binq_shr, tdiv_pos, tmod_pos, if_pos, exV_some, Option.map_some] | ((first | with_reducible apply exIf_dec | ((with_reducible apply exGd_dec); focus exact rfl) | ((with_reducible apply exGq_dec); focus exact rfl) | with_reducible apply exIf_intro | ((with_reducible apply exGd_intro); focus exact rfl) | ((with_reducible apply exGq_intro); focus exact rfl)) <;> intro _) | with_reducible refine exC_pure (c1) ?_ | with_reducible refine exCq_pure (c1) ?_ | with_reducible refine exC_pure (ca3) ?_ | with_reducible refine exCq_pure (ca3) ?_ | with_reducible refine exC_pure (ca0) ?_ | with_reducible refine exCq_pure (ca0) ?_ | with_reducible refine exC_pure (cb3) ?_ | with_reducible refine exCq_pure (cb3) ?_ | with_reducible refine exC_pure (num17_c _ _) ?_ | with_reducible refine exCq_pure (num17_c _ _) ?_)
      all_goals first | exact h | (exfalso; omega) | skip
      done
  · simp -implicitDefEqProofs only [sc_waymarklaw17_CompileEdges, go_sem, Nat.reduceEqDiff, Nat.reduceAdd, Nat.reduceMul, Nat.reduceLeDiff, Nat.reduceSub, Nat.reduceLT, Nat.reduceBEq, Int.reduceToNat, reduceCtorEq, ↓reduceIte, Int.reduceEq, Int.reduceNeg, Int.reduceLT, Int.reduceLE, Int.reduceAdd, Int.reduceSub, Int.reduceMul]
    refine exC_pure (alive17_c _) ?_
    repeat' (first | simp -implicitDefEqProofs only [go_sem, Nat.reduceEqDiff, Nat.reduceAdd, Nat.reduceMul, Nat.reduceLeDiff, Nat.reduceSub, Nat.reduceLT, Nat.reduceBEq, Int.reduceToNat, reduceCtorEq, ↓reduceIte, Int.reduceEq, Int.reduceNeg, Int.reduceLT, Int.reduceLE, Int.reduceAdd, Int.reduceSub, Int.reduceMul] | simp -implicitDefEqProofs (disch := omega) only [iaq_vec, iao_arr, iaq_raw, rd_map, wrap_id, binq_quo, binq_rem, binq_shl, binq_shr, tdiv_pos, tmod_pos, if_pos, exV_some, Option.map_some] | ((first | with_reducible apply exIf_dec | ((with_reducible apply exGd_dec); focus exact rfl) | ((with_reducible apply exGq_dec); focus exact rfl) | with_reducible apply exIf_intro | ((with_reducible apply exGd_intro); focus exact rfl) | ((with_reducible apply exGq_intro); focus exact rfl)) <;> intro _))
    all_goals first | exact h | (exfalso; omega) | skip
    done
end Go.Proofs.Ytejmcijcdhoogaa
end
