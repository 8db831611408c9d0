import Derived.Test.YtejmcijcdhoogaaMB1
import Derived.Test.YtejmcijcdhoogaaMC1
import Derived.Test.YtejmcijcdhoogaaMB2
set_option linter.unusedSimpArgs false
set_option linter.unusedVariables false
section
/- The rounds of the search. -/
namespace Go.Proofs.Ytejmcijcdhoogaa
open Go Abs
attribute [local irreducible] EX exL exG exC exCq exS exV exIf exGd exGq
set_option maxHeartbeats 4000000

instance : Enc (Int × Int) where
  sz := 2
  cells a := [iv a.1, iv a.2]
  len _ := rfl
  pos := by decide
theorem St.cells_eq (a : St) : Enc.cells a = [iv a.1, iv a.2] := rfl
theorem St.sz_eq : Enc.sz St = 2 := rfl
theorem rd_st {l : List St} {i : Int} (h0 : 0 ≤ i) (h1 : i < l.length) : rdV (rows l) (i.toNat * 2) 2 true = some (.agg [iv (gi l i).1, iv (gi l i).2]) := rd_row rfl h0 h1
def stsAV (l : List St) : AV := .vec l.isEmpty (rows l) l.length
section
variable (g : Graph) (w : Want) (down : List Bool)
def rngS (g : Graph) (c : St) : Prop := (0 ≤ c.1 ∧ c.1 < g.nodes) ∧ 0 ≤ c.2 ∧ c.2 < 6
noncomputable def tosL (a : St) : List St := (leadsL g w down a).map (·.to)
def addS (acc : List St × List St) (c : St) : List St × List St := if c ∈ acc.1 then acc else (acc.1 ++ [c], acc.2 ++ [c])
noncomputable def roundN (seen R : List St) : List St × List St := (R.flatMap (tosL g w down)).foldl addS (seen, [])
noncomputable def rs : Nat → List St × List (List St)
  | 0 => ([startW w], [[startW w]])
  | n + 1 => ((roundN g w down (rs n).1 (gi (rs n).2 n)).1, (rs n).2 ++ [(roundN g w down (rs n).1 (gi (rs n).2 n)).2])
end
section
variable {g : Graph} {w : Want} {down : List Bool}
theorem rs_length (n : Nat) : (rs g w down n).2.length = n + 1 := by
  induction n with
  | zero => rfl
  | succ n ih => rw [rs, List.length_append, ih]; rfl
theorem seg_range (wf : WFit g w) {a c : St} {s : Sg} (h : segW g w down a s = some c) : rngS g c := by
  unfold segW at h
  split at h
  · exact stepW_range wf h
  · unfold segN at h
    split at h
    · cases h
    · rename_i hne
      have h1 := endN_reach wf.fit h
      have h2 := endN_at wf.fit h
      cases h1 with
      | refl => exact absurd h2 hne
      | step _ _ _ hs => exact stepW_range wf hs
theorem leads_mem {a : St} {l : Ld} (h : l ∈ leadsL g w down a) : segW g w down a l.s = some l.to := by
  unfold leadsL at h
  obtain ⟨s, -, h2⟩ := List.mem_filterMap.1 h
  unfold ldO at h2
  obtain ⟨c, hc, rfl⟩ := Option.map_eq_some_iff.1 h2
  exact hc
theorem leads_length (g : Graph) (w : Want) (down : List Bool) (a : St) : (leadsL g w down a).length ≤ g.nodes.toNat + 2 * g.links.length := by
  unfold leadsL segsA
  refine Nat.le_trans (filterMap_len _ _) ?_
  rw [List.length_append, segsN_len, segsE_len]
  omega
theorem states_few {l : List St} (hf : Fit g) (hn : l.Nodup) (hr : ∀ c ∈ l, rngS g c) : l.length ≤ 240 := by
  have fn := hf.n2
  have hsub : l ⊆ (List.range 40).flatMap fun i : Nat => (List.range 6).map fun j : Nat => ((i : Int), (j : Int)) := by
    intro c hc
    obtain ⟨h1, h2⟩ := hr c hc
    rw [List.mem_flatMap]
    refine ⟨c.1.toNat, List.mem_range.2 (by omega), List.mem_map.2 ⟨c.2.toNat, List.mem_range.2 (by omega), ?_⟩⟩
    exact Prod.ext (by dsimp only; omega) (by dsimp only; omega)
  exact Nat.le_trans (List.Nodup.length_le_of_subset hn hsub) (by decide +kernel)
/-- what is so of all that was seen -/
def SOk (g : Graph) (acc : List St × List St) : Prop := acc.1.Nodup ∧ (∀ c ∈ acc.1, rngS g c) ∧ acc.2 ⊆ acc.1 ∧ acc.2.length ≤ acc.1.length
theorem SOk.add {acc : List St × List St} (h : SOk g acc) {c : St} (hc : rngS g c) : SOk g (addS acc c) := by
  obtain ⟨h1, h2, h3, h4⟩ := h
  unfold addS
  split
  · exact ⟨h1, h2, h3, h4⟩
  · rename_i hn
    refine ⟨?_, fun x hx => ?_, fun x hx => ?_, by simp; omega⟩
    · rw [List.nodup_append]
      exact ⟨h1, by simp, fun a ha b hb => by rintro rfl; rw [List.mem_singleton] at hb; exact hn (hb ▸ ha)⟩
    · rcases List.mem_append.1 hx with hx | hx
      · exact h2 x hx
      · rw [List.mem_singleton.1 hx]; exact hc
    · rcases List.mem_append.1 hx with hx | hx
      · exact List.mem_append_left _ (h3 hx)
      · exact List.mem_append_right _ hx
theorem SOk.fold {l : List St} {acc : List St × List St} (h : SOk g acc) (hl : ∀ c ∈ l, rngS g c) : SOk g (l.foldl addS acc) := by
  induction l generalizing acc with
  | nil => exact h
  | cons c l ih =>
    rw [List.foldl_cons]
    exact ih (h.add (hl c (by simp))) fun x hx => hl x (by simp [hx])
theorem tos_range (wf : WFit g w) {a c : St} (h : c ∈ tosL g w down a) : rngS g c := by
  obtain ⟨l, hl, rfl⟩ := List.mem_map.1 h
  exact seg_range wf (leads_mem hl)
theorem flat_range (wf : WFit g w) {R : List St} {c : St} (h : c ∈ R.flatMap (tosL g w down)) : rngS g c := by
  obtain ⟨a, -, h2⟩ := List.mem_flatMap.1 h
  exact tos_range wf h2
theorem rs_ok (wf : WFit g w) (hsr : rngS g (startW w)) : ∀ n, ((rs g w down n).1.Nodup ∧ ∀ c ∈ (rs g w down n).1, rngS g c) ∧ ∀ R ∈ (rs g w down n).2, R ⊆ (rs g w down n).1 ∧ R.length ≤ 240
  | 0 => ⟨⟨by simp [rs], fun c hc => by rw [rs, List.mem_singleton] at hc; rw [hc]; exact hsr⟩, fun R hR => by
    rw [rs, List.mem_singleton] at hR
    rw [hR]
    exact ⟨fun c hc => hc, by simp⟩⟩
  | n + 1 => by
    obtain ⟨⟨h1, h2⟩, h3⟩ := rs_ok wf hsr n
    have hk : SOk g (roundN g w down (rs g w down n).1 (gi (rs g w down n).2 n)) := SOk.fold ⟨h1, h2, by simp, by simp⟩ fun c hc => flat_range wf hc
    have hfew := states_few wf.fit hk.1 hk.2.1
    have hup : ∀ (l : List St) (acc : List St × List St), acc.1 ⊆ (l.foldl addS acc).1 := by
      intro l
      induction l with
      | nil => intro acc x hx; exact hx
      | cons c l ih =>
        intro acc x hx
        refine ih _ ?_
        unfold addS
        split
        · exact hx
        · exact List.mem_append_left _ hx
    rw [rs]
    refine ⟨⟨hk.1, hk.2.1⟩, fun R hR => ?_⟩
    rcases List.mem_append.1 hR with hR | hR
    · exact ⟨fun c hc => hup _ _ ((h3 R hR).1 hc), (h3 R hR).2⟩
    · rw [List.mem_singleton.1 hR]
      exact ⟨hk.2.2.1, Nat.le_trans hk.2.2.2 hfew⟩
/-- the heap of a search: what is led to, and what was seen -/
structure SHp (g : Graph) (w : Want) (down : List Bool) (H H' : AHeap) (mb sb : Nat) (seen : List St) : Prop where
  ne : sb ≠ mb
  new : H sb = none
  base : ∀ b o, H b = some o → b ≠ mb → H' b = some o
  leads : ∃ es, H' mb = some (.map (.a 2 .i64) es) ∧ LeadsOK g w down es
  seen : ∃ es, H' sb = some (.map (.a 2 .i64) es) ∧ ∀ c : St, mget es (stKey c) = if c ∈ seen then some (bv true) else none
theorem SHp.led {H H' : AHeap} {mb sb : Nat} {seen : List St} (h : SHp g w down H H' mb sb seen) {es : List (MK × AV)} (hes : LeadsOK g w down es) : SHp g w down H (upd H' mb (some (.map (.a 2 .i64) es))) mb sb seen := by
  refine ⟨h.ne, h.new, fun b o ho hb => by rw [upd_ne _ _ (Ne.symm hb)]; exact h.base b o ho hb, ⟨es, upd_self _ _ _, hes⟩, ?_⟩
  rw [upd_ne _ _ (Ne.symm h.ne)]
  exact h.seen
theorem SHp.saw {H H' : AHeap} {mb sb : Nat} {seen : List St} (h : SHp g w down H H' mb sb seen) {es : List (MK × AV)} (he : H' sb = some (.map (.a 2 .i64) es)) (hs : ∀ c : St, mget es (stKey c) = if c ∈ seen then some (bv true) else none) (c : St) :
    SHp g w down H (upd H' sb (some (.map (.a 2 .i64) (mput es (stKey c) (bv true))))) mb sb (seen ++ [c]) := by
  refine ⟨h.ne, h.new, fun b o ho hb => by rw [upd_ne _ _ (by rintro rfl; rw [h.new] at ho; cases ho)]; exact h.base b o ho hb, ?_, ⟨_, upd_self _ _ _, fun c' => ?_⟩⟩
  · rw [upd_ne _ _ h.ne]; exact h.leads
  · rw [mget_mput]
    by_cases e : c = c'
    · subst e
      rw [if_pos rfl, if_pos (by simp)]
    · rw [if_neg (by
        intro hh
        simp only [stKey, MK.a.injEq, List.cons.injEq, and_true] at hh
        exact e (Prod.ext hh.1 hh.2)), hs c']
      by_cases h2 : c' ∈ seen
      · rw [if_pos h2, if_pos (by simp [h2])]
      · rw [if_neg h2, if_neg (by simp [h2]; exact fun hh => e hh.symm)]
end
theorem outs_get {out : List (List St)} {n : Int} (h0 : 0 ≤ n) (h1 : n < out.length) : rdV (out.map stsAV) (n.toNat * 1) 1 false = some (stsAV (gi out n)) := rd_map h0 h1
theorem exS_avs1 {P : Program} {s : S} {dst : Option Nat} {e by_ d : Nat} {nly : Bool} {l : List AV} {n : Nat} {x : AV} {r : List KI} {K : AEx → S → Prop} (hg : get s.loc d = some (.arr false l n e 1)) (h2 : (n + 1) * by_ ≤ 140737488355328) (h3 : n + 1 ≤ maxLen)
    (k : EX P r K (s.arr d dst false (l ++ [x]) (n + 1) e 1)) : exS P (appq s dst e 1 by_ (.own d) (.v (.vec nly [x] 1))) r K := by
  rw [appq_own hg rfl h2 h3, exS_some]
  exact k
theorem rounds_c (g : Graph) (w : Want) (down : List Bool) (h0 : optErr g w down = 0) (mb : Nat) (depth : Int) (hd : 0 ≤ depth ∧ depth ≤ 10) (es : List (MK × AV)) (hes : LeadsOK g w down es) (H : AHeap) (hm : H mb = some (.map (.a 2 .i64) es)) (hsr : rngS g (startW w)) :
    ACalls Try.prog 44 [xAV g w down mb, stateAV (startW w), iv depth] H fun r H' => (∃ es', H' = upd H mb (some (.map (.a 2 .i64) es')) ∧ LeadsOK g w down es') ∧
      ((∃ n : Nat, (n : Int) ≤ depth ∧ goalW w ∈ (rs g w down n).1 ∧ (∀ m : Nat, m < n → goalW w ∉ (rs g w down m).1) ∧ r = .tup [.vec false ((rs g w down n).2.map stsAV) (rs g w down n).2.length, bv true]) ∨
        ((∀ m : Nat, (m : Int) ≤ depth → goalW w ∉ (rs g w down m).1) ∧ r = .tup [.vec true [] 0, bv false])) := by
  have wf := wfit_of (optErr_right h0)
  have hf := wf.fit
  have fn := hf.n2
  have fw := hf.few
  suffices key : ACalls Try.prog 44 [xAV g w down mb, stateAV (startW w), iv depth] H fun r H' => (∃ es', (∀ b o, upd H mb (some (.map (.a 2 .i64) es')) b = some o → H' b = some o) ∧ LeadsOK g w down es') ∧
      ((∃ n : Nat, (n : Int) ≤ depth ∧ goalW w ∈ (rs g w down n).1 ∧ (∀ m : Nat, m < n → goalW w ∉ (rs g w down m).1) ∧ r = .tup [.vec false ((rs g w down n).2.map stsAV) (rs g w down n).2.length, bv true]) ∨
        ((∀ m : Nat, (m : Int) ≤ depth → goalW w ∉ (rs g w down m).1) ∧ r = .tup [.vec true [] 0, bv false])) by
    refine ACalls.relax (key.mono ?_)
    rintro r H' ⟨⟨es', h1, h2⟩, h3⟩
    exact ⟨fun _ => False, upd H mb (some (.map (.a 2 .i64) es')), _, h1, by simp, Fz.refl _ _ _, ⟨es', rfl, h2⟩, h3⟩
  have fin : ∀ {H' : AHeap} {sb : Nat} {seen : List St}, SHp g w down H H' mb sb seen → ∃ es', (∀ b o, upd H mb (some (.map (.a 2 .i64) es')) b = some o → H' b = some o) ∧ LeadsOK g w down es' := by
    intro H' sb seen h
    obtain ⟨es', h1, h2⟩ := h.leads
    refine ⟨es', fun b o ho => ?_, h2⟩
    by_cases e : mb = b
    · subst e; rw [upd_self] at ho; rw [h1]; exact ho
    · rw [upd_ne _ _ e] at ho
      exact h.base b o ho (Ne.symm e)
  refine ACalls.of_code fn_compile_search_rounds ?_
  simp -implicitDefEqProofs only [sc_compile_search_rounds, xAV, stateAV, go_sem, Nat.reduceEqDiff, Nat.reduceAdd, Nat.reduceMul, Nat.reduceLeDiff, Nat.reduceSub, Nat.reduceLT, Nat.reduceBEq, Int.reduceToNat, reduceCtorEq, ↓reduceIte, Int.reduceEq, Int.reduceNeg, Int.reduceLT, Int.reduceLE, Int.reduceAdd, Int.reduceSub, Int.reduceMul]
  repeat' (first | simp -implicitDefEqProofs only [go_sem, Nat.reduceEqDiff, Nat.reduceAdd, Nat.reduceMul, Nat.reduceLeDiff, Nat.reduceSub, Nat.reduceLT, Nat.reduceBEq, Int.reduceToNat, reduceCtorEq, ↓reduceIte, Int.reduceEq, Int.reduceNeg, Int.reduceLT, Int.reduceLE, Int.reduceAdd, Int.reduceSub, Int.reduceMul] | simp -implicitDefEqProofs (disch := omega) only [iaq_vec, iao_arr, iaq_raw, rd_map, wrap_id, binq_quo, binq_rem, binq_shl, binq_shr, tdiv_pos, tmod_pos, if_pos, exV_some, Option.map_some] | ((first | with_reducible apply exIf_dec | ((with_reducible apply exGd_dec); focus exact rfl) | ((with_reducible apply exGq_dec); focus exact rfl) | with_reducible apply exIf_intro | ((with_reducible apply exGd_intro); focus exact rfl) | ((with_reducible apply exGq_intro); focus exact rfl)) <;> intro _))
  intro sb hsb
  have hsb : H sb = none := hsb
  have hne : sb ≠ mb := by rintro rfl; rw [hsb] at hm; cases hm
  have hsh0 : SHp g w down H (upd (upd H sb (some (.map (.a 2 .i64) []))) sb (some (.map (.a 2 .i64) (mput [] (stKey (startW w)) (bv true))))) mb sb ([] ++ [startW w]) := by
    refine SHp.saw ⟨hne, hsb, fun b o ho hb => by rw [upd_ne _ _ (by rintro rfl; rw [hsb] at ho; cases ho)]; exact ho, ⟨es, by rw [upd_ne _ _ hne]; exact hm, hes⟩, ⟨[], upd_self _ _ _, fun c => by simp [mget]⟩⟩ (upd_self _ _ _) (fun c => by simp [mget]) _
  repeat' (first | simp -implicitDefEqProofs only [go_sem, Nat.reduceEqDiff, Nat.reduceAdd, Nat.reduceMul, Nat.reduceLeDiff, Nat.reduceSub, Nat.reduceLT, Nat.reduceBEq, Int.reduceToNat, reduceCtorEq, ↓reduceIte, Int.reduceEq, Int.reduceNeg, Int.reduceLT, Int.reduceLE, Int.reduceAdd, Int.reduceSub, Int.reduceMul] | simp -implicitDefEqProofs (disch := omega) only [upd_self, iaq_vec, iao_arr, iaq_raw, rd_map, wrap_id, binq_quo, binq_rem, binq_shl, binq_shr, tdiv_pos, tmod_pos, if_pos, exV_some, Option.map_some] | ((first | with_reducible apply exIf_dec | ((with_reducible apply exGd_dec); focus exact rfl) | ((with_reducible apply exGq_dec); focus exact rfl) | with_reducible apply exIf_intro | ((with_reducible apply exGd_intro); focus exact rfl) | ((with_reducible apply exGq_intro); focus exact rfl)) <;> intro _))
  all_goals first | (exfalso; omega) | skip
  refine exL_modH (fun a : Nat × AHeap => [(10, .v (iv (a.1 : Int)))]) (fun a => [(21, .arr false ((rs g w down a.1).2.map stsAV) (a.1 + 1) 105 1)]) (fun a => a.2) (fun a => SHp g w down H a.2 mb sb (rs g w down a.1).1 ∧ (a.1 : Int) ≤ depth ∧ ∀ m : Nat, m < a.1 → goalW w ∉ (rs g w down m).1) (fun a => (depth - a.1).toNat) (0, _) rfl ⟨hsh0, by dsimp only; omega, fun m hm => by omega⟩ ?_
  rintro ⟨n, H1⟩ ⟨hsh, n1, hno⟩ ih
  dsimp only at hsh n1 hno ih
  simp only [S.up, S.upH, ups, Abs.put, Nat.reduceEqDiff, ↓reduceIte, Nat.reduceAdd] at ih
  simp -implicitDefEqProofs only [congrArg KI.code sc_compile_search_rounds_L2.eq_1, go_sem, Nat.reduceEqDiff, Nat.reduceAdd, Nat.reduceMul, Nat.reduceLeDiff, Nat.reduceSub, Nat.reduceLT, Nat.reduceBEq, Int.reduceToNat, reduceCtorEq, ↓reduceIte, Int.reduceEq, Int.reduceNeg, Int.reduceLT, Int.reduceLE, Int.reduceAdd, Int.reduceSub, Int.reduceMul]
  obtain ⟨ss, hs1, hs2⟩ := hsh.seen
  have hgo := hs2 (goalW w)
  have hrl := rs_length (g := g) (w := w) (down := down) n
  by_cases hin : goalW w ∈ (rs g w down n).1
  · rw [if_pos hin] at hgo
    simp only [stKey, goalW] at hgo
    have hf2 := fin hsh
    clear ih
    repeat' (first | simp -implicitDefEqProofs only [go_sem, Nat.reduceEqDiff, Nat.reduceAdd, Nat.reduceMul, Nat.reduceLeDiff, Nat.reduceSub, Nat.reduceLT, Nat.reduceBEq, Int.reduceToNat, reduceCtorEq, ↓reduceIte, Int.reduceEq, Int.reduceNeg, Int.reduceLT, Int.reduceLE, Int.reduceAdd, Int.reduceSub, Int.reduceMul] | simp -implicitDefEqProofs (disch := omega) only [hs1, lkres, hgo, Option.getD_some, iaq_vec, iao_arr, iaq_raw, rd_map, wrap_id, binq_quo, binq_rem, binq_shl, binq_shr, tdiv_pos, tmod_pos, if_pos, exV_some, Option.map_some] | ((first | with_reducible apply exIf_dec | ((with_reducible apply exGd_dec); focus exact rfl) | ((with_reducible apply exGq_dec); focus exact rfl) | with_reducible apply exIf_intro | ((with_reducible apply exGd_intro); focus exact rfl) | ((with_reducible apply exGq_intro); focus exact rfl)) <;> intro _))
    all_goals first | exact ⟨hf2, .inl ⟨n, n1, hin, hno, by rw [hrl]⟩⟩ | (exfalso; omega) | skip
    done
  rw [if_neg hin] at hgo
  simp only [stKey, goalW] at hgo
  by_cases hnd : (n : Int) = depth
  · have hf2 := fin hsh
    have hall : ∀ m : Nat, (m : Int) ≤ depth → goalW w ∉ (rs g w down m).1 := fun m hm => by
      by_cases e : m = n
      · rw [e]; exact hin
      · exact hno m (by omega)
    clear ih
    repeat' (first | simp -implicitDefEqProofs only [go_sem, Nat.reduceEqDiff, Nat.reduceAdd, Nat.reduceMul, Nat.reduceLeDiff, Nat.reduceSub, Nat.reduceLT, Nat.reduceBEq, Int.reduceToNat, reduceCtorEq, ↓reduceIte, Int.reduceEq, Int.reduceNeg, Int.reduceLT, Int.reduceLE, Int.reduceAdd, Int.reduceSub, Int.reduceMul] | simp -implicitDefEqProofs (disch := omega) only [hs1, lkres, hgo, Option.getD_none, iaq_vec, iao_arr, iaq_raw, rd_map, wrap_id, binq_quo, binq_rem, binq_shl, binq_shr, tdiv_pos, tmod_pos, if_pos, exV_some, Option.map_some] | ((first | with_reducible apply exIf_dec | ((with_reducible apply exGd_dec); focus exact rfl) | ((with_reducible apply exGq_dec); focus exact rfl) | with_reducible apply exIf_intro | ((with_reducible apply exGd_intro); focus exact rfl) | ((with_reducible apply exGq_intro); focus exact rfl)) <;> intro _))
    all_goals first | exact ⟨hf2, .inr hall⟩ | (exfalso; omega) | skip
    done
  obtain ⟨⟨hok1, hok2⟩, hok3⟩ := rs_ok (down := down) wf hsr n
  obtain ⟨R, hR⟩ : ∃ R, R = gi (rs g w down n).2 n := ⟨_, rfl⟩
  have hRl : R.length ≤ 240 := by
    rw [hR]
    exact (hok3 _ (gi_mem (by omega) (by omega))).2
  have hget := outs_get (out := (rs g w down n).2) (n := (n : Int)) (by omega) (by omega)
  rw [← hR, stsAV] at hget
  obtain ⟨seen, hse⟩ : ∃ seen, seen = (rs g w down n).1 := ⟨_, rfl⟩
  have nxt := fun H2 (hh : SHp g w down H H2 mb sb (rs g w down (n + 1)).1) => ih (n + 1, H2) ⟨hh, by dsimp only; omega, fun m hm => by
    by_cases e : m = n
    · rw [e]; exact hin
    · exact hno m (by dsimp only at hm; omega)⟩ (by dsimp only; omega)
  dsimp only at nxt
  rw [rs, ← hR] at nxt
  dsimp only at nxt
  rw [← hse] at nxt hsh hin hs2 hok1 hok2
  clear ih
  repeat' (first | simp -implicitDefEqProofs only [go_sem, Nat.reduceEqDiff, Nat.reduceAdd, Nat.reduceMul, Nat.reduceLeDiff, Nat.reduceSub, Nat.reduceLT, Nat.reduceBEq, Int.reduceToNat, reduceCtorEq, ↓reduceIte, Int.reduceEq, Int.reduceNeg, Int.reduceLT, Int.reduceLE, Int.reduceAdd, Int.reduceSub, Int.reduceMul] | simp -implicitDefEqProofs (disch := omega) only [hs1, lkres, hgo, Option.getD_none, hget, iaq_vec, iao_arr, iaq_raw, rd_map, wrap_id, binq_quo, binq_rem, binq_shl, binq_shr, tdiv_pos, tmod_pos, if_pos, exV_some, Option.map_some] | ((first | with_reducible apply exIf_dec | ((with_reducible apply exGd_dec); focus exact rfl) | ((with_reducible apply exGq_dec); focus exact rfl) | with_reducible apply exIf_intro | ((with_reducible apply exGd_intro); focus exact rfl) | ((with_reducible apply exGq_intro); focus exact rfl)) <;> intro _))
  all_goals first | (exfalso; omega) | skip
  refine exL_modH (fun a : Int × AHeap => [(11, .own 63), (39, .v (iv a.1))]) (fun a => [(63, .arr (((R.take a.1.toNat).flatMap (tosL g w down)).foldl addS (seen, [])).2.isEmpty (rows (((R.take a.1.toNat).flatMap (tosL g w down)).foldl addS (seen, [])).2) (((R.take a.1.toNat).flatMap (tosL g w down)).foldl addS (seen, [])).2.length 82 2)]) (fun a => a.2) (fun a => SHp g w down H a.2 mb sb (((R.take a.1.toNat).flatMap (tosL g w down)).foldl addS (seen, [])).1 ∧ 0 ≤ a.1 ∧ a.1 ≤ R.length) (fun a => (R.length - a.1).toNat) (0, H1) rfl ⟨hsh, by simp, by simp⟩ ?_
  rintro ⟨i, H2⟩ ⟨hsh2, i0, i1⟩ ih
  dsimp only at hsh2 i0 i1 ih
  simp only [S.up, S.upH, ups, Abs.put, Nat.reduceEqDiff, ↓reduceIte, Nat.reduceAdd] at ih
  simp -implicitDefEqProofs only [congrArg KI.code sc_compile_search_rounds_L1.eq_1, go_sem, Nat.reduceEqDiff, Nat.reduceAdd, Nat.reduceMul, Nat.reduceLeDiff, Nat.reduceSub, Nat.reduceLT, Nat.reduceBEq, Int.reduceToNat, reduceCtorEq, ↓reduceIte, Int.reduceEq, Int.reduceNeg, Int.reduceLT, Int.reduceLE, Int.reduceAdd, Int.reduceSub, Int.reduceMul]
  by_cases hi : i < R.length
  · obtain ⟨es2, he2, hl2⟩ := hsh2.leads
    have cf := cfrom_c g w down h0 mb (gi R i) es2 hl2 H2 he2
    simp only [stateAV, leadsAV, xAV] at cf
    have hRi := rd_st (l := R) i0 hi
    obtain ⟨acc0, hacc0⟩ : ∃ a, a = ((R.take i.toNat).flatMap (tosL g w down)).foldl addS (seen, []) := ⟨_, rfl⟩
    rw [← hacc0] at hsh2 ⊢
    have hok : SOk g acc0 := by rw [hacc0]; exact SOk.fold ⟨hok1, hok2, by simp, by simp⟩ fun c hc => flat_range wf hc
    have nxt2 := fun H3 hh => ih (i + 1, H3) ⟨hh, by dsimp only; omega, by dsimp only; omega⟩ (by dsimp only; omega)
    dsimp only at nxt2
    rw [take_gi i0 hi, List.flatMap_append, List.foldl_append, ← hacc0, List.flatMap_singleton] at nxt2
    clear ih nxt
    repeat' (first | simp -implicitDefEqProofs only [go_sem, Nat.reduceEqDiff, Nat.reduceAdd, Nat.reduceMul, Nat.reduceLeDiff, Nat.reduceSub, Nat.reduceLT, Nat.reduceBEq, Int.reduceToNat, reduceCtorEq, ↓reduceIte, Int.reduceEq, Int.reduceNeg, Int.reduceLT, Int.reduceLE, Int.reduceAdd, Int.reduceSub, Int.reduceMul] | simp -implicitDefEqProofs (disch := omega) only [hRi, iaq_vec, iao_arr, iaq_raw, rd_map, wrap_id, binq_quo, binq_rem, binq_shl, binq_shr, tdiv_pos, tmod_pos, if_pos, exV_some, Option.map_some] | ((first | with_reducible apply exIf_dec | ((with_reducible apply exGd_dec); focus exact rfl) | ((with_reducible apply exGq_dec); focus exact rfl) | with_reducible apply exIf_intro | ((with_reducible apply exGd_intro); focus exact rfl) | ((with_reducible apply exGq_intro); focus exact rfl)) <;> intro _))
    all_goals first | (exfalso; omega) | skip
    refine exC_intro cf ?_
    rintro _ H3 ⟨rfl, es3, rfl, hl3⟩
    have hsh3 := hsh2.led hl3
    obtain ⟨lds, hlds⟩ : ∃ l, l = leadsL g w down (gi R i) := ⟨_, rfl⟩
    have hll := leads_length g w down (gi R i)
    have hto : tosL g w down (gi R i) = lds.map (·.to) := by rw [hlds]; rfl
    have hrg : ∀ l ∈ lds, rngS g l.to := fun l hl => seg_range wf (leads_mem (hlds ▸ hl))
    rw [hto] at nxt2
    rw [← hlds] at hll ⊢
    clear hlds hto cf
    simp -implicitDefEqProofs only [go_sem, Nat.reduceEqDiff, Nat.reduceAdd, Nat.reduceMul, Nat.reduceLeDiff, Nat.reduceSub, Nat.reduceLT, Nat.reduceBEq, Int.reduceToNat, reduceCtorEq, ↓reduceIte, Int.reduceEq, Int.reduceNeg, Int.reduceLT, Int.reduceLE, Int.reduceAdd, Int.reduceSub, Int.reduceMul]
    repeat' (first | simp -implicitDefEqProofs only [go_sem, Nat.reduceEqDiff, Nat.reduceAdd, Nat.reduceMul, Nat.reduceLeDiff, Nat.reduceSub, Nat.reduceLT, Nat.reduceBEq, Int.reduceToNat, reduceCtorEq, ↓reduceIte, Int.reduceEq, Int.reduceNeg, Int.reduceLT, Int.reduceLE, Int.reduceAdd, Int.reduceSub, Int.reduceMul] | simp -implicitDefEqProofs (disch := omega) only [iaq_vec, iao_arr, iaq_raw, rd_map, wrap_id, binq_quo, binq_rem, binq_shl, binq_shr, tdiv_pos, tmod_pos, if_pos, exV_some, Option.map_some] | ((first | with_reducible apply exIf_dec | ((with_reducible apply exGd_dec); focus exact rfl) | ((with_reducible apply exGq_dec); focus exact rfl) | with_reducible apply exIf_intro | ((with_reducible apply exGd_intro); focus exact rfl) | ((with_reducible apply exGq_intro); focus exact rfl)) <;> intro _))
    all_goals first | (exfalso; omega) | skip
    refine exL_modH (fun a : Int × AHeap => [(11, .own 63), (47, .v (iv a.1))]) (fun a => [(63, .arr (((lds.take a.1.toNat).map (·.to)).foldl addS acc0).2.isEmpty (rows (((lds.take a.1.toNat).map (·.to)).foldl addS acc0).2) (((lds.take a.1.toNat).map (·.to)).foldl addS acc0).2.length 82 2)]) (fun a => a.2) (fun a => SHp g w down H a.2 mb sb (((lds.take a.1.toNat).map (·.to)).foldl addS acc0).1 ∧ 0 ≤ a.1 ∧ a.1 ≤ lds.length) (fun a => (lds.length - a.1).toNat) (0, _) rfl ⟨hsh3, by simp, by simp⟩ ?_
    rintro ⟨j, H4⟩ ⟨hsh4, j0, j1⟩ ih
    dsimp only at hsh4 j0 j1 ih
    simp only [S.up, S.upH, ups, Abs.put, Nat.reduceEqDiff, ↓reduceIte, Nat.reduceAdd] at ih
    simp -implicitDefEqProofs only [congrArg KI.code sc_compile_search_rounds_L0.eq_1, go_sem, Nat.reduceEqDiff, Nat.reduceAdd, Nat.reduceMul, Nat.reduceLeDiff, Nat.reduceSub, Nat.reduceLT, Nat.reduceBEq, Int.reduceToNat, reduceCtorEq, ↓reduceIte, Int.reduceEq, Int.reduceNeg, Int.reduceLT, Int.reduceLE, Int.reduceAdd, Int.reduceSub, Int.reduceMul]
    by_cases hj : j < lds.length
    · have hlj := rd_ld (l := lds) j0 hj
      obtain ⟨acc, hacc⟩ : ∃ a, a = ((lds.take j.toNat).map (·.to)).foldl addS acc0 := ⟨_, rfl⟩
      have hok4 : SOk g acc := by
        rw [hacc]
        refine SOk.fold hok fun c hc => ?_
        obtain ⟨l, hl, rfl⟩ := List.mem_map.1 hc
        exact hrg l (List.mem_of_mem_take hl)
      have hfew := states_few hf hok4.1 hok4.2.1
      have hfew2 := hok4.2.2.2
      rw [← hacc] at hsh4 ⊢
      obtain ⟨ss4, hs41, hs42⟩ := hsh4.seen
      have hsw := hs42 (gi lds j).to
      have nxt3 := fun H5 hh => ih (j + 1, H5) ⟨hh, by dsimp only; omega, by dsimp only; omega⟩ (by dsimp only; omega)
      dsimp only at nxt3
      rw [take_gi j0 hj, List.map_append, List.foldl_append, ← hacc] at nxt3
      simp only [List.map_cons, List.map_nil, List.foldl_cons, List.foldl_nil] at nxt3
      clear ih nxt2
      by_cases hin4 : (gi lds j).to ∈ acc.1
      · rw [if_pos hin4] at hsw
        simp only [stKey] at hsw
        rw [addS, if_pos hin4] at nxt3
        have nx := nxt3 H4 hsh4
        clear nxt3
        repeat' (first | simp -implicitDefEqProofs only [go_sem, Nat.reduceEqDiff, Nat.reduceAdd, Nat.reduceMul, Nat.reduceLeDiff, Nat.reduceSub, Nat.reduceLT, Nat.reduceBEq, Int.reduceToNat, reduceCtorEq, ↓reduceIte, Int.reduceEq, Int.reduceNeg, Int.reduceLT, Int.reduceLE, Int.reduceAdd, Int.reduceSub, Int.reduceMul] | simp -implicitDefEqProofs (disch := omega) only [hlj, hs41, lkres, hsw, Option.getD_some, iaq_vec, iao_arr, iaq_raw, rd_map, wrap_id, binq_quo, binq_rem, binq_shl, binq_shr, tdiv_pos, tmod_pos, if_pos, exV_some, Option.map_some] | ((first | with_reducible apply exIf_dec | ((with_reducible apply exGd_dec); focus exact rfl) | ((with_reducible apply exGq_dec); focus exact rfl) | with_reducible apply exIf_intro | ((with_reducible apply exGd_intro); focus exact rfl) | ((with_reducible apply exGq_intro); focus exact rfl)) <;> intro _))
        all_goals first | exact nx | (exfalso; omega) | skip
        done
      · rw [if_neg hin4] at hsw
        simp only [stKey] at hsw
        rw [addS, if_neg hin4] at nxt3
        have nx := nxt3 _ (hsh4.saw hs41 hs42 (gi lds j).to)
        simp only [stKey] at nx
        clear nxt3
        repeat' (first | simp -implicitDefEqProofs only [go_sem, Nat.reduceEqDiff, Nat.reduceAdd, Nat.reduceMul, Nat.reduceLeDiff, Nat.reduceSub, Nat.reduceLT, Nat.reduceBEq, Int.reduceToNat, reduceCtorEq, ↓reduceIte, Int.reduceEq, Int.reduceNeg, Int.reduceLT, Int.reduceLE, Int.reduceAdd, Int.reduceSub, Int.reduceMul] | simp -implicitDefEqProofs (disch := omega) only [hlj, hs41, lkres, hsw, Option.getD_none, iaq_vec, iao_arr, iaq_raw, rd_map, wrap_id, binq_quo, binq_rem, binq_shl, binq_shr, tdiv_pos, tmod_pos, if_pos, exV_some, Option.map_some] | ((first | with_reducible apply exIf_dec | ((with_reducible apply exGd_dec); focus exact rfl) | ((with_reducible apply exGq_dec); focus exact rfl) | with_reducible apply exIf_intro | ((with_reducible apply exGd_intro); focus exact rfl) | ((with_reducible apply exGq_intro); focus exact rfl)) <;> intro _))
        all_goals first | (exfalso; omega) | skip
        refine exS_rows (gi lds j).to rfl rfl rfl (by omega) (by simp only [maxLen]; omega) ?_
        repeat' (first | simp -implicitDefEqProofs only [go_sem, Nat.reduceEqDiff, Nat.reduceAdd, Nat.reduceMul, Nat.reduceLeDiff, Nat.reduceSub, Nat.reduceLT, Nat.reduceBEq, Int.reduceToNat, reduceCtorEq, ↓reduceIte, Int.reduceEq, Int.reduceNeg, Int.reduceLT, Int.reduceLE, Int.reduceAdd, Int.reduceSub, Int.reduceMul] | simp -implicitDefEqProofs (disch := omega) only [iaq_vec, iao_arr, iaq_raw, rd_map, wrap_id, binq_quo, binq_rem, binq_shl, binq_shr, tdiv_pos, tmod_pos, if_pos, exV_some, Option.map_some] | ((first | with_reducible apply exIf_dec | ((with_reducible apply exGd_dec); focus exact rfl) | ((with_reducible apply exGq_dec); focus exact rfl) | with_reducible apply exIf_intro | ((with_reducible apply exGd_intro); focus exact rfl) | ((with_reducible apply exGq_intro); focus exact rfl)) <;> intro _))
        all_goals first | exact nx | (exfalso; omega) | skip
        done
    · obtain rfl : j = lds.length := by omega
      clear ih
      rw [Int.toNat_natCast, List.take_length] at hsh4 ⊢
      have nx := nxt2 H4 hsh4
      clear nxt2
      repeat' (first | simp -implicitDefEqProofs only [go_sem, Nat.reduceEqDiff, Nat.reduceAdd, Nat.reduceMul, Nat.reduceLeDiff, Nat.reduceSub, Nat.reduceLT, Nat.reduceBEq, Int.reduceToNat, reduceCtorEq, ↓reduceIte, Int.reduceEq, Int.reduceNeg, Int.reduceLT, Int.reduceLE, Int.reduceAdd, Int.reduceSub, Int.reduceMul] | simp -implicitDefEqProofs (disch := omega) only [iaq_vec, iao_arr, iaq_raw, rd_map, wrap_id, binq_quo, binq_rem, binq_shl, binq_shr, tdiv_pos, tmod_pos, if_pos, exV_some, Option.map_some] | ((first | with_reducible apply exIf_dec | ((with_reducible apply exGd_dec); focus exact rfl) | ((with_reducible apply exGq_dec); focus exact rfl) | with_reducible apply exIf_intro | ((with_reducible apply exGd_intro); focus exact rfl) | ((with_reducible apply exGq_intro); focus exact rfl)) <;> intro _))
      all_goals first | exact nx | (exfalso; omega) | skip
      done
  · obtain rfl : i = R.length := by omega
    clear ih
    rw [Int.toNat_natCast, List.take_length] at hsh2 ⊢
    have nx := nxt H2 hsh2
    clear nxt
    repeat' (first | simp -implicitDefEqProofs only [go_sem, Nat.reduceEqDiff, Nat.reduceAdd, Nat.reduceMul, Nat.reduceLeDiff, Nat.reduceSub, Nat.reduceLT, Nat.reduceBEq, Int.reduceToNat, reduceCtorEq, ↓reduceIte, Int.reduceEq, Int.reduceNeg, Int.reduceLT, Int.reduceLE, Int.reduceAdd, Int.reduceSub, Int.reduceMul] | simp -implicitDefEqProofs (disch := omega) only [iaq_vec, iao_arr, iaq_raw, rd_map, wrap_id, binq_quo, binq_rem, binq_shl, binq_shr, tdiv_pos, tmod_pos, if_pos, exV_some, Option.map_some] | ((first | with_reducible apply exIf_dec | ((with_reducible apply exGd_dec); focus exact rfl) | ((with_reducible apply exGq_dec); focus exact rfl) | with_reducible apply exIf_intro | ((with_reducible apply exGd_intro); focus exact rfl) | ((with_reducible apply exGq_intro); focus exact rfl)) <;> intro _))
    all_goals first | (exfalso; omega) | skip
    refine exS_avs1 rfl (by omega) (by simp only [maxLen]; omega) ?_
    rw [List.map_append] at nx
    repeat' (first | simp -implicitDefEqProofs only [go_sem, Nat.reduceEqDiff, Nat.reduceAdd, Nat.reduceMul, Nat.reduceLeDiff, Nat.reduceSub, Nat.reduceLT, Nat.reduceBEq, Int.reduceToNat, reduceCtorEq, ↓reduceIte, Int.reduceEq, Int.reduceNeg, Int.reduceLT, Int.reduceLE, Int.reduceAdd, Int.reduceSub, Int.reduceMul] | simp -implicitDefEqProofs (disch := omega) only [iaq_vec, iao_arr, iaq_raw, rd_map, wrap_id, binq_quo, binq_rem, binq_shl, binq_shr, tdiv_pos, tmod_pos, if_pos, exV_some, Option.map_some] | ((first | with_reducible apply exIf_dec | ((with_reducible apply exGd_dec); focus exact rfl) | ((with_reducible apply exGq_dec); focus exact rfl) | with_reducible apply exIf_intro | ((with_reducible apply exGd_intro); focus exact rfl) | ((with_reducible apply exGq_intro); focus exact rfl)) <;> intro _))
    all_goals first | exact nx | (exfalso; omega) | skip
    done
end Go.Proofs.Ytejmcijcdhoogaa
end

section
/- Which states lead to the goal in as few segments as may be. -/
namespace Go.Proofs.Ytejmcijcdhoogaa
open Go Abs
attribute [local irreducible] EX exL exG exC exCq exS exV exIf exGd exGq
set_option maxHeartbeats 4000000
def mvv (b : Option Nat) : AV := .raw (.map b)
theorem set_mvv {l : List (Option Nat)} {k : Nat} {b : Option Nat} : (l.map mvv).set (k * 1) (.raw (.map b)) = (l.set k b).map mvv := by rw [Nat.mul_one, List.map_set]; rfl
/-- what a map of states says -/
def Says (es : List (MK × AV)) (p : St → Prop) : Prop := ∀ c : St, (p c → mget es (stKey c) = some (bv true)) ∧ (¬ p c → mget es (stKey c) = none)
theorem Says.put {es : List (MK × AV)} {p q : St → Prop} {a : St} (h : Says es p) (hq : ∀ c, q c ↔ p c ∨ c = a) : Says (mput es (stKey a) (bv true)) q := by
  intro c
  rw [mget_mput]
  by_cases e : a = c
  · subst e
    rw [if_pos rfl]
    exact ⟨fun _ => rfl, fun hn => absurd ((hq a).2 (.inr rfl)) hn⟩
  · rw [if_neg (by
      intro hh
      simp only [stKey, MK.a.injEq, List.cons.injEq, and_true] at hh
      exact e (Prod.ext hh.1 hh.2))]
    exact ⟨fun hh => (h c).1 (((hq c).1 hh).resolve_right fun e' => e e'.symm), fun hh => (h c).2 fun hp => hh ((hq c).2 (.inl hp))⟩
theorem Says.iff {es : List (MK × AV)} {p q : St → Prop} (h : Says es p) (hq : ∀ c, q c ↔ p c) : Says es q := fun c => ⟨fun hh => (h c).1 ((hq c).1 hh), fun hh => (h c).2 fun hp => hh ((hq c).2 hp)⟩
section
variable (g : Graph) (w : Want) (down : List Bool) (R : List (List St))
/-- leads to the goal in just so many segments, over the states of the rounds -/
def Lf : Nat → St → Prop
  | 0, a => a = goalW w
  | k + 1, a => a ∈ gi R ((R.length : Int) - 2 - k) ∧ ∃ l ∈ leadsL g w down a, Lf k l.to
/-- one map for each round from n on -/
def LOk (mb : Nat) (H : AHeap) (bs : List (Option Nat)) (n : Int) : Prop := bs.length = R.length ∧ ∀ i : Int, n < i → 0 ≤ i → i < R.length → ∃ b es, gi bs i = some b ∧ b ≠ mb ∧ H b = some (.map (.a 2 .i64) es) ∧ Says es (Lf g w down R ((R.length : Int) - 1 - i).toNat)
end
/-- the map that is being filled -/
structure MHp (g : Graph) (w : Want) (down : List Bool) (H H' : AHeap) (mb sb : Nat) (p : St → Prop) : Prop where
  ne : sb ≠ mb
  new : H sb = none
  base : ∀ b o, H b = some o → b ≠ mb → H' b = some o
  leads : ∃ es, H' mb = some (.map (.a 2 .i64) es) ∧ LeadsOK g w down es
  says : ∃ es, H' sb = some (.map (.a 2 .i64) es) ∧ Says es p
section
variable {g : Graph} {w : Want} {down : List Bool} {H H' : AHeap} {mb sb : Nat} {p q : St → Prop}
theorem MHp.led (h : MHp g w down H H' mb sb p) {es : List (MK × AV)} (hes : LeadsOK g w down es) : MHp g w down H (upd H' mb (some (.map (.a 2 .i64) es))) mb sb p := by
  refine ⟨h.ne, h.new, fun b o ho hb => by rw [upd_ne _ _ (Ne.symm hb)]; exact h.base b o ho hb, ⟨es, upd_self _ _ _, hes⟩, ?_⟩
  rw [upd_ne _ _ (Ne.symm h.ne)]
  exact h.says
theorem MHp.put (h : MHp g w down H H' mb sb p) {es : List (MK × AV)} (he : H' sb = some (.map (.a 2 .i64) es)) (hs : Says es p) (a : St) (hq : ∀ c, q c ↔ p c ∨ c = a) : MHp g w down H (upd H' sb (some (.map (.a 2 .i64) (mput es (stKey a) (bv true))))) mb sb q := by
  refine ⟨h.ne, h.new, fun b o ho hb => by rw [upd_ne _ _ (by rintro rfl; rw [h.new] at ho; cases ho)]; exact h.base b o ho hb, ?_, ⟨_, upd_self _ _ _, hs.put hq⟩⟩
  rw [upd_ne _ _ h.ne]; exact h.leads
theorem MHp.iff (h : MHp g w down H H' mb sb p) (hq : ∀ c, q c ↔ p c) : MHp g w down H H' mb sb q := by
  obtain ⟨es, h1, h2⟩ := h.says
  exact ⟨h.ne, h.new, h.base, h.leads, es, h1, h2.iff hq⟩
end
theorem left_c (g : Graph) (w : Want) (down : List Bool) (h0 : optErr g w down = 0) (mb : Nat) (R : List (List St)) (hR : 1 ≤ R.length ∧ R.length ≤ 20) (hR2 : ∀ l ∈ R, l.length ≤ 240) (es : List (MK × AV)) (hes : LeadsOK g w down es) (H : AHeap) (hm : H mb = some (.map (.a 2 .i64) es)) :
    ACalls Try.prog 45 [xAV g w down mb, .vec false (R.map stsAV) R.length] H fun r H' => (∀ b o, H b = some o → b ≠ mb → H' b = some o) ∧ (∃ es', H' mb = some (.map (.a 2 .i64) es') ∧ LeadsOK g w down es') ∧ ∃ bs, r = .vec false (bs.map mvv) R.length ∧ LOk g w down R mb H' bs (-1) := by
  have wf := wfit_of (optErr_right h0)
  have hf := wf.fit
  have fn := hf.n2
  have fw := hf.few
  refine ACalls.of_code fn_compile_search_left ?_
  simp -implicitDefEqProofs only [sc_compile_search_left, xAV, go_sem, Nat.reduceEqDiff, Nat.reduceAdd, Nat.reduceMul, Nat.reduceLeDiff, Nat.reduceSub, Nat.reduceLT, Nat.reduceBEq, Int.reduceToNat, reduceCtorEq, ↓reduceIte, Int.reduceEq, Int.reduceNeg, Int.reduceLT, Int.reduceLE, Int.reduceAdd, Int.reduceSub, Int.reduceMul]
  repeat' (first | simp -implicitDefEqProofs only [go_sem, Nat.reduceEqDiff, Nat.reduceAdd, Nat.reduceMul, Nat.reduceLeDiff, Nat.reduceSub, Nat.reduceLT, Nat.reduceBEq, Int.reduceToNat, reduceCtorEq, ↓reduceIte, Int.reduceEq, Int.reduceNeg, Int.reduceLT, Int.reduceLE, Int.reduceAdd, Int.reduceSub, Int.reduceMul] | simp -implicitDefEqProofs (disch := omega) only [iaq_vec, iao_arr, iaq_raw, rd_map, wrap_id, binq_quo, binq_rem, binq_shl, binq_shr, tdiv_pos, tmod_pos, if_pos, exV_some, Option.map_some] | ((first | with_reducible apply exIf_dec | ((with_reducible apply exGd_dec); focus exact rfl) | ((with_reducible apply exGq_dec); focus exact rfl) | with_reducible apply exIf_intro | ((with_reducible apply exGd_intro); focus exact rfl) | ((with_reducible apply exGq_intro); focus exact rfl)) <;> intro _))
  all_goals first | (exfalso; omega) | skip
  refine exMk_int (by omega) (by omega) (by simp only [maxLen]; omega) rfl ?_
  rw [zrep_one, show ((R.length : Nat) : Int).toNat = R.length by omega, show List.replicate R.length (cAV (.map none)) = (List.replicate R.length (none : Option Nat)).map mvv by rw [List.map_replicate]; rfl]
  repeat' (first | simp -implicitDefEqProofs only [go_sem, Nat.reduceEqDiff, Nat.reduceAdd, Nat.reduceMul, Nat.reduceLeDiff, Nat.reduceSub, Nat.reduceLT, Nat.reduceBEq, Int.reduceToNat, reduceCtorEq, ↓reduceIte, Int.reduceEq, Int.reduceNeg, Int.reduceLT, Int.reduceLE, Int.reduceAdd, Int.reduceSub, Int.reduceMul] | simp -implicitDefEqProofs (disch := omega) only [upd_self, set_mvv, iaq_vec, iao_arr, iaq_raw, rd_map, wrap_id, binq_quo, binq_rem, binq_shl, binq_shr, tdiv_pos, tmod_pos, if_pos, exV_some, Option.map_some] | ((first | with_reducible apply exIf_dec | ((with_reducible apply exGd_dec); focus exact rfl) | ((with_reducible apply exGq_dec); focus exact rfl) | with_reducible apply exIf_intro | ((with_reducible apply exGd_intro); focus exact rfl) | ((with_reducible apply exGq_intro); focus exact rfl)) <;> intro _))
  all_goals first | (exfalso; omega) | skip
  intro b0 hb0
  have hb0 : H b0 = none := hb0
  have hne0 : b0 ≠ mb := by rintro rfl; rw [hb0] at hm; cases hm
  repeat' (first | simp -implicitDefEqProofs only [go_sem, Nat.reduceEqDiff, Nat.reduceAdd, Nat.reduceMul, Nat.reduceLeDiff, Nat.reduceSub, Nat.reduceLT, Nat.reduceBEq, Int.reduceToNat, reduceCtorEq, ↓reduceIte, Int.reduceEq, Int.reduceNeg, Int.reduceLT, Int.reduceLE, Int.reduceAdd, Int.reduceSub, Int.reduceMul] | simp -implicitDefEqProofs (disch := omega) only [upd_self, set_mvv, List.length_replicate, iaq_vec, iao_arr, iaq_raw, rd_map, wrap_id, binq_quo, binq_rem, binq_shl, binq_shr, tdiv_pos, tmod_pos, if_pos, exV_some, Option.map_some] | ((first | with_reducible apply exIf_dec | ((with_reducible apply exGd_dec); focus exact rfl) | ((with_reducible apply exGq_dec); focus exact rfl) | with_reducible apply exIf_intro | ((with_reducible apply exGd_intro); focus exact rfl) | ((with_reducible apply exGq_intro); focus exact rfl)) <;> intro _))
  all_goals first | (exfalso; omega) | skip
  have hm0 : MHp g w down H (upd (upd H b0 (some (.map (.a 2 .i64) []))) b0 (some (.map (.a 2 .i64) (mput [] (stKey (goalW w)) (bv true))))) mb b0 (Lf g w down R 0) := by
    refine MHp.put (p := fun _ => False) ⟨hne0, hb0, fun b o ho hb => by rw [upd_ne _ _ (by rintro rfl; rw [hb0] at ho; cases ho)]; exact ho, ⟨es, by rw [upd_ne _ _ hne0]; exact hm, hes⟩, ⟨[], upd_self _ _ _, fun c => ⟨False.elim, fun _ => rfl⟩⟩⟩ (upd_self _ _ _) (fun c => ⟨False.elim, fun _ => rfl⟩) _ fun c => ?_
    simp [Lf]
  have hlk0 : LOk g w down R mb (upd (upd H b0 (some (.map (.a 2 .i64) []))) b0 (some (.map (.a 2 .i64) (mput [] (stKey (goalW w)) (bv true))))) ((List.replicate R.length none).set ((R.length : Int) - 1).toNat (some b0)) ((R.length : Int) - 2) := by
    refine ⟨by simp, fun i hi hi0 hi1 => ?_⟩
    obtain rfl : i = (R.length : Int) - 1 := by omega
    obtain ⟨esb, h1, h2⟩ := hm0.says
    refine ⟨b0, esb, ?_, hne0, h1, ?_⟩
    · rw [gi_get (by simp; omega)]; simp
    · rw [Int.sub_self]; exact h2
  refine exL_modH (fun a : Int × List (Option Nat) × AHeap => [(6, .v (iv a.1))]) (fun a => [(13, .arr false (a.2.1.map mvv) R.length 92 1)]) (fun a => a.2.2) (fun a => LOk g w down R mb a.2.2 a.2.1 a.1 ∧ (∀ b o, H b = some o → b ≠ mb → a.2.2 b = some o) ∧ (∃ es', a.2.2 mb = some (.map (.a 2 .i64) es') ∧ LeadsOK g w down es') ∧ -1 ≤ a.1 ∧ a.1 ≤ R.length - 2) (fun a => (a.1 + 1).toNat) ((R.length : Int) - 2, (List.replicate R.length none).set ((R.length : Int) - 1).toNat (some b0), _) rfl ⟨hlk0, hm0.base, hm0.leads, by dsimp only; omega, by dsimp only; omega⟩ ?_
  rintro ⟨n, bs, H1⟩ ⟨hok, hbase, ⟨es1, hm1, hes1⟩, n0, n1⟩ ih
  dsimp only at hok hbase hm1 n0 n1 ih
  simp only [S.up, S.upH, ups, Abs.put, Nat.reduceEqDiff, ↓reduceIte, Nat.reduceAdd] at ih
  simp -implicitDefEqProofs only [congrArg KI.code sc_compile_search_left_L2.eq_1, go_sem, Nat.reduceEqDiff, Nat.reduceAdd, Nat.reduceMul, Nat.reduceLeDiff, Nat.reduceSub, Nat.reduceLT, Nat.reduceBEq, Int.reduceToNat, reduceCtorEq, ↓reduceIte, Int.reduceEq, Int.reduceNeg, Int.reduceLT, Int.reduceLE, Int.reduceAdd, Int.reduceSub, Int.reduceMul]
  by_cases hn : 0 ≤ n
  · obtain ⟨hbl, hbs⟩ := hok
    obtain ⟨b1, esn, hg1, hb1m, hH1, hs1⟩ := hbs (n + 1) (by omega) (by omega) (by omega)
    obtain ⟨k, hk⟩ : ∃ k : Nat, (k : Int) = R.length - 2 - n := ⟨((R.length : Int) - 2 - n).toNat, by omega⟩
    rw [show ((R.length : Int) - 1 - (n + 1)).toNat = k by omega] at hs1
    have hRn := outs_get (out := R) (n := n) hn (by omega)
    have hRl := hR2 _ (gi_mem (l := R) hn (by omega))
    obtain ⟨A, hA⟩ : ∃ A, A = gi R n := ⟨_, rfl⟩
    rw [← hA, stsAV] at hRn
    rw [← hA] at hRl
    repeat' (first | simp -implicitDefEqProofs only [go_sem, Nat.reduceEqDiff, Nat.reduceAdd, Nat.reduceMul, Nat.reduceLeDiff, Nat.reduceSub, Nat.reduceLT, Nat.reduceBEq, Int.reduceToNat, reduceCtorEq, ↓reduceIte, Int.reduceEq, Int.reduceNeg, Int.reduceLT, Int.reduceLE, Int.reduceAdd, Int.reduceSub, Int.reduceMul] | simp -implicitDefEqProofs (disch := omega) only [upd_self, set_mvv, List.length_map, hbl, iaq_vec, iao_arr, iaq_raw, rd_map, wrap_id, binq_quo, binq_rem, binq_shl, binq_shr, tdiv_pos, tmod_pos, if_pos, exV_some, Option.map_some] | ((first | with_reducible apply exIf_dec | ((with_reducible apply exGd_dec); focus exact rfl) | ((with_reducible apply exGq_dec); focus exact rfl) | with_reducible apply exIf_intro | ((with_reducible apply exGd_intro); focus exact rfl) | ((with_reducible apply exGq_intro); focus exact rfl)) <;> intro _))
    all_goals first | (exfalso; omega) | skip
    intro b hb
    have hb : H1 b = none := hb
    have hbm : b ≠ mb := by rintro rfl; rw [hb] at hm1; cases hm1
    have hs0 : MHp g w down H1 (upd H1 b (some (.map (.a 2 .i64) []))) mb b (fun _ => False) := ⟨hbm, hb, fun b' o ho hb' => by rw [upd_ne _ _ (by rintro rfl; rw [hb] at ho; cases ho)]; exact ho, ⟨es1, by rw [upd_ne _ _ hbm]; exact hm1, hes1⟩, ⟨[], upd_self _ _ _, fun c => ⟨False.elim, fun _ => rfl⟩⟩⟩
    repeat' (first | simp -implicitDefEqProofs only [go_sem, Nat.reduceEqDiff, Nat.reduceAdd, Nat.reduceMul, Nat.reduceLeDiff, Nat.reduceSub, Nat.reduceLT, Nat.reduceBEq, Int.reduceToNat, reduceCtorEq, ↓reduceIte, Int.reduceEq, Int.reduceNeg, Int.reduceLT, Int.reduceLE, Int.reduceAdd, Int.reduceSub, Int.reduceMul] | simp -implicitDefEqProofs (disch := omega) only [upd_self, set_mvv, List.length_map, hbl, stsAV, iaq_vec, iao_arr, iaq_raw, rd_map, wrap_id, binq_quo, binq_rem, binq_shl, binq_shr, tdiv_pos, tmod_pos, if_pos, exV_some, Option.map_some] | ((first | with_reducible apply exIf_dec | ((with_reducible apply exGd_dec); focus exact rfl) | ((with_reducible apply exGq_dec); focus exact rfl) | with_reducible apply exIf_intro | ((with_reducible apply exGd_intro); focus exact rfl) | ((with_reducible apply exGq_intro); focus exact rfl)) <;> intro _))
    all_goals first | (exfalso; omega) | skip
    rw [← hA]
    have nxt := fun H2 (hh : MHp g w down H1 H2 mb b (Lf g w down R (k + 1))) => ih (n - 1, bs.set n.toNat (some b), H2) ⟨⟨by simp [hbl], fun i hi hi0 hi1 => by
        obtain ⟨esb, q1, q2⟩ := hh.says
        rw [gi_set hn (by omega) hi0]
        by_cases e : i = n
        · rw [if_pos e]
          refine ⟨b, esb, rfl, hbm, q1, ?_⟩
          rw [e, show ((R.length : Int) - 1 - n).toNat = k + 1 by omega]
          exact q2
        · rw [if_neg e]
          obtain ⟨b2, es2, p1, p2, p3, p4⟩ := hbs i (by dsimp only at hi; omega) hi0 hi1
          exact ⟨b2, es2, p1, p2, hh.base _ _ p3 p2, p4⟩⟩, fun b' o ho hb' => hh.base b' o (hbase b' o ho hb') hb', hh.leads, by dsimp only; omega, by dsimp only; omega⟩ (by dsimp only; omega)
    dsimp only at nxt
    clear ih
    refine exL_modH (fun a : Int × AHeap => [(41, .v (iv a.1))]) (fun a => []) (fun a => a.2) (fun a => MHp g w down H1 a.2 mb b (fun c => c ∈ A.take a.1.toNat ∧ ∃ l ∈ leadsL g w down c, Lf g w down R k l.to) ∧ 0 ≤ a.1 ∧ a.1 ≤ A.length) (fun a => (A.length - a.1).toNat) (0, _) rfl ⟨hs0.iff fun c => by simp, by simp, by simp⟩ ?_
    rintro ⟨i, H2⟩ ⟨hsh2, i0, i1⟩ ih
    dsimp only at hsh2 i0 i1 ih
    simp only [S.up, S.upH, ups, Abs.put, Nat.reduceEqDiff, ↓reduceIte, Nat.reduceAdd] at ih
    simp -implicitDefEqProofs only [congrArg KI.code sc_compile_search_left_L1.eq_1, go_sem, Nat.reduceEqDiff, Nat.reduceAdd, Nat.reduceMul, Nat.reduceLeDiff, Nat.reduceSub, Nat.reduceLT, Nat.reduceBEq, Int.reduceToNat, reduceCtorEq, ↓reduceIte, Int.reduceEq, Int.reduceNeg, Int.reduceLT, Int.reduceLE, Int.reduceAdd, Int.reduceSub, Int.reduceMul]
    by_cases hi : i < A.length
    · obtain ⟨es2, he2, hl2⟩ := hsh2.leads
      have cf := cfrom_c g w down h0 mb (gi A i) es2 hl2 H2 he2
      simp only [stateAV, leadsAV, xAV] at cf
      have hRi := rd_st (l := A) i0 hi
      have nxt2 := fun H3 hh => ih (i + 1, H3) ⟨hh, by dsimp only; omega, by dsimp only; omega⟩ (by dsimp only; omega)
      dsimp only at nxt2
      rw [take_gi i0 hi] at nxt2
      clear ih nxt
      repeat' (first | simp -implicitDefEqProofs only [go_sem, Nat.reduceEqDiff, Nat.reduceAdd, Nat.reduceMul, Nat.reduceLeDiff, Nat.reduceSub, Nat.reduceLT, Nat.reduceBEq, Int.reduceToNat, reduceCtorEq, ↓reduceIte, Int.reduceEq, Int.reduceNeg, Int.reduceLT, Int.reduceLE, Int.reduceAdd, Int.reduceSub, Int.reduceMul] | simp -implicitDefEqProofs (disch := omega) only [hRi, iaq_vec, iao_arr, iaq_raw, rd_map, wrap_id, binq_quo, binq_rem, binq_shl, binq_shr, tdiv_pos, tmod_pos, if_pos, exV_some, Option.map_some] | ((first | with_reducible apply exIf_dec | ((with_reducible apply exGd_dec); focus exact rfl) | ((with_reducible apply exGq_dec); focus exact rfl) | with_reducible apply exIf_intro | ((with_reducible apply exGd_intro); focus exact rfl) | ((with_reducible apply exGq_intro); focus exact rfl)) <;> intro _))
      all_goals first | (exfalso; omega) | skip
      refine exC_intro cf ?_
      rintro _ H3 ⟨rfl, es3, rfl, hl3⟩
      have hsh3 := hsh2.led hl3
      obtain ⟨lds, hlds⟩ : ∃ l, l = leadsL g w down (gi A i) := ⟨_, rfl⟩
      have hll := leads_length g w down (gi A i)
      rw [← hlds] at hll ⊢
      clear cf
      simp -implicitDefEqProofs only [go_sem, Nat.reduceEqDiff, Nat.reduceAdd, Nat.reduceMul, Nat.reduceLeDiff, Nat.reduceSub, Nat.reduceLT, Nat.reduceBEq, Int.reduceToNat, reduceCtorEq, ↓reduceIte, Int.reduceEq, Int.reduceNeg, Int.reduceLT, Int.reduceLE, Int.reduceAdd, Int.reduceSub, Int.reduceMul]
      repeat' (first | simp -implicitDefEqProofs only [go_sem, Nat.reduceEqDiff, Nat.reduceAdd, Nat.reduceMul, Nat.reduceLeDiff, Nat.reduceSub, Nat.reduceLT, Nat.reduceBEq, Int.reduceToNat, reduceCtorEq, ↓reduceIte, Int.reduceEq, Int.reduceNeg, Int.reduceLT, Int.reduceLE, Int.reduceAdd, Int.reduceSub, Int.reduceMul] | simp -implicitDefEqProofs (disch := omega) only [iaq_vec, iao_arr, iaq_raw, rd_map, wrap_id, binq_quo, binq_rem, binq_shl, binq_shr, tdiv_pos, tmod_pos, if_pos, exV_some, Option.map_some] | ((first | with_reducible apply exIf_dec | ((with_reducible apply exGd_dec); focus exact rfl) | ((with_reducible apply exGq_dec); focus exact rfl) | with_reducible apply exIf_intro | ((with_reducible apply exGd_intro); focus exact rfl) | ((with_reducible apply exGq_intro); focus exact rfl)) <;> intro _))
      all_goals first | (exfalso; omega) | skip
      obtain ⟨P0, hP0⟩ : ∃ P0 : St → Prop, P0 = fun c => c ∈ A.take i.toNat ∧ ∃ l ∈ leadsL g w down c, Lf g w down R k l.to := ⟨_, rfl⟩
      rw [← hP0] at hsh3
      refine exL_modH (fun a : Int × AHeap => [(49, .v (iv a.1))]) (fun a => []) (fun a => a.2) (fun a => MHp g w down H1 a.2 mb b (fun c => P0 c ∨ (c = gi A i ∧ ∃ l ∈ lds.take a.1.toNat, Lf g w down R k l.to)) ∧ 0 ≤ a.1 ∧ a.1 ≤ lds.length) (fun a => (lds.length - a.1).toNat) (0, _) rfl ⟨hsh3.iff fun c => by simp, by simp, by simp⟩ ?_
      rintro ⟨j, H4⟩ ⟨hsh4, j0, j1⟩ ih
      dsimp only at hsh4 j0 j1 ih
      simp only [S.up, S.upH, ups, Abs.put, Nat.reduceEqDiff, ↓reduceIte, Nat.reduceAdd] at ih
      simp -implicitDefEqProofs only [congrArg KI.code sc_compile_search_left_L0.eq_1, go_sem, Nat.reduceEqDiff, Nat.reduceAdd, Nat.reduceMul, Nat.reduceLeDiff, Nat.reduceSub, Nat.reduceLT, Nat.reduceBEq, Int.reduceToNat, reduceCtorEq, ↓reduceIte, Int.reduceEq, Int.reduceNeg, Int.reduceLT, Int.reduceLE, Int.reduceAdd, Int.reduceSub, Int.reduceMul]
      by_cases hj : j < lds.length
      · have hlj := rd_ld (l := lds) j0 hj
        have hH4 := hsh4.base _ _ hH1 hb1m
        have hg1' : gi (bs.set n.toNat (some b)) (n + 1) = some b1 := by rw [gi_set hn (by omega) (by omega), if_neg (by omega)]; exact hg1
        have hg2' : gi (bs.set n.toNat (some b)) n = some b := by rw [gi_set hn (by omega) hn, if_pos rfl]
        have hrd1 : rdV ((bs.set n.toNat (some b)).map mvv) ((n + 1).toNat * 1) 1 false = some (.raw (.map (some b1))) := by
          rw [rd_map (by omega) (by rw [List.length_set]; omega), hg1']; rfl
        have hrd2 : rdV ((bs.set n.toNat (some b)).map mvv) (n.toNat * 1) 1 false = some (.raw (.map (some b))) := by
          rw [rd_map (by omega) (by rw [List.length_set]; omega), hg2']; rfl
        have hsw := hs1 (gi lds j).to
        have nxt3 := fun H5 hh => ih (j + 1, H5) ⟨hh, by dsimp only; omega, by dsimp only; omega⟩ (by dsimp only; omega)
        dsimp only at nxt3
        rw [take_gi j0 hj] at nxt3
        clear ih nxt2
        by_cases hin : Lf g w down R k (gi lds j).to
        · have hsw := hsw.1 hin
          simp only [stKey] at hsw
          obtain ⟨esb, hsb1, hsb2⟩ := hsh4.says
          have nx := nxt3 _ (hsh4.put hsb1 hsb2 (gi A i) fun c => by
            constructor
            · rintro (h | ⟨h1, -⟩)
              · exact .inl (.inl h)
              · exact .inr h1
            · rintro ((h | ⟨h1, l, hl, h2⟩) | h)
              · exact .inl h
              · exact .inr ⟨h1, l, List.mem_append_left _ hl, h2⟩
              · exact .inr ⟨h, gi lds j, by simp, hin⟩)
          simp only [stKey] at nx
          clear nxt3
          repeat' (first | simp -implicitDefEqProofs only [go_sem, Nat.reduceEqDiff, Nat.reduceAdd, Nat.reduceMul, Nat.reduceLeDiff, Nat.reduceSub, Nat.reduceLT, Nat.reduceBEq, Int.reduceToNat, reduceCtorEq, ↓reduceIte, Int.reduceEq, Int.reduceNeg, Int.reduceLT, Int.reduceLE, Int.reduceAdd, Int.reduceSub, Int.reduceMul] | simp -implicitDefEqProofs (disch := omega) only [hlj, hrd1, hrd2, hH4, hsb1, lkres, hsw, Option.getD_some, iaq_vec, iao_arr, iaq_raw, rd_map, wrap_id, binq_quo, binq_rem, binq_shl, binq_shr, tdiv_pos, tmod_pos, if_pos, exV_some, Option.map_some] | ((first | with_reducible apply exIf_dec | ((with_reducible apply exGd_dec); focus exact rfl) | ((with_reducible apply exGq_dec); focus exact rfl) | with_reducible apply exIf_intro | ((with_reducible apply exGd_intro); focus exact rfl) | ((with_reducible apply exGq_intro); focus exact rfl)) <;> intro _))
          all_goals first | exact nx | (exfalso; omega) | skip
          done
        · have hsw := hsw.2 hin
          simp only [stKey] at hsw
          have nx := nxt3 H4 (hsh4.iff fun c => by
            constructor
            · rintro (h | ⟨h1, l, hl, h2⟩)
              · exact .inl h
              · rcases List.mem_append.1 hl with hl | hl
                · exact .inr ⟨h1, l, hl, h2⟩
                · rw [List.mem_singleton.1 hl] at h2; exact absurd h2 hin
            · rintro (h | ⟨h1, l, hl, h2⟩)
              · exact .inl h
              · exact .inr ⟨h1, l, List.mem_append_left _ hl, h2⟩)
          clear nxt3
          repeat' (first | simp -implicitDefEqProofs only [go_sem, Nat.reduceEqDiff, Nat.reduceAdd, Nat.reduceMul, Nat.reduceLeDiff, Nat.reduceSub, Nat.reduceLT, Nat.reduceBEq, Int.reduceToNat, reduceCtorEq, ↓reduceIte, Int.reduceEq, Int.reduceNeg, Int.reduceLT, Int.reduceLE, Int.reduceAdd, Int.reduceSub, Int.reduceMul] | simp -implicitDefEqProofs (disch := omega) only [hlj, hrd1, hrd2, hH4, lkres, hsw, Option.getD_none, iaq_vec, iao_arr, iaq_raw, rd_map, wrap_id, binq_quo, binq_rem, binq_shl, binq_shr, tdiv_pos, tmod_pos, if_pos, exV_some, Option.map_some] | ((first | with_reducible apply exIf_dec | ((with_reducible apply exGd_dec); focus exact rfl) | ((with_reducible apply exGq_dec); focus exact rfl) | with_reducible apply exIf_intro | ((with_reducible apply exGd_intro); focus exact rfl) | ((with_reducible apply exGq_intro); focus exact rfl)) <;> intro _))
          all_goals first | exact nx | (exfalso; omega) | skip
          done
      · obtain rfl : j = lds.length := by omega
        clear ih
        rw [Int.toNat_natCast, List.take_length] at hsh4
        have nx := nxt2 H4 (hsh4.iff fun c => by
          rw [hP0]
          dsimp only
          rw [List.mem_append, List.mem_singleton, hlds]
          constructor
          · rintro ⟨h1 | h1, h2⟩
            · exact .inl ⟨h1, h2⟩
            · exact .inr ⟨h1, h1 ▸ h2⟩
          · rintro (⟨h1, h2⟩ | ⟨h1, h2⟩)
            · exact ⟨.inl h1, h2⟩
            · exact ⟨.inr h1, h1 ▸ h2⟩)
        clear nxt2
        repeat' (first | simp -implicitDefEqProofs only [go_sem, Nat.reduceEqDiff, Nat.reduceAdd, Nat.reduceMul, Nat.reduceLeDiff, Nat.reduceSub, Nat.reduceLT, Nat.reduceBEq, Int.reduceToNat, reduceCtorEq, ↓reduceIte, Int.reduceEq, Int.reduceNeg, Int.reduceLT, Int.reduceLE, Int.reduceAdd, Int.reduceSub, Int.reduceMul] | simp -implicitDefEqProofs (disch := omega) only [iaq_vec, iao_arr, iaq_raw, rd_map, wrap_id, binq_quo, binq_rem, binq_shl, binq_shr, tdiv_pos, tmod_pos, if_pos, exV_some, Option.map_some] | ((first | with_reducible apply exIf_dec | ((with_reducible apply exGd_dec); focus exact rfl) | ((with_reducible apply exGq_dec); focus exact rfl) | with_reducible apply exIf_intro | ((with_reducible apply exGd_intro); focus exact rfl) | ((with_reducible apply exGq_intro); focus exact rfl)) <;> intro _))
        all_goals first | exact nx | (exfalso; omega) | skip
        done
    · obtain rfl : i = A.length := by omega
      clear ih
      rw [Int.toNat_natCast, List.take_length] at hsh2
      have nx := nxt H2 (hsh2.iff fun c => by
        rw [Lf, show (R.length : Int) - 2 - (k : Int) = n by omega, ← hA])
      clear nxt
      repeat' (first | simp -implicitDefEqProofs only [go_sem, Nat.reduceEqDiff, Nat.reduceAdd, Nat.reduceMul, Nat.reduceLeDiff, Nat.reduceSub, Nat.reduceLT, Nat.reduceBEq, Int.reduceToNat, reduceCtorEq, ↓reduceIte, Int.reduceEq, Int.reduceNeg, Int.reduceLT, Int.reduceLE, Int.reduceAdd, Int.reduceSub, Int.reduceMul] | simp -implicitDefEqProofs (disch := omega) only [iaq_vec, iao_arr, iaq_raw, rd_map, wrap_id, binq_quo, binq_rem, binq_shl, binq_shr, tdiv_pos, tmod_pos, if_pos, exV_some, Option.map_some] | ((first | with_reducible apply exIf_dec | ((with_reducible apply exGd_dec); focus exact rfl) | ((with_reducible apply exGq_dec); focus exact rfl) | with_reducible apply exIf_intro | ((with_reducible apply exGd_intro); focus exact rfl) | ((with_reducible apply exGq_intro); focus exact rfl)) <;> intro _))
      all_goals first | exact nx | (exfalso; omega) | skip
      done
  · obtain rfl : n = -1 := by omega
    clear ih
    repeat' (first | simp -implicitDefEqProofs only [go_sem, Nat.reduceEqDiff, Nat.reduceAdd, Nat.reduceMul, Nat.reduceLeDiff, Nat.reduceSub, Nat.reduceLT, Nat.reduceBEq, Int.reduceToNat, reduceCtorEq, ↓reduceIte, Int.reduceEq, Int.reduceNeg, Int.reduceLT, Int.reduceLE, Int.reduceAdd, Int.reduceSub, Int.reduceMul] | simp -implicitDefEqProofs (disch := omega) only [iaq_vec, iao_arr, iaq_raw, rd_map, wrap_id, binq_quo, binq_rem, binq_shl, binq_shr, tdiv_pos, tmod_pos, if_pos, exV_some, Option.map_some] | ((first | with_reducible apply exIf_dec | ((with_reducible apply exGd_dec); focus exact rfl) | ((with_reducible apply exGq_dec); focus exact rfl) | with_reducible apply exIf_intro | ((with_reducible apply exGd_intro); focus exact rfl) | ((with_reducible apply exGq_intro); focus exact rfl)) <;> intro _))
    all_goals first | exact ⟨hbase, ⟨es1, hm1, hes1⟩, bs, rfl, hok⟩ | (exfalso; omega) | skip
    done
end Go.Proofs.Ytejmcijcdhoogaa
end

section
/- The shortest lists, in plain Lean. -/
namespace Go.Proofs.Ytejmcijcdhoogaa
open Go Abs
attribute [local irreducible] EX exL exG exC exCq exS exV exIf exGd exGq
set_option maxHeartbeats 1000000
theorem leastN {p : Nat → Prop} (h : ∃ n, p n) : ∃ n, p n ∧ ∀ m, p m → n ≤ m := by
  obtain ⟨n, hn⟩ := h
  induction n using Nat.strongRecOn with
  | _ n ih =>
    by_cases hm : ∃ m < n, p m
    · obtain ⟨m, h1, h2⟩ := hm
      exact ih m h1 h2
    · exact ⟨n, hn, fun m h => Nat.le_of_not_lt fun h' => hm ⟨m, h', h⟩⟩
section
variable (g : Graph) (w : Want) (down : List Bool)
/-- just so many segments lead to a state -/
def Ch : Nat → St → Prop
  | 0, c => c = startW w
  | k + 1, c => ∃ a, Ch k a ∧ c ∈ tosL g w down a
/-- just so many segments lead from a state to the goal -/
def Tg : Nat → St → Prop
  | 0, a => a = goalW w
  | k + 1, a => ∃ l ∈ leadsL g w down a, Tg k l.to
noncomputable instance (k : Nat) (a : St) : Decidable (Tg g w down k a) := Classical.propDecidable _
/-- the first of the lists of so many segments -/
noncomputable def lst : Nat → St → List Sg
  | 0, _ => []
  | k + 1, a => match (leadsL g w down a).find? fun l => decide (Tg g w down k l.to) with
    | some l => l.s :: lst k l.to
    | none => []
noncomputable instance (n : Nat) : Decidable (∃ k, k ≤ n ∧ Tg g w down k (startW w)) := Classical.propDecidable _
/-- how many segments the shortest list has -/
noncomputable def few (h : ∃ k, Tg g w down k (startW w)) : Nat := (leastN h).choose
def cut10 (depth : Int) : Nat := (max 0 (min depth 10)).toNat
noncomputable def compW (depth : Int) : List Sg × Int :=
  if optErr g w down ≠ 0 then ([], optErr g w down)
  else if h : ∃ k, k ≤ cut10 depth ∧ Tg g w down k (startW w) then (lst g w down (few g w down ⟨h.choose, h.choose_spec.2⟩) (startW w), 0)
  else ([], 9)
end
section
variable {g : Graph} {w : Want} {down : List Bool}
theorem few_spec (h : ∃ k, Tg g w down k (startW w)) : Tg g w down (few g w down h) (startW w) := by
  exact (leastN h).choose_spec.1
theorem few_least (h : ∃ k, Tg g w down k (startW w)) {m : Nat} (hm : Tg g w down m (startW w)) : few g w down h ≤ m := by
  exact (leastN h).choose_spec.2 _ hm
theorem few_eq {n : Nat} (hn : Tg g w down n (startW w)) (hl : ∀ m, Tg g w down m (startW w) → n ≤ m) (h : ∃ k, Tg g w down k (startW w)) : few g w down h = n :=
  Nat.le_antisymm (few_least h hn) (hl _ (few_spec h))
theorem mem_tos {a c : St} : c ∈ tosL g w down a ↔ ∃ l ∈ leadsL g w down a, l.to = c := by
  rw [tosL, List.mem_map]
theorem ch_tg {c : St} : ∀ {m k : Nat}, Ch g w down m c → Tg g w down k c → Tg g w down (m + k) (startW w)
  | 0, k, h, h2 => by rw [Ch] at h; rw [← h, Nat.zero_add]; exact h2
  | m + 1, k, h, h2 => by
    obtain ⟨a, h1, h3⟩ := h
    obtain ⟨l, hl, rfl⟩ := mem_tos.1 h3
    have := ch_tg h1 (k := k + 1) ⟨l, hl, h2⟩
    rwa [show m + 1 + k = m + (k + 1) by omega]
theorem tg_ch {a : St} : ∀ {m k : Nat}, Ch g w down m a → Tg g w down k a → Ch g w down (m + k) (goalW w)
  | m, 0, h, h2 => by rw [Tg] at h2; rw [← h2]; exact h
  | m, k + 1, h, h2 => by
    obtain ⟨l, hl, h3⟩ := h2
    have := tg_ch (m := m + 1) (k := k) ⟨a, h, mem_tos.2 ⟨l, hl, rfl⟩⟩ h3
    rwa [show m + (k + 1) = m + 1 + k by omega]
theorem ch_goal {n : Nat} : Ch g w down n (goalW w) ↔ Tg g w down n (startW w) :=
  ⟨fun h => by simpa using ch_tg (k := 0) h rfl, fun h => by simpa using tg_ch (m := 0) rfl h⟩
theorem fold_mem {L : List St} {acc : List St × List St} {c : St} : (c ∈ (L.foldl addS acc).1 ↔ c ∈ acc.1 ∨ c ∈ L) ∧ (c ∈ (L.foldl addS acc).2 ↔ c ∈ acc.2 ∨ (c ∈ L ∧ c ∉ acc.1)) := by
  induction L generalizing acc with
  | nil => simp
  | cons x L ih =>
    rw [List.foldl_cons]
    obtain ⟨h1, h2⟩ := ih (acc := addS acc x)
    rw [h1, h2]
    unfold addS
    by_cases hx : x ∈ acc.1
    · rw [if_pos hx]
      constructor
      · constructor
        · rintro (h | h)
          · exact .inl h
          · exact .inr (List.mem_cons_of_mem _ h)
        · rintro (h | h)
          · exact .inl h
          · rcases List.mem_cons.1 h with rfl | h
            · exact .inl hx
            · exact .inr h
      · constructor
        · rintro (h | ⟨h, h'⟩)
          · exact .inl h
          · exact .inr ⟨List.mem_cons_of_mem _ h, h'⟩
        · rintro (h | ⟨h, h'⟩)
          · exact .inl h
          · rcases List.mem_cons.1 h with rfl | h
            · exact absurd hx h'
            · exact .inr ⟨h, h'⟩
    · rw [if_neg hx]
      dsimp only
      constructor
      · rw [List.mem_append, List.mem_singleton, List.mem_cons, or_assoc]
      · rw [List.mem_append, List.mem_singleton, List.mem_append, List.mem_singleton, List.mem_cons]
        constructor
        · rintro ((h | rfl) | ⟨h, h'⟩)
          · exact .inl h
          · exact .inr ⟨.inl rfl, hx⟩
          · exact .inr ⟨.inr h, fun hh => h' (.inl hh)⟩
        · rintro (h | ⟨rfl | h, h'⟩)
          · exact .inl (.inl h)
          · exact .inl (.inr rfl)
          · by_cases e : c = x
            · exact .inl (.inr e)
            · exact .inr ⟨h, fun hh => hh.elim h' e⟩
theorem rs_mem : ∀ n : Nat, (∀ c, c ∈ (rs g w down n).1 ↔ ∃ k ≤ n, Ch g w down k c) ∧ ∀ k : Nat, k ≤ n → ∀ c, c ∈ gi (rs g w down n).2 k ↔ (Ch g w down k c ∧ ∀ m < k, ¬ Ch g w down m c)
  | 0 => by
    refine ⟨fun c => ?_, fun k hk c => ?_⟩
    · rw [rs, List.mem_singleton]
      constructor
      · intro h
        exact ⟨0, Nat.le_refl _, h⟩
      · rintro ⟨k, hk, h⟩
        obtain rfl : k = 0 := by omega
        exact h
    · obtain rfl : k = 0 := by omega
      rw [rs]
      show c ∈ [startW w] ↔ _
      rw [List.mem_singleton]
      exact ⟨fun h => ⟨h, fun m hm => by omega⟩, fun h => h.1⟩
  | n + 1 => by
    obtain ⟨h1, h2⟩ := rs_mem n
    have hl := rs_length (g := g) (w := w) (down := down) n
    have hL : ∀ c, c ∈ (gi (rs g w down n).2 n).flatMap (tosL g w down) ↔ ∃ a, (Ch g w down n a ∧ ∀ m < n, ¬ Ch g w down m a) ∧ c ∈ tosL g w down a := by
      intro c
      rw [List.mem_flatMap]
      exact ⟨fun ⟨a, ha, hc⟩ => ⟨a, (h2 n (Nat.le_refl _) a).1 ha, hc⟩, fun ⟨a, ha, hc⟩ => ⟨a, (h2 n (Nat.le_refl _) a).2 ha, hc⟩⟩
    have hup : ∀ c, Ch g w down (n + 1) c → (∃ k ≤ n, Ch g w down k c) ∨ c ∈ (gi (rs g w down n).2 n).flatMap (tosL g w down) := by
      rintro c ⟨a, ha, hc⟩
      by_cases hm : ∃ m < n, Ch g w down m a
      · obtain ⟨m, hm, hma⟩ := hm
        exact .inl ⟨m + 1, by omega, a, hma, hc⟩
      · exact .inr ((hL c).2 ⟨a, ⟨ha, fun m hm' hh => hm ⟨m, hm', hh⟩⟩, hc⟩)
    refine ⟨fun c => ?_, fun k hk c => ?_⟩
    · rw [rs]
      show c ∈ (List.foldl addS _ _).1 ↔ _
      rw [fold_mem.1, h1 c]
      constructor
      · rintro (⟨k, hk, h⟩ | h)
        · exact ⟨k, by omega, h⟩
        · obtain ⟨a, ⟨ha, -⟩, hc⟩ := (hL c).1 h
          exact ⟨n + 1, Nat.le_refl _, a, ha, hc⟩
      · rintro ⟨k, hk, h⟩
        by_cases e : k = n + 1
        · subst e; exact hup c h
        · exact .inl ⟨k, by omega, h⟩
    · rw [rs]
      dsimp only
      by_cases e : k = n + 1
      · subst e
        have hg : gi ((rs g w down n).2 ++ [(roundN g w down (rs g w down n).1 (gi (rs g w down n).2 n)).2]) ((n + 1 : Nat) : Int) = (roundN g w down (rs g w down n).1 (gi (rs g w down n).2 n)).2 := by
          rw [gi_get (by rw [List.length_append, List.length_singleton, hl]; omega)]
          rw [List.getElem_append_right (by rw [hl]; omega)]
          simp [hl]
        rw [hg]
        show c ∈ (List.foldl addS _ _).2 ↔ _
        rw [fold_mem.2, h1 c]
        constructor
        · rintro (h | ⟨h, hn⟩)
          · cases h
          · obtain ⟨a, ⟨ha, -⟩, hc⟩ := (hL c).1 h
            exact ⟨⟨a, ha, hc⟩, fun m hm hh => hn ⟨m, by omega, hh⟩⟩
        · rintro ⟨h, hn⟩
          rcases hup c h with ⟨m, hm, hh⟩ | hh
          · exact absurd hh (hn m (by omega))
          · exact .inr ⟨hh, fun ⟨m, hm, hh⟩ => hn m (by omega) hh⟩
      · have hg : gi ((rs g w down n).2 ++ [(roundN g w down (rs g w down n).1 (gi (rs g w down n).2 n)).2]) (k : Int) = gi (rs g w down n).2 k := by
          rw [gi_get (by rw [List.length_append, List.length_singleton, hl]; omega), List.getElem_append_left (by rw [hl]; omega), ← gi_get (by rw [hl]; omega)]
        rw [hg]
        exact h2 k (by omega) c
/-- the program's maps tell which states lead on to the goal -/
theorem lf_tg {n : Nat} (hn : ∀ m < n, ¬ Ch g w down m (goalW w)) : ∀ {k : Nat} {c : St}, k ≤ n → Ch g w down (n - k) c → (Lf g w down (rs g w down n).2 k c ↔ Tg g w down k c)
  | 0, c, _, _ => Iff.rfl
  | k + 1, c, hk, hc => by
    have hl := rs_length (g := g) (w := w) (down := down) n
    rw [Lf, Tg]
    have nx : ∀ l ∈ leadsL g w down c, Ch g w down (n - k) l.to := fun l hl => by
      rw [show n - k = (n - (k + 1)) + 1 by omega]
      exact ⟨c, hc, mem_tos.2 ⟨l, hl, rfl⟩⟩
    constructor
    · rintro ⟨-, l, hl, h⟩
      exact ⟨l, hl, (lf_tg hn (by omega) (nx l hl)).1 h⟩
    · rintro ⟨l, hl', h⟩
      refine ⟨?_, l, hl', (lf_tg hn (by omega) (nx l hl')).2 h⟩
      rw [show ((rs g w down n).2.length : Int) - 2 - (k : Int) = ((n - (k + 1) : Nat) : Int) by rw [hl]; omega]
      refine ((rs_mem n).2 _ (by omega) c).2 ⟨hc, fun m hm hh => ?_⟩
      have := tg_ch hh (k := k + 1) ⟨l, hl', h⟩
      exact hn _ (by omega) this
theorem compW_ok (h0 : optErr g w down = 0) {depth : Int} {n : Nat} (hn : n ≤ cut10 depth) (ht : Tg g w down n (startW w)) (hl : ∀ m, Tg g w down m (startW w) → n ≤ m) : compW g w down depth = (lst g w down n (startW w), 0) := by
  have h : ∃ k, k ≤ cut10 depth ∧ Tg g w down k (startW w) := ⟨n, hn, ht⟩
  rw [compW, if_neg (fun hh => hh h0), dif_pos h, few_eq ht hl]
theorem compW_deep (h0 : optErr g w down = 0) {depth : Int} (hn : ∀ k, k ≤ cut10 depth → ¬ Tg g w down k (startW w)) : compW g w down depth = ([], 9) := by
  rw [compW, if_neg (fun hh => hh h0), dif_neg fun ⟨k, hk, h⟩ => hn k hk h]
end
end Go.Proofs.Ytejmcijcdhoogaa
end

section
/- The program finds the first of the shortest lists. -/
namespace Go.Proofs.Ytejmcijcdhoogaa
open Go Abs
attribute [local irreducible] EX exL exG exC exCq exS exV exIf exGd exGq
set_option maxHeartbeats 4000000
noncomputable def compAV (g : Graph) (w : Want) (down : List Bool) (depth : Int) : AV := .tup [.vec (compW g w down depth).1.isEmpty (rows (compW g w down depth).1) (compW g w down depth).1.length, iv (compW g w down depth).2]
theorem lst_find {g : Graph} {w : Want} {down : List Bool} {m : Nat} {a : St} {j : Int} (j0 : 0 ≤ j) (j1 : j < (leadsL g w down a).length) (hn : ∀ l ∈ (leadsL g w down a).take j.toNat, ¬ Tg g w down m l.to) (h : Tg g w down m (gi (leadsL g w down a) j).to) :
    lst g w down (m + 1) a = (gi (leadsL g w down a) j).s :: lst g w down m (gi (leadsL g w down a) j).to := by
  have : (leadsL g w down a).find? (fun l => decide (Tg g w down m l.to)) = some (gi (leadsL g w down a) j) := by
    rw [List.find?_eq_some_iff_append]
    refine ⟨by simpa using h, (leadsL g w down a).take j.toNat, (leadsL g w down a).drop (j + 1).toNat, ?_, fun l hl => by simpa using hn l hl⟩
    rw [← drop_gi j0 j1, List.take_append_drop]
  rw [lst, this]
theorem compile_c (g : Graph) (hb : g.links.length * 32 ≤ 140737488351232) (hn : g.nl = true → g.links = []) (w : Want) (hw : w.ok) (nl : Bool) (down : List Bool) (depth : Int) (H : AHeap) :
    APure Try.prog 20 [tab g, w.av, blv nl down, iv depth] H (compAV g w down depth) := by
  intro Q h
  suffices key : ACalls Try.prog 20 [tab g, w.av, blv nl down, iv depth] H fun r H' => (∀ b o, H b = some o → H' b = some o) ∧ r = compAV g w down depth by
    refine ACalls.relax (key.mono ?_)
    rintro r H' ⟨h1, rfl⟩
    exact ⟨fun _ => False, H, _, h1, by simp, Fz.refl _ _ _, h⟩
  have c1 := fun H => enew_c g hb hn w hw nl down H
  have c2 := fun H => start_c w hw H
  have c3 := fun H => goal_c w hw H
  refine ACalls.of_code fn_compile_List ?_
  by_cases h0 : optErr g w down = 0
  · rw [if_pos h0] at c1
    obtain ⟨d, hd⟩ : ∃ d : Nat, d = cut10 depth := ⟨_, rfl⟩
    simp only [tab, tabCells, Want.av, blv, sl, mapAV] at c1 c2 c3
    simp -implicitDefEqProofs only [sc_compile_List, tab, tabCells, Want.av, blv, sl, go_sem, Nat.reduceEqDiff, Nat.reduceAdd, Nat.reduceMul, Nat.reduceLeDiff, Nat.reduceSub, Nat.reduceLT, Nat.reduceBEq, Int.reduceToNat, reduceCtorEq, ↓reduceIte, Int.reduceEq, Int.reduceNeg, Int.reduceLT, Int.reduceLE, Int.reduceAdd, Int.reduceSub, Int.reduceMul]
    repeat' (first | simp -implicitDefEqProofs only [go_sem, Nat.reduceEqDiff, Nat.reduceAdd, Nat.reduceMul, Nat.reduceLeDiff, Nat.reduceSub, Nat.reduceLT, Nat.reduceBEq, Int.reduceToNat, reduceCtorEq, ↓reduceIte, Int.reduceEq, Int.reduceNeg, Int.reduceLT, Int.reduceLE, Int.reduceAdd, Int.reduceSub, Int.reduceMul] | simp -implicitDefEqProofs (disch := omega) only [iaq_vec, iao_arr, iaq_raw, rd_map, wrap_id, binq_quo, binq_rem, binq_shl, binq_shr, tdiv_pos, tmod_pos, if_pos, exV_some, Option.map_some] | ((first | with_reducible apply exIf_dec | ((with_reducible apply exGd_dec); focus exact rfl) | ((with_reducible apply exGq_dec); focus exact rfl) | with_reducible apply exIf_intro | ((with_reducible apply exGd_intro); focus exact rfl) | ((with_reducible apply exGq_intro); focus exact rfl)) <;> intro _) | with_reducible refine exC_pure (c1 _) ?_ | with_reducible refine exCq_pure (c1 _) ?_ | with_reducible refine exC_pure (c2 _) ?_ | with_reducible refine exCq_pure (c2 _) ?_ | with_reducible refine exC_pure (c3 _) ?_ | with_reducible refine exCq_pure (c3 _) ?_)
    all_goals first | (exfalso; omega) | skip
    intro mb hmb
    have hmb : H mb = none := hmb
    repeat' (first | simp -implicitDefEqProofs only [go_sem, Nat.reduceEqDiff, Nat.reduceAdd, Nat.reduceMul, Nat.reduceLeDiff, Nat.reduceSub, Nat.reduceLT, Nat.reduceBEq, Int.reduceToNat, reduceCtorEq, ↓reduceIte, Int.reduceEq, Int.reduceNeg, Int.reduceLT, Int.reduceLE, Int.reduceAdd, Int.reduceSub, Int.reduceMul] | simp -implicitDefEqProofs (disch := omega) only [iaq_vec, iao_arr, iaq_raw, rd_map, wrap_id, binq_quo, binq_rem, binq_shl, binq_shr, tdiv_pos, tmod_pos, if_pos, exV_some, Option.map_some] | ((first | with_reducible apply exIf_dec | ((with_reducible apply exGd_dec); focus exact rfl) | ((with_reducible apply exGq_dec); focus exact rfl) | with_reducible apply exIf_intro | ((with_reducible apply exGd_intro); focus exact rfl) | ((with_reducible apply exGq_intro); focus exact rfl)) <;> intro _) | with_reducible refine exC_pure (c2 _) ?_ | with_reducible refine exCq_pure (c2 _) ?_)
    all_goals first | (exfalso; omega) | skip
    have hdd : (if 0 < (if 10 < depth then 10 else depth) then (if 10 < depth then 10 else depth) else 0 : Int) = (d : Int) := by
      rw [hd, cut10]; split <;> (try split) <;> omega
    have hd10 : d ≤ 10 := by rw [hd, cut10]; omega
    rw [hdd]
    have wf := wfit_of (optErr_right h0)
    have hf := wf.fit
    have fn := hf.n2
    have fw := wf.few
    have hsr : rngS g (startW w) := by
      have := come_le (l := pts w) (node := w.src) (n := 0) (by omega) (by rw [pts_length]; omega)
      rw [pts_length] at this
      exact ⟨wf.src, by dsimp only [startW]; omega, by dsimp only [startW]; omega⟩
    have rc := rounds_c g w down h0 mb d ⟨by omega, by omega⟩ [] (fun k v hh => by simp [mget] at hh) (upd H mb (some (.map (.a 2 .i64) []))) (upd_self _ _ _) hsr
    have base0 : ∀ (es : List (MK × AV)) b o, H b = some o → upd (upd H mb (some (.map (.a 2 .i64) []))) mb (some (.map (.a 2 .i64) es)) b = some o := fun es b o ho => by
      have : mb ≠ b := by rintro rfl; rw [hmb] at ho; cases ho
      rw [upd_ne _ _ this, upd_ne _ _ this]; exact ho
    simp only [xAV, stateAV, startW, mapAV, tab, tabCells] at rc
    refine exC_intro rc ?_
    rintro r H1 ⟨⟨es, rfl, hes⟩, ⟨n, n1, hgo, hno, rfl⟩ | ⟨hno, rfl⟩⟩
    · have hch : ∀ m < n, ¬ Ch g w down m (goalW w) := fun m hm hh => hno m hm (((rs_mem m).1 _).2 ⟨m, Nat.le_refl _, hh⟩)
      obtain ⟨k, hk, hkg⟩ := ((rs_mem n).1 _).1 hgo
      obtain rfl : k = n := by
        by_cases e : k = n
        · exact e
        · exact absurd hkg (hch k (by omega))
      clear hk hgo hno
      have htg := ch_goal.1 hkg
      have hw : compAV g w down depth = .tup [.vec (lst g w down k (startW w)).isEmpty (rows (lst g w down k (startW w))) (lst g w down k (startW w)).length, iv 0] := by
        rw [compAV, compW_ok h0 (n := k) (by omega) htg fun m hm => Nat.le_of_not_lt fun hlt => hch m hlt (ch_goal.2 hm)]
      rw [hw]
      have hRl := rs_length (g := g) (w := w) (down := down) k
      have hR2 := (rs_ok (down := down) wf hsr k).2
      obtain ⟨R, hR⟩ : ∃ R, R = (rs g w down k).2 := ⟨_, rfl⟩
      have hlf : ∀ {j : Nat} {c : St}, j ≤ k → Ch g w down (k - j) c → (Lf g w down R j c ↔ Tg g w down j c) := fun h1 h2 => by rw [hR]; exact lf_tg hch h1 h2
      rw [← hR] at hRl hR2 ⊢
      have lc := left_c g w down h0 mb R ⟨by omega, by omega⟩ (fun l hl => (hR2 l hl).2) es hes (upd (upd H mb (some (.map (.a 2 .i64) []))) mb (some (.map (.a 2 .i64) es))) (upd_self _ _ _)
      simp only [xAV, mapAV, tab, tabCells] at lc
      repeat' (first | simp -implicitDefEqProofs only [go_sem, Nat.reduceEqDiff, Nat.reduceAdd, Nat.reduceMul, Nat.reduceLeDiff, Nat.reduceSub, Nat.reduceLT, Nat.reduceBEq, Int.reduceToNat, reduceCtorEq, ↓reduceIte, Int.reduceEq, Int.reduceNeg, Int.reduceLT, Int.reduceLE, Int.reduceAdd, Int.reduceSub, Int.reduceMul] | simp -implicitDefEqProofs (disch := omega) only [iaq_vec, iao_arr, iaq_raw, rd_map, wrap_id, binq_quo, binq_rem, binq_shl, binq_shr, tdiv_pos, tmod_pos, if_pos, exV_some, Option.map_some] | ((first | with_reducible apply exIf_dec | ((with_reducible apply exGd_dec); focus exact rfl) | ((with_reducible apply exGq_dec); focus exact rfl) | with_reducible apply exIf_intro | ((with_reducible apply exGd_intro); focus exact rfl) | ((with_reducible apply exGq_intro); focus exact rfl)) <;> intro _))
      all_goals first | (exfalso; omega) | skip
      refine exC_intro lc ?_
      rintro r H2 ⟨hb2, ⟨es2, hm2, hes2⟩, bs, rfl, hbl, hbs⟩
      have hbase : ∀ b o, H b = some o → H2 b = some o := fun b o ho => hb2 b o (base0 es b o ho) (by rintro rfl; rw [hmb] at ho; cases ho)
      simp -implicitDefEqProofs only [go_sem, Nat.reduceEqDiff, Nat.reduceAdd, Nat.reduceMul, Nat.reduceLeDiff, Nat.reduceSub, Nat.reduceLT, Nat.reduceBEq, Int.reduceToNat, reduceCtorEq, ↓reduceIte, Int.reduceEq, Int.reduceNeg, Int.reduceLT, Int.reduceLE, Int.reduceAdd, Int.reduceSub, Int.reduceMul]
      repeat' (first | simp -implicitDefEqProofs only [go_sem, Nat.reduceEqDiff, Nat.reduceAdd, Nat.reduceMul, Nat.reduceLeDiff, Nat.reduceSub, Nat.reduceLT, Nat.reduceBEq, Int.reduceToNat, reduceCtorEq, ↓reduceIte, Int.reduceEq, Int.reduceNeg, Int.reduceLT, Int.reduceLE, Int.reduceAdd, Int.reduceSub, Int.reduceMul] | simp -implicitDefEqProofs (disch := omega) only [iaq_vec, iao_arr, iaq_raw, rd_map, wrap_id, binq_quo, binq_rem, binq_shl, binq_shr, tdiv_pos, tmod_pos, if_pos, exV_some, Option.map_some] | ((first | with_reducible apply exIf_dec | ((with_reducible apply exGd_dec); focus exact rfl) | ((with_reducible apply exGq_dec); focus exact rfl) | with_reducible apply exIf_intro | ((with_reducible apply exGd_intro); focus exact rfl) | ((with_reducible apply exGq_intro); focus exact rfl)) <;> intro _))
      all_goals first | (exfalso; omega) | skip
      obtain ⟨t, htd⟩ : ∃ t, t = bs.drop 1 := ⟨_, rfl⟩
      have htl : t.length = k := by rw [htd, List.length_drop]; omega
      have ht : ∀ i : Int, 0 ≤ i → i < k → ∃ b es, gi t i = some b ∧ b ≠ mb ∧ H2 b = some (.map (.a 2 .i64) es) ∧ Says es (Lf g w down R (k - 1 - i.toNat)) := fun i i0 i1 => by
        obtain ⟨b, es, q1, q2, q3, q4⟩ := hbs (i + 1) (by omega) (by omega) (by omega)
        refine ⟨b, es, ?_, q2, q3, ?_⟩
        · rw [← q1, htd, gi_get (by rw [List.length_drop]; omega), gi_get (by omega), List.getElem_drop]
          congr 1
          omega
        · rw [show k - 1 - i.toNat = ((R.length : Int) - 1 - (i + 1)).toNat by omega]; exact q4
      rw [show ((R.length : Int)).toNat - 1 = k by omega, Nat.mul_one, ← List.map_drop, ← htd, List.take_of_length_le (by rw [List.length_map, htl]; exact Nat.le_refl _)]
      refine exL_modH (fun a : Int × St × List Sg × AHeap => [(17, .own 77), (57, .v (iv a.1))]) (fun a => [(13, .cells [iv a.2.1.1, iv a.2.1.2] 82), (77, .arr a.2.2.1.isEmpty (rows a.2.2.1) a.2.2.1.length 50 2)]) (fun a => a.2.2.2) (fun a => (0 ≤ a.1 ∧ a.1 ≤ k) ∧ (a.2.2.1.length : Int) = a.1 ∧ a.2.2.1 ++ lst g w down (k - a.1.toNat) a.2.1 = lst g w down k (startW w) ∧ Tg g w down (k - a.1.toNat) a.2.1 ∧ Ch g w down a.1.toNat a.2.1 ∧ (∀ b o, H2 b = some o → b ≠ mb → a.2.2.2 b = some o) ∧ ∃ es', a.2.2.2 mb = some (.map (.a 2 .i64) es') ∧ LeadsOK g w down es') (fun a => (k - a.1).toNat) (0, startW w, [], H2) rfl ⟨⟨by simp, by dsimp only; omega⟩, rfl, rfl, htg, rfl, fun b o ho _ => ho, es2, hm2, hes2⟩ ?_
      rintro ⟨i, a, o, H3⟩ ⟨⟨i0, i1⟩, ho, hlst, htga, hcha, hb3, ⟨es3, hm3, hes3⟩⟩ ih
      dsimp only at i0 i1 ho hlst htga hcha hb3 hm3 ih
      simp only [S.up, S.upH, ups, Abs.put, Nat.reduceEqDiff, ↓reduceIte, Nat.reduceAdd] at ih
      simp -implicitDefEqProofs only [congrArg KI.code sc_compile_List_L1.eq_1, go_sem, Nat.reduceEqDiff, Nat.reduceAdd, Nat.reduceMul, Nat.reduceLeDiff, Nat.reduceSub, Nat.reduceLT, Nat.reduceBEq, Int.reduceToNat, reduceCtorEq, ↓reduceIte, Int.reduceEq, Int.reduceNeg, Int.reduceLT, Int.reduceLE, Int.reduceAdd, Int.reduceSub, Int.reduceMul]
      by_cases hi : i < k
      · obtain ⟨b, esb, hgb, hbm, hHb, hsb⟩ := ht i i0 hi
        have hrd : rdV (t.map mvv) (i.toNat * 1) 1 false = some (.raw (.map (some b))) := by rw [rd_map i0 (by omega), hgb]; rfl
        have cf := cfrom_c g w down h0 mb a es3 hes3 H3 hm3
        simp only [xAV, mapAV, tab, tabCells, stateAV, leadsAV] at cf
        repeat' (first | simp -implicitDefEqProofs only [go_sem, Nat.reduceEqDiff, Nat.reduceAdd, Nat.reduceMul, Nat.reduceLeDiff, Nat.reduceSub, Nat.reduceLT, Nat.reduceBEq, Int.reduceToNat, reduceCtorEq, ↓reduceIte, Int.reduceEq, Int.reduceNeg, Int.reduceLT, Int.reduceLE, Int.reduceAdd, Int.reduceSub, Int.reduceMul] | simp -implicitDefEqProofs (disch := omega) only [hrd, iaq_vec, iao_arr, iaq_raw, rd_map, wrap_id, binq_quo, binq_rem, binq_shl, binq_shr, tdiv_pos, tmod_pos, if_pos, exV_some, Option.map_some] | ((first | with_reducible apply exIf_dec | ((with_reducible apply exGd_dec); focus exact rfl) | ((with_reducible apply exGq_dec); focus exact rfl) | with_reducible apply exIf_intro | ((with_reducible apply exGd_intro); focus exact rfl) | ((with_reducible apply exGq_intro); focus exact rfl)) <;> intro _))
        all_goals first | (exfalso; omega) | skip
        obtain ⟨m, hm⟩ : ∃ m, m + 1 = k - i.toNat := ⟨k - i.toNat - 1, by omega⟩
        rw [← hm] at hlst htga
        rw [show k - 1 - i.toNat = m by omega] at hsb
        have hlfa : ∀ l ∈ leadsL g w down a, (Lf g w down R m l.to ↔ Tg g w down m l.to) := fun l hl => hlf (by omega) (by
          rw [show k - m = i.toNat + 1 by omega]
          exact ⟨a, hcha, mem_tos.2 ⟨l, hl, rfl⟩⟩)
        have hfd := fun (j : Int) (j0 : 0 ≤ j) (j1 : j < (leadsL g w down a).length) => lst_find (g := g) (w := w) (down := down) (m := m) (a := a) j0 j1
        have hchn : ∀ l ∈ leadsL g w down a, Ch g w down (i + 1).toNat l.to := fun l hl => by
          rw [show (i + 1).toNat = i.toNat + 1 by omega]
          exact ⟨a, hcha, mem_tos.2 ⟨l, hl, rfl⟩⟩
        have hll := leads_length g w down a
        have hfw := hf.few
        have hle := hf.n2
        refine exC_intro cf ?_
        rintro _ H4 ⟨rfl, es4, rfl, hes4⟩
        rw [Tg] at htga
        obtain ⟨lds, hlds⟩ : ∃ l, l = leadsL g w down a := ⟨_, rfl⟩
        rw [← hlds] at hll hlfa hfd htga hchn ⊢
        clear cf hlds
        have hHb' : upd H3 mb (some (.map (.a 2 .i64) es4)) b = some (.map (.a 2 .i64) esb) := by rw [upd_ne _ _ (Ne.symm hbm)]; exact hb3 b _ hHb hbm
        have nxt := fun (a' : St) (o' : List Sg) (h1 : (o'.length : Int) = i + 1) (h2 : o' ++ lst g w down m a' = lst g w down k (startW w)) (h3 : Tg g w down m a') (h4 : Ch g w down (i + 1).toNat a') => ih (i + 1, a', o', upd H3 mb (some (.map (.a 2 .i64) es4))) ⟨⟨by dsimp only; omega, by dsimp only; omega⟩, h1, by rw [show k - (i + 1).toNat = m by omega]; exact h2, by rw [show k - (i + 1).toNat = m by omega]; exact h3, h4, fun b o ho hb => by dsimp only; rw [upd_ne _ _ (Ne.symm hb)]; exact hb3 b o ho hb, es4, upd_self _ _ _, hes4⟩ (by dsimp only; omega)
        dsimp only at nxt
        clear ih
        simp -implicitDefEqProofs only [go_sem, Nat.reduceEqDiff, Nat.reduceAdd, Nat.reduceMul, Nat.reduceLeDiff, Nat.reduceSub, Nat.reduceLT, Nat.reduceBEq, Int.reduceToNat, reduceCtorEq, ↓reduceIte, Int.reduceEq, Int.reduceNeg, Int.reduceLT, Int.reduceLE, Int.reduceAdd, Int.reduceSub, Int.reduceMul]
        repeat' (first | simp -implicitDefEqProofs only [go_sem, Nat.reduceEqDiff, Nat.reduceAdd, Nat.reduceMul, Nat.reduceLeDiff, Nat.reduceSub, Nat.reduceLT, Nat.reduceBEq, Int.reduceToNat, reduceCtorEq, ↓reduceIte, Int.reduceEq, Int.reduceNeg, Int.reduceLT, Int.reduceLE, Int.reduceAdd, Int.reduceSub, Int.reduceMul] | simp -implicitDefEqProofs (disch := omega) only [iaq_vec, iao_arr, iaq_raw, rd_map, wrap_id, binq_quo, binq_rem, binq_shl, binq_shr, tdiv_pos, tmod_pos, if_pos, exV_some, Option.map_some] | ((first | with_reducible apply exIf_dec | ((with_reducible apply exGd_dec); focus exact rfl) | ((with_reducible apply exGq_dec); focus exact rfl) | with_reducible apply exIf_intro | ((with_reducible apply exGd_intro); focus exact rfl) | ((with_reducible apply exGq_intro); focus exact rfl)) <;> intro _))
        all_goals first | (exfalso; omega) | skip
        refine exL_modH (fun a : Int => [(65, .v (iv a))]) (fun _ => []) (fun _ => upd H3 mb (some (.map (.a 2 .i64) es4))) (fun j => (0 ≤ j ∧ j ≤ lds.length) ∧ ∀ l ∈ lds.take j.toNat, ¬ Tg g w down m l.to) (fun j => (lds.length - j).toNat) 0 rfl ⟨⟨by omega, by omega⟩, by simp⟩ ?_
        rintro j ⟨⟨j0, j1⟩, hnot⟩ ih
        simp only [S.up, S.upH, ups, Abs.put, Nat.reduceEqDiff, ↓reduceIte, Nat.reduceAdd] at ih
        simp -implicitDefEqProofs only [congrArg KI.code sc_compile_List_L0.eq_1, go_sem, Nat.reduceEqDiff, Nat.reduceAdd, Nat.reduceMul, Nat.reduceLeDiff, Nat.reduceSub, Nat.reduceLT, Nat.reduceBEq, Int.reduceToNat, reduceCtorEq, ↓reduceIte, Int.reduceEq, Int.reduceNeg, Int.reduceLT, Int.reduceLE, Int.reduceAdd, Int.reduceSub, Int.reduceMul]
        by_cases hj : j < lds.length
        · have hlj := rd_ld (l := lds) j0 hj
          have hmem := gi_mem (l := lds) j0 hj
          have hsw := hsb (gi lds j).to
          have hlq := hlfa _ hmem
          by_cases hin : Tg g w down m (gi lds j).to
          · have hsw := hsw.1 (hlq.2 hin)
            simp only [stKey] at hsw
            have hst := hfd j j0 hj hnot hin
            rw [hst] at hlst
            have nx := nxt (gi lds j).to (o ++ [(gi lds j).s]) (by rw [List.length_append, List.length_singleton]; omega) (by rw [List.append_assoc]; exact hlst) hin (hchn _ hmem)
            clear ih nxt
            repeat' (first | simp -implicitDefEqProofs only [go_sem, Nat.reduceEqDiff, Nat.reduceAdd, Nat.reduceMul, Nat.reduceLeDiff, Nat.reduceSub, Nat.reduceLT, Nat.reduceBEq, Int.reduceToNat, reduceCtorEq, ↓reduceIte, Int.reduceEq, Int.reduceNeg, Int.reduceLT, Int.reduceLE, Int.reduceAdd, Int.reduceSub, Int.reduceMul] | simp -implicitDefEqProofs (disch := omega) only [hlj, hHb', lkres, hsw, Option.getD_some, iaq_vec, iao_arr, iaq_raw, rd_map, wrap_id, binq_quo, binq_rem, binq_shl, binq_shr, tdiv_pos, tmod_pos, if_pos, exV_some, Option.map_some] | ((first | with_reducible apply exIf_dec | ((with_reducible apply exGd_dec); focus exact rfl) | ((with_reducible apply exGq_dec); focus exact rfl) | with_reducible apply exIf_intro | ((with_reducible apply exGd_intro); focus exact rfl) | ((with_reducible apply exGq_intro); focus exact rfl)) <;> intro _))
            all_goals first | (exfalso; omega) | skip
            refine exS_rows (gi lds j).s rfl rfl rfl (by omega) (by simp only [maxLen]; omega) ?_
            repeat' (first | simp -implicitDefEqProofs only [go_sem, Nat.reduceEqDiff, Nat.reduceAdd, Nat.reduceMul, Nat.reduceLeDiff, Nat.reduceSub, Nat.reduceLT, Nat.reduceBEq, Int.reduceToNat, reduceCtorEq, ↓reduceIte, Int.reduceEq, Int.reduceNeg, Int.reduceLT, Int.reduceLE, Int.reduceAdd, Int.reduceSub, Int.reduceMul] | simp -implicitDefEqProofs (disch := omega) only [iaq_vec, iao_arr, iaq_raw, rd_map, wrap_id, binq_quo, binq_rem, binq_shl, binq_shr, tdiv_pos, tmod_pos, if_pos, exV_some, Option.map_some] | ((first | with_reducible apply exIf_dec | ((with_reducible apply exGd_dec); focus exact rfl) | ((with_reducible apply exGq_dec); focus exact rfl) | with_reducible apply exIf_intro | ((with_reducible apply exGd_intro); focus exact rfl) | ((with_reducible apply exGq_intro); focus exact rfl)) <;> intro _))
            all_goals first | exact nx | (exfalso; omega) | skip
            done
          · have hsw := hsw.2 fun hh => hin (hlq.1 hh)
            simp only [stKey] at hsw
            have nx := ih (j + 1) ⟨⟨by omega, by omega⟩, fun l hl => by
              rw [take_gi j0 hj] at hl
              rcases List.mem_append.1 hl with hl | hl
              · exact hnot l hl
              · rw [List.mem_singleton.1 hl]; exact hin⟩ (by omega)
            clear ih nxt
            repeat' (first | simp -implicitDefEqProofs only [go_sem, Nat.reduceEqDiff, Nat.reduceAdd, Nat.reduceMul, Nat.reduceLeDiff, Nat.reduceSub, Nat.reduceLT, Nat.reduceBEq, Int.reduceToNat, reduceCtorEq, ↓reduceIte, Int.reduceEq, Int.reduceNeg, Int.reduceLT, Int.reduceLE, Int.reduceAdd, Int.reduceSub, Int.reduceMul] | simp -implicitDefEqProofs (disch := omega) only [hlj, hHb', lkres, hsw, Option.getD_none, iaq_vec, iao_arr, iaq_raw, rd_map, wrap_id, binq_quo, binq_rem, binq_shl, binq_shr, tdiv_pos, tmod_pos, if_pos, exV_some, Option.map_some] | ((first | with_reducible apply exIf_dec | ((with_reducible apply exGd_dec); focus exact rfl) | ((with_reducible apply exGq_dec); focus exact rfl) | with_reducible apply exIf_intro | ((with_reducible apply exGd_intro); focus exact rfl) | ((with_reducible apply exGq_intro); focus exact rfl)) <;> intro _))
            all_goals first | exact nx | (exfalso; omega) | skip
            done
        · obtain ⟨l, hl, hl2⟩ := htga
          exfalso
          refine hnot l ?_ hl2
          rw [List.take_of_length_le (by omega)]
          exact hl
      · obtain rfl : i = k := by omega
        clear ih
        rw [Int.toNat_natCast, Nat.sub_self, lst, List.append_nil] at hlst
        rw [← hlst]
        have hfin : ∀ b o, H b = some o → H3 b = some o := fun b o ho => hb3 b o (hbase b o ho) (by rintro rfl; rw [hmb] at ho; cases ho)
        repeat' (first | simp -implicitDefEqProofs only [go_sem, Nat.reduceEqDiff, Nat.reduceAdd, Nat.reduceMul, Nat.reduceLeDiff, Nat.reduceSub, Nat.reduceLT, Nat.reduceBEq, Int.reduceToNat, reduceCtorEq, ↓reduceIte, Int.reduceEq, Int.reduceNeg, Int.reduceLT, Int.reduceLE, Int.reduceAdd, Int.reduceSub, Int.reduceMul] | simp -implicitDefEqProofs (disch := omega) only [iaq_vec, iao_arr, iaq_raw, rd_map, wrap_id, binq_quo, binq_rem, binq_shl, binq_shr, tdiv_pos, tmod_pos, if_pos, exV_some, Option.map_some] | ((first | with_reducible apply exIf_dec | ((with_reducible apply exGd_dec); focus exact rfl) | ((with_reducible apply exGq_dec); focus exact rfl) | with_reducible apply exIf_intro | ((with_reducible apply exGd_intro); focus exact rfl) | ((with_reducible apply exGq_intro); focus exact rfl)) <;> intro _))
        all_goals first | exact hfin | (exfalso; omega) | skip
        done
    · have hno' : ∀ j, j ≤ cut10 depth → ¬ Tg g w down j (startW w) := fun j hj hh => hno j (by omega) (((rs_mem j).1 _).2 ⟨j, Nat.le_refl _, ch_goal.2 hh⟩)
      have hw : compAV g w down depth = .tup [.vec true [] 0, iv 9] := by rw [compAV, compW_deep h0 hno']; rfl
      rw [hw]
      repeat' (first | simp -implicitDefEqProofs only [go_sem, Nat.reduceEqDiff, Nat.reduceAdd, Nat.reduceMul, Nat.reduceLeDiff, Nat.reduceSub, Nat.reduceLT, Nat.reduceBEq, Int.reduceToNat, reduceCtorEq, ↓reduceIte, Int.reduceEq, Int.reduceNeg, Int.reduceLT, Int.reduceLE, Int.reduceAdd, Int.reduceSub, Int.reduceMul] | simp -implicitDefEqProofs (disch := omega) only [iaq_vec, iao_arr, iaq_raw, rd_map, wrap_id, binq_quo, binq_rem, binq_shl, binq_shr, tdiv_pos, tmod_pos, if_pos, exV_some, Option.map_some] | ((first | with_reducible apply exIf_dec | ((with_reducible apply exGd_dec); focus exact rfl) | ((with_reducible apply exGq_dec); focus exact rfl) | with_reducible apply exIf_intro | ((with_reducible apply exGd_intro); focus exact rfl) | ((with_reducible apply exGq_intro); focus exact rfl)) <;> intro _))
      all_goals first | exact fun b o ho => base0 es b o ho | (exfalso; omega) | skip
      done
  · rw [if_neg h0] at c1
    have hr : compAV g w down depth = .tup [.vec true [] 0, iv (optErr g w down)] := by
      rw [compAV, compW, if_pos h0]; rfl
    rw [hr]
    simp only [tab, tabCells, Want.av, blv, sl] at c1 c2 c3
    simp -implicitDefEqProofs only [sc_compile_List, tab, tabCells, Want.av, blv, sl, go_sem, Nat.reduceEqDiff, Nat.reduceAdd, Nat.reduceMul, Nat.reduceLeDiff, Nat.reduceSub, Nat.reduceLT, Nat.reduceBEq, Int.reduceToNat, reduceCtorEq, ↓reduceIte, Int.reduceEq, Int.reduceNeg, Int.reduceLT, Int.reduceLE, Int.reduceAdd, Int.reduceSub, Int.reduceMul]
    repeat' (first | simp -implicitDefEqProofs only [go_sem, Nat.reduceEqDiff, Nat.reduceAdd, Nat.reduceMul, Nat.reduceLeDiff, Nat.reduceSub, Nat.reduceLT, Nat.reduceBEq, Int.reduceToNat, reduceCtorEq, ↓reduceIte, Int.reduceEq, Int.reduceNeg, Int.reduceLT, Int.reduceLE, Int.reduceAdd, Int.reduceSub, Int.reduceMul] | simp -implicitDefEqProofs (disch := omega) only [iaq_vec, iao_arr, iaq_raw, rd_map, wrap_id, binq_quo, binq_rem, binq_shl, binq_shr, tdiv_pos, tmod_pos, if_pos, exV_some, Option.map_some] | ((first | with_reducible apply exIf_dec | ((with_reducible apply exGd_dec); focus exact rfl) | ((with_reducible apply exGq_dec); focus exact rfl) | with_reducible apply exIf_intro | ((with_reducible apply exGd_intro); focus exact rfl) | ((with_reducible apply exGq_intro); focus exact rfl)) <;> intro _) | with_reducible refine exC_pure (c1 _) ?_ | with_reducible refine exCq_pure (c1 _) ?_ | with_reducible refine exC_pure (c2 _) ?_ | with_reducible refine exCq_pure (c2 _) ?_ | with_reducible refine exC_pure (c3 _) ?_ | with_reducible refine exCq_pure (c3 _) ?_)
    all_goals first | exact fun b o ho => ho | (exfalso; omega) | skip
    done
end Go.Proofs.Ytejmcijcdhoogaa
end

section
/- The laws CompileNone and CompileDeeper of chapter 17, as contracts. -/
namespace Go.Proofs.Ytejmcijcdhoogaa
open Go Abs
attribute [local irreducible] EX exL exG exC exCq exS exV exIf exGd exGq
set_option maxHeartbeats 4000000
theorem lst_seg {g : Graph} {w : Want} {down : List Bool} {m : Nat} {a c : St} {pre post : List Sg} {s : Sg} (h : segsA g = pre ++ s :: post) (hp : ∀ s' ∈ pre, ∀ c', segW g w down a s' = some c' → ¬ Tg g w down m c') (hs : segW g w down a s = some c) (hc : Tg g w down m c) :
    Tg g w down (m + 1) a ∧ lst g w down (m + 1) a = s :: lst g w down m c := by
  have hl : leadsL g w down a = pre.filterMap (ldO g w down a) ++ ⟨s, c⟩ :: post.filterMap (ldO g w down a) := by
    rw [leadsL, h, List.filterMap_append, List.filterMap_cons, show ldO g w down a s = some ⟨s, c⟩ by rw [ldO, hs]; rfl]
  have hf : (leadsL g w down a).find? (fun l => decide (Tg g w down m l.to)) = some ⟨s, c⟩ := by
    rw [List.find?_eq_some_iff_append]
    refine ⟨by simpa using hc, _, _, hl, fun l hl' => ?_⟩
    obtain ⟨s', hs', h2⟩ := List.mem_filterMap.1 hl'
    unfold ldO at h2
    obtain ⟨c', hc', rfl⟩ := Option.map_eq_some_iff.1 h2
    simpa using hp s' hs' c' hc'
  refine ⟨⟨⟨s, c⟩, by rw [hl]; simp, hc⟩, ?_⟩
  rw [lst, hf]
/-- no segments are needed -/
theorem comp_nil {g : Graph} {w : Want} {down : List Bool} (h0 : optErr g w down = 0) (h : startW w = goalW w) (depth : Int) : compW g w down depth = ([], 0) :=
  compW_ok h0 (n := 0) (Nat.zero_le _) h fun m _ => Nat.zero_le m
/-- one segment is -/
theorem comp_one {g : Graph} {w : Want} {down : List Bool} (h0 : optErr g w down = 0) (h : startW w ≠ goalW w) {depth : Int} (hd : 1 ≤ depth) {pre post : List Sg} {s : Sg} (hg : segsA g = pre ++ s :: post) (hp : ∀ s' ∈ pre, segW g w down (startW w) s' ≠ some (goalW w)) (hs : segW g w down (startW w) s = some (goalW w)) : compW g w down depth = ([s], 0) := by
  obtain ⟨h1, h2⟩ := lst_seg (m := 0) hg (fun s' hs' c' hc' hh => hp s' hs' (by rw [hc', show c' = goalW w from hh])) hs rfl
  rw [compW_ok h0 (n := 1) (by unfold cut10; omega) h1 fun m hm => ?_, h2, lst]
  cases m with
  | zero => exact absurd hm h
  | succ m => omega
theorem num17_c (x : Int) (H : AHeap) : APure Try.prog 23 [iv x] H (iv x) := by
  intro Q h
  refine ACalls.of_code fn_waymarklaw17_num ?_
  simp -implicitDefEqProofs only [sc_waymarklaw17_num, go_sem, Nat.reduceEqDiff, Nat.reduceAdd, Nat.reduceMul, Nat.reduceLeDiff, Nat.reduceSub, Nat.reduceLT, Nat.reduceBEq, Int.reduceToNat, reduceCtorEq, ↓reduceIte, Int.reduceEq, Int.reduceNeg, Int.reduceLT, Int.reduceLE, Int.reduceAdd, Int.reduceSub, Int.reduceMul]
  exact h
noncomputable def tabs16 (g : Graph) : AV := if (check g).2 = 0 then .tup [tab g, refTab g, bv true] else .tup [.raw (.pointer none), .raw (.pointer none), bv false]
theorem tables16_c (g : Graph) (hb : g.links.length * 32 ≤ 140737488351232) (hn : g.nl = true → g.links = []) (H : AHeap) : APure Try.prog 19 [g.av] H (tabs16 g) := by
  intro Q h
  have c1 := fun H => new_c g hb hn H
  have c2 := fun H => newTables_ref_c g hb H
  refine ACalls.of_code fn_waymarklaw16_Tables ?_
  by_cases hc : (check g).2 = 0
  · rw [tabs16, if_pos hc] at h
    rw [if_pos hc] at c1 c2
    simp only [Graph.av, tab, refTab] at c1 c2 h
    simp -implicitDefEqProofs only [sc_waymarklaw16_Tables, Graph.av, go_sem, Nat.reduceEqDiff, Nat.reduceAdd, Nat.reduceMul, Nat.reduceLeDiff, Nat.reduceSub, Nat.reduceLT, Nat.reduceBEq, Int.reduceToNat, reduceCtorEq, ↓reduceIte, Int.reduceEq, Int.reduceNeg, Int.reduceLT, Int.reduceLE, Int.reduceAdd, Int.reduceSub, Int.reduceMul]
    repeat' (first | simp -implicitDefEqProofs only [go_sem, Nat.reduceEqDiff, Nat.reduceAdd, Nat.reduceMul, Nat.reduceLeDiff, Nat.reduceSub, Nat.reduceLT, Nat.reduceBEq, Int.reduceToNat, reduceCtorEq, ↓reduceIte, Int.reduceEq, Int.reduceNeg, Int.reduceLT, Int.reduceLE, Int.reduceAdd, Int.reduceSub, Int.reduceMul] | simp -implicitDefEqProofs (disch := omega) only [iaq_vec, iao_arr, iaq_raw, rd_map, wrap_id, binq_quo, binq_rem, binq_shl, binq_shr, tdiv_pos, tmod_pos, if_pos, exV_some, Option.map_some] | ((first | with_reducible apply exIf_dec | ((with_reducible apply exGd_dec); focus exact rfl) | ((with_reducible apply exGq_dec); focus exact rfl) | with_reducible apply exIf_intro | ((with_reducible apply exGd_intro); focus exact rfl) | ((with_reducible apply exGq_intro); focus exact rfl)) <;> intro _) | with_reducible refine exC_pure (c1 _) ?_ | with_reducible refine exCq_pure (c1 _) ?_ | with_reducible refine exC_pure (c2 _) ?_ | with_reducible refine exCq_pure (c2 _) ?_)
    all_goals first | exact h | (exfalso; omega) | skip
    done
  · rw [tabs16, if_neg hc] at h
    rw [if_neg hc] at c1 c2
    simp only [Graph.av] at c1 c2
    simp -implicitDefEqProofs only [sc_waymarklaw16_Tables, Graph.av, go_sem, Nat.reduceEqDiff, Nat.reduceAdd, Nat.reduceMul, Nat.reduceLeDiff, Nat.reduceSub, Nat.reduceLT, Nat.reduceBEq, Int.reduceToNat, reduceCtorEq, ↓reduceIte, Int.reduceEq, Int.reduceNeg, Int.reduceLT, Int.reduceLE, Int.reduceAdd, Int.reduceSub, Int.reduceMul]
    repeat' (first | simp -implicitDefEqProofs only [go_sem, Nat.reduceEqDiff, Nat.reduceAdd, Nat.reduceMul, Nat.reduceLeDiff, Nat.reduceSub, Nat.reduceLT, Nat.reduceBEq, Int.reduceToNat, reduceCtorEq, ↓reduceIte, Int.reduceEq, Int.reduceNeg, Int.reduceLT, Int.reduceLE, Int.reduceAdd, Int.reduceSub, Int.reduceMul] | simp -implicitDefEqProofs (disch := omega) only [iaq_vec, iao_arr, iaq_raw, rd_map, wrap_id, binq_quo, binq_rem, binq_shl, binq_shr, tdiv_pos, tmod_pos, if_pos, exV_some, Option.map_some] | ((first | with_reducible apply exIf_dec | ((with_reducible apply exGd_dec); focus exact rfl) | ((with_reducible apply exGq_dec); focus exact rfl) | with_reducible apply exIf_intro | ((with_reducible apply exGd_intro); focus exact rfl) | ((with_reducible apply exGq_intro); focus exact rfl)) <;> intro _) | with_reducible refine exC_pure (c1 _) ?_ | with_reducible refine exCq_pure (c1 _) ?_ | with_reducible refine exC_pure (c2 _) ?_ | with_reducible refine exCq_pure (c2 _) ?_)
    all_goals first | exact h | (exfalso; omega) | skip
    done
theorem small15_c (g : Graph) (H : AHeap) : APure Try.prog 17 [g.av] H (bv (decide (g.nodes ≤ 10 ∧ g.links.length ≤ 16))) := by
  intro Q h
  refine ACalls.of_code fn_waymarklaw15_Small ?_
  simp -implicitDefEqProofs only [sc_waymarklaw15_Small, Graph.av, go_sem, Nat.reduceEqDiff, Nat.reduceAdd, Nat.reduceMul, Nat.reduceLeDiff, Nat.reduceSub, Nat.reduceLT, Nat.reduceBEq, Int.reduceToNat, reduceCtorEq, ↓reduceIte, Int.reduceEq, Int.reduceNeg, Int.reduceLT, Int.reduceLE, Int.reduceAdd, Int.reduceSub, Int.reduceMul]
  repeat' (first | simp -implicitDefEqProofs only [go_sem, Nat.reduceEqDiff, Nat.reduceAdd, Nat.reduceMul, Nat.reduceLeDiff, Nat.reduceSub, Nat.reduceLT, Nat.reduceBEq, Int.reduceToNat, reduceCtorEq, ↓reduceIte, Int.reduceEq, Int.reduceNeg, Int.reduceLT, Int.reduceLE, Int.reduceAdd, Int.reduceSub, Int.reduceMul] | simp -implicitDefEqProofs (disch := omega) only [iaq_vec, iao_arr, iaq_raw, rd_map, wrap_id, binq_quo, binq_rem, binq_shl, binq_shr, tdiv_pos, tmod_pos, if_pos, exV_some, Option.map_some] | ((first | with_reducible apply exIf_dec | ((with_reducible apply exGd_dec); focus exact rfl) | ((with_reducible apply exGq_dec); focus exact rfl) | with_reducible apply exIf_intro | ((with_reducible apply exGd_intro); focus exact rfl) | ((with_reducible apply exGq_intro); focus exact rfl)) <;> intro _))
  all_goals first | (exfalso; omega) | skip
  all_goals refine fin_ h (congrArg (fun b => AV.raw (.bool b)) ?_)
  all_goals simp [*]
  all_goals first | omega | skip
theorem segsA2 : segsA g2_ = [⟨false, 0⟩] ++ ⟨false, 1⟩ :: [⟨true, 0⟩, ⟨true, 1⟩] := by decide
theorem opt20 : optErr g2_ w0_ [] = 0 := by
  have hr : rightErr g2_ w0_ = 0 := by decide
  have hf := (wfit_of hr).fit
  have hz : leg g2_ w0_ [] 0 = 0 := ((distL_spec hf (pruned g2_ w0_ []) (s := 0) (by decide)).1).zero hf (by decide)
  rw [optErr, if_neg (by rw [hr]; decide), if_neg, if_neg (by decide)]
  show ¬ noLeg g2_ w0_ [] (0 + 1) = true
  rw [noLeg_succ]
  simp [noLeg, hz]
theorem step2 : stepW g2_ w1_ [] (startW w1_) 0 = some (1, 1) := by
  have he := opt2.1
  rw [stepW, if_pos]
  · rfl
  · refine ⟨he, by decide, by decide, by decide, by decide, by decide, by decide, ?_, ?_⟩
    · show 0 ≤ gi (farOf g2_ w1_ [] 1) 1
      rw [far2]; decide
    · show gi (farOf g2_ w1_ [] 1) 0 = gi (farOf g2_ w1_ [] 1) 1 + 7
      rw [far2]; decide
theorem comp20 : compW g2_ w0_ [] 3 = ([], 0) := comp_nil opt20 (by decide) 3
theorem nxt201 : nxtOf g2_ 0 1 = [0] := by rw [nxtOf, if_pos ⟨by decide, by decide⟩, dist2.2]; decide
theorem comp21 : compW g2_ w1_ [] 3 = ([⟨false, 1⟩], 0) := by
  have hf : Fit g2_ := fit_of _ (by decide)
  refine comp_one opt2.1 (by decide) (by decide) segsA2 (fun s' hs' => ?_) ?_
  · rw [List.mem_singleton.1 hs']
    show segN g2_ w1_ [] (startW w1_) 0 ≠ _
    rw [segN, if_pos (by decide)]; simp
  · show segN g2_ w1_ [] (startW w1_) 1 = _
    rw [segN, if_neg (by decide), endN_eq hf, if_neg (by decide), show (startW w1_).1 = 0 from rfl, nxt201]
    simp only [List.map_cons, List.map_nil, step2, Option.bind_some, joinO, List.all_nil, if_true]
    exact endN_self hf rfl
theorem alive17_c (H : AHeap) : APure Try.prog 16 [] H (bv true) := by
  intro Q h
  refine ACalls.of_code fn_waymarklaw17_alive ?_
  have hc2 : (check g2_).2 = 0 := by decide
  have c1 := tables16_c g2_ (by decide) (by decide) H
  rw [tabs16, if_pos hc2] at c1
  have c2 := compile_c g2_ (by decide) (by decide) w0_ ⟨by decide, by decide, by decide, by decide⟩ true [] 3 H
  have c3 := compile_c g2_ (by decide) (by decide) w1_ ⟨by decide, by decide, by decide, by decide⟩ true [] 3 H
  rw [compAV, comp20] at c2
  rw [compAV, comp21] at c3
  obtain ⟨cs, hcs⟩ : ∃ cs, tab g2_ = .box cs 0 := ⟨_, rfl⟩
  obtain ⟨ds, hds⟩ : ∃ cs, refTab g2_ = .box cs 0 := ⟨_, rfl⟩
  rw [hcs] at c1 c2 c3
  rw [hds] at c1
  simp only [Graph.av, Want.av, blv, sl, g2_, w0_, w1_] at c1 c2 c3
  simp only [rows, List.flatMap_cons, List.flatMap_nil, List.append_nil, Link.cells_eq, Sg.cells_eq, List.map_cons, List.map_nil, List.length_cons, List.length_nil, List.isEmpty_nil, List.isEmpty_cons, Nat.zero_add, Int.natCast_zero, Int.zero_add, Int.cast_ofNat_Int] at c1 c2 c3
  simp -implicitDefEqProofs only [sc_waymarklaw17_alive, go_sem, Nat.reduceEqDiff, Nat.reduceAdd, Nat.reduceMul, Nat.reduceLeDiff, Nat.reduceSub, Nat.reduceLT, Nat.reduceBEq, Int.reduceToNat, reduceCtorEq, ↓reduceIte, Int.reduceEq, Int.reduceNeg, Int.reduceLT, Int.reduceLE, Int.reduceAdd, Int.reduceSub, Int.reduceMul]
  repeat' (first | simp -implicitDefEqProofs only [go_sem, Nat.reduceEqDiff, Nat.reduceAdd, Nat.reduceMul, Nat.reduceLeDiff, Nat.reduceSub, Nat.reduceLT, Nat.reduceBEq, Int.reduceToNat, reduceCtorEq, ↓reduceIte, Int.reduceEq, Int.reduceNeg, Int.reduceLT, Int.reduceLE, Int.reduceAdd, Int.reduceSub, Int.reduceMul] | simp -implicitDefEqProofs (disch := omega) only [iaq_vec, iao_arr, iaq_raw, rd_map, wrap_id, binq_quo, binq_rem, binq_shl, binq_shr, tdiv_pos, tmod_pos, if_pos, exV_some, Option.map_some] | ((first | with_reducible apply exIf_dec | ((with_reducible apply exGd_dec); focus exact rfl) | ((with_reducible apply exGq_dec); focus exact rfl) | with_reducible apply exIf_intro | ((with_reducible apply exGd_intro); focus exact rfl) | ((with_reducible apply exGq_intro); focus exact rfl)) <;> intro _) | with_reducible refine exC_pure (c1) ?_ | with_reducible refine exCq_pure (c1) ?_ | with_reducible refine exC_pure (c2) ?_ | with_reducible refine exCq_pure (c2) ?_ | with_reducible refine exC_pure (c3) ?_ | with_reducible refine exCq_pure (c3) ?_ | with_reducible refine exC_pure (num17_c _ _) ?_ | with_reducible refine exCq_pure (num17_c _ _) ?_)
  all_goals first | exact h | skip
  done
end Go.Proofs.Ytejmcijcdhoogaa
end

section
/- The laws CompileNone and CompileDeeper of chapter 17, as contracts. -/
namespace Go.Proofs.Ytejmcijcdhoogaa
open Go Abs
attribute [local irreducible] EX exL exG exC exCq exS exV exIf exGd exGq
set_option maxHeartbeats 4000000
theorem compW_cases (g : Graph) (w : Want) (down : List Bool) (depth : Int) (h0 : optErr g w down = 0) :
    (∃ n, n ≤ cut10 depth ∧ Tg g w down n (startW w) ∧ (∀ m, Tg g w down m (startW w) → n ≤ m) ∧ compW g w down depth = (lst g w down n (startW w), 0)) ∨ ((∀ n, n ≤ cut10 depth → ¬ Tg g w down n (startW w)) ∧ compW g w down depth = ([], 9)) := by
  by_cases h : ∃ n, n ≤ cut10 depth ∧ Tg g w down n (startW w)
  · obtain ⟨n, hn, ht⟩ := h
    obtain ⟨m, hm, hl⟩ := leastN (p := fun k => Tg g w down k (startW w)) ⟨n, ht⟩
    have := hl n ht
    exact .inl ⟨m, by omega, hm, hl, compW_ok h0 (by omega) hm hl⟩
  · exact .inr ⟨fun n hn ht => h ⟨n, hn, ht⟩, compW_deep h0 fun n hn ht => h ⟨n, hn, ht⟩⟩
theorem compileNone_c (g : Graph) (hb : g.links.length * 32 ≤ 140737488351232) (hn : g.nl = true → g.links = []) (w : Want) (hw : w.ok) (nl : Bool) (down : List Bool) (depth : Int) (H : AHeap) :
    APure Try.prog 4 [g.av, w.av, blv nl down, iv depth] H (bv true) := by
  intro Q h
  have fc := fun H => few_c w H
  have sc := fun H => small15_c g H
  have tc := fun H => tables16_c g hb hn H
  have cc := fun H => compile_c g hb hn w hw nl down depth H
  have rc := fun H => rcost_c g w nl down hw H
  refine ACalls.of_code fn_waymarklaw17_CompileNone ?_
  by_cases hc : (check g).2 = 0
  · rw [tabs16, if_pos hc] at tc
    obtain ⟨cs, hcs⟩ : ∃ cs, tab g = .box cs 0 := ⟨_, rfl⟩
    obtain ⟨ds, hds⟩ : ∃ cs, refTab g = .box cs 0 := ⟨_, rfl⟩
    rw [hcs] at tc cc
    rw [hds] at tc
    by_cases h0 : optErr g w down = 0
    · rw [h0] at rc
      rcases compW_cases g w down depth h0 with ⟨n, h1, h2, -, h3⟩ | ⟨-, h3⟩
      · rw [compAV, h3] at cc
        simp only [Graph.av, Want.av, blv, sl] at fc sc tc cc rc
        simp -implicitDefEqProofs only [sc_waymarklaw17_CompileNone, Graph.av, Want.av, blv, sl, go_sem, Nat.reduceEqDiff, Nat.reduceAdd, Nat.reduceMul, Nat.reduceLeDiff, Nat.reduceSub, Nat.reduceLT, Nat.reduceBEq, Int.reduceToNat, reduceCtorEq, ↓reduceIte, Int.reduceEq, Int.reduceNeg, Int.reduceLT, Int.reduceLE, Int.reduceAdd, Int.reduceSub, Int.reduceMul]
        refine exC_pure (alive17_c _) ?_
        repeat' (first | simp -implicitDefEqProofs only [go_sem, Nat.reduceEqDiff, Nat.reduceAdd, Nat.reduceMul, Nat.reduceLeDiff, Nat.reduceSub, Nat.reduceLT, Nat.reduceBEq, Int.reduceToNat, reduceCtorEq, ↓reduceIte, Int.reduceEq, Int.reduceNeg, Int.reduceLT, Int.reduceLE, Int.reduceAdd, Int.reduceSub, Int.reduceMul] | simp -implicitDefEqProofs (disch := omega) only [iaq_vec, iao_arr, iaq_raw, rd_map, wrap_id, binq_quo, binq_rem, binq_shl, binq_shr, tdiv_pos, tmod_pos, if_pos, exV_some, Option.map_some] | ((first | with_reducible apply exIf_dec | ((with_reducible apply exGd_dec); focus exact rfl) | ((with_reducible apply exGq_dec); focus exact rfl) | with_reducible apply exIf_intro | ((with_reducible apply exGd_intro); focus exact rfl) | ((with_reducible apply exGq_intro); focus exact rfl)) <;> intro _) | with_reducible refine exC_pure (fc _) ?_ | with_reducible refine exCq_pure (fc _) ?_ | with_reducible refine exC_pure (sc _) ?_ | with_reducible refine exCq_pure (sc _) ?_ | with_reducible refine exC_pure (tc _) ?_ | with_reducible refine exCq_pure (tc _) ?_ | with_reducible refine exC_pure (cc _) ?_ | with_reducible refine exCq_pure (cc _) ?_ | with_reducible refine exC_pure (rc _) ?_ | with_reducible refine exCq_pure (rc _) ?_ | with_reducible refine exC_pure (num17_c _ _) ?_ | with_reducible refine exCq_pure (num17_c _ _) ?_)
        all_goals first | exact h | (exfalso; omega) | skip
        done
      · rw [compAV, h3] at cc
        simp only [Graph.av, Want.av, blv, sl] at fc sc tc cc rc
        simp -implicitDefEqProofs only [sc_waymarklaw17_CompileNone, Graph.av, Want.av, blv, sl, go_sem, Nat.reduceEqDiff, Nat.reduceAdd, Nat.reduceMul, Nat.reduceLeDiff, Nat.reduceSub, Nat.reduceLT, Nat.reduceBEq, Int.reduceToNat, reduceCtorEq, ↓reduceIte, Int.reduceEq, Int.reduceNeg, Int.reduceLT, Int.reduceLE, Int.reduceAdd, Int.reduceSub, Int.reduceMul]
        refine exC_pure (alive17_c _) ?_
        repeat' (first | simp -implicitDefEqProofs only [go_sem, Nat.reduceEqDiff, Nat.reduceAdd, Nat.reduceMul, Nat.reduceLeDiff, Nat.reduceSub, Nat.reduceLT, Nat.reduceBEq, Int.reduceToNat, reduceCtorEq, ↓reduceIte, Int.reduceEq, Int.reduceNeg, Int.reduceLT, Int.reduceLE, Int.reduceAdd, Int.reduceSub, Int.reduceMul] | simp -implicitDefEqProofs (disch := omega) only [iaq_vec, iao_arr, iaq_raw, rd_map, wrap_id, binq_quo, binq_rem, binq_shl, binq_shr, tdiv_pos, tmod_pos, if_pos, exV_some, Option.map_some] | ((first | with_reducible apply exIf_dec | ((with_reducible apply exGd_dec); focus exact rfl) | ((with_reducible apply exGq_dec); focus exact rfl) | with_reducible apply exIf_intro | ((with_reducible apply exGd_intro); focus exact rfl) | ((with_reducible apply exGq_intro); focus exact rfl)) <;> intro _) | with_reducible refine exC_pure (fc _) ?_ | with_reducible refine exCq_pure (fc _) ?_ | with_reducible refine exC_pure (sc _) ?_ | with_reducible refine exCq_pure (sc _) ?_ | with_reducible refine exC_pure (tc _) ?_ | with_reducible refine exCq_pure (tc _) ?_ | with_reducible refine exC_pure (cc _) ?_ | with_reducible refine exCq_pure (cc _) ?_ | with_reducible refine exC_pure (rc _) ?_ | with_reducible refine exCq_pure (rc _) ?_ | with_reducible refine exC_pure (num17_c _ _) ?_ | with_reducible refine exCq_pure (num17_c _ _) ?_)
        all_goals first | exact h | (exfalso; omega) | skip
        done
    · rw [compAV, compW, if_pos h0] at cc
      simp only [Graph.av, Want.av, blv, sl] at fc sc tc cc rc
      simp -implicitDefEqProofs only [sc_waymarklaw17_CompileNone, Graph.av, Want.av, blv, sl, go_sem, Nat.reduceEqDiff, Nat.reduceAdd, Nat.reduceMul, Nat.reduceLeDiff, Nat.reduceSub, Nat.reduceLT, Nat.reduceBEq, Int.reduceToNat, reduceCtorEq, ↓reduceIte, Int.reduceEq, Int.reduceNeg, Int.reduceLT, Int.reduceLE, Int.reduceAdd, Int.reduceSub, Int.reduceMul]
      refine exC_pure (alive17_c _) ?_
      repeat' (first | simp -implicitDefEqProofs only [go_sem, Nat.reduceEqDiff, Nat.reduceAdd, Nat.reduceMul, Nat.reduceLeDiff, Nat.reduceSub, Nat.reduceLT, Nat.reduceBEq, Int.reduceToNat, reduceCtorEq, ↓reduceIte, Int.reduceEq, Int.reduceNeg, Int.reduceLT, Int.reduceLE, Int.reduceAdd, Int.reduceSub, Int.reduceMul] | simp -implicitDefEqProofs (disch := omega) only [iaq_vec, iao_arr, iaq_raw, rd_map, wrap_id, binq_quo, binq_rem, binq_shl, binq_shr, tdiv_pos, tmod_pos, if_pos, exV_some, Option.map_some] | ((first | with_reducible apply exIf_dec | ((with_reducible apply exGd_dec); focus exact rfl) | ((with_reducible apply exGq_dec); focus exact rfl) | with_reducible apply exIf_intro | ((with_reducible apply exGd_intro); focus exact rfl) | ((with_reducible apply exGq_intro); focus exact rfl)) <;> intro _) | with_reducible refine exC_pure (fc _) ?_ | with_reducible refine exCq_pure (fc _) ?_ | with_reducible refine exC_pure (sc _) ?_ | with_reducible refine exCq_pure (sc _) ?_ | with_reducible refine exC_pure (tc _) ?_ | with_reducible refine exCq_pure (tc _) ?_ | with_reducible refine exC_pure (cc _) ?_ | with_reducible refine exCq_pure (cc _) ?_ | with_reducible refine exC_pure (rc _) ?_ | with_reducible refine exCq_pure (rc _) ?_ | with_reducible refine exC_pure (num17_c _ _) ?_ | with_reducible refine exCq_pure (num17_c _ _) ?_)
      all_goals first | exact h | (exfalso; omega) | skip
      done
  · rw [tabs16, if_neg hc] at tc
    simp only [Graph.av, Want.av, blv, sl] at fc sc tc cc rc
    simp -implicitDefEqProofs only [sc_waymarklaw17_CompileNone, Graph.av, Want.av, blv, sl, go_sem, Nat.reduceEqDiff, Nat.reduceAdd, Nat.reduceMul, Nat.reduceLeDiff, Nat.reduceSub, Nat.reduceLT, Nat.reduceBEq, Int.reduceToNat, reduceCtorEq, ↓reduceIte, Int.reduceEq, Int.reduceNeg, Int.reduceLT, Int.reduceLE, Int.reduceAdd, Int.reduceSub, Int.reduceMul]
    refine exC_pure (alive17_c _) ?_
    repeat' (first | simp -implicitDefEqProofs only [go_sem, Nat.reduceEqDiff, Nat.reduceAdd, Nat.reduceMul, Nat.reduceLeDiff, Nat.reduceSub, Nat.reduceLT, Nat.reduceBEq, Int.reduceToNat, reduceCtorEq, ↓reduceIte, Int.reduceEq, Int.reduceNeg, Int.reduceLT, Int.reduceLE, Int.reduceAdd, Int.reduceSub, Int.reduceMul] | simp -implicitDefEqProofs (disch := omega) only [iaq_vec, iao_arr, iaq_raw, rd_map, wrap_id, binq_quo, binq_rem, binq_shl, binq_shr, tdiv_pos, tmod_pos, if_pos, exV_some, Option.map_some] | ((first | with_reducible apply exIf_dec | ((with_reducible apply exGd_dec); focus exact rfl) | ((with_reducible apply exGq_dec); focus exact rfl) | with_reducible apply exIf_intro | ((with_reducible apply exGd_intro); focus exact rfl) | ((with_reducible apply exGq_intro); focus exact rfl)) <;> intro _) | with_reducible refine exC_pure (fc _) ?_ | with_reducible refine exCq_pure (fc _) ?_ | with_reducible refine exC_pure (sc _) ?_ | with_reducible refine exCq_pure (sc _) ?_ | with_reducible refine exC_pure (tc _) ?_ | with_reducible refine exCq_pure (tc _) ?_)
    all_goals first | exact h | (exfalso; omega) | skip
    done
end Go.Proofs.Ytejmcijcdhoogaa
end
