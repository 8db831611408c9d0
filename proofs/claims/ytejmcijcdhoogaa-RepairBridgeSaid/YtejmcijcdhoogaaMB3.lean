import Derived.Test.YtejmcijcdhoogaaMB1
import Derived.Test.YtejmcijcdhoogaaMC1
import Derived.Test.YtejmcijcdhoogaaMB2
set_option linter.unusedSimpArgs false
set_option linter.unusedVariables false
section
/- The rounds of the search. -/
namespace Go.Proofs.Ytejmcijcdhoogaa
open Go Abs
attribute [local irreducible] EX exL exG exC exCq exS exV exIf exGd exGq
set_option maxHeartbeats 4000000

instance : Enc (Int × Int) where
  sz := 2
  cells a := [iv a.1, iv a.2]
  len _ := rfl
  pos := by decide
theorem St.cells_eq (a : St) : Enc.cells a = [iv a.1, iv a.2] := rfl
theorem St.sz_eq : Enc.sz St = 2 := rfl
theorem rd_st {l : List St} {i : Int} (h0 : 0 ≤ i) (h1 : i < l.length) : rdV (rows l) (i.toNat * 2) 2 true = some (.agg [iv (gi l i).1, iv (gi l i).2]) := rd_row rfl h0 h1
def stsAV (l : List St) : AV := .vec l.isEmpty (rows l) l.length
section
variable (g : Graph) (w : Want) (down : List Bool)
def rngS (g : Graph) (c : St) : Prop := (0 ≤ c.1 ∧ c.1 < g.nodes) ∧ 0 ≤ c.2 ∧ c.2 < 6
noncomputable def tosL (a : St) : List St := (leadsL g w down a).map (·.to)
def addS (acc : List St × List St) (c : St) : List St × List St := if c ∈ acc.1 then acc else (acc.1 ++ [c], acc.2 ++ [c])
noncomputable def roundN (seen R : List St) : List St × List St := (R.flatMap (tosL g w down)).foldl addS (seen, [])
noncomputable def rs : Nat → List St × List (List St)
  | 0 => ([startW w], [[startW w]])
  | n + 1 => ((roundN g w down (rs n).1 (gi (rs n).2 n)).1, (rs n).2 ++ [(roundN g w down (rs n).1 (gi (rs n).2 n)).2])
end
section
variable {g : Graph} {w : Want} {down : List Bool}
theorem rs_length (n : Nat) : (rs g w down n).2.length = n + 1 := by
  induction n with
  | zero => rfl
  | succ n ih => rw [rs, List.length_append, ih]; rfl
theorem seg_range (wf : WFit g w) {a c : St} {s : Sg} (h : segW g w down a s = some c) : rngS g c := by
  unfold segW at h
  split at h
  · exact stepW_range wf h
  · unfold segN at h
    split at h
    · cases h
    · rename_i hne
      have h1 := endN_reach wf.fit h
      have h2 := endN_at wf.fit h
      cases h1 with
      | refl => exact absurd h2 hne
      | step _ _ _ hs => exact stepW_range wf hs
theorem leads_mem {a : St} {l : Ld} (h : l ∈ leadsL g w down a) : segW g w down a l.s = some l.to := by
  unfold leadsL at h
  obtain ⟨s, -, h2⟩ := List.mem_filterMap.1 h
  unfold ldO at h2
  obtain ⟨c, hc, rfl⟩ := Option.map_eq_some_iff.1 h2
  exact hc
theorem leads_length (g : Graph) (w : Want) (down : List Bool) (a : St) : (leadsL g w down a).length ≤ g.nodes.toNat + 2 * g.links.length := by
  unfold leadsL segsA
  refine Nat.le_trans (filterMap_len _ _) ?_
  rw [List.length_append, segsN_len, segsE_len]
  omega
theorem states_few {l : List St} (hf : Fit g) (hn : l.Nodup) (hr : ∀ c ∈ l, rngS g c) : l.length ≤ 240 := by
  have fn := hf.n2
  have hsub : l ⊆ (List.range 40).flatMap fun i : Nat => (List.range 6).map fun j : Nat => ((i : Int), (j : Int)) := by
    intro c hc
    obtain ⟨h1, h2⟩ := hr c hc
    rw [List.mem_flatMap]
    refine ⟨c.1.toNat, List.mem_range.2 (by omega), List.mem_map.2 ⟨c.2.toNat, List.mem_range.2 (by omega), ?_⟩⟩
    exact Prod.ext (by dsimp only; omega) (by dsimp only; omega)
  exact Nat.le_trans (List.Nodup.length_le_of_subset hn hsub) (by decide +kernel)
/-- what is so of all that was seen -/
def SOk (g : Graph) (acc : List St × List St) : Prop := acc.1.Nodup ∧ (∀ c ∈ acc.1, rngS g c) ∧ acc.2 ⊆ acc.1 ∧ acc.2.length ≤ acc.1.length
theorem SOk.add {acc : List St × List St} (h : SOk g acc) {c : St} (hc : rngS g c) : SOk g (addS acc c) := by
  obtain ⟨h1, h2, h3, h4⟩ := h
  unfold addS
  split
  · exact ⟨h1, h2, h3, h4⟩
  · rename_i hn
    refine ⟨?_, fun x hx => ?_, fun x hx => ?_, by simp; omega⟩
    · rw [List.nodup_append]
      exact ⟨h1, by simp, fun a ha b hb => by rintro rfl; rw [List.mem_singleton] at hb; exact hn (hb ▸ ha)⟩
    · rcases List.mem_append.1 hx with hx | hx
      · exact h2 x hx
      · rw [List.mem_singleton.1 hx]; exact hc
    · rcases List.mem_append.1 hx with hx | hx
      · exact List.mem_append_left _ (h3 hx)
      · exact List.mem_append_right _ hx
theorem SOk.fold {l : List St} {acc : List St × List St} (h : SOk g acc) (hl : ∀ c ∈ l, rngS g c) : SOk g (l.foldl addS acc) := by
  induction l generalizing acc with
  | nil => exact h
  | cons c l ih =>
    rw [List.foldl_cons]
    exact ih (h.add (hl c (by simp))) fun x hx => hl x (by simp [hx])
theorem tos_range (wf : WFit g w) {a c : St} (h : c ∈ tosL g w down a) : rngS g c := by
  obtain ⟨l, hl, rfl⟩ := List.mem_map.1 h
  exact seg_range wf (leads_mem hl)
theorem flat_range (wf : WFit g w) {R : List St} {c : St} (h : c ∈ R.flatMap (tosL g w down)) : rngS g c := by
  obtain ⟨a, -, h2⟩ := List.mem_flatMap.1 h
  exact tos_range wf h2
theorem rs_ok (wf : WFit g w) (hsr : rngS g (startW w)) : ∀ n, ((rs g w down n).1.Nodup ∧ ∀ c ∈ (rs g w down n).1, rngS g c) ∧ ∀ R ∈ (rs g w down n).2, R ⊆ (rs g w down n).1 ∧ R.length ≤ 240
  | 0 => ⟨⟨by simp [rs], fun c hc => by rw [rs, List.mem_singleton] at hc; rw [hc]; exact hsr⟩, fun R hR => by
    rw [rs, List.mem_singleton] at hR
    rw [hR]
    exact ⟨fun c hc => hc, by simp⟩⟩
  | n + 1 => by
    obtain ⟨⟨h1, h2⟩, h3⟩ := rs_ok wf hsr n
    have hk : SOk g (roundN g w down (rs g w down n).1 (gi (rs g w down n).2 n)) := SOk.fold ⟨h1, h2, by simp, by simp⟩ fun c hc => flat_range wf hc
    have hfew := states_few wf.fit hk.1 hk.2.1
    have hup : ∀ (l : List St) (acc : List St × List St), acc.1 ⊆ (l.foldl addS acc).1 := by
      intro l
      induction l with
      | nil => intro acc x hx; exact hx
      | cons c l ih =>
        intro acc x hx
        refine ih _ ?_
        unfold addS
        split
        · exact hx
        · exact List.mem_append_left _ hx
    rw [rs]
    refine ⟨⟨hk.1, hk.2.1⟩, fun R hR => ?_⟩
    rcases List.mem_append.1 hR with hR | hR
    · exact ⟨fun c hc => hup _ _ ((h3 R hR).1 hc), (h3 R hR).2⟩
    · rw [List.mem_singleton.1 hR]
      exact ⟨hk.2.2.1, Nat.le_trans hk.2.2.2 hfew⟩
/-- the heap of a search: what is led to, and what was seen -/
structure SHp (g : Graph) (w : Want) (down : List Bool) (H H' : AHeap) (mb sb : Nat) (seen : List St) : Prop where
  ne : sb ≠ mb
  new : H sb = none
  base : ∀ b o, H b = some o → b ≠ mb → H' b = some o
  leads : ∃ es, H' mb = some (.map (.a 2 .i64) es) ∧ LeadsOK g w down es
  seen : ∃ es, H' sb = some (.map (.a 2 .i64) es) ∧ ∀ c : St, mget es (stKey c) = if c ∈ seen then some (bv true) else none
theorem SHp.led {H H' : AHeap} {mb sb : Nat} {seen : List St} (h : SHp g w down H H' mb sb seen) {es : List (MK × AV)} (hes : LeadsOK g w down es) : SHp g w down H (upd H' mb (some (.map (.a 2 .i64) es))) mb sb seen := by
  refine ⟨h.ne, h.new, fun b o ho hb => by rw [upd_ne _ _ (Ne.symm hb)]; exact h.base b o ho hb, ⟨es, upd_self _ _ _, hes⟩, ?_⟩
  rw [upd_ne _ _ (Ne.symm h.ne)]
  exact h.seen
theorem SHp.saw {H H' : AHeap} {mb sb : Nat} {seen : List St} (h : SHp g w down H H' mb sb seen) {es : List (MK × AV)} (he : H' sb = some (.map (.a 2 .i64) es)) (hs : ∀ c : St, mget es (stKey c) = if c ∈ seen then some (bv true) else none) (c : St) :
    SHp g w down H (upd H' sb (some (.map (.a 2 .i64) (mput es (stKey c) (bv true))))) mb sb (seen ++ [c]) := by
  refine ⟨h.ne, h.new, fun b o ho hb => by rw [upd_ne _ _ (by rintro rfl; rw [h.new] at ho; cases ho)]; exact h.base b o ho hb, ?_, ⟨_, upd_self _ _ _, fun c' => ?_⟩⟩
  · rw [upd_ne _ _ h.ne]; exact h.leads
  · rw [mget_mput]
    by_cases e : c = c'
    · subst e
      rw [if_pos rfl, if_pos (by simp)]
    · rw [if_neg (by
        intro hh
        simp only [stKey, MK.a.injEq, List.cons.injEq, and_true] at hh
        exact e (Prod.ext hh.1 hh.2)), hs c']
      by_cases h2 : c' ∈ seen
      · rw [if_pos h2, if_pos (by simp [h2])]
      · rw [if_neg h2, if_neg (by simp [h2]; exact fun hh => e hh.symm)]
end
theorem outs_get {out : List (List St)} {n : Int} (h0 : 0 ≤ n) (h1 : n < out.length) : rdV (out.map stsAV) (n.toNat * 1) 1 false = some (stsAV (gi out n)) := rd_map h0 h1
theorem exS_avs1 {P : Program} {s : S} {dst : Option Nat} {e by_ d : Nat} {nly : Bool} {l : List AV} {n : Nat} {x : AV} {r : List KI} {K : AEx → S → Prop} (hg : get s.loc d = some (.arr false l n e 1)) (h2 : (n + 1) * by_ ≤ 140737488355328) (h3 : n + 1 ≤ maxLen)
    (k : EX P r K (s.arr d dst false (l ++ [x]) (n + 1) e 1)) : exS P (appq s dst e 1 by_ (.own d) (.v (.vec nly [x] 1))) r K := by
  rw [appq_own hg rfl h2 h3, exS_some]
  exact k
theorem rounds_c (g : Graph) (w : Want) (down : List Bool) (h0 : optErr g w down = 0) (mb : Nat) (depth : Int) (hd : 0 ≤ depth ∧ depth ≤ 10) (es : List (MK × AV)) (hes : LeadsOK g w down es) (H : AHeap) (hm : H mb = some (.map (.a 2 .i64) es)) (hsr : rngS g (startW w)) :
    ACalls Try.prog 44 [xAV g w down mb, stateAV (startW w), iv depth] H fun r H' => (∃ es', H' = upd H mb (some (.map (.a 2 .i64) es')) ∧ LeadsOK g w down es') ∧
      ((∃ n : Nat, (n : Int) ≤ depth ∧ goalW w ∈ (rs g w down n).1 ∧ (∀ m : Nat, m < n → goalW w ∉ (rs g w down m).1) ∧ r = .tup [.vec false ((rs g w down n).2.map stsAV) (rs g w down n).2.length, bv true]) ∨
        ((∀ m : Nat, (m : Int) ≤ depth → goalW w ∉ (rs g w down m).1) ∧ r = .tup [.vec true [] 0, bv false])) := by
  have wf := wfit_of (optErr_right h0)
  have hf := wf.fit
  have fn := hf.n2
  have fw := hf.few
  suffices key : ACalls Try.prog 44 [xAV g w down mb, stateAV (startW w), iv depth] H fun r H' => (∃ es', (∀ b o, upd H mb (some (.map (.a 2 .i64) es')) b = some o → H' b = some o) ∧ LeadsOK g w down es') ∧
      ((∃ n : Nat, (n : Int) ≤ depth ∧ goalW w ∈ (rs g w down n).1 ∧ (∀ m : Nat, m < n → goalW w ∉ (rs g w down m).1) ∧ r = .tup [.vec false ((rs g w down n).2.map stsAV) (rs g w down n).2.length, bv true]) ∨
        ((∀ m : Nat, (m : Int) ≤ depth → goalW w ∉ (rs g w down m).1) ∧ r = .tup [.vec true [] 0, bv false])) by
    refine ACalls.relax (key.mono ?_)
    rintro r H' ⟨⟨es', h1, h2⟩, h3⟩
    exact ⟨fun _ => False, upd H mb (some (.map (.a 2 .i64) es')), _, h1, by simp, Fz.refl _ _ _, ⟨es', rfl, h2⟩, h3⟩
  have fin : ∀ {H' : AHeap} {sb : Nat} {seen : List St}, SHp g w down H H' mb sb seen → ∃ es', (∀ b o, upd H mb (some (.map (.a 2 .i64) es')) b = some o → H' b = some o) ∧ LeadsOK g w down es' := by
    intro H' sb seen h
    obtain ⟨es', h1, h2⟩ := h.leads
    refine ⟨es', fun b o ho => ?_, h2⟩
    by_cases e : mb = b
    · subst e; rw [upd_self] at ho; rw [h1]; exact ho
    · rw [upd_ne _ _ e] at ho
      exact h.base b o ho (Ne.symm e)
  refine ACalls.of_code fn_compile_search_rounds ?_
  simp -implicitDefEqProofs only [sc_compile_search_rounds, xAV, stateAV, go_sem, Nat.reduceEqDiff, Nat.reduceAdd, Nat.reduceMul, Nat.reduceLeDiff, Nat.reduceSub, Nat.reduceLT, Nat.reduceBEq, Int.reduceToNat, reduceCtorEq, ↓reduceIte, Int.reduceEq, Int.reduceNeg, Int.reduceLT, Int.reduceLE, Int.reduceAdd, Int.reduceSub, Int.reduceMul]
  repeat' (first | simp -implicitDefEqProofs only [go_sem, Nat.reduceEqDiff, Nat.reduceAdd, Nat.reduceMul, Nat.reduceLeDiff, Nat.reduceSub, Nat.reduceLT, Nat.reduceBEq, Int.reduceToNat, reduceCtorEq, ↓reduceIte, Int.reduceEq, Int.reduceNeg, Int.reduceLT, Int.reduceLE, Int.reduceAdd, Int.reduceSub, Int.reduceMul] | simp -implicitDefEqProofs (disch := omega) only [iaq_vec, iao_arr, iaq_raw, rd_map, wrap_id, binq_quo, binq_rem, binq_shl, binq_shr, tdiv_pos, tmod_pos, if_pos, exV_some, Option.map_some] | ((first | with_reducible apply exIf_dec | ((with_reducible apply exGd_dec); focus exact rfl) | ((with_reducible apply exGq_dec); focus exact rfl) | with_reducible apply exIf_intro | ((with_reducible apply exGd_intro); focus exact rfl) | ((with_reducible apply exGq_intro); focus exact rfl)) <;> intro _))
  intro sb hsb
  have hsb : H sb = none := hsb
  have hne : sb ≠ mb := by rintro rfl; rw [hsb] at hm; cases hm
  have hsh0 : SHp g w down H (upd (upd H sb (some (.map (.a 2 .i64) []))) sb (some (.map (.a 2 .i64) (mput [] (stKey (startW w)) (bv true))))) mb sb ([] ++ [startW w]) := by
    refine SHp.saw ⟨hne, hsb, fun b o ho hb => by rw [upd_ne _ _ (by rintro rfl; rw [hsb] at ho; cases ho)]; exact ho, ⟨es, by rw [upd_ne _ _ hne]; exact hm, hes⟩, ⟨[], upd_self _ _ _, fun c => by simp [mget]⟩⟩ (upd_self _ _ _) (fun c => by simp [mget]) _
  repeat' (first | simp -implicitDefEqProofs only [go_sem, Nat.reduceEqDiff, Nat.reduceAdd, Nat.reduceMul, Nat.reduceLeDiff, Nat.reduceSub, Nat.reduceLT, Nat.reduceBEq, Int.reduceToNat, reduceCtorEq, ↓reduceIte, Int.reduceEq, Int.reduceNeg, Int.reduceLT, Int.reduceLE, Int.reduceAdd, Int.reduceSub, Int.reduceMul] | simp -implicitDefEqProofs (disch := omega) only [upd_self, iaq_vec, iao_arr, iaq_raw, rd_map, wrap_id, binq_quo, binq_rem, binq_shl, binq_shr, tdiv_pos, tmod_pos, if_pos, exV_some, Option.map_some] | ((first | with_reducible apply exIf_dec | ((with_reducible apply exGd_dec); focus exact rfl) | ((with_reducible apply exGq_dec); focus exact rfl) | with_reducible apply exIf_intro | ((with_reducible apply exGd_intro); focus exact rfl) | ((with_reducible apply exGq_intro); focus exact rfl)) <;> intro _))
  all_goals first | (exfalso; omega) | skip
  refine exL_modH (fun a : Nat × AHeap => [(10, .v (iv (a.1 : Int)))]) (fun a => [(21, .arr false ((rs g w down a.1).2.map stsAV) (a.1 + 1) 105 1)]) (fun a => a.2) (fun a => SHp g w down H a.2 mb sb (rs g w down a.1).1 ∧ (a.1 : Int) ≤ depth ∧ ∀ m : Nat, m < a.1 → goalW w ∉ (rs g w down m).1) (fun a => (depth - a.1).toNat) (0, _) rfl ⟨hsh0, by dsimp only; omega, fun m hm => by omega⟩ ?_
  rintro ⟨n, H1⟩ ⟨hsh, n1, hno⟩ ih
  dsimp only at hsh n1 hno ih
  simp only [S.up, S.upH, ups, Abs.put, Nat.reduceEqDiff, ↓reduceIte, Nat.reduceAdd] at ih
  simp -implicitDefEqProofs only [congrArg KI.code sc_compile_search_rounds_L2.eq_1, go_sem, Nat.reduceEqDiff, Nat.reduceAdd, Nat.reduceMul, Nat.reduceLeDiff, Nat.reduceSub, Nat.reduceLT, Nat.reduceBEq, Int.reduceToNat, reduceCtorEq, ↓reduceIte, Int.reduceEq, Int.reduceNeg, Int.reduceLT, Int.reduceLE, Int.reduceAdd, Int.reduceSub, Int.reduceMul]
  obtain ⟨ss, hs1, hs2⟩ := hsh.seen
  have hgo := hs2 (goalW w)
  have hrl := rs_length (g := g) (w := w) (down := down) n
  by_cases hin : goalW w ∈ (rs g w down n).1
  · rw [if_pos hin] at hgo
    simp only [stKey, goalW] at hgo
    have hf2 := fin hsh
    clear ih
    repeat' (first | simp -implicitDefEqProofs only [go_sem, Nat.reduceEqDiff, Nat.reduceAdd, Nat.reduceMul, Nat.reduceLeDiff, Nat.reduceSub, Nat.reduceLT, Nat.reduceBEq, Int.reduceToNat, reduceCtorEq, ↓reduceIte, Int.reduceEq, Int.reduceNeg, Int.reduceLT, Int.reduceLE, Int.reduceAdd, Int.reduceSub, Int.reduceMul] | simp -implicitDefEqProofs (disch := omega) only [hs1, lkres, hgo, Option.getD_some, iaq_vec, iao_arr, iaq_raw, rd_map, wrap_id, binq_quo, binq_rem, binq_shl, binq_shr, tdiv_pos, tmod_pos, if_pos, exV_some, Option.map_some] | ((first | with_reducible apply exIf_dec | ((with_reducible apply exGd_dec); focus exact rfl) | ((with_reducible apply exGq_dec); focus exact rfl) | with_reducible apply exIf_intro | ((with_reducible apply exGd_intro); focus exact rfl) | ((with_reducible apply exGq_intro); focus exact rfl)) <;> intro _))
    all_goals first | exact ⟨hf2, .inl ⟨n, n1, hin, hno, by rw [hrl]⟩⟩ | (exfalso; omega) | skip
    done
  rw [if_neg hin] at hgo
  simp only [stKey, goalW] at hgo
  by_cases hnd : (n : Int) = depth
  · have hf2 := fin hsh
    have hall : ∀ m : Nat, (m : Int) ≤ depth → goalW w ∉ (rs g w down m).1 := fun m hm => by
      by_cases e : m = n
      · rw [e]; exact hin
      · exact hno m (by omega)
    clear ih
    repeat' (first | simp -implicitDefEqProofs only [go_sem, Nat.reduceEqDiff, Nat.reduceAdd, Nat.reduceMul, Nat.reduceLeDiff, Nat.reduceSub, Nat.reduceLT, Nat.reduceBEq, Int.reduceToNat, reduceCtorEq, ↓reduceIte, Int.reduceEq, Int.reduceNeg, Int.reduceLT, Int.reduceLE, Int.reduceAdd, Int.reduceSub, Int.reduceMul] | simp -implicitDefEqProofs (disch := omega) only [hs1, lkres, hgo, Option.getD_none, iaq_vec, iao_arr, iaq_raw, rd_map, wrap_id, binq_quo, binq_rem, binq_shl, binq_shr, tdiv_pos, tmod_pos, if_pos, exV_some, Option.map_some] | ((first | with_reducible apply exIf_dec | ((with_reducible apply exGd_dec); focus exact rfl) | ((with_reducible apply exGq_dec); focus exact rfl) | with_reducible apply exIf_intro | ((with_reducible apply exGd_intro); focus exact rfl) | ((with_reducible apply exGq_intro); focus exact rfl)) <;> intro _))
    all_goals first | exact ⟨hf2, .inr hall⟩ | (exfalso; omega) | skip
    done
  obtain ⟨⟨hok1, hok2⟩, hok3⟩ := rs_ok (down := down) wf hsr n
  obtain ⟨R, hR⟩ : ∃ R, R = gi (rs g w down n).2 n := ⟨_, rfl⟩
  have hRl : R.length ≤ 240 := by
    rw [hR]
    exact (hok3 _ (gi_mem (by omega) (by omega))).2
  have hget := outs_get (out := (rs g w down n).2) (n := (n : Int)) (by omega) (by omega)
  rw [← hR, stsAV] at hget
  obtain ⟨seen, hse⟩ : ∃ seen, seen = (rs g w down n).1 := ⟨_, rfl⟩
  have nxt := fun H2 (hh : SHp g w down H H2 mb sb (rs g w down (n + 1)).1) => ih (n + 1, H2) ⟨hh, by dsimp only; omega, fun m hm => by
    by_cases e : m = n
    · rw [e]; exact hin
    · exact hno m (by dsimp only at hm; omega)⟩ (by dsimp only; omega)
  dsimp only at nxt
  rw [rs, ← hR] at nxt
  dsimp only at nxt
  rw [← hse] at nxt hsh hin hs2 hok1 hok2
  clear ih
  repeat' (first | simp -implicitDefEqProofs only [go_sem, Nat.reduceEqDiff, Nat.reduceAdd, Nat.reduceMul, Nat.reduceLeDiff, Nat.reduceSub, Nat.reduceLT, Nat.reduceBEq, Int.reduceToNat, reduceCtorEq, ↓reduceIte, Int.reduceEq, Int.reduceNeg, Int.reduceLT, Int.reduceLE, Int.reduceAdd, Int.reduceSub, Int.reduceMul] | simp -implicitDefEqProofs (disch := omega) only [hs1, lkres, hgo, Option.getD_none, hget, iaq_vec, iao_arr, iaq_raw, rd_map, wrap_id, binq_quo, binq_rem, binq_shl, binq_shr, tdiv_pos, tmod_pos, if_pos, exV_some, Option.map_some] | ((first | with_reducible apply exIf_dec | ((with_reducible apply exGd_dec); focus exact rfl) | ((with_reducible apply exGq_dec); focus exact rfl) | with_reducible apply exIf_intro | ((with_reducible apply exGd_intro); focus exact rfl) | ((with_reducible apply exGq_intro); focus exact rfl)) <;> intro _))
  all_goals first | (exfalso; omega) | skip
  refine exL_modH (fun a : Int × AHeap => [(11, .own 63), (39, .v (iv a.1))]) (fun a => [(63, .arr (((R.take a.1.toNat).flatMap (tosL g w down)).foldl addS (seen, [])).2.isEmpty (rows (((R.take a.1.toNat).flatMap (tosL g w down)).foldl addS (seen, [])).2) (((R.take a.1.toNat).flatMap (tosL g w down)).foldl addS (seen, [])).2.length 82 2)]) (fun a => a.2) (fun a => SHp g w down H a.2 mb sb (((R.take a.1.toNat).flatMap (tosL g w down)).foldl addS (seen, [])).1 ∧ 0 ≤ a.1 ∧ a.1 ≤ R.length) (fun a => (R.length - a.1).toNat) (0, H1) rfl ⟨hsh, by simp, by simp⟩ ?_
  rintro ⟨i, H2⟩ ⟨hsh2, i0, i1⟩ ih
  dsimp only at hsh2 i0 i1 ih
  simp only [S.up, S.upH, ups, Abs.put, Nat.reduceEqDiff, ↓reduceIte, Nat.reduceAdd] at ih
  simp -implicitDefEqProofs only [congrArg KI.code sc_compile_search_rounds_L1.eq_1, go_sem, Nat.reduceEqDiff, Nat.reduceAdd, Nat.reduceMul, Nat.reduceLeDiff, Nat.reduceSub, Nat.reduceLT, Nat.reduceBEq, Int.reduceToNat, reduceCtorEq, ↓reduceIte, Int.reduceEq, Int.reduceNeg, Int.reduceLT, Int.reduceLE, Int.reduceAdd, Int.reduceSub, Int.reduceMul]
  by_cases hi : i < R.length
  · obtain ⟨es2, he2, hl2⟩ := hsh2.leads
    have cf := cfrom_c g w down h0 mb (gi R i) es2 hl2 H2 he2
    simp only [stateAV, leadsAV, xAV] at cf
    have hRi := rd_st (l := R) i0 hi
    obtain ⟨acc0, hacc0⟩ : ∃ a, a = ((R.take i.toNat).flatMap (tosL g w down)).foldl addS (seen, []) := ⟨_, rfl⟩
    rw [← hacc0] at hsh2 ⊢
    have hok : SOk g acc0 := by rw [hacc0]; exact SOk.fold ⟨hok1, hok2, by simp, by simp⟩ fun c hc => flat_range wf hc
    have nxt2 := fun H3 hh => ih (i + 1, H3) ⟨hh, by dsimp only; omega, by dsimp only; omega⟩ (by dsimp only; omega)
    dsimp only at nxt2
    rw [take_gi i0 hi, List.flatMap_append, List.foldl_append, ← hacc0, List.flatMap_singleton] at nxt2
    clear ih nxt
    repeat' (first | simp -implicitDefEqProofs only [go_sem, Nat.reduceEqDiff, Nat.reduceAdd, Nat.reduceMul, Nat.reduceLeDiff, Nat.reduceSub, Nat.reduceLT, Nat.reduceBEq, Int.reduceToNat, reduceCtorEq, ↓reduceIte, Int.reduceEq, Int.reduceNeg, Int.reduceLT, Int.reduceLE, Int.reduceAdd, Int.reduceSub, Int.reduceMul] | simp -implicitDefEqProofs (disch := omega) only [hRi, iaq_vec, iao_arr, iaq_raw, rd_map, wrap_id, binq_quo, binq_rem, binq_shl, binq_shr, tdiv_pos, tmod_pos, if_pos, exV_some, Option.map_some] | ((first | with_reducible apply exIf_dec | ((with_reducible apply exGd_dec); focus exact rfl) | ((with_reducible apply exGq_dec); focus exact rfl) | with_reducible apply exIf_intro | ((with_reducible apply exGd_intro); focus exact rfl) | ((with_reducible apply exGq_intro); focus exact rfl)) <;> intro _))
    all_goals first | (exfalso; omega) | skip
    refine exC_intro cf ?_
    rintro _ H3 ⟨rfl, es3, rfl, hl3⟩
    have hsh3 := hsh2.led hl3
    obtain ⟨lds, hlds⟩ : ∃ l, l = leadsL g w down (gi R i) := ⟨_, rfl⟩
    have hll := leads_length g w down (gi R i)
    have hto : tosL g w down (gi R i) = lds.map (·.to) := by rw [hlds]; rfl
    have hrg : ∀ l ∈ lds, rngS g l.to := fun l hl => seg_range wf (leads_mem (hlds ▸ hl))
    rw [hto] at nxt2
    rw [← hlds] at hll ⊢
    clear hlds hto cf
    simp -implicitDefEqProofs only [go_sem, Nat.reduceEqDiff, Nat.reduceAdd, Nat.reduceMul, Nat.reduceLeDiff, Nat.reduceSub, Nat.reduceLT, Nat.reduceBEq, Int.reduceToNat, reduceCtorEq, ↓reduceIte, Int.reduceEq, Int.reduceNeg, Int.reduceLT, Int.reduceLE, Int.reduceAdd, Int.reduceSub, Int.reduceMul]
    repeat' (first | simp -implicitDefEqProofs only [go_sem, Nat.reduceEqDiff, Nat.reduceAdd, Nat.reduceMul, Nat.reduceLeDiff, Nat.reduceSub, Nat.reduceLT, Nat.reduceBEq, Int.reduceToNat, reduceCtorEq, ↓reduceIte, Int.reduceEq, Int.reduceNeg, Int.reduceLT, Int.reduceLE, Int.reduceAdd, Int.reduceSub, Int.reduceMul] | simp -implicitDefEqProofs (disch := omega) only [iaq_vec, iao_arr, iaq_raw, rd_map, wrap_id, binq_quo, binq_rem, binq_shl, binq_shr, tdiv_pos, tmod_pos, if_pos, exV_some, Option.map_some] | ((first | with_reducible apply exIf_dec | ((with_reducible apply exGd_dec); focus exact rfl) | ((with_reducible apply exGq_dec); focus exact rfl) | with_reducible apply exIf_intro | ((with_reducible apply exGd_intro); focus exact rfl) | ((with_reducible apply exGq_intro); focus exact rfl)) <;> intro _))
    all_goals first | (exfalso; omega) | skip
    refine exL_modH (fun a : Int × AHeap => [(11, .own 63), (47, .v (iv a.1))]) (fun a => [(63, .arr (((lds.take a.1.toNat).map (·.to)).foldl addS acc0).2.isEmpty (rows (((lds.take a.1.toNat).map (·.to)).foldl addS acc0).2) (((lds.take a.1.toNat).map (·.to)).foldl addS acc0).2.length 82 2)]) (fun a => a.2) (fun a => SHp g w down H a.2 mb sb (((lds.take a.1.toNat).map (·.to)).foldl addS acc0).1 ∧ 0 ≤ a.1 ∧ a.1 ≤ lds.length) (fun a => (lds.length - a.1).toNat) (0, _) rfl ⟨hsh3, by simp, by simp⟩ ?_
    rintro ⟨j, H4⟩ ⟨hsh4, j0, j1⟩ ih
    dsimp only at hsh4 j0 j1 ih
    simp only [S.up, S.upH, ups, Abs.put, Nat.reduceEqDiff, ↓reduceIte, Nat.reduceAdd] at ih
    simp -implicitDefEqProofs only [congrArg KI.code sc_compile_search_rounds_L0.eq_1, go_sem, Nat.reduceEqDiff, Nat.reduceAdd, Nat.reduceMul, Nat.reduceLeDiff, Nat.reduceSub, Nat.reduceLT, Nat.reduceBEq, Int.reduceToNat, reduceCtorEq, ↓reduceIte, Int.reduceEq, Int.reduceNeg, Int.reduceLT, Int.reduceLE, Int.reduceAdd, Int.reduceSub, Int.reduceMul]
    by_cases hj : j < lds.length
    · have hlj := rd_ld (l := lds) j0 hj
      obtain ⟨acc, hacc⟩ : ∃ a, a = ((lds.take j.toNat).map (·.to)).foldl addS acc0 := ⟨_, rfl⟩
      have hok4 : SOk g acc := by
        rw [hacc]
        refine SOk.fold hok fun c hc => ?_
        obtain ⟨l, hl, rfl⟩ := List.mem_map.1 hc
        exact hrg l (List.mem_of_mem_take hl)
      have hfew := states_few hf hok4.1 hok4.2.1
      have hfew2 := hok4.2.2.2
      rw [← hacc] at hsh4 ⊢
      obtain ⟨ss4, hs41, hs42⟩ := hsh4.seen
      have hsw := hs42 (gi lds j).to
      have nxt3 := fun H5 hh => ih (j + 1, H5) ⟨hh, by dsimp only; omega, by dsimp only; omega⟩ (by dsimp only; omega)
      dsimp only at nxt3
      rw [take_gi j0 hj, List.map_append, List.foldl_append, ← hacc] at nxt3
      simp only [List.map_cons, List.map_nil, List.foldl_cons, List.foldl_nil] at nxt3
      clear ih nxt2
      by_cases hin4 : (gi lds j).to ∈ acc.1
      · rw [if_pos hin4] at hsw
        simp only [stKey] at hsw
        rw [addS, if_pos hin4] at nxt3
        have nx := nxt3 H4 hsh4
        clear nxt3
        repeat' (first | simp -implicitDefEqProofs only [go_sem, Nat.reduceEqDiff, Nat.reduceAdd, Nat.reduceMul, Nat.reduceLeDiff, Nat.reduceSub, Nat.reduceLT, Nat.reduceBEq, Int.reduceToNat, reduceCtorEq, ↓reduceIte, Int.reduceEq, Int.reduceNeg, Int.reduceLT, Int.reduceLE, Int.reduceAdd, Int.reduceSub, Int.reduceMul] | simp -implicitDefEqProofs (disch := omega) only [hlj, hs41, lkres, hsw, Option.getD_some, iaq_vec, iao_arr, iaq_raw, rd_map, wrap_id, binq_quo, binq_rem, binq_shl, binq_shr, tdiv_pos, tmod_pos, if_pos, exV_some, Option.map_some] | ((first | with_reducible apply exIf_dec | ((with_reducible apply exGd_dec); focus exact rfl) | ((with_reducible apply exGq_dec); focus exact rfl) | with_reducible apply exIf_intro | ((with_reducible apply exGd_intro); focus exact rfl) | ((with_reducible apply exGq_intro); focus exact rfl)) <;> intro _))
        all_goals first | exact nx | (exfalso; omega) | skip
        done
      · rw [if_neg hin4] at hsw
        simp only [stKey] at hsw
        rw [addS, if_neg hin4] at nxt3
        have nx := nxt3 _ (hsh4.saw hs41 hs42 (gi lds j).to)
        simp only [stKey] at nx
        clear nxt3
        repeat' (first | simp -implicitDefEqProofs only [go_sem, Nat.reduceEqDiff, Nat.reduceAdd, Nat.reduceMul, Nat.reduceLeDiff, Nat.reduceSub, Nat.reduceLT, Nat.reduceBEq, Int.reduceToNat, reduceCtorEq, ↓reduceIte, Int.reduceEq, Int.reduceNeg, Int.reduceLT, Int.reduceLE, Int.reduceAdd, Int.reduceSub, Int.reduceMul] | simp -implicitDefEqProofs (disch := omega) only [hlj, hs41, lkres, hsw, Option.getD_none, iaq_vec, iao_arr, iaq_raw, rd_map, wrap_id, binq_quo, binq_rem, binq_shl, binq_shr, tdiv_pos, tmod_pos, if_pos, exV_some, Option.map_some] | ((first | with_reducible apply exIf_dec | ((with_reducible apply exGd_dec); focus exact rfl) | ((with_reducible apply exGq_dec); focus exact rfl) | with_reducible apply exIf_intro | ((with_reducible apply exGd_intro); focus exact rfl) | ((with_reducible apply exGq_intro); focus exact rfl)) <;> intro _))
        all_goals first | (exfalso; omega) | skip
        refine exS_rows (gi lds j).to rfl rfl rfl (by omega) (by simp only [maxLen]; omega) ?_
        repeat' (first | simp -implicitDefEqProofs only [go_sem, Nat.reduceEqDiff, Nat.reduceAdd, Nat.reduceMul, Nat.reduceLeDiff, Nat.reduceSub, Nat.reduceLT, Nat.reduceBEq, Int.reduceToNat, reduceCtorEq, ↓reduceIte, Int.reduceEq, Int.reduceNeg, Int.reduceLT, Int.reduceLE, Int.reduceAdd, Int.reduceSub, Int.reduceMul] | simp -implicitDefEqProofs (disch := omega) only [iaq_vec, iao_arr, iaq_raw, rd_map, wrap_id, binq_quo, binq_rem, binq_shl, binq_shr, tdiv_pos, tmod_pos, if_pos, exV_some, Option.map_some] | ((first | with_reducible apply exIf_dec | ((with_reducible apply exGd_dec); focus exact rfl) | ((with_reducible apply exGq_dec); focus exact rfl) | with_reducible apply exIf_intro | ((with_reducible apply exGd_intro); focus exact rfl) | ((with_reducible apply exGq_intro); focus exact rfl)) <;> intro _))
        all_goals first | exact nx | (exfalso; omega) | skip
        done
    · obtain rfl : j = lds.length := by omega
      clear ih
      rw [Int.toNat_natCast, List.take_length] at hsh4 ⊢
      have nx := nxt2 H4 hsh4
      clear nxt2
      repeat' (first | simp -implicitDefEqProofs only [go_sem, Nat.reduceEqDiff, Nat.reduceAdd, Nat.reduceMul, Nat.reduceLeDiff, Nat.reduceSub, Nat.reduceLT, Nat.reduceBEq, Int.reduceToNat, reduceCtorEq, ↓reduceIte, Int.reduceEq, Int.reduceNeg, Int.reduceLT, Int.reduceLE, Int.reduceAdd, Int.reduceSub, Int.reduceMul] | simp -implicitDefEqProofs (disch := omega) only [iaq_vec, iao_arr, iaq_raw, rd_map, wrap_id, binq_quo, binq_rem, binq_shl, binq_shr, tdiv_pos, tmod_pos, if_pos, exV_some, Option.map_some] | ((first | with_reducible apply exIf_dec | ((with_reducible apply exGd_dec); focus exact rfl) | ((with_reducible apply exGq_dec); focus exact rfl) | with_reducible apply exIf_intro | ((with_reducible apply exGd_intro); focus exact rfl) | ((with_reducible apply exGq_intro); focus exact rfl)) <;> intro _))
      all_goals first | exact nx | (exfalso; omega) | skip
      done
  · obtain rfl : i = R.length := by omega
    clear ih
    rw [Int.toNat_natCast, List.take_length] at hsh2 ⊢
    have nx := nxt H2 hsh2
    clear nxt
    repeat' (first | simp -implicitDefEqProofs only [go_sem, Nat.reduceEqDiff, Nat.reduceAdd, Nat.reduceMul, Nat.reduceLeDiff, Nat.reduceSub, Nat.reduceLT, Nat.reduceBEq, Int.reduceToNat, reduceCtorEq, ↓reduceIte, Int.reduceEq, Int.reduceNeg, Int.reduceLT, Int.reduceLE, Int.reduceAdd, Int.reduceSub, Int.reduceMul] | simp -implicitDefEqProofs (disch := omega) only [iaq_vec, iao_arr, iaq_raw, rd_map, wrap_id, binq_quo, binq_rem, binq_shl, binq_shr, tdiv_pos, tmod_pos, if_pos, exV_some, Option.map_some] | ((first | with_reducible apply exIf_dec | ((with_reducible apply exGd_dec); focus exact rfl) | ((with_reducible apply exGq_dec); focus exact rfl) | with_reducible apply exIf_intro | ((with_reducible apply exGd_intro); focus exact rfl) | ((with_reducible apply exGq_intro); focus exact rfl)) <;> intro _))
    all_goals first | (exfalso; omega) | skip
    refine exS_avs1 rfl (by omega) (by simp only [maxLen]; omega) ?_
    rw [List.map_append] at nx
    repeat' (first | simp -implicitDefEqProofs only [go_sem, Nat.reduceEqDiff, Nat.reduceAdd, Nat.reduceMul, Nat.reduceLeDiff, Nat.reduceSub, Nat.reduceLT, Nat.reduceBEq, Int.reduceToNat, reduceCtorEq, ↓reduceIte, Int.reduceEq, Int.reduceNeg, Int.reduceLT, Int.reduceLE, Int.reduceAdd, Int.reduceSub, Int.reduceMul] | simp -implicitDefEqProofs (disch := omega) only [iaq_vec, iao_arr, iaq_raw, rd_map, wrap_id, binq_quo, binq_rem, binq_shl, binq_shr, tdiv_pos, tmod_pos, if_pos, exV_some, Option.map_some] | ((first | with_reducible apply exIf_dec | ((with_reducible apply exGd_dec); focus exact rfl) | ((with_reducible apply exGq_dec); focus exact rfl) | with_reducible apply exIf_intro | ((with_reducible apply exGd_intro); focus exact rfl) | ((with_reducible apply exGq_intro); focus exact rfl)) <;> intro _))
    all_goals first | exact nx | (exfalso; omega) | skip
    done
end Go.Proofs.Ytejmcijcdhoogaa
end

section
/- Which states lead to the goal in as few segments as may be. -/
namespace Go.Proofs.Ytejmcijcdhoogaa
open Go Abs
attribute [local irreducible] EX exL exG exC exCq exS exV exIf exGd exGq
set_option maxHeartbeats 4000000
def mvv (b : Option Nat) : AV := .raw (.map b)
theorem set_mvv {l : List (Option Nat)} {k : Nat} {b : Option Nat} : (l.map mvv).set (k * 1) (.raw (.map b)) = (l.set k b).map mvv := by rw [Nat.mul_one, List.map_set]; rfl
/-- what a map of states says -/
def Says (es : List (MK × AV)) (p : St → Prop) : Prop := ∀ c : St, (p c → mget es (stKey c) = some (bv true)) ∧ (¬ p c → mget es (stKey c) = none)
theorem Says.put {es : List (MK × AV)} {p q : St → Prop} {a : St} (h : Says es p) (hq : ∀ c, q c ↔ p c ∨ c = a) : Says (mput es (stKey a) (bv true)) q := by
  intro c
  rw [mget_mput]
  by_cases e : a = c
  · subst e
    rw [if_pos rfl]
    exact ⟨fun _ => rfl, fun hn => absurd ((hq a).2 (.inr rfl)) hn⟩
  · rw [if_neg (by
      intro hh
      simp only [stKey, MK.a.injEq, List.cons.injEq, and_true] at hh
      exact e (Prod.ext hh.1 hh.2))]
    exact ⟨fun hh => (h c).1 (((hq c).1 hh).resolve_right fun e' => e e'.symm), fun hh => (h c).2 fun hp => hh ((hq c).2 (.inl hp))⟩
theorem Says.iff {es : List (MK × AV)} {p q : St → Prop} (h : Says es p) (hq : ∀ c, q c ↔ p c) : Says es q := fun c => ⟨fun hh => (h c).1 ((hq c).1 hh), fun hh => (h c).2 fun hp => hh ((hq c).2 hp)⟩
section
variable (g : Graph) (w : Want) (down : List Bool) (R : List (List St))
/-- leads to the goal in just so many segments, over the states of the rounds -/
def Lf : Nat → St → Prop
  | 0, a => a = goalW w
  | k + 1, a => a ∈ gi R ((R.length : Int) - 2 - k) ∧ ∃ l ∈ leadsL g w down a, Lf k l.to
/-- one map for each round from n on -/
def LOk (mb : Nat) (H : AHeap) (bs : List (Option Nat)) (n : Int) : Prop := bs.length = R.length ∧ ∀ i : Int, n < i → 0 ≤ i → i < R.length → ∃ b es, gi bs i = some b ∧ b ≠ mb ∧ H b = some (.map (.a 2 .i64) es) ∧ Says es (Lf g w down R ((R.length : Int) - 1 - i).toNat)
end
/-- the map that is being filled -/
structure MHp (g : Graph) (w : Want) (down : List Bool) (H H' : AHeap) (mb sb : Nat) (p : St → Prop) : Prop where
  ne : sb ≠ mb
  new : H sb = none
  base : ∀ b o, H b = some o → b ≠ mb → H' b = some o
  leads : ∃ es, H' mb = some (.map (.a 2 .i64) es) ∧ LeadsOK g w down es
  says : ∃ es, H' sb = some (.map (.a 2 .i64) es) ∧ Says es p
section
variable {g : Graph} {w : Want} {down : List Bool} {H H' : AHeap} {mb sb : Nat} {p q : St → Prop}
theorem MHp.led (h : MHp g w down H H' mb sb p) {es : List (MK × AV)} (hes : LeadsOK g w down es) : MHp g w down H (upd H' mb (some (.map (.a 2 .i64) es))) mb sb p := by
  refine ⟨h.ne, h.new, fun b o ho hb => by rw [upd_ne _ _ (Ne.symm hb)]; exact h.base b o ho hb, ⟨es, upd_self _ _ _, hes⟩, ?_⟩
  rw [upd_ne _ _ (Ne.symm h.ne)]
  exact h.says
theorem MHp.put (h : MHp g w down H H' mb sb p) {es : List (MK × AV)} (he : H' sb = some (.map (.a 2 .i64) es)) (hs : Says es p) (a : St) (hq : ∀ c, q c ↔ p c ∨ c = a) : MHp g w down H (upd H' sb (some (.map (.a 2 .i64) (mput es (stKey a) (bv true))))) mb sb q := by
  refine ⟨h.ne, h.new, fun b o ho hb => by rw [upd_ne _ _ (by rintro rfl; rw [h.new] at ho; cases ho)]; exact h.base b o ho hb, ?_, ⟨_, upd_self _ _ _, hs.put hq⟩⟩
  rw [upd_ne _ _ h.ne]; exact h.leads
theorem MHp.iff (h : MHp g w down H H' mb sb p) (hq : ∀ c, q c ↔ p c) : MHp g w down H H' mb sb q := by
  obtain ⟨es, h1, h2⟩ := h.says
  exact ⟨h.ne, h.new, h.base, h.leads, es, h1, h2.iff hq⟩
end
theorem left_c (g : Graph) (w : Want) (down : List Bool) (h0 : optErr g w down = 0) (mb : Nat) (R : List (List St)) (hR : 1 ≤ R.length ∧ R.length ≤ 20) (hR2 : ∀ l ∈ R, l.length ≤ 240) (es : List (MK × AV)) (hes : LeadsOK g w down es) (H : AHeap) (hm : H mb = some (.map (.a 2 .i64) es)) :
    ACalls Try.prog 45 [xAV g w down mb, .vec false (R.map stsAV) R.length] H fun r H' => (∀ b o, H b = some o → b ≠ mb → H' b = some o) ∧ (∃ es', H' mb = some (.map (.a 2 .i64) es') ∧ LeadsOK g w down es') ∧ ∃ bs, r = .vec false (bs.map mvv) R.length ∧ LOk g w down R mb H' bs (-1) := by
  have wf := wfit_of (optErr_right h0)
  have hf := wf.fit
  have fn := hf.n2
  have fw := hf.few
  refine ACalls.of_code fn_compile_search_left ?_
  simp -implicitDefEqProofs only [sc_compile_search_left, xAV, go_sem, Nat.reduceEqDiff, Nat.reduceAdd, Nat.reduceMul, Nat.reduceLeDiff, Nat.reduceSub, Nat.reduceLT, Nat.reduceBEq, Int.reduceToNat, reduceCtorEq, ↓reduceIte, Int.reduceEq, Int.reduceNeg, Int.reduceLT, Int.reduceLE, Int.reduceAdd, Int.reduceSub, Int.reduceMul]
  repeat' (first | simp -implicitDefEqProofs only [go_sem, Nat.reduceEqDiff, Nat.reduceAdd, Nat.reduceMul, Nat.reduceLeDiff, Nat.reduceSub, Nat.reduceLT, Nat.reduceBEq, Int.reduceToNat, reduceCtorEq, ↓reduceIte, Int.reduceEq, Int.reduceNeg, Int.reduceLT, Int.reduceLE, Int.reduceAdd, Int.reduceSub, Int.reduceMul] | simp -implicitDefEqProofs (disch := omega) only [iaq_vec, iao_arr, iaq_raw, rd_map, wrap_id, binq_quo, binq_rem, binq_shl, binq_shr, tdiv_pos, tmod_pos, if_pos, exV_some, Option.map_some] | ((first | with_reducible apply exIf_dec | ((with_reducible apply exGd_dec); focus exact rfl) | ((with_reducible apply exGq_dec); focus exact rfl) | with_reducible apply exIf_intro | ((with_reducible apply exGd_intro); focus exact rfl) | ((with_reducible apply exGq_intro); focus exact rfl)) <;> intro _))
  all_goals first | (exfalso; omega) | skip
  refine exMk_int (by omega) (by omega) (by simp only [maxLen]; omega) rfl ?_
  rw [zrep_one, show ((R.length : Nat) : Int).toNat = R.length by omega, show List.replicate R.length (cAV (.map none)) = (List.replicate R.length (none : Option Nat)).map mvv by rw [List.map_replicate]; rfl]
  repeat' (first | simp -implicitDefEqProofs only [go_sem, Nat.reduceEqDiff, Nat.reduceAdd, Nat.reduceMul, Nat.reduceLeDiff, Nat.reduceSub, Nat.reduceLT, Nat.reduceBEq, Int.reduceToNat, reduceCtorEq, ↓reduceIte, Int.reduceEq, Int.reduceNeg, Int.reduceLT, Int.reduceLE, Int.reduceAdd, Int.reduceSub, Int.reduceMul] | simp -implicitDefEqProofs (disch := omega) only [upd_self, set_mvv, iaq_vec, iao_arr, iaq_raw, rd_map, wrap_id, binq_quo, binq_rem, binq_shl, binq_shr, tdiv_pos, tmod_pos, if_pos, exV_some, Option.map_some] | ((first | with_reducible apply exIf_dec | ((with_reducible apply exGd_dec); focus exact rfl) | ((with_reducible apply exGq_dec); focus exact rfl) | with_reducible apply exIf_intro | ((with_reducible apply exGd_intro); focus exact rfl) | ((with_reducible apply exGq_intro); focus exact rfl)) <;> intro _))
  all_goals first | (exfalso; omega) | skip
  intro b0 hb0
  have hb0 : H b0 = none := hb0
  have hne0 : b0 ≠ mb := by rintro rfl; rw [hb0] at hm; cases hm
  repeat' (first | simp -implicitDefEqProofs only [go_sem, Nat.reduceEqDiff, Nat.reduceAdd, Nat.reduceMul, Nat.reduceLeDiff, Nat.reduceSub, Nat.reduceLT, Nat.reduceBEq, Int.reduceToNat, reduceCtorEq, ↓reduceIte, Int.reduceEq, Int.reduceNeg, Int.reduceLT, Int.reduceLE, Int.reduceAdd, Int.reduceSub, Int.reduceMul] | simp -implicitDefEqProofs (disch := omega) only [upd_self, set_mvv, List.length_replicate, iaq_vec, iao_arr, iaq_raw, rd_map, wrap_id, binq_quo, binq_rem, binq_shl, binq_shr, tdiv_pos, tmod_pos, if_pos, exV_some, Option.map_some] | ((first | with_reducible apply exIf_dec | ((with_reducible apply exGd_dec); focus exact rfl) | ((with_reducible apply exGq_dec); focus exact rfl) | with_reducible apply exIf_intro | ((with_reducible apply exGd_intro); focus exact rfl) | ((with_reducible apply exGq_intro); focus exact rfl)) <;> intro _))
  all_goals first | (exfalso; omega) | skip
  have hm0 : MHp g w down H (upd (upd H b0 (some (.map (.a 2 .i64) []))) b0 (some (.map (.a 2 .i64) (mput [] (stKey (goalW w)) (bv true))))) mb b0 (Lf g w down R 0) := by
    refine MHp.put (p := fun _ => False) ⟨hne0, hb0, fun b o ho hb => by rw [upd_ne _ _ (by rintro rfl; rw [hb0] at ho; cases ho)]; exact ho, ⟨es, by rw [upd_ne _ _ hne0]; exact hm, hes⟩, ⟨[], upd_self _ _ _, fun c => ⟨False.elim, fun _ => rfl⟩⟩⟩ (upd_self _ _ _) (fun c => ⟨False.elim, fun _ => rfl⟩) _ fun c => ?_
    simp [Lf]
  have hlk0 : LOk g w down R mb (upd (upd H b0 (some (.map (.a 2 .i64) []))) b0 (some (.map (.a 2 .i64) (mput [] (stKey (goalW w)) (bv true))))) ((List.replicate R.length none).set ((R.length : Int) - 1).toNat (some b0)) ((R.length : Int) - 2) := by
    refine ⟨by simp, fun i hi hi0 hi1 => ?_⟩
    obtain rfl : i = (R.length : Int) - 1 := by omega
    obtain ⟨esb, h1, h2⟩ := hm0.says
    refine ⟨b0, esb, ?_, hne0, h1, ?_⟩
    · rw [gi_get (by simp; omega)]; simp
    · rw [Int.sub_self]; exact h2
  refine exL_modH (fun a : Int × List (Option Nat) × AHeap => [(6, .v (iv a.1))]) (fun a => [(13, .arr false (a.2.1.map mvv) R.length 92 1)]) (fun a => a.2.2) (fun a => LOk g w down R mb a.2.2 a.2.1 a.1 ∧ (∀ b o, H b = some o → b ≠ mb → a.2.2 b = some o) ∧ (∃ es', a.2.2 mb = some (.map (.a 2 .i64) es') ∧ LeadsOK g w down es') ∧ -1 ≤ a.1 ∧ a.1 ≤ R.length - 2) (fun a => (a.1 + 1).toNat) ((R.length : Int) - 2, (List.replicate R.length none).set ((R.length : Int) - 1).toNat (some b0), _) rfl ⟨hlk0, hm0.base, hm0.leads, by dsimp only; omega, by dsimp only; omega⟩ ?_
  rintro ⟨n, bs, H1⟩ ⟨hok, hbase, ⟨es1, hm1, hes1⟩, n0, n1⟩ ih
  dsimp only at hok hbase hm1 n0 n1 ih
  simp only [S.up, S.upH, ups, Abs.put, Nat.reduceEqDiff, ↓reduceIte, Nat.reduceAdd] at ih
  simp -implicitDefEqProofs only [congrArg KI.code sc_compile_search_left_L2.eq_1, go_sem, Nat.reduceEqDiff, Nat.reduceAdd, Nat.reduceMul, Nat.reduceLeDiff, Nat.reduceSub, Nat.reduceLT, Nat.reduceBEq, Int.reduceToNat, reduceCtorEq, ↓reduceIte, Int.reduceEq, Int.reduceNeg, Int.reduceLT, Int.reduceLE, Int.reduceAdd, Int.reduceSub, Int.reduceMul]
  by_cases hn : 0 ≤ n
  · obtain ⟨hbl, hbs⟩ := hok
    obtain ⟨b1, esn, hg1, hb1m, hH1, hs1⟩ := hbs (n + 1) (by omega) (by omega) (by omega)
    obtain ⟨k, hk⟩ : ∃ k : Nat, (k : Int) = R.length - 2 - n := ⟨((R.length : Int) - 2 - n).toNat, by omega⟩
    rw [show ((R.length : Int) - 1 - (n + 1)).toNat = k by omega] at hs1
    have hRn := outs_get (out := R) (n := n) hn (by omega)
    have hRl := hR2 _ (gi_mem (l := R) hn (by omega))
    obtain ⟨A, hA⟩ : ∃ A, A = gi R n := ⟨_, rfl⟩
    rw [← hA, stsAV] at hRn
    rw [← hA] at hRl
    repeat' (first | simp -implicitDefEqProofs only [go_sem, Nat.reduceEqDiff, Nat.reduceAdd, Nat.reduceMul, Nat.reduceLeDiff, Nat.reduceSub, Nat.reduceLT, Nat.reduceBEq, Int.reduceToNat, reduceCtorEq, ↓reduceIte, Int.reduceEq, Int.reduceNeg, Int.reduceLT, Int.reduceLE, Int.reduceAdd, Int.reduceSub, Int.reduceMul] | simp -implicitDefEqProofs (disch := omega) only [upd_self, set_mvv, List.length_map, hbl, iaq_vec, iao_arr, iaq_raw, rd_map, wrap_id, binq_quo, binq_rem, binq_shl, binq_shr, tdiv_pos, tmod_pos, if_pos, exV_some, Option.map_some] | ((first | with_reducible apply exIf_dec | ((with_reducible apply exGd_dec); focus exact rfl) | ((with_reducible apply exGq_dec); focus exact rfl) | with_reducible apply exIf_intro | ((with_reducible apply exGd_intro); focus exact rfl) | ((with_reducible apply exGq_intro); focus exact rfl)) <;> intro _))
    all_goals first | (exfalso; omega) | skip
    intro b hb
    have hb : H1 b = none := hb
    have hbm : b ≠ mb := by rintro rfl; rw [hb] at hm1; cases hm1
    have hs0 : MHp g w down H1 (upd H1 b (some (.map (.a 2 .i64) []))) mb b (fun _ => False) := ⟨hbm, hb, fun b' o ho hb' => by rw [upd_ne _ _ (by rintro rfl; rw [hb] at ho; cases ho)]; exact ho, ⟨es1, by rw [upd_ne _ _ hbm]; exact hm1, hes1⟩, ⟨[], upd_self _ _ _, fun c => ⟨False.elim, fun _ => rfl⟩⟩⟩
    repeat' (first | simp -implicitDefEqProofs only [go_sem, Nat.reduceEqDiff, Nat.reduceAdd, Nat.reduceMul, Nat.reduceLeDiff, Nat.reduceSub, Nat.reduceLT, Nat.reduceBEq, Int.reduceToNat, reduceCtorEq, ↓reduceIte, Int.reduceEq, Int.reduceNeg, Int.reduceLT, Int.reduceLE, Int.reduceAdd, Int.reduceSub, Int.reduceMul] | simp -implicitDefEqProofs (disch := omega) only [upd_self, set_mvv, List.length_map, hbl, stsAV, iaq_vec, iao_arr, iaq_raw, rd_map, wrap_id, binq_quo, binq_rem, binq_shl, binq_shr, tdiv_pos, tmod_pos, if_pos, exV_some, Option.map_some] | ((first | with_reducible apply exIf_dec | ((with_reducible apply exGd_dec); focus exact rfl) | ((with_reducible apply exGq_dec); focus exact rfl) | with_reducible apply exIf_intro | ((with_reducible apply exGd_intro); focus exact rfl) | ((with_reducible apply exGq_intro); focus exact rfl)) <;> intro _))
    all_goals first | (exfalso; omega) | skip
    rw [← hA]
    have nxt := fun H2 (hh : MHp g w down H1 H2 mb b (Lf g w down R (k + 1))) => ih (n - 1, bs.set n.toNat (some b), H2) ⟨⟨by simp [hbl], fun i hi hi0 hi1 => by
        obtain ⟨esb, q1, q2⟩ := hh.says
        rw [gi_set hn (by omega) hi0]
        by_cases e : i = n
        · rw [if_pos e]
          refine ⟨b, esb, rfl, hbm, q1, ?_⟩
          rw [e, show ((R.length : Int) - 1 - n).toNat = k + 1 by omega]
          exact q2
        · rw [if_neg e]
          obtain ⟨b2, es2, p1, p2, p3, p4⟩ := hbs i (by dsimp only at hi; omega) hi0 hi1
          exact ⟨b2, es2, p1, p2, hh.base _ _ p3 p2, p4⟩⟩, fun b' o ho hb' => hh.base b' o (hbase b' o ho hb') hb', hh.leads, by dsimp only; omega, by dsimp only; omega⟩ (by dsimp only; omega)
    dsimp only at nxt
    clear ih
    refine exL_modH (fun a : Int × AHeap => [(41, .v (iv a.1))]) (fun a => []) (fun a => a.2) (fun a => MHp g w down H1 a.2 mb b (fun c => c ∈ A.take a.1.toNat ∧ ∃ l ∈ leadsL g w down c, Lf g w down R k l.to) ∧ 0 ≤ a.1 ∧ a.1 ≤ A.length) (fun a => (A.length - a.1).toNat) (0, _) rfl ⟨hs0.iff fun c => by simp, by simp, by simp⟩ ?_
    rintro ⟨i, H2⟩ ⟨hsh2, i0, i1⟩ ih
    dsimp only at hsh2 i0 i1 ih
    simp only [S.up, S.upH, ups, Abs.put, Nat.reduceEqDiff, ↓reduceIte, Nat.reduceAdd] at ih
    simp -implicitDefEqProofs only [congrArg KI.code sc_compile_search_left_L1.eq_1, go_sem, Nat.reduceEqDiff, Nat.reduceAdd, Nat.reduceMul, Nat.reduceLeDiff, Nat.reduceSub, Nat.reduceLT, Nat.reduceBEq, Int.reduceToNat, reduceCtorEq, ↓reduceIte, Int.reduceEq, Int.reduceNeg, Int.reduceLT, Int.reduceLE, Int.reduceAdd, Int.reduceSub, Int.reduceMul]
    by_cases hi : i < A.length
    · obtain ⟨es2, he2, hl2⟩ := hsh2.leads
      have cf := cfrom_c g w down h0 mb (gi A i) es2 hl2 H2 he2
      simp only [stateAV, leadsAV, xAV] at cf
      have hRi := rd_st (l := A) i0 hi
      have nxt2 := fun H3 hh => ih (i + 1, H3) ⟨hh, by dsimp only; omega, by dsimp only; omega⟩ (by dsimp only; omega)
      dsimp only at nxt2
      rw [take_gi i0 hi] at nxt2
      clear ih nxt
      repeat' (first | simp -implicitDefEqProofs only [go_sem, Nat.reduceEqDiff, Nat.reduceAdd, Nat.reduceMul, Nat.reduceLeDiff, Nat.reduceSub, Nat.reduceLT, Nat.reduceBEq, Int.reduceToNat, reduceCtorEq, ↓reduceIte, Int.reduceEq, Int.reduceNeg, Int.reduceLT, Int.reduceLE, Int.reduceAdd, Int.reduceSub, Int.reduceMul] | simp -implicitDefEqProofs (disch := omega) only [hRi, iaq_vec, iao_arr, iaq_raw, rd_map, wrap_id, binq_quo, binq_rem, binq_shl, binq_shr, tdiv_pos, tmod_pos, if_pos, exV_some, Option.map_some] | ((first | with_reducible apply exIf_dec | ((with_reducible apply exGd_dec); focus exact rfl) | ((with_reducible apply exGq_dec); focus exact rfl) | with_reducible apply exIf_intro | ((with_reducible apply exGd_intro); focus exact rfl) | ((with_reducible apply exGq_intro); focus exact rfl)) <;> intro _))
      all_goals first | (exfalso; omega) | skip
      refine exC_intro cf ?_
      rintro _ H3 ⟨rfl, es3, rfl, hl3⟩
      have hsh3 := hsh2.led hl3
      obtain ⟨lds, hlds⟩ : ∃ l, l = leadsL g w down (gi A i) := ⟨_, rfl⟩
      have hll := leads_length g w down (gi A i)
      rw [← hlds] at hll ⊢
      clear cf
      simp -implicitDefEqProofs only [go_sem, Nat.reduceEqDiff, Nat.reduceAdd, Nat.reduceMul, Nat.reduceLeDiff, Nat.reduceSub, Nat.reduceLT, Nat.reduceBEq, Int.reduceToNat, reduceCtorEq, ↓reduceIte, Int.reduceEq, Int.reduceNeg, Int.reduceLT, Int.reduceLE, Int.reduceAdd, Int.reduceSub, Int.reduceMul]
      repeat' (first | simp -implicitDefEqProofs only [go_sem, Nat.reduceEqDiff, Nat.reduceAdd, Nat.reduceMul, Nat.reduceLeDiff, Nat.reduceSub, Nat.reduceLT, Nat.reduceBEq, Int.reduceToNat, reduceCtorEq, ↓reduceIte, Int.reduceEq, Int.reduceNeg, Int.reduceLT, Int.reduceLE, Int.reduceAdd, Int.reduceSub, Int.reduceMul] | simp -implicitDefEqProofs (disch := omega) only [iaq_vec, iao_arr, iaq_raw, rd_map, wrap_id, binq_quo, binq_rem, binq_shl, binq_shr, tdiv_pos, tmod_pos, if_pos, exV_some, Option.map_some] | ((first | with_reducible apply exIf_dec | ((with_reducible apply exGd_dec); focus exact rfl) | ((with_reducible apply exGq_dec); focus exact rfl) | with_reducible apply exIf_intro | ((with_reducible apply exGd_intro); focus exact rfl) | ((with_reducible apply exGq_intro); focus exact rfl)) <;> intro _))
      all_goals first | (exfalso; omega) | skip
      obtain ⟨P0, hP0⟩ : ∃ P0 : St → Prop, P0 = fun c => c ∈ A.take i.toNat ∧ ∃ l ∈ leadsL g w down c, Lf g w down R k l.to := ⟨_, rfl⟩
      rw [← hP0] at hsh3
      refine exL_modH (fun a : Int × AHeap => [(49, .v (iv a.1))]) (fun a => []) (fun a => a.2) (fun a => MHp g w down H1 a.2 mb b (fun c => P0 c ∨ (c = gi A i ∧ ∃ l ∈ lds.take a.1.toNat, Lf g w down R k l.to)) ∧ 0 ≤ a.1 ∧ a.1 ≤ lds.length) (fun a => (lds.length - a.1).toNat) (0, _) rfl ⟨hsh3.iff fun c => by simp, by simp, by simp⟩ ?_
      rintro ⟨j, H4⟩ ⟨hsh4, j0, j1⟩ ih
      dsimp only at hsh4 j0 j1 ih
      simp only [S.up, S.upH, ups, Abs.put, Nat.reduceEqDiff, ↓reduceIte, Nat.reduceAdd] at ih
      simp -implicitDefEqProofs only [congrArg KI.code sc_compile_search_left_L0.eq_1, go_sem, Nat.reduceEqDiff, Nat.reduceAdd, Nat.reduceMul, Nat.reduceLeDiff, Nat.reduceSub, Nat.reduceLT, Nat.reduceBEq, Int.reduceToNat, reduceCtorEq, ↓reduceIte, Int.reduceEq, Int.reduceNeg, Int.reduceLT, Int.reduceLE, Int.reduceAdd, Int.reduceSub, Int.reduceMul]
      by_cases hj : j < lds.length
      · have hlj := rd_ld (l := lds) j0 hj
        have hH4 := hsh4.base _ _ hH1 hb1m
        have hg1' : gi (bs.set n.toNat (some b)) (n + 1) = some b1 := by rw [gi_set hn (by omega) (by omega), if_neg (by omega)]; exact hg1
        have hg2' : gi (bs.set n.toNat (some b)) n = some b := by rw [gi_set hn (by omega) hn, if_pos rfl]
        have hrd1 : rdV ((bs.set n.toNat (some b)).map mvv) ((n + 1).toNat * 1) 1 false = some (.raw (.map (some b1))) := by
          rw [rd_map (by omega) (by rw [List.length_set]; omega), hg1']; rfl
        have hrd2 : rdV ((bs.set n.toNat (some b)).map mvv) (n.toNat * 1) 1 false = some (.raw (.map (some b))) := by
          rw [rd_map (by omega) (by rw [List.length_set]; omega), hg2']; rfl
        have hsw := hs1 (gi lds j).to
        have nxt3 := fun H5 hh => ih (j + 1, H5) ⟨hh, by dsimp only; omega, by dsimp only; omega⟩ (by dsimp only; omega)
        dsimp only at nxt3
        rw [take_gi j0 hj] at nxt3
        clear ih nxt2
        by_cases hin : Lf g w down R k (gi lds j).to
        · have hsw := hsw.1 hin
          simp only [stKey] at hsw
          obtain ⟨esb, hsb1, hsb2⟩ := hsh4.says
          have nx := nxt3 _ (hsh4.put hsb1 hsb2 (gi A i) fun c => by
            constructor
            · rintro (h | ⟨h1, -⟩)
              · exact .inl (.inl h)
              · exact .inr h1
            · rintro ((h | ⟨h1, l, hl, h2⟩) | h)
              · exact .inl h
              · exact .inr ⟨h1, l, List.mem_append_left _ hl, h2⟩
              · exact .inr ⟨h, gi lds j, by simp, hin⟩)
          simp only [stKey] at nx
          clear nxt3
          repeat' (first | simp -implicitDefEqProofs only [go_sem, Nat.reduceEqDiff, Nat.reduceAdd, Nat.reduceMul, Nat.reduceLeDiff, Nat.reduceSub, Nat.reduceLT, Nat.reduceBEq, Int.reduceToNat, reduceCtorEq, ↓reduceIte, Int.reduceEq, Int.reduceNeg, Int.reduceLT, Int.reduceLE, Int.reduceAdd, Int.reduceSub, Int.reduceMul] | simp -implicitDefEqProofs (disch := omega) only [hlj, hrd1, hrd2, hH4, hsb1, lkres, hsw, Option.getD_some, iaq_vec, iao_arr, iaq_raw, rd_map, wrap_id, binq_quo, binq_rem, binq_shl, binq_shr, tdiv_pos, tmod_pos, if_pos, exV_some, Option.map_some] | ((first | with_reducible apply exIf_dec | ((with_reducible apply exGd_dec); focus exact rfl) | ((with_reducible apply exGq_dec); focus exact rfl) | with_reducible apply exIf_intro | ((with_reducible apply exGd_intro); focus exact rfl) | ((with_reducible apply exGq_intro); focus exact rfl)) <;> intro _))
          all_goals first | exact nx | (exfalso; omega) | skip
          done
        · have hsw := hsw.2 hin
          simp only [stKey] at hsw
          have nx := nxt3 H4 (hsh4.iff fun c => by
            constructor
            · rintro (h | ⟨h1, l, hl, h2⟩)
              · exact .inl h
              · rcases List.mem_append.1 hl with hl | hl
                · exact .inr ⟨h1, l, hl, h2⟩
                · rw [List.mem_singleton.1 hl] at h2; exact absurd h2 hin
            · rintro (h | ⟨h1, l, hl, h2⟩)
              · exact .inl h
              · exact .inr ⟨h1, l, List.mem_append_left _ hl, h2⟩)
          clear nxt3
          repeat' (first | simp -implicitDefEqProofs only [go_sem, Nat.reduceEqDiff, Nat.reduceAdd, Nat.reduceMul, Nat.reduceLeDiff, Nat.reduceSub, Nat.reduceLT, Nat.reduceBEq, Int.reduceToNat, reduceCtorEq, ↓reduceIte, Int.reduceEq, Int.reduceNeg, Int.reduceLT, Int.reduceLE, Int.reduceAdd, Int.reduceSub, Int.reduceMul] | simp -implicitDefEqProofs (disch := omega) only [hlj, hrd1, hrd2, hH4, lkres, hsw, Option.getD_none, iaq_vec, iao_arr, iaq_raw, rd_map, wrap_id, binq_quo, binq_rem, binq_shl, binq_shr, tdiv_pos, tmod_pos, if_pos, exV_some, Option.map_some] | ((first | with_reducible apply exIf_dec | ((with_reducible apply exGd_dec); focus exact rfl) | ((with_reducible apply exGq_dec); focus exact rfl) | with_reducible apply exIf_intro | ((with_reducible apply exGd_intro); focus exact rfl) | ((with_reducible apply exGq_intro); focus exact rfl)) <;> intro _))
          all_goals first | exact nx | (exfalso; omega) | skip
          done
      · obtain rfl : j = lds.length := by omega
        clear ih
        rw [Int.toNat_natCast, List.take_length] at hsh4
        have nx := nxt2 H4 (hsh4.iff fun c => by
          rw [hP0]
          dsimp only
          rw [List.mem_append, List.mem_singleton, hlds]
          constructor
          · rintro ⟨h1 | h1, h2⟩
            · exact .inl ⟨h1, h2⟩
            · exact .inr ⟨h1, h1 ▸ h2⟩
          · rintro (⟨h1, h2⟩ | ⟨h1, h2⟩)
            · exact ⟨.inl h1, h2⟩
            · exact ⟨.inr h1, h1 ▸ h2⟩)
        clear nxt2
        repeat' (first | simp -implicitDefEqProofs only [go_sem, Nat.reduceEqDiff, Nat.reduceAdd, Nat.reduceMul, Nat.reduceLeDiff, Nat.reduceSub, Nat.reduceLT, Nat.reduceBEq, Int.reduceToNat, reduceCtorEq, ↓reduceIte, Int.reduceEq, Int.reduceNeg, Int.reduceLT, Int.reduceLE, Int.reduceAdd, Int.reduceSub, Int.reduceMul] | simp -implicitDefEqProofs (disch := omega) only [iaq_vec, iao_arr, iaq_raw, rd_map, wrap_id, binq_quo, binq_rem, binq_shl, binq_shr, tdiv_pos, tmod_pos, if_pos, exV_some, Option.map_some] | ((first | with_reducible apply exIf_dec | ((with_reducible apply exGd_dec); focus exact rfl) | ((with_reducible apply exGq_dec); focus exact rfl) | with_reducible apply exIf_intro | ((with_reducible apply exGd_intro); focus exact rfl) | ((with_reducible apply exGq_intro); focus exact rfl)) <;> intro _))
        all_goals first | exact nx | (exfalso; omega) | skip
        done
    · obtain rfl : i = A.length := by omega
      clear ih
      rw [Int.toNat_natCast, List.take_length] at hsh2
      have nx := nxt H2 (hsh2.iff fun c => by
        rw [Lf, show (R.length : Int) - 2 - (k : Int) = n by omega, ← hA])
      clear nxt
      repeat' (first | simp -implicitDefEqProofs only [go_sem, Nat.reduceEqDiff, Nat.reduceAdd, Nat.reduceMul, Nat.reduceLeDiff, Nat.reduceSub, Nat.reduceLT, Nat.reduceBEq, Int.reduceToNat, reduceCtorEq, ↓reduceIte, Int.reduceEq, Int.reduceNeg, Int.reduceLT, Int.reduceLE, Int.reduceAdd, Int.reduceSub, Int.reduceMul] | simp -implicitDefEqProofs (disch := omega) only [iaq_vec, iao_arr, iaq_raw, rd_map, wrap_id, binq_quo, binq_rem, binq_shl, binq_shr, tdiv_pos, tmod_pos, if_pos, exV_some, Option.map_some] | ((first | with_reducible apply exIf_dec | ((with_reducible apply exGd_dec); focus exact rfl) | ((with_reducible apply exGq_dec); focus exact rfl) | with_reducible apply exIf_intro | ((with_reducible apply exGd_intro); focus exact rfl) | ((with_reducible apply exGq_intro); focus exact rfl)) <;> intro _))
      all_goals first | exact nx | (exfalso; omega) | skip
      done
  · obtain rfl : n = -1 := by omega
    clear ih
    repeat' (first | simp -implicitDefEqProofs only [go_sem, Nat.reduceEqDiff, Nat.reduceAdd, Nat.reduceMul, Nat.reduceLeDiff, Nat.reduceSub, Nat.reduceLT, Nat.reduceBEq, Int.reduceToNat, reduceCtorEq, ↓reduceIte, Int.reduceEq, Int.reduceNeg, Int.reduceLT, Int.reduceLE, Int.reduceAdd, Int.reduceSub, Int.reduceMul] | simp -implicitDefEqProofs (disch := omega) only [iaq_vec, iao_arr, iaq_raw, rd_map, wrap_id, binq_quo, binq_rem, binq_shl, binq_shr, tdiv_pos, tmod_pos, if_pos, exV_some, Option.map_some] | ((first | with_reducible apply exIf_dec | ((with_reducible apply exGd_dec); focus exact rfl) | ((with_reducible apply exGq_dec); focus exact rfl) | with_reducible apply exIf_intro | ((with_reducible apply exGd_intro); focus exact rfl) | ((with_reducible apply exGq_intro); focus exact rfl)) <;> intro _))
    all_goals first | exact ⟨hbase, ⟨es1, hm1, hes1⟩, bs, rfl, hok⟩ | (exfalso; omega) | skip
    done
end Go.Proofs.Ytejmcijcdhoogaa
end

section
/- The shortest lists, in plain Lean. -/
namespace Go.Proofs.Ytejmcijcdhoogaa
open Go Abs
attribute [local irreducible] EX exL exG exC exCq exS exV exIf exGd exGq
set_option maxHeartbeats 1000000
theorem leastN {p : Nat → Prop} (h : ∃ n, p n) : ∃ n, p n ∧ ∀ m, p m → n ≤ m := by
  obtain ⟨n, hn⟩ := h
  induction n using Nat.strongRecOn with
  | _ n ih =>
    by_cases hm : ∃ m < n, p m
    · obtain ⟨m, h1, h2⟩ := hm
      exact ih m h1 h2
    · exact ⟨n, hn, fun m h => Nat.le_of_not_lt fun h' => hm ⟨m, h', h⟩⟩
section
variable (g : Graph) (w : Want) (down : List Bool)
/-- just so many segments lead to a state -/
def Ch : Nat → St → Prop
  | 0, c => c = startW w
  | k + 1, c => ∃ a, Ch k a ∧ c ∈ tosL g w down a
/-- just so many segments lead from a state to the goal -/
def Tg : Nat → St → Prop
  | 0, a => a = goalW w
  | k + 1, a => ∃ l ∈ leadsL g w down a, Tg k l.to
noncomputable instance (k : Nat) (a : St) : Decidable (Tg g w down k a) := Classical.propDecidable _
/-- the first of the lists of so many segments -/
noncomputable def lst : Nat → St → List Sg
  | 0, _ => []
  | k + 1, a => match (leadsL g w down a).find? fun l => decide (Tg g w down k l.to) with
    | some l => l.s :: lst k l.to
    | none => []
noncomputable instance (n : Nat) : Decidable (∃ k, k ≤ n ∧ Tg g w down k (startW w)) := Classical.propDecidable _
/-- how many segments the shortest list has -/
noncomputable def few (h : ∃ k, Tg g w down k (startW w)) : Nat := (leastN h).choose
def cut10 (depth : Int) : Nat := (max 0 (min depth 10)).toNat
noncomputable def compW (depth : Int) : List Sg × Int :=
  if optErr g w down ≠ 0 then ([], optErr g w down)
  else if h : ∃ k, k ≤ cut10 depth ∧ Tg g w down k (startW w) then (lst g w down (few g w down ⟨h.choose, h.choose_spec.2⟩) (startW w), 0)
  else ([], 9)
end
section
variable {g : Graph} {w : Want} {down : List Bool}
theorem few_spec (h : ∃ k, Tg g w down k (startW w)) : Tg g w down (few g w down h) (startW w) := by
  exact (leastN h).choose_spec.1
theorem few_least (h : ∃ k, Tg g w down k (startW w)) {m : Nat} (hm : Tg g w down m (startW w)) : few g w down h ≤ m := by
  exact (leastN h).choose_spec.2 _ hm
theorem few_eq {n : Nat} (hn : Tg g w down n (startW w)) (hl : ∀ m, Tg g w down m (startW w) → n ≤ m) (h : ∃ k, Tg g w down k (startW w)) : few g w down h = n :=
  Nat.le_antisymm (few_least h hn) (hl _ (few_spec h))
theorem mem_tos {a c : St} : c ∈ tosL g w down a ↔ ∃ l ∈ leadsL g w down a, l.to = c := by
  rw [tosL, List.mem_map]
theorem ch_tg {c : St} : ∀ {m k : Nat}, Ch g w down m c → Tg g w down k c → Tg g w down (m + k) (startW w)
  | 0, k, h, h2 => by rw [Ch] at h; rw [← h, Nat.zero_add]; exact h2
  | m + 1, k, h, h2 => by
    obtain ⟨a, h1, h3⟩ := h
    obtain ⟨l, hl, rfl⟩ := mem_tos.1 h3
    have := ch_tg h1 (k := k + 1) ⟨l, hl, h2⟩
    rwa [show m + 1 + k = m + (k + 1) by omega]
theorem tg_ch {a : St} : ∀ {m k : Nat}, Ch g w down m a → Tg g w down k a → Ch g w down (m + k) (goalW w)
  | m, 0, h, h2 => by rw [Tg] at h2; rw [← h2]; exact h
  | m, k + 1, h, h2 => by
    obtain ⟨l, hl, h3⟩ := h2
    have := tg_ch (m := m + 1) (k := k) ⟨a, h, mem_tos.2 ⟨l, hl, rfl⟩⟩ h3
    rwa [show m + (k + 1) = m + 1 + k by omega]
theorem ch_goal {n : Nat} : Ch g w down n (goalW w) ↔ Tg g w down n (startW w) :=
  ⟨fun h => by simpa using ch_tg (k := 0) h rfl, fun h => by simpa using tg_ch (m := 0) rfl h⟩
theorem lst_length : ∀ {n : Nat} {a : St}, Tg g w down n a → (lst g w down n a).length = n
  | 0, _, _ => rfl
  | n + 1, a, h => by
    obtain ⟨l, hl, h2⟩ := h
    rw [lst]
    cases hf : (leadsL g w down a).find? fun l => decide (Tg g w down n l.to) with
    | none => exact absurd h2 (by simpa using List.find?_eq_none.1 hf l hl)
    | some l' =>
      have := List.find?_some hf
      rw [decide_eq_true_eq] at this
      dsimp only
      rw [List.length_cons, lst_length this]
theorem fold_mem {L : List St} {acc : List St × List St} {c : St} : (c ∈ (L.foldl addS acc).1 ↔ c ∈ acc.1 ∨ c ∈ L) ∧ (c ∈ (L.foldl addS acc).2 ↔ c ∈ acc.2 ∨ (c ∈ L ∧ c ∉ acc.1)) := by
  induction L generalizing acc with
  | nil => simp
  | cons x L ih =>
    rw [List.foldl_cons]
    obtain ⟨h1, h2⟩ := ih (acc := addS acc x)
    rw [h1, h2]
    unfold addS
    by_cases hx : x ∈ acc.1
    · rw [if_pos hx]
      constructor
      · constructor
        · rintro (h | h)
          · exact .inl h
          · exact .inr (List.mem_cons_of_mem _ h)
        · rintro (h | h)
          · exact .inl h
          · rcases List.mem_cons.1 h with rfl | h
            · exact .inl hx
            · exact .inr h
      · constructor
        · rintro (h | ⟨h, h'⟩)
          · exact .inl h
          · exact .inr ⟨List.mem_cons_of_mem _ h, h'⟩
        · rintro (h | ⟨h, h'⟩)
          · exact .inl h
          · rcases List.mem_cons.1 h with rfl | h
            · exact absurd hx h'
            · exact .inr ⟨h, h'⟩
    · rw [if_neg hx]
      dsimp only
      constructor
      · rw [List.mem_append, List.mem_singleton, List.mem_cons, or_assoc]
      · rw [List.mem_append, List.mem_singleton, List.mem_append, List.mem_singleton, List.mem_cons]
        constructor
        · rintro ((h | rfl) | ⟨h, h'⟩)
          · exact .inl h
          · exact .inr ⟨.inl rfl, hx⟩
          · exact .inr ⟨.inr h, fun hh => h' (.inl hh)⟩
        · rintro (h | ⟨rfl | h, h'⟩)
          · exact .inl (.inl h)
          · exact .inl (.inr rfl)
          · by_cases e : c = x
            · exact .inl (.inr e)
            · exact .inr ⟨h, fun hh => hh.elim h' e⟩
theorem rs_mem : ∀ n : Nat, (∀ c, c ∈ (rs g w down n).1 ↔ ∃ k ≤ n, Ch g w down k c) ∧ ∀ k : Nat, k ≤ n → ∀ c, c ∈ gi (rs g w down n).2 k ↔ (Ch g w down k c ∧ ∀ m < k, ¬ Ch g w down m c)
  | 0 => by
    refine ⟨fun c => ?_, fun k hk c => ?_⟩
    · rw [rs, List.mem_singleton]
      constructor
      · intro h
        exact ⟨0, Nat.le_refl _, h⟩
      · rintro ⟨k, hk, h⟩
        obtain rfl : k = 0 := by omega
        exact h
    · obtain rfl : k = 0 := by omega
      rw [rs]
      show c ∈ [startW w] ↔ _
      rw [List.mem_singleton]
      exact ⟨fun h => ⟨h, fun m hm => by omega⟩, fun h => h.1⟩
  | n + 1 => by
    obtain ⟨h1, h2⟩ := rs_mem n
    have hl := rs_length (g := g) (w := w) (down := down) n
    have hL : ∀ c, c ∈ (gi (rs g w down n).2 n).flatMap (tosL g w down) ↔ ∃ a, (Ch g w down n a ∧ ∀ m < n, ¬ Ch g w down m a) ∧ c ∈ tosL g w down a := by
      intro c
      rw [List.mem_flatMap]
      exact ⟨fun ⟨a, ha, hc⟩ => ⟨a, (h2 n (Nat.le_refl _) a).1 ha, hc⟩, fun ⟨a, ha, hc⟩ => ⟨a, (h2 n (Nat.le_refl _) a).2 ha, hc⟩⟩
    have hup : ∀ c, Ch g w down (n + 1) c → (∃ k ≤ n, Ch g w down k c) ∨ c ∈ (gi (rs g w down n).2 n).flatMap (tosL g w down) := by
      rintro c ⟨a, ha, hc⟩
      by_cases hm : ∃ m < n, Ch g w down m a
      · obtain ⟨m, hm, hma⟩ := hm
        exact .inl ⟨m + 1, by omega, a, hma, hc⟩
      · exact .inr ((hL c).2 ⟨a, ⟨ha, fun m hm' hh => hm ⟨m, hm', hh⟩⟩, hc⟩)
    refine ⟨fun c => ?_, fun k hk c => ?_⟩
    · rw [rs]
      show c ∈ (List.foldl addS _ _).1 ↔ _
      rw [fold_mem.1, h1 c]
      constructor
      · rintro (⟨k, hk, h⟩ | h)
        · exact ⟨k, by omega, h⟩
        · obtain ⟨a, ⟨ha, -⟩, hc⟩ := (hL c).1 h
          exact ⟨n + 1, Nat.le_refl _, a, ha, hc⟩
      · rintro ⟨k, hk, h⟩
        by_cases e : k = n + 1
        · subst e; exact hup c h
        · exact .inl ⟨k, by omega, h⟩
    · rw [rs]
      dsimp only
      by_cases e : k = n + 1
      · subst e
        have hg : gi ((rs g w down n).2 ++ [(roundN g w down (rs g w down n).1 (gi (rs g w down n).2 n)).2]) ((n + 1 : Nat) : Int) = (roundN g w down (rs g w down n).1 (gi (rs g w down n).2 n)).2 := by
          rw [gi_get (by rw [List.length_append, List.length_singleton, hl]; omega)]
          rw [List.getElem_append_right (by rw [hl]; omega)]
          simp [hl]
        rw [hg]
        show c ∈ (List.foldl addS _ _).2 ↔ _
        rw [fold_mem.2, h1 c]
        constructor
        · rintro (h | ⟨h, hn⟩)
          · cases h
          · obtain ⟨a, ⟨ha, -⟩, hc⟩ := (hL c).1 h
            exact ⟨⟨a, ha, hc⟩, fun m hm hh => hn ⟨m, by omega, hh⟩⟩
        · rintro ⟨h, hn⟩
          rcases hup c h with ⟨m, hm, hh⟩ | hh
          · exact absurd hh (hn m (by omega))
          · exact .inr ⟨hh, fun ⟨m, hm, hh⟩ => hn m (by omega) hh⟩
      · have hg : gi ((rs g w down n).2 ++ [(roundN g w down (rs g w down n).1 (gi (rs g w down n).2 n)).2]) (k : Int) = gi (rs g w down n).2 k := by
          rw [gi_get (by rw [List.length_append, List.length_singleton, hl]; omega), List.getElem_append_left (by rw [hl]; omega), ← gi_get (by rw [hl]; omega)]
        rw [hg]
        exact h2 k (by omega) c
/-- the program's maps tell which states lead on to the goal -/
theorem lf_tg {n : Nat} (hn : ∀ m < n, ¬ Ch g w down m (goalW w)) : ∀ {k : Nat} {c : St}, k ≤ n → Ch g w down (n - k) c → (Lf g w down (rs g w down n).2 k c ↔ Tg g w down k c)
  | 0, c, _, _ => Iff.rfl
  | k + 1, c, hk, hc => by
    have hl := rs_length (g := g) (w := w) (down := down) n
    rw [Lf, Tg]
    have nx : ∀ l ∈ leadsL g w down c, Ch g w down (n - k) l.to := fun l hl => by
      rw [show n - k = (n - (k + 1)) + 1 by omega]
      exact ⟨c, hc, mem_tos.2 ⟨l, hl, rfl⟩⟩
    constructor
    · rintro ⟨-, l, hl, h⟩
      exact ⟨l, hl, (lf_tg hn (by omega) (nx l hl)).1 h⟩
    · rintro ⟨l, hl', h⟩
      refine ⟨?_, l, hl', (lf_tg hn (by omega) (nx l hl')).2 h⟩
      rw [show ((rs g w down n).2.length : Int) - 2 - (k : Int) = ((n - (k + 1) : Nat) : Int) by rw [hl]; omega]
      refine ((rs_mem n).2 _ (by omega) c).2 ⟨hc, fun m hm hh => ?_⟩
      have := tg_ch hh (k := k + 1) ⟨l, hl', h⟩
      exact hn _ (by omega) this
theorem compW_ok (h0 : optErr g w down = 0) {depth : Int} {n : Nat} (hn : n ≤ cut10 depth) (ht : Tg g w down n (startW w)) (hl : ∀ m, Tg g w down m (startW w) → n ≤ m) : compW g w down depth = (lst g w down n (startW w), 0) := by
  have h : ∃ k, k ≤ cut10 depth ∧ Tg g w down k (startW w) := ⟨n, hn, ht⟩
  rw [compW, if_neg (fun hh => hh h0), dif_pos h, few_eq ht hl]
theorem compW_deep (h0 : optErr g w down = 0) {depth : Int} (hn : ∀ k, k ≤ cut10 depth → ¬ Tg g w down k (startW w)) : compW g w down depth = ([], 9) := by
  rw [compW, if_neg (fun hh => hh h0), dif_neg fun ⟨k, hk, h⟩ => hn k hk h]
end
end Go.Proofs.Ytejmcijcdhoogaa
end

section
/- The program finds the first of the shortest lists. -/
namespace Go.Proofs.Ytejmcijcdhoogaa
open Go Abs
attribute [local irreducible] EX exL exG exC exCq exS exV exIf exGd exGq
set_option maxHeartbeats 4000000
noncomputable def compAV (g : Graph) (w : Want) (down : List Bool) (depth : Int) : AV := .tup [.vec (compW g w down depth).1.isEmpty (rows (compW g w down depth).1) (compW g w down depth).1.length, iv (compW g w down depth).2]
theorem lst_find {g : Graph} {w : Want} {down : List Bool} {m : Nat} {a : St} {j : Int} (j0 : 0 ≤ j) (j1 : j < (leadsL g w down a).length) (hn : ∀ l ∈ (leadsL g w down a).take j.toNat, ¬ Tg g w down m l.to) (h : Tg g w down m (gi (leadsL g w down a) j).to) :
    lst g w down (m + 1) a = (gi (leadsL g w down a) j).s :: lst g w down m (gi (leadsL g w down a) j).to := by
  have : (leadsL g w down a).find? (fun l => decide (Tg g w down m l.to)) = some (gi (leadsL g w down a) j) := by
    rw [List.find?_eq_some_iff_append]
    refine ⟨by simpa using h, (leadsL g w down a).take j.toNat, (leadsL g w down a).drop (j + 1).toNat, ?_, fun l hl => by simpa using hn l hl⟩
    rw [← drop_gi j0 j1, List.take_append_drop]
  rw [lst, this]
theorem compile_c (g : Graph) (hb : g.links.length * 32 ≤ 140737488351232) (hn : g.nl = true → g.links = []) (w : Want) (hw : w.ok) (nl : Bool) (down : List Bool) (depth : Int) (H : AHeap) :
    APure Try.prog 20 [tab g, w.av, blv nl down, iv depth] H (compAV g w down depth) := by
  intro Q h
  suffices key : ACalls Try.prog 20 [tab g, w.av, blv nl down, iv depth] H fun r H' => (∀ b o, H b = some o → H' b = some o) ∧ r = compAV g w down depth by
    refine ACalls.relax (key.mono ?_)
    rintro r H' ⟨h1, rfl⟩
    exact ⟨fun _ => False, H, _, h1, by simp, Fz.refl _ _ _, h⟩
  have c1 := fun H => enew_c g hb hn w hw nl down H
  have c2 := fun H => start_c w hw H
  have c3 := fun H => goal_c w hw H
  refine ACalls.of_code fn_compile_List ?_
  by_cases h0 : optErr g w down = 0
  · rw [if_pos h0] at c1
    obtain ⟨d, hd⟩ : ∃ d : Nat, d = cut10 depth := ⟨_, rfl⟩
    simp only [tab, tabCells, Want.av, blv, sl, mapAV] at c1 c2 c3
    simp -implicitDefEqProofs only [sc_compile_List, tab, tabCells, Want.av, blv, sl, go_sem, Nat.reduceEqDiff, Nat.reduceAdd, Nat.reduceMul, Nat.reduceLeDiff, Nat.reduceSub, Nat.reduceLT, Nat.reduceBEq, Int.reduceToNat, reduceCtorEq, ↓reduceIte, Int.reduceEq, Int.reduceNeg, Int.reduceLT, Int.reduceLE, Int.reduceAdd, Int.reduceSub, Int.reduceMul]
    repeat' (first | simp -implicitDefEqProofs only [go_sem, Nat.reduceEqDiff, Nat.reduceAdd, Nat.reduceMul, Nat.reduceLeDiff, Nat.reduceSub, Nat.reduceLT, Nat.reduceBEq, Int.reduceToNat, reduceCtorEq, ↓reduceIte, Int.reduceEq, Int.reduceNeg, Int.reduceLT, Int.reduceLE, Int.reduceAdd, Int.reduceSub, Int.reduceMul] | simp -implicitDefEqProofs (disch := omega) only [iaq_vec, iao_arr, iaq_raw, rd_map, wrap_id, binq_quo, binq_rem, binq_shl, binq_shr, tdiv_pos, tmod_pos, if_pos, exV_some, Option.map_some] | ((first | with_reducible apply exIf_dec | ((with_reducible apply exGd_dec); focus exact rfl) | ((with_reducible apply exGq_dec); focus exact rfl) | with_reducible apply exIf_intro | ((with_reducible apply exGd_intro); focus exact rfl) | ((with_reducible apply exGq_intro); focus exact rfl)) <;> intro _) | with_reducible refine exC_pure (c1 _) ?_ | with_reducible refine exCq_pure (c1 _) ?_ | with_reducible refine exC_pure (c2 _) ?_ | with_reducible refine exCq_pure (c2 _) ?_ | with_reducible refine exC_pure (c3 _) ?_ | with_reducible refine exCq_pure (c3 _) ?_)
    all_goals first | (exfalso; omega) | skip
    intro mb hmb
    have hmb : H mb = none := hmb
    repeat' (first | simp -implicitDefEqProofs only [go_sem, Nat.reduceEqDiff, Nat.reduceAdd, Nat.reduceMul, Nat.reduceLeDiff, Nat.reduceSub, Nat.reduceLT, Nat.reduceBEq, Int.reduceToNat, reduceCtorEq, ↓reduceIte, Int.reduceEq, Int.reduceNeg, Int.reduceLT, Int.reduceLE, Int.reduceAdd, Int.reduceSub, Int.reduceMul] | simp -implicitDefEqProofs (disch := omega) only [iaq_vec, iao_arr, iaq_raw, rd_map, wrap_id, binq_quo, binq_rem, binq_shl, binq_shr, tdiv_pos, tmod_pos, if_pos, exV_some, Option.map_some] | ((first | with_reducible apply exIf_dec | ((with_reducible apply exGd_dec); focus exact rfl) | ((with_reducible apply exGq_dec); focus exact rfl) | with_reducible apply exIf_intro | ((with_reducible apply exGd_intro); focus exact rfl) | ((with_reducible apply exGq_intro); focus exact rfl)) <;> intro _) | with_reducible refine exC_pure (c2 _) ?_ | with_reducible refine exCq_pure (c2 _) ?_)
    all_goals first | (exfalso; omega) | skip
    have hdd : (if 0 < (if 10 < depth then 10 else depth) then (if 10 < depth then 10 else depth) else 0 : Int) = (d : Int) := by
      rw [hd, cut10]; split <;> (try split) <;> omega
    have hd10 : d ≤ 10 := by rw [hd, cut10]; omega
    rw [hdd]
    have wf := wfit_of (optErr_right h0)
    have hf := wf.fit
    have fn := hf.n2
    have fw := wf.few
    have hsr : rngS g (startW w) := by
      have := come_le (l := pts w) (node := w.src) (n := 0) (by omega) (by rw [pts_length]; omega)
      rw [pts_length] at this
      exact ⟨wf.src, by dsimp only [startW]; omega, by dsimp only [startW]; omega⟩
    have rc := rounds_c g w down h0 mb d ⟨by omega, by omega⟩ [] (fun k v hh => by simp [mget] at hh) (upd H mb (some (.map (.a 2 .i64) []))) (upd_self _ _ _) hsr
    have base0 : ∀ (es : List (MK × AV)) b o, H b = some o → upd (upd H mb (some (.map (.a 2 .i64) []))) mb (some (.map (.a 2 .i64) es)) b = some o := fun es b o ho => by
      have : mb ≠ b := by rintro rfl; rw [hmb] at ho; cases ho
      rw [upd_ne _ _ this, upd_ne _ _ this]; exact ho
    simp only [xAV, stateAV, startW, mapAV, tab, tabCells] at rc
    refine exC_intro rc ?_
    rintro r H1 ⟨⟨es, rfl, hes⟩, ⟨n, n1, hgo, hno, rfl⟩ | ⟨hno, rfl⟩⟩
    · have hch : ∀ m < n, ¬ Ch g w down m (goalW w) := fun m hm hh => hno m hm (((rs_mem m).1 _).2 ⟨m, Nat.le_refl _, hh⟩)
      obtain ⟨k, hk, hkg⟩ := ((rs_mem n).1 _).1 hgo
      obtain rfl : k = n := by
        by_cases e : k = n
        · exact e
        · exact absurd hkg (hch k (by omega))
      clear hk hgo hno
      have htg := ch_goal.1 hkg
      have hw : compAV g w down depth = .tup [.vec (lst g w down k (startW w)).isEmpty (rows (lst g w down k (startW w))) (lst g w down k (startW w)).length, iv 0] := by
        rw [compAV, compW_ok h0 (n := k) (by omega) htg fun m hm => Nat.le_of_not_lt fun hlt => hch m hlt (ch_goal.2 hm)]
      rw [hw]
      have hRl := rs_length (g := g) (w := w) (down := down) k
      have hR2 := (rs_ok (down := down) wf hsr k).2
      obtain ⟨R, hR⟩ : ∃ R, R = (rs g w down k).2 := ⟨_, rfl⟩
      have hlf : ∀ {j : Nat} {c : St}, j ≤ k → Ch g w down (k - j) c → (Lf g w down R j c ↔ Tg g w down j c) := fun h1 h2 => by rw [hR]; exact lf_tg hch h1 h2
      rw [← hR] at hRl hR2 ⊢
      have lc := left_c g w down h0 mb R ⟨by omega, by omega⟩ (fun l hl => (hR2 l hl).2) es hes (upd (upd H mb (some (.map (.a 2 .i64) []))) mb (some (.map (.a 2 .i64) es))) (upd_self _ _ _)
      simp only [xAV, mapAV, tab, tabCells] at lc
      repeat' (first | simp -implicitDefEqProofs only [go_sem, Nat.reduceEqDiff, Nat.reduceAdd, Nat.reduceMul, Nat.reduceLeDiff, Nat.reduceSub, Nat.reduceLT, Nat.reduceBEq, Int.reduceToNat, reduceCtorEq, ↓reduceIte, Int.reduceEq, Int.reduceNeg, Int.reduceLT, Int.reduceLE, Int.reduceAdd, Int.reduceSub, Int.reduceMul] | simp -implicitDefEqProofs (disch := omega) only [iaq_vec, iao_arr, iaq_raw, rd_map, wrap_id, binq_quo, binq_rem, binq_shl, binq_shr, tdiv_pos, tmod_pos, if_pos, exV_some, Option.map_some] | ((first | with_reducible apply exIf_dec | ((with_reducible apply exGd_dec); focus exact rfl) | ((with_reducible apply exGq_dec); focus exact rfl) | with_reducible apply exIf_intro | ((with_reducible apply exGd_intro); focus exact rfl) | ((with_reducible apply exGq_intro); focus exact rfl)) <;> intro _))
      all_goals first | (exfalso; omega) | skip
      refine exC_intro lc ?_
      rintro r H2 ⟨hb2, ⟨es2, hm2, hes2⟩, bs, rfl, hbl, hbs⟩
      have hbase : ∀ b o, H b = some o → H2 b = some o := fun b o ho => hb2 b o (base0 es b o ho) (by rintro rfl; rw [hmb] at ho; cases ho)
      simp -implicitDefEqProofs only [go_sem, Nat.reduceEqDiff, Nat.reduceAdd, Nat.reduceMul, Nat.reduceLeDiff, Nat.reduceSub, Nat.reduceLT, Nat.reduceBEq, Int.reduceToNat, reduceCtorEq, ↓reduceIte, Int.reduceEq, Int.reduceNeg, Int.reduceLT, Int.reduceLE, Int.reduceAdd, Int.reduceSub, Int.reduceMul]
      repeat' (first | simp -implicitDefEqProofs only [go_sem, Nat.reduceEqDiff, Nat.reduceAdd, Nat.reduceMul, Nat.reduceLeDiff, Nat.reduceSub, Nat.reduceLT, Nat.reduceBEq, Int.reduceToNat, reduceCtorEq, ↓reduceIte, Int.reduceEq, Int.reduceNeg, Int.reduceLT, Int.reduceLE, Int.reduceAdd, Int.reduceSub, Int.reduceMul] | simp -implicitDefEqProofs (disch := omega) only [iaq_vec, iao_arr, iaq_raw, rd_map, wrap_id, binq_quo, binq_rem, binq_shl, binq_shr, tdiv_pos, tmod_pos, if_pos, exV_some, Option.map_some] | ((first | with_reducible apply exIf_dec | ((with_reducible apply exGd_dec); focus exact rfl) | ((with_reducible apply exGq_dec); focus exact rfl) | with_reducible apply exIf_intro | ((with_reducible apply exGd_intro); focus exact rfl) | ((with_reducible apply exGq_intro); focus exact rfl)) <;> intro _))
      all_goals first | (exfalso; omega) | skip
      obtain ⟨t, htd⟩ : ∃ t, t = bs.drop 1 := ⟨_, rfl⟩
      have htl : t.length = k := by rw [htd, List.length_drop]; omega
      have ht : ∀ i : Int, 0 ≤ i → i < k → ∃ b es, gi t i = some b ∧ b ≠ mb ∧ H2 b = some (.map (.a 2 .i64) es) ∧ Says es (Lf g w down R (k - 1 - i.toNat)) := fun i i0 i1 => by
        obtain ⟨b, es, q1, q2, q3, q4⟩ := hbs (i + 1) (by omega) (by omega) (by omega)
        refine ⟨b, es, ?_, q2, q3, ?_⟩
        · rw [← q1, htd, gi_get (by rw [List.length_drop]; omega), gi_get (by omega), List.getElem_drop]
          congr 1
          omega
        · rw [show k - 1 - i.toNat = ((R.length : Int) - 1 - (i + 1)).toNat by omega]; exact q4
      rw [show ((R.length : Int)).toNat - 1 = k by omega, Nat.mul_one, ← List.map_drop, ← htd, List.take_of_length_le (by rw [List.length_map, htl]; exact Nat.le_refl _)]
      refine exL_modH (fun a : Int × St × List Sg × AHeap => [(17, .own 77), (57, .v (iv a.1))]) (fun a => [(13, .cells [iv a.2.1.1, iv a.2.1.2] 82), (77, .arr a.2.2.1.isEmpty (rows a.2.2.1) a.2.2.1.length 50 2)]) (fun a => a.2.2.2) (fun a => (0 ≤ a.1 ∧ a.1 ≤ k) ∧ (a.2.2.1.length : Int) = a.1 ∧ a.2.2.1 ++ lst g w down (k - a.1.toNat) a.2.1 = lst g w down k (startW w) ∧ Tg g w down (k - a.1.toNat) a.2.1 ∧ Ch g w down a.1.toNat a.2.1 ∧ (∀ b o, H2 b = some o → b ≠ mb → a.2.2.2 b = some o) ∧ ∃ es', a.2.2.2 mb = some (.map (.a 2 .i64) es') ∧ LeadsOK g w down es') (fun a => (k - a.1).toNat) (0, startW w, [], H2) rfl ⟨⟨by simp, by dsimp only; omega⟩, rfl, rfl, htg, rfl, fun b o ho _ => ho, es2, hm2, hes2⟩ ?_
      rintro ⟨i, a, o, H3⟩ ⟨⟨i0, i1⟩, ho, hlst, htga, hcha, hb3, ⟨es3, hm3, hes3⟩⟩ ih
      dsimp only at i0 i1 ho hlst htga hcha hb3 hm3 ih
      simp only [S.up, S.upH, ups, Abs.put, Nat.reduceEqDiff, ↓reduceIte, Nat.reduceAdd] at ih
      simp -implicitDefEqProofs only [congrArg KI.code sc_compile_List_L1.eq_1, go_sem, Nat.reduceEqDiff, Nat.reduceAdd, Nat.reduceMul, Nat.reduceLeDiff, Nat.reduceSub, Nat.reduceLT, Nat.reduceBEq, Int.reduceToNat, reduceCtorEq, ↓reduceIte, Int.reduceEq, Int.reduceNeg, Int.reduceLT, Int.reduceLE, Int.reduceAdd, Int.reduceSub, Int.reduceMul]
      by_cases hi : i < k
      · obtain ⟨b, esb, hgb, hbm, hHb, hsb⟩ := ht i i0 hi
        have hrd : rdV (t.map mvv) (i.toNat * 1) 1 false = some (.raw (.map (some b))) := by rw [rd_map i0 (by omega), hgb]; rfl
        have cf := cfrom_c g w down h0 mb a es3 hes3 H3 hm3
        simp only [xAV, mapAV, tab, tabCells, stateAV, leadsAV] at cf
        repeat' (first | simp -implicitDefEqProofs only [go_sem, Nat.reduceEqDiff, Nat.reduceAdd, Nat.reduceMul, Nat.reduceLeDiff, Nat.reduceSub, Nat.reduceLT, Nat.reduceBEq, Int.reduceToNat, reduceCtorEq, ↓reduceIte, Int.reduceEq, Int.reduceNeg, Int.reduceLT, Int.reduceLE, Int.reduceAdd, Int.reduceSub, Int.reduceMul] | simp -implicitDefEqProofs (disch := omega) only [hrd, iaq_vec, iao_arr, iaq_raw, rd_map, wrap_id, binq_quo, binq_rem, binq_shl, binq_shr, tdiv_pos, tmod_pos, if_pos, exV_some, Option.map_some] | ((first | with_reducible apply exIf_dec | ((with_reducible apply exGd_dec); focus exact rfl) | ((with_reducible apply exGq_dec); focus exact rfl) | with_reducible apply exIf_intro | ((with_reducible apply exGd_intro); focus exact rfl) | ((with_reducible apply exGq_intro); focus exact rfl)) <;> intro _))
        all_goals first | (exfalso; omega) | skip
        obtain ⟨m, hm⟩ : ∃ m, m + 1 = k - i.toNat := ⟨k - i.toNat - 1, by omega⟩
        rw [← hm] at hlst htga
        rw [show k - 1 - i.toNat = m by omega] at hsb
        have hlfa : ∀ l ∈ leadsL g w down a, (Lf g w down R m l.to ↔ Tg g w down m l.to) := fun l hl => hlf (by omega) (by
          rw [show k - m = i.toNat + 1 by omega]
          exact ⟨a, hcha, mem_tos.2 ⟨l, hl, rfl⟩⟩)
        have hfd := fun (j : Int) (j0 : 0 ≤ j) (j1 : j < (leadsL g w down a).length) => lst_find (g := g) (w := w) (down := down) (m := m) (a := a) j0 j1
        have hchn : ∀ l ∈ leadsL g w down a, Ch g w down (i + 1).toNat l.to := fun l hl => by
          rw [show (i + 1).toNat = i.toNat + 1 by omega]
          exact ⟨a, hcha, mem_tos.2 ⟨l, hl, rfl⟩⟩
        have hll := leads_length g w down a
        have hfw := hf.few
        have hle := hf.n2
        refine exC_intro cf ?_
        rintro _ H4 ⟨rfl, es4, rfl, hes4⟩
        rw [Tg] at htga
        obtain ⟨lds, hlds⟩ : ∃ l, l = leadsL g w down a := ⟨_, rfl⟩
        rw [← hlds] at hll hlfa hfd htga hchn ⊢
        clear cf hlds
        have hHb' : upd H3 mb (some (.map (.a 2 .i64) es4)) b = some (.map (.a 2 .i64) esb) := by rw [upd_ne _ _ (Ne.symm hbm)]; exact hb3 b _ hHb hbm
        have nxt := fun (a' : St) (o' : List Sg) (h1 : (o'.length : Int) = i + 1) (h2 : o' ++ lst g w down m a' = lst g w down k (startW w)) (h3 : Tg g w down m a') (h4 : Ch g w down (i + 1).toNat a') => ih (i + 1, a', o', upd H3 mb (some (.map (.a 2 .i64) es4))) ⟨⟨by dsimp only; omega, by dsimp only; omega⟩, h1, by rw [show k - (i + 1).toNat = m by omega]; exact h2, by rw [show k - (i + 1).toNat = m by omega]; exact h3, h4, fun b o ho hb => by dsimp only; rw [upd_ne _ _ (Ne.symm hb)]; exact hb3 b o ho hb, es4, upd_self _ _ _, hes4⟩ (by dsimp only; omega)
        dsimp only at nxt
        clear ih
        simp -implicitDefEqProofs only [go_sem, Nat.reduceEqDiff, Nat.reduceAdd, Nat.reduceMul, Nat.reduceLeDiff, Nat.reduceSub, Nat.reduceLT, Nat.reduceBEq, Int.reduceToNat, reduceCtorEq, ↓reduceIte, Int.reduceEq, Int.reduceNeg, Int.reduceLT, Int.reduceLE, Int.reduceAdd, Int.reduceSub, Int.reduceMul]
        repeat' (first | simp -implicitDefEqProofs only [go_sem, Nat.reduceEqDiff, Nat.reduceAdd, Nat.reduceMul, Nat.reduceLeDiff, Nat.reduceSub, Nat.reduceLT, Nat.reduceBEq, Int.reduceToNat, reduceCtorEq, ↓reduceIte, Int.reduceEq, Int.reduceNeg, Int.reduceLT, Int.reduceLE, Int.reduceAdd, Int.reduceSub, Int.reduceMul] | simp -implicitDefEqProofs (disch := omega) only [iaq_vec, iao_arr, iaq_raw, rd_map, wrap_id, binq_quo, binq_rem, binq_shl, binq_shr, tdiv_pos, tmod_pos, if_pos, exV_some, Option.map_some] | ((first | with_reducible apply exIf_dec | ((with_reducible apply exGd_dec); focus exact rfl) | ((with_reducible apply exGq_dec); focus exact rfl) | with_reducible apply exIf_intro | ((with_reducible apply exGd_intro); focus exact rfl) | ((with_reducible apply exGq_intro); focus exact rfl)) <;> intro _))
        all_goals first | (exfalso; omega) | skip
        refine exL_modH (fun a : Int => [(65, .v (iv a))]) (fun _ => []) (fun _ => upd H3 mb (some (.map (.a 2 .i64) es4))) (fun j => (0 ≤ j ∧ j ≤ lds.length) ∧ ∀ l ∈ lds.take j.toNat, ¬ Tg g w down m l.to) (fun j => (lds.length - j).toNat) 0 rfl ⟨⟨by omega, by omega⟩, by simp⟩ ?_
        rintro j ⟨⟨j0, j1⟩, hnot⟩ ih
        simp only [S.up, S.upH, ups, Abs.put, Nat.reduceEqDiff, ↓reduceIte, Nat.reduceAdd] at ih
        simp -implicitDefEqProofs only [congrArg KI.code sc_compile_List_L0.eq_1, go_sem, Nat.reduceEqDiff, Nat.reduceAdd, Nat.reduceMul, Nat.reduceLeDiff, Nat.reduceSub, Nat.reduceLT, Nat.reduceBEq, Int.reduceToNat, reduceCtorEq, ↓reduceIte, Int.reduceEq, Int.reduceNeg, Int.reduceLT, Int.reduceLE, Int.reduceAdd, Int.reduceSub, Int.reduceMul]
        by_cases hj : j < lds.length
        · have hlj := rd_ld (l := lds) j0 hj
          have hmem := gi_mem (l := lds) j0 hj
          have hsw := hsb (gi lds j).to
          have hlq := hlfa _ hmem
          by_cases hin : Tg g w down m (gi lds j).to
          · have hsw := hsw.1 (hlq.2 hin)
            simp only [stKey] at hsw
            have hst := hfd j j0 hj hnot hin
            rw [hst] at hlst
            have nx := nxt (gi lds j).to (o ++ [(gi lds j).s]) (by rw [List.length_append, List.length_singleton]; omega) (by rw [List.append_assoc]; exact hlst) hin (hchn _ hmem)
            clear ih nxt
            repeat' (first | simp -implicitDefEqProofs only [go_sem, Nat.reduceEqDiff, Nat.reduceAdd, Nat.reduceMul, Nat.reduceLeDiff, Nat.reduceSub, Nat.reduceLT, Nat.reduceBEq, Int.reduceToNat, reduceCtorEq, ↓reduceIte, Int.reduceEq, Int.reduceNeg, Int.reduceLT, Int.reduceLE, Int.reduceAdd, Int.reduceSub, Int.reduceMul] | simp -implicitDefEqProofs (disch := omega) only [hlj, hHb', lkres, hsw, Option.getD_some, iaq_vec, iao_arr, iaq_raw, rd_map, wrap_id, binq_quo, binq_rem, binq_shl, binq_shr, tdiv_pos, tmod_pos, if_pos, exV_some, Option.map_some] | ((first | with_reducible apply exIf_dec | ((with_reducible apply exGd_dec); focus exact rfl) | ((with_reducible apply exGq_dec); focus exact rfl) | with_reducible apply exIf_intro | ((with_reducible apply exGd_intro); focus exact rfl) | ((with_reducible apply exGq_intro); focus exact rfl)) <;> intro _))
            all_goals first | (exfalso; omega) | skip
            refine exS_rows (gi lds j).s rfl rfl rfl (by omega) (by simp only [maxLen]; omega) ?_
            repeat' (first | simp -implicitDefEqProofs only [go_sem, Nat.reduceEqDiff, Nat.reduceAdd, Nat.reduceMul, Nat.reduceLeDiff, Nat.reduceSub, Nat.reduceLT, Nat.reduceBEq, Int.reduceToNat, reduceCtorEq, ↓reduceIte, Int.reduceEq, Int.reduceNeg, Int.reduceLT, Int.reduceLE, Int.reduceAdd, Int.reduceSub, Int.reduceMul] | simp -implicitDefEqProofs (disch := omega) only [iaq_vec, iao_arr, iaq_raw, rd_map, wrap_id, binq_quo, binq_rem, binq_shl, binq_shr, tdiv_pos, tmod_pos, if_pos, exV_some, Option.map_some] | ((first | with_reducible apply exIf_dec | ((with_reducible apply exGd_dec); focus exact rfl) | ((with_reducible apply exGq_dec); focus exact rfl) | with_reducible apply exIf_intro | ((with_reducible apply exGd_intro); focus exact rfl) | ((with_reducible apply exGq_intro); focus exact rfl)) <;> intro _))
            all_goals first | exact nx | (exfalso; omega) | skip
            done
          · have hsw := hsw.2 fun hh => hin (hlq.1 hh)
            simp only [stKey] at hsw
            have nx := ih (j + 1) ⟨⟨by omega, by omega⟩, fun l hl => by
              rw [take_gi j0 hj] at hl
              rcases List.mem_append.1 hl with hl | hl
              · exact hnot l hl
              · rw [List.mem_singleton.1 hl]; exact hin⟩ (by omega)
            clear ih nxt
            repeat' (first | simp -implicitDefEqProofs only [go_sem, Nat.reduceEqDiff, Nat.reduceAdd, Nat.reduceMul, Nat.reduceLeDiff, Nat.reduceSub, Nat.reduceLT, Nat.reduceBEq, Int.reduceToNat, reduceCtorEq, ↓reduceIte, Int.reduceEq, Int.reduceNeg, Int.reduceLT, Int.reduceLE, Int.reduceAdd, Int.reduceSub, Int.reduceMul] | simp -implicitDefEqProofs (disch := omega) only [hlj, hHb', lkres, hsw, Option.getD_none, iaq_vec, iao_arr, iaq_raw, rd_map, wrap_id, binq_quo, binq_rem, binq_shl, binq_shr, tdiv_pos, tmod_pos, if_pos, exV_some, Option.map_some] | ((first | with_reducible apply exIf_dec | ((with_reducible apply exGd_dec); focus exact rfl) | ((with_reducible apply exGq_dec); focus exact rfl) | with_reducible apply exIf_intro | ((with_reducible apply exGd_intro); focus exact rfl) | ((with_reducible apply exGq_intro); focus exact rfl)) <;> intro _))
            all_goals first | exact nx | (exfalso; omega) | skip
            done
        · obtain ⟨l, hl, hl2⟩ := htga
          exfalso
          refine hnot l ?_ hl2
          rw [List.take_of_length_le (by omega)]
          exact hl
      · obtain rfl : i = k := by omega
        clear ih
        rw [Int.toNat_natCast, Nat.sub_self, lst, List.append_nil] at hlst
        rw [← hlst]
        have hfin : ∀ b o, H b = some o → H3 b = some o := fun b o ho => hb3 b o (hbase b o ho) (by rintro rfl; rw [hmb] at ho; cases ho)
        repeat' (first | simp -implicitDefEqProofs only [go_sem, Nat.reduceEqDiff, Nat.reduceAdd, Nat.reduceMul, Nat.reduceLeDiff, Nat.reduceSub, Nat.reduceLT, Nat.reduceBEq, Int.reduceToNat, reduceCtorEq, ↓reduceIte, Int.reduceEq, Int.reduceNeg, Int.reduceLT, Int.reduceLE, Int.reduceAdd, Int.reduceSub, Int.reduceMul] | simp -implicitDefEqProofs (disch := omega) only [iaq_vec, iao_arr, iaq_raw, rd_map, wrap_id, binq_quo, binq_rem, binq_shl, binq_shr, tdiv_pos, tmod_pos, if_pos, exV_some, Option.map_some] | ((first | with_reducible apply exIf_dec | ((with_reducible apply exGd_dec); focus exact rfl) | ((with_reducible apply exGq_dec); focus exact rfl) | with_reducible apply exIf_intro | ((with_reducible apply exGd_intro); focus exact rfl) | ((with_reducible apply exGq_intro); focus exact rfl)) <;> intro _))
        all_goals first | exact hfin | (exfalso; omega) | skip
        done
    · have hno' : ∀ j, j ≤ cut10 depth → ¬ Tg g w down j (startW w) := fun j hj hh => hno j (by omega) (((rs_mem j).1 _).2 ⟨j, Nat.le_refl _, ch_goal.2 hh⟩)
      have hw : compAV g w down depth = .tup [.vec true [] 0, iv 9] := by rw [compAV, compW_deep h0 hno']; rfl
      rw [hw]
      repeat' (first | simp -implicitDefEqProofs only [go_sem, Nat.reduceEqDiff, Nat.reduceAdd, Nat.reduceMul, Nat.reduceLeDiff, Nat.reduceSub, Nat.reduceLT, Nat.reduceBEq, Int.reduceToNat, reduceCtorEq, ↓reduceIte, Int.reduceEq, Int.reduceNeg, Int.reduceLT, Int.reduceLE, Int.reduceAdd, Int.reduceSub, Int.reduceMul] | simp -implicitDefEqProofs (disch := omega) only [iaq_vec, iao_arr, iaq_raw, rd_map, wrap_id, binq_quo, binq_rem, binq_shl, binq_shr, tdiv_pos, tmod_pos, if_pos, exV_some, Option.map_some] | ((first | with_reducible apply exIf_dec | ((with_reducible apply exGd_dec); focus exact rfl) | ((with_reducible apply exGq_dec); focus exact rfl) | with_reducible apply exIf_intro | ((with_reducible apply exGd_intro); focus exact rfl) | ((with_reducible apply exGq_intro); focus exact rfl)) <;> intro _))
      all_goals first | exact fun b o ho => base0 es b o ho | (exfalso; omega) | skip
      done
  · rw [if_neg h0] at c1
    have hr : compAV g w down depth = .tup [.vec true [] 0, iv (optErr g w down)] := by
      rw [compAV, compW, if_pos h0]; rfl
    rw [hr]
    simp only [tab, tabCells, Want.av, blv, sl] at c1 c2 c3
    simp -implicitDefEqProofs only [sc_compile_List, tab, tabCells, Want.av, blv, sl, go_sem, Nat.reduceEqDiff, Nat.reduceAdd, Nat.reduceMul, Nat.reduceLeDiff, Nat.reduceSub, Nat.reduceLT, Nat.reduceBEq, Int.reduceToNat, reduceCtorEq, ↓reduceIte, Int.reduceEq, Int.reduceNeg, Int.reduceLT, Int.reduceLE, Int.reduceAdd, Int.reduceSub, Int.reduceMul]
    repeat' (first | simp -implicitDefEqProofs only [go_sem, Nat.reduceEqDiff, Nat.reduceAdd, Nat.reduceMul, Nat.reduceLeDiff, Nat.reduceSub, Nat.reduceLT, Nat.reduceBEq, Int.reduceToNat, reduceCtorEq, ↓reduceIte, Int.reduceEq, Int.reduceNeg, Int.reduceLT, Int.reduceLE, Int.reduceAdd, Int.reduceSub, Int.reduceMul] | simp -implicitDefEqProofs (disch := omega) only [iaq_vec, iao_arr, iaq_raw, rd_map, wrap_id, binq_quo, binq_rem, binq_shl, binq_shr, tdiv_pos, tmod_pos, if_pos, exV_some, Option.map_some] | ((first | with_reducible apply exIf_dec | ((with_reducible apply exGd_dec); focus exact rfl) | ((with_reducible apply exGq_dec); focus exact rfl) | with_reducible apply exIf_intro | ((with_reducible apply exGd_intro); focus exact rfl) | ((with_reducible apply exGq_intro); focus exact rfl)) <;> intro _) | with_reducible refine exC_pure (c1 _) ?_ | with_reducible refine exCq_pure (c1 _) ?_ | with_reducible refine exC_pure (c2 _) ?_ | with_reducible refine exCq_pure (c2 _) ?_ | with_reducible refine exC_pure (c3 _) ?_ | with_reducible refine exCq_pure (c3 _) ?_)
    all_goals first | exact fun b o ho => ho | (exfalso; omega) | skip
    done
end Go.Proofs.Ytejmcijcdhoogaa
end

section
/- The laws CompileNone and CompileDeeper of chapter 17, as contracts. -/
namespace Go.Proofs.Ytejmcijcdhoogaa
open Go Abs
attribute [local irreducible] EX exL exG exC exCq exS exV exIf exGd exGq
set_option maxHeartbeats 4000000
theorem lst_seg {g : Graph} {w : Want} {down : List Bool} {m : Nat} {a c : St} {pre post : List Sg} {s : Sg} (h : segsA g = pre ++ s :: post) (hp : ∀ s' ∈ pre, ∀ c', segW g w down a s' = some c' → ¬ Tg g w down m c') (hs : segW g w down a s = some c) (hc : Tg g w down m c) :
    Tg g w down (m + 1) a ∧ lst g w down (m + 1) a = s :: lst g w down m c := by
  have hl : leadsL g w down a = pre.filterMap (ldO g w down a) ++ ⟨s, c⟩ :: post.filterMap (ldO g w down a) := by
    rw [leadsL, h, List.filterMap_append, List.filterMap_cons, show ldO g w down a s = some ⟨s, c⟩ by rw [ldO, hs]; rfl]
  have hf : (leadsL g w down a).find? (fun l => decide (Tg g w down m l.to)) = some ⟨s, c⟩ := by
    rw [List.find?_eq_some_iff_append]
    refine ⟨by simpa using hc, _, _, hl, fun l hl' => ?_⟩
    obtain ⟨s', hs', h2⟩ := List.mem_filterMap.1 hl'
    unfold ldO at h2
    obtain ⟨c', hc', rfl⟩ := Option.map_eq_some_iff.1 h2
    simpa using hp s' hs' c' hc'
  refine ⟨⟨⟨s, c⟩, by rw [hl]; simp, hc⟩, ?_⟩
  rw [lst, hf]
theorem tg_seg {g : Graph} {w : Want} {down : List Bool} {m : Nat} {a : St} (h : Tg g w down (m + 1) a) : ∃ s ∈ segsA g, ∃ c, segW g w down a s = some c ∧ Tg g w down m c := by
  obtain ⟨l, hl, h2⟩ := h
  unfold leadsL at hl
  obtain ⟨s, hs, h3⟩ := List.mem_filterMap.1 hl
  unfold ldO at h3
  obtain ⟨c, hc, rfl⟩ := Option.map_eq_some_iff.1 h3
  exact ⟨s, hs, c, hc, h2⟩
/-- one segment is -/
theorem comp_one {g : Graph} {w : Want} {down : List Bool} (h0 : optErr g w down = 0) (h : startW w ≠ goalW w) {depth : Int} (hd : 1 ≤ depth) {pre post : List Sg} {s : Sg} (hg : segsA g = pre ++ s :: post) (hp : ∀ s' ∈ pre, segW g w down (startW w) s' ≠ some (goalW w)) (hs : segW g w down (startW w) s = some (goalW w)) : compW g w down depth = ([s], 0) := by
  obtain ⟨h1, h2⟩ := lst_seg (m := 0) hg (fun s' hs' c' hc' hh => hp s' hs' (by rw [hc', show c' = goalW w from hh])) hs rfl
  rw [compW_ok h0 (n := 1) (by unfold cut10; omega) h1 fun m hm => ?_, h2, lst]
  cases m with
  | zero => exact absurd hm h
  | succ m => omega
noncomputable def tabs16 (g : Graph) : AV := if (check g).2 = 0 then .tup [tab g, refTab g, bv true] else .tup [.raw (.pointer none), .raw (.pointer none), bv false]
theorem tables16_c (g : Graph) (hb : g.links.length * 32 ≤ 140737488351232) (hn : g.nl = true → g.links = []) (H : AHeap) : APure Try.prog 19 [g.av] H (tabs16 g) := by
  intro Q h
  have c1 := fun H => new_c g hb hn H
  have c2 := fun H => newTables_ref_c g hb H
  refine ACalls.of_code fn_waymarklaw16_Tables ?_
  by_cases hc : (check g).2 = 0
  · rw [tabs16, if_pos hc] at h
    rw [if_pos hc] at c1 c2
    simp only [Graph.av, tab, refTab] at c1 c2 h
    simp -implicitDefEqProofs only [sc_waymarklaw16_Tables, Graph.av, go_sem, Nat.reduceEqDiff, Nat.reduceAdd, Nat.reduceMul, Nat.reduceLeDiff, Nat.reduceSub, Nat.reduceLT, Nat.reduceBEq, Int.reduceToNat, reduceCtorEq, ↓reduceIte, Int.reduceEq, Int.reduceNeg, Int.reduceLT, Int.reduceLE, Int.reduceAdd, Int.reduceSub, Int.reduceMul]
    repeat' (first | simp -implicitDefEqProofs only [go_sem, Nat.reduceEqDiff, Nat.reduceAdd, Nat.reduceMul, Nat.reduceLeDiff, Nat.reduceSub, Nat.reduceLT, Nat.reduceBEq, Int.reduceToNat, reduceCtorEq, ↓reduceIte, Int.reduceEq, Int.reduceNeg, Int.reduceLT, Int.reduceLE, Int.reduceAdd, Int.reduceSub, Int.reduceMul] | simp -implicitDefEqProofs (disch := omega) only [iaq_vec, iao_arr, iaq_raw, rd_map, wrap_id, binq_quo, binq_rem, binq_shl, binq_shr, tdiv_pos, tmod_pos, if_pos, exV_some, Option.map_some] | ((first | with_reducible apply exIf_dec | ((with_reducible apply exGd_dec); focus exact rfl) | ((with_reducible apply exGq_dec); focus exact rfl) | with_reducible apply exIf_intro | ((with_reducible apply exGd_intro); focus exact rfl) | ((with_reducible apply exGq_intro); focus exact rfl)) <;> intro _) | with_reducible refine exC_pure (c1 _) ?_ | with_reducible refine exCq_pure (c1 _) ?_ | with_reducible refine exC_pure (c2 _) ?_ | with_reducible refine exCq_pure (c2 _) ?_)
    all_goals first | exact h | (exfalso; omega) | skip
    done
  · rw [tabs16, if_neg hc] at h
    rw [if_neg hc] at c1 c2
    simp only [Graph.av] at c1 c2
    simp -implicitDefEqProofs only [sc_waymarklaw16_Tables, Graph.av, go_sem, Nat.reduceEqDiff, Nat.reduceAdd, Nat.reduceMul, Nat.reduceLeDiff, Nat.reduceSub, Nat.reduceLT, Nat.reduceBEq, Int.reduceToNat, reduceCtorEq, ↓reduceIte, Int.reduceEq, Int.reduceNeg, Int.reduceLT, Int.reduceLE, Int.reduceAdd, Int.reduceSub, Int.reduceMul]
    repeat' (first | simp -implicitDefEqProofs only [go_sem, Nat.reduceEqDiff, Nat.reduceAdd, Nat.reduceMul, Nat.reduceLeDiff, Nat.reduceSub, Nat.reduceLT, Nat.reduceBEq, Int.reduceToNat, reduceCtorEq, ↓reduceIte, Int.reduceEq, Int.reduceNeg, Int.reduceLT, Int.reduceLE, Int.reduceAdd, Int.reduceSub, Int.reduceMul] | simp -implicitDefEqProofs (disch := omega) only [iaq_vec, iao_arr, iaq_raw, rd_map, wrap_id, binq_quo, binq_rem, binq_shl, binq_shr, tdiv_pos, tmod_pos, if_pos, exV_some, Option.map_some] | ((first | with_reducible apply exIf_dec | ((with_reducible apply exGd_dec); focus exact rfl) | ((with_reducible apply exGq_dec); focus exact rfl) | with_reducible apply exIf_intro | ((with_reducible apply exGd_intro); focus exact rfl) | ((with_reducible apply exGq_intro); focus exact rfl)) <;> intro _) | with_reducible refine exC_pure (c1 _) ?_ | with_reducible refine exCq_pure (c1 _) ?_ | with_reducible refine exC_pure (c2 _) ?_ | with_reducible refine exCq_pure (c2 _) ?_)
    all_goals first | exact h | (exfalso; omega) | skip
    done
theorem small15_c (g : Graph) (H : AHeap) : APure Try.prog 17 [g.av] H (bv (decide (g.nodes ≤ 10 ∧ g.links.length ≤ 16))) := by
  intro Q h
  refine ACalls.of_code fn_waymarklaw15_Small ?_
  simp -implicitDefEqProofs only [sc_waymarklaw15_Small, Graph.av, go_sem, Nat.reduceEqDiff, Nat.reduceAdd, Nat.reduceMul, Nat.reduceLeDiff, Nat.reduceSub, Nat.reduceLT, Nat.reduceBEq, Int.reduceToNat, reduceCtorEq, ↓reduceIte, Int.reduceEq, Int.reduceNeg, Int.reduceLT, Int.reduceLE, Int.reduceAdd, Int.reduceSub, Int.reduceMul]
  repeat' (first | simp -implicitDefEqProofs only [go_sem, Nat.reduceEqDiff, Nat.reduceAdd, Nat.reduceMul, Nat.reduceLeDiff, Nat.reduceSub, Nat.reduceLT, Nat.reduceBEq, Int.reduceToNat, reduceCtorEq, ↓reduceIte, Int.reduceEq, Int.reduceNeg, Int.reduceLT, Int.reduceLE, Int.reduceAdd, Int.reduceSub, Int.reduceMul] | simp -implicitDefEqProofs (disch := omega) only [iaq_vec, iao_arr, iaq_raw, rd_map, wrap_id, binq_quo, binq_rem, binq_shl, binq_shr, tdiv_pos, tmod_pos, if_pos, exV_some, Option.map_some] | ((first | with_reducible apply exIf_dec | ((with_reducible apply exGd_dec); focus exact rfl) | ((with_reducible apply exGq_dec); focus exact rfl) | with_reducible apply exIf_intro | ((with_reducible apply exGd_intro); focus exact rfl) | ((with_reducible apply exGq_intro); focus exact rfl)) <;> intro _))
  all_goals first | (exfalso; omega) | skip
  all_goals refine fin_ h (congrArg (fun b => AV.raw (.bool b)) ?_)
  all_goals simp [*]
  all_goals first | omega | skip
theorem rd_sg_v {nl : Bool} {l : List Sg} {i : Int} (h0 : 0 ≤ i) (h1 : i < l.length) : rdV (rows l) (i.toNat * 2) 2 true = some (.agg [bv (gi l i).edge, iv (gi l i).to]) := rd_row rfl h0 h1
end Go.Proofs.Ytejmcijcdhoogaa
end

section
/- The laws CompileNone and CompileDeeper of chapter 17, as contracts. -/
namespace Go.Proofs.Ytejmcijcdhoogaa
open Go Abs
attribute [local irreducible] EX exL exG exC exCq exS exV exIf exGd exGq
set_option maxHeartbeats 4000000
theorem compW_cases (g : Graph) (w : Want) (down : List Bool) (depth : Int) (h0 : optErr g w down = 0) :
    (∃ n, n ≤ cut10 depth ∧ Tg g w down n (startW w) ∧ (∀ m, Tg g w down m (startW w) → n ≤ m) ∧ compW g w down depth = (lst g w down n (startW w), 0)) ∨ ((∀ n, n ≤ cut10 depth → ¬ Tg g w down n (startW w)) ∧ compW g w down depth = ([], 9)) := by
  by_cases h : ∃ n, n ≤ cut10 depth ∧ Tg g w down n (startW w)
  · obtain ⟨n, hn, ht⟩ := h
    obtain ⟨m, hm, hl⟩ := leastN (p := fun k => Tg g w down k (startW w)) ⟨n, ht⟩
    have := hl n ht
    exact .inl ⟨m, by omega, hm, hl, compW_ok h0 (by omega) hm hl⟩
  · exact .inr ⟨fun n hn ht => h ⟨n, hn, ht⟩, compW_deep h0 fun n hn ht => h ⟨n, hn, ht⟩⟩
theorem compW_err {g : Graph} {w : Want} {down : List Bool} {d : Int} (h : (compW g w down d).2 = 0) : optErr g w down = 0 := by
  by_cases h0 : optErr g w down = 0
  · exact h0
  · rw [compW, if_pos h0] at h; exact absurd h h0
end Go.Proofs.Ytejmcijcdhoogaa
end

section
/- Three nodes, each joined to each other: where its segments lead. -/
namespace Go.Proofs.Ytejmcijcdhoogaa
open Go Abs
attribute [local irreducible] EX exL exG exC exCq exS exV exIf exGd exGq
set_option maxHeartbeats 1000000
theorem dist_of {g : Graph} {down : List Bool} {s : Int} {d : List Int} (hl : (d.length : Int) = g.nodes) (h0 : gi d s = 0) (hw : ∀ v : Int, 0 ≤ v → v < g.nodes → gi d v = -1 ∨ (0 ≤ gi d v ∧ Walk g down s v (gi d v))) (hr : ∀ e : Int, 0 ≤ e → e < 2 * g.links.length → Relaxed g down d e) : distL g down s = d := by
  refine distL_eq ⟨hl, fun v v0 v1 hn => ?_, fun v v0 v1 hp => ?_, fun v L hh => ?_⟩
  · rcases hw v v0 v1 with h | h <;> omega
  · rcases hw v v0 v1 with h | h
    · omega
    · exact h.2
  · induction hh with
    | nil => omega
    | step _ e0 e1 hu ha ih =>
      have := hr _ e0 e1 hu (by rw [ha]; exact ih.1)
      rw [ha] at this
      omega
theorem mem_nxt {g : Graph} (hf : Fit g) {a b e : Int} : e ∈ nxtOf g a b ↔ ((0 ≤ a ∧ a < g.nodes) ∧ (0 ≤ b ∧ b < g.nodes)) ∧ (0 ≤ e ∧ e < 2 * g.links.length) ∧ (ends g e).1 = a ∧ 0 < distOf g a b ∧ 0 ≤ distOf g (ends g e).2.1 b ∧ distOf g a b - wt g e = distOf g (ends g e).2.1 b := by
  constructor
  · intro h
    obtain ⟨h1, h2, h3, -, h5, h6⟩ := nxt_mem hf h
    have hab : (0 ≤ a ∧ a < g.nodes) ∧ (0 ≤ b ∧ b < g.nodes) := by
      unfold nxtOf at h
      split at h
      · assumption
      · cases h
    refine ⟨hab, ⟨h1, h2⟩, h3, h6, ?_, h5.symm⟩
    unfold nxtOf at h
    rw [if_pos hab] at h
    unfold nextL at h
    split at h
    · obtain ⟨-, h8⟩ := List.mem_filter.1 h
      unfold onB at h8
      simp only [Bool.and_eq_true, decide_eq_true_eq] at h8
      rw [distOf, if_pos ⟨(hf.b e h1 h2).2, hab.2⟩]
      exact h8.2.1
    · cases h
  · rintro ⟨hab, ⟨h1, h2⟩, h3, h4, h5, h6⟩
    have hb := (hf.b e h1 h2).2
    have q1 : distOf g (ends g e).2.1 b = gi (distL g [] b) (ends g e).2.1 := by rw [distOf, if_pos ⟨hb, hab.2⟩]
    have q2 : distOf g a b = gi (distL g [] b) a := by rw [distOf, if_pos hab]
    rw [q1] at h5 h6
    rw [q2] at h4 h6
    rw [nxtOf, if_pos hab, nextL, if_pos ⟨hf.ok, (distL_spec hf [] hab.2).1.len, hab.1, h4⟩, List.mem_filter, onB]
    refine ⟨(out_mem g e a).2 ⟨h1, h2, h3⟩, ?_⟩
    have hu : upE [] e = true := by simp [upE, gi]
    simp [h5, h6, hu]
theorem endN_ne {g : Graph} (hf : Fit g) {w : Want} {down : List Bool} {to : Int} {a : St} {e : Int} (ha : a.1 ≠ to) (he : e ∈ nxtOf g a.1 to) (hs : stepW g w down a e = none) {r : St} : endN g w down to a ≠ some r := by
  intro h
  obtain ⟨b, h1, -⟩ := (endN_next hf ha h).2 e he
  rw [hs] at h1
  cases h1
theorem endN_all {g : Graph} (hf : Fit g) {w : Want} {down : List Bool} {to : Int} {a r : St} {e : Int} (ha : a.1 ≠ to) (he : e ∈ nxtOf g a.1 to) (hs : ∀ e ∈ nxtOf g a.1 to, ∃ b, stepW g w down a e = some b ∧ endN g w down to b = some r) : endN g w down to a = some r := by
  rw [endN_eq hf, if_neg ha, joinO_some]
  refine ⟨?_, fun x hx => ?_⟩
  · intro h
    rw [List.map_eq_nil_iff] at h
    rw [h] at he
    cases he
  · obtain ⟨e', he', rfl⟩ := List.mem_map.1 hx
    obtain ⟨b, h1, h2⟩ := hs e' he'
    rw [h1]
    exact h2
def tri (d c : Int) : Graph := ⟨3, false, [⟨0, 1, d, 0⟩, ⟨0, 2, c, 0⟩, ⟨2, 1, c, 0⟩]⟩
section
variable {d c : Int}
theorem tri_ends0 : ends (tri d c) 0 = (0, 1, true) := rfl
theorem tri_ends1 : ends (tri d c) 1 = (1, 0, true) := rfl
theorem tri_ends2 : ends (tri d c) 2 = (0, 2, true) := rfl
theorem tri_ends3 : ends (tri d c) 3 = (2, 0, true) := rfl
theorem tri_ends4 : ends (tri d c) 4 = (2, 1, true) := rfl
theorem tri_ends5 : ends (tri d c) 5 = (1, 2, true) := rfl
theorem tri_w0 : wt (tri d c) 0 = d := rfl
theorem tri_w1 : wt (tri d c) 1 = d := rfl
theorem tri_w2 : wt (tri d c) 2 = c := rfl
theorem tri_w3 : wt (tri d c) 3 = c := rfl
theorem tri_w4 : wt (tri d c) 4 = c := rfl
theorem tri_w5 : wt (tri d c) 5 = c := rfl
theorem tri_edges {e : Int} (e0 : 0 ≤ e) (e1 : e < 2 * (tri d c).links.length) : e = 0 ∨ e = 1 ∨ e = 2 ∨ e = 3 ∨ e = 4 ∨ e = 5 := by
  have : e < 6 := e1
  omega
theorem tri_nodes {v : Int} (v0 : 0 ≤ v) (v1 : v < (tri d c).nodes) : v = 0 ∨ v = 1 ∨ v = 2 := by
  have : v < 3 := v1
  omega
theorem tri_check (hd : 1 ≤ d ∧ d ≤ 16777216) (hc : 1 ≤ c ∧ c ≤ 16777216) : check (tri d c) = (-1, 0) := by
  have l1 : linkErr (tri d c) ⟨0, 1, d, 0⟩ = 0 := by
    unfold linkErr
    rw [if_neg (by show ¬ (¬ ((0 : Int) ≤ 0 ∧ (0 : Int) < 3) ∨ ¬ ((0 : Int) ≤ 1 ∧ (1 : Int) < 3) ∨ (0 : Int) = 1); decide), if_neg (by dsimp only; omega)]
  have l2 : linkErr (tri d c) ⟨0, 2, c, 0⟩ = 0 := by
    unfold linkErr
    rw [if_neg (by show ¬ (¬ ((0 : Int) ≤ 0 ∧ (0 : Int) < 3) ∨ ¬ ((0 : Int) ≤ 2 ∧ (2 : Int) < 3) ∨ (0 : Int) = 2); decide), if_neg (by dsimp only; omega)]
  have l3 : linkErr (tri d c) ⟨2, 1, c, 0⟩ = 0 := by
    unfold linkErr
    rw [if_neg (by show ¬ (¬ ((0 : Int) ≤ 2 ∧ (2 : Int) < 3) ∨ ¬ ((0 : Int) ≤ 1 ∧ (1 : Int) < 3) ∨ (2 : Int) = 1); decide), if_neg (by dsimp only; omega)]
  rw [check, if_neg (by show ¬ (120 < 3); decide), if_neg (by show ¬ ((3 : Int) < 1 ∨ (3 : Int) > 40); decide)]
  show checkFrom (tri d c) [⟨0, 1, d, 0⟩, ⟨0, 2, c, 0⟩, ⟨2, 1, c, 0⟩] 0 = _
  rw [checkFrom, if_pos l1, checkFrom, if_pos l2, checkFrom, if_pos l3, checkFrom]
theorem tri_fit (hd : 1 ≤ d ∧ d ≤ 16777216) (hc : 1 ≤ c ∧ c ≤ 16777216) : Fit (tri d c) := fit_of _ (by rw [tri_check hd hc])
/-- over the links 1 and 2 from 1 to 0 -/
theorem tri_10 {down : List Bool} (h5 : upE down 5 = true) (h3 : upE down 3 = true) : Walk (tri d c) down 1 0 (2 * c) := by
  have := Walk.step (e := 5) (Walk.nil (g := tri d c) (down := down) (s := 1)) (by omega) (by simp [tri]) h5 rfl
  have := Walk.step (e := 3) this (by omega) (by simp [tri]) h3 rfl
  rw [tri_ends3, tri_w3, tri_w5] at this
  rwa [show 0 + c + c = 2 * c by omega] at this
theorem tri_12 {down : List Bool} (h5 : upE down 5 = true) : Walk (tri d c) down 1 2 c := by
  have := Walk.step (e := 5) (Walk.nil (g := tri d c) (down := down) (s := 1)) (by omega) (by simp [tri]) h5 rfl
  rw [tri_ends5, tri_w5] at this
  rwa [show 0 + c = c by omega] at this
theorem tri_10' {down : List Bool} (h1 : upE down 1 = true) : Walk (tri d c) down 1 0 d := by
  have := Walk.step (e := 1) (Walk.nil (g := tri d c) (down := down) (s := 1)) (by omega) (by simp [tri]) h1 rfl
  rw [tri_ends1, tri_w1] at this
  rwa [show 0 + d = d by omega] at this
/-- by the tables -/
theorem tri_d1 (hd : 1 ≤ d ∧ d ≤ 16777216) (hc : 1 ≤ c ∧ c ≤ 16777216) : distL (tri d c) [] 1 = [min d (2 * c), 0, c] := by
  refine dist_of rfl rfl (fun v v0 v1 => ?_) fun e e0 e1 => ?_
  · rcases tri_nodes v0 v1 with rfl | rfl | rfl
    · refine .inr ⟨by show 0 ≤ min d (2 * c); omega, ?_⟩
      show Walk _ _ _ _ (min d (2 * c))
      by_cases h : d ≤ 2 * c
      · rw [show min d (2 * c) = d by omega]; exact tri_10' rfl
      · rw [show min d (2 * c) = 2 * c by omega]; exact tri_10 rfl rfl
    · exact .inr ⟨by show (0 : Int) ≤ 0; omega, .nil⟩
    · exact .inr ⟨by show 0 ≤ c; omega, tri_12 rfl⟩
  · intro _ _
    rcases tri_edges e0 e1 with rfl | rfl | rfl | rfl | rfl | rfl
    · show 0 ≤ (0 : Int) ∧ (0 : Int) ≤ min d (2 * c) + d; omega
    · show 0 ≤ min d (2 * c) ∧ min d (2 * c) ≤ 0 + d; omega
    · show 0 ≤ c ∧ c ≤ min d (2 * c) + c; omega
    · show 0 ≤ min d (2 * c) ∧ min d (2 * c) ≤ c + c; omega
    · show 0 ≤ (0 : Int) ∧ (0 : Int) ≤ c + c; omega
    · show 0 ≤ c ∧ c ≤ 0 + c; omega
theorem tri_d2 (hd : 1 ≤ d ∧ d ≤ 16777216) (hc : 1 ≤ c ∧ c ≤ 16777216) : distL (tri d c) [] 2 = [c, c, 0] := by
  refine dist_of rfl rfl (fun v v0 v1 => ?_) fun e e0 e1 => ?_
  · rcases tri_nodes v0 v1 with rfl | rfl | rfl
    · refine .inr ⟨by show 0 ≤ c; omega, ?_⟩
      have := Walk.step (e := 3) (Walk.nil (g := tri d c) (down := []) (s := 2)) (by omega) (by simp [tri]) rfl rfl
      rw [tri_ends3, tri_w3, Int.zero_add] at this
      exact this
    · refine .inr ⟨by show 0 ≤ c; omega, ?_⟩
      have := Walk.step (e := 4) (Walk.nil (g := tri d c) (down := []) (s := 2)) (by omega) (by simp [tri]) rfl rfl
      rw [tri_ends4, tri_w4, Int.zero_add] at this
      exact this
    · exact .inr ⟨by show (0 : Int) ≤ 0; omega, .nil⟩
  · intro _ _
    rcases tri_edges e0 e1 with rfl | rfl | rfl | rfl | rfl | rfl
    · show 0 ≤ c ∧ c ≤ c + d; omega
    · show 0 ≤ c ∧ c ≤ c + d; omega
    · show 0 ≤ (0 : Int) ∧ (0 : Int) ≤ c + c; omega
    · show 0 ≤ c ∧ c ≤ 0 + c; omega
    · show 0 ≤ c ∧ c ≤ 0 + c; omega
    · show 0 ≤ (0 : Int) ∧ (0 : Int) ≤ c + c; omega
/-- without the direct link -/
theorem tri_f1 (hd : 1 ≤ d ∧ d ≤ 16777216) (hc : 1 ≤ c ∧ c ≤ 16777216) : distL (tri d c) [true, false, false] 1 = [2 * c, 0, c] := by
  refine dist_of rfl rfl (fun v v0 v1 => ?_) fun e e0 e1 => ?_
  · rcases tri_nodes v0 v1 with rfl | rfl | rfl
    · exact .inr ⟨by show 0 ≤ 2 * c; omega, tri_10 rfl rfl⟩
    · exact .inr ⟨by show (0 : Int) ≤ 0; omega, .nil⟩
    · exact .inr ⟨by show 0 ≤ c; omega, tri_12 rfl⟩
  · intro hu _
    rcases tri_edges e0 e1 with rfl | rfl | rfl | rfl | rfl | rfl
    · cases hu
    · cases hu
    · show 0 ≤ c ∧ c ≤ 2 * c + c; omega
    · show 0 ≤ 2 * c ∧ 2 * c ≤ c + c; omega
    · show 0 ≤ (0 : Int) ∧ (0 : Int) ≤ c + c; omega
    · show 0 ≤ c ∧ c ≤ 0 + c; omega
theorem tri_D01 (hd : 1 ≤ d ∧ d ≤ 16777216) (hc : 1 ≤ c ∧ c ≤ 16777216) : distOf (tri d c) 0 1 = min d (2 * c) := by
  rw [distOf, if_pos ⟨by show (0 : Int) ≤ 0 ∧ (0 : Int) < 3; decide, by show (0 : Int) ≤ 1 ∧ (1 : Int) < 3; decide⟩, tri_d1 hd hc]; rfl
theorem tri_D11 (hd : 1 ≤ d ∧ d ≤ 16777216) (hc : 1 ≤ c ∧ c ≤ 16777216) : distOf (tri d c) 1 1 = 0 := by
  rw [distOf, if_pos ⟨by show (0 : Int) ≤ 1 ∧ (1 : Int) < 3; decide, by show (0 : Int) ≤ 1 ∧ (1 : Int) < 3; decide⟩, tri_d1 hd hc]; rfl
theorem tri_D21 (hd : 1 ≤ d ∧ d ≤ 16777216) (hc : 1 ≤ c ∧ c ≤ 16777216) : distOf (tri d c) 2 1 = c := by
  rw [distOf, if_pos ⟨by show (0 : Int) ≤ 2 ∧ (2 : Int) < 3; decide, by show (0 : Int) ≤ 1 ∧ (1 : Int) < 3; decide⟩, tri_d1 hd hc]; rfl
theorem tri_D02 (hd : 1 ≤ d ∧ d ≤ 16777216) (hc : 1 ≤ c ∧ c ≤ 16777216) : distOf (tri d c) 0 2 = c := by
  rw [distOf, if_pos ⟨by show (0 : Int) ≤ 0 ∧ (0 : Int) < 3; decide, by show (0 : Int) ≤ 2 ∧ (2 : Int) < 3; decide⟩, tri_d2 hd hc]; rfl
theorem tri_D12 (hd : 1 ≤ d ∧ d ≤ 16777216) (hc : 1 ≤ c ∧ c ≤ 16777216) : distOf (tri d c) 1 2 = c := by
  rw [distOf, if_pos ⟨by show (0 : Int) ≤ 1 ∧ (1 : Int) < 3; decide, by show (0 : Int) ≤ 2 ∧ (2 : Int) < 3; decide⟩, tri_d2 hd hc]; rfl
theorem tri_D22 (hd : 1 ≤ d ∧ d ≤ 16777216) (hc : 1 ≤ c ∧ c ≤ 16777216) : distOf (tri d c) 2 2 = 0 := by
  rw [distOf, if_pos ⟨by show (0 : Int) ≤ 2 ∧ (2 : Int) < 3; decide, by show (0 : Int) ≤ 2 ∧ (2 : Int) < 3; decide⟩, tri_d2 hd hc]; rfl
/-- which edges go on by the tables -/
theorem tri_n01 (hd : 1 ≤ d ∧ d ≤ 16777216) (hc : 1 ≤ c ∧ c ≤ 16777216) (e : Int) : e ∈ nxtOf (tri d c) 0 1 ↔ (e = 0 ∧ d ≤ 2 * c) ∨ (e = 2 ∧ 2 * c ≤ d) := by
  rw [mem_nxt (tri_fit hd hc)]
  have h01 := tri_D01 hd hc
  have h11 := tri_D11 hd hc
  have h21 := tri_D21 hd hc
  constructor
  · rintro ⟨-, ⟨e0, e1⟩, h1, -, -, h2⟩
    rcases tri_edges e0 e1 with rfl | rfl | rfl | rfl | rfl | rfl
    · rw [tri_ends0, tri_w0, h01, h11] at h2; omega
    · rw [tri_ends1] at h1; cases h1
    · rw [tri_ends2, tri_w2, h01, h21] at h2; omega
    · rw [tri_ends3] at h1; cases h1
    · rw [tri_ends4] at h1; cases h1
    · rw [tri_ends5] at h1; cases h1
  · rintro (⟨rfl, h⟩ | ⟨rfl, h⟩)
    · rw [tri_ends0, tri_w0, h01, h11]
      refine ⟨⟨by show (0 : Int) ≤ 0 ∧ (0 : Int) < 3; decide, by show (0 : Int) ≤ 1 ∧ (1 : Int) < 3; decide⟩, by show (0 : Int) ≤ 0 ∧ (0 : Int) < 6; decide, rfl, by omega, by omega, by omega⟩
    · rw [tri_ends2, tri_w2, h01, h21]
      refine ⟨⟨by show (0 : Int) ≤ 0 ∧ (0 : Int) < 3; decide, by show (0 : Int) ≤ 1 ∧ (1 : Int) < 3; decide⟩, by show (0 : Int) ≤ 2 ∧ (2 : Int) < 6; decide, rfl, by omega, by omega, by omega⟩
theorem tri_n02 (hd : 1 ≤ d ∧ d ≤ 16777216) (hc : 1 ≤ c ∧ c ≤ 16777216) (e : Int) : e ∈ nxtOf (tri d c) 0 2 ↔ e = 2 := by
  rw [mem_nxt (tri_fit hd hc)]
  have h02 := tri_D02 hd hc
  have h12 := tri_D12 hd hc
  have h22 := tri_D22 hd hc
  constructor
  · rintro ⟨-, ⟨e0, e1⟩, h1, -, -, h2⟩
    rcases tri_edges e0 e1 with rfl | rfl | rfl | rfl | rfl | rfl
    · rw [tri_ends0, tri_w0, h02, h12] at h2; omega
    · rw [tri_ends1] at h1; cases h1
    · rfl
    · rw [tri_ends3] at h1; cases h1
    · rw [tri_ends4] at h1; cases h1
    · rw [tri_ends5] at h1; cases h1
  · rintro rfl
    rw [tri_ends2, tri_w2, h02, h22]
    refine ⟨⟨by show (0 : Int) ≤ 0 ∧ (0 : Int) < 3; decide, by show (0 : Int) ≤ 2 ∧ (2 : Int) < 3; decide⟩, by show (0 : Int) ≤ 2 ∧ (2 : Int) < 6; decide, rfl, by omega, by omega, by omega⟩
theorem tri_n21 (hd : 1 ≤ d ∧ d ≤ 16777216) (hc : 1 ≤ c ∧ c ≤ 16777216) (e : Int) : e ∈ nxtOf (tri d c) 2 1 ↔ e = 4 := by
  rw [mem_nxt (tri_fit hd hc)]
  have h01 := tri_D01 hd hc
  have h11 := tri_D11 hd hc
  have h21 := tri_D21 hd hc
  constructor
  · rintro ⟨-, ⟨e0, e1⟩, h1, -, -, h2⟩
    rcases tri_edges e0 e1 with rfl | rfl | rfl | rfl | rfl | rfl
    · rw [tri_ends0] at h1; cases h1
    · rw [tri_ends1] at h1; cases h1
    · rw [tri_ends2] at h1; cases h1
    · rw [tri_ends3, tri_w3, h21, h01] at h2; omega
    · rfl
    · rw [tri_ends5] at h1; cases h1
  · rintro rfl
    rw [tri_ends4, tri_w4, h21, h11]
    refine ⟨⟨by show (0 : Int) ≤ 2 ∧ (2 : Int) < 3; decide, by show (0 : Int) ≤ 1 ∧ (1 : Int) < 3; decide⟩, by show (0 : Int) ≤ 4 ∧ (4 : Int) < 6; decide, rfl, by omega, by omega, by omega⟩
end
end Go.Proofs.Ytejmcijcdhoogaa
end

section
/- The lists of the triangle; the law CompileEdges. -/
namespace Go.Proofs.Ytejmcijcdhoogaa
open Go Abs
attribute [local irreducible] EX exL exG exC exCq exS exV exIf exGd exGq
set_option maxHeartbeats 1000000
theorem segW_node {g : Graph} {w : Want} {down : List Bool} {a : St} {to : Int} : segW g w down a ⟨false, to⟩ = segN g w down a to := by rw [segW, if_neg (by simp)]
theorem segW_edge {g : Graph} {w : Want} {down : List Bool} {a : St} {to : Int} : segW g w down a ⟨true, to⟩ = stepW g w down a to := by rw [segW, if_pos rfl]
/-- a want from 0 to 1 without the links that are gone -/
structure TriW (d c : Int) (w : Want) (down gone : List Bool) (far : List Int) : Prop where
  d1 : 1 ≤ d ∧ d ≤ 16777216
  c1 : 1 ≤ c ∧ c ≤ 16777216
  src : w.src = 0
  dst : w.dst = 1
  via : w.via = []
  pr : pruned (tri d c) w down = gone
  ok : optErr (tri d c) w down = 0
  far : distL (tri d c) gone 1 = far
section
variable {d c : Int} {w : Want} {down gone : List Bool} {far : List Int}
theorem TriW.pts (h : TriW d c w down gone far) : pts w = [0, 1] := by rw [Go.Proofs.Ytejmcijcdhoogaa.pts, h.src, h.via, h.dst]; rfl
theorem TriW.start (h : TriW d c w down gone far) : startW w = (0, 0) := by rw [startW, h.pts, h.src]; rfl
theorem TriW.goal (h : TriW d c w down gone far) : goalW w = (1, 1) := by rw [goalW, h.dst, h.via]; rfl
theorem TriW.farOf (h : TriW d c w down gone far) : farOf (tri d c) w down 1 = far := by
  rw [Go.Proofs.Ytejmcijcdhoogaa.farOf, h.pr, h.pts]
  exact h.far
theorem TriW.step (h : TriW d c w down gone far) {x e b : Int} (hb : (ends (tri d c) e).2.2 = true ∧ (ends (tri d c) e).1 = x) (hx : (0 ≤ x ∧ x < 3) ∧ x ≠ 1) (hu : upE gone e = true) (hf : 0 ≤ gi far (ends (tri d c) e).2.1 ∧ gi far x = gi far (ends (tri d c) e).2.1 + wt (tri d c) e) :
    stepW (tri d c) w down (x, 0) e = some ((ends (tri d c) e).2.1, come [0, 1] (ends (tri d c) e).2.1 0) := by
  rw [stepW, if_pos, h.pts]
  refine ⟨h.ok, ⟨by dsimp only; omega, by dsimp only; rw [h.via]; decide⟩, hx.1, ?_, hb.1, hb.2, by rw [h.pr]; exact hu, ?_, ?_⟩
  · rw [h.pts]; exact fun hh => hx.2 hh.symm
  · show 0 ≤ gi (Go.Proofs.Ytejmcijcdhoogaa.farOf (tri d c) w down 1) _; rw [h.farOf]; exact hf.1
  · show gi (Go.Proofs.Ytejmcijcdhoogaa.farOf (tri d c) w down 1) _ = gi (Go.Proofs.Ytejmcijcdhoogaa.farOf (tri d c) w down 1) _ + _; rw [h.farOf]; exact hf.2
theorem TriW.none (h : TriW d c w down gone far) {x n e : Int} (hu : upE gone e = false) : stepW (tri d c) w down (x, n) e = none := by
  rw [stepW, if_neg]
  intro hs
  have := hs.2.2.2.2.2.2.1
  rw [h.pr, hu] at this
  cases this
/-- only edges that begin there, of links that are left -/
theorem TriW.some (h : TriW d c w down gone far) {x n e : Int} {b : St} (hs : stepW (tri d c) w down (x, n) e = some b) : (0 ≤ e ∧ e < 2 * (tri d c).links.length) ∧ (ends (tri d c) e).1 = x ∧ upE gone e = true := by
  obtain ⟨h1, -⟩ := stepW_some hs
  have h2 := h1.2.2.2.2.2.2.1
  rw [h.pr] at h2
  exact ⟨ends_ok h1.2.2.2.2.1, h1.2.2.2.2.2.1, h2⟩
end
theorem triSegs (d c : Int) : segsA (tri d c) = [⟨false, 0⟩, ⟨false, 1⟩, ⟨false, 2⟩, ⟨true, 0⟩, ⟨true, 1⟩, ⟨true, 2⟩, ⟨true, 3⟩, ⟨true, 4⟩, ⟨true, 5⟩] := rfl
section
variable {d c : Int} {w : Want} {down : List Bool} (h : TriW d c w down [true, false, false] [2 * c, 0, c])
include h
theorem tri_s02 : stepW (tri d c) w down (0, 0) 2 = some (2, 0) := h.step (x := 0) (e := 2) (b := 2) ⟨rfl, rfl⟩ ⟨by decide, by decide⟩ rfl ⟨by have := h.c1; show (0 : Int) ≤ c; omega, by show 2 * c = c + c; omega⟩
theorem tri_s24 : stepW (tri d c) w down (2, 0) 4 = some (1, 1) := h.step (x := 2) (e := 4) (b := 1) ⟨rfl, rfl⟩ ⟨by decide, by decide⟩ rfl ⟨by show (0 : Int) ≤ 0; omega, by show c = 0 + c; omega⟩
theorem tri_21 : segW (tri d c) w down (2, 0) ⟨false, 1⟩ = some (1, 1) := by
  have hf := tri_fit h.d1 h.c1
  rw [segW_node, segN, if_neg (by decide)]
  refine endN_all hf (by decide) ((tri_n21 h.d1 h.c1 4).2 rfl) fun e he => ?_
  rw [(tri_n21 h.d1 h.c1 e).1 he]
  exact ⟨_, tri_s24 h, endN_self hf rfl⟩
theorem tri_02 : segW (tri d c) w down (0, 0) ⟨false, 2⟩ = some (2, 0) := by
  have hf := tri_fit h.d1 h.c1
  rw [segW_node, segN, if_neg (by decide)]
  refine endN_all hf (by decide) ((tri_n02 h.d1 h.c1 2).2 rfl) fun e he => ?_
  rw [(tri_n02 h.d1 h.c1 e).1 he]
  exact ⟨_, tri_s02 h, endN_self hf rfl⟩
/-- the tables go both ways, or only the other one -/
theorem tri_nodes2 (hdc : d ≤ 2 * c) {depth : Int} (hd : 2 ≤ depth) : compW (tri d c) w down depth = ([⟨false, 2⟩, ⟨false, 1⟩], 0) := by
  have hf := tri_fit h.d1 h.c1
  have hst := h.start
  have hgo := h.goal
  have n1 : ∀ r, segW (tri d c) w down (0, 0) ⟨false, 1⟩ ≠ some r := fun r => by
    rw [segW_node, segN, if_neg (by decide)]
    exact endN_ne hf (by decide) ((tri_n01 h.d1 h.c1 0).2 (.inl ⟨rfl, hdc⟩)) (h.none rfl)
  obtain ⟨a1, a2⟩ := lst_seg (g := tri d c) (w := w) (down := down) (m := 0) (a := (2, 0)) (c := (1, 1)) (pre := [⟨false, 0⟩]) (s := ⟨false, 1⟩) (post := [⟨false, 2⟩, ⟨true, 0⟩, ⟨true, 1⟩, ⟨true, 2⟩, ⟨true, 3⟩, ⟨true, 4⟩, ⟨true, 5⟩]) (triSegs d c) (fun s' hs' c' hc' ht => by
    rw [List.mem_singleton.1 hs'] at hc'
    rw [segW_node, segN, if_neg (by decide)] at hc'
    have := endN_at hf hc'
    rw [show c' = goalW w from ht, hgo] at this
    cases this) (tri_21 h) (by show (1, 1) = goalW w; rw [hgo])
  obtain ⟨b1, b2⟩ := lst_seg (g := tri d c) (w := w) (down := down) (m := 1) (a := (0, 0)) (c := (2, 0)) (pre := [⟨false, 0⟩, ⟨false, 1⟩]) (s := ⟨false, 2⟩) (post := [⟨true, 0⟩, ⟨true, 1⟩, ⟨true, 2⟩, ⟨true, 3⟩, ⟨true, 4⟩, ⟨true, 5⟩]) (triSegs d c) (fun s' hs' c' hc' ht => by
    simp only [List.mem_cons, List.not_mem_nil, or_false] at hs'
    rcases hs' with rfl | rfl
    · rw [segW_node, segN, if_pos rfl] at hc'
      cases hc'
    · exact n1 _ hc') (tri_02 h) a1
  rw [a2] at b2
  rw [compW_ok h.ok (n := 2) (by unfold cut10; omega) (by rw [hst]; exact b1) ?_, hst, b2]
  · rfl
  intro m hm
  rw [hst] at hm
  match m, hm with
  | 0, hm =>
    rw [Tg, hgo] at hm
    cases hm
  | 1, hm =>
    exfalso
    obtain ⟨s, hs, r, hr, ht⟩ := tg_seg hm
    rw [show r = goalW w from ht, hgo] at hr
    obtain ⟨e, to⟩ := s
    cases e with
    | false =>
      have hr' := hr
      rw [segW_node, segN] at hr'
      split at hr'
      · cases hr'
      · have := endN_at hf hr'
        obtain rfl : 1 = to := this
        exact n1 _ hr
    | true =>
      rw [segW_edge] at hr
      obtain ⟨⟨e0, e1⟩, hb, hu⟩ := h.some hr
      rcases tri_edges e0 e1 with rfl | rfl | rfl | rfl | rfl | rfl
      · cases hu
      · cases hu
      · rw [tri_s02 h] at hr; cases hr
      · cases hb
      · cases hb
      · cases hb
  | m + 2, _ => omega
end
end Go.Proofs.Ytejmcijcdhoogaa
end

section
/- The law CompileEdges of chapter 17, as a contract. -/
namespace Go.Proofs.Ytejmcijcdhoogaa
open Go Abs
attribute [local irreducible] EX exL exG exC exCq exS exV exIf exGd exGq
set_option maxHeartbeats 4000000
theorem tri_opt {d c : Int} {w : Want} {down gone : List Bool} {far : List Int} (hs : w.src = 0 ∧ w.dst = 1 ∧ w.bound = 0 ∧ w.via = []) (hr : rightErr (tri d c) w = 0) (hp : pruned (tri d c) w down = gone) (hf : distL (tri d c) gone 1 = far) (h0 : 0 ≤ gi far 0) : optErr (tri d c) w down = 0 := by
  obtain ⟨h1, h2, h3, h4⟩ := hs
  have hpt : pts w = [0, 1] := by rw [pts, h1, h4, h2]; rfl
  have hz : leg (tri d c) w down 0 = gi far 0 := by rw [leg, hpt, hp]; show gi (distL (tri d c) gone 1) 0 = _; rw [hf]
  rw [optErr, if_neg (by rw [hr]; decide), if_neg, if_neg (by rw [h3]; omega)]
  rw [h4]
  show ¬ noLeg (tri d c) w down (0 + 1) = true
  rw [noLeg_succ]
  simp [noLeg, hz, h0]
end Go.Proofs.Ytejmcijcdhoogaa
end

section
/- Leading around a link. -/
namespace Go.Proofs.Ytejmcijcdhoogaa
open Go Abs
attribute [local irreducible] EX exL exG exC exCq exS exV exIf exGd exGq
set_option maxHeartbeats 4000000
def wR (a b : Int) : Want := ⟨a, b, 0, true, [], true, [], true, [], true, []⟩
def downR (g : Graph) (edge : Int) : List Bool := (List.replicate g.links.length false).set (edge / 2).toNat true
noncomputable def aroundW (g : Graph) (edge to depth : Int) : List Sg × Int := if (ends g edge).2.2 = true then compW g (wR (ends g edge).1 to) (downR g edge) depth else ([], 5)
noncomputable def aroundAV (g : Graph) (edge to depth : Int) : AV := .tup [.vec (aroundW g edge to depth).1.isEmpty (rows (aroundW g edge to depth).1) (aroundW g edge to depth).1.length, iv (aroundW g edge to depth).2]
theorem wR_ok (a b : Int) : (wR a b).ok := ⟨by show 0 * 8 ≤ 140737488351232; decide, by show 0 * 8 ≤ 140737488351232; decide, by show 0 * 8 ≤ 140737488351232; decide, by show 0 * 8 ≤ 140737488351232; decide⟩
theorem around_c (g : Graph) (hb : g.links.length * 32 ≤ 140737488351232) (hn : g.nl = true → g.links = []) (edge to depth : Int) (he : -9223372036854775808 ≤ edge ∧ edge ≤ 9223372036854775807) (H : AHeap) :
    APure Try.prog 26 [tab g, iv edge, iv to, iv depth] H (aroundAV g edge to depth) := by
  intro Q h
  have c1 := fun H => tgraph_c g hb hn H
  have c2 := fun H => ends_c g edge he H
  simp only [Graph.av] at c1 c2
  refine ACalls.of_code fn_repair_Around ?_
  cases hok : (ends g edge).2.2 with
  | true =>
    obtain ⟨e0, e1⟩ := ends_ok hok
    have cc := fun H => compile_c g hb hn (wR (ends g edge).1 to) (wR_ok _ _) false (downR g edge) depth H
    have ha : aroundAV g edge to depth = compAV g (wR (ends g edge).1 to) (downR g edge) depth := by rw [aroundAV, aroundW, if_pos hok, compAV]
    rw [ha] at h
    rw [downR] at cc h
    obtain ⟨r, hr⟩ : ∃ r, r = compAV g (wR (ends g edge).1 to) ((List.replicate g.links.length false).set (edge / 2).toNat true) depth := ⟨_, rfl⟩
    rw [compAV] at hr
    have hrt : ∃ x y, r = .tup [x, y] := ⟨_, _, hr⟩
    rw [compAV, ← hr] at h
    simp only [compAV, ← hr] at cc
    obtain ⟨x, y, rfl⟩ := hrt
    clear hr
    have ht : ends g edge = ((ends g edge).1, (ends g edge).2.1, true) := Prod.ext rfl (Prod.ext rfl hok)
    rw [ht, triIIB] at c2
    obtain ⟨a, haa⟩ : ∃ a, a = (ends g edge).1 := ⟨_, rfl⟩
    obtain ⟨b, hbb⟩ : ∃ b, b = (ends g edge).2.1 := ⟨_, rfl⟩
    rw [← haa] at cc
    rw [← haa, ← hbb] at c2
    obtain ⟨cs, hcs⟩ : ∃ cs, tab g = .box cs 0 := ⟨_, rfl⟩
    rw [hcs] at c1 cc ⊢
    simp only [wR, Want.av, blv, sl, List.map_nil, List.length_nil, List.length_set, List.length_replicate] at cc
    simp -implicitDefEqProofs only [sc_repair_Around, go_sem, Nat.reduceEqDiff, Nat.reduceAdd, Nat.reduceMul, Nat.reduceLeDiff, Nat.reduceSub, Nat.reduceLT, Nat.reduceBEq, Int.reduceToNat, reduceCtorEq, ↓reduceIte, Int.reduceEq, Int.reduceNeg, Int.reduceLT, Int.reduceLE, Int.reduceAdd, Int.reduceSub, Int.reduceMul]
    repeat' (first | simp -implicitDefEqProofs only [go_sem, Nat.reduceEqDiff, Nat.reduceAdd, Nat.reduceMul, Nat.reduceLeDiff, Nat.reduceSub, Nat.reduceLT, Nat.reduceBEq, Int.reduceToNat, reduceCtorEq, ↓reduceIte, Int.reduceEq, Int.reduceNeg, Int.reduceLT, Int.reduceLE, Int.reduceAdd, Int.reduceSub, Int.reduceMul] | simp -implicitDefEqProofs (disch := omega) only [iaq_vec, iao_arr, iaq_raw, rd_map, wrap_id, binq_quo, binq_rem, binq_shl, binq_shr, tdiv_pos, tmod_pos, if_pos, exV_some, Option.map_some] | ((first | with_reducible apply exIf_dec | ((with_reducible apply exGd_dec); focus exact rfl) | ((with_reducible apply exGq_dec); focus exact rfl) | with_reducible apply exIf_intro | ((with_reducible apply exGd_intro); focus exact rfl) | ((with_reducible apply exGq_intro); focus exact rfl)) <;> intro _) | with_reducible refine exC_pure (c1 _) ?_ | with_reducible refine exCq_pure (c1 _) ?_ | with_reducible refine exC_pure (c2 _) ?_ | with_reducible refine exCq_pure (c2 _) ?_)
    all_goals first | (exfalso; omega) | skip
    refine exMk_int (by omega) (by omega) (by simp only [maxLen]; omega) rfl ?_
    rw [zrep_one, show List.replicate (g.links.length : Int).toNat (cAV (.bool false)) = (List.replicate g.links.length false).map bv by rw [List.map_replicate, show (g.links.length : Int).toNat = g.links.length by omega]; rfl]
    repeat' (first | simp -implicitDefEqProofs only [go_sem, Nat.reduceEqDiff, Nat.reduceAdd, Nat.reduceMul, Nat.reduceLeDiff, Nat.reduceSub, Nat.reduceLT, Nat.reduceBEq, Int.reduceToNat, reduceCtorEq, ↓reduceIte, Int.reduceEq, Int.reduceNeg, Int.reduceLT, Int.reduceLE, Int.reduceAdd, Int.reduceSub, Int.reduceMul] | simp -implicitDefEqProofs (disch := omega) only [set_bools, List.length_replicate, List.length_set, Int.toNat_natCast, iaq_vec, iao_arr, iaq_raw, rd_map, wrap_id, binq_quo, binq_rem, binq_shl, binq_shr, tdiv_pos, tmod_pos, if_pos, exV_some, Option.map_some] | ((first | with_reducible apply exIf_dec | ((with_reducible apply exGd_dec); focus exact rfl) | ((with_reducible apply exGq_dec); focus exact rfl) | with_reducible apply exIf_intro | ((with_reducible apply exGd_intro); focus exact rfl) | ((with_reducible apply exGq_intro); focus exact rfl)) <;> intro _) | with_reducible refine exC_pure (cc _) ?_ | with_reducible refine exCq_pure (cc _) ?_)
    all_goals first | exact h | (exfalso; omega) | skip
    done
  | false =>
    have ha : aroundAV g edge to depth = .tup [.vec true [] 0, iv 5] := by rw [aroundAV, aroundW, if_neg (by rw [hok]; simp)]; rfl
    rw [ha] at h
    have ht : ends g edge = ((ends g edge).1, (ends g edge).2.1, false) := Prod.ext rfl (Prod.ext rfl hok)
    rw [ht, triIIB] at c2
    obtain ⟨cs, hcs⟩ : ∃ cs, tab g = .box cs 0 := ⟨_, rfl⟩
    rw [hcs] at c1 ⊢
    simp -implicitDefEqProofs only [sc_repair_Around, go_sem, Nat.reduceEqDiff, Nat.reduceAdd, Nat.reduceMul, Nat.reduceLeDiff, Nat.reduceSub, Nat.reduceLT, Nat.reduceBEq, Int.reduceToNat, reduceCtorEq, ↓reduceIte, Int.reduceEq, Int.reduceNeg, Int.reduceLT, Int.reduceLE, Int.reduceAdd, Int.reduceSub, Int.reduceMul]
    repeat' (first | simp -implicitDefEqProofs only [go_sem, Nat.reduceEqDiff, Nat.reduceAdd, Nat.reduceMul, Nat.reduceLeDiff, Nat.reduceSub, Nat.reduceLT, Nat.reduceBEq, Int.reduceToNat, reduceCtorEq, ↓reduceIte, Int.reduceEq, Int.reduceNeg, Int.reduceLT, Int.reduceLE, Int.reduceAdd, Int.reduceSub, Int.reduceMul] | simp -implicitDefEqProofs (disch := omega) only [iaq_vec, iao_arr, iaq_raw, rd_map, wrap_id, binq_quo, binq_rem, binq_shl, binq_shr, tdiv_pos, tmod_pos, if_pos, exV_some, Option.map_some] | ((first | with_reducible apply exIf_dec | ((with_reducible apply exGd_dec); focus exact rfl) | ((with_reducible apply exGq_dec); focus exact rfl) | with_reducible apply exIf_intro | ((with_reducible apply exGd_intro); focus exact rfl) | ((with_reducible apply exGq_intro); focus exact rfl)) <;> intro _) | with_reducible refine exC_pure (c1 _) ?_ | with_reducible refine exCq_pure (c1 _) ?_ | with_reducible refine exC_pure (c2 _) ?_ | with_reducible refine exCq_pure (c2 _) ?_)
    all_goals first | exact h | (exfalso; omega) | skip
    done
theorem num18_c (x : Int) (H : AHeap) : APure Try.prog 28 [iv x] H (iv x) := by
  intro Q h
  refine ACalls.of_code fn_waymarklaw18_num ?_
  simp -implicitDefEqProofs only [sc_waymarklaw18_num, go_sem, Nat.reduceEqDiff, Nat.reduceAdd, Nat.reduceMul, Nat.reduceLeDiff, Nat.reduceSub, Nat.reduceLT, Nat.reduceBEq, Int.reduceToNat, reduceCtorEq, ↓reduceIte, Int.reduceEq, Int.reduceNeg, Int.reduceLT, Int.reduceLE, Int.reduceAdd, Int.reduceSub, Int.reduceMul]
  exact h
end Go.Proofs.Ytejmcijcdhoogaa
end

section
/- A row of nodes, one of its links doubled: what leads around that link. -/
namespace Go.Proofs.Ytejmcijcdhoogaa
open Go Abs
attribute [local irreducible] EX exL exG exC exCq exS exV exIf exGd exGq
set_option maxHeartbeats 1000000
theorem right_wR {g : Graph} (hc : (check g).2 = 0) {a b : Int} (ha : 0 ≤ a ∧ a < g.nodes) (hb : 0 ≤ b ∧ b < g.nodes) : rightErr g (wR a b) = 0 := by
  rw [rightErr, if_neg (by omega), if_neg, if_neg (by simp [wR]), if_neg (by simp [wR]), if_neg (by simp [wR])]
  have h1 : noNode g (wR a b).src = false := by simp [noNode, wR, ha]
  have h2 : noNode g (wR a b).dst = false := by simp [noNode, wR, hb]
  rw [h1, h2]
  simp [wR]
theorem pruned_wR {g : Graph} {a b : Int} {down : List Bool} (hl : down.length = g.links.length) : pruned g (wR a b) down = down := by
  apply List.ext_getElem
  · simp [pruned, hl]
  · intro i h1 h2
    simp only [pruned, List.getElem_map, List.getElem_range, prunedAt]
    rw [decide_eq_true (by omega), Bool.true_and, gi_get (by omega)]
    simp [hasI, wR]
theorem pts_wR (a b : Int) : pts (wR a b) = [a, b] := rfl
theorem far_wR {g : Graph} {a b : Int} {down : List Bool} (hl : down.length = g.links.length) : farOf g (wR a b) down 1 = distL g down b := by
  rw [farOf, pruned_wR hl, pts_wR]; rfl
/-- there is a way, or none -/
theorem opt_wR {g : Graph} (hc : (check g).2 = 0) {a b : Int} {down : List Bool} (hl : down.length = g.links.length) (ha : 0 ≤ a ∧ a < g.nodes) (hb : 0 ≤ b ∧ b < g.nodes) : optErr g (wR a b) down = if gi (distL g down b) a < 0 then 8 else 0 := by
  have hr := right_wR hc ha hb
  have hz : leg g (wR a b) down 0 = gi (distL g down b) a := by rw [leg, pruned_wR hl, pts_wR]; rfl
  have hn : noLeg g (wR a b) down ((wR a b).via.length + 1) = decide (gi (distL g down b) a < 0) := by
    show noLeg g (wR a b) down (0 + 1) = _
    rw [noLeg_succ]
    simp [noLeg, hz]
  rw [optErr, if_neg (by omega), hn]
  by_cases h : gi (distL g down b) a < 0
  · rw [if_pos (by simpa using h), if_pos h]
  · rw [if_neg (by simpa using h), if_neg h, if_neg (by simp [wR])]
theorem start_wR {a b : Int} (h : a ≠ b) : startW (wR a b) = (a, 0) := by
  rw [startW, pts_wR, come_stop (by decide)]
  · rfl
  · rintro ⟨-, h2⟩
    exact h h2.symm
theorem goal_wR (a b : Int) : goalW (wR a b) = (b, 1) := rfl
/-- an edge that a cheaper one doubles is in no table -/
theorem nxt_dear {g : Graph} (hf : Fit g) {a x e e' : Int} (h0 : 0 ≤ e' ∧ e' < 2 * g.links.length) (h1 : (ends g e').1 = a) (h2 : (ends g e').2.1 = (ends g e).2.1) (h3 : wt g e' < wt g e) : e ∉ nxtOf g a x := by
  intro h
  obtain ⟨⟨ha, hx⟩, ⟨e0, e1⟩, -, h5, h6, h7⟩ := (mem_nxt hf).1 h
  have hb := (hf.b e e0 e1).2
  have q1 : distOf g (ends g e).2.1 x = gi (distL g [] x) (ends g e).2.1 := by rw [distOf, if_pos ⟨hb, hx⟩]
  have q2 : distOf g a x = gi (distL g [] x) a := by rw [distOf, if_pos ⟨ha, hx⟩]
  rw [q1] at h6 h7
  rw [q2] at h5 h7
  have hd := (distL_spec hf [] hx).1
  have hw := hd.way _ hb.1 hb.2 h6
  obtain ⟨-, -, b3, b4, b5, -, b7⟩ := ends_back g e' h0.1 h0.2
  have := Walk.step (e := back e') hw b7 (by omega) (by simp [upE, gi]) (by rw [b4, h2])
  rw [b3, h1, show wt g (back e') = wt g e' by rw [wt, wt, b5]] at this
  have := hd.least _ _ this
  omega
/-- a row with a doubled link -/
structure BrG (g : Graph) (n at_ : Int) : Prop where
  n1 : 2 ≤ n ∧ n ≤ 8
  at1 : 0 ≤ at_ ∧ at_ < n - 1
  nodes : g.nodes = n
  len : (g.links.length : Int) = n
  row : ∀ k : Int, 0 ≤ k → k < n - 1 → gi g.links k = ⟨k, k + 1, 4, 0⟩
  dbl : gi g.links (n - 1) = ⟨at_, at_ + 1, 9, 0⟩
section
variable {g : Graph} {n at_ : Int} (h : BrG g n at_)
include h
theorem BrG.ok : (check g).2 = 0 := by
  have h1 := h.n1
  have h2 := h.nodes
  have h3 := h.len
  have h4 := h.at1
  unfold check
  rw [if_neg (by omega), if_neg (by omega), checkFrom_fine]
  intro x hx
  obtain ⟨k, k0, k1, rfl⟩ := mem_giA hx
  by_cases hk : k = n - 1
  · rw [hk, h.dbl]
    unfold linkErr
    dsimp only
    rw [if_neg (by omega), if_neg (by omega)]
  · rw [h.row k k0 (by omega)]
    unfold linkErr
    dsimp only
    rw [if_neg (by omega), if_neg (by omega)]
theorem BrG.fit : Fit g := fit_of g h.ok
theorem BrG.row_ends {k : Int} (k0 : 0 ≤ k) (k1 : k < n - 1) : ends g (2 * k) = (k, k + 1, true) ∧ ends g (2 * k + 1) = (k + 1, k, true) ∧ wt g (2 * k) = 4 ∧ wt g (2 * k + 1) = 4 := by
  have h3 := h.len
  have hl := h.row k k0 k1
  refine ⟨?_, ?_, ?_, ?_⟩
  · rw [ends, if_neg (by omega), if_neg (by omega), show 2 * k / 2 = k by omega, hl]
  · rw [ends, if_neg (by omega), if_pos (by omega), show (2 * k + 1) / 2 = k by omega, hl]
  · rw [wt, show 2 * k / 2 = k by omega, hl]
  · rw [wt, show (2 * k + 1) / 2 = k by omega, hl]
theorem BrG.dbl_ends : ends g (2 * (n - 1)) = (at_, at_ + 1, true) ∧ ends g (2 * (n - 1) + 1) = (at_ + 1, at_, true) ∧ wt g (2 * (n - 1)) = 9 ∧ wt g (2 * (n - 1) + 1) = 9 := by
  have h3 := h.len
  have h1 := h.n1
  have hl := h.dbl
  refine ⟨?_, ?_, ?_, ?_⟩
  · rw [ends, if_neg (by omega), if_neg (by omega), show 2 * (n - 1) / 2 = n - 1 by omega, hl]
  · rw [ends, if_neg (by omega), if_pos (by omega), show (2 * (n - 1) + 1) / 2 = n - 1 by omega, hl]
  · rw [wt, show 2 * (n - 1) / 2 = n - 1 by omega, hl]
  · rw [wt, show (2 * (n - 1) + 1) / 2 = n - 1 by omega, hl]
theorem BrG.cases {e : Int} (e0 : 0 ≤ e) (e1 : e < 2 * g.links.length) : (∃ k, (0 ≤ k ∧ k < n - 1) ∧ (e = 2 * k ∨ e = 2 * k + 1)) ∨ e = 2 * (n - 1) ∨ e = 2 * (n - 1) + 1 := by
  have h3 := h.len
  by_cases hk : e / 2 < n - 1
  · exact .inl ⟨e / 2, ⟨by omega, hk⟩, by omega⟩
  · right; omega
/-- where a node lies on a line -/
theorem BrG.line {down : List Bool} (hd : ∀ e : Int, 0 ≤ e → e < 2 * g.links.length → upE down e = true → e / 2 ≠ at_) {s v L : Int} (hw : Walk g down s v L) :
    (if v ≤ at_ then 4 * v else 4 * v + 5) - (if s ≤ at_ then 4 * s else 4 * s + 5) ≤ L ∧ (if s ≤ at_ then 4 * s else 4 * s + 5) - (if v ≤ at_ then 4 * v else 4 * v + 5) ≤ L := by
  have h4 := h.at1
  induction hw with
  | nil => omega
  | @step a L e _ e0 e1 hu ha ih =>
    have hg := hd e e0 e1 hu
    obtain ⟨d1, d2, d3, d4⟩ := h.dbl_ends
    rcases h.cases e0 e1 with ⟨k, ⟨k0, k1⟩, rfl | rfl⟩ | rfl | rfl
    · obtain ⟨r1, -, r3, -⟩ := h.row_ends k0 k1
      rw [r1] at ha
      dsimp only at ha
      subst ha
      rw [r1, r3]
      dsimp only
      have : k ≠ at_ := by omega
      split at ih <;> split <;> (try split at ih) <;> (try split) <;> omega
    · obtain ⟨-, r2, -, r4⟩ := h.row_ends k0 k1
      rw [r2] at ha
      dsimp only at ha
      subst ha
      rw [r2, r4]
      dsimp only
      have : k ≠ at_ := by omega
      split at ih <;> split <;> (try split at ih) <;> (try split) <;> omega
    · rw [d1] at ha
      dsimp only at ha
      subst ha
      rw [d1, d3]
      dsimp only
      split at ih <;> split <;> (try split at ih) <;> (try split) <;> omega
    · rw [d2] at ha
      dsimp only at ha
      subst ha
      rw [d2, d4]
      dsimp only
      split at ih <;> split <;> (try split at ih) <;> (try split) <;> omega
end
theorem downR_up {g : Graph} {edge e : Int} (h0 : 0 ≤ edge ∧ edge < 2 * g.links.length) (e0 : 0 ≤ e) (e1 : e < 2 * g.links.length) : upE (downR g edge) e = true ↔ e / 2 ≠ edge / 2 := by
  have hl : (downR g edge).length = g.links.length := by simp [downR]
  unfold upE
  rw [hl, decide_eq_true (show e / 2 < (g.links.length : Int) by omega), Bool.true_and, downR, gi_set (by omega) (by simp; omega) (by omega)]
  have hr : gi (List.replicate g.links.length false) (e / 2) = false := by
    rw [gi_get (by simp; omega)]; simp
  rw [hr]
  split <;> simp_all
theorem downR_length (g : Graph) (edge : Int) : (downR g edge).length = g.links.length := by simp [downR]
theorem segsE_split {k m : Int} (k0 : 0 ≤ k) (k1 : k < m) : ∃ post, segsE m = segsE k ++ ⟨true, k⟩ :: post := by
  obtain ⟨j, rfl⟩ : ∃ j : Nat, m = k + 1 + j := ⟨(m - k - 1).toNat, by omega⟩
  clear k1
  induction j with
  | zero => exact ⟨[], by rw [show k + 1 + ((0 : Nat) : Int) = k + 1 by omega, segsE_succ k0]⟩
  | succ j ih =>
    obtain ⟨post, hp⟩ := ih
    refine ⟨post ++ [⟨true, k + 1 + j⟩], ?_⟩
    rw [show k + 1 + ((j + 1 : Nat) : Int) = k + 1 + j + 1 by omega, segsE_succ (by omega), hp, List.append_assoc, List.cons_append]
theorem segsE_mem {m : Int} {s : Sg} (h : s ∈ segsE m) : s.edge = true ∧ 0 ≤ s.to ∧ s.to < m := by
  unfold segsE at h
  obtain ⟨k, hk, rfl⟩ := List.mem_map.1 h
  rw [List.mem_range] at hk
  exact ⟨rfl, by dsimp only; omega, by dsimp only; omega⟩
theorem segsN_mem {m : Int} {s : Sg} (h : s ∈ segsN m) : s.edge = false ∧ 0 ≤ s.to ∧ s.to < m := by
  unfold segsN at h
  obtain ⟨k, hk, rfl⟩ := List.mem_map.1 h
  rw [List.mem_range] at hk
  exact ⟨rfl, by dsimp only; omega, by dsimp only; omega⟩
/-- one edge alone leads on from the start, and no table has it -/
theorem comp_edge {g : Graph} {w : Want} {down : List Bool} (h0 : optErr g w down = 0) (hne : startW w ≠ goalW w) {depth : Int} (hd : 1 ≤ depth) {k : Int} (k0 : 0 ≤ k ∧ k < 2 * g.links.length) (hs : stepW g w down (startW w) k = some (goalW w)) (hone : ∀ e c, stepW g w down (startW w) e = some c → e = k) (hdear : ∀ x, k ∉ nxtOf g (startW w).1 x) : compW g w down depth = ([⟨true, k⟩], 0) := by
  have hf := (wfit_of (optErr_right h0)).fit
  obtain ⟨post, hp⟩ := segsE_split (m := 2 * g.links.length) k0.1 k0.2
  refine comp_one h0 hne hd (pre := segsN g.nodes ++ segsE k) (s := ⟨true, k⟩) (post := post) (by rw [segsA, hp, List.append_assoc]) (fun s' hs' hh => ?_) (by rw [segW_edge]; exact hs)
  obtain ⟨ed, to⟩ := s'
  rcases List.mem_append.1 hs' with hs' | hs'
  · obtain ⟨rfl, -, -⟩ := segsN_mem hs'
    rw [segW_node, segN] at hh
    split at hh
    · cases hh
    · rename_i hto
      obtain ⟨h1, h2⟩ := endN_next hf hto hh
      cases hl : nxtOf g (startW w).1 to with
      | nil => exact h1 hl
      | cons e l =>
        obtain ⟨b, hb, -⟩ := h2 e (by rw [hl]; simp)
        rw [hone e b hb] at hl
        exact hdear to (by rw [hl]; simp)
  · obtain ⟨rfl, -, h3⟩ := segsE_mem hs'
    rw [segW_edge] at hh
    have := hone _ _ hh
    dsimp only at h3
    omega
end Go.Proofs.Ytejmcijcdhoogaa
end

section
/- The law RepairBridge of chapter 18, as a contract. -/
namespace Go.Proofs.Ytejmcijcdhoogaa
open Go Abs
attribute [local irreducible] EX exL exG exC exCq exS exV exIf exGd exGq
set_option maxHeartbeats 4000000
section
variable {g : Graph} {n at_ : Int} (h : BrG g n at_)
include h
theorem BrG.far {down : List Bool} (hd : ∀ e : Int, 0 ≤ e → e < 2 * g.links.length → (upE down e = true ↔ e / 2 ≠ at_)) : gi (distL g down (at_ + 1)) at_ = 9 ∧ gi (distL g down at_) (at_ + 1) = 9 := by
  have h1 := h.n1
  have h3 := h.len
  have h4 := h.at1
  have hn := h.nodes
  have hf := h.fit
  obtain ⟨d1, d2, d3, d4⟩ := h.dbl_ends
  have key : ∀ s v e : Int, (0 ≤ s ∧ s < n) → (0 ≤ v ∧ v < n) → (0 ≤ e ∧ e < 2 * g.links.length) → e / 2 ≠ at_ → ends g e = (s, v, true) → wt g e = 9 → (s = at_ ∧ v = at_ + 1 ∨ s = at_ + 1 ∧ v = at_) → gi (distL g down s) v = 9 := by
    intro s v e hs hv he hne hee hw hsv
    have hdd := (distL_spec hf down (s := s) (by omega)).1
    have w1 := Walk.step (e := e) (Walk.nil (g := g) (down := down) (s := s)) he.1 he.2 ((hd e he.1 he.2).2 hne) (by rw [hee])
    rw [hee, hw] at w1
    dsimp only at w1
    have l1 := hdd.least _ _ w1
    have l2 := h.line (fun e e0 e1 hu => (hd e e0 e1).1 hu) (hdd.way v (by omega) (by omega) l1.1)
    rcases hsv with ⟨rfl, rfl⟩ | ⟨rfl, rfl⟩
    · rw [if_neg (by omega), if_pos (by omega)] at l2; omega
    · rw [if_pos (by omega), if_neg (by omega)] at l2; omega
  exact ⟨key (at_ + 1) at_ (2 * (n - 1) + 1) (by omega) (by omega) (by omega) (by omega) d2 d4 (.inr ⟨rfl, rfl⟩), key at_ (at_ + 1) (2 * (n - 1)) (by omega) (by omega) (by omega) (by omega) d1 d3 (.inl ⟨rfl, rfl⟩)⟩
theorem BrG.comp {edge a b k : Int} (hab : (a = at_ ∧ b = at_ + 1 ∧ edge = 2 * at_ ∧ k = 2 * (n - 1)) ∨ (a = at_ + 1 ∧ b = at_ ∧ edge = 2 * at_ + 1 ∧ k = 2 * (n - 1) + 1)) : compW g (wR a b) (downR g edge) 5 = ([⟨true, k⟩], 0) := by
  have h1 := h.n1
  have h3 := h.len
  have h4 := h.at1
  have hn := h.nodes
  have hf := h.fit
  obtain ⟨d1, d2, d3, d4⟩ := h.dbl_ends
  have hdl := downR_length g edge
  have hup : ∀ e : Int, 0 ≤ e → e < 2 * g.links.length → (upE (downR g edge) e = true ↔ e / 2 ≠ at_) := fun e e0 e1 => by
    rw [downR_up (by omega) e0 e1, show edge / 2 = at_ by omega]
  obtain ⟨f1, f2⟩ := h.far hup
  have hfar : gi (distL g (downR g edge) b) a = 9 := by
    rcases hab with ⟨rfl, rfl, -, -⟩ | ⟨rfl, rfl, -, -⟩
    · exact f1
    · exact f2
  have hz : gi (distL g (downR g edge) b) b = 0 := (distL_spec hf _ (s := b) (by omega)).1.zero hf (by omega)
  have h0 : optErr g (wR a b) (downR g edge) = 0 := by rw [opt_wR h.ok hdl (by omega) (by omega), hfar]; rfl
  have hst := start_wR (a := a) (b := b) (by omega)
  have hgo := goal_wR a b
  have hke : ends g k = (a, b, true) ∧ wt g k = 9 := by
    rcases hab with ⟨rfl, rfl, -, rfl⟩ | ⟨rfl, rfl, -, rfl⟩
    · exact ⟨d1, d3⟩
    · exact ⟨d2, d4⟩
  refine comp_edge h0 (by rw [hst, hgo]; simp) (by decide) (k := k) (by omega) ?_ (fun e c hc => ?_) fun x => ?_
  · rw [hst, hgo, stepW, if_pos]
    · rw [hke.1, pts_wR]
      dsimp only
      rw [come_go (by decide) (by show (0 : Int) + 1 < 2; decide) (by rfl), come_stop (by decide)]
      · rfl
      · rintro ⟨hh, -⟩
        exact absurd hh (by show ¬ ((0 : Int) + 1 + 1 < 2); decide)
    · refine ⟨h0, ⟨by dsimp only; omega, by show (0 : Int) < 0 + 1; decide⟩, by dsimp only; omega, ?_, by rw [hke.1], by rw [hke.1], by rw [pruned_wR hdl, hup k (by omega) (by omega)]; omega, ?_, ?_⟩
      · rw [pts_wR]; show b ≠ a; omega
      · show 0 ≤ gi (farOf g (wR a b) (downR g edge) 1) _
        rw [far_wR hdl, hke.1, hz]; decide
      · show gi (farOf g (wR a b) (downR g edge) 1) _ = gi (farOf g (wR a b) (downR g edge) 1) _ + _
        rw [far_wR hdl, hke.1, hke.2, hz]; exact hfar
  · rw [hst] at hc
    obtain ⟨⟨-, -, -, -, g5, g6, g7, g8, g9⟩, -⟩ := stepW_some hc
    change 0 ≤ gi (farOf g (wR a b) (downR g edge) 1) _ at g8
    change gi (farOf g (wR a b) (downR g edge) 1) a = gi (farOf g (wR a b) (downR g edge) 1) _ + _ at g9
    rw [far_wR hdl] at g8 g9
    rw [hfar] at g9
    rw [pruned_wR hdl] at g7
    obtain ⟨e0, e1⟩ := ends_ok g5
    have g7' := (hup e e0 e1).1 g7
    have hb := (hf.b e e0 e1).2
    have hwk := h.line (fun e e0 e1 hu => (hup e e0 e1).1 hu) ((distL_spec hf (downR g edge) (s := b) (by omega)).1.way _ hb.1 hb.2 g8)
    rcases h.cases e0 e1 with ⟨j, ⟨j0, j1⟩, rfl | rfl⟩ | rfl | rfl
    · obtain ⟨r1, -, r3, -⟩ := h.row_ends j0 j1
      rw [r1] at g6 g9 hwk
      rw [r3] at g9
      dsimp only at g6 g9 hwk
      exfalso
      rcases hab with ⟨rfl, rfl, -, -⟩ | ⟨rfl, rfl, -, -⟩
      · omega
      · rw [if_neg (by omega), if_pos (by omega)] at hwk
        omega
    · obtain ⟨-, r2, -, r4⟩ := h.row_ends j0 j1
      rw [r2] at g6 g9 hwk
      rw [r4] at g9
      dsimp only at g6 g9 hwk
      exfalso
      rcases hab with ⟨rfl, rfl, -, -⟩ | ⟨rfl, rfl, -, -⟩
      · rw [if_pos (by omega), if_neg (by omega)] at hwk
        omega
      · omega
    · rw [d1] at g6
      dsimp only at g6
      rcases hab with ⟨rfl, rfl, -, rfl⟩ | ⟨rfl, rfl, -, rfl⟩
      · rfl
      · omega
    · rw [d2] at g6
      dsimp only at g6
      rcases hab with ⟨rfl, rfl, -, rfl⟩ | ⟨rfl, rfl, -, rfl⟩
      · omega
      · rfl
  · rw [hst]
    obtain ⟨r1, r2, r3, r4⟩ := h.row_ends h4.1 h4.2
    rcases hab with ⟨rfl, rfl, -, rfl⟩ | ⟨rfl, rfl, -, rfl⟩
    · exact nxt_dear hf (e' := 2 * a) (by omega) (by rw [r1]) (by rw [r1, d1]) (by rw [r3, d3]; decide)
    · exact nxt_dear hf (e' := 2 * b + 1) (by omega) (by rw [r2]) (by rw [r2, d2]) (by rw [r4, d4]; decide)
end
/-- a row alone: nothing leads around its links -/
theorem row_none {g : Graph} (h : RowG g fun _ => 4) {at_ edge a b : Int} (h4 : 0 ≤ at_ ∧ at_ < g.links.length) (he : edge / 2 = at_) (he2 : 0 ≤ edge ∧ edge < 2 * g.links.length) (hab : (a = at_ ∧ b = at_ + 1) ∨ (a = at_ + 1 ∧ b = at_)) (depth : Int) : compW g (wR a b) (downR g edge) depth = ([], 8) := by
  have hn := h.nodes
  have hd := h.dist (down := downR g edge) (gone := at_) (fun e e0 e1 => by rw [downR_up he2 e0 e1, he]) (s := b) (v := a) (by omega) (by omega)
  rw [if_pos (by omega)] at hd
  have h0 : optErr g (wR a b) (downR g edge) = 8 := by rw [opt_wR h.ok (downR_length _ _) (by omega) (by omega), hd]; rfl
  rw [compW, if_pos (by rw [h0]; decide), h0]
theorem alive18_c (H : AHeap) : APure Try.prog 25 [] H (bv true) := by
  intro Q h
  refine ACalls.of_code fn_waymarklaw18_alive ?_
  have hd : (1 : Int) ≤ 1 ∧ (1 : Int) ≤ 16777216 := by decide
  have hck : (check (tri 1 1)).2 = 0 := by rw [tri_check hd hd]
  have c1 := tables16_c (tri 1 1) (by decide) (fun hh => by cases hh) H
  rw [tabs16, if_pos hck] at c1
  have ca := around_c (tri 1 1) (by decide) (fun hh => by cases hh) 9 0 3 (by decide) H
  have cb := around_c (tri 1 1) (by decide) (fun hh => by cases hh) 0 1 3 (by decide) H
  have ht : TriW 1 1 (wR 0 1) (downR (tri 1 1) 0) [true, false, false] [2 * 1, 0, 1] := by
    have hp : pruned (tri 1 1) (wR 0 1) (downR (tri 1 1) 0) = [true, false, false] := rfl
    exact ⟨hd, hd, rfl, rfl, rfl, hp, tri_opt ⟨rfl, rfl, rfl, rfl⟩ (right_wR hck (by decide) (by decide)) hp (tri_f1 hd hd) (by decide), tri_f1 hd hd⟩
  rw [aroundAV, aroundW, if_neg (by decide)] at ca
  rw [aroundAV, aroundW, if_pos (by decide), show (ends (tri 1 1) 0).1 = 0 from rfl, tri_nodes2 ht (by decide) (by decide)] at cb
  obtain ⟨cs, hcs⟩ : ∃ cs, tab (tri 1 1) = .box cs 0 := ⟨_, rfl⟩
  obtain ⟨ds, hds⟩ : ∃ cs, refTab (tri 1 1) = .box cs 0 := ⟨_, rfl⟩
  rw [hcs] at c1 ca cb
  rw [hds] at c1
  simp only [Graph.av, tri] at c1
  simp only [rows, List.flatMap_cons, List.flatMap_nil, List.append_nil, Link.cells_eq, Sg.cells_eq, List.map_cons, List.map_nil, List.length_cons, List.length_nil, List.isEmpty_nil, List.isEmpty_cons, Nat.zero_add, Int.natCast_zero, Int.zero_add, Int.cast_ofNat_Int, List.cons_append, List.nil_append] at c1 ca cb
  simp -implicitDefEqProofs only [sc_waymarklaw18_alive, go_sem, Nat.reduceEqDiff, Nat.reduceAdd, Nat.reduceMul, Nat.reduceLeDiff, Nat.reduceSub, Nat.reduceLT, Nat.reduceBEq, Int.reduceToNat, reduceCtorEq, ↓reduceIte, Int.reduceEq, Int.reduceNeg, Int.reduceLT, Int.reduceLE, Int.reduceAdd, Int.reduceSub, Int.reduceMul]
  repeat' (first | simp -implicitDefEqProofs only [go_sem, Nat.reduceEqDiff, Nat.reduceAdd, Nat.reduceMul, Nat.reduceLeDiff, Nat.reduceSub, Nat.reduceLT, Nat.reduceBEq, Int.reduceToNat, reduceCtorEq, ↓reduceIte, Int.reduceEq, Int.reduceNeg, Int.reduceLT, Int.reduceLE, Int.reduceAdd, Int.reduceSub, Int.reduceMul] | simp -implicitDefEqProofs (disch := omega) only [iaq_vec, iao_arr, iaq_raw, rd_map, wrap_id, binq_quo, binq_rem, binq_shl, binq_shr, tdiv_pos, tmod_pos, if_pos, exV_some, Option.map_some] | ((first | with_reducible apply exIf_dec | ((with_reducible apply exGd_dec); focus exact rfl) | ((with_reducible apply exGq_dec); focus exact rfl) | with_reducible apply exIf_intro | ((with_reducible apply exGd_intro); focus exact rfl) | ((with_reducible apply exGq_intro); focus exact rfl)) <;> intro _) | with_reducible refine exC_pure (c1) ?_ | with_reducible refine exCq_pure (c1) ?_ | with_reducible refine exC_pure (ca) ?_ | with_reducible refine exCq_pure (ca) ?_ | with_reducible refine exC_pure (cb) ?_ | with_reducible refine exCq_pure (cb) ?_ | with_reducible refine exC_pure (num18_c _ _) ?_ | with_reducible refine exCq_pure (num18_c _ _) ?_)
  all_goals first | exact h | skip
  done
end Go.Proofs.Ytejmcijcdhoogaa
end

section
/- The law RepairBridge of chapter 18, as a contract. -/
namespace Go.Proofs.Ytejmcijcdhoogaa
open Go Abs
attribute [local irreducible] EX exL exG exC exCq exS exV exIf exGd exGq
set_option maxHeartbeats 4000000
theorem repairBridge_c (n at_ : Int) (hn64 : -9223372036854775808 ≤ n ∧ n ≤ 9223372036854775807) (dbl : Bool) (H : AHeap) : APure Try.prog 9 [iv n, iv at_, bv dbl] H (bv true) := by
  intro Q h
  refine ACalls.forget (ACalls.of_code fn_waymarklaw18_RepairBridge ?_)
  by_cases hin : 2 ≤ n ∧ n ≤ 8 ∧ 0 ≤ at_ ∧ at_ < n - 1
  case neg =>
    simp -implicitDefEqProofs only [sc_waymarklaw18_RepairBridge, go_sem, Nat.reduceEqDiff, Nat.reduceAdd, Nat.reduceMul, Nat.reduceLeDiff, Nat.reduceSub, Nat.reduceLT, Nat.reduceBEq, Int.reduceToNat, reduceCtorEq, ↓reduceIte, Int.reduceEq, Int.reduceNeg, Int.reduceLT, Int.reduceLE, Int.reduceAdd, Int.reduceSub, Int.reduceMul]
    refine exC_pure (alive18_c _) ?_
    repeat' (first | simp -implicitDefEqProofs only [go_sem, Nat.reduceEqDiff, Nat.reduceAdd, Nat.reduceMul, Nat.reduceLeDiff, Nat.reduceSub, Nat.reduceLT, Nat.reduceBEq, Int.reduceToNat, reduceCtorEq, ↓reduceIte, Int.reduceEq, Int.reduceNeg, Int.reduceLT, Int.reduceLE, Int.reduceAdd, Int.reduceSub, Int.reduceMul] | simp -implicitDefEqProofs (disch := omega) only [iaq_vec, iao_arr, iaq_raw, rd_map, wrap_id, binq_quo, binq_rem, binq_shl, binq_shr, tdiv_pos, tmod_pos, if_pos, exV_some, Option.map_some] | ((first | with_reducible apply exIf_dec | ((with_reducible apply exGd_dec); focus exact rfl) | ((with_reducible apply exGq_dec); focus exact rfl) | with_reducible apply exIf_intro | ((with_reducible apply exGd_intro); focus exact rfl) | ((with_reducible apply exGq_intro); focus exact rfl)) <;> intro _))
    all_goals first | exact ⟨fun _ _ h => h, h⟩ | (exfalso; omega) | skip
    done
  obtain ⟨n2, n8, a0, a1⟩ := hin
  simp -implicitDefEqProofs only [sc_waymarklaw18_RepairBridge, go_sem, Nat.reduceEqDiff, Nat.reduceAdd, Nat.reduceMul, Nat.reduceLeDiff, Nat.reduceSub, Nat.reduceLT, Nat.reduceBEq, Int.reduceToNat, reduceCtorEq, ↓reduceIte, Int.reduceEq, Int.reduceNeg, Int.reduceLT, Int.reduceLE, Int.reduceAdd, Int.reduceSub, Int.reduceMul]
  refine exC_pure (alive18_c _) ?_
  repeat' (first | simp -implicitDefEqProofs only [go_sem, Nat.reduceEqDiff, Nat.reduceAdd, Nat.reduceMul, Nat.reduceLeDiff, Nat.reduceSub, Nat.reduceLT, Nat.reduceBEq, Int.reduceToNat, reduceCtorEq, ↓reduceIte, Int.reduceEq, Int.reduceNeg, Int.reduceLT, Int.reduceLE, Int.reduceAdd, Int.reduceSub, Int.reduceMul] | simp -implicitDefEqProofs (disch := omega) only [iaq_vec, iao_arr, iaq_raw, rd_map, wrap_id, binq_quo, binq_rem, binq_shl, binq_shr, tdiv_pos, tmod_pos, if_pos, exV_some, Option.map_some] | ((first | with_reducible apply exIf_dec | ((with_reducible apply exGd_dec); focus exact rfl) | ((with_reducible apply exGq_dec); focus exact rfl) | with_reducible apply exIf_intro | ((with_reducible apply exGd_intro); focus exact rfl) | ((with_reducible apply exGq_intro); focus exact rfl)) <;> intro _))
  all_goals first | (exfalso; omega) | skip
  obtain ⟨lk, hlk⟩ : ∃ lk : Int → Link, lk = fun k => ⟨k, k + 1, 4, 0⟩ := ⟨_, rfl⟩
  refine exL_modH (fun a : Int × AV × AHeap => [(9, .v (iv a.1))]) (fun a => [(8, .cells [iv n, a.2.1] 24)]) (fun a => a.2.2)
    (fun a => 0 ≤ a.1 ∧ a.1 ≤ n - 1 ∧ LinksAt H a.2.2 a.2.1 ((List.range a.1.toNat).map fun (k : Nat) => lk (k : Int))) (fun a => (n - 1 - a.1).toNat) (0, .vec true [] 0, _) rfl ⟨by simp, by dsimp only; omega, fun b' o ho => ho, .inl ⟨rfl, rfl⟩⟩ ?_
  rintro ⟨i, sv, H'⟩ ⟨i0, i1, hT⟩ ih
  dsimp only at i0 i1 hT ih
  simp only [S.up, S.upH, ups, Abs.put, Nat.reduceEqDiff, ↓reduceIte, Nat.reduceAdd] at ih
  simp -implicitDefEqProofs only [congrArg KI.code sc_waymarklaw18_RepairBridge_L0.eq_1, go_sem, Nat.reduceEqDiff, Nat.reduceAdd, Nat.reduceMul, Nat.reduceLeDiff, Nat.reduceSub, Nat.reduceLT, Nat.reduceBEq, Int.reduceToNat, reduceCtorEq, ↓reduceIte, Int.reduceEq, Int.reduceNeg, Int.reduceLT, Int.reduceLE, Int.reduceAdd, Int.reduceSub, Int.reduceMul]
  by_cases hi : i < n - 1
  · obtain ⟨Li, hLi⟩ : ∃ Li, Li = (List.range i.toNat).map fun (k : Nat) => lk (k : Int) := ⟨_, rfl⟩
    have hlen : Li.length = i.toNat := by rw [hLi]; simp
    rw [← hLi] at hT
    obtain ⟨ob, cap, hp, hob⟩ := hT.pre
    repeat' (first | simp -implicitDefEqProofs only [go_sem, Nat.reduceEqDiff, Nat.reduceAdd, Nat.reduceMul, Nat.reduceLeDiff, Nat.reduceSub, Nat.reduceLT, Nat.reduceBEq, Int.reduceToNat, reduceCtorEq, ↓reduceIte, Int.reduceEq, Int.reduceNeg, Int.reduceLT, Int.reduceLE, Int.reduceAdd, Int.reduceSub, Int.reduceMul] | simp -implicitDefEqProofs (disch := omega) only [iaq_vec, iao_arr, iaq_raw, rd_map, wrap_id, binq_quo, binq_rem, binq_shl, binq_shr, tdiv_pos, tmod_pos, if_pos, exV_some, Option.map_some] | ((first | with_reducible apply exIf_dec | ((with_reducible apply exGd_dec); focus exact rfl) | ((with_reducible apply exGq_dec); focus exact rfl) | with_reducible apply exIf_intro | ((with_reducible apply exGd_intro); focus exact rfl) | ((with_reducible apply exGq_intro); focus exact rfl)) <;> intro _))
    all_goals first | (exfalso; omega) | skip
    rw [hp]
    refine hapK_pos rfl (by omega) (by simp only [maxLen]; omega) (by omega) ?_
    intro b2 cap2 hb2 hc2
    simp only [S.newhd]
    have hS := hT.push hob hb2 hc2 (lk i)
    have eL : ((List.range (i + 1).toNat).map fun (k : Nat) => lk (k : Int)) = Li ++ [lk i] := by
      rw [show (i + 1).toNat = i.toNat + 1 by omega, List.range_succ, List.map_append, hLi]
      simp [Int.toNat_of_nonneg i0]
    have hcells : Enc.cells (lk i) = [iv i, iv (i + 1), iv 4, iv 0] := by rw [hlk]; rfl
    rw [hcells] at hS
    have nx := ih (i + 1, .raw (.slice (some ⟨b2, 0, none⟩) (Li.length + 1) cap2), upd (delH H' ob) b2 (some (.row (rows Li ++ [iv i, iv (i + 1), iv 4, iv 0]) cap2 48 4))) ⟨by dsimp only; omega, by dsimp only; omega, by dsimp only; rw [eL]; exact hS⟩ (by dsimp only; omega)
    clear ih
    repeat' (first | simp -implicitDefEqProofs only [go_sem, Nat.reduceEqDiff, Nat.reduceAdd, Nat.reduceMul, Nat.reduceLeDiff, Nat.reduceSub, Nat.reduceLT, Nat.reduceBEq, Int.reduceToNat, reduceCtorEq, ↓reduceIte, Int.reduceEq, Int.reduceNeg, Int.reduceLT, Int.reduceLE, Int.reduceAdd, Int.reduceSub, Int.reduceMul] | simp -implicitDefEqProofs (disch := omega) only [iaq_vec, iao_arr, iaq_raw, rd_map, wrap_id, binq_quo, binq_rem, binq_shl, binq_shr, tdiv_pos, tmod_pos, if_pos, exV_some, Option.map_some] | ((first | with_reducible apply exIf_dec | ((with_reducible apply exGd_dec); focus exact rfl) | ((with_reducible apply exGq_dec); focus exact rfl) | with_reducible apply exIf_intro | ((with_reducible apply exGd_intro); focus exact rfl) | ((with_reducible apply exGq_intro); focus exact rfl)) <;> intro _))
    all_goals first | exact nx | (exfalso; omega) | skip
    done
  · have hi' : i = n - 1 := by omega
    subst hi'
    obtain ⟨L, hL⟩ : ∃ L, L = (List.range (n - 1).toNat).map fun (k : Nat) => lk (k : Int) := ⟨_, rfl⟩
    rw [← hL] at hT
    have hLn : L.length = (n - 1).toNat := by rw [hL]; simp
    have gL : ∀ k : Int, 0 ≤ k → k < n - 1 → gi L k = ⟨k, k + 1, 4, 0⟩ := by
      intro k k0 k1
      rw [gi_get (by omega)]
      simp only [hL, List.getElem_map, List.getElem_range]
      rw [Int.toNat_of_nonneg k0, hlk]
    clear ih hL
    cases dbl with
    | true =>
      obtain ⟨ob, cap0, hp, hob⟩ := hT.pre
      repeat' (first | simp -implicitDefEqProofs only [go_sem, Nat.reduceEqDiff, Nat.reduceAdd, Nat.reduceMul, Nat.reduceLeDiff, Nat.reduceSub, Nat.reduceLT, Nat.reduceBEq, Int.reduceToNat, reduceCtorEq, ↓reduceIte, Int.reduceEq, Int.reduceNeg, Int.reduceLT, Int.reduceLE, Int.reduceAdd, Int.reduceSub, Int.reduceMul] | simp -implicitDefEqProofs (disch := omega) only [iaq_vec, iao_arr, iaq_raw, rd_map, wrap_id, binq_quo, binq_rem, binq_shl, binq_shr, tdiv_pos, tmod_pos, if_pos, exV_some, Option.map_some] | ((first | with_reducible apply exIf_dec | ((with_reducible apply exGd_dec); focus exact rfl) | ((with_reducible apply exGq_dec); focus exact rfl) | with_reducible apply exIf_intro | ((with_reducible apply exGd_intro); focus exact rfl) | ((with_reducible apply exGq_intro); focus exact rfl)) <;> intro _))
      all_goals first | (exfalso; omega) | skip
      rw [hp]
      refine hapK_pos rfl (by omega) (by simp only [maxLen]; omega) (by omega) ?_
      intro b2 cap2 hb2 hc2
      simp only [S.newhd]
      have hS := hT.push hob hb2 hc2 ⟨at_, at_ + 1, 9, 0⟩
      rw [Link.cells_eq] at hS
      dsimp only at hS
      obtain ⟨M, hM⟩ : ∃ M, M = L ++ [(⟨at_, at_ + 1, 9, 0⟩ : Link)] := ⟨_, rfl⟩
      have hMr : rows L ++ [iv at_, iv (at_ + 1), iv 9, iv 0] = rows M := by rw [hM, rows_append, rows_one]; rfl
      have hMl : M.length = L.length + 1 := by rw [hM]; simp
      rw [← hM, hMr] at hS
      rw [hMr]
      have gr : ∀ k : Int, 0 ≤ k → k < n - 1 → gi M k = ⟨k, k + 1, 4, 0⟩ := fun k k0 k1 => by
        rw [← gL k k0 k1, gi_get (by omega), gi_get (by omega)]
        simp only [hM]
        rw [List.getElem_append_left (by omega)]
      have gd : gi M (n - 1) = ⟨at_, at_ + 1, 9, 0⟩ := by
        rw [gi_get (by omega)]
        simp only [hM]
        rw [List.getElem_append_right (by omega)]
        simp [hLn]
      have hB : BrG ⟨n, false, M⟩ n at_ := ⟨⟨n2, n8⟩, ⟨a0, a1⟩, rfl, by dsimp only; omega, gr, gd⟩
      have hrl := rows_length M
      rw [Link.sz_eq] at hrl
      have hck := hB.ok
      have c1 := fun H => tables16_c ⟨n, false, M⟩ (by dsimp only; omega) (fun hh => by cases hh) H
      rw [tabs16, if_pos hck] at c1
      have ca := fun H => around_c ⟨n, false, M⟩ (by dsimp only; omega) (fun hh => by cases hh) (2 * at_) (at_ + 1) 5 (by omega) H
      have cb := fun H => around_c ⟨n, false, M⟩ (by dsimp only; omega) (fun hh => by cases hh) (2 * at_ + 1) at_ 5 (by omega) H
      obtain ⟨r1, r2, -, -⟩ := hB.row_ends a0 a1
      rw [aroundAV, aroundW, r1, if_pos rfl, hB.comp (.inl ⟨rfl, rfl, rfl, rfl⟩)] at ca
      rw [aroundAV, aroundW, r2, if_pos rfl, hB.comp (.inr ⟨rfl, rfl, rfl, rfl⟩)] at cb
      obtain ⟨cs, hcs⟩ : ∃ cs, tab ⟨n, false, M⟩ = .box cs 0 := ⟨_, rfl⟩
      obtain ⟨ds, hds⟩ : ∃ cs, refTab ⟨n, false, M⟩ = .box cs 0 := ⟨_, rfl⟩
      rw [hcs] at c1 ca cb
      rw [hds] at c1
      simp only [Graph.av] at c1
      simp only [rows_one, Sg.cells_eq, List.length_cons, List.length_nil, List.isEmpty_cons, Nat.zero_add] at ca cb
      obtain ⟨hbs, ⟨hl0, hv0⟩ | ⟨b3, cap3, hv, hat, hn2, hcap⟩⟩ := hS
      · rw [hl0] at hMl; simp at hMl
      obtain ⟨rfl, rfl⟩ : b2 = b3 ∧ cap2 = cap3 := by injection hv with hv; injection hv with h1 h2 h3; injection h1 with h1; injection h1 with h1; exact ⟨h1, h3⟩
      rw [hMl] at hrl hcap
      have t1 : (L.length + 1) * 4 ≤ (rows M).length := by omega
      have t3 : (rows M).take ((L.length + 1) * 4) = rows M := List.take_of_length_le (by omega)
      rw [hMl] at c1
      clear gr gd hB hck gL
      repeat' (first | simp -implicitDefEqProofs only [go_sem, Nat.reduceEqDiff, Nat.reduceAdd, Nat.reduceMul, Nat.reduceLeDiff, Nat.reduceSub, Nat.reduceLT, Nat.reduceBEq, Int.reduceToNat, reduceCtorEq, ↓reduceIte, Int.reduceEq, Int.reduceNeg, Int.reduceLT, Int.reduceLE, Int.reduceAdd, Int.reduceSub, Int.reduceMul] | simp -implicitDefEqProofs (disch := omega) only [hat, t1, hcap, t3, Nat.le_refl, and_self, true_and, iaq_vec, iao_arr, iaq_raw, rd_map, wrap_id, binq_quo, binq_rem, binq_shl, binq_shr, tdiv_pos, tmod_pos, if_pos, exV_some, Option.map_some] | ((first | with_reducible apply exIf_dec | ((with_reducible apply exGd_dec); focus exact rfl) | ((with_reducible apply exGq_dec); focus exact rfl) | with_reducible apply exIf_intro | ((with_reducible apply exGd_intro); focus exact rfl) | ((with_reducible apply exGq_intro); focus exact rfl)) <;> intro _) | with_reducible refine exC_pure (c1 _) ?_ | with_reducible refine exCq_pure (c1 _) ?_ | with_reducible refine exC_pure (ca _) ?_ | with_reducible refine exCq_pure (ca _) ?_ | with_reducible refine exC_pure (cb _) ?_ | with_reducible refine exCq_pure (cb _) ?_ | with_reducible refine exC_pure (num18_c _ _) ?_ | with_reducible refine exCq_pure (num18_c _ _) ?_)
      all_goals first | exact ⟨fun b o ho => (upd_ne _ _ (by rintro rfl; rw [hn2] at ho; cases ho)).trans (hbs b o ho), h⟩ | (exfalso; omega) | skip
      done
    | false =>
      have hR : RowG ⟨n, false, L⟩ fun _ => 4 := ⟨by dsimp only; omega, by dsimp only; omega, fun k k0 k1 => gL k k0 (by dsimp only at k1; omega), fun k _ _ => by decide⟩
      have hrl := rows_length L
      rw [Link.sz_eq] at hrl
      have hck := hR.ok
      have c1 := fun H => tables16_c ⟨n, false, L⟩ (by dsimp only; omega) (fun hh => by cases hh) H
      rw [tabs16, if_pos hck] at c1
      have ca := fun H => around_c ⟨n, false, L⟩ (by dsimp only; omega) (fun hh => by cases hh) (2 * at_) (at_ + 1) 5 (by omega) H
      have cb := fun H => around_c ⟨n, false, L⟩ (by dsimp only; omega) (fun hh => by cases hh) (2 * at_ + 1) at_ 5 (by omega) H
      have hea : ends ⟨n, false, L⟩ (2 * at_) = (at_, at_ + 1, true) := hR.ends_even a0 (by dsimp only; omega)
      have heb : ends ⟨n, false, L⟩ (2 * at_ + 1) = (at_ + 1, at_, true) := by
        rw [ends, if_neg (by dsimp only; omega), if_pos (by omega), show (2 * at_ + 1) / 2 = at_ by omega]
        dsimp only
        rw [gL at_ a0 a1]
      rw [aroundAV, aroundW, hea, if_pos rfl, row_none hR (at_ := at_) (by dsimp only; omega) (by omega) (by dsimp only; omega) (.inl ⟨rfl, rfl⟩)] at ca
      rw [aroundAV, aroundW, heb, if_pos rfl, row_none hR (at_ := at_) (by dsimp only; omega) (by omega) (by dsimp only; omega) (.inr ⟨rfl, rfl⟩)] at cb
      obtain ⟨cs, hcs⟩ : ∃ cs, tab ⟨n, false, L⟩ = .box cs 0 := ⟨_, rfl⟩
      obtain ⟨ds, hds⟩ : ∃ cs, refTab ⟨n, false, L⟩ = .box cs 0 := ⟨_, rfl⟩
      rw [hcs] at c1 ca cb
      rw [hds] at c1
      simp only [Graph.av] at c1
      simp only [rows_nil, List.length_nil, List.isEmpty_nil] at ca cb
      obtain ⟨hbs, ⟨hl0, hv0⟩ | ⟨b3, cap3, rfl, hat, hn2, hcap⟩⟩ := hT
      · rw [hl0] at hLn; simp at hLn; omega
      have t1 : L.length * 4 ≤ (rows L).length := by omega
      have t3 : (rows L).take (L.length * 4) = rows L := List.take_of_length_le (by omega)
      clear hck gL hR hea heb
      repeat' (first | simp -implicitDefEqProofs only [go_sem, Nat.reduceEqDiff, Nat.reduceAdd, Nat.reduceMul, Nat.reduceLeDiff, Nat.reduceSub, Nat.reduceLT, Nat.reduceBEq, Int.reduceToNat, reduceCtorEq, ↓reduceIte, Int.reduceEq, Int.reduceNeg, Int.reduceLT, Int.reduceLE, Int.reduceAdd, Int.reduceSub, Int.reduceMul] | simp -implicitDefEqProofs (disch := omega) only [iaq_vec, iao_arr, iaq_raw, rd_map, wrap_id, binq_quo, binq_rem, binq_shl, binq_shr, tdiv_pos, tmod_pos, if_pos, exV_some, Option.map_some] | ((first | with_reducible apply exIf_dec | ((with_reducible apply exGd_dec); focus exact rfl) | ((with_reducible apply exGq_dec); focus exact rfl) | with_reducible apply exIf_intro | ((with_reducible apply exGd_intro); focus exact rfl) | ((with_reducible apply exGq_intro); focus exact rfl)) <;> intro _))
      all_goals first | (exfalso; omega) | skip
      repeat' (first | simp -implicitDefEqProofs only [go_sem, Nat.reduceEqDiff, Nat.reduceAdd, Nat.reduceMul, Nat.reduceLeDiff, Nat.reduceSub, Nat.reduceLT, Nat.reduceBEq, Int.reduceToNat, reduceCtorEq, ↓reduceIte, Int.reduceEq, Int.reduceNeg, Int.reduceLT, Int.reduceLE, Int.reduceAdd, Int.reduceSub, Int.reduceMul] | simp -implicitDefEqProofs (disch := omega) only [hat, t1, hcap, t3, Nat.le_refl, and_self, true_and, iaq_vec, iao_arr, iaq_raw, rd_map, wrap_id, binq_quo, binq_rem, binq_shl, binq_shr, tdiv_pos, tmod_pos, if_pos, exV_some, Option.map_some] | ((first | with_reducible apply exIf_dec | ((with_reducible apply exGd_dec); focus exact rfl) | ((with_reducible apply exGq_dec); focus exact rfl) | with_reducible apply exIf_intro | ((with_reducible apply exGd_intro); focus exact rfl) | ((with_reducible apply exGq_intro); focus exact rfl)) <;> intro _) | with_reducible refine exC_pure (c1 _) ?_ | with_reducible refine exCq_pure (c1 _) ?_ | with_reducible refine exC_pure (ca _) ?_ | with_reducible refine exCq_pure (ca _) ?_ | with_reducible refine exC_pure (cb _) ?_ | with_reducible refine exCq_pure (cb _) ?_ | with_reducible refine exC_pure (num18_c _ _) ?_ | with_reducible refine exCq_pure (num18_c _ _) ?_)
      all_goals first | exact ⟨fun b o ho => (upd_ne _ _ (by rintro rfl; rw [hn2] at ho; cases ho)).trans (hbs b o ho), h⟩ | (exfalso; omega) | skip
      done
end Go.Proofs.Ytejmcijcdhoogaa
end

section
/- The law RepairAvoids of chapter 18, as a contract. -/
namespace Go.Proofs.Ytejmcijcdhoogaa
open Go Abs
attribute [local irreducible] EX exL exG exC exCq exS exV exIf exGd exGq
set_option maxHeartbeats 4000000
theorem and1023c (x : Int) : 0 ≤ iand .i64 x 1023 ∧ iand .i64 x 1023 ≤ 1023 := by
  have h : (BitVec.ofInt IntKind.i64.bits x &&& BitVec.ofInt IntKind.i64.bits 1023).toNat ≤ 1023 := by
    rw [BitVec.toNat_and]
    exact Nat.le_trans Nat.and_le_right (by decide)
  unfold iand
  rw [wrap_id (by omega) (by omega)]
  omega
theorem countP_less {α : Type} {p q : α → Bool} : ∀ {l : List α}, (∀ y, p y = true → q y = true) → (∃ y ∈ l, q y = true ∧ p y = false) → l.countP p < l.countP q
  | [], _, h => by obtain ⟨y, hy, -⟩ := h; cases hy
  | x :: l, hpq, h => by
    have hm : l.countP p ≤ l.countP q := List.countP_mono_left fun y _ => hpq y
    rw [List.countP_cons, List.countP_cons]
    by_cases hx : q x = true ∧ p x = false
    · rw [hx.1, hx.2]; simp; omega
    · obtain ⟨y, hy, h1, h2⟩ := h
      have hy' : y ∈ l := by
        rcases List.mem_cons.1 hy with rfl | hy
        · exact absurd ⟨h1, h2⟩ hx
        · exact hy
      have := countP_less hpq ⟨y, hy', h1, h2⟩
      cases hp : p x with
      | true => rw [hpq x hp]; simp; omega
      | false =>
        cases hq : q x with
        | true => exact absurd ⟨hq, hp⟩ hx
        | false => simp; omega
/-- how many numbers of a list are less -/
def lessN (d : List Int) (x : Int) : Nat := d.countP fun y => decide (0 ≤ y ∧ y < x)
theorem lessN_lt {d : List Int} {x y : Int} (hy : y ∈ d) (h0 : 0 ≤ y) (hxy : y < x) : lessN d y < lessN d x :=
  countP_less (fun z hz => by simp only [decide_eq_true_eq] at hz ⊢; omega) ⟨y, hy, by simp; omega, by simp⟩
theorem lessN_le (d : List Int) (x : Int) : lessN d x ≤ d.length := List.countP_le_length
/-- what is left to the end -/
noncomputable def restR (far : List Int) (c : St) : Int := if c.2 = 0 then gi far c.1 else 0
/-- a step on a best way from one node to one -/
structure StepR (g : Graph) (b : Int) (down : List Bool) (far : List Int) (c c' : St) (e : Int) : Prop where
  e0 : 0 ≤ e
  e1 : e < 2 * g.links.length
  ends : ends g e = (c.1, c'.1, true)
  up : upE down e = true
  rest : restR far c = restR far c' + wt g e
  nn : 0 ≤ restR far c'
  far1 : 0 ≤ gi far c'.1
  far2 : gi far c.1 = gi far c'.1 + wt g e
  at_ : c'.1 = b ↔ c'.2 = 1
  two : c'.2 = 0 ∨ c'.2 = 1
theorem step_wR {g : Graph} (hf : Fit g) {a b : Int} (hb : 0 ≤ b ∧ b < g.nodes) {down : List Bool} (hl : down.length = g.links.length) {c c' : St} {e : Int} (h : stepW g (wR a b) down c e = some c') : StepR g b down (distL g down b) c c' e := by
  obtain ⟨⟨-, h2, h3, h4, h5, h6, h7, h8, h9⟩, rfl⟩ := stepW_some h
  have hc2 : c.2 = 0 := by
    have : c.2 < 0 + 1 := h2.2
    have := h2.1
    omega
  obtain ⟨e0, e1⟩ := ends_ok h5
  have hen := (hf.b e e0 e1).2
  rw [hc2] at h4 h8 h9 ⊢
  rw [pts_wR] at h4 ⊢
  rw [pruned_wR hl] at h7
  change 0 ≤ gi (farOf g (wR a b) down 1) _ at h8
  change gi (farOf g (wR a b) down 1) _ = gi (farOf g (wR a b) down 1) _ + _ at h9
  rw [far_wR hl] at h8 h9
  change b ≠ c.1 at h4
  have hz : gi (distL g down b) b = 0 := (distL_spec hf down hb).1.zero hf hb
  have hcome : come [a, b] (Go.Proofs.Ytejmcijcdhoogaa.ends g e).2.1 0 = if (Go.Proofs.Ytejmcijcdhoogaa.ends g e).2.1 = b then 1 else 0 := by
    split
    · rename_i hh
      rw [come_go (by decide) (by show (0 : Int) + 1 < 2; decide) (by show b = _; omega), come_stop (by decide)]
      · rfl
      · rintro ⟨hh, -⟩
        exact absurd hh (by show ¬ ((0 : Int) + 1 + 1 < 2); decide)
    · rename_i hh
      rw [come_stop (by decide)]
      rintro ⟨-, hh2⟩
      exact hh (show b = _ from hh2).symm
  rw [hcome]
  refine ⟨e0, e1, ?_, h7, ?_, ?_, h8, h9, ?_, ?_⟩
  · rw [← h6]; exact Prod.ext rfl (Prod.ext rfl h5)
  · unfold restR
    rw [if_pos hc2]
    dsimp only
    split
    · rename_i hh
      rw [if_neg (by decide)]
      rw [hh, hz] at h9
      rw [h9]
    · rw [if_pos rfl]; exact h9
  · unfold restR
    dsimp only
    split
    · rw [if_neg (by decide)]; exact Int.le_refl 0
    · rw [if_pos rfl]; exact h8
  · dsimp only
    split
    · rename_i hh; exact ⟨fun _ => rfl, fun _ => hh⟩
    · rename_i hh; exact ⟨fun h => absurd h hh, fun h => by cases h⟩
  · dsimp only
    split
    · exact .inr rfl
    · exact .inl rfl
theorem lst_cons {g : Graph} {w : Want} {down : List Bool} {m : Nat} {a : St} (h : Tg g w down (m + 1) a) : ∃ s c, s ∈ segsA g ∧ segW g w down a s = some c ∧ Tg g w down m c ∧ lst g w down (m + 1) a = s :: lst g w down m c := by
  obtain ⟨l, hl, h2⟩ := h
  cases hf : (leadsL g w down a).find? fun l => decide (Tg g w down m l.to) with
  | none => exact absurd h2 (by simpa using List.find?_eq_none.1 hf l hl)
  | some ld =>
    have h3 := List.find?_some hf
    rw [decide_eq_true_eq] at h3
    have h4 := List.mem_of_find?_eq_some hf
    unfold leadsL at h4
    obtain ⟨s, hs, h5⟩ := List.mem_filterMap.1 h4
    unfold ldO at h5
    obtain ⟨c, hc, rfl⟩ := Option.map_eq_some_iff.1 h5
    exact ⟨s, c, hs, hc, h3, by rw [lst, hf]⟩
theorem segsA_range {g : Graph} {s : Sg} (h : s ∈ segsA g) : 0 ≤ s.to ∧ (s.to < g.nodes ∨ s.to < 2 * g.links.length) := by
  rcases List.mem_append.1 h with h | h
  · obtain ⟨-, h1, h2⟩ := segsN_mem h
    exact ⟨h1, .inl h2⟩
  · obtain ⟨-, h1, h2⟩ := segsE_mem h
    exact ⟨h1, .inr h2⟩
theorem repairAvoids_c (g : Graph) (hgl : g.links.length * 32 ≤ 140737488351232) (hn : g.nl = true → g.links = []) (edge to : Int) (he64 : -9223372036854775808 ≤ edge ∧ edge ≤ 9223372036854775807) (nlp : Bool) (ps : List Int) (hps : I64s ps) (hpl : ps.length * 8 ≤ 140737488351232) (H : AHeap) :
    APure Try.prog 8 [g.av, iv edge, iv to, sl nlp ps] H (bv true) := by
  intro Q h
  have sc := fun H => small15_c g H
  have tc := fun H => tables16_c g hgl hn H
  have ac := fun H => around_c g hgl hn edge to 10 he64 H
  have ec := fun e he H => ends_ref_c g e he H
  refine ACalls.of_code fn_waymarklaw18_RepairAvoids ?_
  by_cases hc : (check g).2 = 0
  case neg =>
    rw [tabs16, if_neg hc] at tc
    simp only [Graph.av] at sc tc
    simp -implicitDefEqProofs only [sc_waymarklaw18_RepairAvoids, Graph.av, sl, go_sem, Nat.reduceEqDiff, Nat.reduceAdd, Nat.reduceMul, Nat.reduceLeDiff, Nat.reduceSub, Nat.reduceLT, Nat.reduceBEq, Int.reduceToNat, reduceCtorEq, ↓reduceIte, Int.reduceEq, Int.reduceNeg, Int.reduceLT, Int.reduceLE, Int.reduceAdd, Int.reduceSub, Int.reduceMul]
    refine exC_pure (alive18_c _) ?_
    repeat' (first | simp -implicitDefEqProofs only [go_sem, Nat.reduceEqDiff, Nat.reduceAdd, Nat.reduceMul, Nat.reduceLeDiff, Nat.reduceSub, Nat.reduceLT, Nat.reduceBEq, Int.reduceToNat, reduceCtorEq, ↓reduceIte, Int.reduceEq, Int.reduceNeg, Int.reduceLT, Int.reduceLE, Int.reduceAdd, Int.reduceSub, Int.reduceMul] | simp -implicitDefEqProofs (disch := omega) only [iaq_vec, iao_arr, iaq_raw, rd_map, wrap_id, binq_quo, binq_rem, binq_shl, binq_shr, tdiv_pos, tmod_pos, if_pos, exV_some, Option.map_some] | ((first | with_reducible apply exIf_dec | ((with_reducible apply exGd_dec); focus exact rfl) | ((with_reducible apply exGq_dec); focus exact rfl) | with_reducible apply exIf_intro | ((with_reducible apply exGd_intro); focus exact rfl) | ((with_reducible apply exGq_intro); focus exact rfl)) <;> intro _) | with_reducible refine exC_pure (sc _) ?_ | with_reducible refine exCq_pure (sc _) ?_ | with_reducible refine exC_pure (tc _) ?_ | with_reducible refine exCq_pure (tc _) ?_)
    all_goals first | exact h | (exfalso; omega) | skip
    done
  rw [tabs16, if_pos hc] at tc
  have nc := fun a b H => rnext_c g hc a b H
  obtain ⟨cs, hcs⟩ : ∃ cs, tab g = .box cs 0 := ⟨_, rfl⟩
  obtain ⟨ds, hds⟩ : ∃ cs, refTab g = .box cs 0 := ⟨_, rfl⟩
  rw [hcs] at tc ac
  rw [hds] at tc nc
  by_cases h2 : (aroundW g edge to 10).2 = 0
  case neg =>
    have h1 : (aroundW g edge to 10).1 = [] := by
      unfold aroundW at h2 ⊢
      split
      · rename_i hok
        rw [if_pos hok] at h2
        by_cases h0 : optErr g (wR (ends g edge).1 to) (downR g edge) = 0
        · rcases compW_cases g _ _ 10 h0 with ⟨n, -, -, -, h3⟩ | ⟨-, h3⟩
          · rw [h3] at h2; exact absurd rfl h2
          · rw [h3]
        · rw [compW, if_pos h0]
      · rfl
    rw [aroundAV, h1] at ac
    obtain ⟨e, hee⟩ : ∃ e, e = (aroundW g edge to 10).2 := ⟨_, rfl⟩
    rw [← hee] at ac h2
    simp only [Graph.av] at sc tc
    simp -implicitDefEqProofs only [sc_waymarklaw18_RepairAvoids, Graph.av, sl, go_sem, Nat.reduceEqDiff, Nat.reduceAdd, Nat.reduceMul, Nat.reduceLeDiff, Nat.reduceSub, Nat.reduceLT, Nat.reduceBEq, Int.reduceToNat, reduceCtorEq, ↓reduceIte, Int.reduceEq, Int.reduceNeg, Int.reduceLT, Int.reduceLE, Int.reduceAdd, Int.reduceSub, Int.reduceMul]
    refine exC_pure (alive18_c _) ?_
    repeat' (first | simp -implicitDefEqProofs only [go_sem, Nat.reduceEqDiff, Nat.reduceAdd, Nat.reduceMul, Nat.reduceLeDiff, Nat.reduceSub, Nat.reduceLT, Nat.reduceBEq, Int.reduceToNat, reduceCtorEq, ↓reduceIte, Int.reduceEq, Int.reduceNeg, Int.reduceLT, Int.reduceLE, Int.reduceAdd, Int.reduceSub, Int.reduceMul] | simp -implicitDefEqProofs (disch := omega) only [iaq_vec, iao_arr, iaq_raw, rd_map, wrap_id, binq_quo, binq_rem, binq_shl, binq_shr, tdiv_pos, tmod_pos, if_pos, exV_some, Option.map_some] | ((first | with_reducible apply exIf_dec | ((with_reducible apply exGd_dec); focus exact rfl) | ((with_reducible apply exGq_dec); focus exact rfl) | with_reducible apply exIf_intro | ((with_reducible apply exGd_intro); focus exact rfl) | ((with_reducible apply exGq_intro); focus exact rfl)) <;> intro _) | with_reducible refine exC_pure (sc _) ?_ | with_reducible refine exCq_pure (sc _) ?_ | with_reducible refine exC_pure (tc _) ?_ | with_reducible refine exCq_pure (tc _) ?_ | with_reducible refine exC_pure (ac _) ?_ | with_reducible refine exCq_pure (ac _) ?_ | with_reducible refine exC_pure (num18_c _ _) ?_ | with_reducible refine exCq_pure (num18_c _ _) ?_)
    all_goals first | exact h | (exfalso; omega) | skip
    done
  have hok : (ends g edge).2.2 = true := by
    by_cases hok : (ends g edge).2.2 = true
    · exact hok
    · rw [aroundW, if_neg hok] at h2; cases h2
  obtain ⟨e0, e1⟩ := ends_ok hok
  have haw : aroundW g edge to 10 = compW g (wR (ends g edge).1 to) (downR g edge) 10 := by rw [aroundW, if_pos hok]
  rw [haw] at h2
  have h0 := compW_err h2
  have wf := wfit_of (optErr_right h0)
  have hf := wf.fit
  have f3 := hf.few
  have hb := wf.dst
  have ha := wf.src
  change 0 ≤ to ∧ to < g.nodes at hb
  change 0 ≤ (ends g edge).1 ∧ (ends g edge).1 < g.nodes at ha
  obtain ⟨k, hk1, hk2, -, hk3⟩ : ∃ n, n ≤ cut10 10 ∧ Tg g (wR (ends g edge).1 to) (downR g edge) n (startW (wR (ends g edge).1 to)) ∧ True ∧ compW g (wR (ends g edge).1 to) (downR g edge) 10 = (lst g (wR (ends g edge).1 to) (downR g edge) n (startW (wR (ends g edge).1 to)), 0) := by
    rcases compW_cases g _ _ 10 h0 with ⟨n, q1, q2, -, q3⟩ | ⟨-, q3⟩
    · exact ⟨n, q1, q2, trivial, q3⟩
    · rw [q3] at h2; cases h2
  have hdl := downR_length g edge
  have hup := fun (e : Int) (e0' : 0 ≤ e) (e1' : e < 2 * g.links.length) => downR_up (g := g) (edge := edge) (e := e) ⟨e0, e1⟩ e0' e1'
  have stp := fun c e c' (hh : stepW g (wR (ends g edge).1 to) (downR g edge) c e = some c') => step_wR hf hb hdl hh
  have ht : ends g edge = ((ends g edge).1, (ends g edge).2.1, true) := Prod.ext rfl (Prod.ext rfl hok)
  have ece := ec edge he64
  rw [ht, triIIB] at ece
  have hgoal := goal_wR (ends g edge).1 to
  have hrest0 : restR (distL g (downR g edge) to) (startW (wR (ends g edge).1 to)) = gi (distL g (downR g edge) to) (ends g edge).1 := by
    by_cases hat : (ends g edge).1 = to
    · rw [startW, pts_wR, come_go (by decide) (by show (0 : Int) + 1 < 2; decide) (by show to = _; exact hat.symm), come_stop (by decide)]
      · have hz : gi (distL g (downR g edge) to) to = 0 := (distL_spec hf _ hb).1.zero hf hb
        rw [restR, if_neg (by show ¬ ((0 : Int) + 1 = 0); decide), hat, hz]
      · rintro ⟨hh, -⟩
        exact absurd hh (by show ¬ ((0 : Int) + 1 + 1 < 2); decide)
    · rw [start_wR hat]; rfl
  have hfar0 : 0 ≤ gi (distL g (downR g edge) to) (ends g edge).1 := by
    rw [opt_wR hc hdl ha hb] at h0
    split at h0
    · cases h0
    · omega
  have hst1 : (startW (wR (ends g edge).1 to)).1 = (ends g edge).1 := rfl
  obtain ⟨L, hL⟩ : ∃ L, L = lst g (wR (ends g edge).1 to) (downR g edge) k (startW (wR (ends g edge).1 to)) := ⟨_, rfl⟩
  have hk10 : k ≤ 10 := by unfold cut10 at hk1; omega
  have hLl : L.length = k := by rw [hL]; exact lst_length hk2
  rw [aroundAV, haw, hk3, ← hL] at ac
  have hsym := dist_sym hf (downR g edge) ha hb
  have hbd := dist_bound hf (downR g edge) hb ha.1 ha.2
  have fc := fun H => from_ref_c g false (downR g edge) (ends g edge).1 H
  rw [fromAV, if_pos ⟨hc, ha⟩] at fc
  have hfl := (distL_spec hf (downR g edge) ha).1.len
  obtain ⟨fa, hfa⟩ : ∃ fa, fa = distL g (downR g edge) (ends g edge).1 := ⟨_, rfl⟩
  obtain ⟨far, hfar⟩ : ∃ far, far = distL g (downR g edge) to := ⟨_, rfl⟩
  have hmem : ∀ v : Int, 0 ≤ v → v < g.nodes → gi far v ∈ far := fun v v0 v1 => gi_mem v0 (by have := (distL_spec hf (downR g edge) hb).1.len; rw [hfar]; omega)
  have hfarl : (far.length : Int) = g.nodes := by rw [hfar]; exact (distL_spec hf (downR g edge) hb).1.len
  have hbnd : ∀ v : Int, 0 ≤ v → v < g.nodes → gi far v ≤ 671088640 := fun v v0 v1 => by rw [hfar]; exact (dist_bound hf (downR g edge) hb v0 v1).2
  rw [← hfa] at fc hfl hsym
  rw [← hfar] at hsym hbd hrest0 hfar0 stp
  obtain ⟨a, haa⟩ : ∃ a, a = (ends g edge).1 := ⟨_, rfl⟩
  obtain ⟨a2, haa2⟩ : ∃ a, a = (ends g edge).2.1 := ⟨_, rfl⟩
  rw [← haa, ← haa2] at ece
  rw [← haa] at hgoal hrest0 hfar0 hst1 hL hsym hbd fc ha hk2 stp
  have hdr : downR g edge = (List.replicate g.links.length false).set (edge / 2).toNat true := rfl
  rw [hdr] at fc
  simp only [Graph.av, blv, List.length_set, List.length_replicate] at sc tc fc ece ec
  clear wf h0 hk3 haw h2 hfa hfar hds hcs
  simp -implicitDefEqProofs only [sc_waymarklaw18_RepairAvoids, Graph.av, sl, go_sem, Nat.reduceEqDiff, Nat.reduceAdd, Nat.reduceMul, Nat.reduceLeDiff, Nat.reduceSub, Nat.reduceLT, Nat.reduceBEq, Int.reduceToNat, reduceCtorEq, ↓reduceIte, Int.reduceEq, Int.reduceNeg, Int.reduceLT, Int.reduceLE, Int.reduceAdd, Int.reduceSub, Int.reduceMul]
  refine exC_pure (alive18_c _) ?_
  repeat' (first | simp -implicitDefEqProofs only [go_sem, Nat.reduceEqDiff, Nat.reduceAdd, Nat.reduceMul, Nat.reduceLeDiff, Nat.reduceSub, Nat.reduceLT, Nat.reduceBEq, Int.reduceToNat, reduceCtorEq, ↓reduceIte, Int.reduceEq, Int.reduceNeg, Int.reduceLT, Int.reduceLE, Int.reduceAdd, Int.reduceSub, Int.reduceMul] | simp -implicitDefEqProofs (disch := omega) only [iaq_vec, iao_arr, iaq_raw, rd_map, wrap_id, binq_quo, binq_rem, binq_shl, binq_shr, tdiv_pos, tmod_pos, if_pos, exV_some, Option.map_some] | ((first | with_reducible apply exIf_dec | ((with_reducible apply exGd_dec); focus exact rfl) | ((with_reducible apply exGq_dec); focus exact rfl) | with_reducible apply exIf_intro | ((with_reducible apply exGd_intro); focus exact rfl) | ((with_reducible apply exGq_intro); focus exact rfl)) <;> intro _) | with_reducible refine exC_pure (sc _) ?_ | with_reducible refine exCq_pure (sc _) ?_ | with_reducible refine exC_pure (tc _) ?_ | with_reducible refine exCq_pure (tc _) ?_ | with_reducible refine exC_pure (ac _) ?_ | with_reducible refine exCq_pure (ac _) ?_ | with_reducible refine exC_pure (num18_c _ _) ?_ | with_reducible refine exCq_pure (num18_c _ _) ?_ | with_reducible refine exC_pure (ece _) ?_ | with_reducible refine exCq_pure (ece _) ?_)
  all_goals first | exact h | (exfalso; omega) | skip
  refine exMk_int (by omega) (by omega) (by simp only [maxLen]; omega) rfl ?_
  rw [zrep_one, show List.replicate (g.links.length : Int).toNat (cAV (.bool false)) = (List.replicate g.links.length false).map bv by rw [List.map_replicate, show (g.links.length : Int).toNat = g.links.length by omega]; rfl]
  repeat' (first | simp -implicitDefEqProofs only [go_sem, Nat.reduceEqDiff, Nat.reduceAdd, Nat.reduceMul, Nat.reduceLeDiff, Nat.reduceSub, Nat.reduceLT, Nat.reduceBEq, Int.reduceToNat, reduceCtorEq, ↓reduceIte, Int.reduceEq, Int.reduceNeg, Int.reduceLT, Int.reduceLE, Int.reduceAdd, Int.reduceSub, Int.reduceMul] | simp -implicitDefEqProofs (disch := omega) only [set_bools, List.length_replicate, List.length_set, Int.toNat_natCast, iaq_vec, iao_arr, iaq_raw, rd_map, wrap_id, binq_quo, binq_rem, binq_shl, binq_shr, tdiv_pos, tmod_pos, if_pos, exV_some, Option.map_some] | ((first | with_reducible apply exIf_dec | ((with_reducible apply exGd_dec); focus exact rfl) | ((with_reducible apply exGq_dec); focus exact rfl) | with_reducible apply exIf_intro | ((with_reducible apply exGd_intro); focus exact rfl) | ((with_reducible apply exGq_intro); focus exact rfl)) <;> intro _) | with_reducible refine exC_pure (fc _) ?_ | with_reducible refine exCq_pure (fc _) ?_)
  all_goals first | exact h | (exfalso; omega) | skip
  obtain ⟨w, hwd⟩ : ∃ w, w = wR a to := ⟨_, rfl⟩
  rw [← hwd] at hL hk2 hgoal stp hst1 hrest0
  obtain ⟨down, hdown⟩ : ∃ down, down = downR g edge := ⟨_, rfl⟩
  rw [← hdown] at hL hk2 stp hup
  have hK := lessN_le far (gi far a)
  obtain ⟨z, hz⟩ : ∃ z, startW w = (a, z) := ⟨_, Prod.ext hst1 rfl⟩
  rw [hz] at hL hk2 hrest0
  refine exL_mod (fun x : Int × St × Int × Int × Nat => [(15, .v (iv x.2.1.1)), (20, .v (iv x.2.2.1)), (21, .v (iv x.2.2.2.1)), (22, .v (iv x.1))]) (fun _ => []) (fun x => (0 ≤ x.1 ∧ x.1 ≤ L.length) ∧ L.drop x.1.toNat = lst g w down x.2.2.2.2 x.2.1 ∧ Tg g w down x.2.2.2.2 x.2.1 ∧ 0 ≤ x.2.2.1 ∧ 0 ≤ restR far x.2.1 ∧ x.2.2.1 + restR far x.2.1 = gi far a ∧ 0 ≤ x.2.2.2.1 ∧ x.2.2.2.1 + lessN far (gi far x.2.1.1) ≤ 10 ∧ (0 ≤ x.2.1.1 ∧ x.2.1.1 < g.nodes)) (fun x => (L.length - x.1).toNat) (0, (a, z), 0, 0, k) rfl
    ⟨⟨by simp, by simp⟩, hL, hk2, by simp, by rw [hrest0]; exact hfar0, by rw [hrest0]; simp, by simp, by dsimp only; omega, ha⟩ ?_
  rintro ⟨i, c, sum, n, m⟩ ⟨⟨i0, i1⟩, hdrop, htg, s0, r0, hsum, n0, hn10, hcr⟩ ih
  dsimp only at i0 i1 hdrop htg s0 r0 hsum n0 hn10 hcr ih
  simp only [S.up, S.upH, ups, Abs.put, Nat.reduceEqDiff, ↓reduceIte, Nat.reduceAdd] at ih
  have hmd := congrArg List.length hdrop
  rw [List.length_drop, lst_length htg] at hmd
  simp -implicitDefEqProofs only [congrArg KI.code sc_waymarklaw18_RepairAvoids_L1.eq_1, go_sem, Nat.reduceEqDiff, Nat.reduceAdd, Nat.reduceMul, Nat.reduceLeDiff, Nat.reduceSub, Nat.reduceLT, Nat.reduceBEq, Int.reduceToNat, reduceCtorEq, ↓reduceIte, Int.reduceEq, Int.reduceNeg, Int.reduceLT, Int.reduceLE, Int.reduceAdd, Int.reduceSub, Int.reduceMul]
  by_cases hi : i < L.length
  case neg =>
    obtain rfl : m = 0 := by omega
    clear ih
    have hcg : c = (to, 1) := by rw [← hgoal]; exact htg
    rw [hcg] at hsum ⊢
    have hz : restR far (to, 1) = 0 := rfl
    rw [hz] at hsum
    have hfin : decide (sum = gi fa to) = true := decide_eq_true (by omega)
    repeat' (first | simp -implicitDefEqProofs only [go_sem, Nat.reduceEqDiff, Nat.reduceAdd, Nat.reduceMul, Nat.reduceLeDiff, Nat.reduceSub, Nat.reduceLT, Nat.reduceBEq, Int.reduceToNat, reduceCtorEq, ↓reduceIte, Int.reduceEq, Int.reduceNeg, Int.reduceLT, Int.reduceLE, Int.reduceAdd, Int.reduceSub, Int.reduceMul] | simp -implicitDefEqProofs (disch := omega) only [hfin, iaq_vec, iao_arr, iaq_raw, rd_map, wrap_id, binq_quo, binq_rem, binq_shl, binq_shr, tdiv_pos, tmod_pos, if_pos, exV_some, Option.map_some] | ((first | with_reducible apply exIf_dec | ((with_reducible apply exGd_dec); focus exact rfl) | ((with_reducible apply exGq_dec); focus exact rfl) | with_reducible apply exIf_intro | ((with_reducible apply exGd_intro); focus exact rfl) | ((with_reducible apply exGq_intro); focus exact rfl)) <;> intro _))
    all_goals first | exact h | (exfalso; omega) | skip
    done
  obtain ⟨m, rfl⟩ : ∃ m', m = m' + 1 := ⟨m - 1, by omega⟩
  obtain ⟨s, c', hs, hsc, htg', hlc⟩ := lst_cons htg
  have hsr := segsA_range hs
  rw [drop_gi i0 hi, hlc] at hdrop
  injection hdrop with hgi hdrop
  have hrd := rd_sg_v (nl := false) i0 hi
  have hr0 : rdV (rows L) (i.toNat * 2 + 0) 1 false = some (bv s.edge) := by rw [← hgi, Nat.add_zero]; exact rd_field0 (n := 2) (m := 1) rfl i0 hi
  have hr1 : rdV (rows L) (i.toNat * 2 + 1) 1 false = some (iv s.to) := by rw [← hgi]; exact rd_field (n := 2) (j := 1) (m := 1) rfl (by decide) i0 hi
  obtain ⟨ed, x⟩ := s
  dsimp only at hr0 hr1 hsr
  cases ed with
  | true =>
    rw [segW_edge] at hsc
    have hstp := stp _ _ _ hsc
    obtain ⟨p0, p1, p2, p3, p4, p5, p6, p7, -, -⟩ := hstp
    have hne := (hup x p0 p1).1 p3
    have hcr' := (hf.b x p0 p1).2
    rw [p2] at hcr'
    have hle := lessN_lt (hmem c'.1 hcr'.1 hcr'.2) p6 (x := gi far c.1) (by have := hf.w x p0 p1; omega)
    have hw1 := hf.w x p0 p1
    have hfb := hbnd a ha.1 ha.2
    have nx := ih (i + 1, c', sum + wt g x, n + 1, m) ⟨⟨by dsimp only; omega, by dsimp only; omega⟩, hdrop, htg', by dsimp only; omega, by dsimp only; omega, by dsimp only; omega, by dsimp only; omega, by dsimp only; omega, by dsimp only; exact hcr'⟩ (by dsimp only; omega)
    have ecx := ec x (by omega)
    rw [p2, triIIB] at ecx
    have hwt : wt g x = (gi g.links (x / 2)).metric := rfl
    clear ih
    repeat' (first | simp -implicitDefEqProofs only [go_sem, Nat.reduceEqDiff, Nat.reduceAdd, Nat.reduceMul, Nat.reduceLeDiff, Nat.reduceSub, Nat.reduceLT, Nat.reduceBEq, Int.reduceToNat, reduceCtorEq, ↓reduceIte, Int.reduceEq, Int.reduceNeg, Int.reduceLT, Int.reduceLE, Int.reduceAdd, Int.reduceSub, Int.reduceMul] | simp -implicitDefEqProofs (disch := omega) only [iaq_vec, iao_arr, iaq_raw, rd_map, wrap_id, binq_quo, binq_rem, binq_shl, binq_shr, tdiv_pos, tmod_pos, if_pos, exV_some, Option.map_some] | ((first | with_reducible apply exIf_dec | ((with_reducible apply exGd_dec); focus exact rfl) | ((with_reducible apply exGq_dec); focus exact rfl) | with_reducible apply exIf_intro | ((with_reducible apply exGd_intro); focus exact rfl) | ((with_reducible apply exGq_intro); focus exact rfl)) <;> intro _))
    all_goals first | (exfalso; omega) | skip
    refine exL_step ?_
    simp -implicitDefEqProofs only [congrArg KI.code sc_waymarklaw18_RepairAvoids_L0.eq_1, go_sem, Nat.reduceEqDiff, Nat.reduceAdd, Nat.reduceMul, Nat.reduceLeDiff, Nat.reduceSub, Nat.reduceLT, Nat.reduceBEq, Int.reduceToNat, reduceCtorEq, ↓reduceIte, Int.reduceEq, Int.reduceNeg, Int.reduceLT, Int.reduceLE, Int.reduceAdd, Int.reduceSub, Int.reduceMul]
    repeat' (first | simp -implicitDefEqProofs only [go_sem, Nat.reduceEqDiff, Nat.reduceAdd, Nat.reduceMul, Nat.reduceLeDiff, Nat.reduceSub, Nat.reduceLT, Nat.reduceBEq, Int.reduceToNat, reduceCtorEq, ↓reduceIte, Int.reduceEq, Int.reduceNeg, Int.reduceLT, Int.reduceLE, Int.reduceAdd, Int.reduceSub, Int.reduceMul] | simp -implicitDefEqProofs (disch := omega) only [hr0, hr1, rd_link2, ← hwt, iaq_vec, iao_arr, iaq_raw, rd_map, wrap_id, binq_quo, binq_rem, binq_shl, binq_shr, tdiv_pos, tmod_pos, if_pos, exV_some, Option.map_some] | ((first | with_reducible apply exIf_dec | ((with_reducible apply exGd_dec); focus exact rfl) | ((with_reducible apply exGq_dec); focus exact rfl) | with_reducible apply exIf_intro | ((with_reducible apply exGd_intro); focus exact rfl) | ((with_reducible apply exGq_intro); focus exact rfl)) <;> intro _) | with_reducible refine exC_pure (ecx _) ?_ | with_reducible refine exCq_pure (ecx _) ?_)
    all_goals first | exact nx | (exfalso; omega) | skip
    done
  | false =>
    rw [segW_node, segN] at hsc
    split at hsc
    · cases hsc
    rename_i hne0
    have nx := fun c2 sum2 n2 h1 => ih (i + 1, c2, sum2, n2, m) ⟨⟨by dsimp only; omega, by dsimp only; omega⟩, h1⟩ (by dsimp only; omega)
    dsimp only at nx
    clear ih
    repeat' (first | simp -implicitDefEqProofs only [go_sem, Nat.reduceEqDiff, Nat.reduceAdd, Nat.reduceMul, Nat.reduceLeDiff, Nat.reduceSub, Nat.reduceLT, Nat.reduceBEq, Int.reduceToNat, reduceCtorEq, ↓reduceIte, Int.reduceEq, Int.reduceNeg, Int.reduceLT, Int.reduceLE, Int.reduceAdd, Int.reduceSub, Int.reduceMul] | simp -implicitDefEqProofs (disch := omega) only [iaq_vec, iao_arr, iaq_raw, rd_map, wrap_id, binq_quo, binq_rem, binq_shl, binq_shr, tdiv_pos, tmod_pos, if_pos, exV_some, Option.map_some] | ((first | with_reducible apply exIf_dec | ((with_reducible apply exGd_dec); focus exact rfl) | ((with_reducible apply exGq_dec); focus exact rfl) | with_reducible apply exIf_intro | ((with_reducible apply exGd_intro); focus exact rfl) | ((with_reducible apply exGq_intro); focus exact rfl)) <;> intro _))
    all_goals first | (exfalso; omega) | skip
    refine exL_mod (fun x : St × Int × Int => [(15, .v (iv x.1.1)), (20, .v (iv x.2.1)), (21, .v (iv x.2.2))]) (fun _ => []) (fun y => endN g w down x y.1 = some c' ∧ 0 ≤ y.2.1 ∧ 0 ≤ restR far y.1 ∧ y.2.1 + restR far y.1 = gi far a ∧ 0 ≤ y.2.2 ∧ y.2.2 + lessN far (gi far y.1.1) ≤ 10 ∧ (0 ≤ y.1.1 ∧ y.1.1 < g.nodes)) (fun y => (11 - y.2.2).toNat) (c, sum, n) rfl ⟨hsc, s0, r0, hsum, n0, hn10, hcr⟩ ?_
    rintro ⟨b, sum2, n2⟩ ⟨hend, t0, u0, hsum2, m0, hm10, hbr⟩ ih
    dsimp only at hend t0 u0 hsum2 m0 hm10 hbr ih
    simp only [S.up, S.upH, ups, Abs.put, Nat.reduceEqDiff, ↓reduceIte, Nat.reduceAdd] at ih
    simp -implicitDefEqProofs only [congrArg KI.code sc_waymarklaw18_RepairAvoids_L0.eq_1, go_sem, Nat.reduceEqDiff, Nat.reduceAdd, Nat.reduceMul, Nat.reduceLeDiff, Nat.reduceSub, Nat.reduceLT, Nat.reduceBEq, Int.reduceToNat, reduceCtorEq, ↓reduceIte, Int.reduceEq, Int.reduceNeg, Int.reduceLT, Int.reduceLE, Int.reduceAdd, Int.reduceSub, Int.reduceMul]
    by_cases hbx : b.1 = x
    · have := endN_one hf hend .refl hbx
      subst this
      have nx := nx b sum2 n2 ⟨hdrop, htg', t0, u0, hsum2, m0, hm10, hbr⟩
      clear ih
      repeat' (first | simp -implicitDefEqProofs only [go_sem, Nat.reduceEqDiff, Nat.reduceAdd, Nat.reduceMul, Nat.reduceLeDiff, Nat.reduceSub, Nat.reduceLT, Nat.reduceBEq, Int.reduceToNat, reduceCtorEq, ↓reduceIte, Int.reduceEq, Int.reduceNeg, Int.reduceLT, Int.reduceLE, Int.reduceAdd, Int.reduceSub, Int.reduceMul] | simp -implicitDefEqProofs (disch := omega) only [hr0, hr1, iaq_vec, iao_arr, iaq_raw, rd_map, wrap_id, binq_quo, binq_rem, binq_shl, binq_shr, tdiv_pos, tmod_pos, if_pos, exV_some, Option.map_some] | ((first | with_reducible apply exIf_dec | ((with_reducible apply exGd_dec); focus exact rfl) | ((with_reducible apply exGq_dec); focus exact rfl) | with_reducible apply exIf_intro | ((with_reducible apply exGd_intro); focus exact rfl) | ((with_reducible apply exGq_intro); focus exact rfl)) <;> intro _))
      all_goals first | exact nx | (exfalso; omega) | skip
      done
    · obtain ⟨hnn, hall⟩ := endN_next hf hbx hend
      obtain ⟨nl, hnl⟩ : ∃ nl, nl = nxtOf g b.1 x := ⟨_, rfl⟩
      have nc1 := fun H => nc b.1 x H
      rw [← hnl] at hnn hall
      simp only [ints, ← hnl] at nc1
      have hnll := nxtOf_length g b.1 x
      rw [← hnl] at hnll
      have hpos : 0 < nl.length := List.length_pos_iff.2 hnn
      have hnf : nl.isEmpty = false := by cases nl with
        | nil => exact absurd rfl hnn
        | cons _ _ => rfl
      rw [hnf] at nc1
      have hand := and1023c (gi ps n2)
      obtain ⟨j, hj⟩ : ∃ j, j = iand .i64 (gi ps n2) 1023 := ⟨_, rfl⟩
      have hx0 := Int.emod_nonneg j (b := (nl.length : Int)) (by omega)
      have hx1 := Int.emod_lt_of_pos j (b := (nl.length : Int)) (by omega)
      obtain ⟨e, he⟩ : ∃ e, e = gi nl (j % nl.length) := ⟨_, rfl⟩
      obtain ⟨b', hb', hend'⟩ := hall e (he ▸ gi_mem hx0 hx1)
      obtain ⟨p0, p1, p2, p3, p4, p5, p6, p7, -, -⟩ := stp _ _ _ hb'
      have hne := (hup e p0 p1).1 p3
      have hcr' := (hf.b e p0 p1).2
      rw [p2] at hcr'
      have hle := lessN_lt (hmem b'.1 hcr'.1 hcr'.2) p6 (x := gi far b.1) (by have := hf.w e p0 p1; omega)
      have hw1 := hf.w e p0 p1
      have hfb := hbnd a ha.1 ha.2
      have nx2 := ih (b', sum2 + wt g e, n2 + 1) ⟨hend', by dsimp only; omega, by dsimp only; omega, by dsimp only; omega, by dsimp only; omega, by dsimp only; omega, by dsimp only; exact hcr'⟩ (by dsimp only; omega)
      have ecx := ec e (by omega)
      rw [p2, triIIB] at ecx
      have hwt : wt g e = (gi g.links (e / 2)).metric := rfl
      rw [← hj] at hand
      clear ih nx
      repeat' (first | simp -implicitDefEqProofs only [go_sem, Nat.reduceEqDiff, Nat.reduceAdd, Nat.reduceMul, Nat.reduceLeDiff, Nat.reduceSub, Nat.reduceLT, Nat.reduceBEq, Int.reduceToNat, reduceCtorEq, ↓reduceIte, Int.reduceEq, Int.reduceNeg, Int.reduceLT, Int.reduceLE, Int.reduceAdd, Int.reduceSub, Int.reduceMul] | simp -implicitDefEqProofs (disch := omega) only [hr0, hr1, rd_link2, ← hwt, ← hj, ← he, iaq_vec, iao_arr, iaq_raw, rd_map, wrap_id, binq_quo, binq_rem, binq_shl, binq_shr, tdiv_pos, tmod_pos, if_pos, exV_some, Option.map_some] | ((first | with_reducible apply exIf_dec | ((with_reducible apply exGd_dec); focus exact rfl) | ((with_reducible apply exGq_dec); focus exact rfl) | with_reducible apply exIf_intro | ((with_reducible apply exGd_intro); focus exact rfl) | ((with_reducible apply exGq_intro); focus exact rfl)) <;> intro _) | with_reducible refine exC_pure (nc1 _) ?_ | with_reducible refine exCq_pure (nc1 _) ?_ | with_reducible refine exC_pure (ecx _) ?_ | with_reducible refine exCq_pure (ecx _) ?_)
      all_goals first | exact nx2 | (exfalso; omega) | skip
      done
end Go.Proofs.Ytejmcijcdhoogaa
end
