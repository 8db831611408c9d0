import Derived.Test.YtejmcijcdhoogaaMB1
import Derived.Test.YtejmcijcdhoogaaMC1
import Derived.Test.YtejmcijcdhoogaaMB2
set_option linter.unusedSimpArgs false
set_option linter.unusedVariables false
section
namespace Go.Proofs.Ytejmcijcdhoogaa
open Go Abs
attribute [local irreducible] EX exL exG exC exCq exS exV exIf exGd exGq exB
set_option maxHeartbeats 4000000
theorem EsH.put {H H' : AHeap} {pb : Nat} {es : List Int} {ev : AV} (h : EsH H H' pb es ev) (o : Option HObj) : EsH H (upd H' pb o) pb es ev := by
  rcases h with h | ⟨b, cap, h1, h2, h3, h4⟩
  · exact .inl h
  · exact .inr ⟨b, cap, h1, by rw [upd_ne _ _ (Ne.symm h3)]; exact h2, h3, h4⟩
theorem EsH.app {H H' : AHeap} {pb : Nat} {es : List Int} {ev : AV} (h : EsH H H' pb es ev) (hbase : ∀ b o, H b = some o → H' b = some o) (hpb : H' pb ≠ none) (hel : es.length ≤ 1000) {x : Int} {nly : Bool} {dst : Option Nat} {s : S} {K : S → Prop} (hs : s.H = H')
    (k : ∀ H1 v1, (∀ b o, H b = some o → H1 b = some o) → H1 pb = H' pb → EsH H H1 pb (es ++ [x]) v1 → K ({ s with H := H1 }.put dst (.v v1))) : hapK 3 1 8 (hpre H' 3 1 (.v ev)) (.v ev) (.v (.vec nly [iv x] 1)) dst s K := by
  subst hs
  have pre : ∃ ob cap, hpre s.H 3 1 (.v ev) = some (ob, es.length, cap, es.map iv) ∧ ∀ b, ob = some b → H b = none ∧ b ≠ pb := by
    rcases h with ⟨rfl, rfl⟩ | ⟨b, cap, rfl, h1, h2, h3, h4, -⟩
    · exact ⟨none, 0, rfl, fun b hb => by cases hb⟩
    · refine ⟨some b, cap, ?_, fun b' hb' => by injection hb' with hb'; rw [← hb']; exact ⟨h3, h2⟩⟩
      rw [hpre_row h1 h4 (by simp), Nat.mul_one, List.take_of_length_le (by simp)]
  obtain ⟨ob, cap, hp, hob⟩ := pre
  rw [hp]
  refine ⟨rfl, by omega, by simp only [maxLen]; omega, fun hm => absurd hm (by decide), fun _ b2 cap' hb2 hc => ?_⟩
  have hb2' : H b2 = none ∧ b2 ≠ pb := by
    rcases hb2 with hb2 | hb2
    · exact hob b2 hb2
    · refine ⟨?_, fun e => hpb (e ▸ hb2)⟩
      cases hq : H b2 with
      | none => rfl
      | some o => rw [hbase b2 o hq] at hb2; cases hb2
  have keep : ∀ b', b' ≠ b2 → (∀ b, ob = some b → b' ≠ b) → upd (delH s.H ob) b2 (some (.row (es.map iv ++ [iv x]) cap' 3 1)) b' = s.H b' := fun b' h1 h2 => by
    rw [upd_ne _ _ (Ne.symm h1)]
    cases ob with
    | none => rfl
    | some b0 => exact upd_ne _ _ (Ne.symm (h2 b0 rfl))
  refine k _ (.raw (.slice (some ⟨b2, 0, none⟩) (es.length + 1) cap')) (fun b' o ho => ?_) ?_ (.inr ⟨b2, cap', by simp, by rw [upd_self]; simp, hb2'.2, hb2'.1, by simpa using hc, by simp⟩)
  · rw [keep b' (by rintro rfl; rw [hb2'.1] at ho; cases ho) (fun b hb => by rintro rfl; rw [(hob _ hb).1] at ho; cases ho)]
    exact hbase b' o ho
  · exact keep pb (Ne.symm hb2'.2) fun b hb => Ne.symm (hob b hb).2
section
variable {g : Graph} {hash : Int} {D : Nat} {dn : Bool} {down : List Bool} {strict : Bool} {H H' : AHeap} {pb : Nat} {p : WS} {en : Int} {s : Sg} {r : List Sg}
theorem PkH.mk' {q : WS} {en' : Int} {H1 : AHeap} {ln : Bool} {ev : AV} (hn : H pb = none) (hb : ∀ b o, H b = some o → H1 b = some o) (he : EsH H H1 pb q.es ev) : PkH g hash D dn down strict H (upd H1 pb (some (.cells (pkC g hash D dn down strict q ln ev en') 118))) pb q en' :=
  ⟨fun b o ho => by rw [upd_ne _ _ (by rintro rfl; rw [hn] at ho; cases ho)]; exact hb b o ho, hn, ln, ev, upd_self _ _ _, he.put _⟩
theorem sl_tail {n : Nat} (hn : n = r.length * 2) : List.take n (List.drop 2 (rows (s :: r))) = rows r := by
  have : List.drop 2 (rows (s :: r)) = rows r := rfl
  have hl : (rows r).length = r.length * 2 := rows_length r
  rw [this, List.take_of_length_le (by omega)]
theorem wcross_c (hL : g.links.length ≤ 1000) (hl : p.l = s :: r) (hll : p.l.length ≤ 1000) (hel : p.es.length ≤ 1000) {e : Int} (he : i64 e) (hp : PkH g hash D dn down strict H H' pb p en) :
    ACalls Try.prog 84 [ptr pb, iv e] H' fun x H'' => x = .tup [] ∧ PkH g hash D dn down strict H H'' pb ⟨if s.edge = true then r else s :: r, (ends g e).2.1, p.es ++ [e], p.ar, p.mo⟩ en := by
  obtain ⟨hb, hn, ln, ev, hat, hes⟩ := hp
  have ec := fun H => ends_c g e he H
  simp only [Graph.av, triIIB] at ec
  rw [pkC, hl] at hat
  rw [hl, List.length_cons] at hll
  have r0 : rdV (rows (s :: r)) 0 1 false = some (bv s.edge) := rfl
  have hpn : H' pb ≠ none := by rw [hat]; simp
  refine ACalls.of_code fn_walk_packet_cross ?_
  simp -implicitDefEqProofs only [sc_walk_packet_cross, go_sem, seval]
  cases hed : s.edge with
  | true =>
    rw [hed] at r0
    rw [if_pos rfl]
    have hrl : (rows (s :: r)).length = (r.length + 1) * 2 := rows_length (s :: r)
    have hN : ((r.length + 1 : Nat) : Int).toNat - 1 = r.length := by omega
    repeat' (first | simp -implicitDefEqProofs only [go_sem, seval] | simp -implicitDefEqProofs (disch := omega) only [hat, r0, List.length_cons, sl_tail, hrl, hN, ars, if_pos, exV_some, Option.map_some] | ((with_reducible first | apply exB_dec | apply exB_intro) <;> intro _))
    all_goals first | (exfalso; omega) | skip
    refine (hes.put _).app (s := _) (fun b o ho => ?_) ?_ hel rfl fun H1 v1 h1 h2 h3 => ?_
    · rw [upd_ne _ _ (by rintro rfl; rw [hn] at ho; cases ho)]; exact hb b o ho
    · rw [upd_self]; simp
    rw [upd_self] at h2
    have fin := fun q => PkH.mk' (g := g) (hash := hash) (D := D) (dn := dn) (down := down) (strict := strict) (en' := en) (ln := ln) (q := ⟨r, q, p.es ++ [e], p.ar, p.mo⟩) hn h1 h3
    simp only [pkC, iv] at fin
    obtain ⟨b9, c9, rfl, -, -, -, -, -⟩ := h3.resolve_left fun hh => by simp at hh
    repeat' (first | simp -implicitDefEqProofs only [go_sem, seval] | simp -implicitDefEqProofs (disch := omega) only [h2, updH_upd, ars, if_pos, exV_some, Option.map_some] | ((with_reducible first | apply exB_dec | apply exB_intro) <;> intro _) | with_reducible refine exC_pure (ec _) ?_ | with_reducible refine exCq_pure (ec _) ?_)
    all_goals first | exact fin _ | exact ⟨rfl, fin _⟩ | (exfalso; omega) | skip
    done
  | false =>
    rw [hed] at r0
    rw [if_neg (by simp)]
    repeat' (first | simp -implicitDefEqProofs only [go_sem, seval] | simp -implicitDefEqProofs (disch := omega) only [hat, r0, List.length_cons, ars, if_pos, exV_some, Option.map_some] | ((with_reducible first | apply exB_dec | apply exB_intro) <;> intro _))
    all_goals first | (exfalso; omega) | skip
    refine hes.app (s := _) hb hpn hel rfl fun H1 v1 h1 h2 h3 => ?_
    rw [hat] at h2
    have fin := fun q => PkH.mk' (g := g) (hash := hash) (D := D) (dn := dn) (down := down) (strict := strict) (en' := en) (ln := ln) (q := ⟨s :: r, q, p.es ++ [e], p.ar, p.mo⟩) hn h1 h3
    simp only [pkC, iv, List.length_cons] at fin
    obtain ⟨b9, c9, rfl, -, -, -, -, -⟩ := h3.resolve_left fun hh => by simp at hh
    repeat' (first | simp -implicitDefEqProofs only [go_sem, seval] | simp -implicitDefEqProofs (disch := omega) only [h2, updH_upd, ars, if_pos, exV_some, Option.map_some] | ((with_reducible first | apply exB_dec | apply exB_intro) <;> intro _) | with_reducible refine exC_pure (ec _) ?_ | with_reducible refine exCq_pure (ec _) ?_)
    all_goals first | exact fin _ | exact ⟨rfl, fin _⟩ | (exfalso; omega) | skip
    done
end
end Go.Proofs.Ytejmcijcdhoogaa
end

section
namespace Go.Proofs.Ytejmcijcdhoogaa
open Go Abs
attribute [local irreducible] EX exL exG exC exCq exS exV exIf exGd exGq exB
set_option maxHeartbeats 4000000
section
variable {g : Graph} {hash : Int} {D : Nat} {dn : Bool} {down : List Bool} {strict : Bool} {H H' : AHeap} {pb : Nat} {p : WS} {en : Int} {s : Sg} {r : List Sg}
theorem waround_c (hc : (check g).2 = 0) (hn : g.nl = true → g.links = []) (hl : p.l = s :: r) (hs : i64 s.to) (hll : p.l.length ≤ 300) (har : 0 ≤ p.ar ∧ p.ar ≤ 1000) {e : Int} (he : i64 e) (hp : PkH g hash D dn down strict H H' pb p en) :
    ACalls Try.prog 85 [ptr pb, iv e] H' fun x H'' => x = bv (decide ((goAround g D p r e (segEnd g s)).2 ≠ 3)) ∧ PkH g hash D dn down strict H H'' pb (goAround g D p r e (segEnd g s)).1 en := by
  have hf := fit_of g hc
  have f3 := hf.few
  obtain ⟨hb, hnw, ln, ev, hat, hes⟩ := id hp
  have c1 := fun H hH => wend_c g hash D dn down strict pb p ln ev en s r hl hs H hH
  have c2 := fun H => around_c g (by omega) hn e (segEnd g s) D he H
  have hlen := aroundW_len g e (segEnd g s) D
  obtain ⟨l', hl'⟩ : ∃ l', l' = (aroundW g e (segEnd g s) D).1 := ⟨_, rfl⟩
  obtain ⟨er, her⟩ : ∃ er, er = (aroundW g e (segEnd g s) D).2 := ⟨_, rfl⟩
  rw [goAround, ← hl', ← her]
  simp only [aroundAV, ← hl', ← her] at c2
  rw [← hl'] at hlen
  rw [hl, List.length_cons] at hll
  obtain ⟨to, hto⟩ : ∃ to, to = segEnd g s := ⟨_, rfl⟩
  rw [← hto] at c1 c2
  have c1' := c1 H' hat
  clear hl' her c1
  obtain ⟨cs, hcs⟩ : ∃ cs, tab g = .box cs 0 := ⟨_, rfl⟩
  rw [pkC, hl, hcs, List.length_cons] at hat
  rw [hcs] at c2
  have r0 : rdV (rows (s :: r)) 0 1 false = some (bv s.edge) := rfl
  have hrl : (rows (s :: r)).length = (r.length + 1) * 2 := rows_length (s :: r)
  have hN : ((r.length + 1 : Nat) : Int).toNat - 1 = r.length := by omega
  have c3 := fun n1 n2 H => concat_c l' r n1 n2 (by omega) (by omega) H
  refine ACalls.of_code fn_walk_packet_around ?_
  simp -implicitDefEqProofs only [sc_walk_packet_around, go_sem, seval]
  by_cases hcd : er ≠ 0 ∨ (D : Int) < l'.length + r.length
  · rw [if_pos hcd]
    by_cases h0 : er = 0
    · subst h0
      repeat' (first | simp -implicitDefEqProofs only [go_sem, seval] | simp -implicitDefEqProofs (disch := omega) only [hat, r0, List.length_cons, sl_tail, hrl, hN, ars, if_pos, exV_some, Option.map_some] | ((with_reducible first | apply exB_dec | apply exB_intro) <;> intro _) | with_reducible refine exC_pure (c1') ?_ | with_reducible refine exCq_pure (c1') ?_ | with_reducible refine exC_pure (c2 _) ?_ | with_reducible refine exCq_pure (c2 _) ?_)
      all_goals first | exact hp | exact ⟨rfl, hp⟩ | (exfalso; omega) | skip
      done
    · repeat' (first | simp -implicitDefEqProofs only [go_sem, seval] | simp -implicitDefEqProofs (disch := omega) only [hat, r0, List.length_cons, sl_tail, hrl, hN, ars, if_pos, exV_some, Option.map_some] | ((with_reducible first | apply exB_dec | apply exB_intro) <;> intro _) | with_reducible refine exC_pure (c1') ?_ | with_reducible refine exCq_pure (c1') ?_ | with_reducible refine exC_pure (c2 _) ?_ | with_reducible refine exCq_pure (c2 _) ?_)
      all_goals first | exact hp | exact ⟨rfl, hp⟩ | (exfalso; omega) | skip
      done
  · rw [if_neg hcd]
    have h0 : er = 0 := by omega
    subst h0
    have hd3 : decide ((if p.ar + 1 = 255 then (2 : Int) else 0) ≠ 3) = true := by split <;> decide
    repeat' (first | simp -implicitDefEqProofs only [go_sem, seval] | simp -implicitDefEqProofs (disch := omega) only [hat, r0, List.length_cons, sl_tail, hrl, hN, ars, if_pos, exV_some, Option.map_some] | ((with_reducible first | apply exB_dec | apply exB_intro) <;> intro _) | with_reducible refine exC_pure (c1') ?_ | with_reducible refine exCq_pure (c1') ?_ | with_reducible refine exC_pure (c2 _) ?_ | with_reducible refine exCq_pure (c2 _) ?_ | with_reducible refine exC_pure (c3 _ _ _) ?_ | with_reducible refine exCq_pure (c3 _ _ _) ?_)
    all_goals first | (exfalso; omega) | skip
    refine ⟨by rw [hd3], ?_⟩
    have hmx : (if p.mo < ((l' ++ r).length : Int) then ((l' ++ r).length : Int) else p.mo) = max p.mo ((l' ++ r).length : Int) := by split <;> omega
    rw [updH_upd, updH_upd, hmx]
    have := PkH.mk' (g := g) (hash := hash) (D := D) (dn := dn) (down := down) (strict := strict) (ln := (l' ++ r).isEmpty) (q := ⟨l' ++ r, p.at_, p.es, p.ar + 1, max p.mo ((l' ++ r).length : Int)⟩) (en' := en) hnw hb hes
    rw [pkC, hcs] at this
    exact this

theorem hopO_range (hf : Fit g) {n e : Int} (hn : ¬ noHere g s n) (h : hopO g hash s n = some e) : (0 ≤ e ∧ e < 2 * g.links.length) ∧ (ends g e).1 = n := by
  have h1 : isSeg g s := Decidable.byContradiction fun hh => hn (.inl hh)
  unfold hopO at h
  split at h
  · rename_i he
    injection h with h
    subst h
    rw [isSeg, if_pos he] at h1
    exact ⟨h1, Decidable.byContradiction fun hh => hn (.inr ⟨he, hh⟩)⟩
  · split at h
    · cases h
    · rename_i hz
      injection h with h
      have hpos : 0 < (nxtOf g n s.to).length := List.length_pos_iff.2 hz
      have hm := gi_mem (l := nxtOf g n s.to) (Int.emod_nonneg hash (b := ((nxtOf g n s.to).length : Int)) (by omega)) (Int.emod_lt_of_pos hash (by omega))
      rw [h] at hm
      have := (mem_nxt hf).1 hm
      exact ⟨this.2.1, this.2.2.1⟩
theorem pstep_c (hc : (check g).2 = 0) (hn : g.nl = true → g.links = []) (hh : i64 hash) (hls : ∀ s ∈ p.l, i64 s.to) (hll : p.l.length ≤ 300) (har : 0 ≤ p.ar ∧ p.ar ≤ 254) (hel : p.es.length ≤ 255) (hp : PkH g hash D dn down strict H H' pb p en) :
    ACalls Try.prog 63 [ptr pb] H' fun x H'' => x = iv (wstep g hash down strict D p).2 ∧ PkH g hash D dn down strict H H'' pb (wstep g hash down strict D p).1 en := by
  have hf := fit_of g hc
  have f3 := hf.few
  obtain ⟨hb, hnw, ln, ev, hat, hes⟩ := id hp
  obtain ⟨R, hR⟩ : ∃ R, R = wstep g hash down strict D p := ⟨_, rfl⟩
  rw [← hR]
  refine ACalls.of_code fn_walk_packet_step ?_
  cases hl : p.l with
  | nil =>
    have hR2 : R = (p, 1) := by rw [hR, wstep, hl]
    rw [hR2]
    rw [pkC, hl] at hat
    obtain ⟨cs, hcs⟩ : ∃ cs, tab g = .box cs 0 := ⟨_, rfl⟩
    rw [hcs] at hat
    simp -implicitDefEqProofs only [sc_walk_packet_step, go_sem, seval]
    repeat' (first | simp -implicitDefEqProofs only [go_sem, seval] | simp -implicitDefEqProofs (disch := omega) only [hat, List.length_nil, ars, if_pos, exV_some, Option.map_some] | ((with_reducible first | apply exB_dec | apply exB_intro) <;> intro _))
    all_goals first | exact hp | exact ⟨rfl, hp⟩ | (exfalso; omega) | skip
    done
  | cons s r =>
    have hs := hls s (by rw [hl]; simp)
    have c1 := wlabel_c g hash D dn down strict pb p ln ev en s r (by omega) hl hs H' hat
    have c2 := whop_c g hash D dn down strict pb p ln ev en s r hc hh hl H' hat
    rw [wstep, hl] at hR
    dsimp only at hR
    have hll' := hll
    rw [hl, List.length_cons] at hll'
    have hat0 := hat
    rw [pkC, hl, List.length_cons] at hat
    have r0 : rdV (rows (s :: r)) 0 1 false = some (bv s.edge) := rfl
    have r1 : rdV (rows (s :: r)) 1 1 false = some (iv s.to) := rfl
    have hrl : (rows (s :: r)).length = (r.length + 1) * 2 := rows_length (s :: r)
    have hN : ((r.length + 1 : Nat) : Int).toNat - 1 = r.length := by omega
    obtain ⟨cs, hcs⟩ : ∃ cs, tab g = .box cs 0 := ⟨_, rfl⟩
    rw [hcs] at hat
    -- how many edges, as the code reads it
    have hev : lenq [] false (.v ev) = some p.es.length := by
      rcases hes with ⟨h1, rfl⟩ | ⟨b, cap, rfl, -⟩
      · rw [h1]; rfl
      · rfl
    simp -implicitDefEqProofs only [sc_walk_packet_step, go_sem, seval]
    by_cases g1 : s.edge = false ∧ s.to = p.at_
    · rw [if_pos g1] at hR
      rw [hR]
      obtain ⟨g2, g3⟩ := g1
      rw [g2] at r0
      rw [g3] at r1
      have fin := PkH.mk' (g := g) (hash := hash) (D := D) (dn := dn) (down := down) (strict := strict) (ln := ln) (q := ⟨r, p.at_, p.es, p.ar, p.mo⟩) (en' := en) hnw hb hes
      rw [pkC, hcs] at fin
      simp only [iv] at fin
      repeat' (first | simp -implicitDefEqProofs only [go_sem, seval] | simp -implicitDefEqProofs (disch := omega) only [hat, r0, r1, sl_tail, hrl, hN, ars, if_pos, exV_some, Option.map_some] | ((with_reducible first | apply exB_dec | apply exB_intro) <;> intro _))
      all_goals first | exact fin | exact ⟨rfl, fin⟩ | (exfalso; omega) | skip
      done
    · rw [if_neg g1] at hR
      have hne : s.edge = false → s.to ≠ p.at_ := fun h hh => g1 ⟨h, hh⟩
      clear g1 hev
      cases hed : s.edge <;> rcases hes with ⟨hes0, rfl⟩ | ⟨b8, cap8, rfl, -⟩
      all_goals
        rw [hed] at r0 hne
        have hel0 : p.es = [] → p.es.length = 0 := fun h => by rw [h]; rfl
        try have hel0 := hel0 hes0
        try have hne := hne rfl
        by_cases g2 : p.es.length = 255
        · rw [if_pos g2] at hR
          rw [hR]
          repeat' (first | simp -implicitDefEqProofs only [go_sem, seval] | simp -implicitDefEqProofs (disch := omega) only [hat, r0, r1, List.length_cons, sl_tail, hrl, hN, ars, if_pos, exV_some, Option.map_some] | ((with_reducible first | apply exB_dec | apply exB_intro) <;> intro _))
          all_goals first | exact hp | exact ⟨rfl, hp⟩ | (exfalso; omega) | skip
        · rw [if_neg g2] at hR
          by_cases g3 : noHere g s p.at_
          · rw [if_pos g3] at hR
            rw [hR]
            simp only [g3, decide_true] at c1
            repeat' (first | simp -implicitDefEqProofs only [go_sem, seval] | simp -implicitDefEqProofs (disch := omega) only [hat, r0, r1, List.length_cons, sl_tail, hrl, hN, ars, if_pos, exV_some, Option.map_some] | ((with_reducible first | apply exB_dec | apply exB_intro) <;> intro _) | with_reducible refine exC_pure (c1) ?_ | with_reducible refine exCq_pure (c1) ?_)
            all_goals first | exact hp | exact ⟨rfl, hp⟩ | (exfalso; omega) | skip
          · rw [if_neg g3] at hR
            simp only [g3, decide_false] at c1
            cases hho : hopO g hash s p.at_ with
            | none =>
              rw [hho] at hR c2
              dsimp only at hR c2
              rw [hR]
              repeat' (first | simp -implicitDefEqProofs only [go_sem, seval] | simp -implicitDefEqProofs (disch := omega) only [hat, r0, r1, List.length_cons, sl_tail, hrl, hN, ars, if_pos, exV_some, Option.map_some] | ((with_reducible first | apply exB_dec | apply exB_intro) <;> intro _) | with_reducible refine exC_pure (c1) ?_ | with_reducible refine exCq_pure (c1) ?_ | with_reducible refine exC_pure (c2) ?_ | with_reducible refine exCq_pure (c2) ?_)
              all_goals first | exact hp | exact ⟨rfl, hp⟩ | (exfalso; omega) | skip
            | some e =>
              rw [hho] at hR c2
              dsimp only at hR c2
              obtain ⟨⟨he0, he1⟩, -⟩ := hopO_range hf g3 hho
              have c3 := up_c dn down e he0 (by omega) H'
              rw [blv] at c3
              have c4 := wcross_c (s := s) (r := r) (by omega) hl (by omega) (by omega) (e := e) ⟨by omega, by omega⟩ hp
              have c5 := waround_c hc hn hl hs (by omega) ⟨har.1, by omega⟩ (e := e) ⟨by omega, by omega⟩ hp
              cases hu : upE down e with
              | true =>
                rw [hu] at c3
                rw [if_pos hu] at hR
                rw [hR]
                repeat' (first | simp -implicitDefEqProofs only [go_sem, seval] | simp -implicitDefEqProofs (disch := omega) only [hat, r0, r1, List.length_cons, sl_tail, hrl, hN, ars, if_pos, exV_some, Option.map_some] | ((with_reducible first | apply exB_dec | apply exB_intro) <;> intro _) | with_reducible refine exC_pure (c1) ?_ | with_reducible refine exCq_pure (c1) ?_ | with_reducible refine exC_pure (c2) ?_ | with_reducible refine exCq_pure (c2) ?_ | with_reducible refine exC_pure (c3) ?_ | with_reducible refine exCq_pure (c3) ?_)
                all_goals first | (exfalso; omega) | skip
                refine exC_intro c4 ?_
                rintro _ H3 ⟨rfl, hp3⟩
                clear c4 c5 c3 c2 c1
                repeat' (first | simp -implicitDefEqProofs only [go_sem, seval] | simp -implicitDefEqProofs (disch := omega) only [ars, if_pos, exV_some, Option.map_some] | ((with_reducible first | apply exB_dec | apply exB_intro) <;> intro _))
                all_goals first | exact hp3 | exact ⟨rfl, hp3⟩ | (simp only [hed, if_true] at hp3; exact hp3) | (exfalso; omega) | skip
              | false =>
                rw [hu] at c3
                rw [if_neg (by rw [hu]; simp)] at hR
                cases hst : strict with
                | true =>
                  rw [hst] at hat hp
                  rw [if_pos hst] at hR
                  rw [hR]
                  repeat' (first | simp -implicitDefEqProofs only [go_sem, seval] | simp -implicitDefEqProofs (disch := omega) only [hat, r0, r1, List.length_cons, sl_tail, hrl, hN, ars, if_pos, exV_some, Option.map_some] | ((with_reducible first | apply exB_dec | apply exB_intro) <;> intro _) | with_reducible refine exC_pure (c1) ?_ | with_reducible refine exCq_pure (c1) ?_ | with_reducible refine exC_pure (c2) ?_ | with_reducible refine exCq_pure (c2) ?_ | with_reducible refine exC_pure (c3) ?_ | with_reducible refine exCq_pure (c3) ?_)
                  all_goals first | exact hp | exact ⟨rfl, hp⟩ | (exfalso; omega) | skip
                | false =>
                  rw [hst] at hat hp c5
                  rw [if_neg (by rw [hst]; simp)] at hR
                  have hga : (goAround g D p r e (segEnd g s)) = (p, 3) ∨ ((goAround g D p r e (segEnd g s)).2 = (if p.ar + 1 = 255 then 2 else 0) ∧ (goAround g D p r e (segEnd g s)).1.ar = p.ar + 1) := by
                    unfold goAround
                    split
                    · exact .inl rfl
                    · exact .inr ⟨rfl, rfl⟩
                  rw [← hR] at c5 hga
                  repeat' (first | simp -implicitDefEqProofs only [go_sem, seval] | simp -implicitDefEqProofs (disch := omega) only [hat, r0, r1, List.length_cons, sl_tail, hrl, hN, ars, if_pos, exV_some, Option.map_some] | ((with_reducible first | apply exB_dec | apply exB_intro) <;> intro _) | with_reducible refine exC_pure (c1) ?_ | with_reducible refine exCq_pure (c1) ?_ | with_reducible refine exC_pure (c2) ?_ | with_reducible refine exCq_pure (c2) ?_ | with_reducible refine exC_pure (c3) ?_ | with_reducible refine exCq_pure (c3) ?_)
                  all_goals first | (exfalso; omega) | skip
                  refine exC_intro c5 ?_
                  rintro _ H3 ⟨rfl, hp3⟩
                  clear c4 c5 c3 c2 c1
                  obtain ⟨-, -, ln3, ev3, hat3, -⟩ := id hp3
                  rcases hga with hga | ⟨hg1, hg2⟩
                  · rw [hga] at hp3 ⊢
                    repeat' (first | simp -implicitDefEqProofs only [go_sem, seval] | simp -implicitDefEqProofs (disch := omega) only [ars, if_pos, exV_some, Option.map_some] | ((with_reducible first | apply exB_dec | apply exB_intro) <;> intro _))
                    all_goals first | exact hp3 | exact ⟨rfl, hp3⟩ | (exfalso; omega) | skip
                  · have hd : decide (R.2 ≠ 3) = true := by rw [hg1]; split <;> decide
                    rw [hd]
                    rw [pkC, hcs, hg2] at hat3
                    by_cases h255 : p.ar + 1 = 255
                    · rw [if_pos h255] at hg1
                      rw [hg1]
                      repeat' (first | simp -implicitDefEqProofs only [go_sem, seval] | simp -implicitDefEqProofs (disch := omega) only [hat3, ars, if_pos, exV_some, Option.map_some] | ((with_reducible first | apply exB_dec | apply exB_intro) <;> intro _))
                      all_goals first | exact hp3 | exact ⟨rfl, hp3⟩ | (exfalso; omega) | skip
                    · rw [if_neg h255] at hg1
                      rw [hg1]
                      repeat' (first | simp -implicitDefEqProofs only [go_sem, seval] | simp -implicitDefEqProofs (disch := omega) only [hat3, ars, if_pos, exV_some, Option.map_some] | ((with_reducible first | apply exB_dec | apply exB_intro) <;> intro _))
                      all_goals first | exact hp3 | exact ⟨rfl, hp3⟩ | (exfalso; omega) | skip
end
end Go.Proofs.Ytejmcijcdhoogaa
end

section
namespace Go.Proofs.Ytejmcijcdhoogaa
open Go Abs
attribute [local irreducible] EX exL exG exC exCq exS exV exIf exGd exGq exB
set_option maxHeartbeats 4000000
theorem lst_sub {g : Graph} {w : Want} {down : List Bool} : ∀ {n : Nat} {a : St} {s : Sg}, s ∈ lst g w down n a → s ∈ segsA g
  | 0, a, s, h => by simp [lst] at h
  | n + 1, a, s, h => by
    rw [lst] at h
    split at h
    · rename_i l hl
      rcases List.mem_cons.1 h with rfl | h
      · have hm := List.mem_of_find?_eq_some hl
        rw [leadsL] at hm
        obtain ⟨s', hs', h2⟩ := List.mem_filterMap.1 hm
        unfold ldO at h2
        obtain ⟨c, -, rfl⟩ := Option.map_eq_some_iff.1 h2
        exact hs'
      · exact lst_sub h
    · cases h
theorem compW_sub {g : Graph} {w : Want} {down : List Bool} {depth : Int} {s : Sg} (h : s ∈ (compW g w down depth).1) : s ∈ segsA g := by
  by_cases h0 : optErr g w down = 0
  · rcases compW_cases g w down depth h0 with ⟨n, -, -, -, h4⟩ | ⟨-, h2⟩
    · rw [h4] at h; exact lst_sub h
    · rw [h2] at h; cases h
  · rw [compW, if_pos h0] at h; cases h
theorem aroundW_sub {g : Graph} {e to depth : Int} {s : Sg} (h : s ∈ (aroundW g e to depth).1) : s ∈ segsA g := by
  unfold aroundW at h
  split at h
  · exact compW_sub h
  · cases h
theorem segsA_i64 {g : Graph} (hf : Fit g) {s : Sg} (h : s ∈ segsA g) : i64 s.to := by
  have f1 := hf.n2
  have f3 := hf.few
  unfold segsA at h
  unfold i64
  rcases List.mem_append.1 h with h | h
  · have := segsN_mem h; omega
  · have := segsE_mem h; omega
theorem wstep_sub {g : Graph} {hash : Int} {down : List Bool} {strict : Bool} {D : Nat} {p : WS} {s : Sg} (h : s ∈ (wstep g hash down strict D p).1.l) : s ∈ p.l ∨ s ∈ segsA g := by
  obtain ⟨l, n, es, ar, mo⟩ := p
  cases l with
  | nil => exact .inl h
  | cons s0 r =>
    unfold wstep at h
    dsimp only at h
    split at h
    · exact .inl (List.mem_cons_of_mem _ h)
    · split at h
      · exact .inl h
      · split at h
        · exact .inl h
        · split at h
          · exact .inl h
          · split at h
            · dsimp only at h
              split at h
              · exact .inl (List.mem_cons_of_mem _ h)
              · exact .inl h
            · split at h
              · exact .inl h
              · unfold goAround at h
                split at h
                · exact .inl h
                · rcases List.mem_append.1 h with h | h
                  · exact .inr (aroundW_sub h)
                  · exact .inl (List.mem_cons_of_mem _ h)
theorem run_c (g : Graph) (hc : (check g).2 = 0) (hn : g.nl = true → g.links = []) (src : Int) (ln : Bool) (l : List Sg) (hls : ∀ s ∈ l, i64 s.to) (hll : l.length ≤ 280) (hash : Int) (hh : i64 hash) (dn : Bool) (down : List Bool) (strict : Bool) (depth : Int) (H : AHeap) :
    APure Try.prog 34 [tab g, iv src, .vec ln (rows l) l.length, iv hash, blv dn down, bv strict, iv depth] H (walkAV (walkW g src l hash down strict depth)) := by
  intro Q h
  have hf := fit_of g hc
  have f3 := hf.few
  have tg := fun H => tgraph_c g (by omega) hn H
  have ic := fun H => is_c g src H
  simp only [Graph.av] at tg ic
  by_cases hs : 0 ≤ src ∧ src < g.nodes
  · obtain ⟨R, hR⟩ := walkW_end g src l hash down strict depth
    rw [walkW_of hs hR] at h
    obtain ⟨D, hD⟩ : ∃ D, D = cut10 depth := ⟨_, rfl⟩
    rw [← hD] at hR
    have hD10 : D ≤ 10 := by rw [hD]; unfold cut10; omega
    have hdd : (if 0 < (if 10 < depth then 10 else depth) then (if 10 < depth then 10 else depth) else 0 : Int) = (D : Int) := by
      rw [hD, cut10]; split <;> (try split) <;> omega
    suffices key : ACalls Try.prog 34 [tab g, iv src, .vec ln (rows l) l.length, iv hash, blv dn down, bv strict, iv depth] H fun r H' => ∃ pb ev, (∀ b o, H b = some o → H' b = some o) ∧ r = .agg [ev, iv R.1.at_, iv R.2, iv R.1.ar, iv R.1.mo] ∧ EsH H H' pb R.1.es ev by
      refine ACalls.relax (key.mono ?_)
      rintro r H' ⟨pb, ev, hb, rfl, ⟨he, rfl⟩ | ⟨b, cap, rfl, q1, q2, q3, q4, q5⟩⟩
      · refine ⟨fun _ => False, H, _, hb, by simp, Fz.refl _ _ _, ?_⟩
        rw [walkAV, he] at h
        exact h
      · have hne : R.1.es.isEmpty = false := by
          cases hq : R.1.es with
          | nil => exact absurd hq q5
          | cons _ _ => rfl
        rw [walkAV, ints, hne] at h
        refine ⟨fun x => x = b, H, _, hb, ?_, Fz.agg (.cons (Fz.slice (o := 0) (ds := R.1.es.map iv) rfl q1 q4 (Nat.le_refl _) (fun j u hj => by rw [Nat.zero_add]; exact hj) (fun _ => by simpa using q5) (FzL.refl _ _ _)) (FzL.refl _ _ _)), h⟩
        rintro x rfl
        exact ⟨by rw [q1]; simp, q3⟩
    clear h
    refine ACalls.of_code fn_walk_Run ?_
    simp only [hs, and_self, decide_true] at ic
    obtain ⟨cs, hcs⟩ : ∃ cs, tab g = .box cs 0 := ⟨_, rfl⟩
    rw [hcs] at tg ⊢
    simp -implicitDefEqProofs only [sc_walk_Run, blv, go_sem, seval]
    repeat' (first | simp -implicitDefEqProofs only [go_sem, seval] | simp -implicitDefEqProofs (disch := omega) only [hdd, ars, if_pos, exV_some, Option.map_some] | ((with_reducible first | apply exB_dec | apply exB_intro) <;> intro _) | with_reducible refine exC_pure (tg _) ?_ | with_reducible refine exCq_pure (tg _) ?_ | with_reducible refine exC_pure (ic _) ?_ | with_reducible refine exCq_pure (ic _) ?_)
    all_goals first | (exfalso; omega) | skip
    intro pb hpb
    have hpb : H pb = none := hpb
    repeat' (first | simp -implicitDefEqProofs only [go_sem, seval] | simp -implicitDefEqProofs (disch := omega) only [upd_self, updH_upd, hdd, ars, if_pos, exV_some, Option.map_some] | ((with_reducible first | apply exB_dec | apply exB_intro) <;> intro _))
    all_goals first | (exfalso; omega) | skip
    have h0 : PkH g hash D dn down strict H (upd H pb (some (.cells (pkC g hash D dn down strict ⟨l, src, [], 0, l.length⟩ ln (.vec true [] 0) 0) 118))) pb ⟨l, src, [], 0, l.length⟩ 0 := PkH.mk' hpb (fun b o ho => ho) (.inl ⟨rfl, rfl⟩)
    rw [pkC, hcs] at h0
    refine exL_modH (fun _ : WS × Int × AHeap => []) (fun _ => []) (fun x => x.2.2) (fun x => ((x.2.1 = 0 → WOk (l.length + 10) x.1) ∧ (∀ s ∈ x.1.l, i64 s.to)) ∧ PkH g hash D dn down strict H x.2.2 pb x.1 x.2.1 ∧ (if x.2.1 = 0 then WEnd g hash down strict D x.1 R else R = (x.1, x.2.1))) (fun x => if x.2.1 = 0 then wmu (l.length + 10) x.1 + 1 else 0) (⟨l, src, [], 0, l.length⟩, 0, _) rfl ⟨⟨fun _ => ⟨by simp, by simp, by simp, by simp⟩, hls⟩, h0, by rw [if_pos rfl]; exact hR⟩ ?_
    clear h0 hR
    rintro ⟨p, en, H1⟩ ⟨⟨hok, hsl⟩, hp, hw⟩ ih
    dsimp only at hok hsl hp hw ih
    simp only [S.up, S.upH, ups, Abs.put, Nat.reduceEqDiff, ↓reduceIte, Nat.reduceAdd] at ih
    obtain ⟨hb, -, ln1, ev1, hat, hes⟩ := id hp
    have hat2 := hat
    rw [pkC, hcs] at hat
    simp -implicitDefEqProofs only [congrArg KI.code sc_walk_Run_L0.eq_1, go_sem, seval]
    by_cases hen : en = 0
    · subst hen
      rw [if_pos rfl] at hw
      have hok := hok rfl
      have sc := pstep_c hc hn hh hsl (by have := hok.len; omega) ⟨hok.ar0, hok.ar1⟩ hok.few hp
      have hsub := fun (s : Sg) (hs : s ∈ (wstep g hash down strict D p).1.l) => wstep_sub hs
      have hst := fun hz => hok.step (g := g) (hash := hash) (down := down) (strict := strict) (D := D) (by omega) hz
      have hin : if (wstep g hash down strict D p).2 = 0 then WEnd g hash down strict D (wstep g hash down strict D p).1 R else R = wstep g hash down strict D p := by
        cases hw with
        | fin hz => rw [if_neg hz]
        | go hz hw => rw [if_pos hz]; exact hw
      obtain ⟨q, hq⟩ : ∃ q, q = wstep g hash down strict D p := ⟨_, rfl⟩
      rw [← hq] at sc hsub hst hin
      repeat' (first | simp -implicitDefEqProofs only [go_sem, seval] | simp -implicitDefEqProofs (disch := omega) only [hat, ars, if_pos, exV_some, Option.map_some] | ((with_reducible first | apply exB_dec | apply exB_intro) <;> intro _))
      all_goals first | (exfalso; omega) | skip
      refine exC_intro sc ?_
      rintro _ H2 ⟨rfl, hp2⟩
      obtain ⟨hb2, hn2, ln2, ev2, hat3, hes2⟩ := hp2
      have fin := PkH.mk' (g := g) (hash := hash) (D := D) (dn := dn) (down := down) (strict := strict) (ln := ln2) (q := q.1) (en' := q.2) hn2 hb2 hes2
      have nx := ih (q.1, q.2, _) ⟨⟨fun hz => (hst hz).1, fun s hs => by
        rcases hsub s hs with h | h
        · exact hsl s h
        · exact segsA_i64 hf h⟩, fin, hin⟩ (by
        dsimp only
        rw [if_pos rfl]
        split
        · rename_i hz
          have := (hst hz).2
          omega
        · omega)
      dsimp only at nx
      rw [pkC, hcs] at hat3 nx
      clear ih sc fin
      repeat' (first | simp -implicitDefEqProofs only [go_sem, seval] | simp -implicitDefEqProofs (disch := omega) only [hat3, ars, if_pos, exV_some, Option.map_some] | ((with_reducible first | apply exB_dec | apply exB_intro) <;> intro _))
      all_goals first | exact nx | (exfalso; omega) | skip
      done
    · rw [if_neg hen] at hw
      subst hw
      clear ih
      rcases id hes with ⟨-, rfl⟩ | ⟨b8, cap8, rfl, -⟩
      · repeat' (first | simp -implicitDefEqProofs only [go_sem, seval] | simp -implicitDefEqProofs (disch := omega) only [hat, ars, if_pos, exV_some, Option.map_some] | ((with_reducible first | apply exB_dec | apply exB_intro) <;> intro _))
        all_goals first | exact ⟨pb, _, hb, rfl, hes⟩ | (exfalso; omega) | skip
        done
      · repeat' (first | simp -implicitDefEqProofs only [go_sem, seval] | simp -implicitDefEqProofs (disch := omega) only [hat, ars, if_pos, exV_some, Option.map_some] | ((with_reducible first | apply exB_dec | apply exB_intro) <;> intro _))
        all_goals first | exact ⟨pb, _, hb, rfl, hes⟩ | (exfalso; omega) | skip
        done
  · rw [walkW_none hs] at h
    obtain ⟨cs, hcs⟩ : ∃ cs, tab g = .box cs 0 := ⟨_, rfl⟩
    rw [hcs] at tg ⊢
    simp only [hs, decide_false] at ic
    refine ACalls.of_code fn_walk_Run ?_
    simp -implicitDefEqProofs only [sc_walk_Run, blv, go_sem, seval]
    repeat' (first | simp -implicitDefEqProofs only [go_sem, seval] | simp -implicitDefEqProofs (disch := omega) only [ars, if_pos, exV_some, Option.map_some] | ((with_reducible first | apply exB_dec | apply exB_intro) <;> intro _) | with_reducible refine exC_pure (tg _) ?_ | with_reducible refine exCq_pure (tg _) ?_ | with_reducible refine exC_pure (ic _) ?_ | with_reducible refine exCq_pure (ic _) ?_)
    all_goals first | exact h | (exfalso; omega) | skip
    done
end Go.Proofs.Ytejmcijcdhoogaa
end

section
namespace Go.Proofs.Ytejmcijcdhoogaa
open Go Abs
attribute [local irreducible] EX exL exG exC exCq exS exV exIf exGd exGq exB
set_option maxHeartbeats 4000000
section
variable {g : Graph} {hash : Int} {down : List Bool} {strict : Bool} {D : Nat}
theorem wend_go {p p' : WS} {R : WS × Int} (h : wstep g hash down strict D p = (p', 0)) (k : WEnd g hash down strict D p' R) : WEnd g hash down strict D p R := .go (by rw [h]) (by rw [h]; exact k)
theorem wend_fin {p : WS} {R : WS × Int} (h : wstep g hash down strict D p = R) (he : R.2 ≠ 0) : WEnd g hash down strict D p R := by
  have := WEnd.fin (g := g) (hash := hash) (down := down) (strict := strict) (D := D) (p := p) (by rw [h]; exact he)
  rwa [h] at this
theorem wstep_drop {s : Sg} {r : List Sg} {n : Int} {es : List Int} {ar mo : Int} (h : s.edge = false ∧ s.to = n) : wstep g hash down strict D ⟨s :: r, n, es, ar, mo⟩ = (⟨r, n, es, ar, mo⟩, 0) := by
  unfold wstep
  dsimp only
  rw [if_pos h]
theorem wstep_hop {s : Sg} {r : List Sg} {n : Int} {es : List Int} {ar mo e : Int} (h1 : ¬ (s.edge = false ∧ s.to = n)) (h2 : es.length ≠ 255) (h3 : ¬ noHere g s n) (h4 : hopO g hash s n = some e) (h5 : upE down e = true) :
    wstep g hash down strict D ⟨s :: r, n, es, ar, mo⟩ = (⟨if s.edge = true then r else s :: r, (ends g e).2.1, es ++ [e], ar, mo⟩, 0) := by
  unfold wstep
  dsimp only
  rw [if_neg h1, if_neg h2, if_neg h3, h4]
  dsimp only
  rw [if_pos h5]
end
theorem walk20 : walkW g2_ 0 [] 5 [] false 3 = (⟨[], 0, [], 0, 0⟩, 1) := walkW_of (by decide) (wend_fin rfl (by decide))
theorem walk21 : walkW g2_ 0 [⟨false, 1⟩] 5 [] false 3 = (⟨[], 1, [0], 0, 1⟩, 1) := by
  refine walkW_of (by decide) (wend_go (wstep_hop (e := 0) (by decide) (by decide) (by decide) ?_ (by decide)) (wend_go (wstep_drop ⟨rfl, rfl⟩) (wend_fin rfl (by decide))))
  rw [hopO, if_neg (by decide), nxt201]
  rfl
theorem alive21_c (H : AHeap) : APure Try.prog 32 [] H (bv true) := by
  intro Q h
  refine ACalls.of_code fn_waymarklaw21_alive ?_
  have hc2 : (check g2_).2 = 0 := by decide
  have c1 := tables16_c g2_ (by decide) (by decide) H
  rw [tabs16, if_pos hc2] at c1
  have c2 := run_c g2_ hc2 (by decide) 0 true [] (by simp) (by simp) 5 ⟨by decide, by decide⟩ true [] false 3 H
  have c3 := run_c g2_ hc2 (by decide) 0 false [⟨false, 1⟩] (fun s hs => by rw [List.mem_singleton.1 hs]; exact ⟨by decide, by decide⟩) (by simp) 5 ⟨by decide, by decide⟩ true [] false 3 H
  rw [walkAV, walk20] at c2
  rw [walkAV, walk21] at c3
  obtain ⟨cs, hcs⟩ : ∃ cs, tab g2_ = .box cs 0 := ⟨_, rfl⟩
  obtain ⟨ds, hds⟩ : ∃ cs, refTab g2_ = .box cs 0 := ⟨_, rfl⟩
  rw [hcs] at c1 c2 c3
  rw [hds] at c1
  simp only [Graph.av, blv, ints, g2_] at c1 c2 c3
  simp only [rows, List.flatMap_cons, List.flatMap_nil, List.append_nil, Link.cells_eq, Sg.cells_eq, List.map_cons, List.map_nil, List.length_cons, List.length_nil, List.isEmpty_nil, List.isEmpty_cons, Nat.zero_add, Int.natCast_zero, Int.zero_add, Int.cast_ofNat_Int] at c1 c2 c3
  simp -implicitDefEqProofs only [sc_waymarklaw21_alive, go_sem, seval]
  repeat' (first | simp -implicitDefEqProofs only [go_sem, seval] | simp -implicitDefEqProofs (disch := omega) only [ars, if_pos, exV_some, Option.map_some] | ((with_reducible first | apply exB_dec | apply exB_intro) <;> intro _) | with_reducible refine exC_pure (c1) ?_ | with_reducible refine exCq_pure (c1) ?_ | with_reducible refine exC_pure (c2) ?_ | with_reducible refine exCq_pure (c2) ?_ | with_reducible refine exC_pure (c3) ?_ | with_reducible refine exCq_pure (c3) ?_)
  all_goals first | exact h | skip
  done
end Go.Proofs.Ytejmcijcdhoogaa
end

section
namespace Go.Proofs.Ytejmcijcdhoogaa
open Go Abs
attribute [local irreducible] EX exL exG exC exCq exS exV exIf exGd exGq exB
set_option maxHeartbeats 4000000
def pathW (g : Graph) (down : List Bool) : Int → List Int → Option Int
  | n, [] => some n
  | n, e :: r => if (0 ≤ e ∧ e < 2 * (g.links.length : Int)) ∧ (ends g e).1 = n ∧ upE down e = true then pathW g down (ends g e).2.1 r else none
theorem pathW_append {g : Graph} {down : List Bool} : ∀ {es : List Int} {n m : Int} {e : Int}, pathW g down n es = some m → ((0 ≤ e ∧ e < 2 * (g.links.length : Int)) ∧ (ends g e).1 = m ∧ upE down e = true) → pathW g down n (es ++ [e]) = some (ends g e).2.1
  | [], n, m, e, h, he => by
    injection h with h
    subst h
    rw [List.nil_append, pathW, if_pos he]
    rfl
  | x :: es, n, m, e, h, he => by
    rw [List.cons_append, pathW]
    rw [pathW] at h
    split at h
    · rename_i hx
      rw [if_pos hx]
      exact pathW_append h he
    · cases h
section
variable {g : Graph} {hash : Int} {down : List Bool} {strict : Bool} {D : Nat}
theorem wend_inv {P : WS → Prop} (hstep : ∀ p, P p → P (wstep g hash down strict D p).1) {p : WS} {R : WS × Int} (h : WEnd g hash down strict D p R) (hp : P p) : P R.1 := by
  induction h with
  | fin _ => exact hstep _ hp
  | go _ _ ih => exact ih (hstep _ hp)
structure HopI (g : Graph) (down : List Bool) (src : Int) (p : WS) : Prop where
  path : pathW g down src p.es = some p.at_
  few : p.es.length ≤ 255
  ar : 0 ≤ p.ar
  mo : 0 ≤ p.mo
theorem HopI.step {src : Int} (hf : Fit g) {p : WS} (h : HopI g down src p) : HopI g down src (wstep g hash down strict D p).1 := by
  obtain ⟨l, n, es, ar, mo⟩ := p
  obtain ⟨h1, h2, h3, h4⟩ := h
  dsimp only at h1 h2 h3 h4
  cases l with
  | nil => exact ⟨h1, h2, h3, h4⟩
  | cons s r =>
    unfold wstep
    dsimp only
    split
    · exact ⟨h1, h2, h3, h4⟩
    · split
      · exact ⟨h1, h2, h3, h4⟩
      · rename_i hlen
        split
        · exact ⟨h1, h2, h3, h4⟩
        · rename_i hn
          split
          · exact ⟨h1, h2, h3, h4⟩
          · rename_i e he
            split
            · rename_i hu
              obtain ⟨q1, q2⟩ := hopO_range hf hn he
              exact ⟨pathW_append h1 ⟨q1, q2, hu⟩, by simp; omega, h3, h4⟩
            · split
              · exact ⟨h1, h2, h3, h4⟩
              · unfold goAround
                split
                · exact ⟨h1, h2, h3, h4⟩
                · exact ⟨h1, h2, by dsimp only; omega, by dsimp only; omega⟩
end
end Go.Proofs.Ytejmcijcdhoogaa
end

section
namespace Go.Proofs.Ytejmcijcdhoogaa
open Go Abs
attribute [local irreducible] EX exL exG exC exCq exS exV exIf exGd exGq exB
set_option maxHeartbeats 4000000
end Go.Proofs.Ytejmcijcdhoogaa
end

section
namespace Go.Proofs.Ytejmcijcdhoogaa
open Go Abs
attribute [local irreducible] EX exL exG exC exCq exS exV exIf exGd exGq exB
set_option maxHeartbeats 4000000
section
variable {n : Nat}
end
end Go.Proofs.Ytejmcijcdhoogaa
end

section
namespace Go.Proofs.Ytejmcijcdhoogaa
open Go Abs
attribute [local irreducible] EX exL exG exC exCq exS exV exIf exGd exGq exB
set_option maxHeartbeats 1000000
section
variable {g : Graph} {w : Want} {down : List Bool}
theorem step_up {a b : St} {e : Int} (h : stepW g w down a e = some b) : (0 ≤ e ∧ e < 2 * (g.links.length : Int)) ∧ (ends g e).1 = a.1 ∧ (ends g e).2.1 = b.1 ∧ upE (pruned g w down) e = true ∧ upE down e = true := by
  obtain ⟨⟨-, -, -, -, h5, h6, h7, -, -⟩, rfl⟩ := stepW_some h
  obtain ⟨e0, e1⟩ := ends_ok h5
  refine ⟨⟨e0, e1⟩, h6, rfl, h7, ?_⟩
  rw [upE, pruned_length, decide_eq_true (show e / 2 < (g.links.length : Int) by omega), Bool.true_and, gi_get (by rw [pruned_length]; omega)] at h7
  simp only [pruned, List.getElem_map, List.getElem_range, prunedAt, Bool.not_or, Bool.and_eq_true] at h7
  rw [Int.toNat_of_nonneg (by omega)] at h7
  exact h7.1.1.1.1
noncomputable def leftS (g : Graph) (w : Want) (down : List Bool) (a : St) : Nat := (w.via.length + 1 - a.2).toNat * 11 + min 10 (cntL (farOf g w down (a.2 + 1)) (gi (farOf g w down (a.2 + 1)) a.1))
theorem leftS_step (wf : WFit g w) (hs : g.nodes ≤ 10) {a b : St} {e : Int} (h : stepW g w down a e = some b) : leftS g w down b < leftS g w down a := by
  obtain ⟨⟨-, h2, h3, -, h5, h6, -, h8, h9⟩, rfl⟩ := stepW_some h
  obtain ⟨e0, e1⟩ := ends_ok h5
  have hf := wf.fit
  have hw := hf.w e e0 e1
  have hb := (hf.b e e0 e1).2
  have hl := pts_length w
  have hc := (come_le (l := pts w) (node := (ends g e).2.1) h2.1 (by omega)).1
  have hfl := far_length wf down (n := a.2 + 1) (by omega) (by omega)
  unfold leftS
  dsimp only
  by_cases hn : come (pts w) (ends g e).2.1 a.2 = a.2
  · rw [hn]
    have h1 := cntL_lt (farOf g w down (a.2 + 1)) h8 (show gi (farOf g w down (a.2 + 1)) (ends g e).2.1 < gi (farOf g w down (a.2 + 1)) a.1 by omega) (gi_mem hb.1 (by omega))
    have h2 := cntL_le (farOf g w down (a.2 + 1)) (gi (farOf g w down (a.2 + 1)) a.1) (gi_mem h3.1 (by omega))
    omega
  · omega
theorem leftS_top (w4 : w.via.length ≤ 4) {a : St} (ha : 0 ≤ a.2) : leftS g w down a ≤ (w.via.length + 1) * 11 + 10 := by
  unfold leftS
  omega
theorem leftS_rch (wf : WFit g w) (hs : g.nodes ≤ 10) {to : Int} {a b : St} (h : Rch g w down to a b) : leftS g w down b ≤ leftS g w down a := by
  induction h with
  | refl => exact Nat.le_refl _
  | step _ _ _ h4 ih => have := leftS_step wf hs h4; omega
def On (g : Graph) (w : Want) (down : List Bool) (a : St) (m : Nat) (l : List Sg) : Prop :=
  (Tg g w down m a ∧ l = lst g w down m a) ∨ ∃ m' c to, m = m' + 1 ∧ endN g w down to a = some c ∧ Tg g w down m' c ∧ l = ⟨false, to⟩ :: lst g w down m' c
theorem On.length {a : St} {m : Nat} {l : List Sg} (h : On g w down a m l) : l.length = m := by
  rcases h with ⟨h1, rfl⟩ | ⟨m', c, to, rfl, -, h1, rfl⟩
  · exact lst_length h1
  · rw [List.length_cons, lst_length h1]
theorem nxt_rng {a to e : Int} (h : e ∈ nxtOf g a to) : (0 ≤ a ∧ a < g.nodes) ∧ 0 ≤ to ∧ to < g.nodes := by
  unfold nxtOf at h
  split at h
  · assumption
  · cases h
theorem on_node (wf : WFit g w) {a c : St} {m : Nat} {to : Int} (h : endN g w down to a = some c) (ht : Tg g w down m c) (hne : a.1 ≠ to) :
    ¬ noHere g ⟨false, to⟩ a.1 ∧ ∀ hash, ∃ e b, hopO g hash ⟨false, to⟩ a.1 = some e ∧ stepW g w down a e = some b ∧ On g w down b (m + 1) (⟨false, to⟩ :: lst g w down m c) := by
  have hf := wf.fit
  obtain ⟨h1, h2⟩ := endN_next hf hne h
  obtain ⟨x, r, hx⟩ := List.exists_cons_of_ne_nil h1
  have hr := nxt_rng (g := g) (a := a.1) (to := to) (e := x) (by rw [hx]; simp)
  refine ⟨?_, fun hash => ?_⟩
  · unfold noHere isSeg
    simp only [Bool.false_eq_true, if_false, false_and, or_false, Decidable.not_not]
    exact hr.2
  · have hl : 0 < (nxtOf g a.1 to).length := by rw [hx]; simp
    have m0 : 0 ≤ hash % ((nxtOf g a.1 to).length : Int) := Int.emod_nonneg _ (by omega)
    have m1 : hash % ((nxtOf g a.1 to).length : Int) < (nxtOf g a.1 to).length := Int.emod_lt_of_pos _ (by omega)
    obtain ⟨b, hb1, hb2⟩ := h2 _ (gi_mem m0 m1)
    refine ⟨_, b, ?_, hb1, .inr ⟨m, c, to, rfl, hb2, ht, rfl⟩⟩
    rw [hopO, if_neg (by simp), if_neg h1]
def Goes (g : Graph) (w : Want) (down : List Bool) (a : St) (m : Nat) (l : List Sg) : Prop :=
  ∃ s r m' c, l = s :: r ∧ m = m' + 1 ∧ ¬ (s.edge = false ∧ s.to = a.1) ∧ ¬ noHere g s a.1 ∧ segEnd g s = c.1 ∧ On g w down c m' r ∧ (g.nodes ≤ 10 → leftS g w down c ≤ leftS g w down a) ∧
      ∀ hash, ∃ e b, hopO g hash s a.1 = some e ∧ stepW g w down a e = some b ∧ (s.edge = true → On g w down b m' r) ∧ (s.edge = false → On g w down b m l)
theorem goes_node (wf : WFit g w) {a c : St} {m : Nat} {to : Int} (h1 : endN g w down to a = some c) (h2 : Tg g w down m c) (h3 : a.1 ≠ to) : Goes g w down a (m + 1) (⟨false, to⟩ :: lst g w down m c) := by
  have hf := wf.fit
  obtain ⟨q1, q2⟩ := on_node wf h1 h2 h3
  refine ⟨⟨false, to⟩, lst g w down m c, m, c, rfl, rfl, fun hh => h3 hh.2.symm, q1, ?_, .inl ⟨h2, rfl⟩, fun hs => leftS_rch wf hs (endN_reach hf h1), fun hash => ?_⟩
  · rw [segEnd, if_neg (by simp)]
    exact (endN_at hf h1).symm
  · obtain ⟨e, b, r1, r2, r3⟩ := q2 hash
    exact ⟨e, b, r1, r2, (fun hh => by cases hh), fun _ => r3⟩
theorem on_cases (wf : WFit g w) {a : St} {m : Nat} {l : List Sg} (h : On g w down a m l) :
    (l = [] ∧ m = 0 ∧ a = goalW w) ∨ (∃ r m', l = ⟨false, a.1⟩ :: r ∧ m = m' + 1 ∧ On g w down a m' r) ∨ Goes g w down a m l := by
  have hf := wf.fit
  rcases h with ⟨h1, h2⟩ | ⟨m', c, to, h1, h2, h3, h4⟩
  · cases m with
    | zero => exact .inl ⟨by rw [h2]; rfl, rfl, h1⟩
    | succ m' =>
      obtain ⟨s, c, hs1, hs2, hs3, hs4⟩ := lst_cons h1
      obtain ⟨ed, x⟩ := s
      cases ed with
      | true =>
        rw [segW_edge] at hs2
        obtain ⟨u1, u2, u3, -, -⟩ := step_up hs2
        refine .inr (.inr ⟨⟨true, x⟩, _, m', c, h2.trans hs4, rfl, by simp, ?_, ?_, .inl ⟨hs3, rfl⟩, fun hs => Nat.le_of_lt (leftS_step wf hs hs2), fun hash => ⟨x, c, by rw [hopO, if_pos rfl], hs2, fun _ => .inl ⟨hs3, rfl⟩, fun hh => by cases hh⟩⟩)
        · unfold noHere isSeg
          simp only [if_true, true_and, not_or, Decidable.not_not]
          exact ⟨u1, u2⟩
        · rw [segEnd, if_pos rfl]
          exact u3
      | false =>
        rw [segW_node, segN] at hs2
        split at hs2
        · cases hs2
        · rename_i hne
          rw [h2, hs4]
          exact .inr (.inr (goes_node wf hs2 hs3 hne))
  · by_cases hat : a.1 = to
    · rw [endN_self hf hat] at h2
      injection h2 with h2
      subst h2
      exact .inr (.inl ⟨_, m', by rw [h4, hat], h1, .inl ⟨h3, rfl⟩⟩)
    · rw [h1, h4]
      exact .inr (.inr (goes_node wf h2 h3 hat))
theorem on_start {depth : Int} (h : (compW g w down depth).2 = 0) : optErr g w down = 0 ∧ ∃ n, n ≤ cut10 depth ∧ On g w down (startW w) n (compW g w down depth).1 := by
  have h0 := compW_err h
  refine ⟨h0, ?_⟩
  rcases compW_cases g w down depth h0 with ⟨n, h1, h2, -, h4⟩ | ⟨-, h4⟩
  · exact ⟨n, h1, .inl ⟨h2, by rw [h4]⟩⟩
  · rw [h4] at h; cases h
theorem run_left (wf : WFit g w) (hs : g.nodes ≤ 10) : ∀ {es : List Int} {a b : St}, runW g w down a es = some b → es.length + leftS g w down b ≤ leftS g w down a ∧ ∀ e ∈ es, 0 ≤ e ∧ e < 2 * (g.links.length : Int)
  | [], a, b, h => by
    simp only [runW, Option.some.injEq] at h
    subst h
    simp
  | e :: es, a, b, h => by
    rw [runW] at h
    cases hst : stepW g w down a e with
    | none => rw [hst] at h; cases h
    | some c =>
      rw [hst] at h
      obtain ⟨h1, h2⟩ := run_left wf hs (es := es) h
      have := leftS_step wf hs hst
      refine ⟨by rw [List.length_cons]; omega, fun x hx => ?_⟩
      rcases List.mem_cons.1 hx with rfl | hx
      · exact (step_up hst).1
      · exact h2 x hx
end
theorem wstep_down {g : Graph} {hash : Int} {down : List Bool} {D : Nat} {s : Sg} {r : List Sg} {n : Int} {es : List Int} {ar mo e : Int} (h1 : ¬ (s.edge = false ∧ s.to = n)) (h2 : es.length ≠ 255) (h3 : ¬ noHere g s n) (h4 : hopO g hash s n = some e) (h5 : upE down e = false) :
    wstep g hash down true D ⟨s :: r, n, es, ar, mo⟩ = (⟨s :: r, n, es, ar, mo⟩, 3) := by
  unfold wstep
  dsimp only
  rw [if_neg h1, if_neg h2, if_neg h3, h4]
  dsimp only
  rw [if_neg (by rw [h5]; simp), if_pos rfl]
theorem wstep_around {g : Graph} {hash : Int} {down : List Bool} {D : Nat} {s : Sg} {r : List Sg} {n : Int} {es : List Int} {ar mo e : Int} (h1 : ¬ (s.edge = false ∧ s.to = n)) (h2 : es.length ≠ 255) (h3 : ¬ noHere g s n) (h4 : hopO g hash s n = some e) (h5 : upE down e = false) :
    wstep g hash down false D ⟨s :: r, n, es, ar, mo⟩ = goAround g D ⟨s :: r, n, es, ar, mo⟩ r e (segEnd g s) := by
  unfold wstep
  dsimp only
  rw [if_neg h1, if_neg h2, if_neg h3, h4]
  dsimp only
  rw [if_neg (by rw [h5]; simp), if_neg (by simp)]
structure Strict (g : Graph) (w : Want) (down0 : List Bool) (M : Int) (p : WS) (a : St) (m : Nat) : Prop where
  run : runW g w down0 (startW w) p.es = some a
  at_ : a.1 = p.at_
  ar : p.ar = 0
  mo : p.mo = M
  on : On g w down0 a m p.l
theorem strict_end {g : Graph} {w : Want} (wf : WFit g w) (hs : g.nodes ≤ 10) {down0 down : List Bool} {M hash : Int} {D : Nat} {p : WS} {R : WS × Int} (h : WEnd g hash down true D p R) : ∀ {a : St} {m : Nat}, Strict g w down0 M p a m →
    ∃ a' m', Strict g w down0 M R.1 a' m' ∧ ((R.2 = 1 ∧ a' = goalW w) ∨ (R.2 = 3 ∧ ∃ e b, stepW g w down0 a' e = some b ∧ upE down e = false)) := by
  have one : ∀ (p : WS) {a : St} {m : Nat}, Strict g w down0 M p a m → (∃ a' m', Strict g w down0 M (wstep g hash down true D p).1 a' m' ∧ (wstep g hash down true D p).2 = 0) ∨ ((wstep g hash down true D p) = (p, 1) ∧ a = goalW w) ∨ ((wstep g hash down true D p) = (p, 3) ∧ ∃ e b, stepW g w down0 a e = some b ∧ upE down e = false) := by
    rintro ⟨l, n, es, ar, mo⟩ a m ⟨h1, h2, h3, h4, h5⟩
    dsimp only at h1 h2 h3 h4 h5
    have hl := (run_left wf hs h1).1
    have ht := leftS_top (g := g) (down := down0) wf.few (a := startW w) (by
      have hl := pts_length w
      exact (come_le (l := pts w) (node := w.src) (n := 0) (by decide) (by omega)).1)
    have w4 := wf.few
    have h255 : es.length ≠ 255 := by omega
    rcases on_cases wf h5 with ⟨rfl, rfl, q3⟩ | ⟨r, m', rfl, rfl, q3⟩ | ⟨s, r, m', c, rfl, rfl, q3, q4, -, -, -, q8⟩
    · exact .inr (.inl ⟨rfl, q3⟩)
    · rw [wstep_drop ⟨rfl, h2⟩]
      exact .inl ⟨a, m', ⟨h1, h2, h3, h4, q3⟩, rfl⟩
    · obtain ⟨e, b, u1, u2, u3, u4⟩ := q8 hash
      rw [h2] at q3 q4 u1
      cases hu : upE down e with
      | true =>
        rw [wstep_hop q3 h255 q4 u1 hu]
        have hx := (step_up u2).2.2.1
        refine .inl ?_
        cases he : s.edge with
        | true => exact ⟨b, m', ⟨by dsimp only; rw [runW_append _ _ _ _ _ _ _ h1, u2], hx.symm, h3, h4, u3 he⟩, rfl⟩
        | false => exact ⟨b, m' + 1, ⟨by dsimp only; rw [runW_append _ _ _ _ _ _ _ h1, u2], hx.symm, h3, h4, u4 he⟩, rfl⟩
      | false =>
        rw [wstep_down q3 h255 q4 u1 hu]
        exact .inr (.inr ⟨rfl, e, b, u2, hu⟩)
  induction h with
  | @fin p hz =>
    intro a m hp
    rcases one p hp with ⟨a', m', q1, q2⟩ | ⟨q1, q2⟩ | ⟨q1, q2⟩
    · exact absurd q2 hz
    · rw [q1]; exact ⟨a, m, hp, .inl ⟨rfl, q2⟩⟩
    · rw [q1]; exact ⟨a, m, hp, .inr ⟨rfl, q2⟩⟩
  | @go p R hz _ ih =>
    intro a m hp
    rcases one p hp with ⟨a', m', q1, q2⟩ | ⟨q1, q2⟩ | ⟨q1, q2⟩
    · exact ih q1
    · rw [q1] at hz; cases hz
    · rw [q1] at hz; cases hz
end Go.Proofs.Ytejmcijcdhoogaa
end

section
namespace Go.Proofs.Ytejmcijcdhoogaa
open Go Abs
attribute [local irreducible] EX exL exG exC exCq exS exV exIf exGd exGq exB
set_option maxHeartbeats 4000000
theorem num21_c (x : Int) (H : AHeap) : APure Try.prog 36 [iv x] H (iv x) := by
  intro Q h
  refine ACalls.of_code fn_waymarklaw21_num ?_
  simp -implicitDefEqProofs only [sc_waymarklaw21_num, go_sem, seval]
  all_goals first | exact h | skip
  done
theorem strict_start {g : Graph} {w : Want} {down down0 : List Bool} {depth hash : Int} (hs : g.nodes ≤ 10) (he : (compW g w down0 depth).2 = 0) (wf : WFit g w) :
    ∃ R a m, walkW g w.src (compW g w down0 depth).1 hash down true 10 = R ∧ WEnd g hash down true (cut10 10) ⟨(compW g w down0 depth).1, w.src, [], 0, (compW g w down0 depth).1.length⟩ R ∧ Strict g w down0 (compW g w down0 depth).1.length R.1 a m ∧ ((R.2 = 1 ∧ a = goalW w) ∨ (R.2 = 3 ∧ ∃ e b, stepW g w down0 a e = some b ∧ upE down e = false)) := by
  obtain ⟨h0, n, h1, h2⟩ := on_start he
  obtain ⟨R, hR⟩ := walkW_end g w.src (compW g w down0 depth).1 hash down true 10
  obtain ⟨a, m, q1, q2⟩ := strict_end wf hs hR (M := (compW g w down0 depth).1.length) (a := startW w) (m := n) ⟨rfl, rfl, rfl, rfl, h2⟩
  exact ⟨R, a, m, walkW_of wf.src hR, hR, q1, q2⟩
theorem strict_es {g : Graph} {w : Want} {down0 : List Bool} {M : Int} {p : WS} {a : St} {m : Nat} (wf : WFit g w) (hs : g.nodes ≤ 10) (h : Strict g w down0 M p a m) : p.es.length ≤ 65 ∧ I64s p.es := by
  obtain ⟨h1, h2⟩ := run_left wf hs h.run
  have w4 := wf.few
  have ht := leftS_top (g := g) (down := down0) wf.few (a := startW w) (by
    have hl := pts_length w
    exact (come_le (l := pts w) (node := w.src) (n := 0) (by decide) (by omega)).1)
  have f3 := wf.fit.few
  exact ⟨by omega, fun x hx => by have := h2 x hx; constructor <;> omega⟩
theorem walkBest_c (g : Graph) (hb : g.links.length * 32 ≤ 140737488351232) (hn : g.nl = true → g.links = []) (w : Want) (hw : w.ok) (nl : Bool) (down : List Bool) (hash : Int) (hh : i64 hash) (H : AHeap) :
    APure Try.prog 11 [g.av, w.av, blv nl down, iv hash] H (bv true) := by
  intro Q h
  have fc := fun H => few_c w H
  have sc := fun H => small15_c g H
  have tc := fun H => tables16_c g hb hn H
  have cc := fun H => compile_c g hb hn w hw nl down 10 H
  refine ACalls.of_code fn_waymarklaw21_WalkBest ?_
  by_cases hs : g.nodes ≤ 10 ∧ g.links.length ≤ 16
  case neg =>
    rw [decide_eq_false hs] at sc
    simp only [Graph.av, Want.av, blv, sl] at fc sc
    simp -implicitDefEqProofs only [sc_waymarklaw21_WalkBest, Graph.av, Want.av, blv, sl, go_sem, seval]
    refine exC_pure (alive21_c _) ?_
    repeat' (first | simp -implicitDefEqProofs only [go_sem, seval] | simp -implicitDefEqProofs (disch := omega) only [ars, if_pos, exV_some, Option.map_some] | ((with_reducible first | apply exB_dec | apply exB_intro) <;> intro _) | with_reducible refine exC_pure (fc _) ?_ | with_reducible refine exCq_pure (fc _) ?_ | with_reducible refine exC_pure (sc _) ?_ | with_reducible refine exCq_pure (sc _) ?_)
    all_goals first | exact h | (exfalso; omega) | skip
    done
  rw [decide_eq_true hs] at sc
  by_cases hc : (check g).2 = 0
  case neg =>
    rw [tabs16, if_neg hc] at tc
    simp only [Graph.av, Want.av, blv, sl] at fc sc tc
    simp -implicitDefEqProofs only [sc_waymarklaw21_WalkBest, Graph.av, Want.av, blv, sl, go_sem, seval]
    refine exC_pure (alive21_c _) ?_
    repeat' (first | simp -implicitDefEqProofs only [go_sem, seval] | simp -implicitDefEqProofs (disch := omega) only [ars, if_pos, exV_some, Option.map_some] | ((with_reducible first | apply exB_dec | apply exB_intro) <;> intro _) | with_reducible refine exC_pure (fc _) ?_ | with_reducible refine exCq_pure (fc _) ?_ | with_reducible refine exC_pure (sc _) ?_ | with_reducible refine exCq_pure (sc _) ?_ | with_reducible refine exC_pure (tc _) ?_ | with_reducible refine exCq_pure (tc _) ?_)
    all_goals first | exact h | (exfalso; omega) | skip
    done
  rw [tabs16, if_pos hc] at tc
  have rc := fun l h1 h2 H => run_c g hc hn w.src (List.isEmpty l) l h1 h2 hash hh nl down true 10 H
  obtain ⟨cs, hcs⟩ : ∃ cs, tab g = .box cs 0 := ⟨_, rfl⟩
  obtain ⟨ds, hds⟩ : ∃ cs, refTab g = .box cs 0 := ⟨_, rfl⟩
  rw [hcs] at tc cc rc
  rw [hds] at tc
  by_cases he : (compW g w down 10).2 = 0
  case neg =>
    obtain ⟨l, hl⟩ : ∃ l, l = (compW g w down 10).1 := ⟨_, rfl⟩
    obtain ⟨e, hee⟩ : ∃ e, e = (compW g w down 10).2 := ⟨_, rfl⟩
    rw [compAV, ← hl, ← hee] at cc
    rw [← hee] at he
    simp only [Graph.av, Want.av, blv, sl] at fc sc tc cc
    simp -implicitDefEqProofs only [sc_waymarklaw21_WalkBest, Graph.av, Want.av, blv, sl, go_sem, seval]
    refine exC_pure (alive21_c _) ?_
    repeat' (first | simp -implicitDefEqProofs only [go_sem, seval] | simp -implicitDefEqProofs (disch := omega) only [ars, if_pos, exV_some, Option.map_some] | ((with_reducible first | apply exB_dec | apply exB_intro) <;> intro _) | with_reducible refine exC_pure (fc _) ?_ | with_reducible refine exCq_pure (fc _) ?_ | with_reducible refine exC_pure (sc _) ?_ | with_reducible refine exCq_pure (sc _) ?_ | with_reducible refine exC_pure (tc _) ?_ | with_reducible refine exCq_pure (tc _) ?_ | with_reducible refine exC_pure (cc _) ?_ | with_reducible refine exCq_pure (cc _) ?_ | with_reducible refine exC_pure (num21_c _ _) ?_ | with_reducible refine exCq_pure (num21_c _ _) ?_)
    all_goals first | exact h | (exfalso; omega) | skip
    done
  have h0 := compW_err he
  have wf := wfit_of (optErr_right h0)
  have hf := wf.fit
  obtain ⟨R, a, m, q1, -, q2, q3⟩ := strict_start (down := down) (hash := hash) hs.1 he wf
  have hll := compW_len g w down 10
  have hls : ∀ s ∈ (compW g w down 10).1, i64 s.to := fun s hs => segsA_i64 hf (compW_sub hs)
  have rc1 := fun H => rc _ hls (by omega) H
  rw [q1] at rc1
  have hrun : R.2 = 1 ∧ a = goalW w := by
    rcases q3 with q3 | ⟨-, e, b, q4, q5⟩
    · exact q3
    · rw [(step_up q4).2.2.2.2] at q5; cases q5
  have hes := strict_es wf hs.1 q2
  have hc1 := fun H => rhas_c g w nl down hw R.1.es.isEmpty R.1.es hes.2 (by omega) H
  have hhas : HasW g w down R.1.es := ⟨h0, by rw [q2.run, hrun.2]⟩
  rw [decide_eq_true hhas] at hc1
  have hat : R.1.at_ = w.dst := by rw [← q2.at_, hrun.2]; rfl
  rw [walkAV, hrun.1, hat, q2.ar, q2.mo] at rc1
  obtain ⟨es, hes'⟩ : ∃ es, es = R.1.es := ⟨_, rfl⟩
  obtain ⟨l, hl⟩ : ∃ l, l = (compW g w down 10).1 := ⟨_, rfl⟩
  rw [compAV, he, ← hl] at cc
  rw [← hes', ← hl] at rc1
  rw [← hes'] at hc1
  simp only [Graph.av, Want.av, blv, sl, ints] at fc sc tc cc rc1 hc1
  clear rc
  simp -implicitDefEqProofs only [sc_waymarklaw21_WalkBest, Graph.av, Want.av, blv, sl, go_sem, seval]
  refine exC_pure (alive21_c _) ?_
  repeat' (first | simp -implicitDefEqProofs only [go_sem, seval] | simp -implicitDefEqProofs (disch := omega) only [ars, if_pos, exV_some, Option.map_some] | ((with_reducible first | apply exB_dec | apply exB_intro) <;> intro _) | with_reducible refine exC_pure (fc _) ?_ | with_reducible refine exCq_pure (fc _) ?_ | with_reducible refine exC_pure (sc _) ?_ | with_reducible refine exCq_pure (sc _) ?_ | with_reducible refine exC_pure (tc _) ?_ | with_reducible refine exCq_pure (tc _) ?_ | with_reducible refine exC_pure (cc _) ?_ | with_reducible refine exCq_pure (cc _) ?_ | with_reducible refine exC_pure (num21_c _ _) ?_ | with_reducible refine exCq_pure (num21_c _ _) ?_ | with_reducible refine exC_pure (rc1 _) ?_ | with_reducible refine exCq_pure (rc1 _) ?_ | with_reducible refine exC_pure (hc1 _) ?_ | with_reducible refine exCq_pure (hc1 _) ?_)
  all_goals first | exact h | (exfalso; omega) | skip
  done
end Go.Proofs.Ytejmcijcdhoogaa
end

section
namespace Go.Proofs.Ytejmcijcdhoogaa
open Go Abs
attribute [local irreducible] EX exL exG exC exCq exS exV exIf exGd exGq exB
set_option maxHeartbeats 1000000
section
variable {g : Graph} {w : Want} {x : Int}
structure M1 (g : Graph) (w : Want) (p : WS) (a : St) (m : Nat) : Prop where
  at_ : a.1 = p.at_
  on : On g w [] a m p.l
  ar0 : 0 ≤ p.ar
  ar : p.ar + m ≤ 4
  few : p.es.length + leftS g w [] a + 21 * m ≤ 149
structure M2 (g : Graph) (w : Want) (x : Int) (p : WS) (c : St) (m : Nat) (v : Want) (d : List Bool) (b : St) (k : Nat) (pre r : List Sg) : Prop where
  l : p.l = pre ++ r
  wf : WFit g v
  goal : (goalW v).1 = c.1
  at_ : b.1 = p.at_
  on : On g v d b k pre
  on2 : On g w [] c m r
  up : ∀ e : Int, 0 ≤ e → e < 2 * g.links.length → upE d e = true → e / 2 ≠ x
  ar0 : 0 ≤ p.ar
  ar : p.ar + m ≤ 4
  few : p.es.length + leftS g w [] c + 21 * m + leftS g v d b ≤ 149
def Loose (g : Graph) (w : Want) (x : Int) (p : WS) : Prop := (∃ a m, M1 g w p a m) ∨ ∃ c m v d b k pre r, M2 g w x p c m v d b k pre r
def linkD (g : Graph) (x : Int) : List Bool := (List.replicate g.links.length false).set x.toNat true
theorem linkD_up (hx : 0 ≤ x ∧ x < g.links.length) {e : Int} (e0 : 0 ≤ e) (e1 : e < 2 * g.links.length) : upE (linkD g x) e = true ↔ e / 2 ≠ x := by
  have := downR_up (g := g) (edge := 2 * x) (e := e) (by omega) e0 e1
  rw [downR, show 2 * x / 2 = x by omega] at this
  exact this
theorem M1.step (wf : WFit g w) (hs : g.nodes ≤ 10) (hx : 0 ≤ x ∧ x < g.links.length) {hash : Int} {D : Nat} {p : WS} {a : St} {m : Nat} (h : M1 g w p a m) :
    ((wstep g hash (linkD g x) false D p).2 = 0 ∧ Loose g w x (wstep g hash (linkD g x) false D p).1) ∨ wstep g hash (linkD g x) false D p = (p, 3) ∨ (wstep g hash (linkD g x) false D p = (p, 1) ∧ p.at_ = w.dst) := by
  obtain ⟨l, n, es, ar, mo⟩ := p
  obtain ⟨h2, h5, a0, h3, h4⟩ := h
  dsimp only at h2 h5 a0 h3 h4
  have h255 : es.length ≠ 255 := by omega
  rcases on_cases wf h5 with ⟨rfl, rfl, q3⟩ | ⟨r, m', rfl, rfl, q3⟩ | ⟨s, r, m', c, rfl, rfl, q3, q4, q5, q6, q7, q8⟩
  · refine .inr (.inr ⟨rfl, ?_⟩)
    show n = w.dst
    rw [← h2, q3]
    rfl
  · rw [wstep_drop ⟨rfl, h2⟩]
    exact .inl ⟨rfl, .inl ⟨a, m', h2, q3, a0, by dsimp only; omega, by dsimp only; omega⟩⟩
  · obtain ⟨e, b, u1, u2, u3, u4⟩ := q8 hash
    rw [h2] at q3 q4 u1
    have hlt := leftS_step wf hs u2
    cases hu : upE (linkD g x) e with
    | true =>
      rw [wstep_hop q3 h255 q4 u1 hu]
      have hy := (step_up u2).2.2.1
      refine .inl ⟨rfl, .inl ?_⟩
      cases he : s.edge with
      | true => exact ⟨b, m', hy.symm, u3 he, a0, by dsimp only; omega, by simp only [List.length_append, List.length_cons, List.length_nil]; omega⟩
      | false => exact ⟨b, m' + 1, hy.symm, u4 he, a0, by dsimp only; omega, by simp only [List.length_append, List.length_cons, List.length_nil]; omega⟩
    | false =>
      rw [wstep_around q3 h255 q4 u1 hu, goAround]
      obtain ⟨⟨e0, e1⟩, eb, -, -, -⟩ := step_up u2
      have hex : e / 2 = x := by
        by_cases hex : e / 2 = x
        · exact hex
        · rw [(linkD_up hx e0 e1).2 hex] at hu; cases hu
      split
      · exact .inr (.inl rfl)
      · rename_i hno
        simp only [not_or, Decidable.not_not, Int.not_lt] at hno
        obtain ⟨ha, hl⟩ := hno
        have hok : (ends g e).2.2 = true := by
          by_cases hok : (ends g e).2.2 = true
          · exact hok
          · rw [aroundW, if_neg hok] at ha; cases ha
        have haw : aroundW g e (segEnd g s) D = compW g (wR (ends g e).1 (segEnd g s)) (downR g e) D := by rw [aroundW, if_pos hok]
        rw [haw] at ha ⊢
        obtain ⟨h0, k, -, hon⟩ := on_start ha
        have wf2 := wfit_of (optErr_right h0)
        have hc0 : 0 ≤ (startW (wR (ends g e).1 (segEnd g s))).2 := by
          have hl := pts_length (wR (ends g e).1 (segEnd g s))
          exact (come_le (l := pts (wR (ends g e).1 (segEnd g s))) (node := (wR (ends g e).1 (segEnd g s)).src) (n := 0) (by decide) (by omega)).1
        have htop := leftS_top (g := g) (down := downR g e) wf2.few hc0
        have hz : (wR (ends g e).1 (segEnd g s)).via.length = 0 := rfl
        have hc7 := q7 hs
        dsimp only
        rw [if_neg (by omega)]
        refine .inl ⟨rfl, .inr ⟨c, m', wR (ends g e).1 (segEnd g s), downR g e, startW (wR (ends g e).1 (segEnd g s)), k, _, r, rfl, wf2, q5, ?_, hon, q6, ?_, by dsimp only; omega, by dsimp only; omega, by dsimp only; omega⟩⟩
        · show (ends g e).1 = n
          rw [eb, h2]
        · intro e' f0 f1 hu'
          have := (downR_up (g := g) (edge := e) ⟨e0, e1⟩ f0 f1).1 hu'
          rwa [hex] at this
theorem Loose.step (wf : WFit g w) (hs : g.nodes ≤ 10) (hx : 0 ≤ x ∧ x < g.links.length) {hash : Int} {D : Nat} {p : WS} (h : Loose g w x p) :
    ((wstep g hash (linkD g x) false D p).2 = 0 ∧ Loose g w x (wstep g hash (linkD g x) false D p).1) ∨ wstep g hash (linkD g x) false D p = (p, 3) ∨ (wstep g hash (linkD g x) false D p = (p, 1) ∧ p.at_ = w.dst) := by
  rcases h with ⟨a, m, h⟩ | ⟨c, m, v, d, b, k, pre, r, h⟩
  · exact h.step wf hs hx
  · obtain ⟨h1, wv, h2, h3, h5, h6, h7, a0, h8, h9⟩ := h
    obtain ⟨l, n, es, ar, mo⟩ := p
    dsimp only at h1 h3 a0 h8 h9
    subst h1
    have h255 : es.length ≠ 255 := by omega
    rcases on_cases wv h5 with ⟨rfl, rfl, q3⟩ | ⟨r', m', rfl, rfl, q3⟩ | ⟨s, r', m', c', rfl, rfl, q3, q4, -, -, -, q8⟩
    · exact M1.step wf hs hx (a := c) (m := m) ⟨by dsimp only; rw [← h3, q3]; exact h2.symm, h6, a0, h8, by dsimp only; omega⟩
    · rw [List.cons_append, wstep_drop ⟨rfl, h3⟩]
      exact .inl ⟨rfl, .inr ⟨c, m, v, d, b, m', r', r, rfl, wv, h2, h3, q3, h6, h7, a0, h8, h9⟩⟩
    · obtain ⟨e, b', u1, u2, u3, u4⟩ := q8 hash
      rw [h3] at q3 q4 u1
      have hlt := leftS_step wv hs u2
      obtain ⟨⟨e0, e1⟩, eb, hy, -, hu⟩ := step_up u2
      rw [List.cons_append, wstep_hop q3 h255 q4 u1 ((linkD_up hx e0 e1).2 (h7 e e0 e1 hu))]
      refine .inl ⟨rfl, .inr ?_⟩
      cases he : s.edge with
      | true => exact ⟨c, m, v, d, b', m', r', r, rfl, wv, h2, hy.symm, u3 he, h6, h7, a0, h8, by simp only [List.length_append, List.length_cons, List.length_nil]; omega⟩
      | false => exact ⟨c, m, v, d, b', m' + 1, s :: r', r, rfl, wv, h2, hy.symm, u4 he, h6, h7, a0, h8, by simp only [List.length_append, List.length_cons, List.length_nil]; omega⟩
theorem loose_end (wf : WFit g w) (hs : g.nodes ≤ 10) (hx : 0 ≤ x ∧ x < g.links.length) {hash : Int} {D : Nat} {p : WS} {R : WS × Int} (h : WEnd g hash (linkD g x) false D p R) (hp : Loose g w x p) : R.2 = 3 ∨ (R.2 = 1 ∧ R.1.at_ = w.dst) := by
  induction h with
  | @fin p hz =>
    rcases hp.step wf hs hx (hash := hash) (D := D) with ⟨q1, q2⟩ | q1 | ⟨q1, q2⟩
    · exact absurd q1 hz
    · rw [q1]; exact .inl rfl
    · rw [q1]; exact .inr ⟨rfl, q2⟩
  | @go p R hz _ ih =>
    rcases hp.step wf hs hx (hash := hash) (D := D) with ⟨q1, q2⟩ | q1 | ⟨q1, q2⟩
    · exact ih q2
    · rw [q1] at hz; cases hz
    · rw [q1] at hz; cases hz
theorem loose_start (he : (compW g w [] 4).2 = 0) (wf : WFit g w) : Loose g w x ⟨(compW g w [] 4).1, w.src, [], 0, (compW g w [] 4).1.length⟩ := by
  obtain ⟨h0, n, h1, h2⟩ := on_start he
  have ht := leftS_top (g := g) (down := []) wf.few (a := startW w) (by
    have hl := pts_length w
    exact (come_le (l := pts w) (node := w.src) (n := 0) (by decide) (by omega)).1)
  have w4 := wf.few
  have hn : n ≤ 4 := by
    have : cut10 4 = 4 := rfl
    omega
  exact .inl ⟨startW w, n, rfl, h2, Int.le_refl 0, by dsimp only; omega, by simp only [List.length_nil]; omega⟩
theorem path_up {down : List Bool} : ∀ {es : List Int} {n m : Int}, pathW g down n es = some m → ∀ e ∈ es, (0 ≤ e ∧ e < 2 * (g.links.length : Int)) ∧ upE down e = true
  | [], n, m, _, e, he => by cases he
  | y :: es, n, m, h, e, he => by
    rw [pathW] at h
    split at h
    · rename_i hy
      rcases List.mem_cons.1 he with rfl | he
      · exact ⟨hy.1, hy.2.2⟩
      · exact path_up h e he
    · cases h
end
end Go.Proofs.Ytejmcijcdhoogaa
end

section
namespace Go.Proofs.Ytejmcijcdhoogaa
open Go Abs
attribute [local irreducible] EX exL exG exC exCq exS exV exIf exGd exGq exB
set_option maxHeartbeats 4000000
theorem around_walk {g : Graph} {w : Want} {x hash : Int} {strict : Bool} (hs : g.nodes ≤ 10) (hx : 0 ≤ x ∧ x < g.links.length) (he : (compW g w [] 4).2 = 0) (wf : WFit g w) :
    ∃ R, walkW g w.src (compW g w [] 4).1 hash (linkD g x) strict 10 = R ∧ R.1.es.length ≤ 255 ∧ (∀ e ∈ R.1.es, (0 ≤ e ∧ e < 2 * (g.links.length : Int)) ∧ e / 2 ≠ x) ∧
      (strict = true → R.1.ar = 0 ∧ ((R.2 = 1 ∧ R.1.at_ = w.dst ∧ HasW g w [] R.1.es) ∨ (R.2 = 3 ∧ ¬ HasW g w [] R.1.es))) ∧ (strict = false → R.2 = 3 ∨ (R.2 = 1 ∧ R.1.at_ = w.dst)) := by
  have hf := wf.fit
  have h0 := compW_err he
  obtain ⟨R, hR⟩ := walkW_end g w.src (compW g w [] 4).1 hash (linkD g x) strict 10
  obtain ⟨hI1, hI2, -, -⟩ := wend_inv (P := HopI g (linkD g x) w.src) (fun p hp => hp.step hf) hR ⟨rfl, by simp, by simp, by simp⟩
  refine ⟨R, walkW_of wf.src hR, by simpa using hI2, fun e hee => ?_, fun hst => ?_, fun hst => ?_⟩
  · obtain ⟨q1, q2⟩ := path_up hI1 e hee
    exact ⟨q1, (linkD_up hx q1.1 q1.2).1 q2⟩
  · subst hst
    obtain ⟨R', a, m, q1, q0, q2, q3⟩ := strict_start (down := linkD g x) (hash := hash) hs he wf
    have hRR : R' = R := wEnd_uniq q0 hR
    subst hRR
    refine ⟨q2.ar, ?_⟩
    rcases q3 with ⟨q3, q4⟩ | ⟨q3, e, b, q4, -⟩
    · exact .inl ⟨q3, by rw [← q2.at_, q4]; rfl, h0, by rw [q2.run, q4]⟩
    · refine .inr ⟨q3, fun hh => ?_⟩
      have := hh.2
      rw [q2.run] at this
      injection this with this
      have h2 := (stepW_some q4).1.2.1.2
      rw [this] at h2
      exact absurd h2 (by show ¬ ((w.via.length : Int) + 1 < w.via.length + 1); omega)
  · subst hst
    exact loose_end wf hs hx hR (loose_start he wf)
theorem walkAround_c (g : Graph) (hb : g.links.length * 32 ≤ 140737488351232) (hn : g.nl = true → g.links = []) (w : Want) (hw : w.ok) (x hash : Int) (hh : i64 hash) (strict : Bool) (H : AHeap) :
    APure Try.prog 12 [g.av, w.av, iv x, iv hash, bv strict] H (bv true) := by
  intro Q h
  have fc := fun H => few_c w H
  have sc := fun H => small15_c g H
  have tc := fun H => tables16_c g hb hn H
  have cc := fun H => compile_c g hb hn w hw true [] 4 H
  refine ACalls.of_code fn_waymarklaw21_WalkAround ?_
  by_cases hs : g.nodes ≤ 10 ∧ g.links.length ≤ 16
  case neg =>
    rw [decide_eq_false hs] at sc
    simp only [Graph.av, Want.av, blv, sl] at fc sc
    simp -implicitDefEqProofs only [sc_waymarklaw21_WalkAround, Graph.av, Want.av, blv, sl, go_sem, seval]
    refine exC_pure (alive21_c _) ?_
    repeat' (first | simp -implicitDefEqProofs only [go_sem, seval] | simp -implicitDefEqProofs (disch := omega) only [ars, if_pos, exV_some, Option.map_some] | ((with_reducible first | apply exB_dec | apply exB_intro) <;> intro _) | with_reducible refine exC_pure (fc _) ?_ | with_reducible refine exCq_pure (fc _) ?_ | with_reducible refine exC_pure (sc _) ?_ | with_reducible refine exCq_pure (sc _) ?_)
    all_goals first | exact h | (exfalso; omega) | skip
    done
  rw [decide_eq_true hs] at sc
  by_cases hx : 0 ≤ x ∧ x < g.links.length
  case neg =>
    simp only [Graph.av, Want.av, blv, sl] at fc sc
    simp -implicitDefEqProofs only [sc_waymarklaw21_WalkAround, Graph.av, Want.av, blv, sl, go_sem, seval]
    refine exC_pure (alive21_c _) ?_
    repeat' (first | simp -implicitDefEqProofs only [go_sem, seval] | simp -implicitDefEqProofs (disch := omega) only [ars, if_pos, exV_some, Option.map_some] | ((with_reducible first | apply exB_dec | apply exB_intro) <;> intro _) | with_reducible refine exC_pure (fc _) ?_ | with_reducible refine exCq_pure (fc _) ?_ | with_reducible refine exC_pure (sc _) ?_ | with_reducible refine exCq_pure (sc _) ?_)
    all_goals first | exact h | (exfalso; omega) | skip
    done
  by_cases hc : (check g).2 = 0
  case neg =>
    rw [tabs16, if_neg hc] at tc
    simp only [Graph.av, Want.av, blv, sl] at fc sc tc
    simp -implicitDefEqProofs only [sc_waymarklaw21_WalkAround, Graph.av, Want.av, blv, sl, go_sem, seval]
    refine exC_pure (alive21_c _) ?_
    repeat' (first | simp -implicitDefEqProofs only [go_sem, seval] | simp -implicitDefEqProofs (disch := omega) only [ars, if_pos, exV_some, Option.map_some] | ((with_reducible first | apply exB_dec | apply exB_intro) <;> intro _) | with_reducible refine exC_pure (fc _) ?_ | with_reducible refine exCq_pure (fc _) ?_ | with_reducible refine exC_pure (sc _) ?_ | with_reducible refine exCq_pure (sc _) ?_ | with_reducible refine exC_pure (tc _) ?_ | with_reducible refine exCq_pure (tc _) ?_)
    all_goals first | exact h | (exfalso; omega) | skip
    done
  rw [tabs16, if_pos hc] at tc
  have rc := fun l h1 h2 H => run_c g hc hn w.src (List.isEmpty l) l h1 h2 hash hh false (linkD g x) strict 10 H
  obtain ⟨cs, hcs⟩ : ∃ cs, tab g = .box cs 0 := ⟨_, rfl⟩
  obtain ⟨ds, hds⟩ : ∃ cs, refTab g = .box cs 0 := ⟨_, rfl⟩
  rw [hcs] at tc cc rc
  rw [hds] at tc
  by_cases he : (compW g w [] 4).2 = 0
  case neg =>
    obtain ⟨l, hl⟩ : ∃ l, l = (compW g w [] 4).1 := ⟨_, rfl⟩
    obtain ⟨e, hee⟩ : ∃ e, e = (compW g w [] 4).2 := ⟨_, rfl⟩
    rw [compAV, ← hl, ← hee] at cc
    rw [← hee] at he
    simp only [Graph.av, Want.av, blv, sl, List.map_nil, List.length_nil] at fc sc tc cc
    simp -implicitDefEqProofs only [sc_waymarklaw21_WalkAround, Graph.av, Want.av, blv, sl, go_sem, seval]
    refine exC_pure (alive21_c _) ?_
    repeat' (first | simp -implicitDefEqProofs only [go_sem, seval] | simp -implicitDefEqProofs (disch := omega) only [ars, if_pos, exV_some, Option.map_some] | ((with_reducible first | apply exB_dec | apply exB_intro) <;> intro _) | with_reducible refine exC_pure (fc _) ?_ | with_reducible refine exCq_pure (fc _) ?_ | with_reducible refine exC_pure (sc _) ?_ | with_reducible refine exCq_pure (sc _) ?_ | with_reducible refine exC_pure (tc _) ?_ | with_reducible refine exCq_pure (tc _) ?_ | with_reducible refine exC_pure (cc _) ?_ | with_reducible refine exCq_pure (cc _) ?_ | with_reducible refine exC_pure (num21_c _ _) ?_ | with_reducible refine exCq_pure (num21_c _ _) ?_)
    all_goals first | exact h | (exfalso; omega) | skip
    done
  have h0 := compW_err he
  have wf := wfit_of (optErr_right h0)
  have hf := wf.fit
  have f3 := hf.few
  obtain ⟨R, q1, q2, q3, q4, q5⟩ := around_walk (hash := hash) (strict := strict) hs.1 hx he wf
  have hll := compW_len g w [] 4
  have hls : ∀ s ∈ (compW g w [] 4).1, i64 s.to := fun s hs => segsA_i64 hf (compW_sub hs)
  have rc1 := fun H => rc _ hls (by omega) H
  rw [q1] at rc1
  have hes : I64s R.1.es := fun y hy => by
    obtain ⟨⟨y0, y1⟩, -⟩ := q3 y hy
    constructor <;> omega
  have hc1 := fun H => rhas_c g w true [] hw R.1.es.isEmpty R.1.es hes (by omega) H
  rw [walkAV] at rc1
  obtain ⟨es, hes'⟩ : ∃ es, es = R.1.es := ⟨_, rfl⟩
  obtain ⟨at_, hat'⟩ : ∃ es, es = R.1.at_ := ⟨_, rfl⟩
  obtain ⟨ar, har'⟩ : ∃ es, es = R.1.ar := ⟨_, rfl⟩
  obtain ⟨mo, hmo'⟩ : ∃ es, es = R.1.mo := ⟨_, rfl⟩
  obtain ⟨en, hen'⟩ : ∃ es, es = R.2 := ⟨_, rfl⟩
  rw [← hes', ← hat', ← har', ← hmo', ← hen'] at rc1
  rw [← hes'] at hc1 q2 q3 hes
  rw [← hes', ← hat', ← har', ← hen'] at q4
  rw [← hat', ← hen'] at q5
  obtain ⟨l, hl⟩ : ∃ l, l = (compW g w [] 4).1 := ⟨_, rfl⟩
  rw [compAV, he, ← hl] at cc
  rw [← hl] at rc1
  clear rc q1 hll hls hl
  have hld : linkD g x = (List.replicate g.links.length false).set x.toNat true := rfl
  rw [hld] at rc1
  simp only [Graph.av, Want.av, blv, sl, ints, List.map_nil, List.length_nil, List.length_set, List.length_replicate] at fc sc tc cc rc1 hc1
  simp -implicitDefEqProofs only [sc_waymarklaw21_WalkAround, Graph.av, Want.av, blv, sl, go_sem, seval]
  refine exC_pure (alive21_c _) ?_
  repeat' (first | simp -implicitDefEqProofs only [go_sem, seval] | simp -implicitDefEqProofs (disch := omega) only [ars, if_pos, exV_some, Option.map_some] | ((with_reducible first | apply exB_dec | apply exB_intro) <;> intro _) | with_reducible refine exC_pure (fc _) ?_ | with_reducible refine exCq_pure (fc _) ?_ | with_reducible refine exC_pure (sc _) ?_ | with_reducible refine exCq_pure (sc _) ?_ | with_reducible refine exC_pure (tc _) ?_ | with_reducible refine exCq_pure (tc _) ?_ | with_reducible refine exC_pure (cc _) ?_ | with_reducible refine exCq_pure (cc _) ?_ | with_reducible refine exC_pure (num21_c _ _) ?_ | with_reducible refine exCq_pure (num21_c _ _) ?_)
  all_goals first | exact h | (exfalso; omega) | skip
  refine exMk_int (by omega) (by omega) (by simp only [maxLen]; omega) rfl ?_
  rw [zrep_one, show List.replicate (g.links.length : Int).toNat (cAV (.bool false)) = (List.replicate g.links.length false).map bv by rw [List.map_replicate, show (g.links.length : Int).toNat = g.links.length by omega]; rfl]
  repeat' (first | simp -implicitDefEqProofs only [go_sem, seval] | simp -implicitDefEqProofs (disch := omega) only [set_bools, List.length_replicate, List.length_set, Int.toNat_natCast, ars, if_pos, exV_some, Option.map_some] | ((with_reducible first | apply exB_dec | apply exB_intro) <;> intro _) | with_reducible refine exC_pure (rc1 _) ?_ | with_reducible refine exCq_pure (rc1 _) ?_)
  all_goals first | exact h | (exfalso; omega) | skip
  refine exL_mod (fun i : Int => [(19, .v (iv i))]) (fun _ => []) (fun i => 0 ≤ i ∧ i ≤ es.length) (fun i => (es.length - i).toNat) 0 rfl ⟨by omega, by omega⟩ ?_
  rintro i ⟨i0, i1⟩ ih
  simp only [S.up, S.upH, ups, Abs.put, Nat.reduceEqDiff, ↓reduceIte, Nat.reduceAdd] at ih
  simp -implicitDefEqProofs only [congrArg KI.code sc_waymarklaw21_WalkAround_L0.eq_1, go_sem, seval]
  by_cases hi : i < es.length
  · have nx := ih (i + 1) ⟨by omega, by omega⟩ (by omega)
    obtain ⟨⟨y0, y1⟩, y2⟩ := q3 _ (gi_mem i0 hi)
    clear ih
    repeat' (first | simp -implicitDefEqProofs only [go_sem, seval] | simp -implicitDefEqProofs (disch := omega) only [ars, if_pos, exV_some, Option.map_some] | ((with_reducible first | apply exB_dec | apply exB_intro) <;> intro _))
    all_goals first | exact nx | (exfalso; omega) | skip
    done
  · clear ih
    cases strict with
    | true =>
      obtain ⟨r1, r2⟩ := q4 rfl
      rcases r2 with ⟨r2, r3, r4⟩ | ⟨r2, r4⟩
      · rw [decide_eq_true r4] at hc1
        subst r1 r2 r3
        repeat' (first | simp -implicitDefEqProofs only [go_sem, seval] | simp -implicitDefEqProofs (disch := omega) only [ars, if_pos, exV_some, Option.map_some] | ((with_reducible first | apply exB_dec | apply exB_intro) <;> intro _) | with_reducible refine exC_pure (hc1 _) ?_ | with_reducible refine exCq_pure (hc1 _) ?_)
        all_goals first | exact h | (exfalso; omega) | skip
        done
      · rw [decide_eq_false r4] at hc1
        subst r1 r2
        repeat' (first | simp -implicitDefEqProofs only [go_sem, seval] | simp -implicitDefEqProofs (disch := omega) only [ars, if_pos, exV_some, Option.map_some] | ((with_reducible first | apply exB_dec | apply exB_intro) <;> intro _) | with_reducible refine exC_pure (hc1 _) ?_ | with_reducible refine exCq_pure (hc1 _) ?_)
        all_goals first | exact h | (exfalso; omega) | skip
        done
    | false =>
      rcases q5 rfl with r2 | ⟨r2, r3⟩
      · subst r2
        repeat' (first | simp -implicitDefEqProofs only [go_sem, seval] | simp -implicitDefEqProofs (disch := omega) only [ars, if_pos, exV_some, Option.map_some] | ((with_reducible first | apply exB_dec | apply exB_intro) <;> intro _))
        all_goals first | exact h | (exfalso; omega) | skip
        done
      · subst r2 r3
        repeat' (first | simp -implicitDefEqProofs only [go_sem, seval] | simp -implicitDefEqProofs (disch := omega) only [ars, if_pos, exV_some, Option.map_some] | ((with_reducible first | apply exB_dec | apply exB_intro) <;> intro _))
        all_goals first | exact h | (exfalso; omega) | skip
        done
end Go.Proofs.Ytejmcijcdhoogaa
end
