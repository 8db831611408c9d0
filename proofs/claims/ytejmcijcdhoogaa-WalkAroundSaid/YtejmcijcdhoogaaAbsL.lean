import Derived.Test.YtejmcijcdhoogaaAbsM
set_option linter.unusedSimpArgs false
set_option linter.unusedVariables false
set_option linter.unusedSectionVars false
namespace Go.Proofs.Ytejmcijcdhoogaa.Abs
open Go

/-! ### what a call leaves on the heap may be forgotten, or be read only from then on -/
/-- an abstract value, its blocks of B read only from now on -/
def Fz (H : AHeap) (B : Nat → Prop) (r r' : AV) : Prop := ∀ (I : Nat → Prop) (w : World) (v : Value), HOK I H w → RV I w r v → RV (fun b => I b ∨ B b) w r' v
/-- the same of cells -/
def FzL (H : AHeap) (B : Nat → Prop) (cs cs' : List AV) : Prop := ∀ (I : Nat → Prop) (w : World) (vs : List Value), HOK I H w → RL I w cs vs → RL (fun b => I b ∨ B b) w cs' vs

theorem keep_or (I B : Nat → Prop) (w : World) : Keep I (fun b => I b ∨ B b) w w := fun b hb => ⟨.inl hb, rfl⟩
theorem Fz.refl (H : AHeap) (B : Nat → Prop) (r : AV) : Fz H B r r := fun I w v _ h => RV.keep (keep_or I B w) r v h
theorem FzL.nil {H : AHeap} {B : Nat → Prop} : FzL H B [] [] := fun I w vs _ h => by simpa [RL] using h
theorem FzL.refl (H : AHeap) (B : Nat → Prop) (cs : List AV) : FzL H B cs cs := fun I w vs _ h => RL.keep (keep_or I B w) cs vs h
theorem FzL.cons {H : AHeap} {B : Nat → Prop} {c c' : AV} {cs cs' : List AV} (h1 : Fz H B c c') (h2 : FzL H B cs cs') : FzL H B (c :: cs) (c' :: cs') := by
  intro I w vs hok h
  simp only [RL] at h ⊢
  obtain ⟨u, us, rfl, h3, h4⟩ := h
  exact ⟨u, us, rfl, h1 I w u hok h3, h2 I w us hok h4⟩
theorem FzL.append {H : AHeap} {B : Nat → Prop} : ∀ {cs cs' ds ds' : List AV}, cs.length = cs'.length → FzL H B cs cs' → FzL H B ds ds' → FzL H B (cs ++ ds) (cs' ++ ds') := by
  intro cs cs' ds ds' hl h1 h2 I w vs hok h
  have hs : RL I w cs (vs.take cs.length) ∧ RL I w ds (vs.drop cs.length) := by
    have := RL_take cs.length h
    have h3 := RL_drop cs.length h
    rw [List.take_left'] at this
    · rw [List.drop_left'] at h3
      · exact ⟨this, h3⟩
      · rfl
    · rfl
  have := RL_append (h1 I w _ hok hs.1) (h2 I w _ hok hs.2)
  rwa [List.take_append_drop] at this
theorem Fz.agg {H : AHeap} {B : Nat → Prop} {cs cs' : List AV} (h : FzL H B cs cs') : Fz H B (.agg cs) (.agg cs') := by
  intro I w v hok hv
  simp only [RV] at hv ⊢
  obtain ⟨vs, e, h1⟩ := hv
  exact ⟨vs, e, h I w vs hok h1⟩
theorem Fz.tup {H : AHeap} {B : Nat → Prop} {cs cs' : List AV} (h : FzL H B cs cs') : Fz H B (.tup cs) (.tup cs') := by
  intro I w v hok hv
  simp only [RV] at hv ⊢
  obtain ⟨vs, e, h1⟩ := hv
  exact ⟨vs, e, h I w vs hok h1⟩
theorem Fz.trans {H : AHeap} {B : Nat → Prop} {r r' r'' : AV} (h : Fz H B r r') (k : ∀ (I : Nat → Prop) (w : World) (v : Value), HOK I H w → RV (fun b => I b ∨ B b) w r' v → RV (fun b => I b ∨ B b) w r'' v) : Fz H B r r'' := fun I w v hok hv => k I w v hok (h I w v hok hv)

/-- a slice of a row -/
theorem Fz.slice {H : AHeap} {B : Nat → Prop} {b o n cap cap' e sz : Nat} {cs ds ds' : List AV} (hB : B b) (hH : H b = some (.row cs cap' e sz)) (hcap : n ≤ cap) (hc2 : cap ≤ cap') (hds : ∀ j u, ds[j]? = some u → cs[o + j]? = some u) (hne : n ≠ 0 → ds' ≠ []) (h : FzL H B ds ds') :
    Fz H B (.raw (.slice (some ⟨b, o, none⟩) n cap)) (.vec false ds' n) := by
  intro I w v hok hv
  simp only [RV] at hv
  subst hv
  simp only [RV]
  obtain ⟨hb, cur, h1, h2, h3, h4, h5⟩ := hok.hp b _ hH
  refine ⟨_, cap, rfl, hcap, by omega, by simp, by simp, hne, fun _ => ⟨b, o, rfl, .inr hB, ?_⟩⟩
  -- the cells as they lie
  have hcell : ∀ j u, ds[j]? = some u → ∃ x, w.cell? ⟨b, o + j, none⟩ = some x ∧ x.oneCell' = true ∧ RV I w u x := by
    intro j u hj
    obtain ⟨x, hx, hv⟩ := RL_get h5.1 (hds j u hj)
    refine ⟨x, ?_, h5.2 x (List.mem_of_getElem? hx), hv⟩
    rw [cell_block h1]
    rw [List.getElem?_take] at hx
    split at hx
    · exact hx
    · cases hx
  have hrl : RL I w ds ((List.range ds.length).map fun j => (w.cell? ⟨b, o + j, none⟩).getD undef) := by
    refine RL_of_get _ ds fun j u hj => ?_
    obtain ⟨x, hx, _, hv⟩ := hcell j u hj
    rw [hx]; exact hv
  have hrl' := h I w _ hok hrl
  have hl := RL_length hrl'
  refine RCells_of fun j u hj => ?_
  obtain ⟨x, hx, hv⟩ := RL_get hrl' hj
  have hjl : j < ds.length := by
    have := (List.getElem?_eq_some_iff.1 hj).1
    rw [← hl] at this
    simpa using this
  obtain ⟨y, hy, hy1, _⟩ := hcell j ds[j] (List.getElem?_eq_getElem hjl)
  have : x = y := by
    rw [List.getElem?_map, List.getElem?_range hjl] at hx
    simp only [Option.map_some, hy, Option.getD_some, Option.some.injEq] at hx
    exact hx.symm
  subst this
  exact ⟨x, hy, hy1, hv⟩
/-- a pointer to a struct -/
theorem Fz.ptr {H : AHeap} {B : Nat → Prop} {b t : Nat} {cs cs' : List AV} (hB : B b) (hH : H b = some (.cells cs t)) (h : FzL H B cs cs') :
    Fz H B (.raw (.pointer (some ⟨b, 0, none⟩))) (.box cs' 0) := by
  intro I w v hok hv
  simp only [RV] at hv
  subst hv
  simp only [RV]
  obtain ⟨hb, vs, h1, h2⟩ := hok.hp b _ hH
  refine ⟨b, 0, rfl, .inr hB, ?_⟩
  have hrl' := h I w _ hok h2.1
  refine RCells_of fun j u hj => ?_
  obtain ⟨x, hx, hv⟩ := RL_get hrl' hj
  exact ⟨x, by rw [Nat.zero_add, cell_block h1]; exact hx, h2.2 x (List.mem_of_getElem? hx), hv⟩

/-- A CALL'S CONTRACT, WHAT IT LEFT FORGOTTEN OR READ ONLY -/
theorem ACalls.relax {P : Program} {f : FuncId} {args : List AV} {H : AHeap} {Q : AV → AHeap → Prop}
    (h : ACalls P f args H fun r H1 => ∃ (B : Nat → Prop) (H2 : AHeap) (r' : AV), (∀ b o, H2 b = some o → H1 b = some o) ∧ (∀ b, B b → H1 b ≠ none ∧ H2 b = none) ∧ Fz H1 B r r' ∧ Q r' H2) : ACalls P f args H Q := by
  refine ⟨h.1, fun I w vs hok hrl => (h.2 I w vs hok hrl).mono ?_⟩
  rintro e w' ⟨r, H1, I1, v, rfl, ⟨B, H2, r', h1, h2, h3, h4⟩, hok1, hv, hf⟩
  have hk : Keep I1 (fun b => I1 b ∨ B b) w' w' := keep_or I1 B w'
  refine ⟨r', H2, fun b => I1 b ∨ B b, v, rfl, h4, ⟨?_, ?_⟩, h3 I1 w' v hok1 hv, ⟨hf.os, hf.tape, hf.output, hf.size, hf.blk, fun b hb => .inl (hf.imm b hb), ?_, ?_⟩⟩
  · rintro b (hb | hb)
    · refine ⟨(hok1.im b hb).1, ?_⟩
      cases hh : H2 b with
      | none => rfl
      | some o =>
        have := h1 b o hh
        rw [(hok1.im b hb).2] at this; cases this
    · obtain ⟨h5, h6⟩ := h2 b hb
      cases hh : H1 b with
      | none => exact absurd hh h5
      | some o => exact ⟨(hok1.hp b o hh).1, h6⟩
  · intro b o ho
    obtain ⟨h5, h6⟩ := hok1.hp b o (h1 b o ho)
    exact ⟨h5, h6.keep hk rfl⟩
  · rintro b (hb | hb)
    · exact hf.imm' b hb
    · rcases hf.hp' b (h2 b hb).1 with h5 | h5
      · exact .inr (.inl h5)
      · exact .inr (.inr h5)
  · intro b hb
    refine hf.hp' b fun hh => ?_
    cases hq : H2 b with
    | none => exact hb hq
    | some o => have := h1 b o hq; rw [hh] at this; cases this
/-- all that was made is forgotten -/
theorem ACalls.forget {P : Program} {f : FuncId} {args : List AV} {H : AHeap} {Q : AV → AHeap → Prop} (h : ACalls P f args H fun r H1 => (∀ b o, H b = some o → H1 b = some o) ∧ Q r H) : ACalls P f args H Q :=
  ACalls.relax (h.mono fun r H1 ⟨h1, h2⟩ => ⟨fun _ => False, H, r, h1, by simp, Fz.refl _ _ _, h2⟩)

/-! ### rows on the heap -/
section
variable {α : Type} [Enc α] [Inhabited α] {l : List α} {ex : List AV} {i : Int}
theorem rd_rowx {n : Nat} (hn : n = Enc.sz α) (h0 : 0 ≤ i) (h1 : i < l.length) : rdV (rows l ++ ex) (i.toNat * n) n true = some (.agg (Enc.cells (gi l i))) := by
  have h := rd_row (l := l) hn h0 h1
  unfold rdV at h ⊢
  simp only [if_true] at h ⊢
  split at h
  · rename_i hle
    rw [if_pos (by simp; omega), ← h]
    congr 2
    rw [List.drop_append, List.take_append, List.length_drop, show n - ((rows l).length - i.toNat * n) = 0 by omega, List.take_zero, List.append_nil]
  · cases h
theorem rows_set (l : List α) (k : Nat) (x : α) (h : k < l.length) : rows (l.set k x) = (rows l).take (k * Enc.sz α) ++ Enc.cells x ++ (rows l).drop (k * Enc.sz α + Enc.sz α) := by
  rw [rows_take, show k * Enc.sz α + Enc.sz α = (k + 1) * Enc.sz α by rw [Nat.add_mul]; omega, rows_drop, ← rows_one, ← rows_append, ← rows_append]
  congr 1
  rw [List.set_eq_take_append_cons_drop, if_pos h]
  simp
theorem setA_rowx {n : Nat} (hn : n = Enc.sz α) (x : α) (h0 : 0 ≤ i) (h1 : i < l.length) {cs : List AV} (hc : cs = Enc.cells x) : setA (rows l ++ ex) (i.toNat * n) cs = rows (l.set i.toNat x) ++ ex := by
  subst hn hc
  have hlt : i.toNat < l.length := by omega
  have hle : i.toNat * Enc.sz α + Enc.sz α ≤ (rows l).length := by
    rw [rows_length]
    have := Nat.mul_le_mul_right (Enc.sz α) (show i.toNat + 1 ≤ l.length by omega)
    rw [Nat.add_mul] at this
    omega
  rw [setA_eq _ _ _ (by rw [Enc.len]; simp; omega), rows_set l _ x hlt, Enc.len]
  rw [List.take_append_of_le_length (by omega), List.drop_append_of_le_length (by omega)]
  simp
end
theorem gi_set {α : Type} [Inhabited α] {l : List α} {i k : Int} {x : α} (h0 : 0 ≤ i) (h1 : i < l.length) (k0 : 0 ≤ k) : gi (l.set i.toNat x) k = if k = i then x else gi l k := by
  unfold gi
  rw [List.getD_eq_getElem?_getD, List.getElem?_set, List.getD_eq_getElem?_getD]
  by_cases e : k = i
  · rw [if_pos (by omega), if_pos (by omega), if_pos e]; rfl
  · rw [if_neg (by omega), if_neg e]
theorem gi_mem {α : Type} [Inhabited α] {l : List α} {i : Int} (h0 : 0 ≤ i) (h1 : i < l.length) : gi l i ∈ l := by
  rw [gi_get (by omega)]
  exact List.getElem_mem _

/-- a loop that a well founded relation ends -/
theorem exL_wf {α β : Type} {P : Program} {r : List KI} {K : AEx → S → Prop} {lv : List Nat} {th : List (Nat × Nat × Nat × Nat)} {c : SCode} {s : S} (us : α → List (Nat × SV)) (ls : α → List (Nat × LObj)) (inv : α → Prop) {rel : β → β → Prop} (hwf : WellFounded rel) (μ : α → β) (a : α) (hs : s.up (us a) (ls a) = s) (h0 : inv a)
    (step : ∀ a, inv a → (∀ a', inv a' → rel (μ a') (μ a) → exL P lv th c r K (s.up (us a') (ls a'))) → EX P (.code c :: .lp lv th c :: r) K (s.up (us a) (ls a))) : exL P lv th c r K s := by
  have : ∀ b a, μ a = b → inv a → exL P lv th c r K (s.up (us a) (ls a)) := by
    intro b
    induction b using hwf.induction with
    | _ b ih =>
      intro a hb ha
      exact exL_step (step a ha fun a' ha' hl => ih _ (hb ▸ hl) a' rfl ha')
  exact hs ▸ this _ a rfl h0
end Go.Proofs.Ytejmcijcdhoogaa.Abs
