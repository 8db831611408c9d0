import Derived.Test.YtejmcijcdhoogaaAbsI
set_option linter.unusedSimpArgs false
set_option linter.unusedVariables false
set_option linter.unusedSectionVars false
namespace Go.Proofs.Ytejmcijcdhoogaa.Abs
open Go

/-! ### where ways meet -/
theorem kont_append (P : Program) : ∀ (ks : List KI) {ks2 : List KI} {K : AEx → S → Prop}, kont P (ks ++ ks2) K = kont P ks (kont P ks2 K)
  | [], _, _ => rfl
  | .code c :: r, ks2, K => by
    have ih := kont_append P r (ks2 := ks2) (K := K)
    funext e s
    cases e <;> simp only [List.cons_append, kont, ih]
  | .ops l :: r, ks2, K => by
    have ih := kont_append P r (ks2 := ks2) (K := K)
    funext e s
    cases e <;> simp only [List.cons_append, kont, ih]
  | .qops l :: r, ks2, K => by
    have ih := kont_append P r (ks2 := ks2) (K := K)
    funext e s
    cases e <;> simp only [List.cons_append, kont, ih]
  | .blk id :: r, ks2, K => by
    have ih := kont_append P r (ks2 := ks2) (K := K)
    funext e s
    cases e <;> simp only [List.cons_append, kont, ih]
  | .lp lv th c :: r, ks2, K => by
    have ih := kont_append P r (ks2 := ks2) (K := K)
    funext e s
    cases e <;> simp only [List.cons_append, kont, ih]
  | .scp c :: r, ks2, K => by
    have ih := kont_append P r (ks2 := ks2) (K := K)
    simp only [List.cons_append, kont, ih]
theorem EX_append {P : Program} {ks ks2 : List KI} {K : AEx → S → Prop} {s : S} : EX P (ks ++ ks2) K s = EX P ks (kont P ks2 K) s := by
  unfold EX
  rw [kont_append]
theorem kont_mono (P : Program) : ∀ (ks : List KI) {K K' : AEx → S → Prop}, (∀ e s, K e s → K' e s) → ∀ e s, kont P ks K e s → kont P ks K' e s
  | [], _, _, hk => hk
  | .code c :: r, K, K', hk => by
    have ih := kont_mono P r hk
    intro e s h
    cases e <;> simp only [kont] at h ⊢
    · exact AWP_mono P c h fun e s' he => ih _ _ he
    all_goals exact ih _ _ h
  | .ops l :: r, K, K', hk => by
    have ih := kont_mono P r hk
    intro e s h
    cases e <;> simp only [kont] at h ⊢
    · exact runOps_mono l (fun _ h => ih _ _ h) h
    all_goals exact ih _ _ h
  | .qops l :: r, K, K', hk => by
    have ih := kont_mono P r hk
    intro e s h
    cases e <;> simp only [kont] at h ⊢
    · exact runQ_mono l (fun _ h => ih _ _ h) h
    all_goals exact ih _ _ h
  | .blk id :: r, K, K', hk => by
    have ih := kont_mono P r hk
    intro e s h
    cases e <;> simp only [kont] at h ⊢
    case exit i =>
      split at h
      · rename_i hb; rw [if_pos hb]; exact ih _ _ h
      · rename_i hb; rw [if_neg hb]; exact ih _ _ h
    all_goals exact ih _ _ h
  | .lp lv th c :: r, K, K', hk => by
    have ih := kont_mono P r hk
    intro e s h
    cases e <;> simp only [kont] at h ⊢
    · intro X hX
      refine h X fun s' hb => hX s' (AWP_mono P c hb fun e s'' he => ?_)
      cases e with
      | normal => exact he
      | ret => exact ih _ _ he
      | exit i => exact ih _ _ he
      | goto l => exact ih _ _ he
    all_goals exact ih _ _ h
  | .scp c :: r, K, K', hk => by
    have ih := kont_mono P r hk
    intro e s h
    exact scK_mono (fun _ _ h => AScope_up ih h) ih e s h

/-- what is so where ways meet: of what is still wanted, some slots and objects have changed -/
def joinK {α : Type} (lv : List Nat) (inv : α → Prop) (us : α → List (Nat × SV)) (ls : α → List (Nat × LObj)) (s : S) (e : AEx) (s' : S) : Prop :=
  e = .normal ∧ ∃ a, inv a ∧ s'.keep lv = (s.up (us a) (ls a)).keep lv
theorem joinK_intro {α : Type} {lv : List Nat} {inv : α → Prop} {us : α → List (Nat × SV)} {ls : α → List (Nat × LObj)} {s s' : S} (a : α) (h : inv a) (e : s'.keep lv = (s.up (us a) (ls a)).keep lv) : joinK lv inv us ls s .normal s' := ⟨rfl, a, h, e⟩

section
variable {α : Type} {P : Program} {r : List KI} {K : AEx → S → Prop} {s : S} {lv : List Nat} {inv : α → Prop} {us : α → List (Nat × SV)} {ls : α → List (Nat × LObj)}
theorem join_aux (hr : ∀ s', EX P r K (s'.keep lv) → EX P r K s') (h2 : ∀ a, inv a → EX P r K ((s.up (us a) (ls a)).keep lv)) : ∀ e s', joinK lv inv us ls s e s' → kont P r K e s' := by
  rintro e s' ⟨rfl, a, ha, he⟩
  refine hr s' ?_
  rw [he]
  exact h2 a ha
theorem EX_join {ks : List KI} (inv : α → Prop) (us : α → List (Nat × SV)) (ls : α → List (Nat × LObj)) (lv : List Nat) (hr : ∀ s', EX P r K (s'.keep lv) → EX P r K s') (h1 : EX P ks (joinK lv inv us ls s) s) (h2 : ∀ a, inv a → EX P r K ((s.up (us a) (ls a)).keep lv)) : EX P (ks ++ r) K s := by
  rw [EX_append]
  exact kont_mono P ks (join_aux hr h2) _ _ h1
theorem exC_join {f : FuncId} {u : Option (List AV)} {dst : Option Nat} {l : List Stmt} (inv : α → Prop) (us : α → List (Nat × SV)) (ls : α → List (Nat × LObj)) (lv : List Nat) (hr : ∀ s', EX P r K (s'.keep lv) → EX P r K s') (h1 : exC P f u dst [.ops l] (joinK lv inv us ls s) s) (h2 : ∀ a, inv a → EX P r K ((s.up (us a) (ls a)).keep lv)) : exC P f u dst (.ops l :: r) K s := by
  unfold exC at h1 ⊢
  cases u with
  | none => exact h1
  | some u =>
    refine ACalls.mono h1 fun v H' h => ?_
    have : EX P ([.ops l] ++ r) K ({ s with H := H' }.put dst (.v v)) := by
      rw [EX_append]
      exact kont_mono P _ (join_aux hr h2) _ _ h
    exact this
theorem exGd_join {v : SV} {g : Nat} {want : Bool} {dst : Option Nat} {op : SOp} {l : List Stmt} (inv : α → Prop) (us : α → List (Nat × SV)) (ls : α → List (Nat × LObj)) (lv : List Nat) (hr : ∀ s', EX P r K (s'.keep lv) → EX P r K s') (h1 : exGd P v g want dst op l [] (joinK lv inv us ls s) s) (h2 : ∀ a, inv a → EX P r K ((s.up (us a) (ls a)).keep lv)) : exGd P v g want dst op l r K s := by
  have key : ∀ (l : List Stmt) (s1 : S), EX P [.ops l] (joinK lv inv us ls s) s1 → EX P (.ops l :: r) K s1 := by
    intro l s1 h
    have : EX P ([.ops l] ++ r) K s1 := by
      rw [EX_append]
      exact kont_mono P _ (join_aux hr h2) _ _ h
    exact this
  unfold exGd at h1 ⊢
  split at h1
  · split at h1
    · rename_i hb; rw [if_pos hb]; exact key _ _ h1
    · rename_i hb; rw [if_neg hb]; exact key _ _ h1
  · exact key _ _ h1
  · exact h1
theorem exIf_join {v : SV} {k1 k2 : List KI} (inv : α → Prop) (us : α → List (Nat × SV)) (ls : α → List (Nat × LObj)) (lv : List Nat) (hr : ∀ s', EX P r K (s'.keep lv) → EX P r K s') (h1 : exIf P v k1 k2 (joinK lv inv us ls s) s) (h2 : ∀ a, inv a → EX P r K ((s.up (us a) (ls a)).keep lv)) : exIf P v (k1 ++ r) (k2 ++ r) K s := by
  have key : ∀ (ks : List KI) (s1 : S), EX P ks (joinK lv inv us ls s) s1 → EX P (ks ++ r) K s1 := by
    intro ks s1 h
    rw [EX_append]
    exact kont_mono P _ (join_aux hr h2) _ _ h
  unfold exIf at h1 ⊢
  split at h1
  · split at h1
    · rename_i hb; rw [if_pos hb]; exact key _ _ h1
    · rename_i hb; rw [if_neg hb]; exact key _ _ h1
  · exact h1

theorem keepE_cons {x : Nat} {sv : SV} : ∀ (lv : List Nat) (env : List (Nat × SV)), x ∉ lv → keepE ((x, sv) :: env) lv = keepE env lv
  | [], _, _ => rfl
  | y :: lv, env, h => by
    simp only [List.mem_cons, not_or] at h
    simp only [keepE, get, if_neg h.1, keepE_cons lv env h.2]
theorem keepE_keepE (env : List (Nat × SV)) : ∀ (lv : List Nat), lv.Nodup → keepE (keepE env lv) lv = keepE env lv
  | [], _ => rfl
  | x :: lv, h => by
    obtain ⟨h1, h2⟩ := List.nodup_cons.1 h
    have ih := keepE_keepE env lv h2
    have hn : get (keepE env lv) x = none := by
      have : ∀ (l : List Nat), x ∉ l → get (keepE env l) x = none := by
        intro l
        induction l with
        | nil => intro _; rfl
        | cons y l ih =>
          intro hx
          simp only [List.mem_cons, not_or] at hx
          simp only [keepE]
          cases get env y with
          | none => exact ih hx.2
          | some sv => simp only [get, if_neg (Ne.symm hx.1), ih hx.2]
      exact this lv h1
    simp only [keepE]
    cases hg : get env x with
    | none => simp only [hn, ih]
    | some sv => simp only [get, if_true, keepE_cons lv _ h1, ih]
theorem get_keepL_eq (loc : List (Nat × LObj)) (d : Nat) : ∀ (e : List (Nat × SV)), (∃ p ∈ e, p.2.key = some d) → get (keepL loc e) d = get loc d
  | [], h => by simp at h
  | (x, sv) :: r, h => by
    simp only [keepL]
    have rest : (∃ p ∈ r, p.2.key = some d) → get (keepL loc r) d = get loc d := get_keepL_eq loc d r
    cases hk : sv.key with
    | none =>
      refine rest ?_
      obtain ⟨p, hp, hd⟩ := h
      rcases List.mem_cons.1 hp with rfl | hp
      · rw [hk] at hd; cases hd
      · exact ⟨p, hp, hd⟩
    | some d' =>
      simp only
      cases ho : get loc d' with
      | none =>
        by_cases e : d' = d
        · subst e
          by_cases hr : ∃ p ∈ r, p.2.key = some d'
          · rw [rest hr]
          · cases hg : get (keepL loc r) d' with
            | none => rw [ho]
            | some o => rw [get_keepL loc r hg]
        · refine rest ?_
          obtain ⟨p, hp, hd⟩ := h
          rcases List.mem_cons.1 hp with rfl | hp
          · rw [hk] at hd; injection hd with hd; exact absurd hd e
          · exact ⟨p, hp, hd⟩
      | some o =>
        simp only [get]
        by_cases e : d' = d
        · subst e; rw [if_pos rfl, ho]
        · rw [if_neg e]
          refine rest ?_
          obtain ⟨p, hp, hd⟩ := h
          rcases List.mem_cons.1 hp with rfl | hp
          · rw [hk] at hd; injection hd with hd; exact absurd hd e
          · exact ⟨p, hp, hd⟩
theorem keepL_keepL (loc : List (Nat × LObj)) (e : List (Nat × SV)) : keepL (keepL loc e) e = keepL loc e := by
  have : ∀ r, (∀ p ∈ r, p ∈ e) → keepL (keepL loc e) r = keepL loc r := by
    intro r
    induction r with
    | nil => intro _; rfl
    | cons p r ih =>
      intro h
      obtain ⟨x, sv⟩ := p
      have ih' := ih fun p hp => h p (by simp [hp])
      simp only [keepL]
      cases hk : sv.key with
      | none => exact ih'
      | some d =>
        simp only
        rw [get_keepL_eq loc d e ⟨(x, sv), h _ (by simp), hk⟩, ih']
  exact this e fun p hp => hp
theorem keep_keep (s : S) {lv : List Nat} (h : lv.Nodup) : (s.keep lv).keep lv = s.keep lv := by
  unfold S.keep
  simp only
  rw [keepE_keepE _ _ h, keepL_keepL]
/-- what begins with a region, or a loop, asks for no more than is kept -/
theorem keep_reg {l : List Stmt} (h : lv.Nodup) : ∀ s', EX P (.code (.reg lv l) :: r) K (s'.keep lv) → EX P (.code (.reg lv l) :: r) K s' := by
  intro s'
  rw [ex_reg, ex_reg, keep_keep s' h]
  exact id
theorem keep_draw {l : List Stmt} (h : lv.Nodup) : ∀ s', EX P (.code (.draw lv l) :: r) K (s'.keep lv) → EX P (.code (.draw lv l) :: r) K s' := by
  intro s'
  rw [ex_draw, ex_draw, keep_keep s' h]
  exact id
theorem keep_loop {th : List (Nat × Nat × Nat × Nat)} {c : SCode} (h : lv.Nodup) : ∀ s', EX P (.code (.loop lv th c) :: r) K (s'.keep lv) → EX P (.code (.loop lv th c) :: r) K s' := by
  intro s'
  rw [ex_loop, ex_loop, S.enter, S.enter, keep_keep s' h]
  exact id
theorem keep_lp {th : List (Nat × Nat × Nat × Nat)} {c : SCode} (h : lv.Nodup) : ∀ s', EX P (.lp lv th c :: r) K (s'.keep lv) → EX P (.lp lv th c :: r) K s' := by
  intro s'
  rw [ex_lp, ex_lp, S.enter, S.enter, keep_keep s' h]
  exact id
theorem keep_seq {a b : SCode} (h : ∀ s', EX P (.code a :: .code b :: r) K (s'.keep lv) → EX P (.code a :: .code b :: r) K s') : ∀ s', EX P (.code (.seq a b) :: r) K (s'.keep lv) → EX P (.code (.seq a b) :: r) K s' := by
  intro s'
  rw [ex_seq, ex_seq]
  exact h s'
theorem keep_block {id : Nat} {a : SCode} (h : ∀ s', EX P (.code a :: .blk id :: r) K (s'.keep lv) → EX P (.code a :: .blk id :: r) K s') : ∀ s', EX P (.code (.block id a) :: r) K (s'.keep lv) → EX P (.code (.block id a) :: r) K s' := by
  intro s'
  rw [ex_block, ex_block]
  exact h s'
end

/-! ### appends onto nothing -/
theorem exS_nil {P : Program} {s : S} {d e sz by_ m : Nat} {nly : Bool} {ds : List AV} {r : List KI} {K : AEx → S → Prop} (h1 : ds.length = m * sz) (h2 : m * by_ ≤ 140737488355328) (h3 : m ≤ maxLen)
    (k : EX P r K (s.arr d (some d) (m == 0) ds m e sz)) : exS P (appq s (some d) e sz by_ (.v (.vec true [] 0)) (.v (.vec nly ds m))) r K := by
  simp only [appq, h1, h2, h3, and_self, if_true, exS]
  exact k
theorem exS_nilints {P : Program} {s : S} {d e by_ : Nat} {nly : Bool} {l : List Int} {r : List KI} {K : AEx → S → Prop} (h2 : l.length * by_ ≤ 140737488355328) (h3 : l.length ≤ maxLen)
    (k : EX P r K (s.arr d (some d) l.isEmpty (l.map iv) l.length e 1)) : exS P (appq s (some d) e 1 by_ (.v (.vec true [] 0)) (.v (.vec nly (l.map iv) l.length))) r K := by
  refine exS_nil (by simp) h2 h3 ?_
  have : (l.length == 0) = l.isEmpty := by cases l <;> rfl
  rw [this]
  exact k
theorem exS_nilrows {α : Type} [Enc α] [Inhabited α] {P : Program} {s : S} {d e sz by_ : Nat} {nly : Bool} {l : List α} {r : List KI} {K : AEx → S → Prop} (hs : sz = Enc.sz α) (h2 : l.length * by_ ≤ 140737488355328) (h3 : l.length ≤ maxLen)
    (k : EX P r K (s.arr d (some d) l.isEmpty (rows l) l.length e sz)) : exS P (appq s (some d) e sz by_ (.v (.vec true [] 0)) (.v (.vec nly (rows l) l.length))) r K := by
  subst hs
  refine exS_nil (rows_length l) h2 h3 ?_
  have : (l.length == 0) = l.isEmpty := by cases l <;> rfl
  rw [this]
  exact k
theorem gi_get {α : Type} [Inhabited α] {l : List α} {i : Int} (h : i.toNat < l.length) : gi l i = l[i.toNat] := by
  simp [gi, h]
end Go.Proofs.Ytejmcijcdhoogaa.Abs
