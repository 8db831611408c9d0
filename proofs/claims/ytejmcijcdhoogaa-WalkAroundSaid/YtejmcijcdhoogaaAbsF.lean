import Derived.Test.YtejmcijcdhoogaaAbsE
import Derived.Scope
set_option linter.unusedSimpArgs false
set_option linter.unusedVariables false
namespace Go.Proofs.Ytejmcijcdhoogaa.Abs
open Go

/-! ### forgetting what is not wanted any more -/
def keepE (env : List (Nat × SV)) : List Nat → List (Nat × SV)
  | [] => []
  | x :: r => match get env x with
    | some sv => (x, sv) :: keepE env r
    | none => keepE env r
def keepL (loc : List (Nat × LObj)) : List (Nat × SV) → List (Nat × LObj)
  | [] => []
  | (_, sv) :: r => match sv.key with
    | some d => match get loc d with
      | some o => (d, o) :: keepL loc r
      | none => keepL loc r
    | none => keepL loc r
def S.keep (s : S) (lv : List Nat) : S := { env := keepE s.env lv, loc := keepL s.loc (keepE s.env lv), H := s.H }

theorem get_keepE (env : List (Nat × SV)) : ∀ (lv : List Nat) {x : Nat} {sv : SV}, get (keepE env lv) x = some sv → get env x = some sv
  | [], x, sv, h => by simp [keepE, get] at h
  | y :: r, x, sv, h => by
    simp only [keepE] at h
    split at h
    · rename_i s hs
      simp only [get] at h
      split at h
      · rename_i e; subst e; rw [hs]; exact h
      · exact get_keepE env r h
    · exact get_keepE env r h
theorem get_keepL (loc : List (Nat × LObj)) : ∀ (env : List (Nat × SV)) {d : Nat} {o : LObj}, get (keepL loc env) d = some o → get loc d = some o
  | [], d, o, h => by simp [keepL, get] at h
  | (y, sv) :: r, d, o, h => by
    simp only [keepL] at h
    split at h
    · split at h
      · rename_i k _ o' ho'
        simp only [get] at h
        split at h
        · rename_i e; subst e; rw [ho']; exact h
        · exact get_keepL loc r h
      · exact get_keepL loc r h
    · exact get_keepL loc r h

theorem Good.keep {c : Cx} {s : S} {a : Act} {w : World} (h : Good c s a w) (lv : List Nat) : Good c (s.keep lv) a w := by
  obtain ⟨h1, h2, h3⟩ := h
  exact ⟨⟨fun d o ho => h1.loc d o (get_keepL _ _ ho), h1.hp, h1.lt⟩, fun x sv hx => h2 x sv (get_keepE _ _ hx), h3⟩

/-- a slot that holds nil may be the function's own, empty: (slot, key, element type, its size) -/
def S.thaw (s : S) : Nat × Nat × Nat × Nat → S
  | (x, d, e, sz) => match get s.env x with
    | some (.v (.vec true [] 0)) => if 0 < sz then { env := Abs.put (clr s.env d) x (.own d), loc := Abs.put s.loc d (.arr true [] 0 e sz), H := s.H } else s
    | _ => s
def S.thaws (s : S) : List (Nat × Nat × Nat × Nat) → S
  | [] => s
  | t :: r => (s.thaw t).thaws r
/-- what a loop begins with -/
def S.enter (s : S) (lv : List Nat) (th : List (Nat × Nat × Nat × Nat)) : S := (s.keep lv).thaws th

theorem Good.thaw {c : Cx} {s : S} {a : Act} {w : World} (h : Good c s a w) (t : Nat × Nat × Nat × Nat) : ∃ c', Good c' (s.thaw t) a w ∧ Step c w c' w := by
  obtain ⟨x, d, e, sz⟩ := t
  unfold S.thaw
  simp only
  split
  · rename_i hx
    split
    · rename_i hsz
      obtain ⟨h1, h2, h3⟩ := h
      let c' : Cx := { ow := c.ow, β := c.β, ν := upd c.ν d (.slice none 0 0) }
      have hst : Step c w c' w := ⟨rfl, rfl, rfl, Nat.le_refl _, fun _ _ _ => rfl, fun _ _ => ⟨id, id⟩⟩
      have hk := hst.keep h1.lt
      obtain ⟨hxl, hxs⟩ := h2 x _ hx
      have hv : a.tmps.getD x undef = .slice none 0 0 := by
        simp only [RS, RV] at hxs
        obtain ⟨ad, cap, h1, _, _, h3, _⟩ := hxs
        obtain ⟨rfl, rfl⟩ := h3 trivial
        exact h1
      refine ⟨c', ⟨?_, ?_, h3⟩, hst⟩
      · refine h1.upd hk h1.lt ?_ (fun b o ho => .inr ⟨ho, fun hb => ⟨hb, rfl⟩⟩)
        intro d' ob hg
        simp only [get_put] at hg
        by_cases e' : d = d'
        · subst e'
          simp only [if_true, Option.some.injEq] at hg; subst hg
          left
          have hν : c'.ν d = .slice none 0 0 := upd_self _ _ _
          refine ⟨(by rw [hν]; intro b hb; cases hb), (by rw [hν]; simp), hsz, [], by rw [hν]; exact World.ownsRow_nil w 0 e sz, by simp [RL], by simp⟩
        · rw [if_neg e'] at hg
          exact .inr ⟨hg, rfl, upd_ne _ _ e', fun b hb => ⟨hb, rfl⟩⟩
      · have he : ERel c' w (clr s.env d) a.tmps := h2.clr hk d fun d' hd' => ⟨rfl, upd_ne _ _ (Ne.symm hd')⟩
        intro y sv hy
        rw [get_put] at hy
        split at hy
        · rename_i e'; subst e'
          simp only [Option.some.injEq] at hy; subst hy
          exact ⟨hxl, by show a.tmps.getD x undef = upd c.ν d (.slice none 0 0) d; rw [hv, upd_self]⟩
        · exact he y sv hy
    · exact ⟨c, h, Step.refl c w⟩
  · exact ⟨c, h, Step.refl c w⟩
theorem Good.thaws {a : Act} {w : World} : ∀ (th : List (Nat × Nat × Nat × Nat)) {c : Cx} {s : S}, Good c s a w → ∃ c', Good c' (s.thaws th) a w ∧ Step c w c' w
  | [], c, s, h => ⟨c, h, Step.refl c w⟩
  | t :: r, c, s, h => by
    obtain ⟨c1, h1, s1⟩ := h.thaw t
    obtain ⟨c2, h2, s2⟩ := Good.thaws r h1
    exact ⟨c2, h2, s1.trans s2⟩
theorem Good.enter {c : Cx} {s : S} {a : Act} {w : World} (h : Good c s a w) (lv : List Nat) (th : List (Nat × Nat × Nat × Nat)) : ∃ c', Good c' (s.enter lv th) a w ∧ Step c w c' w := Good.thaws th (h.keep lv)

/-! ### what is read only from a point on -/
/-- the cells of a struct: slices that lie on the heap become read only -/
def fzL (H : AHeap) : List AV → List AV × AHeap
  | [] => ([], H)
  | c :: cs => match c with
    | .raw (.slice (some ⟨b, 0, none⟩) n cap) => match H b with
      | some (.row ds cap' e sz) => if n * sz ≤ ds.length ∧ 0 < sz ∧ n ≤ cap ∧ cap ≤ cap' then
          (.vec false (ds.take (n * sz)) n :: (fzL (upd H b none) cs).1, (fzL (upd H b none) cs).2)
        else (c :: (fzL H cs).1, (fzL H cs).2)
      | _ => (c :: (fzL H cs).1, (fzL H cs).2)
    | _ => (c :: (fzL H cs).1, (fzL H cs).2)
def S.fz1 (s : S) (x : Nat) : S :=
  match get s.env x with
  | some (.own d) => s.frz d
  | some (.loc d 0) => match get s.loc d with
    | some (.cells cs t) => { env := s.env, loc := Abs.put s.loc d (.cells (fzL s.H cs).1 t), H := (fzL s.H cs).2 }
    | _ => s
  | some (.v (.raw (.pointer (some ⟨b, 0, none⟩)))) => match s.H b with
    | some (.cells cs t) => { env := s.env, loc := s.loc, H := upd (fzL s.H cs).2 b (some (.cells (fzL s.H cs).1 t)) }
    | _ => s
  | some (.v v) => { env := Abs.put s.env x (.v ((fzL s.H [v]).1.headD v)), loc := s.loc, H := (fzL s.H [v]).2 }
  | _ => s
def S.fzs (s : S) : List Nat → S
  | [] => s
  | x :: r => (s.fz1 x).fzs r

/-- the tags when blocks become read only -/
theorem fzL_good : ∀ (cs : List AV) {c : Cx} {s : S} {a : Act} {w : World} {vs : List Value}, Good c s a w → RL c.I w cs vs → ∃ c', Good c' { s with H := (fzL s.H cs).2 } a w ∧ Step c w c' w ∧ c'.β = c.β ∧ c'.ν = c.ν ∧ (∀ b, (∀ d, c.ow b = .loc d → c'.ow b = .loc d)) ∧ RL c'.I w (fzL s.H cs).1 vs
  | [], c, s, a, w, vs, h, hr => ⟨c, h, Step.refl c w, rfl, rfl, fun _ _ h => h, hr⟩
  | u :: cs, c, s, a, w, vs, h, hr => by
    have hr0 := hr
    simp only [RL] at hr
    obtain ⟨v, us, rfl, h1, h2⟩ := hr
    have skip : ∃ c', Good c' { s with H := (fzL s.H cs).2 } a w ∧ Step c w c' w ∧ c'.β = c.β ∧ c'.ν = c.ν ∧ (∀ b, (∀ d, c.ow b = .loc d → c'.ow b = .loc d)) ∧ RL c'.I w (u :: (fzL s.H cs).1) (v :: us) := by
      obtain ⟨c', g1, g2, g3, g4, g5, g6⟩ := fzL_good cs h h2
      exact ⟨c', g1, g2, g3, g4, g5, by simp only [RL]; exact ⟨v, us, rfl, RV.keep (g2.keep h.1.lt) u v h1, g6⟩⟩
    unfold fzL
    split
    · rename_i b n cap
      split
      · rename_i ds cap' e sz hH
        split
        · rename_i hcond
          obtain ⟨k1, k2, k3, k4⟩ := hcond
          obtain ⟨htag, hrel⟩ := h.1.hp b _ hH
          let c1 : Cx := { ow := upd c.ow b .imm, β := c.β, ν := c.ν }
          have htag' : ∀ b', b' ≠ b → c1.ow b' = c.ow b' := fun b' hb => upd_ne _ _ (Ne.symm hb)
          have hst : Step c w c1 w := ⟨rfl, rfl, rfl, Nat.le_refl _, fun _ _ _ => rfl, fun b' hb => by
            by_cases e : b' = b
            · subst e; rw [htag]; simp
            · rw [htag' b' e]; exact ⟨id, id⟩⟩
          have hk := hst.keep h.1.lt
          have hg1 : Good c1 { s with H := upd s.H b none } a w := by
            refine ⟨?_, h.2.1.same hk rfl rfl, h.2.2⟩
            refine h.1.upd hk ?_ ?_ ?_
            · intro b' hb'
              by_cases e : b' = b
              · subst e; exact h.1.lt _ (by rw [htag]; simp)
              · rw [htag' b' e] at hb'; exact h.1.lt b' hb'
            · intro d ob hg
              right
              refine ⟨hg, rfl, rfl, fun b' hb' => ⟨?_, rfl⟩⟩
              rw [htag' b' (by rintro rfl; rw [htag] at hb'; cases hb')]
              exact hb'
            · intro b' ob hb'
              right
              by_cases e : b = b'
              · subst e
                have hb' : upd s.H b none b = some ob := hb'
                rw [upd_self] at hb'; cases hb'
              · have hb' : upd s.H b none b' = some ob := hb'
                rw [upd_ne _ _ e] at hb'
                exact ⟨hb', fun ht => ⟨(htag' b' (Ne.symm e)).trans ht, rfl⟩⟩
          obtain ⟨c', g1, g2, g3, g4, g5, g6⟩ := fzL_good cs hg1 (RL.keep hk cs us h2)
          refine ⟨c', g1, hst.trans g2, g3, g4, fun b' d hb' => g5 b' d ?_, ?_⟩
          · rw [htag' b' (by rintro rfl; rw [htag] at hb'; cases hb')]
            exact hb'
          · simp only [RL]
            refine ⟨v, us, rfl, ?_, g6⟩
            refine RV.keep (g2.keep hg1.1.lt) _ v ?_
            have hv : v = .slice (some ⟨b, 0, none⟩) n cap := h1
            subst hv
            simp only [RV]
            have hrel' := hrel.keep hk rfl
            obtain ⟨cur, r1, r2, r3, r4, r5⟩ := hrel'
            refine ⟨_, cap, rfl, k3, by omega, by simp, by simp, ?_, fun _ => ⟨b, 0, rfl, upd_self _ _ _, ?_⟩⟩
            · intro hn hnil
              have := congrArg List.length hnil
              simp only [List.length_take, List.length_nil] at this
              have := Nat.mul_pos (Nat.pos_of_ne_zero hn) k2
              omega
            · refine RCells_of fun j u hj => ?_
              rw [List.getElem?_take] at hj
              split at hj
              · obtain ⟨x, hx, hv⟩ := RL_get r5.1 hj
                refine ⟨x, ?_, r5.2 x (List.mem_of_getElem? hx), hv⟩
                rw [Nat.zero_add, cell_block r1]
                rw [List.getElem?_take] at hx
                split at hx
                · exact hx
                · cases hx
              · cases hj
        · exact skip
      · exact skip
    · exact skip
theorem fzL_cells : ∀ (cs : List AV) {H : AHeap} {b : Nat} {ds : List AV} {t : TypeId}, H b = some (.cells ds t) → (fzL H cs).2 b = some (.cells ds t)
  | [], _, _, _, _, h => h
  | c :: cs, H, b, ds, t, h => by
    unfold fzL
    split
    · rename_i b' n cap
      split
      · rename_i ds' cap' e sz hH
        split
        · refine fzL_cells cs ?_
          rw [upd_ne _ _ (by rintro rfl; rw [hH] at h; cases h)]
          exact h
        · exact fzL_cells cs h
      · exact fzL_cells cs h
    · exact fzL_cells cs h
theorem fz1_good {c : Cx} {s : S} {a : Act} {w : World} (h : Good c s a w) (x : Nat) : ∃ c', Good c' (s.fz1 x) a w ∧ Step c w c' w := by
  unfold S.fz1
  split
  · exact frz_good h _
  · rename_i d _
    split
    · rename_i cs t hget
      obtain ⟨htag, vs, hb, hr⟩ := h.1.loc d _ hget
      obtain ⟨c', g1, g2, g3, g4, g5, g6⟩ := fzL_good cs h hr.1
      refine ⟨c', ⟨⟨fun d' ob hd' => ?_, g1.1.hp, g1.1.lt⟩, g1.2.1, g1.2.2⟩, g2⟩
      simp only [get_put] at hd'
      split at hd'
      · rename_i e; subst e
        simp only [Option.some.injEq] at hd'; subst hd'
        refine ⟨?_, vs, ?_, g6, hr.2⟩
        · rw [g3]; exact g5 _ _ htag
        · rw [g3]; exact hb
      · exact g1.1.loc d' ob hd'
    · exact ⟨c, h, Step.refl c w⟩
  · rename_i b _
    split
    · rename_i cs t hH
      obtain ⟨htag, vs, hb, hr⟩ := h.1.hp b _ hH
      obtain ⟨c', g1, g2, g3, g4, g5, g6⟩ := fzL_good cs h hr.1
      have hH2 := fzL_cells cs hH
      refine ⟨c', ⟨⟨g1.1.loc, fun b' o hb' => ?_, g1.1.lt⟩, g1.2.1, g1.2.2⟩, g2⟩
      by_cases e : b = b'
      · subst e
        have hb' : upd (fzL s.H cs).2 b (some (.cells (fzL s.H cs).1 t)) b = some o := hb'
        rw [upd_self, Option.some.injEq] at hb'
        subst hb'
        exact ⟨(g1.1.hp b _ hH2).1, vs, hb, g6, hr.2⟩
      · have hb' : upd (fzL s.H cs).2 b (some (.cells (fzL s.H cs).1 t)) b' = some o := hb'
        rw [upd_ne _ _ e] at hb'
        exact g1.1.hp b' o hb'
    · exact ⟨c, h, Step.refl c w⟩
  · rename_i v _ hget
    obtain ⟨hx, hv⟩ := h.2.1 x _ hget
    have hr : RL c.I w [v] [a.tmps.getD x undef] := by simp only [RL]; exact ⟨_, [], rfl, hv, rfl⟩
    obtain ⟨c', g1, g2, g3, g4, g5, g6⟩ := fzL_good [v] h hr
    have hone : ∃ v', (fzL s.H [v]).1 = [v'] := by
      cases hq : (fzL s.H [v]).1 with
      | nil => rw [hq] at g6; simp [RL] at g6
      | cons v' l =>
        rw [hq] at g6
        simp only [RL] at g6
        obtain ⟨_, us, e1, -, g7⟩ := g6
        injection e1 with e1 e2
        subst e2
        cases l with
        | nil => exact ⟨v', rfl⟩
        | cons u l => simp only [RL] at g7; obtain ⟨_, _, e3, _⟩ := g7; cases e3
    obtain ⟨v', hv'⟩ := hone
    refine ⟨c', ⟨g1.1, ?_, g1.2.2⟩, g2⟩
    rw [hv'] at g6 ⊢
    simp only [RL] at g6
    obtain ⟨u, us, e1, g7, -⟩ := g6
    injection e1 with e1 e2
    subst e1
    intro y sv hy
    simp only [List.headD_cons] at hy
    rw [get_put] at hy
    by_cases e : x = y
    · subst e
      simp only [if_true, Option.some.injEq] at hy
      subst hy
      exact ⟨hx, g7⟩
    · rw [if_neg e] at hy
      exact g1.2.1 y sv hy
  · exact ⟨c, h, Step.refl c w⟩
theorem fzs_good {a : Act} {w : World} : ∀ (xs : List Nat) {c : Cx} {s : S}, Good c s a w → ∃ c', Good c' (s.fzs xs) a w ∧ Step c w c' w
  | [], c, s, h => ⟨c, h, Step.refl c w⟩
  | x :: r, c, s, h => by
    obtain ⟨c1, h1, s1⟩ := fz1_good h x
    obtain ⟨c2, h2, s2⟩ := fzs_good r h1
    exact ⟨c2, h2, s1.trans s2⟩

/-! ### a drawn region over slots that are listed -/
def runQ1 (P : Program) (st : Stmt) (s : S) (K : S → Prop) : Prop :=
  match st.op with
  | .bsl _ sz _ len ps => match bslq (oval s.env) sz len ps with
    | some sv => K (s.put st.dst sv)
    | none => False
  | .app _ _ sz by_ _ x y => match nilappq sz by_ (oval s.env x) (oval s.env y) with
    | some sv => K (s.put st.dst sv)
    | none => False
  | .call f xs => match allAV (xs.map (oval s.env)) with
    | some us => ∃ r, ACalls P f us s.H (fun r' H' => r' = r ∧ H' = s.H) ∧ K (s.put st.dst (.v r))
    | none => False
  | .cald x xs => match fnOf (oval s.env x), allAV (xs.map (oval s.env)) with
    | some (f, first, cap), some us => ∃ r, ACalls P f (first ++ us ++ cap) s.H (fun r' H' => r' = r ∧ H' = s.H) ∧ K (s.put st.dst (.v r))
    | _, _ => False
  | .store n x y => match oval s.env y with
    | .v u => match acells u with
      | some ds => match storeq s n (oval s.env x) ds with
        | some s' => st.dst = none ∧ K s'
        | none => False
      | none => False
    | _ => False
  | .hp op => match op with
    | .load n agg x => match hldq s.H n agg (oval s.env x) with
      | some sv => K (s.put st.dst sv)
      | none => False
    | .alloc t z => runH (.alloc t z) st.dst s K
    | .box t x => runH (.box t x) st.dst s K
    | .app t e sz by_ z x y => runH (.app t e sz by_ z x y) st.dst s K
    | .bsl e sz z len ps => runH (.bsl e sz z len ps) st.dst s K
    | .mksl e sz by_ z x y => runH (.mksl e sz by_ z x y) st.dst s K
    | .mkmap kd => runH (.mkmap kd) st.dst s K
    | .mset kd x k v => runH (.mset kd x k v) st.dst s K
    | .hp op2 => match op2 with
      | .load n agg x => match hrdq s.H n agg (oval s.env x) with
        | some sv => K (s.put st.dst sv)
        | none => False
      | _ => False
    | _ => False
  | .ow op => match op with
    | .load n agg x => match lldq s.loc n agg (oval s.env x) with
      | some sv => K (s.put st.dst sv)
      | none => False
    | .store n x y => isLocV (oval s.env x) = true ∧ match oval s.env y with
      | .v u => match acells u with
        | some ds => match storeq s n (oval s.env x) ds with
          | some s' => st.dst = none ∧ K s'
          | none => False
        | none => False
      | _ => False
    | _ => False
  | op => match qop s.loc s.H (oval s.env) op with
    | some sv => K (s.put st.dst sv)
    | none => False

def runQS (P : Program) (st : Stmt) (s : S) (K : S → Prop) : Prop :=
  match st.guard with
  | none => runQ1 P st s K
  | some (g, want) => match oval s.env (.tmp g) with
    | .v (.raw (.bool b)) => if b = want then runQ1 P st s K else K (s.drop st.dst)
    | .v (.raw (.tuple _)) => K (s.drop st.dst)
    | _ => False

def runQ (P : Program) : List Stmt → S → (S → Prop) → Prop
  | [], s, K => K s
  | st :: r, s, K => runQS P st s fun s' => runQ P r s' K

def toD (s : S) : D := ⟨fun t => (get s.env t).getD (.v .top), s.loc, s.H⟩

theorem toD_val (s : S) : dval (toD s).f = oval s.env := by
  funext x; cases x <;> rfl
theorem toD_put (s : S) (dst : Option Nat) (v : SV) : toD (s.put dst v) = (toD s).put dst v := by
  cases dst with
  | none => rfl
  | some x =>
    unfold toD S.put D.put
    simp only
    congr 1
    funext t
    simp only [get_put, upd]
    split <;> rfl
theorem toD_drop (s : S) (dst : Option Nat) : toD (s.drop dst) = (toD s).put dst (.v (.raw (.tuple #[]))) := by
  cases dst with
  | none => rfl
  | some x =>
    unfold toD S.drop D.put
    simp only
    congr 1
    funext t
    simp only [get_put, upd]
    split <;> rfl

def keysIn (N : Nat) (s : S) : Prop := ∀ x sv, get s.env x = some sv → x < N
theorem keysIn_put {N : Nat} {s : S} (h : keysIn N s) {dst : Option Nat} (hd : ∀ x, dst = some x → x < N) (v : SV) : keysIn N (s.put dst v) := by
  cases dst with
  | none => exact h
  | some x =>
    intro y sv hy
    simp only [S.put, get_put] at hy
    split at hy
    · rename_i e; subst e; exact hd _ rfl
    · exact h y sv hy
theorem keysIn_drop {N : Nat} {s : S} (h : keysIn N s) {dst : Option Nat} (hd : ∀ x, dst = some x → x < N) : keysIn N (s.drop dst) := by
  cases dst with
  | none => exact h
  | some x =>
    intro y sv hy
    simp only [S.drop, get_put] at hy
    split at hy
    · rename_i e; subst e; exact hd _ rfl
    · exact h y sv hy

theorem storeq_toD {s s' : S} {n : Nat} {x : SV} {ds : List AV} (h : storeq s n x ds = some s') : s'.env = s.env ∧ ∃ s2, storeq ⟨[], s.loc, s.H⟩ n x ds = some s2 ∧ s2.loc = s'.loc ∧ s2.H = s'.H := by
  unfold storeq at h ⊢
  split at h
  · rename_i hc
    rw [if_pos hc]
    split at h
    · split at h
      · rename_i hget
        split at h
        · rename_i hle
          simp only [Option.some.injEq] at h; subst h
          simp only [hget, if_pos hle]
          exact ⟨by trivial, _, rfl, rfl, rfl⟩
        · cases h
      · rename_i hget
        split at h
        · rename_i hle
          simp only [Option.some.injEq] at h; subst h
          simp only [hget, if_pos hle]
          exact ⟨by trivial, _, rfl, rfl, rfl⟩
        · cases h
      · cases h
    · split at h
      · rename_i hget
        split at h
        · rename_i hle
          simp only [Option.some.injEq] at h; subst h
          simp only [hget, if_pos hle]
          exact ⟨by trivial, _, rfl, rfl, rfl⟩
        · cases h
      · rename_i hget
        split at h
        · rename_i hle
          simp only [Option.some.injEq] at h; subst h
          simp only [hget, if_pos hle]
          exact ⟨by trivial, _, rfl, rfl, rfl⟩
        · cases h
      · cases h
    · cases h
  · cases h

theorem runQ1_D {P : Program} {st : Stmt} {s : S} {K : S → Prop} {N : Nat} (hne : isEff st.op = false) (h : runQ1 P st s K) (hk : keysIn N s) (hd : ∀ x, st.dst = some x → x < N) : ∃ s', actD P st (toD s) (toD s') ∧ K s' ∧ keysIn N s' := by
  obtain ⟨dst, guard, op⟩ := st
  unfold runQ1 at h
  unfold actD
  simp only at hd
  cases op
  case bsl =>
    simp only at h
    split at h
    · rename_i sv hq
      exact ⟨_, ⟨sv, by rw [toD_val]; exact hq, toD_put s dst sv⟩, h, keysIn_put hk hd sv⟩
    · exact h.elim
  case app =>
    simp only at h
    split at h
    · rename_i sv hq
      exact ⟨_, ⟨sv, by rw [toD_val]; exact hq, toD_put s dst sv⟩, h, keysIn_put hk hd sv⟩
    · exact h.elim
  case call f xs =>
    simp only at h
    split at h
    · rename_i us hus
      obtain ⟨r, h1, h2⟩ := h
      exact ⟨_, ⟨us, r, by rw [toD_val]; exact hus, h1, toD_put s dst _⟩, h2, keysIn_put hk hd _⟩
    · exact h.elim
  case cald f xs =>
    simp only at h
    split at h
    · rename_i f' first cap us hf hus
      obtain ⟨r, h1, h2⟩ := h
      exact ⟨_, ⟨f', first, cap, us, r, by rw [toD_val]; exact hf, by rw [toD_val]; exact hus, h1, toD_put s dst _⟩, h2, keysIn_put hk hd _⟩
    · exact h.elim
  case hp op =>
    cases op <;> simp only [isEff] at hne h <;> try (first | (cases hne; done) | exact h.elim)
    case load n agg x =>
      split at h
      · rename_i sv hq
        refine ⟨_, ⟨sv, ?_, toD_put s dst sv⟩, h, keysIn_put hk hd sv⟩
        show hldq (toD s).H n agg (dval (toD s).f x) = some sv
        rw [toD_val]
        exact hq
      · exact h.elim
    case hp op =>
      cases op <;> simp only at h <;> try (exact h.elim)
      rename_i n agg x
      split at h
      · rename_i sv hq
        refine ⟨_, ⟨sv, ?_, toD_put s dst sv⟩, h, keysIn_put hk hd sv⟩
        show hrdq (toD s).H n agg (dval (toD s).f x) = some sv
        rw [toD_val]
        exact hq
      · exact h.elim
  case ow op =>
    cases op <;> simp only at h <;> try (exact h.elim)
    case load n agg x =>
      split at h
      · rename_i sv hq
        refine ⟨_, ⟨sv, ?_, toD_put s dst sv⟩, h, keysIn_put hk hd sv⟩
        show lldq (toD s).L n agg (dval (toD s).f x) = some sv
        rw [toD_val]
        exact hq
      · exact h.elim
    case store n x y =>
      obtain ⟨h0, h⟩ := h
      split at h
      · rename_i u hu
        split at h
        · rename_i ds hds
          split at h
          · rename_i s' hs'
            obtain ⟨e, s2, h2, e1, e2⟩ := storeq_toD hs'
            refine ⟨s', ⟨by rw [toD_val]; exact h0, u, ds, s2, by rw [toD_val]; exact hu, hds, by rw [toD_val]; exact h2, h.1, ?_⟩, h.2, fun x sv hx => hk x sv (by rw [← e]; exact hx)⟩
            unfold toD
            rw [e, e1, e2]
          · exact h.elim
        · exact h.elim
      · exact h.elim
  case store n x y =>
    simp only at h
    split at h
    · rename_i u hu
      split at h
      · rename_i ds hds
        split at h
        · rename_i s' hs'
          obtain ⟨e, s2, h2, e1, e2⟩ := storeq_toD hs'
          refine ⟨s', ⟨u, ds, s2, by rw [toD_val]; exact hu, hds, by rw [toD_val]; exact h2, h.1, ?_⟩, h.2, fun x sv hx => hk x sv (by rw [← e]; exact hx)⟩
          unfold toD
          rw [e, e1, e2]
        · exact h.elim
      · exact h.elim
    · exact h.elim
  all_goals
    simp only at h
    split at h
    · rename_i sv hq
      exact ⟨_, ⟨sv, by rw [toD_val]; exact hq, toD_put s dst sv⟩, h, keysIn_put hk hd sv⟩
    · exact h.elim

theorem runQS_D {P : Program} {st : Stmt} {s : S} {K : S → Prop} {N : Nat} (hne : isEff st.op = false) (h : runQS P st s K) (hk : keysIn N s) (hd : ∀ x, st.dst = some x → x < N) : ∃ s', stepD P st (toD s) (toD s') ∧ K s' ∧ keysIn N s' := by
  unfold runQS at h
  unfold stepD
  cases hg : st.guard with
  | none =>
    rw [hg] at h
    exact runQ1_D hne h hk hd
  | some gw =>
    obtain ⟨g, want⟩ := gw
    rw [hg] at h
    simp only at h ⊢
    split at h
    · rename_i b he
      have he' : (toD s).f g = .v (.raw (.bool b)) := he
      rw [he']
      simp only
      split at h
      · rename_i hb
        simp only [if_pos hb]
        exact runQ1_D hne h hk hd
      · rename_i hb
        simp only [if_neg hb]
        exact ⟨_, toD_drop s st.dst, h, keysIn_drop hk hd⟩
    · rename_i vs he
      have he' : (toD s).f g = .v (.raw (.tuple vs)) := he
      rw [he']
      exact ⟨_, toD_drop s st.dst, h, keysIn_drop hk hd⟩
    · exact h.elim

theorem runQ_W {P : Program} {N : Nat} : ∀ (sts : List Stmt) {s : S} {K : S → Prop}, runQ P sts s K → keysIn N s → (∀ st ∈ sts, ∀ x, st.dst = some x → x < N) → (∀ st ∈ sts, isEff st.op = true → effG st) → RunW P sts (toD s) fun d' => ∃ s', d' = toD s' ∧ K s' ∧ keysIn N s'
  | [], s, K, h, hk, _, _ => ⟨s, rfl, h, hk⟩
  | st :: r, s, K, h, hk, hd, hg => by
    simp only [runQ] at h
    simp only [RunW]
    cases he : isEff st.op with
    | false =>
      obtain ⟨s1, h1, h2, h3⟩ := runQS_D he h hk (hd st (by simp))
      rw [stepW_not he]
      exact ⟨_, h1, runQ_W r h2 h3 (fun st' hst' => hd st' (by simp [hst'])) fun st' hst' => hg st' (by simp [hst'])⟩
    | true =>
      obtain ⟨op, ho⟩ := eff_hp he
      have hgn := hg st (by simp) he
      rw [stepW_eff ho he]
      unfold runQS at h
      rw [hgn.1] at h
      simp only at h
      have hr : runH op st.dst s fun s' => runQ P r s' K := by
        unfold runQ1 at h
        rw [ho] at h he
        cases op <;> simp only [isEff] at he <;> first | (cases he; done) | exact h
      obtain ⟨h1, h2⟩ := runH_out (by rw [← ho]; exact he) hr
      refine ⟨hgn, by rw [toD_val]; exact h1, fun H1 v hv => ?_⟩
      rw [toD_val] at hv
      have h3 := h2 H1 v hv
      have e : ({ toD s with H := H1 } : D).put st.dst v = toD ({ s with H := H1 }.put st.dst v) := (toD_put { s with H := H1 } st.dst v).symm
      rw [e]
      exact runQ_W r h3 (keysIn_put (s := { s with H := H1 }) hk (hd st (by simp)) v) (fun st' hst' => hd st' (by simp [hst'])) fun st' hst' => hg st' (by simp [hst'])

theorem goodD_of {c : Cx} {s : S} {a : Act} {w : World} (h : Good c s a w) : GoodD c (toD s) a w := by
  obtain ⟨h1, h2, h3⟩ := h
  refine GoodD.mk' h3 h1 (fun x hx => ?_) (fun x hx => ?_)
  · show RS c w ((get s.env x).getD (.v .top)) _
    cases hg : get s.env x with
    | none => simp [RS, RV]
    | some sv => exact (h2 x sv hg).2
  · show (get s.env x).getD (.v .top) = _
    cases hg : get s.env x with
    | none => rfl
    | some sv => have := (h2 x sv hg).1; omega
theorem good_ofD {c : Cx} {s : S} {a : Act} {w : World} (h : GoodD c (toD s) a w) (hk : keysIn a.tmps.size s) : Good c s a w := by
  obtain ⟨h1, h2, h3, h4⟩ := h
  refine ⟨h2, fun x sv hx => ⟨hk x sv hx, ?_⟩, h4⟩
  have hlt := hk x sv hx
  have := (h3 x ((toD s).f x) (by rw [get_toS]; simp [hlt])).2
  have he : (toD s).f x = sv := by show (get s.env x).getD (.v .top) = sv; rw [hx]; rfl
  rwa [he] at this

theorem region_drawS {P : Program} {c : Cx} {s : S} {a : Act} {w : World} {ops : Array Oper} {id : Nat} {sts : List Stmt} (hm : P.follows .mixedOrders = true) (hsts : ops.toList.mapM (stmtOf P ops) = some (sts.map Stmt.erase)) (hok : drawOk ops sts = true)
    {K : S → Prop} (hr : runQ P sts s K) (h : Good c s a w) (hdst : dstB a.tmps.size ops = true) :
    (Code.region id ops true).wp P (fun e a' w' => e = .normal ∧ ∃ c' s', K s' ∧ Good c' s' a' w' ∧ Step c w c' w' ∧ a'.tmps.size = a.tmps.size) a w := by
  have hk : keysIn a.tmps.size s := fun x sv hx => (h.2.1 x sv hx).1
  obtain ⟨m1, m2⟩ := mapM_get _ _ hsts
  rw [List.length_map] at m1
  have hd : ∀ st ∈ sts, ∀ x, st.dst = some x → x < a.tmps.size := by
    intro st hst x hx
    obtain ⟨j, hj⟩ := List.getElem?_of_mem hst
    have hjl : j < ops.toList.length := by rw [← m1]; exact (List.getElem?_eq_some_iff.1 hj).1
    have ho : ops[j]? = some ops[j] := Array.getElem?_eq_getElem (by simpa using hjl)
    have hs := m2 j ops[j] st.erase (by simp) (by rw [List.getElem?_map, hj]; rfl)
    obtain ⟨_, hdd, _⟩ := stmtOf_inv hs
    exact dstB_get hdst ho x (by rw [← hdd]; exact hx)
  have hgs : ∀ st ∈ sts, isEff st.op = true → effG st := by
    intro st hst he
    unfold drawOk at hok
    simp only [Bool.and_eq_true] at hok
    have := List.all_eq_true.1 hok.1.1 st hst
    rw [he] at this
    simp only [Bool.not_true, Bool.false_or, Bool.and_eq_true, Option.isNone_iff_eq_none, Bool.or_eq_true, Bool.not_eq_true'] at this
    exact ⟨this.1, fun hh => by rcases this.2 with h1 | h1; · rw [hh] at h1; cases h1
                                · exact h1⟩
  have hw := runQ_W sts hr hk hd hgs
  refine wp_mono (region_draw (id := id) hm hsts hok hw (goodD_of h) hdst) ?_
  rintro e a' w' ⟨rfl, c', d', ⟨s', rfl, h2, h3⟩, hg, hst, hsz⟩
  exact ⟨rfl, c', s', h2, good_ofD hg (by rw [hsz]; exact h3), hst, hsz⟩

section
variable {P : Program} {c c' : Cx} {w w' : World} {a : Act} {s : S}

/-! ### the code -/
inductive AEx where
  | normal | ret
  | exit (id : Nat)
  | goto (l : Nat)

/-- the least fixed point of a loop -/
def ALoop (lv : List Nat) (th : List (Nat × Nat × Nat × Nat)) (body : (AEx → S → Prop) → S → Prop) (K : AEx → S → Prop) (s : S) : Prop :=
  ∀ X : S → Prop, (∀ s', body (fun e s'' => match e with | .normal => X (s''.enter lv th) | e => K e s'') s' → X s') → X s

/-- in a scope: jumps to its labels -/
def scK (has : Nat → Bool) (X : Nat → S → Prop) (K : AEx → S → Prop) (e : AEx) (s : S) : Prop :=
  match e with
  | .goto l => if has l = true then X l s else K (.goto l) s
  | e => K e s
/-- the least fixed point of the jumps to labels -/
def AScope (from_ : Nat → (AEx → S → Prop) → S → Prop) (has : Nat → Bool) (K : AEx → S → Prop) (l : Nat) (s : S) : Prop :=
  ∀ X : Nat → S → Prop, (∀ l' s', from_ l' (scK has X K) s' → X l' s') → X l s

mutual
def AWP (P : Program) : SCode → (AEx → S → Prop) → S → Prop
  | .skip, K, s => K .normal s
  | .reg lv sts, K, s => runOps P sts (s.keep lv) (K .normal)
  | .draw lv sts, K, s => runQ P sts (s.keep lv) (K .normal)
  | .seq a b, K, s => AWP P a (fun e s' => match e with | .normal => AWP P b K s' | e => K e s') s
  | .cond c x y, K, s => match oval s.env c with
    | .v (.raw (.bool b)) => if b = true then AWP P x K s else AWP P y K s
    | _ => False
  | .block id c, K, s => AWP P c (fun e s' => match e with | .exit i => if i = id then K .normal s' else K (.exit i) s' | e => K e s') s
  | .loop lv th c, K, s => ALoop lv th (AWP P c) K (s.enter lv th)
  | .exit id, K, s => K (.exit id) s
  | .ret, K, s => K .ret s
  | .label lv th _, K, s => K .normal (s.enter lv th)
  | .goto l, K, s => K (.goto l) s
  | .scope c, K, s => AWP P c (scK c.hasL (AScope (AWPL P c) c.hasL K) K) s
  | .fz xs c, K, s => AWP P c K (s.fzs xs)
/-- from a label on -/
def AWPL (P : Program) : SCode → Nat → (AEx → S → Prop) → S → Prop
  | .seq a b, l, K, s => if a.hasL l = true then AWPL P a l (fun e s' => match e with | .normal => AWP P b K s' | e => K e s') s else AWPL P b l K s
  | .label lv th l', l, K, s => if l' = l then K .normal (s.enter lv th) else False
  | .fz _ c, l, K, s => AWPL P c l K s
  | _, _, _, _ => False
end

def exOf : AEx → Exit
  | .normal => .normal
  | .ret => .ret
  | .exit id => .exit id
  | .goto l => .goto l

/-- what a piece of code does to all that is described -/
def SemW (P : Program) (cd : Code) (N : Nat) (K : AEx → S → Prop) (s : S) : Prop :=
  ∀ c a w, Good c s a w → a.tmps.size = N → cd.wp P (fun e a' w' => ∃ x c' s', e = exOf x ∧ K x s' ∧ Good c' s' a' w' ∧ Step c w c' w' ∧ a'.tmps.size = N) a w

def codeB (N : Nat) : Code → Bool
  | .region _ ops _ => dstB N ops
  | .seq a b => codeB N a && codeB N b
  | .cond _ x y => codeB N x && codeB N y
  | .block _ c => codeB N c
  | .loop c => codeB N c
  | .scope c => codeB N c
  | _ => true

/-- each region whose order is open may be walked in the order of the text -/
def drawsB : Code → SCode → Bool
  | .region _ ops true, sc => match sc.core with
    | .draw _ sts => drawOk ops sts
    | _ => false
  | .seq a b, sc => match sc.core with
    | .seq x y => drawsB a x && drawsB b y
    | _ => false
  | .cond _ a b, sc => match sc.core with
    | .cond _ x y => drawsB a x && drawsB b y
    | _ => false
  | .block _ a, sc => match sc.core with
    | .block _ x => drawsB a x
    | _ => false
  | .loop a, sc => match sc.core with
    | .loop _ _ x => drawsB a x
    | _ => false
  | .scope a, sc => match sc.core with
    | .scope x => drawsB a x
    | _ => false
  | _, _ => true

theorem hasL_find : ∀ {cd : Code} {sc : SCode}, codeOf P cd = some sc.erase → ∀ l, sc.hasL l = (findLabel cd l).isSome := by
  intro cd sc
  induction sc generalizing cd with
  | fz xs c ih => intro h l; exact ih h l
  | seq a b iha ihb =>
    intro h l
    cases cd with
    | seq x y =>
      simp only [codeOf, Option.bind_eq_bind] at h
      obtain ⟨sx, hx, h⟩ := Option.bind_eq_some_iff.1 h
      obtain ⟨sy, hy, h⟩ := Option.bind_eq_some_iff.1 h
      simp only [SCode.erase, Option.pure_def, Option.some.injEq, SCode.seq.injEq] at h
      obtain ⟨rfl, rfl⟩ := h
      simp only [SCode.hasL, findLabel, iha hx l, ihb hy l]
      cases findLabel x l <;> simp
    | region i o b => cases b <;> simp [codeOf, SCode.erase, Option.bind_eq_some_iff] at h
    | _ => simp [codeOf, SCode.erase, Option.bind_eq_some_iff] at h
  | label lv th l' =>
    intro h l
    cases cd with
    | label l2 =>
      simp only [codeOf, SCode.erase, Option.some.injEq, SCode.label.injEq, true_and] at h
      subst h
      simp only [SCode.hasL, findLabel]
      cases l2 == l <;> rfl
    | region i o b => cases b <;> simp [codeOf, SCode.erase, Option.bind_eq_some_iff] at h
    | _ => simp [codeOf, SCode.erase, Option.bind_eq_some_iff] at h
  | _ =>
    intro h l
    cases cd with
    | seq x y => simp [codeOf, SCode.erase, Option.bind_eq_some_iff] at h
    | label l2 => simp [codeOf, SCode.erase] at h
    | _ => rfl

theorem drawsB_fz (cd : Code) (xs : List Nat) (sc : SCode) : drawsB cd (.fz xs sc) = drawsB cd sc := by
  cases cd <;> try rfl
  rename_i _ _ b
  cases b <;> rfl
/-- a note ahead of a piece of code -/
theorem fz_lift {P : Program} {cd : Code} {N : Nat} (h : ∀ sc : SCode, sc.isFz = false → codeOf P cd = some sc.erase → codeB N cd = true → drawsB cd sc = true → ∀ {K : AEx → S → Prop} {s : S}, AWP P sc K s → SemW P cd N K s) :
    ∀ sc : SCode, codeOf P cd = some sc.erase → codeB N cd = true → drawsB cd sc = true → ∀ {K : AEx → S → Prop} {s : S}, AWP P sc K s → SemW P cd N K s := by
  intro sc
  induction sc with
  | fz xs sc ih =>
    intro hc hb hdr K s hr c a w hg hN
    rw [drawsB_fz] at hdr
    obtain ⟨c1, h1, s1⟩ := fzs_good xs hg
    refine wp_mono (ih hc hb hdr hr c1 a w h1 hN) ?_
    rintro e a' w' ⟨x, c', s', rfl, hK, hg', hst, hsz⟩
    exact ⟨x, c', s', rfl, hK, hg', s1.trans hst, hsz⟩
  | _ => exact h _ rfl

theorem fz_liftL {P : Program} {cd : Code} {N : Nat} (h : ∀ sc : SCode, sc.isFz = false → codeOf P cd = some sc.erase → codeB N cd = true → drawsB cd sc = true → ∀ (l : Nat) (rest : Code), findLabel cd l = some rest → ∀ {K : AEx → S → Prop} {s : S}, AWPL P sc l K s → SemW P rest N K s) :
    ∀ sc : SCode, codeOf P cd = some sc.erase → codeB N cd = true → drawsB cd sc = true → ∀ (l : Nat) (rest : Code), findLabel cd l = some rest → ∀ {K : AEx → S → Prop} {s : S}, AWPL P sc l K s → SemW P rest N K s := by
  intro sc
  induction sc with
  | fz xs sc ih =>
    intro hc hb hdr l rest hf K s hr
    rw [drawsB_fz] at hdr
    exact ih hc hb hdr l rest hf hr
  | _ => exact h _ rfl
theorem sndL_none {P : Program} {cd : Code} {N : Nat} (h : ∀ l, findLabel cd l = none) :
    ∀ sc : SCode, codeOf P cd = some sc.erase → codeB N cd = true → drawsB cd sc = true → ∀ (l : Nat) (rest : Code), findLabel cd l = some rest → ∀ {K : AEx → S → Prop} {s : S}, AWPL P sc l K s → SemW P rest N K s := by
  intro sc _ _ _ l rest hf
  rw [h l] at hf
  cases hf
theorem sem_both {N : Nat} (hm : P.follows .mixedOrders = true) : ∀ (cd : Code),
    (∀ (sc : SCode), codeOf P cd = some sc.erase → codeB N cd = true → drawsB cd sc = true → ∀ {K : AEx → S → Prop} {s : S}, AWP P sc K s → SemW P cd N K s) ∧
    (∀ sc : SCode, codeOf P cd = some sc.erase → codeB N cd = true → drawsB cd sc = true → ∀ (l : Nat) (rest : Code), findLabel cd l = some rest → ∀ {K : AEx → S → Prop} {s : S}, AWPL P sc l K s → SemW P rest N K s) := by
  intro cd
  induction cd with
  | skip =>
    refine ⟨fz_lift fun sc hnf hc hb hdr K s hr c a w h hN => ?_, sndL_none fun _ => rfl⟩
    cases sc <;> (first | (simp [SCode.isFz] at hnf; done) | simp only [codeOf, SCode.erase, Option.some.injEq, reduceCtorEq] at hc)
    exact wp_skip ⟨.normal, c, s, rfl, hr, h, Step.refl c w, hN⟩
  | region id ops draw =>
    refine ⟨fz_lift fun sc hnf hc hb hdr K s hr c a w h hN => ?_, sndL_none fun _ => rfl⟩
    simp only [codeB] at hb
    cases draw with
    | true =>
      simp only [codeOf, Option.bind_eq_bind] at hc
      obtain ⟨sts, hsts, hc⟩ := Option.bind_eq_some_iff.1 hc
      cases sc <;> (first | (simp [SCode.isFz] at hnf; done) | simp only [SCode.erase, Option.some.injEq, reduceCtorEq, SCode.draw.injEq, true_and] at hc)
      subst hc
      simp only [drawsB, SCode.core] at hdr
      refine wp_mono (region_drawS hm hsts hdr hr (h.keep _) (by rw [hN]; exact hb)) ?_
      rintro e a' w' ⟨rfl, c', s', hK, hg, hst, hsz⟩
      exact ⟨.normal, c', s', rfl, hK, hg, hst, hsz.trans hN⟩
    | false =>
      simp only [codeOf, Option.bind_eq_bind] at hc
      obtain ⟨sts, hsts, hc⟩ := Option.bind_eq_some_iff.1 hc
      cases sc <;> (first | (simp [SCode.isFz] at hnf; done) | simp only [SCode.erase, Option.some.injEq, reduceCtorEq, SCode.reg.injEq, true_and] at hc)
      subst hc
      refine wp_mono (region_seq hsts hr (h.keep _) (by rw [hN]; exact hb)) ?_
      rintro e a' w' ⟨rfl, c', s', hK, hg, hst, hsz⟩
      exact ⟨.normal, c', s', rfl, hK, hg, hst, hsz.trans hN⟩
  | seq x y ihx ihy =>
    refine ⟨fz_lift fun sc hnf hc hb hdr K s hr c a w h hN => ?_, ?_⟩
    · simp only [codeOf, Option.bind_eq_bind] at hc
      obtain ⟨sx, hx, hc⟩ := Option.bind_eq_some_iff.1 hc
      obtain ⟨sy, hy, hc⟩ := Option.bind_eq_some_iff.1 hc
      cases sc <;> (first | (simp [SCode.isFz] at hnf; done) | simp only [SCode.erase, Option.some.injEq, reduceCtorEq, SCode.seq.injEq] at hc)
      obtain ⟨rfl, rfl⟩ := hc
      simp only [codeB, Bool.and_eq_true] at hb
      simp only [drawsB, SCode.core, Bool.and_eq_true] at hdr
      refine wp_seq (wp_mono (ihx.1 _ hx hb.1 hdr.1 hr c a w h hN) ?_)
      rintro e a' w' ⟨ex, c', s', rfl, hK, hg, hst, hsz⟩
      cases ex with
      | normal =>
        refine wp_mono (ihy.1 _ hy hb.2 hdr.2 hK c' a' w' hg hsz) ?_
        rintro e2 a2 w2 ⟨ex2, c2, s2, rfl, hK2, hg2, hst2, hsz2⟩
        exact ⟨ex2, c2, s2, rfl, hK2, hg2, hst.trans hst2, hsz2⟩
      | ret => exact ⟨.ret, c', s', rfl, hK, hg, hst, hsz⟩
      | exit id => exact ⟨.exit id, c', s', rfl, hK, hg, hst, hsz⟩
      | goto l => exact ⟨.goto l, c', s', rfl, hK, hg, hst, hsz⟩
    · refine fz_liftL fun sc hnf hc hb hdr l rest hf K s hr => ?_
      simp only [codeOf, Option.bind_eq_bind] at hc
      obtain ⟨sx, hx, hc⟩ := Option.bind_eq_some_iff.1 hc
      obtain ⟨sy, hy, hc⟩ := Option.bind_eq_some_iff.1 hc
      cases sc <;> (first | (simp [SCode.isFz] at hnf; done) | simp only [SCode.erase, Option.pure_def, Option.some.injEq, reduceCtorEq, SCode.seq.injEq] at hc)
      obtain ⟨rfl, rfl⟩ := hc
      simp only [codeB, Bool.and_eq_true] at hb
      simp only [drawsB, SCode.core, Bool.and_eq_true] at hdr
      simp only [AWPL, hasL_find hx l] at hr
      simp only [findLabel] at hf
      cases hl : findLabel x l with
      | none =>
        rw [hl] at hr hf
        simp only [Option.isSome_none, Bool.false_eq_true, if_false] at hr
        exact ihy.2 _ hy hb.2 hdr.2 l rest hf hr
      | some r1 =>
        rw [hl] at hr hf
        simp only [Option.isSome_some, if_true] at hr
        simp only [Option.some.injEq] at hf
        subst hf
        intro c a w h hN
        refine wp_seq (wp_mono (ihx.2 _ hx hb.1 hdr.1 l r1 hl hr c a w h hN) ?_)
        rintro e a' w' ⟨ex, c', s', rfl, hK, hg, hst, hsz⟩
        cases ex with
        | normal =>
          refine wp_mono (ihy.1 _ hy hb.2 hdr.2 hK c' a' w' hg hsz) ?_
          rintro e2 a2 w2 ⟨ex2, c2, s2, rfl, hK2, hg2, hst2, hsz2⟩
          exact ⟨ex2, c2, s2, rfl, hK2, hg2, hst.trans hst2, hsz2⟩
        | ret => exact ⟨.ret, c', s', rfl, hK, hg, hst, hsz⟩
        | exit id => exact ⟨.exit id, c', s', rfl, hK, hg, hst, hsz⟩
        | goto l => exact ⟨.goto l, c', s', rfl, hK, hg, hst, hsz⟩
  | cond q x y ihx ihy =>
    refine ⟨fz_lift fun sc hnf hc hb hdr K s hr c a w h hN => ?_, sndL_none fun _ => rfl⟩
    simp only [codeOf, Option.bind_eq_bind] at hc
    obtain ⟨sx, hx, hc⟩ := Option.bind_eq_some_iff.1 hc
    obtain ⟨sy, hy, hc⟩ := Option.bind_eq_some_iff.1 hc
    cases sc <;> (first | (simp [SCode.isFz] at hnf; done) | simp only [SCode.erase, Option.some.injEq, reduceCtorEq, SCode.cond.injEq] at hc)
    obtain ⟨rfl, rfl, rfl⟩ := hc
    simp only [codeB, Bool.and_eq_true] at hb
    simp only [drawsB, SCode.core, Bool.and_eq_true] at hdr
    simp only [AWP] at hr
    split at hr
    · rename_i b he
      have hq := oval_rs h.2.1 q
      rw [he] at hq
      have hq' : a.eval q = .bool b := hq
      refine wp_cond hq' ?_
      cases b with
      | true => exact ihx.1 _ hx hb.1 hdr.1 (by simpa using hr) c a w h hN
      | false => exact ihy.1 _ hy hb.2 hdr.2 (by simpa using hr) c a w h hN
    · exact hr.elim
  | block id x ih =>
    refine ⟨fz_lift fun sc hnf hc hb hdr K s hr c a w h hN => ?_, sndL_none fun _ => rfl⟩
    simp only [codeOf, Option.bind_eq_bind] at hc
    obtain ⟨sx, hx, hc⟩ := Option.bind_eq_some_iff.1 hc
    cases sc <;> (first | (simp [SCode.isFz] at hnf; done) | simp only [SCode.erase, Option.some.injEq, reduceCtorEq, SCode.block.injEq] at hc)
    obtain ⟨rfl, rfl⟩ := hc
    simp only [codeB] at hb
    simp only [drawsB, SCode.core] at hdr
    refine wp_block (wp_mono (ih.1 _ hx hb hdr hr c a w h hN) ?_)
    rintro e a' w' ⟨ex, c', s', rfl, hK, hg, hst, hsz⟩
    cases ex with
    | normal => exact ⟨.normal, c', s', rfl, hK, hg, hst, hsz⟩
    | ret => exact ⟨.ret, c', s', rfl, hK, hg, hst, hsz⟩
    | exit i =>
      simp only at hK
      show if i = id then _ else _
      by_cases e : i = id
      · rw [if_pos e] at hK ⊢
        exact ⟨.normal, c', s', rfl, hK, hg, hst, hsz⟩
      · rw [if_neg e] at hK ⊢
        exact ⟨.exit i, c', s', rfl, hK, hg, hst, hsz⟩
    | goto l => exact ⟨.goto l, c', s', rfl, hK, hg, hst, hsz⟩
  | loop x ih =>
    refine ⟨fz_lift fun sc hnf hc hb hdr K s hr c a w h hN => ?_, sndL_none fun _ => rfl⟩
    simp only [codeOf, Option.bind_eq_bind] at hc
    obtain ⟨sx, hx, hc⟩ := Option.bind_eq_some_iff.1 hc
    cases sc <;> (first | (simp [SCode.isFz] at hnf; done) | simp only [SCode.erase, Option.some.injEq, reduceCtorEq, SCode.loop.injEq, true_and] at hc)
    subst hc
    simp only [codeB] at hb
    simp only [drawsB, SCode.core] at hdr
    have key := hr (fun s => ∀ c a w, Good c s a w → a.tmps.size = N → ∀ (b : Frame) (k : List Item) (cs : List Frame),
      ∃ e a' w', (∃ x c' s', e = exOf x ∧ K x s' ∧ Good c' s' a' w' ∧ Step c w c' w' ∧ a'.tmps.size = N) ∧ Arrives P (lone (b.at a (.code x :: .inLoop x :: k)) cs w) b k cs e a' w') ?_
    · intro b k cs
      obtain ⟨c0, h0, hst0⟩ := h.enter _ _
      obtain ⟨e, a', w', ⟨x2, c2, s2, e2, hK2, hg2, hst2, hsz2⟩, harr⟩ := key c0 a w h0 hN b k cs
      exact ⟨e, a', w', ⟨x2, c2, s2, e2, hK2, hg2, hst0.trans hst2, hsz2⟩, .of_steps (.one step_loop) harr⟩
    · intro s' hbody c a w h hN b k cs
      obtain ⟨e, a1, w1, hq, harr⟩ := ih.1 _ hx hb hdr hbody c a w h hN b (.inLoop x :: k) cs
      obtain ⟨ex, c1, s1, rfl, hK, hg, hst, hsz⟩ := hq
      cases ex with
      | normal =>
        obtain ⟨c0, h0, hst0⟩ := hg.enter _ _
        obtain ⟨e2, a2, w2, ⟨ex2, c2, s2, h2, hK2, hg2, hst2, hsz2⟩, harr2⟩ := hK c0 a1 w1 h0 hsz b k cs
        exact ⟨e2, a2, w2, ⟨ex2, c2, s2, h2, hK2, hg2, (hst.trans hst0).trans hst2, hsz2⟩, .of_steps (Steps.trans harr (.one step_inLoop)) harr2⟩
      | ret => exact ⟨_, a1, w1, ⟨.ret, c1, s1, rfl, hK, hg, hst, hsz⟩, .pass (x := .inLoop x) rfl (fun _ _ => .inl (by simp [exOf])) harr⟩
      | exit i => exact ⟨_, a1, w1, ⟨.exit i, c1, s1, rfl, hK, hg, hst, hsz⟩, .pass (x := .inLoop x) rfl (fun _ _ => .inl (by simp [exOf])) harr⟩
      | goto l => exact ⟨_, a1, w1, ⟨.goto l, c1, s1, rfl, hK, hg, hst, hsz⟩, .pass (x := .inLoop x) rfl (fun _ _ => .inl (by simp [exOf])) harr⟩
  | exit id =>
    refine ⟨fz_lift fun sc hnf hc hb hdr K s hr c a w h hN => ?_, sndL_none fun _ => rfl⟩
    cases sc <;> (first | (simp [SCode.isFz] at hnf; done) | simp only [codeOf, SCode.erase, Option.some.injEq, reduceCtorEq, SCode.exit.injEq] at hc)
    subst hc
    exact wp_exit ⟨.exit id, c, s, rfl, hr, h, Step.refl c w, hN⟩
  | ret =>
    refine ⟨fz_lift fun sc hnf hc hb hdr K s hr c a w h hN => ?_, sndL_none fun _ => rfl⟩
    cases sc <;> (first | (simp [SCode.isFz] at hnf; done) | simp only [codeOf, SCode.erase, Option.some.injEq, reduceCtorEq] at hc)
    exact wp_ret ⟨.ret, c, s, rfl, hr, h, Step.refl c w, hN⟩
  | label l =>
    refine ⟨fz_lift fun sc hnf hc hb hdr K s hr c a w h hN => ?_, fz_liftL fun sc hnf hc hb hdr l' rest hf K s hr c a w h hN => ?_⟩
    · cases sc <;> (first | (simp [SCode.isFz] at hnf; done) | simp only [codeOf, SCode.erase, Option.some.injEq, reduceCtorEq, SCode.label.injEq, true_and] at hc)
      subst hc
      obtain ⟨c0, h0, hst0⟩ := h.enter _ _
      exact wp_label ⟨.normal, c0, _, rfl, hr, h0, hst0, hN⟩
    · cases sc <;> (first | (simp [SCode.isFz] at hnf; done) | simp only [codeOf, SCode.erase, Option.some.injEq, reduceCtorEq, SCode.label.injEq, true_and] at hc)
      subst hc
      simp only [findLabel] at hf
      split at hf
      · rename_i e
        simp only [Option.some.injEq] at hf; subst hf
        simp only [beq_iff_eq] at e; subst e
        simp only [AWPL, if_true] at hr
        obtain ⟨c0, h0, hst0⟩ := h.enter _ _
        exact wp_skip ⟨.normal, c0, _, rfl, hr, h0, hst0, hN⟩
      · cases hf
  | goto l =>
    refine ⟨fz_lift fun sc hnf hc hb hdr K s hr c a w h hN => ?_, sndL_none fun _ => rfl⟩
    cases sc <;> (first | (simp [SCode.isFz] at hnf; done) | simp only [codeOf, SCode.erase, Option.some.injEq, reduceCtorEq, SCode.goto.injEq] at hc)
    subst hc
    exact wp_goto ⟨.goto l, c, s, rfl, hr, h, Step.refl c w, hN⟩
  | scope x ih =>
    refine ⟨fz_lift fun sc hnf hc hb hdr K s hr c a w h hN => ?_, sndL_none fun _ => rfl⟩
    simp only [codeOf, Option.bind_eq_bind] at hc
    obtain ⟨sx, hx, hc⟩ := Option.bind_eq_some_iff.1 hc
    cases sc <;> (first | (simp [SCode.isFz] at hnf; done) | simp only [SCode.erase, Option.pure_def, Option.some.injEq, reduceCtorEq, SCode.scope.injEq] at hc)
    rename_i y _
    subst hc
    simp only [codeB] at hb
    simp only [drawsB, SCode.core] at hdr
    have hhas := hasL_find hx
    -- what is so at a label
    let X : Nat → S → Prop := fun l s => ∀ rest, findLabel x l = some rest → ∀ c a w, Good c s a w → a.tmps.size = N → ∀ (b : Frame) (k : List Item) (cs : List Frame),
      ∃ e a' w', (∃ x c' s', e = exOf x ∧ K x s' ∧ Good c' s' a' w' ∧ Step c w c' w' ∧ a'.tmps.size = N) ∧ Arrives P (lone (b.at a (.code rest :: .inScope x :: k)) cs w) b k cs e a' w'
    -- what is so behind a run in the scope
    have after : ∀ (X' : Nat → S → Prop), (∀ l s, X' l s → y.hasL l = true → X l s) → ∀ (m : Machine) (c : Cx) (w : World) (b : Frame) (k : List Item) (cs : List Frame) (e : Exit) (a1 : Act) (w1 : World),
        (∃ x c' s', e = exOf x ∧ scK y.hasL X' K x s' ∧ Good c' s' a1 w1 ∧ Step c w c' w1 ∧ a1.tmps.size = N) → Arrives P m b (.inScope x :: k) cs e a1 w1 →
        ∃ e a' w', (∃ x c' s', e = exOf x ∧ K x s' ∧ Good c' s' a' w' ∧ Step c w c' w' ∧ a'.tmps.size = N) ∧ Arrives P m b k cs e a' w' := by
      rintro X' hX' m c w b k cs _ a1 w1 ⟨ex, c1, s1, rfl, hK, hg, hst, hsz⟩ harr
      cases ex with
      | normal => exact ⟨.normal, a1, w1, ⟨.normal, c1, s1, rfl, hK, hg, hst, hsz⟩, Steps.trans harr (.one step_inScope)⟩
      | ret => exact ⟨.ret, a1, w1, ⟨.ret, c1, s1, rfl, hK, hg, hst, hsz⟩, harr⟩
      | exit i => exact ⟨.exit i, a1, w1, ⟨.exit i, c1, s1, rfl, hK, hg, hst, hsz⟩, fun k' hk => harr k' (by simp [exitTo, hk])⟩
      | goto l =>
        simp only [scK] at hK
        cases hl : y.hasL l with
        | true =>
          rw [hl, if_pos rfl] at hK
          have hs := hhas l
          rw [hl] at hs
          obtain ⟨rest, hrest⟩ := Option.isSome_iff_exists.1 hs.symm
          obtain ⟨e2, a2, w2, ⟨ex2, c2, s2, h2, hK2, hg2, hst2, hsz2⟩, harr2⟩ := hX' l s1 hK hl rest hrest c1 a1 w1 hg hsz b k cs
          exact ⟨e2, a2, w2, ⟨ex2, c2, s2, h2, hK2, hg2, hst.trans hst2, hsz2⟩, .of_steps (harr (.code rest :: .inScope x :: k) (by simp [gotoIn, hrest])) harr2⟩
        | false =>
          rw [hl, if_neg (by simp)] at hK
          have hs := hhas l
          rw [hl] at hs
          have hn : findLabel x l = none := by
            cases hq : findLabel x l with
            | none => rfl
            | some r => rw [hq] at hs; simp at hs
          exact ⟨.goto l, a1, w1, ⟨.goto l, c1, s1, rfl, hK, hg, hst, hsz⟩, fun k' hk => harr k' (by simp [gotoIn, hn, hk])⟩
    have closed : ∀ l s', AWPL P y l (scK y.hasL X K) s' → X l s' := by
      intro l s' hl rest hrest c a w h hN b k cs
      obtain ⟨e, a1, w1, hq, harr⟩ := ih.2 _ hx hb hdr l rest hrest hl c a w h hN b (.inScope x :: k) cs
      exact after X (fun _ _ h _ => h) _ c w b k cs e a1 w1 hq harr
    intro b k cs
    obtain ⟨e, a1, w1, hq, harr⟩ := ih.1 _ hx hb hdr hr c a w h hN b (.inScope x :: k) cs
    obtain ⟨e2, a2, w2, h2, harr2⟩ := after _ (fun l s' h _ => h X closed) _ c w b k cs e a1 w1 hq harr
    exact ⟨e2, a2, w2, h2, .of_steps (.one step_scope) harr2⟩
  | rangeFunc => exact ⟨fun sc hc => by simp [codeOf] at hc, fun sc hc => by simp [codeOf] at hc⟩
  | refuse => exact ⟨fun sc hc => by simp [codeOf] at hc, fun sc hc => by simp [codeOf] at hc⟩
theorem sem_sound {N : Nat} (hm : P.follows .mixedOrders = true) (cd : Code) (sc : SCode) (hc : codeOf P cd = some sc.erase) (hb : codeB N cd = true) (hdr : drawsB cd sc = true) {K : AEx → S → Prop} {s : S} (h : AWP P sc K s) : SemW P cd N K s := (sem_both hm cd).1 sc hc hb hdr h

end
end Go.Proofs.Ytejmcijcdhoogaa.Abs
