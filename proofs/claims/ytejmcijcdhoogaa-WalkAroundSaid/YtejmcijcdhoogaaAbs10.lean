import Derived.Test.YtejmcijcdhoogaaAbs9
set_option linter.unusedSimpArgs false
set_option linter.unusedVariables false
namespace Go.Proofs.Ytejmcijcdhoogaa.Abs
open Go

section
variable {P : Program} {o : Oper} {so : SOp} {c c' : Cx} {w w' : World} {a : Act} {s : S}

/-! ### append -/
def appq (s : S) (dst : Option Nat) (e sz by_ : Nat) (x y : SV) : Option S :=
  match x, y with
  | .own d, .v (.vec _ ds m) => match get s.loc d with
    | some (.arr nl cs n e' sz') => if e' = e ∧ sz' = sz ∧ ds.length = m * sz ∧ (n + m) * by_ ≤ 140737488355328 ∧ n + m ≤ maxLen then some (s.arr d dst (nl && m == 0) (cs ++ ds) (n + m) e sz) else none
    | _ => none
  | .v (.vec true [] 0), .v (.vec _ ds m) => match dst with
    | some d => if ds.length = m * sz ∧ m * by_ ≤ 140737488355328 ∧ m ≤ maxLen then some (s.arr d dst (m == 0) ds m e sz) else none
    | none => none
  | _, _ => none

theorem app_zero {t ty e : TypeId} {n : Nat} (hu : P.underlying t = some (.slice e)) (hn : tsz P e = some n) {v : Value} {k : Nat} {xs : List Value} (hown : w.ownsRow 0 e n v k xs) {b : Option Addr} {cap : Nat} :
    (Builtin.append_ #[t, t] ty #[v, .slice b 0 cap]).run P w = .ok v w := by
  have hf : (Builtin.firstCells n 0 (.slice b 0 cap)).run P w = .ok #[] w := by
    cases b <;> simp [Builtin.firstCells, loadCells, loadCellsFrom]
  rcases hown.2 with ⟨rfl, rfl⟩ | ⟨g, cap', cur, rfl, _, _, hnc, _⟩
  · unfold Builtin.append_
    simp [run_underlying hu, tsz_some hn, Builtin.lenOf, hf]
  · unfold Builtin.append_
    simp [run_underlying hu, tsz_some hn, Builtin.lenOf, hf, hnc, storeCells]

theorem app_run {t ty e sz by_ : Nat} {z : Value} (hu : P.underlying t = some (.slice e)) (hsz : tsz P e = some sz) (hby : tby P e = some by_) (hz : tzv P e = some z) (hzs : z.cells.size = sz) (hpos : 0 < sz)
    (h : MRel c s.loc s.H w) {v : Value} {n : Nat} {vs : List Value} {nl : Bool} {cs ds : List AV} (hown : w.ownsRow 0 e sz v n vs) (hr : R1 c.I w cs vs) (hnl : nl = true ↔ v = .slice none 0 0)
    {nly : Bool} {m : Nat} {y : Value} (hy : RV c.I w (.vec nly ds m) y) (hdl : ds.length = m * sz) (hb : (n + m) * by_ ≤ 140737488355328) (h63 : n + m ≤ maxLen) :
    ∃ v' w' us, (Builtin.append_ #[t, t] ty #[v, y]).run P w = .ok v' w' ∧ w'.ownsRow 0 e sz v' (n + m) us ∧ R1 c.I w (cs ++ ds) us ∧ w.grownBy w' v.ownBlock ∧ ((nl && m == 0) = true ↔ v' = .slice none 0 0) ∧
      ∀ b, v'.ownBlock = some b → v.ownBlock = some b ∨ w.heap.size ≤ b := by
  have hy0 := hy
  simp only [RV] at hy
  obtain ⟨ad, cap, rfl, h1, h2, h3, h4, h5, h6⟩ := hy
  by_cases hm : m = 0
  · subst hm
    have : ds = [] := List.eq_nil_of_length_eq_zero (by simpa using hdl)
    subst this
    refine ⟨v, w, vs, app_zero hu hsz hown, hown, by simpa using hr, ⟨rfl, rfl, rfl, Nat.le_refl _, fun _ _ _ => rfl⟩, by simpa using hnl, fun b hb => .inl hb⟩
  · obtain ⟨b, st, rfl, hI, hc⟩ := h6 (h5 hm)
    obtain ⟨i, hi, hi1⟩ := Option.map_eq_some_iff.1 hsz
    obtain ⟨i', hi', hi2⟩ := Option.map_eq_some_iff.1 hby
    rw [hi] at hi'; injection hi' with hi'; subst hi'
    have hzi : i.zero = some z := by unfold tzv at hz; rw [hi] at hz; exact hz
    -- the new cells
    let us := (List.range ds.length).map fun j => (w.cell? ⟨b, st + j, none⟩).getD undef
    have hus : RL c.I w ds us := RL_of_get _ ds fun j u hj => by
      obtain ⟨x, hx, _, hv⟩ := RCells_get hc hj
      rw [hx]; exact hv
    have hget : ∀ j u, us[j]? = some u → w.cell? ((⟨b, st, none⟩ : Addr).add j) = some u ∧ u.oneCell' = true := by
      intro j u hj
      have hjl : j < ds.length := by
        have := (List.getElem?_eq_some_iff.1 hj).1
        simpa [us] using this
      obtain ⟨x, hx, hx1, _⟩ := RCells_get hc (List.getElem?_eq_getElem hjl)
      have : us[j]? = some x := by simp [us, hjl, hx]
      rw [this] at hj; injection hj with hj; subst hj
      exact ⟨by rw [Addr.add_lit]; exact hx, hx1⟩
    obtain ⟨v', w', hrun, ho', hg, hnil, hat⟩ := run_append_own_at (P := P) w 0 t ty e i z sz by_ hu hi hzi hi1 hi2 hzs hpos v n vs hown ⟨b, st, none⟩ m cap us (by simp [us, hdl]) (fun j u hj => (hget j u hj).1)
      (fun u hu => by
        obtain ⟨j, hj⟩ := List.getElem?_of_mem hu
        exact (hget j u hj).2) h63 hb (Nat.zero_le _)
    refine ⟨v', w', vs ++ us, hrun, ho', ⟨RL_append hr.1 hus, ?_⟩, hg, ?_, ?_⟩
    · intro u hu
      rcases List.mem_append.1 hu with hu | hu
      · exact hr.2 u hu
      · obtain ⟨j, hj⟩ := List.getElem?_of_mem hu
        exact (hget j u hj).2
    · rw [hnil]
      simp [hm]
    · intro b' hb'
      rcases hat with hat | hat
      · exact .inl (by rw [← hat]; exact hb')
      · rw [hat] at hb'; injection hb' with hb'; exact .inr (by omega)

theorem app_sound {cl : Call} {x y : Operand} {t u : TypeId} (ho : o.op = .call cl) (hc : cl.callee = .builtin .append) (hargs : cl.args.toList = [x, y]) (ht : cl.argTypes.toList = [t, u]) (hop : callOf0 P cl = some so) (h : Good c s a w) :
    ∃ e sz by_ z, so = .app t e sz by_ z x y ∧ ∀ s', appq s o.dst e sz by_ (oval s.env x) (oval s.env y) = some s' → (∀ d, o.dst = some d → d < a.tmps.size) → OS P o c w a s' := by
  simp only [callOf0, hc, hargs, ht] at hop
  split at hop
  · rename_i htu
    subst htu
    simp only [Option.bind_eq_bind] at hop
    obtain ⟨d, hu, hop⟩ := Option.bind_eq_some_iff.1 hop
    cases d <;> simp only at hop <;> try (cases hop; done)
    rename_i e
    obtain ⟨sz, hsz, hop⟩ := Option.bind_eq_some_iff.1 hop
    obtain ⟨by_, hby, hop⟩ := Option.bind_eq_some_iff.1 hop
    obtain ⟨z, hz, hop⟩ := Option.bind_eq_some_iff.1 hop
    split at hop
    · rename_i hzs
      simp only [Option.some.injEq] at hop
      refine ⟨e, sz, by_, z, hop.symm, fun s' hq hd => ?_⟩
      have hA : cl.args = #[x, y] := by cases h : cl.args; simp [h] at hargs; subst hargs; rfl
      have hT : cl.argTypes = #[t, t] := by cases h : cl.argTypes; simp [h] at ht; subst ht; rfl
      have he : execOp a.eval o = (do pure (.value (← Builtin.append_ #[t, t] o.type #[a.eval x, a.eval y]))) := by
        simp [execOp, ho, resolve, hc, hA, hT, invoke, builtin]
      have hx := oval_rs h.2.1 x
      have hy := oval_rs h.2.1 y
      unfold appq at hq
      split at hq
      · rename_i d nly ds m hxe hye
        rw [hxe] at hx
        rw [hye] at hy
        have hx' : a.eval x = c.ν d := hx
        split at hq
        · rename_i nl cs n e' sz' hget
          split at hq
          · rename_i hcond
            obtain ⟨rfl, rfl, hdl, hb, h63⟩ := hcond
            simp only [Option.some.injEq] at hq; subst hq
            obtain ⟨htag, hnl, _, vs, hown, hr⟩ := h.1.loc d _ hget
            obtain ⟨v', w', us, hrun, ho', hr', hg, hnl', hat⟩ := app_run (ty := o.type) hu hsz hby hz hzs.1 hzs.2 h.1 hown hr hnl hy hdl hb h63
            obtain ⟨hgood, hst⟩ := setArr h d hd hg (fun b hb => (htag b hb).1) hzs.2 ho' hnl' hat hr'
            exact ⟨v', w', _, .inl (by rw [he, hx', Sem.run_bind, hrun]; rfl), hgood, hst⟩
          · cases hq
        · cases hq
      · rename_i nly ds m hxe hye
        rw [hxe] at hx
        rw [hye] at hy
        have hx' : a.eval x = .slice none 0 0 := by
          simp only [RS, RV] at hx
          obtain ⟨ad, cap, h1, _, _, h3, _⟩ := hx
          obtain ⟨rfl, rfl⟩ := h3 trivial
          exact h1
        split at hq
        · rename_i d hdst
          split at hq
          · rename_i hcond
            obtain ⟨hdl, hb, h63⟩ := hcond
            simp only [Option.some.injEq] at hq; subst hq
            obtain ⟨v', w', us, hrun, ho', hr', hg, hnl', hat⟩ := app_run (ty := o.type) (cs := []) (vs := []) (nl := true) hu hsz hby hz hzs.1 hzs.2 h.1 (World.ownsRow_nil w 0 e sz) ⟨by simp [RL], by simp⟩ (by simp) hy hdl (by simpa using hb) (by simpa using h63)
            simp only [Nat.zero_add, List.nil_append, Bool.true_and] at ho' hr' hnl'
            obtain ⟨hgood, hst⟩ := setArr h d hd hg (fun b hb => by cases hb) hzs.2 ho' hnl' hat hr'
            exact ⟨v', w', _, .inl (by rw [he, hx', Sem.run_bind, hrun]; rfl), by rw [hdst] at hgood ⊢; exact hgood, hst⟩
          · cases hq
        · cases hq
      · cases hq
    · cases hop
  · cases hop

/-! ### freezing: what was the function's own is read only from now on -/
def bx (cs : List AV) (o : Nat) : AV :=
  match cs with
  | [] => .top
  | _ => .box cs o
theorem bx_rv {I : Nat → Prop} {w : World} {cs : List AV} {o : Nat} {v : Value} (h : cs ≠ [] → RV I w (.box cs o) v) : RV I w (bx cs o) v := by
  cases cs with
  | nil => simp [bx, RV]
  | cons c cs => exact h (by simp)
def frz1 (d : Nat) (u : AV) (cs : List AV) : SV → SV
  | .own d' => if d' = d then .v u else .own d'
  | .loc d' o => if d' = d then .v (bx cs o) else .loc d' o
  | .v a => .v a
def frzE (env : List (Nat × SV)) (d : Nat) (u : AV) (cs : List AV) : List (Nat × SV) :=
  match env with
  | [] => []
  | (x, sv) :: r => (x, frz1 d u cs sv) :: frzE r d u cs
theorem get_frzE (env : List (Nat × SV)) (d x : Nat) (u : AV) (cs : List AV) : get (frzE env d u cs) x = (get env x).map (frz1 d u cs) := by
  induction env with
  | nil => rfl
  | cons p r ih =>
    obtain ⟨y, sv⟩ := p
    simp only [frzE, get, ih]
    split <;> rfl

def S.frz (s : S) (d : Nat) : S :=
  match get s.loc d with
  | some (.cells cs _) => { env := frzE s.env d .top cs, loc := del s.loc d, H := s.H }
  | some (.arr nl cs n _ _) => { env := frzE s.env d (.vec nl cs n) cs, loc := del s.loc d, H := s.H }
  | none => s

theorem R1_cells {I I' : Nat → Prop} {w : World} {b : Nat} {cs : List AV} {vs : List Value} (hk : Keep I I' w w) (hr : R1 I w cs vs) (hc : ∀ j u, vs[j]? = some u → w.cell? ⟨b, j, none⟩ = some u) : RCells I' w cs b 0 := by
  refine RCells_of fun j u hj => ?_
  obtain ⟨x, hx, hv⟩ := RL_get (hr.keep hk).1 hj
  exact ⟨x, by rw [Nat.zero_add]; exact hc j x hx, hr.2 x (List.mem_of_getElem? hx), hv⟩

theorem frz_good (h : Good c s a w) (d : Nat) : ∃ c', Good c' (s.frz d) a w ∧ Step c w c' w := by
  unfold S.frz
  split
  · -- a struct
    rename_i cs t hget
    obtain ⟨htag, vs, hb, hr⟩ := h.1.loc d _ hget
    let c' : Cx := { ow := upd c.ow (c.β d) .imm, β := c.β, ν := c.ν }
    have htag' : ∀ b, b ≠ c.β d → c'.ow b = c.ow b := fun b hb => upd_ne _ _ (Ne.symm hb)
    have hst : Step c w c' w := ⟨rfl, rfl, rfl, Nat.le_refl _, fun _ _ _ => rfl, fun b hb => by
      by_cases e : b = c.β d
      · subst e; rw [htag]; simp
      · rw [htag' b e]; exact ⟨id, id⟩⟩
    have hk := hst.keep h.1.lt
    refine ⟨c', ⟨?_, ?_, h.2.2⟩, hst⟩
    · refine h.1.upd hk ?_ ?_ ?_
      · intro b hb'
        by_cases e : b = c.β d
        · subst e; exact h.1.lt _ (by rw [htag]; simp)
        · rw [htag' b e] at hb'; exact h.1.lt b hb'
      · intro d' ob hg
        rw [get_del] at hg
        split at hg
        · cases hg
        · rename_i hne
          right
          refine ⟨hg, rfl, rfl, fun b hb' => ⟨?_, rfl⟩⟩
          rw [htag' b (by rintro rfl; rw [htag] at hb'; injection hb' with hb'; exact hne hb')]
          exact hb'
      · intro b ob hb'
        right
        refine ⟨hb', fun ht => ⟨?_, rfl⟩⟩
        rw [htag' b (by rintro rfl; rw [htag] at ht; cases ht)]
        exact ht
    · intro x sv hx
      simp only [get_frzE] at hx
      obtain ⟨sv0, hs0, rfl⟩ := Option.map_eq_some_iff.1 hx
      obtain ⟨hlt, hrs⟩ := h.2.1 x sv0 hs0
      refine ⟨hlt, ?_⟩
      generalize a.tmps.getD x undef = val at hrs ⊢
      cases sv0 with
      | v u => exact RV.keep hk u _ hrs
      | own d' =>
        simp only [frz1]
        split
        · simp [RS, RV]
        · exact hrs
      | loc d' o' =>
        simp only [frz1]
        split
        · rename_i e; subst e
          have hrs' : val = _ := hrs
          refine bx_rv fun _ => ?_
          simp only [RV]
          refine ⟨c.β d', 0, by rw [hrs', Nat.zero_add], by simp [Cx.I, c', upd_self], R1_cells hk hr fun j u hj => by rw [cell_block hb]; exact hj⟩
        · exact hrs
  · -- a slice
    rename_i nl cs n e sz hget
    obtain ⟨htag, hnl, hsz, vs, hown, hr⟩ := h.1.loc d _ hget
    rcases hown.2 with ⟨hv, hn0⟩ | ⟨g, cap, cur, hv, hgb, hheap, hnc, hcm, hcs, htake⟩
    · -- nil
      have hvs : vs = [] := List.eq_nil_of_length_eq_zero (by rw [hown.1, hn0]; simp)
      have hcs0 : cs = [] := List.eq_nil_of_length_eq_zero (by rw [← RL_length hr.1, hvs]; rfl)
      refine ⟨c, ⟨?_, ?_, h.2.2⟩, Step.refl c w⟩
      · refine ⟨fun d' ob hg => ?_, h.1.hp, h.1.lt⟩
        simp only [get_del] at hg
        split at hg
        · cases hg
        · exact h.1.loc d' ob hg
      · intro x sv hx
        simp only [get_frzE] at hx
        obtain ⟨sv0, hs0, rfl⟩ := Option.map_eq_some_iff.1 hx
        obtain ⟨hlt, hrs⟩ := h.2.1 x sv0 hs0
        refine ⟨hlt, ?_⟩
        generalize a.tmps.getD x undef = val at hrs ⊢
        cases sv0 with
        | v u => exact hrs
        | own d' =>
          simp only [frz1]
          split
          · rename_i e'; subst e'
            have hrs' : val = c.ν d' := hrs
            simp only [RS, RV]
            refine ⟨none, 0, by rw [hrs', hv, hn0], by omega, by simp [maxLen], by simp, ?_, by simp [hn0], by simp [hcs0]⟩
            intro hf
            rw [hnl.2 hv] at hf; cases hf
          · exact hrs
        | loc d' o' =>
          simp only [frz1]
          split
          · rename_i e'; subst e'
            rw [hcs0]
            simp [RS, RV, bx]
          · exact hrs
    · have htg : c.ow g = .loc d ∧ g = c.β d := htag g (by rw [hv]; simp [Value.ownBlock])
      let c' : Cx := { ow := upd c.ow g .imm, β := c.β, ν := c.ν }
      have htag' : ∀ b, b ≠ g → c'.ow b = c.ow b := fun b hb => upd_ne _ _ (Ne.symm hb)
      have hst : Step c w c' w := ⟨rfl, rfl, rfl, Nat.le_refl _, fun _ _ _ => rfl, fun b hb => by
        by_cases e : b = g
        · subst e; rw [htg.1]; simp
        · rw [htag' b e]; exact ⟨id, id⟩⟩
      have hk := hst.keep h.1.lt
      have hcell : ∀ j u, vs[j]? = some u → w.cell? ⟨g, j, none⟩ = some u := by
        intro j u hj
        have := hown.cells (g := g) (by rw [hv]; simp [Value.ownBlock]) j u hj
        rwa [Addr.add_lit, Nat.zero_add] at this
      refine ⟨c', ⟨?_, ?_, h.2.2⟩, hst⟩
      · refine h.1.upd hk ?_ ?_ ?_
        · intro b hb'
          by_cases e : b = g
          · subst e; exact h.1.lt _ (by rw [htg.1]; simp)
          · rw [htag' b e] at hb'; exact h.1.lt b hb'
        · intro d' ob hg
          rw [get_del] at hg
          split at hg
          · cases hg
          · rename_i hne
            right
            refine ⟨hg, rfl, rfl, fun b hb' => ⟨?_, rfl⟩⟩
            rw [htag' b (by rintro rfl; rw [htg.1] at hb'; injection hb' with hb'; exact hne hb')]
            exact hb'
        · intro b ob hb'
          right
          refine ⟨hb', fun ht => ⟨?_, rfl⟩⟩
          rw [htag' b (by rintro rfl; rw [htg.1] at ht; cases ht)]
          exact ht
      · intro x sv hx
        simp only [get_frzE] at hx
        obtain ⟨sv0, hs0, rfl⟩ := Option.map_eq_some_iff.1 hx
        obtain ⟨hlt, hrs⟩ := h.2.1 x sv0 hs0
        refine ⟨hlt, ?_⟩
        generalize a.tmps.getD x undef = val at hrs ⊢
        cases sv0 with
        | v u => exact RV.keep hk u _ hrs
        | own d' =>
          simp only [frz1]
          split
          · rename_i e'; subst e'
            have hrs' : val = c.ν d' := hrs
            simp only [RS, RV]
            refine ⟨_, _, by rw [hrs', hv], hnc, hcm, ?_, by simp, ?_, ?_⟩
            · intro ht
              have := hnl.1 ht
              rw [hv] at this; cases this
            · intro hn0 hc0
              have h1 := RL_length hr.1
              rw [hown.1, hc0] at h1
              have := Nat.mul_pos (Nat.pos_of_ne_zero hn0) hsz
              simp at h1
              omega
            · intro _
              exact ⟨g, 0, rfl, by simp [Cx.I, c', upd_self], R1_cells hk hr hcell⟩
          · exact hrs
        | loc d' o' =>
          simp only [frz1]
          split
          · rename_i e; subst e
            have hrs' : val = _ := hrs
            refine bx_rv fun _ => ?_
            simp only [RV]
            exact ⟨g, 0, by rw [hrs', Nat.zero_add, htg.2], by simp [Cx.I, c', upd_self], R1_cells hk hr hcell⟩
          · exact hrs
  · exact ⟨c, h, Step.refl c w⟩

end
end Go.Proofs.Ytejmcijcdhoogaa.Abs
