import Derived.Test.YtejmcijcdhoogaaAbs11
set_option linter.unusedSimpArgs false
set_option linter.unusedVariables false
namespace Go.Proofs.Ytejmcijcdhoogaa.Abs
open Go

section
variable {P : Program} {o : Oper} {c c' : Cx} {w w' : World} {a : Act} {s : S}

theorem stmtOf_inv {ops : Array Oper} {st : Stmt} (h : stmtOf P ops o = some st) : opOf P o = some st.op ∧ st.dst = o.dst ∧
    ((o.guard = none ∧ st.guard = none) ∨ ∃ j b og g, o.guard = some (j, b) ∧ ops[j]? = some og ∧ og.dst = some g ∧ st.guard = some (g, b)) := by
  unfold stmtOf at h
  simp only [Option.bind_eq_bind] at h
  obtain ⟨op, hop, h⟩ := Option.bind_eq_some_iff.1 h
  cases hg : o.guard with
  | none =>
    rw [hg] at h
    simp only [Option.some.injEq] at h; subst h
    exact ⟨hop, rfl, .inl ⟨rfl, rfl⟩⟩
  | some jb =>
    obtain ⟨j, b⟩ := jb
    rw [hg] at h
    simp only at h
    obtain ⟨og, hog, h⟩ := Option.bind_eq_some_iff.1 h
    obtain ⟨g, hg', h⟩ := Option.bind_eq_some_iff.1 h
    simp only [Option.some.injEq] at h; subst h
    exact ⟨hop, rfl, .inr ⟨j, b, og, g, rfl, hog, hg', rfl⟩⟩

theorem wanted_none {ops : Array Oper} (hg : o.guard = none) : Region.wanted o (yielded ops a.tmps) = true := by
  unfold Region.wanted; rw [hg]

theorem wanted_some {ops : Array Oper} {j g : Nat} {b v : Bool} {og : Oper} (hg : o.guard = some (j, b)) (ho : ops[j]? = some og) (hd : og.dst = some g) (hE : ERel c w s.env a.tmps) (hv : oval s.env (.tmp g) = .v (.raw (.bool v))) :
    Region.wanted o (yielded ops a.tmps) = (v == b) := by
  have hr := oval_rs hE (.tmp g)
  rw [hv] at hr
  have hr' : a.tmps.getD g undef = .bool v := hr
  have hlt : g < a.tmps.size := by
    cases hget : get s.env g with
    | none => simp [oval, hget] at hv
    | some sv => exact (hE g sv hget).1
  have hq : a.tmps[g]? = some (.bool v) := by
    rw [Array.getD_eq_getD_getElem?, Array.getElem?_eq_getElem hlt] at hr'
    rw [Array.getElem?_eq_getElem hlt]
    simpa using hr'
  unfold Region.wanted yielded
  rw [hg]
  simp only [ho, Option.bind_some, hd, hq]
  cases v <;> cases b <;> rfl

theorem wanted_undef {ops : Array Oper} {j g : Nat} {b : Bool} {vs : Array Value} {og : Oper} (hg : o.guard = some (j, b)) (ho : ops[j]? = some og) (hd : og.dst = some g) (hE : ERel c w s.env a.tmps) (hv : oval s.env (.tmp g) = .v (.raw (.tuple vs))) :
    Region.wanted o (yielded ops a.tmps) = false := by
  have hr := oval_rs hE (.tmp g)
  rw [hv] at hr
  have hr' : a.tmps.getD g undef = .tuple vs := hr
  unfold Region.wanted yielded
  rw [hg]
  simp only [ho, Option.bind_some, hd]
  cases hq : a.tmps[g]? with
  | none => rfl
  | some v =>
    rw [Array.getD_eq_getD_getElem?, hq] at hr'
    simp only [Option.getD_some] at hr'
    subst hr'
    rfl

theorem runStmt_sound {ops : Array Oper} {i : Nat} {st : Stmt} (hi : ops[i]? = some o) (hst : stmtOf P ops o = some st.erase) (h : Good c s a w) (hd : ∀ d, o.dst = some d → d < a.tmps.size) {K : S → Prop} (hr : runStmt P st s K)
    {next : Act → World → Prop} {Q : Exit → Act → World → Prop} (hn : ∀ c' s' a' w', K s' → Good c' s' a' w' → Step c w c' w' → a'.tmps.size = a.tmps.size → next a' w') : wpOp P ops Q i next a w := by
  obtain ⟨hop, hdst, hg⟩ := stmtOf_inv hst
  have hdst : st.dst = o.dst := hdst
  have hop : opOf P o = some st.op.erase := hop
  unfold wpOp
  simp only [hi]
  unfold runStmt at hr
  have fin : runOp1 P st (frzAll s (esc st.op)) K → o.wp P a w next Q := by
    intro hr
    obtain ⟨c1, h1, s1⟩ := frzAll_good (esc st.op) h
    exact runOp1_soundE hop hdst h1 hd hr fun c' s' a' w' hK hg' hs' hsz => hn c' s' a' w' hK hg' (s1.trans hs') hsz
  rcases hg with ⟨g1, g2⟩ | ⟨j, b, og, g, g1, g2, g3, g4⟩
  · have g2 : st.guard = none := g2
    rw [g2] at hr
    rw [if_pos (wanted_none g1)]
    exact .inl (fin hr)
  · have g4 : st.guard = some (g, b) := g4
    rw [g4] at hr
    simp only at hr
    split at hr
    · rename_i v hv
      rw [wanted_some g1 g2 g3 h.2.1 hv]
      by_cases e : v = b
      · subst e
        rw [if_pos (by simp)]
        rw [if_pos rfl] at hr
        exact .inl (fin hr)
      · rw [if_neg (by simpa using e)]
        rw [if_neg e, hdst] at hr
        exact hn c _ _ w hr (h.drop o.dst hd) (Step.refl c w) (by cases o.dst <;> simp [Act.put])
    · rename_i vs hv
      rw [wanted_undef g1 g2 g3 h.2.1 hv, if_neg (by simp)]
      rw [hdst] at hr
      exact hn c _ _ w hr (h.drop o.dst hd) (Step.refl c w) (by cases o.dst <;> simp [Act.put])
    · exact hr.elim

def dstB (N : Nat) (ops : Array Oper) : Bool := ops.all fun o => match o.dst with | some d => d < N | none => true
theorem dstB_get {N : Nat} {ops : Array Oper} (h : dstB N ops = true) {i : Nat} (hi : ops[i]? = some o) : ∀ d, o.dst = some d → d < N := by
  intro d hd
  unfold dstB at h
  rw [Array.all_eq_true] at h
  obtain ⟨hlt, he⟩ := Array.getElem?_eq_some_iff.1 hi
  have := h i hlt
  rw [he, hd] at this
  simpa using this

theorem region_seq {ops : Array Oper} {id : Nat} {sts : List Stmt} (hsts : ops.toList.mapM (stmtOf P ops) = some (sts.map Stmt.erase)) {K : S → Prop} (hr : runOps P sts s K) (h : Good c s a w) (hdst : dstB a.tmps.size ops = true) :
    (Code.region id ops false).wp P (fun e a' w' => e = .normal ∧ ∃ c' s', K s' ∧ Good c' s' a' w' ∧ Step c w c' w' ∧ a'.tmps.size = a.tmps.size) a w := by
  obtain ⟨m1, m2⟩ := mapM_get _ _ hsts
  rw [List.length_map] at m1
  have key : ∀ (r : List Stmt) (k : Nat) (c1 : Cx) (s1 : S) (a1 : Act) (w1 : World), (∀ j, r[j]? = sts[k + j]?) → runOps P r s1 K → Good c1 s1 a1 w1 → Step c w c1 w1 → a1.tmps.size = a.tmps.size →
      wpOps P ops (fun e a' w' => e = .normal ∧ ∃ c' s', K s' ∧ Good c' s' a' w' ∧ Step c w c' w' ∧ a'.tmps.size = a.tmps.size) (List.range' k r.length) a1 w1 := by
    intro r
    induction r with
    | nil =>
      intro k c1 s1 a1 w1 _ hr h1 hs1 hsz
      simp only [List.length_nil, List.range'_zero, wpOps]
      exact ⟨trivial, c1, s1, hr, h1, hs1, hsz⟩
    | cons st r ih =>
      intro k c1 s1 a1 w1 hj hr h1 hs1 hsz
      simp only [List.length_cons, List.range'_succ]
      rw [wpOps_cons]
      have hk : sts[k]? = some st := by have := hj 0; simpa using this.symm
      have hkl : k < ops.toList.length := by
        rw [← m1]; exact (List.getElem?_eq_some_iff.1 hk).1
      have hok : ops[k]? = some ops[k] := Array.getElem?_eq_getElem (by simpa using hkl)
      have hst : stmtOf P ops ops[k] = some st.erase := m2 k ops[k] st.erase (by simp) (by simp [hk])
      refine runStmt_sound hok hst h1 (by intro d hd; rw [hsz]; exact dstB_get hdst hok d hd) hr fun c' s' a' w' hK hg' hs' hsz' => ?_
      refine ih (k + 1) c' s' a' w' (fun j => ?_) hK hg' (hs1.trans hs') (hsz'.trans hsz)
      have := hj (j + 1)
      rw [show k + 1 + j = k + (j + 1) by omega]
      simpa using this
  refine wp_region ?_
  have := key sts 0 c s a w (fun j => by simp) hr h (Step.refl c w) rfl
  rw [m1] at this
  simpa [List.range_eq_range'] using this

end
end Go.Proofs.Ytejmcijcdhoogaa.Abs
