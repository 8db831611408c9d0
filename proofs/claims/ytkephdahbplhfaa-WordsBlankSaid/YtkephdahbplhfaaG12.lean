import Derived.Test.YtkephdahbplhfaaG4
import Derived.Test.YtkephdahbplhfaaW1
set_option linter.unusedSimpArgs false
set_option linter.unusedVariables false
/- What the arguments of a law are: bytes, texts, lists of texts. -/
namespace Go.Proofs.Ytkephdahbplhfaa
open Go Abs
attribute [local irreducible] EX exL exG exC exCq exS exV exIf exGd exGq

def tcByte : TC := .int .u8
theorem byte_of {n : Int} (h : (Lit.int .u8 n).wf = true) : ∃ b : UInt8, n = bI b := by
  simp [Lit.wf, IntKind.min, IntKind.max, IntKind.signed, IntKind.bits] at h
  refine ⟨UInt8.ofNat n.toNat, ?_⟩
  unfold bI
  rw [UInt8.toNat_ofNat']
  omega
theorem shape_byte {a : AV} (h : ArgShape tcByte a) : ∃ b : UInt8, a = yv b := by
  unfold ArgShape tcByte Shape at h
  obtain ⟨n, h1, h2⟩ := h
  simp only [List.cons.injEq, and_true] at h1
  obtain ⟨b, rfl⟩ := byte_of h2
  exact ⟨b, h1⟩
theorem shape_strL {r : List AV} (h : Shape .str r) : ∃ l : List UInt8, r = [sv l] ∧ l.length ≤ 140737488351232 := by
  unfold Shape at h
  obtain ⟨s, rfl, h2⟩ := h
  obtain ⟨l, rfl⟩ := sv_of s
  exact ⟨l, rfl, by simpa [sv_size, reachBytes] using h2⟩
theorem shape_str {a : AV} (h : ArgShape .str a) : ∃ l : List UInt8, a = sv l ∧ l.length ≤ 140737488351232 := by
  unfold ArgShape at h
  obtain ⟨l, h1, h2⟩ := shape_strL h
  simp only [List.cons.injEq, and_true] at h1
  exact ⟨l, h1, h2⟩
def tcStrs : TC := .sl 16 .str
theorem one_mapG {β : Type} {f : β → AV} : ∀ (l : List β), (l.map fun x => [f x]).flatten = l.map f
  | [] => rfl
  | x :: l => by simpa using one_mapG l
theorem shape_strs {a : AV} (h : ArgShape tcStrs a) : ∃ (nl : Bool) (l : List (List UInt8)), a = .vec nl (l.map sv) l.length ∧ l.length * 16 ≤ 140737488351232 ∧ ∀ s ∈ l, s.length ≤ 140737488351232 := by
  simp only [tcStrs, ArgShape, Shape] at h
  obtain ⟨nl, rs, h1, hn, hb, hr⟩ := h
  obtain ⟨l, rfl, hl⟩ := each_map (f := fun x : List UInt8 => [sv x]) (p := fun x => x.length ≤ 140737488351232) fun r hr' => by
    obtain ⟨s, rfl, h2⟩ := hr r hr'
    obtain ⟨l, rfl⟩ := sv_of s
    exact ⟨l, rfl, by simpa [sv_size, reachBytes] using h2⟩
  rw [one_mapG] at h1
  simp only [List.cons.injEq, and_true, List.length_map] at h1
  exact ⟨nl, l, h1, by simpa [reachBytes] using hb, hl⟩
end Go.Proofs.Ytkephdahbplhfaa
