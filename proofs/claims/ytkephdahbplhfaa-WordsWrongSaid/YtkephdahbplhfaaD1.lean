import Derived.Test.YtkephdahbplhfaaScWaymarkref1
import Derived.Test.YtkephdahbplhfaaG2
set_option linter.unusedSimpArgs false
set_option linter.unusedVariables false
/- Lists of truth values and numbers as arguments; is a link down? -/
namespace Go.Proofs.Ytkephdahbplhfaa
open Go Abs
attribute [local irreducible] EX exL exG exC exCq exS exV exIf exGd exGq
set_option maxHeartbeats 400000
def blv (nl : Bool) (l : List Bool) : AV := .vec nl (l.map bv) l.length
def I64s (l : List Int) : Prop := ∀ x ∈ l, -9223372036854775808 ≤ x ∧ x ≤ 9223372036854775807
theorem isDown_c (nl : Bool) (down : List Bool) (i : Int) (H : AHeap) : APure Try.prog 44 [blv nl down, iv i] H (bv (decide (0 ≤ i) && (decide (i < down.length) && gi down i))) := by
  intro Q h
  refine ACalls.of_code fn_waymarkref1_IsDown ?_
  simp -implicitDefEqProofs only [sc_waymarkref1_IsDown, blv, go_sem, Nat.reduceEqDiff, Nat.reduceAdd, Nat.reduceMul, Nat.reduceLeDiff, Nat.reduceSub, Nat.reduceLT, Nat.reduceBEq, Int.reduceToNat, reduceCtorEq, ↓reduceIte, Int.reduceEq, Int.reduceNeg, Int.reduceLT, Int.reduceLE, Int.reduceAdd, Int.reduceSub, Int.reduceMul]
  repeat' (first | simp -implicitDefEqProofs only [go_sem, Nat.reduceEqDiff, Nat.reduceAdd, Nat.reduceMul, Nat.reduceLeDiff, Nat.reduceSub, Nat.reduceLT, Nat.reduceBEq, Int.reduceToNat, reduceCtorEq, ↓reduceIte, Int.reduceEq, Int.reduceNeg, Int.reduceLT, Int.reduceLE, Int.reduceAdd, Int.reduceSub, Int.reduceMul] | simp -implicitDefEqProofs (disch := omega) only [iaq_vec, iao_arr, iaq_raw, rd_map, wrap_id, binq_quo, binq_rem, binq_shl, binq_shr, tdiv_pos, tmod_pos, if_pos, exV_some, Option.map_some] | ((first | with_reducible apply exIf_dec | ((with_reducible apply exGd_dec); focus exact rfl) | ((with_reducible apply exGq_dec); focus exact rfl) | with_reducible apply exIf_intro | ((with_reducible apply exGd_intro); focus exact rfl) | ((with_reducible apply exGq_intro); focus exact rfl)) <;> intro _))
  all_goals refine fin_ h ?_
  all_goals simp [*]
end Go.Proofs.Ytkephdahbplhfaa
