/-
  No cell of these rows narrows 'for every input' (looked for: loops, veiled, ifaces, maps, wideKeys, modest, calm, conditions, laid).
  DERIVED. THE GIVEN ROWS OF THIS SEAT. 16 by the template 'for every input the law returns true; each argument reads behind the call as it read before'; 0 by the template 'total and deterministic' (their statements: YtkephdahbplhfaaTotals.lean).
  GIVEN WITH THE SEED: the statements are not yours to turn. If you find one false, say at which input.
  Laid BY PROGRAM, IN A SANDBOX (cutbox-rows.mjs): the forced cells as the released guide's own fill.sh prints them over the translation 0a43f6e6dfdc6207… (all of the seat's roots in one cut). By AI agents, Wed Nov 11 2026. No macro, syntax, notation, axiom, sorry.
-/
import Derived.Test.YtkephdahbplhfaaChecked
import GoSem.Claim
import GoSem.ClaimJoined
import GoSem.ClaimMapViews
import Derived.JoinedTies
import Derived.KernelRfl
namespace Go.Proofs.Ytkephdahbplhfaa
/- THE CELL 'sum', in the pinned program and in every row, IS THE sha256 OF THE DUMP (.gsa) THAT YtkephdahbplhfaaProg.lean LOADS. Nothing in Lean hashes anything: it is a label: what it is worth is what the hold of that sum in a sandbox is worth. -/
noncomputable def Try.pinned : Pinned := { name := "ytkephdahbplhfaa", sum := "0a43f6e6dfdc6207933eeba2d31a9506f1ebaef23d04e55a56eb72b6b6ff0f48", checked := Try.checked }
namespace Rows
def none {H : Type} : Left H := { results := [], args := [] }

/-- 'waymarklaw6.GraphTells': WHATEVER THE INPUT: true; the input reads as it did. -/
def graphTellsSpec : ChangeSpec := { name := "graphTells", fn := fun _ => fun
  | [d1, d2, d3] => { results := [.lit (.bool true)], args := [d1, d2, d3] }
  | _ => none }
def graphTellsRow : OpenClaim := { program := "ytkephdahbplhfaa", sum := "0a43f6e6dfdc6207933eeba2d31a9506f1ebaef23d04e55a56eb72b6b6ff0f48", func := "waymark/waymarklaw6.GraphTells", spec := "graphTells", apart := false }
def GraphTellsSaid : Prop := graphTellsRow.holds Try.pinned (OpenSpec.ofChange graphTellsSpec)

/-- ITS FALSE NEIGHBOUR: 'it returns false'. Refute it at one input. -/
def graphTellsWrong : ChangeSpec := { name := "graphTells", fn := fun _ => fun
  | [d1, d2, d3] => { results := [.lit (.bool false)], args := [d1, d2, d3] }
  | _ => none }
def GraphTellsWrongFalsely : Prop := graphTellsRow.holds Try.pinned (OpenSpec.ofChange graphTellsWrong)

/-- 'waymarklaw6.GraphWays': WHATEVER THE INPUT: true; the input reads as it did. -/
def graphWaysSpec : ChangeSpec := { name := "graphWays", fn := fun _ => fun
  | [d1, d2] => { results := [.lit (.bool true)], args := [d1, d2] }
  | _ => none }
def graphWaysRow : OpenClaim := { program := "ytkephdahbplhfaa", sum := "0a43f6e6dfdc6207933eeba2d31a9506f1ebaef23d04e55a56eb72b6b6ff0f48", func := "waymark/waymarklaw6.GraphWays", spec := "graphWays", apart := false }
def GraphWaysSaid : Prop := graphWaysRow.holds Try.pinned (OpenSpec.ofChange graphWaysSpec)

/-- ITS FALSE NEIGHBOUR: 'it returns false'. Refute it at one input. -/
def graphWaysWrong : ChangeSpec := { name := "graphWays", fn := fun _ => fun
  | [d1, d2] => { results := [.lit (.bool false)], args := [d1, d2] }
  | _ => none }
def GraphWaysWrongFalsely : Prop := graphWaysRow.holds Try.pinned (OpenSpec.ofChange graphWaysWrong)

/-- 'waymarklaw6.GraphLimits': WHATEVER THE INPUT: true; the input reads as it did. -/
def graphLimitsSpec : ChangeSpec := { name := "graphLimits", fn := fun _ => fun
  | [d1, d2] => { results := [.lit (.bool true)], args := [d1, d2] }
  | _ => none }
def graphLimitsRow : OpenClaim := { program := "ytkephdahbplhfaa", sum := "0a43f6e6dfdc6207933eeba2d31a9506f1ebaef23d04e55a56eb72b6b6ff0f48", func := "waymark/waymarklaw6.GraphLimits", spec := "graphLimits", apart := false }
def GraphLimitsSaid : Prop := graphLimitsRow.holds Try.pinned (OpenSpec.ofChange graphLimitsSpec)

/-- ITS FALSE NEIGHBOUR: 'it returns false'. Refute it at one input. -/
def graphLimitsWrong : ChangeSpec := { name := "graphLimits", fn := fun _ => fun
  | [d1, d2] => { results := [.lit (.bool false)], args := [d1, d2] }
  | _ => none }
def GraphLimitsWrongFalsely : Prop := graphLimitsRow.holds Try.pinned (OpenSpec.ofChange graphLimitsWrong)

/-- 'waymarklaw6.GraphAll': WHATEVER THE INPUT: true; the input reads as it did. -/
def graphAllSpec : ChangeSpec := { name := "graphAll", fn := fun _ => fun
  | [d] => { results := [.lit (.bool true)], args := [d] }
  | _ => none }
def graphAllRow : OpenClaim := { program := "ytkephdahbplhfaa", sum := "0a43f6e6dfdc6207933eeba2d31a9506f1ebaef23d04e55a56eb72b6b6ff0f48", func := "waymark/waymarklaw6.GraphAll", spec := "graphAll", apart := false }
def GraphAllSaid : Prop := graphAllRow.holds Try.pinned (OpenSpec.ofChange graphAllSpec)

/-- ITS FALSE NEIGHBOUR: 'it returns false'. Refute it at one input. -/
def graphAllWrong : ChangeSpec := { name := "graphAll", fn := fun _ => fun
  | [d] => { results := [.lit (.bool false)], args := [d] }
  | _ => none }
def GraphAllWrongFalsely : Prop := graphAllRow.holds Try.pinned (OpenSpec.ofChange graphAllWrong)

/-- 'waymarklaw12.WordsBlank': WHATEVER THE INPUT: true; the input reads as it did. -/
def wordsBlankSpec : ChangeSpec := { name := "wordsBlank", fn := fun _ => fun
  | [d1, d2] => { results := [.lit (.bool true)], args := [d1, d2] }
  | _ => none }
def wordsBlankRow : OpenClaim := { program := "ytkephdahbplhfaa", sum := "0a43f6e6dfdc6207933eeba2d31a9506f1ebaef23d04e55a56eb72b6b6ff0f48", func := "waymark/waymarklaw12.WordsBlank", spec := "wordsBlank", apart := false }
def WordsBlankSaid : Prop := wordsBlankRow.holds Try.pinned (OpenSpec.ofChange wordsBlankSpec)

/-- ITS FALSE NEIGHBOUR: 'it returns false'. Refute it at one input. -/
def wordsBlankWrong : ChangeSpec := { name := "wordsBlank", fn := fun _ => fun
  | [d1, d2] => { results := [.lit (.bool false)], args := [d1, d2] }
  | _ => none }
def WordsBlankWrongFalsely : Prop := wordsBlankRow.holds Try.pinned (OpenSpec.ofChange wordsBlankWrong)

/-- 'waymarklaw12.WordsWrong': WHATEVER THE INPUT: true; the input reads as it did. -/
def wordsWrongSpec : ChangeSpec := { name := "wordsWrong", fn := fun _ => fun
  | [d1, d2, d3] => { results := [.lit (.bool true)], args := [d1, d2, d3] }
  | _ => none }
def wordsWrongRow : OpenClaim := { program := "ytkephdahbplhfaa", sum := "0a43f6e6dfdc6207933eeba2d31a9506f1ebaef23d04e55a56eb72b6b6ff0f48", func := "waymark/waymarklaw12.WordsWrong", spec := "wordsWrong", apart := false }
def WordsWrongSaid : Prop := wordsWrongRow.holds Try.pinned (OpenSpec.ofChange wordsWrongSpec)

/-- ITS FALSE NEIGHBOUR: 'it returns false'. Refute it at one input. -/
def wordsWrongWrong : ChangeSpec := { name := "wordsWrong", fn := fun _ => fun
  | [d1, d2, d3] => { results := [.lit (.bool false)], args := [d1, d2, d3] }
  | _ => none }
def WordsWrongWrongFalsely : Prop := wordsWrongRow.holds Try.pinned (OpenSpec.ofChange wordsWrongWrong)

/-- 'waymarklaw8.PruneTells': WHATEVER THE INPUT: true; the input reads as it did. -/
def pruneTellsSpec : ChangeSpec := { name := "pruneTells", fn := fun _ => fun
  | [d1, d2, d3] => { results := [.lit (.bool true)], args := [d1, d2, d3] }
  | _ => none }
def pruneTellsRow : OpenClaim := { program := "ytkephdahbplhfaa", sum := "0a43f6e6dfdc6207933eeba2d31a9506f1ebaef23d04e55a56eb72b6b6ff0f48", func := "waymark/waymarklaw8.PruneTells", spec := "pruneTells", unfollowed := true, recurses := true, apart := false }
def PruneTellsSaid : Prop := pruneTellsRow.holds Try.pinned (OpenSpec.ofChange pruneTellsSpec)

/-- ITS FALSE NEIGHBOUR: 'it returns false'. Refute it at one input. -/
def pruneTellsWrong : ChangeSpec := { name := "pruneTells", fn := fun _ => fun
  | [d1, d2, d3] => { results := [.lit (.bool false)], args := [d1, d2, d3] }
  | _ => none }
def PruneTellsWrongFalsely : Prop := pruneTellsRow.holds Try.pinned (OpenSpec.ofChange pruneTellsWrong)

/-- 'waymarklaw8.PruneMore': WHATEVER THE INPUT: true; the input reads as it did. -/
def pruneMoreSpec : ChangeSpec := { name := "pruneMore", fn := fun _ => fun
  | [d1, d2, d3, d4, d5, d6] => { results := [.lit (.bool true)], args := [d1, d2, d3, d4, d5, d6] }
  | _ => none }
def pruneMoreRow : OpenClaim := { program := "ytkephdahbplhfaa", sum := "0a43f6e6dfdc6207933eeba2d31a9506f1ebaef23d04e55a56eb72b6b6ff0f48", func := "waymark/waymarklaw8.PruneMore", spec := "pruneMore", unfollowed := true, recurses := true, apart := false }
def PruneMoreSaid : Prop := pruneMoreRow.holds Try.pinned (OpenSpec.ofChange pruneMoreSpec)

/-- ITS FALSE NEIGHBOUR: 'it returns false'. Refute it at one input. -/
def pruneMoreWrong : ChangeSpec := { name := "pruneMore", fn := fun _ => fun
  | [d1, d2, d3, d4, d5, d6] => { results := [.lit (.bool false)], args := [d1, d2, d3, d4, d5, d6] }
  | _ => none }
def PruneMoreWrongFalsely : Prop := pruneMoreRow.holds Try.pinned (OpenSpec.ofChange pruneMoreWrong)

/-- 'waymarklaw7.SpfRow': WHATEVER THE INPUT: true; the input reads as it did. -/
def spfRowSpec : ChangeSpec := { name := "spfRow", fn := fun _ => fun
  | [d1, d2, d3] => { results := [.lit (.bool true)], args := [d1, d2, d3] }
  | _ => none }
def spfRowRow : OpenClaim := { program := "ytkephdahbplhfaa", sum := "0a43f6e6dfdc6207933eeba2d31a9506f1ebaef23d04e55a56eb72b6b6ff0f48", func := "waymark/waymarklaw7.SpfRow", spec := "spfRow", apart := false }
def SpfRowSaid : Prop := spfRowRow.holds Try.pinned (OpenSpec.ofChange spfRowSpec)

/-- ITS FALSE NEIGHBOUR: 'it returns false'. Refute it at one input. -/
def spfRowWrong : ChangeSpec := { name := "spfRow", fn := fun _ => fun
  | [d1, d2, d3] => { results := [.lit (.bool false)], args := [d1, d2, d3] }
  | _ => none }
def SpfRowWrongFalsely : Prop := spfRowRow.holds Try.pinned (OpenSpec.ofChange spfRowWrong)

/-- 'waymarklaw7.SpfDown': WHATEVER THE INPUT: true; the input reads as it did. -/
def spfDownSpec : ChangeSpec := { name := "spfDown", fn := fun _ => fun
  | [d1, d2, d3, d4] => { results := [.lit (.bool true)], args := [d1, d2, d3, d4] }
  | _ => none }
def spfDownRow : OpenClaim := { program := "ytkephdahbplhfaa", sum := "0a43f6e6dfdc6207933eeba2d31a9506f1ebaef23d04e55a56eb72b6b6ff0f48", func := "waymark/waymarklaw7.SpfDown", spec := "spfDown", apart := false }
def SpfDownSaid : Prop := spfDownRow.holds Try.pinned (OpenSpec.ofChange spfDownSpec)

/-- ITS FALSE NEIGHBOUR: 'it returns false'. Refute it at one input. -/
def spfDownWrong : ChangeSpec := { name := "spfDown", fn := fun _ => fun
  | [d1, d2, d3, d4] => { results := [.lit (.bool false)], args := [d1, d2, d3, d4] }
  | _ => none }
def SpfDownWrongFalsely : Prop := spfDownRow.holds Try.pinned (OpenSpec.ofChange spfDownWrong)

/-- 'waymarklaw7.SpfLess': WHATEVER THE INPUT: true; the input reads as it did. -/
def spfLessSpec : ChangeSpec := { name := "spfLess", fn := fun _ => fun
  | [d1, d2, d3] => { results := [.lit (.bool true)], args := [d1, d2, d3] }
  | _ => none }
def spfLessRow : OpenClaim := { program := "ytkephdahbplhfaa", sum := "0a43f6e6dfdc6207933eeba2d31a9506f1ebaef23d04e55a56eb72b6b6ff0f48", func := "waymark/waymarklaw7.SpfLess", spec := "spfLess", apart := false }
def SpfLessSaid : Prop := spfLessRow.holds Try.pinned (OpenSpec.ofChange spfLessSpec)

/-- ITS FALSE NEIGHBOUR: 'it returns false'. Refute it at one input. -/
def spfLessWrong : ChangeSpec := { name := "spfLess", fn := fun _ => fun
  | [d1, d2, d3] => { results := [.lit (.bool false)], args := [d1, d2, d3] }
  | _ => none }
def SpfLessWrongFalsely : Prop := spfLessRow.holds Try.pinned (OpenSpec.ofChange spfLessWrong)

/-- 'waymarklaw7.SpfNext': WHATEVER THE INPUT: true; the input reads as it did. -/
def spfNextSpec : ChangeSpec := { name := "spfNext", fn := fun _ => fun
  | [d1, d2, d3, d4] => { results := [.lit (.bool true)], args := [d1, d2, d3, d4] }
  | _ => none }
def spfNextRow : OpenClaim := { program := "ytkephdahbplhfaa", sum := "0a43f6e6dfdc6207933eeba2d31a9506f1ebaef23d04e55a56eb72b6b6ff0f48", func := "waymark/waymarklaw7.SpfNext", spec := "spfNext", apart := false }
def SpfNextSaid : Prop := spfNextRow.holds Try.pinned (OpenSpec.ofChange spfNextSpec)

/-- ITS FALSE NEIGHBOUR: 'it returns false'. Refute it at one input. -/
def spfNextWrong : ChangeSpec := { name := "spfNext", fn := fun _ => fun
  | [d1, d2, d3, d4] => { results := [.lit (.bool false)], args := [d1, d2, d3, d4] }
  | _ => none }
def SpfNextWrongFalsely : Prop := spfNextRow.holds Try.pinned (OpenSpec.ofChange spfNextWrong)

/-- 'waymarklaw7.SpfTells': WHATEVER THE INPUT: true; the input reads as it did. -/
def spfTellsSpec : ChangeSpec := { name := "spfTells", fn := fun _ => fun
  | [d1, d2, d3, d4] => { results := [.lit (.bool true)], args := [d1, d2, d3, d4] }
  | _ => none }
def spfTellsRow : OpenClaim := { program := "ytkephdahbplhfaa", sum := "0a43f6e6dfdc6207933eeba2d31a9506f1ebaef23d04e55a56eb72b6b6ff0f48", func := "waymark/waymarklaw7.SpfTells", spec := "spfTells", apart := false }
def SpfTellsSaid : Prop := spfTellsRow.holds Try.pinned (OpenSpec.ofChange spfTellsSpec)

/-- ITS FALSE NEIGHBOUR: 'it returns false'. Refute it at one input. -/
def spfTellsWrong : ChangeSpec := { name := "spfTells", fn := fun _ => fun
  | [d1, d2, d3, d4] => { results := [.lit (.bool false)], args := [d1, d2, d3, d4] }
  | _ => none }
def SpfTellsWrongFalsely : Prop := spfTellsRow.holds Try.pinned (OpenSpec.ofChange spfTellsWrong)

/-- 'waymarklaw9.TablesMeet': WHATEVER THE INPUT: true; the input reads as it did. -/
def tablesMeetSpec : ChangeSpec := { name := "tablesMeet", fn := fun _ => fun
  | [d1, d2, d3, d4] => { results := [.lit (.bool true)], args := [d1, d2, d3, d4] }
  | _ => none }
def tablesMeetRow : OpenClaim := { program := "ytkephdahbplhfaa", sum := "0a43f6e6dfdc6207933eeba2d31a9506f1ebaef23d04e55a56eb72b6b6ff0f48", func := "waymark/waymarklaw9.TablesMeet", spec := "tablesMeet", apart := false }
def TablesMeetSaid : Prop := tablesMeetRow.holds Try.pinned (OpenSpec.ofChange tablesMeetSpec)

/-- ITS FALSE NEIGHBOUR: 'it returns false'. Refute it at one input. -/
def tablesMeetWrong : ChangeSpec := { name := "tablesMeet", fn := fun _ => fun
  | [d1, d2, d3, d4] => { results := [.lit (.bool false)], args := [d1, d2, d3, d4] }
  | _ => none }
def TablesMeetWrongFalsely : Prop := tablesMeetRow.holds Try.pinned (OpenSpec.ofChange tablesMeetWrong)

/-- 'waymarklaw9.TablesNext': WHATEVER THE INPUT: true; the input reads as it did. -/
def tablesNextSpec : ChangeSpec := { name := "tablesNext", fn := fun _ => fun
  | [d1, d2, d3] => { results := [.lit (.bool true)], args := [d1, d2, d3] }
  | _ => none }
def tablesNextRow : OpenClaim := { program := "ytkephdahbplhfaa", sum := "0a43f6e6dfdc6207933eeba2d31a9506f1ebaef23d04e55a56eb72b6b6ff0f48", func := "waymark/waymarklaw9.TablesNext", spec := "tablesNext", apart := false }
def TablesNextSaid : Prop := tablesNextRow.holds Try.pinned (OpenSpec.ofChange tablesNextSpec)

/-- ITS FALSE NEIGHBOUR: 'it returns false'. Refute it at one input. -/
def tablesNextWrong : ChangeSpec := { name := "tablesNext", fn := fun _ => fun
  | [d1, d2, d3] => { results := [.lit (.bool false)], args := [d1, d2, d3] }
  | _ => none }
def TablesNextWrongFalsely : Prop := tablesNextRow.holds Try.pinned (OpenSpec.ofChange tablesNextWrong)

/-- 'waymarklaw9.TablesTell': WHATEVER THE INPUT: true; the input reads as it did. -/
def tablesTellSpec : ChangeSpec := { name := "tablesTell", fn := fun _ => fun
  | [d1, d2, d3] => { results := [.lit (.bool true)], args := [d1, d2, d3] }
  | _ => none }
def tablesTellRow : OpenClaim := { program := "ytkephdahbplhfaa", sum := "0a43f6e6dfdc6207933eeba2d31a9506f1ebaef23d04e55a56eb72b6b6ff0f48", func := "waymark/waymarklaw9.TablesTell", spec := "tablesTell", apart := false }
def TablesTellSaid : Prop := tablesTellRow.holds Try.pinned (OpenSpec.ofChange tablesTellSpec)

/-- ITS FALSE NEIGHBOUR: 'it returns false'. Refute it at one input. -/
def tablesTellWrong : ChangeSpec := { name := "tablesTell", fn := fun _ => fun
  | [d1, d2, d3] => { results := [.lit (.bool false)], args := [d1, d2, d3] }
  | _ => none }
def TablesTellWrongFalsely : Prop := tablesTellRow.holds Try.pinned (OpenSpec.ofChange tablesTellWrong)

/- THE SECOND FORM. 'bulk': how many values and letters a reading holds, each counted each time it is reached (what is shared counts as often as it is met; a slice's spare places count too). A statement '..UptoSaid' is the law's where the arguments, and the package variables that the reading takes, are together of bulk at most 1048576: NARROWER than '..Said'. Prove '..Said' where nothing that the law and all that it calls make is longer than what came in: it says more and counts as full. Else prove '..UptoSaid'. A law counts once. -/
mutual
def uptoBulk {H : Type} : DataW H → Nat
  | .lit (.string bytes) => bytes.length + 1
  | .lit _ => 1
  | .nil => 1
  | .ptr d => uptoBulk d + 1
  | .slice elems spare => uptoBulkAll elems + uptoBulkAll spare + 1
  | .agg parts => uptoBulkAll parts + 1
  | .iface _ d => uptoBulk d + 1
  | .map entries => uptoBulkEntries entries + 1
  | .held _ => 1
def uptoBulkAll {H : Type} : List (DataW H) → Nat
  | [] => 0
  | d :: r => uptoBulk d + uptoBulkAll r
def uptoBulkEntries {H : Type} : List (Lit × DataW H) → Nat
  | [] => 0
  | x :: r => uptoBulkEntry x + uptoBulkEntries r
def uptoBulkEntry {H : Type} : Lit × DataW H → Nat
  | (.string bytes, d) => bytes.length + uptoBulk d + 1
  | (_, d) => uptoBulk d + 1
 end
def uptoSmall : (H : Type) → List (DataW H) → Bool := fun _ ds => decide (uptoBulkAll ds ≤ 1048576)
def OpenSpec.upto (s : _root_.Go.ChangeSpec) : _root_.Go.OpenSpec := { _root_.Go.OpenSpec.ofChange s with cond := some uptoSmall }

/-- 'waymarklaw6.GraphTells', WHERE WHAT IT READS IS OF BULK AT MOST 1048576: true; the input reads as it did. -/
def graphTellsUptoRow : OpenClaim := { program := "ytkephdahbplhfaa", sum := "0a43f6e6dfdc6207933eeba2d31a9506f1ebaef23d04e55a56eb72b6b6ff0f48", func := "waymark/waymarklaw6.GraphTells", spec := "graphTells", apart := false, narrowed := true }
def GraphTellsUptoSaid : Prop := graphTellsUptoRow.holds Try.pinned (OpenSpec.upto graphTellsSpec)

/-- 'waymarklaw6.GraphWays', WHERE WHAT IT READS IS OF BULK AT MOST 1048576: true; the input reads as it did. -/
def graphWaysUptoRow : OpenClaim := { program := "ytkephdahbplhfaa", sum := "0a43f6e6dfdc6207933eeba2d31a9506f1ebaef23d04e55a56eb72b6b6ff0f48", func := "waymark/waymarklaw6.GraphWays", spec := "graphWays", apart := false, narrowed := true }
def GraphWaysUptoSaid : Prop := graphWaysUptoRow.holds Try.pinned (OpenSpec.upto graphWaysSpec)

/-- 'waymarklaw6.GraphLimits', WHERE WHAT IT READS IS OF BULK AT MOST 1048576: true; the input reads as it did. -/
def graphLimitsUptoRow : OpenClaim := { program := "ytkephdahbplhfaa", sum := "0a43f6e6dfdc6207933eeba2d31a9506f1ebaef23d04e55a56eb72b6b6ff0f48", func := "waymark/waymarklaw6.GraphLimits", spec := "graphLimits", apart := false, narrowed := true }
def GraphLimitsUptoSaid : Prop := graphLimitsUptoRow.holds Try.pinned (OpenSpec.upto graphLimitsSpec)

/-- 'waymarklaw6.GraphAll', WHERE WHAT IT READS IS OF BULK AT MOST 1048576: true; the input reads as it did. -/
def graphAllUptoRow : OpenClaim := { program := "ytkephdahbplhfaa", sum := "0a43f6e6dfdc6207933eeba2d31a9506f1ebaef23d04e55a56eb72b6b6ff0f48", func := "waymark/waymarklaw6.GraphAll", spec := "graphAll", apart := false, narrowed := true }
def GraphAllUptoSaid : Prop := graphAllUptoRow.holds Try.pinned (OpenSpec.upto graphAllSpec)

/-- 'waymarklaw12.WordsBlank', WHERE WHAT IT READS IS OF BULK AT MOST 1048576: true; the input reads as it did. -/
def wordsBlankUptoRow : OpenClaim := { program := "ytkephdahbplhfaa", sum := "0a43f6e6dfdc6207933eeba2d31a9506f1ebaef23d04e55a56eb72b6b6ff0f48", func := "waymark/waymarklaw12.WordsBlank", spec := "wordsBlank", apart := false, narrowed := true }
def WordsBlankUptoSaid : Prop := wordsBlankUptoRow.holds Try.pinned (OpenSpec.upto wordsBlankSpec)

/-- 'waymarklaw12.WordsWrong', WHERE WHAT IT READS IS OF BULK AT MOST 1048576: true; the input reads as it did. -/
def wordsWrongUptoRow : OpenClaim := { program := "ytkephdahbplhfaa", sum := "0a43f6e6dfdc6207933eeba2d31a9506f1ebaef23d04e55a56eb72b6b6ff0f48", func := "waymark/waymarklaw12.WordsWrong", spec := "wordsWrong", apart := false, narrowed := true }
def WordsWrongUptoSaid : Prop := wordsWrongUptoRow.holds Try.pinned (OpenSpec.upto wordsWrongSpec)

/-- 'waymarklaw8.PruneTells', WHERE WHAT IT READS IS OF BULK AT MOST 1048576: true; the input reads as it did. -/
def pruneTellsUptoRow : OpenClaim := { program := "ytkephdahbplhfaa", sum := "0a43f6e6dfdc6207933eeba2d31a9506f1ebaef23d04e55a56eb72b6b6ff0f48", func := "waymark/waymarklaw8.PruneTells", spec := "pruneTells", unfollowed := true, recurses := true, apart := false, narrowed := true }
def PruneTellsUptoSaid : Prop := pruneTellsUptoRow.holds Try.pinned (OpenSpec.upto pruneTellsSpec)

/-- 'waymarklaw8.PruneMore', WHERE WHAT IT READS IS OF BULK AT MOST 1048576: true; the input reads as it did. -/
def pruneMoreUptoRow : OpenClaim := { program := "ytkephdahbplhfaa", sum := "0a43f6e6dfdc6207933eeba2d31a9506f1ebaef23d04e55a56eb72b6b6ff0f48", func := "waymark/waymarklaw8.PruneMore", spec := "pruneMore", unfollowed := true, recurses := true, apart := false, narrowed := true }
def PruneMoreUptoSaid : Prop := pruneMoreUptoRow.holds Try.pinned (OpenSpec.upto pruneMoreSpec)

/-- 'waymarklaw7.SpfRow', WHERE WHAT IT READS IS OF BULK AT MOST 1048576: true; the input reads as it did. -/
def spfRowUptoRow : OpenClaim := { program := "ytkephdahbplhfaa", sum := "0a43f6e6dfdc6207933eeba2d31a9506f1ebaef23d04e55a56eb72b6b6ff0f48", func := "waymark/waymarklaw7.SpfRow", spec := "spfRow", apart := false, narrowed := true }
def SpfRowUptoSaid : Prop := spfRowUptoRow.holds Try.pinned (OpenSpec.upto spfRowSpec)

/-- 'waymarklaw7.SpfDown', WHERE WHAT IT READS IS OF BULK AT MOST 1048576: true; the input reads as it did. -/
def spfDownUptoRow : OpenClaim := { program := "ytkephdahbplhfaa", sum := "0a43f6e6dfdc6207933eeba2d31a9506f1ebaef23d04e55a56eb72b6b6ff0f48", func := "waymark/waymarklaw7.SpfDown", spec := "spfDown", apart := false, narrowed := true }
def SpfDownUptoSaid : Prop := spfDownUptoRow.holds Try.pinned (OpenSpec.upto spfDownSpec)

/-- 'waymarklaw7.SpfLess', WHERE WHAT IT READS IS OF BULK AT MOST 1048576: true; the input reads as it did. -/
def spfLessUptoRow : OpenClaim := { program := "ytkephdahbplhfaa", sum := "0a43f6e6dfdc6207933eeba2d31a9506f1ebaef23d04e55a56eb72b6b6ff0f48", func := "waymark/waymarklaw7.SpfLess", spec := "spfLess", apart := false, narrowed := true }
def SpfLessUptoSaid : Prop := spfLessUptoRow.holds Try.pinned (OpenSpec.upto spfLessSpec)

/-- 'waymarklaw7.SpfNext', WHERE WHAT IT READS IS OF BULK AT MOST 1048576: true; the input reads as it did. -/
def spfNextUptoRow : OpenClaim := { program := "ytkephdahbplhfaa", sum := "0a43f6e6dfdc6207933eeba2d31a9506f1ebaef23d04e55a56eb72b6b6ff0f48", func := "waymark/waymarklaw7.SpfNext", spec := "spfNext", apart := false, narrowed := true }
def SpfNextUptoSaid : Prop := spfNextUptoRow.holds Try.pinned (OpenSpec.upto spfNextSpec)

/-- 'waymarklaw7.SpfTells', WHERE WHAT IT READS IS OF BULK AT MOST 1048576: true; the input reads as it did. -/
def spfTellsUptoRow : OpenClaim := { program := "ytkephdahbplhfaa", sum := "0a43f6e6dfdc6207933eeba2d31a9506f1ebaef23d04e55a56eb72b6b6ff0f48", func := "waymark/waymarklaw7.SpfTells", spec := "spfTells", apart := false, narrowed := true }
def SpfTellsUptoSaid : Prop := spfTellsUptoRow.holds Try.pinned (OpenSpec.upto spfTellsSpec)

/-- 'waymarklaw9.TablesMeet', WHERE WHAT IT READS IS OF BULK AT MOST 1048576: true; the input reads as it did. -/
def tablesMeetUptoRow : OpenClaim := { program := "ytkephdahbplhfaa", sum := "0a43f6e6dfdc6207933eeba2d31a9506f1ebaef23d04e55a56eb72b6b6ff0f48", func := "waymark/waymarklaw9.TablesMeet", spec := "tablesMeet", apart := false, narrowed := true }
def TablesMeetUptoSaid : Prop := tablesMeetUptoRow.holds Try.pinned (OpenSpec.upto tablesMeetSpec)

/-- 'waymarklaw9.TablesNext', WHERE WHAT IT READS IS OF BULK AT MOST 1048576: true; the input reads as it did. -/
def tablesNextUptoRow : OpenClaim := { program := "ytkephdahbplhfaa", sum := "0a43f6e6dfdc6207933eeba2d31a9506f1ebaef23d04e55a56eb72b6b6ff0f48", func := "waymark/waymarklaw9.TablesNext", spec := "tablesNext", apart := false, narrowed := true }
def TablesNextUptoSaid : Prop := tablesNextUptoRow.holds Try.pinned (OpenSpec.upto tablesNextSpec)

/-- 'waymarklaw9.TablesTell', WHERE WHAT IT READS IS OF BULK AT MOST 1048576: true; the input reads as it did. -/
def tablesTellUptoRow : OpenClaim := { program := "ytkephdahbplhfaa", sum := "0a43f6e6dfdc6207933eeba2d31a9506f1ebaef23d04e55a56eb72b6b6ff0f48", func := "waymark/waymarklaw9.TablesTell", spec := "tablesTell", apart := false, narrowed := true }
def TablesTellUptoSaid : Prop := tablesTellUptoRow.holds Try.pinned (OpenSpec.upto tablesTellSpec)

end Rows
end Go.Proofs.Ytkephdahbplhfaa
