/-
  No cell of these rows narrows 'for every input' (looked for: loops, veiled, ifaces, maps, wideKeys, modest, calm, conditions, laid).
  DERIVED. THE GIVEN ROWS OF THIS SEAT. 13 by the template 'for every input the law returns true; each argument reads behind the call as it read before'; 0 by the template 'total and deterministic' (their statements: YtejmcijcdhoogaaTotals.lean).
  GIVEN WITH THE SEED: the statements are not yours to turn. If you find one false, say at which input.
  Laid BY PROGRAM, IN A SANDBOX (cutbox-rows.mjs): the forced cells as the released guide's own fill.sh prints them over the translation 7194ee1c0ed1f7bc… (all of the seat's roots in one cut). By AI agents, Wed Nov 11 2026. No macro, syntax, notation, axiom, sorry.
-/
import Derived.Test.YtejmcijcdhoogaaChecked
import GoSem.Claim
import GoSem.ClaimJoined
import GoSem.ClaimMapViews
import Derived.JoinedTies
import Derived.KernelRfl
namespace Go.Proofs.Ytejmcijcdhoogaa
/- THE CELL 'sum', in the pinned program and in every row, IS THE sha256 OF THE DUMP (.gsa) THAT YtejmcijcdhoogaaProg.lean LOADS. Nothing in Lean hashes anything: it is a label: what it is worth is what the hold of that sum in a sandbox is worth. -/
noncomputable def Try.pinned : Pinned := { name := "ytejmcijcdhoogaa", sum := "7194ee1c0ed1f7bc07659168d77b0e1b281478eeeb9d00999d737a5cb84a228d", checked := Try.checked }
namespace Rows
def none {H : Type} : Left H := { results := [], args := [] }

/-- 'waymarklaw17.CompileTells': WHATEVER THE INPUT: true; the input reads as it did. -/
def compileTellsSpec : ChangeSpec := { name := "compileTells", fn := fun _ => fun
  | [d1, d2, d3, d4] => { results := [.lit (.bool true)], args := [d1, d2, d3, d4] }
  | _ => none }
def compileTellsRow : OpenClaim := { program := "ytejmcijcdhoogaa", sum := "7194ee1c0ed1f7bc07659168d77b0e1b281478eeeb9d00999d737a5cb84a228d", func := "waymark/waymarklaw17.CompileTells", spec := "compileTells", unfollowed := true, recurses := true, plainKeys := false, apart := false }
def CompileTellsSaid : Prop := compileTellsRow.holds Try.pinned (OpenSpec.ofChange compileTellsSpec)

/-- ITS FALSE NEIGHBOUR: 'it returns false'. Refute it at one input. -/
def compileTellsWrong : ChangeSpec := { name := "compileTells", fn := fun _ => fun
  | [d1, d2, d3, d4] => { results := [.lit (.bool false)], args := [d1, d2, d3, d4] }
  | _ => none }
def CompileTellsWrongFalsely : Prop := compileTellsRow.holds Try.pinned (OpenSpec.ofChange compileTellsWrong)

/-- 'waymarklaw17.CompileNone': WHATEVER THE INPUT: true; the input reads as it did. -/
def compileNoneSpec : ChangeSpec := { name := "compileNone", fn := fun _ => fun
  | [d1, d2, d3, d4] => { results := [.lit (.bool true)], args := [d1, d2, d3, d4] }
  | _ => none }
def compileNoneRow : OpenClaim := { program := "ytejmcijcdhoogaa", sum := "7194ee1c0ed1f7bc07659168d77b0e1b281478eeeb9d00999d737a5cb84a228d", func := "waymark/waymarklaw17.CompileNone", spec := "compileNone", unfollowed := true, recurses := true, plainKeys := false, apart := false }
def CompileNoneSaid : Prop := compileNoneRow.holds Try.pinned (OpenSpec.ofChange compileNoneSpec)

/-- ITS FALSE NEIGHBOUR: 'it returns false'. Refute it at one input. -/
def compileNoneWrong : ChangeSpec := { name := "compileNone", fn := fun _ => fun
  | [d1, d2, d3, d4] => { results := [.lit (.bool false)], args := [d1, d2, d3, d4] }
  | _ => none }
def CompileNoneWrongFalsely : Prop := compileNoneRow.holds Try.pinned (OpenSpec.ofChange compileNoneWrong)

/-- 'waymarklaw17.CompileEdges': WHATEVER THE INPUT: true; the input reads as it did. -/
def compileEdgesSpec : ChangeSpec := { name := "compileEdges", fn := fun _ => fun
  | [d1, d2] => { results := [.lit (.bool true)], args := [d1, d2] }
  | _ => none }
def compileEdgesRow : OpenClaim := { program := "ytejmcijcdhoogaa", sum := "7194ee1c0ed1f7bc07659168d77b0e1b281478eeeb9d00999d737a5cb84a228d", func := "waymark/waymarklaw17.CompileEdges", spec := "compileEdges", unfollowed := true, recurses := true, plainKeys := false, apart := false }
def CompileEdgesSaid : Prop := compileEdgesRow.holds Try.pinned (OpenSpec.ofChange compileEdgesSpec)

/-- ITS FALSE NEIGHBOUR: 'it returns false'. Refute it at one input. -/
def compileEdgesWrong : ChangeSpec := { name := "compileEdges", fn := fun _ => fun
  | [d1, d2] => { results := [.lit (.bool false)], args := [d1, d2] }
  | _ => none }
def CompileEdgesWrongFalsely : Prop := compileEdgesRow.holds Try.pinned (OpenSpec.ofChange compileEdgesWrong)

/-- 'waymarklaw17.CompileDeeper': WHATEVER THE INPUT: true; the input reads as it did. -/
def compileDeeperSpec : ChangeSpec := { name := "compileDeeper", fn := fun _ => fun
  | [d1, d2, d3] => { results := [.lit (.bool true)], args := [d1, d2, d3] }
  | _ => none }
def compileDeeperRow : OpenClaim := { program := "ytejmcijcdhoogaa", sum := "7194ee1c0ed1f7bc07659168d77b0e1b281478eeeb9d00999d737a5cb84a228d", func := "waymark/waymarklaw17.CompileDeeper", spec := "compileDeeper", unfollowed := true, recurses := true, plainKeys := false, apart := false }
def CompileDeeperSaid : Prop := compileDeeperRow.holds Try.pinned (OpenSpec.ofChange compileDeeperSpec)

/-- ITS FALSE NEIGHBOUR: 'it returns false'. Refute it at one input. -/
def compileDeeperWrong : ChangeSpec := { name := "compileDeeper", fn := fun _ => fun
  | [d1, d2, d3] => { results := [.lit (.bool false)], args := [d1, d2, d3] }
  | _ => none }
def CompileDeeperWrongFalsely : Prop := compileDeeperRow.holds Try.pinned (OpenSpec.ofChange compileDeeperWrong)

/-- 'waymarklaw18.RepairTells': WHATEVER THE INPUT: true; the input reads as it did. -/
def repairTellsSpec : ChangeSpec := { name := "repairTells", fn := fun _ => fun
  | [d1, d2, d3, d4] => { results := [.lit (.bool true)], args := [d1, d2, d3, d4] }
  | _ => none }
def repairTellsRow : OpenClaim := { program := "ytejmcijcdhoogaa", sum := "7194ee1c0ed1f7bc07659168d77b0e1b281478eeeb9d00999d737a5cb84a228d", func := "waymark/waymarklaw18.RepairTells", spec := "repairTells", unfollowed := true, recurses := true, plainKeys := false, apart := false }
def RepairTellsSaid : Prop := repairTellsRow.holds Try.pinned (OpenSpec.ofChange repairTellsSpec)

/-- ITS FALSE NEIGHBOUR: 'it returns false'. Refute it at one input. -/
def repairTellsWrong : ChangeSpec := { name := "repairTells", fn := fun _ => fun
  | [d1, d2, d3, d4] => { results := [.lit (.bool false)], args := [d1, d2, d3, d4] }
  | _ => none }
def RepairTellsWrongFalsely : Prop := repairTellsRow.holds Try.pinned (OpenSpec.ofChange repairTellsWrong)

/-- 'waymarklaw18.RepairAvoids': WHATEVER THE INPUT: true; the input reads as it did. -/
def repairAvoidsSpec : ChangeSpec := { name := "repairAvoids", fn := fun _ => fun
  | [d1, d2, d3, d4] => { results := [.lit (.bool true)], args := [d1, d2, d3, d4] }
  | _ => none }
def repairAvoidsRow : OpenClaim := { program := "ytejmcijcdhoogaa", sum := "7194ee1c0ed1f7bc07659168d77b0e1b281478eeeb9d00999d737a5cb84a228d", func := "waymark/waymarklaw18.RepairAvoids", spec := "repairAvoids", unfollowed := true, recurses := true, plainKeys := false, apart := false }
def RepairAvoidsSaid : Prop := repairAvoidsRow.holds Try.pinned (OpenSpec.ofChange repairAvoidsSpec)

/-- ITS FALSE NEIGHBOUR: 'it returns false'. Refute it at one input. -/
def repairAvoidsWrong : ChangeSpec := { name := "repairAvoids", fn := fun _ => fun
  | [d1, d2, d3, d4] => { results := [.lit (.bool false)], args := [d1, d2, d3, d4] }
  | _ => none }
def RepairAvoidsWrongFalsely : Prop := repairAvoidsRow.holds Try.pinned (OpenSpec.ofChange repairAvoidsWrong)

/-- 'waymarklaw18.RepairBridge': WHATEVER THE INPUT: true; the input reads as it did. -/
def repairBridgeSpec : ChangeSpec := { name := "repairBridge", fn := fun _ => fun
  | [d1, d2, d3] => { results := [.lit (.bool true)], args := [d1, d2, d3] }
  | _ => none }
def repairBridgeRow : OpenClaim := { program := "ytejmcijcdhoogaa", sum := "7194ee1c0ed1f7bc07659168d77b0e1b281478eeeb9d00999d737a5cb84a228d", func := "waymark/waymarklaw18.RepairBridge", spec := "repairBridge", unfollowed := true, recurses := true, plainKeys := false, apart := false }
def RepairBridgeSaid : Prop := repairBridgeRow.holds Try.pinned (OpenSpec.ofChange repairBridgeSpec)

/-- ITS FALSE NEIGHBOUR: 'it returns false'. Refute it at one input. -/
def repairBridgeWrong : ChangeSpec := { name := "repairBridge", fn := fun _ => fun
  | [d1, d2, d3] => { results := [.lit (.bool false)], args := [d1, d2, d3] }
  | _ => none }
def RepairBridgeWrongFalsely : Prop := repairBridgeRow.holds Try.pinned (OpenSpec.ofChange repairBridgeWrong)

/-- 'waymarklaw21.WalkTells': WHATEVER THE INPUT: true; the input reads as it did. -/
def walkTellsSpec : ChangeSpec := { name := "walkTells", fn := fun _ => fun
  | [d1, d2, d3, d4, d5, d6, d7] => { results := [.lit (.bool true)], args := [d1, d2, d3, d4, d5, d6, d7] }
  | _ => none }
def walkTellsRow : OpenClaim := { program := "ytejmcijcdhoogaa", sum := "7194ee1c0ed1f7bc07659168d77b0e1b281478eeeb9d00999d737a5cb84a228d", func := "waymark/waymarklaw21.WalkTells", spec := "walkTells", unfollowed := true, recurses := true, plainKeys := false, apart := false }
def WalkTellsSaid : Prop := walkTellsRow.holds Try.pinned (OpenSpec.ofChange walkTellsSpec)

/-- ITS FALSE NEIGHBOUR: 'it returns false'. Refute it at one input. -/
def walkTellsWrong : ChangeSpec := { name := "walkTells", fn := fun _ => fun
  | [d1, d2, d3, d4, d5, d6, d7] => { results := [.lit (.bool false)], args := [d1, d2, d3, d4, d5, d6, d7] }
  | _ => none }
def WalkTellsWrongFalsely : Prop := walkTellsRow.holds Try.pinned (OpenSpec.ofChange walkTellsWrong)

/-- 'waymarklaw21.WalkBest': WHATEVER THE INPUT: true; the input reads as it did. -/
def walkBestSpec : ChangeSpec := { name := "walkBest", fn := fun _ => fun
  | [d1, d2, d3, d4] => { results := [.lit (.bool true)], args := [d1, d2, d3, d4] }
  | _ => none }
def walkBestRow : OpenClaim := { program := "ytejmcijcdhoogaa", sum := "7194ee1c0ed1f7bc07659168d77b0e1b281478eeeb9d00999d737a5cb84a228d", func := "waymark/waymarklaw21.WalkBest", spec := "walkBest", unfollowed := true, recurses := true, plainKeys := false, apart := false }
def WalkBestSaid : Prop := walkBestRow.holds Try.pinned (OpenSpec.ofChange walkBestSpec)

/-- ITS FALSE NEIGHBOUR: 'it returns false'. Refute it at one input. -/
def walkBestWrong : ChangeSpec := { name := "walkBest", fn := fun _ => fun
  | [d1, d2, d3, d4] => { results := [.lit (.bool false)], args := [d1, d2, d3, d4] }
  | _ => none }
def WalkBestWrongFalsely : Prop := walkBestRow.holds Try.pinned (OpenSpec.ofChange walkBestWrong)

/-- 'waymarklaw21.WalkAround': WHATEVER THE INPUT: true; the input reads as it did. -/
def walkAroundSpec : ChangeSpec := { name := "walkAround", fn := fun _ => fun
  | [d1, d2, d3, d4, d5] => { results := [.lit (.bool true)], args := [d1, d2, d3, d4, d5] }
  | _ => none }
def walkAroundRow : OpenClaim := { program := "ytejmcijcdhoogaa", sum := "7194ee1c0ed1f7bc07659168d77b0e1b281478eeeb9d00999d737a5cb84a228d", func := "waymark/waymarklaw21.WalkAround", spec := "walkAround", unfollowed := true, recurses := true, plainKeys := false, apart := false }
def WalkAroundSaid : Prop := walkAroundRow.holds Try.pinned (OpenSpec.ofChange walkAroundSpec)

/-- ITS FALSE NEIGHBOUR: 'it returns false'. Refute it at one input. -/
def walkAroundWrong : ChangeSpec := { name := "walkAround", fn := fun _ => fun
  | [d1, d2, d3, d4, d5] => { results := [.lit (.bool false)], args := [d1, d2, d3, d4, d5] }
  | _ => none }
def WalkAroundWrongFalsely : Prop := walkAroundRow.holds Try.pinned (OpenSpec.ofChange walkAroundWrong)

/-- 'waymarklaw21.WalkHops': WHATEVER THE INPUT: true; the input reads as it did. -/
def walkHopsSpec : ChangeSpec := { name := "walkHops", fn := fun _ => fun
  | [d1, d2, d3, d4, d5, d6] => { results := [.lit (.bool true)], args := [d1, d2, d3, d4, d5, d6] }
  | _ => none }
def walkHopsRow : OpenClaim := { program := "ytejmcijcdhoogaa", sum := "7194ee1c0ed1f7bc07659168d77b0e1b281478eeeb9d00999d737a5cb84a228d", func := "waymark/waymarklaw21.WalkHops", spec := "walkHops", unfollowed := true, recurses := true, plainKeys := false, apart := false }
def WalkHopsSaid : Prop := walkHopsRow.holds Try.pinned (OpenSpec.ofChange walkHopsSpec)

/-- ITS FALSE NEIGHBOUR: 'it returns false'. Refute it at one input. -/
def walkHopsWrong : ChangeSpec := { name := "walkHops", fn := fun _ => fun
  | [d1, d2, d3, d4, d5, d6] => { results := [.lit (.bool false)], args := [d1, d2, d3, d4, d5, d6] }
  | _ => none }
def WalkHopsWrongFalsely : Prop := walkHopsRow.holds Try.pinned (OpenSpec.ofChange walkHopsWrong)

/-- 'waymarklaw21.WalkSpreads': WHATEVER THE INPUT: true; the input reads as it did. -/
def walkSpreadsSpec : ChangeSpec := { name := "walkSpreads", fn := fun _ => fun
  | [d1, d2] => { results := [.lit (.bool true)], args := [d1, d2] }
  | _ => none }
def walkSpreadsRow : OpenClaim := { program := "ytejmcijcdhoogaa", sum := "7194ee1c0ed1f7bc07659168d77b0e1b281478eeeb9d00999d737a5cb84a228d", func := "waymark/waymarklaw21.WalkSpreads", spec := "walkSpreads", unfollowed := true, recurses := true, plainKeys := false, apart := false }
def WalkSpreadsSaid : Prop := walkSpreadsRow.holds Try.pinned (OpenSpec.ofChange walkSpreadsSpec)

/-- ITS FALSE NEIGHBOUR: 'it returns false'. Refute it at one input. -/
def walkSpreadsWrong : ChangeSpec := { name := "walkSpreads", fn := fun _ => fun
  | [d1, d2] => { results := [.lit (.bool false)], args := [d1, d2] }
  | _ => none }
def WalkSpreadsWrongFalsely : Prop := walkSpreadsRow.holds Try.pinned (OpenSpec.ofChange walkSpreadsWrong)

/-- 'waymarklaw21.WalkLabels': WHATEVER THE INPUT: true; the input reads as it did. -/
def walkLabelsSpec : ChangeSpec := { name := "walkLabels", fn := fun _ => fun
  | [d] => { results := [.lit (.bool true)], args := [d] }
  | _ => none }
def walkLabelsRow : OpenClaim := { program := "ytejmcijcdhoogaa", sum := "7194ee1c0ed1f7bc07659168d77b0e1b281478eeeb9d00999d737a5cb84a228d", func := "waymark/waymarklaw21.WalkLabels", spec := "walkLabels", unfollowed := true, recurses := true, plainKeys := false, apart := false }
def WalkLabelsSaid : Prop := walkLabelsRow.holds Try.pinned (OpenSpec.ofChange walkLabelsSpec)

/-- ITS FALSE NEIGHBOUR: 'it returns false'. Refute it at one input. -/
def walkLabelsWrong : ChangeSpec := { name := "walkLabels", fn := fun _ => fun
  | [d] => { results := [.lit (.bool false)], args := [d] }
  | _ => none }
def WalkLabelsWrongFalsely : Prop := walkLabelsRow.holds Try.pinned (OpenSpec.ofChange walkLabelsWrong)

/- THE SECOND FORM. 'bulk': how many values and letters a reading holds, each counted each time it is reached (what is shared counts as often as it is met; a slice's spare places count too). A statement '..UptoSaid' is the law's where the arguments, and the package variables that the reading takes, are together of bulk at most 1048576: NARROWER than '..Said'. Prove '..Said' where nothing that the law and all that it calls make is longer than what came in: it says more and counts as full. Else prove '..UptoSaid'. A law counts once. -/
mutual
def uptoBulk {H : Type} : DataW H → Nat
  | .lit (.string bytes) => bytes.length + 1
  | .lit _ => 1
  | .nil => 1
  | .ptr d => uptoBulk d + 1
  | .slice elems spare => uptoBulkAll elems + uptoBulkAll spare + 1
  | .agg parts => uptoBulkAll parts + 1
  | .iface _ d => uptoBulk d + 1
  | .map entries => uptoBulkEntries entries + 1
  | .held _ => 1
def uptoBulkAll {H : Type} : List (DataW H) → Nat
  | [] => 0
  | d :: r => uptoBulk d + uptoBulkAll r
def uptoBulkEntries {H : Type} : List (Lit × DataW H) → Nat
  | [] => 0
  | x :: r => uptoBulkEntry x + uptoBulkEntries r
def uptoBulkEntry {H : Type} : Lit × DataW H → Nat
  | (.string bytes, d) => bytes.length + uptoBulk d + 1
  | (_, d) => uptoBulk d + 1
 end
def uptoSmall : (H : Type) → List (DataW H) → Bool := fun _ ds => decide (uptoBulkAll ds ≤ 1048576)
def OpenSpec.upto (s : _root_.Go.ChangeSpec) : _root_.Go.OpenSpec := { _root_.Go.OpenSpec.ofChange s with cond := some uptoSmall }

/-- 'waymarklaw17.CompileTells', WHERE WHAT IT READS IS OF BULK AT MOST 1048576: true; the input reads as it did. -/
def compileTellsUptoRow : OpenClaim := { program := "ytejmcijcdhoogaa", sum := "7194ee1c0ed1f7bc07659168d77b0e1b281478eeeb9d00999d737a5cb84a228d", func := "waymark/waymarklaw17.CompileTells", spec := "compileTells", unfollowed := true, recurses := true, plainKeys := false, apart := false, narrowed := true }
def CompileTellsUptoSaid : Prop := compileTellsUptoRow.holds Try.pinned (OpenSpec.upto compileTellsSpec)

/-- 'waymarklaw17.CompileNone', WHERE WHAT IT READS IS OF BULK AT MOST 1048576: true; the input reads as it did. -/
def compileNoneUptoRow : OpenClaim := { program := "ytejmcijcdhoogaa", sum := "7194ee1c0ed1f7bc07659168d77b0e1b281478eeeb9d00999d737a5cb84a228d", func := "waymark/waymarklaw17.CompileNone", spec := "compileNone", unfollowed := true, recurses := true, plainKeys := false, apart := false, narrowed := true }
def CompileNoneUptoSaid : Prop := compileNoneUptoRow.holds Try.pinned (OpenSpec.upto compileNoneSpec)

/-- 'waymarklaw17.CompileEdges', WHERE WHAT IT READS IS OF BULK AT MOST 1048576: true; the input reads as it did. -/
def compileEdgesUptoRow : OpenClaim := { program := "ytejmcijcdhoogaa", sum := "7194ee1c0ed1f7bc07659168d77b0e1b281478eeeb9d00999d737a5cb84a228d", func := "waymark/waymarklaw17.CompileEdges", spec := "compileEdges", unfollowed := true, recurses := true, plainKeys := false, apart := false, narrowed := true }
def CompileEdgesUptoSaid : Prop := compileEdgesUptoRow.holds Try.pinned (OpenSpec.upto compileEdgesSpec)

/-- 'waymarklaw17.CompileDeeper', WHERE WHAT IT READS IS OF BULK AT MOST 1048576: true; the input reads as it did. -/
def compileDeeperUptoRow : OpenClaim := { program := "ytejmcijcdhoogaa", sum := "7194ee1c0ed1f7bc07659168d77b0e1b281478eeeb9d00999d737a5cb84a228d", func := "waymark/waymarklaw17.CompileDeeper", spec := "compileDeeper", unfollowed := true, recurses := true, plainKeys := false, apart := false, narrowed := true }
def CompileDeeperUptoSaid : Prop := compileDeeperUptoRow.holds Try.pinned (OpenSpec.upto compileDeeperSpec)

/-- 'waymarklaw18.RepairTells', WHERE WHAT IT READS IS OF BULK AT MOST 1048576: true; the input reads as it did. -/
def repairTellsUptoRow : OpenClaim := { program := "ytejmcijcdhoogaa", sum := "7194ee1c0ed1f7bc07659168d77b0e1b281478eeeb9d00999d737a5cb84a228d", func := "waymark/waymarklaw18.RepairTells", spec := "repairTells", unfollowed := true, recurses := true, plainKeys := false, apart := false, narrowed := true }
def RepairTellsUptoSaid : Prop := repairTellsUptoRow.holds Try.pinned (OpenSpec.upto repairTellsSpec)

/-- 'waymarklaw18.RepairAvoids', WHERE WHAT IT READS IS OF BULK AT MOST 1048576: true; the input reads as it did. -/
def repairAvoidsUptoRow : OpenClaim := { program := "ytejmcijcdhoogaa", sum := "7194ee1c0ed1f7bc07659168d77b0e1b281478eeeb9d00999d737a5cb84a228d", func := "waymark/waymarklaw18.RepairAvoids", spec := "repairAvoids", unfollowed := true, recurses := true, plainKeys := false, apart := false, narrowed := true }
def RepairAvoidsUptoSaid : Prop := repairAvoidsUptoRow.holds Try.pinned (OpenSpec.upto repairAvoidsSpec)

/-- 'waymarklaw18.RepairBridge', WHERE WHAT IT READS IS OF BULK AT MOST 1048576: true; the input reads as it did. -/
def repairBridgeUptoRow : OpenClaim := { program := "ytejmcijcdhoogaa", sum := "7194ee1c0ed1f7bc07659168d77b0e1b281478eeeb9d00999d737a5cb84a228d", func := "waymark/waymarklaw18.RepairBridge", spec := "repairBridge", unfollowed := true, recurses := true, plainKeys := false, apart := false, narrowed := true }
def RepairBridgeUptoSaid : Prop := repairBridgeUptoRow.holds Try.pinned (OpenSpec.upto repairBridgeSpec)

/-- 'waymarklaw21.WalkTells', WHERE WHAT IT READS IS OF BULK AT MOST 1048576: true; the input reads as it did. -/
def walkTellsUptoRow : OpenClaim := { program := "ytejmcijcdhoogaa", sum := "7194ee1c0ed1f7bc07659168d77b0e1b281478eeeb9d00999d737a5cb84a228d", func := "waymark/waymarklaw21.WalkTells", spec := "walkTells", unfollowed := true, recurses := true, plainKeys := false, apart := false, narrowed := true }
def WalkTellsUptoSaid : Prop := walkTellsUptoRow.holds Try.pinned (OpenSpec.upto walkTellsSpec)

/-- 'waymarklaw21.WalkBest', WHERE WHAT IT READS IS OF BULK AT MOST 1048576: true; the input reads as it did. -/
def walkBestUptoRow : OpenClaim := { program := "ytejmcijcdhoogaa", sum := "7194ee1c0ed1f7bc07659168d77b0e1b281478eeeb9d00999d737a5cb84a228d", func := "waymark/waymarklaw21.WalkBest", spec := "walkBest", unfollowed := true, recurses := true, plainKeys := false, apart := false, narrowed := true }
def WalkBestUptoSaid : Prop := walkBestUptoRow.holds Try.pinned (OpenSpec.upto walkBestSpec)

/-- 'waymarklaw21.WalkAround', WHERE WHAT IT READS IS OF BULK AT MOST 1048576: true; the input reads as it did. -/
def walkAroundUptoRow : OpenClaim := { program := "ytejmcijcdhoogaa", sum := "7194ee1c0ed1f7bc07659168d77b0e1b281478eeeb9d00999d737a5cb84a228d", func := "waymark/waymarklaw21.WalkAround", spec := "walkAround", unfollowed := true, recurses := true, plainKeys := false, apart := false, narrowed := true }
def WalkAroundUptoSaid : Prop := walkAroundUptoRow.holds Try.pinned (OpenSpec.upto walkAroundSpec)

/-- 'waymarklaw21.WalkHops', WHERE WHAT IT READS IS OF BULK AT MOST 1048576: true; the input reads as it did. -/
def walkHopsUptoRow : OpenClaim := { program := "ytejmcijcdhoogaa", sum := "7194ee1c0ed1f7bc07659168d77b0e1b281478eeeb9d00999d737a5cb84a228d", func := "waymark/waymarklaw21.WalkHops", spec := "walkHops", unfollowed := true, recurses := true, plainKeys := false, apart := false, narrowed := true }
def WalkHopsUptoSaid : Prop := walkHopsUptoRow.holds Try.pinned (OpenSpec.upto walkHopsSpec)

/-- 'waymarklaw21.WalkSpreads', WHERE WHAT IT READS IS OF BULK AT MOST 1048576: true; the input reads as it did. -/
def walkSpreadsUptoRow : OpenClaim := { program := "ytejmcijcdhoogaa", sum := "7194ee1c0ed1f7bc07659168d77b0e1b281478eeeb9d00999d737a5cb84a228d", func := "waymark/waymarklaw21.WalkSpreads", spec := "walkSpreads", unfollowed := true, recurses := true, plainKeys := false, apart := false, narrowed := true }
def WalkSpreadsUptoSaid : Prop := walkSpreadsUptoRow.holds Try.pinned (OpenSpec.upto walkSpreadsSpec)

/-- 'waymarklaw21.WalkLabels', WHERE WHAT IT READS IS OF BULK AT MOST 1048576: true; the input reads as it did. -/
def walkLabelsUptoRow : OpenClaim := { program := "ytejmcijcdhoogaa", sum := "7194ee1c0ed1f7bc07659168d77b0e1b281478eeeb9d00999d737a5cb84a228d", func := "waymark/waymarklaw21.WalkLabels", spec := "walkLabels", unfollowed := true, recurses := true, plainKeys := false, apart := false, narrowed := true }
def WalkLabelsUptoSaid : Prop := walkLabelsUptoRow.holds Try.pinned (OpenSpec.upto walkLabelsSpec)

end Rows
end Go.Proofs.Ytejmcijcdhoogaa
