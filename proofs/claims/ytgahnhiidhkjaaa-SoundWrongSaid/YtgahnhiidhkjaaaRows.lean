/-
  No cell of these rows narrows 'for every input' (looked for: loops, veiled, ifaces, maps, wideKeys, modest, calm, conditions, laid).
  DERIVED. THE GIVEN ROWS OF THIS SEAT. 9 by the template 'for every input the law returns true; each argument reads behind the call as it read before'; 0 by the template 'total and deterministic' (their statements: YtgahnhiidhkjaaaTotals.lean).
  GIVEN WITH THE SEED: the statements are not yours to turn. If you find one false, say at which input.
  Laid BY PROGRAM, IN A SANDBOX (cutbox-rows.mjs): the forced cells as the released guide's own fill.sh prints them over the translation a8cd6db6a5e3f3f9… (all of the seat's roots in one cut). By AI agents, Wed Nov 11 2026. No macro, syntax, notation, axiom, sorry.
-/
import Derived.Test.YtgahnhiidhkjaaaChecked
import GoSem.Claim
import GoSem.ClaimJoined
import GoSem.ClaimMapViews
import Derived.JoinedTies
import Derived.KernelRfl
namespace Go.Proofs.Ytgahnhiidhkjaaa
/- THE CELL 'sum', in the pinned program and in every row, IS THE sha256 OF THE DUMP (.gsa) THAT YtgahnhiidhkjaaaProg.lean LOADS. Nothing in Lean hashes anything: it is a label: what it is worth is what the hold of that sum in a sandbox is worth. -/
noncomputable def Try.pinned : Pinned := { name := "ytgahnhiidhkjaaa", sum := "a8cd6db6a5e3f3f9bb794dc7ceb87d8d403895cc79b62e61268bd356c726d352", checked := Try.checked }
namespace Rows
def none {H : Type} : Left H := { results := [], args := [] }

/-- 'waymarklaw20.ClassifyTells': WHATEVER THE INPUT: true; the input reads as it did. -/
def classifyTellsSpec : ChangeSpec := { name := "classifyTells", fn := fun _ => fun
  | [d1, d2, d3] => { results := [.lit (.bool true)], args := [d1, d2, d3] }
  | _ => none }
def classifyTellsRow : OpenClaim := { program := "ytgahnhiidhkjaaa", sum := "a8cd6db6a5e3f3f9bb794dc7ceb87d8d403895cc79b62e61268bd356c726d352", func := "waymark/waymarklaw20.ClassifyTells", spec := "classifyTells", unfollowed := true, recurses := true, apart := false }
def ClassifyTellsSaid : Prop := classifyTellsRow.holds Try.pinned (OpenSpec.ofChange classifyTellsSpec)

/-- ITS FALSE NEIGHBOUR: 'it returns false'. Refute it at one input. -/
def classifyTellsWrong : ChangeSpec := { name := "classifyTells", fn := fun _ => fun
  | [d1, d2, d3] => { results := [.lit (.bool false)], args := [d1, d2, d3] }
  | _ => none }
def ClassifyTellsWrongFalsely : Prop := classifyTellsRow.holds Try.pinned (OpenSpec.ofChange classifyTellsWrong)

/-- 'waymarklaw20.ClassifyFirst': WHATEVER THE INPUT: true; the input reads as it did. -/
def classifyFirstSpec : ChangeSpec := { name := "classifyFirst", fn := fun _ => fun
  | [d1, d2, d3] => { results := [.lit (.bool true)], args := [d1, d2, d3] }
  | _ => none }
def classifyFirstRow : OpenClaim := { program := "ytgahnhiidhkjaaa", sum := "a8cd6db6a5e3f3f9bb794dc7ceb87d8d403895cc79b62e61268bd356c726d352", func := "waymark/waymarklaw20.ClassifyFirst", spec := "classifyFirst", unfollowed := true, recurses := true, apart := false }
def ClassifyFirstSaid : Prop := classifyFirstRow.holds Try.pinned (OpenSpec.ofChange classifyFirstSpec)

/-- ITS FALSE NEIGHBOUR: 'it returns false'. Refute it at one input. -/
def classifyFirstWrong : ChangeSpec := { name := "classifyFirst", fn := fun _ => fun
  | [d1, d2, d3] => { results := [.lit (.bool false)], args := [d1, d2, d3] }
  | _ => none }
def ClassifyFirstWrongFalsely : Prop := classifyFirstRow.holds Try.pinned (OpenSpec.ofChange classifyFirstWrong)

/-- 'waymarklaw15.OptLeast': WHATEVER THE INPUT: true; the input reads as it did. -/
def optLeastSpec : ChangeSpec := { name := "optLeast", fn := fun _ => fun
  | [d1, d2, d3, d4] => { results := [.lit (.bool true)], args := [d1, d2, d3, d4] }
  | _ => none }
def optLeastRow : OpenClaim := { program := "ytgahnhiidhkjaaa", sum := "a8cd6db6a5e3f3f9bb794dc7ceb87d8d403895cc79b62e61268bd356c726d352", func := "waymark/waymarklaw15.OptLeast", spec := "optLeast", unfollowed := true, recurses := true, apart := false }
def OptLeastSaid : Prop := optLeastRow.holds Try.pinned (OpenSpec.ofChange optLeastSpec)

/-- ITS FALSE NEIGHBOUR: 'it returns false'. Refute it at one input. -/
def optLeastWrong : ChangeSpec := { name := "optLeast", fn := fun _ => fun
  | [d1, d2, d3, d4] => { results := [.lit (.bool false)], args := [d1, d2, d3, d4] }
  | _ => none }
def OptLeastWrongFalsely : Prop := optLeastRow.holds Try.pinned (OpenSpec.ofChange optLeastWrong)

/-- 'waymarklaw15.OptVia': WHATEVER THE INPUT: true; the input reads as it did. -/
def optViaSpec : ChangeSpec := { name := "optVia", fn := fun _ => fun
  | [d1, d2, d3] => { results := [.lit (.bool true)], args := [d1, d2, d3] }
  | _ => none }
def optViaRow : OpenClaim := { program := "ytgahnhiidhkjaaa", sum := "a8cd6db6a5e3f3f9bb794dc7ceb87d8d403895cc79b62e61268bd356c726d352", func := "waymark/waymarklaw15.OptVia", spec := "optVia", unfollowed := true, recurses := true, apart := false }
def OptViaSaid : Prop := optViaRow.holds Try.pinned (OpenSpec.ofChange optViaSpec)

/-- ITS FALSE NEIGHBOUR: 'it returns false'. Refute it at one input. -/
def optViaWrong : ChangeSpec := { name := "optVia", fn := fun _ => fun
  | [d1, d2, d3] => { results := [.lit (.bool false)], args := [d1, d2, d3] }
  | _ => none }
def OptViaWrongFalsely : Prop := optViaRow.holds Try.pinned (OpenSpec.ofChange optViaWrong)

/-- 'waymarklaw15.OptTells': WHATEVER THE INPUT: true; the input reads as it did. -/
def optTellsSpec : ChangeSpec := { name := "optTells", fn := fun _ => fun
  | [d1, d2, d3, d4, d5] => { results := [.lit (.bool true)], args := [d1, d2, d3, d4, d5] }
  | _ => none }
def optTellsRow : OpenClaim := { program := "ytgahnhiidhkjaaa", sum := "a8cd6db6a5e3f3f9bb794dc7ceb87d8d403895cc79b62e61268bd356c726d352", func := "waymark/waymarklaw15.OptTells", spec := "optTells", unfollowed := true, recurses := true, apart := false }
def OptTellsSaid : Prop := optTellsRow.holds Try.pinned (OpenSpec.ofChange optTellsSpec)

/-- ITS FALSE NEIGHBOUR: 'it returns false'. Refute it at one input. -/
def optTellsWrong : ChangeSpec := { name := "optTells", fn := fun _ => fun
  | [d1, d2, d3, d4, d5] => { results := [.lit (.bool false)], args := [d1, d2, d3, d4, d5] }
  | _ => none }
def OptTellsWrongFalsely : Prop := optTellsRow.holds Try.pinned (OpenSpec.ofChange optTellsWrong)

/-- 'waymarklaw15.OptBest': WHATEVER THE INPUT: true; the input reads as it did. -/
def optBestSpec : ChangeSpec := { name := "optBest", fn := fun _ => fun
  | [d1, d2, d3, d4] => { results := [.lit (.bool true)], args := [d1, d2, d3, d4] }
  | _ => none }
def optBestRow : OpenClaim := { program := "ytgahnhiidhkjaaa", sum := "a8cd6db6a5e3f3f9bb794dc7ceb87d8d403895cc79b62e61268bd356c726d352", func := "waymark/waymarklaw15.OptBest", spec := "optBest", unfollowed := true, recurses := true, apart := false }
def OptBestSaid : Prop := optBestRow.holds Try.pinned (OpenSpec.ofChange optBestSpec)

/-- ITS FALSE NEIGHBOUR: 'it returns false'. Refute it at one input. -/
def optBestWrong : ChangeSpec := { name := "optBest", fn := fun _ => fun
  | [d1, d2, d3, d4] => { results := [.lit (.bool false)], args := [d1, d2, d3, d4] }
  | _ => none }
def OptBestWrongFalsely : Prop := optBestRow.holds Try.pinned (OpenSpec.ofChange optBestWrong)

/-- 'waymarklaw14.SoundTells': WHATEVER THE INPUT: true; the input reads as it did. -/
def soundTellsSpec : ChangeSpec := { name := "soundTells", fn := fun _ => fun
  | [d1, d2, d3] => { results := [.lit (.bool true)], args := [d1, d2, d3] }
  | _ => none }
def soundTellsRow : OpenClaim := { program := "ytgahnhiidhkjaaa", sum := "a8cd6db6a5e3f3f9bb794dc7ceb87d8d403895cc79b62e61268bd356c726d352", func := "waymark/waymarklaw14.SoundTells", spec := "soundTells", unfollowed := true, recurses := true, apart := false }
def SoundTellsSaid : Prop := soundTellsRow.holds Try.pinned (OpenSpec.ofChange soundTellsSpec)

/-- ITS FALSE NEIGHBOUR: 'it returns false'. Refute it at one input. -/
def soundTellsWrong : ChangeSpec := { name := "soundTells", fn := fun _ => fun
  | [d1, d2, d3] => { results := [.lit (.bool false)], args := [d1, d2, d3] }
  | _ => none }
def SoundTellsWrongFalsely : Prop := soundTellsRow.holds Try.pinned (OpenSpec.ofChange soundTellsWrong)

/-- 'waymarklaw14.SoundOrder': WHATEVER THE INPUT: true; the input reads as it did. -/
def soundOrderSpec : ChangeSpec := { name := "soundOrder", fn := fun _ => fun
  | [d1, d2, d3] => { results := [.lit (.bool true)], args := [d1, d2, d3] }
  | _ => none }
def soundOrderRow : OpenClaim := { program := "ytgahnhiidhkjaaa", sum := "a8cd6db6a5e3f3f9bb794dc7ceb87d8d403895cc79b62e61268bd356c726d352", func := "waymark/waymarklaw14.SoundOrder", spec := "soundOrder", unfollowed := true, recurses := true, apart := false }
def SoundOrderSaid : Prop := soundOrderRow.holds Try.pinned (OpenSpec.ofChange soundOrderSpec)

/-- ITS FALSE NEIGHBOUR: 'it returns false'. Refute it at one input. -/
def soundOrderWrong : ChangeSpec := { name := "soundOrder", fn := fun _ => fun
  | [d1, d2, d3] => { results := [.lit (.bool false)], args := [d1, d2, d3] }
  | _ => none }
def SoundOrderWrongFalsely : Prop := soundOrderRow.holds Try.pinned (OpenSpec.ofChange soundOrderWrong)

/-- 'waymarklaw14.SoundWrong': WHATEVER THE INPUT: true; the input reads as it did. -/
def soundWrongSpec : ChangeSpec := { name := "soundWrong", fn := fun _ => fun
  | [d1, d2] => { results := [.lit (.bool true)], args := [d1, d2] }
  | _ => none }
def soundWrongRow : OpenClaim := { program := "ytgahnhiidhkjaaa", sum := "a8cd6db6a5e3f3f9bb794dc7ceb87d8d403895cc79b62e61268bd356c726d352", func := "waymark/waymarklaw14.SoundWrong", spec := "soundWrong", unfollowed := true, recurses := true, apart := false }
def SoundWrongSaid : Prop := soundWrongRow.holds Try.pinned (OpenSpec.ofChange soundWrongSpec)

/-- ITS FALSE NEIGHBOUR: 'it returns false'. Refute it at one input. -/
def soundWrongWrong : ChangeSpec := { name := "soundWrong", fn := fun _ => fun
  | [d1, d2] => { results := [.lit (.bool false)], args := [d1, d2] }
  | _ => none }
def SoundWrongWrongFalsely : Prop := soundWrongRow.holds Try.pinned (OpenSpec.ofChange soundWrongWrong)

/- THE SECOND FORM. 'bulk': how many values and letters a reading holds, each counted each time it is reached (what is shared counts as often as it is met; a slice's spare places count too). A statement '..UptoSaid' is the law's where the arguments, and the package variables that the reading takes, are together of bulk at most 1048576: NARROWER than '..Said'. Prove '..Said' where nothing that the law and all that it calls make is longer than what came in: it says more and counts as full. Else prove '..UptoSaid'. A law counts once. -/
mutual
def uptoBulk {H : Type} : DataW H → Nat
  | .lit (.string bytes) => bytes.length + 1
  | .lit _ => 1
  | .nil => 1
  | .ptr d => uptoBulk d + 1
  | .slice elems spare => uptoBulkAll elems + uptoBulkAll spare + 1
  | .agg parts => uptoBulkAll parts + 1
  | .iface _ d => uptoBulk d + 1
  | .map entries => uptoBulkEntries entries + 1
  | .held _ => 1
def uptoBulkAll {H : Type} : List (DataW H) → Nat
  | [] => 0
  | d :: r => uptoBulk d + uptoBulkAll r
def uptoBulkEntries {H : Type} : List (Lit × DataW H) → Nat
  | [] => 0
  | x :: r => uptoBulkEntry x + uptoBulkEntries r
def uptoBulkEntry {H : Type} : Lit × DataW H → Nat
  | (.string bytes, d) => bytes.length + uptoBulk d + 1
  | (_, d) => uptoBulk d + 1
 end
def uptoSmall : (H : Type) → List (DataW H) → Bool := fun _ ds => decide (uptoBulkAll ds ≤ 1048576)
def OpenSpec.upto (s : _root_.Go.ChangeSpec) : _root_.Go.OpenSpec := { _root_.Go.OpenSpec.ofChange s with cond := some uptoSmall }

/-- 'waymarklaw20.ClassifyTells', WHERE WHAT IT READS IS OF BULK AT MOST 1048576: true; the input reads as it did. -/
def classifyTellsUptoRow : OpenClaim := { program := "ytgahnhiidhkjaaa", sum := "a8cd6db6a5e3f3f9bb794dc7ceb87d8d403895cc79b62e61268bd356c726d352", func := "waymark/waymarklaw20.ClassifyTells", spec := "classifyTells", unfollowed := true, recurses := true, apart := false, narrowed := true }
def ClassifyTellsUptoSaid : Prop := classifyTellsUptoRow.holds Try.pinned (OpenSpec.upto classifyTellsSpec)

/-- 'waymarklaw20.ClassifyFirst', WHERE WHAT IT READS IS OF BULK AT MOST 1048576: true; the input reads as it did. -/
def classifyFirstUptoRow : OpenClaim := { program := "ytgahnhiidhkjaaa", sum := "a8cd6db6a5e3f3f9bb794dc7ceb87d8d403895cc79b62e61268bd356c726d352", func := "waymark/waymarklaw20.ClassifyFirst", spec := "classifyFirst", unfollowed := true, recurses := true, apart := false, narrowed := true }
def ClassifyFirstUptoSaid : Prop := classifyFirstUptoRow.holds Try.pinned (OpenSpec.upto classifyFirstSpec)

/-- 'waymarklaw15.OptLeast', WHERE WHAT IT READS IS OF BULK AT MOST 1048576: true; the input reads as it did. -/
def optLeastUptoRow : OpenClaim := { program := "ytgahnhiidhkjaaa", sum := "a8cd6db6a5e3f3f9bb794dc7ceb87d8d403895cc79b62e61268bd356c726d352", func := "waymark/waymarklaw15.OptLeast", spec := "optLeast", unfollowed := true, recurses := true, apart := false, narrowed := true }
def OptLeastUptoSaid : Prop := optLeastUptoRow.holds Try.pinned (OpenSpec.upto optLeastSpec)

/-- 'waymarklaw15.OptVia', WHERE WHAT IT READS IS OF BULK AT MOST 1048576: true; the input reads as it did. -/
def optViaUptoRow : OpenClaim := { program := "ytgahnhiidhkjaaa", sum := "a8cd6db6a5e3f3f9bb794dc7ceb87d8d403895cc79b62e61268bd356c726d352", func := "waymark/waymarklaw15.OptVia", spec := "optVia", unfollowed := true, recurses := true, apart := false, narrowed := true }
def OptViaUptoSaid : Prop := optViaUptoRow.holds Try.pinned (OpenSpec.upto optViaSpec)

/-- 'waymarklaw15.OptTells', WHERE WHAT IT READS IS OF BULK AT MOST 1048576: true; the input reads as it did. -/
def optTellsUptoRow : OpenClaim := { program := "ytgahnhiidhkjaaa", sum := "a8cd6db6a5e3f3f9bb794dc7ceb87d8d403895cc79b62e61268bd356c726d352", func := "waymark/waymarklaw15.OptTells", spec := "optTells", unfollowed := true, recurses := true, apart := false, narrowed := true }
def OptTellsUptoSaid : Prop := optTellsUptoRow.holds Try.pinned (OpenSpec.upto optTellsSpec)

/-- 'waymarklaw15.OptBest', WHERE WHAT IT READS IS OF BULK AT MOST 1048576: true; the input reads as it did. -/
def optBestUptoRow : OpenClaim := { program := "ytgahnhiidhkjaaa", sum := "a8cd6db6a5e3f3f9bb794dc7ceb87d8d403895cc79b62e61268bd356c726d352", func := "waymark/waymarklaw15.OptBest", spec := "optBest", unfollowed := true, recurses := true, apart := false, narrowed := true }
def OptBestUptoSaid : Prop := optBestUptoRow.holds Try.pinned (OpenSpec.upto optBestSpec)

/-- 'waymarklaw14.SoundTells', WHERE WHAT IT READS IS OF BULK AT MOST 1048576: true; the input reads as it did. -/
def soundTellsUptoRow : OpenClaim := { program := "ytgahnhiidhkjaaa", sum := "a8cd6db6a5e3f3f9bb794dc7ceb87d8d403895cc79b62e61268bd356c726d352", func := "waymark/waymarklaw14.SoundTells", spec := "soundTells", unfollowed := true, recurses := true, apart := false, narrowed := true }
def SoundTellsUptoSaid : Prop := soundTellsUptoRow.holds Try.pinned (OpenSpec.upto soundTellsSpec)

/-- 'waymarklaw14.SoundOrder', WHERE WHAT IT READS IS OF BULK AT MOST 1048576: true; the input reads as it did. -/
def soundOrderUptoRow : OpenClaim := { program := "ytgahnhiidhkjaaa", sum := "a8cd6db6a5e3f3f9bb794dc7ceb87d8d403895cc79b62e61268bd356c726d352", func := "waymark/waymarklaw14.SoundOrder", spec := "soundOrder", unfollowed := true, recurses := true, apart := false, narrowed := true }
def SoundOrderUptoSaid : Prop := soundOrderUptoRow.holds Try.pinned (OpenSpec.upto soundOrderSpec)

/-- 'waymarklaw14.SoundWrong', WHERE WHAT IT READS IS OF BULK AT MOST 1048576: true; the input reads as it did. -/
def soundWrongUptoRow : OpenClaim := { program := "ytgahnhiidhkjaaa", sum := "a8cd6db6a5e3f3f9bb794dc7ceb87d8d403895cc79b62e61268bd356c726d352", func := "waymark/waymarklaw14.SoundWrong", spec := "soundWrong", unfollowed := true, recurses := true, apart := false, narrowed := true }
def SoundWrongUptoSaid : Prop := soundWrongUptoRow.holds Try.pinned (OpenSpec.upto soundWrongSpec)

end Rows
end Go.Proofs.Ytgahnhiidhkjaaa
