/-
  No cell of these rows narrows 'for every input' (looked for: loops, veiled, ifaces, maps, wideKeys, modest, calm, conditions, laid).
  DERIVED. THE GIVEN ROWS OF THIS SEAT. 9 by the template 'for every input the law returns true; each argument reads behind the call as it read before'; 0 by the template 'total and deterministic' (their statements: YtahcjjelamknnaaTotals.lean).
  GIVEN WITH THE SEED: the statements are not yours to turn. If you find one false, say at which input.
  Laid BY PROGRAM, IN A SANDBOX (cutbox-rows.mjs): the forced cells as the released guide's own fill.sh prints them over the translation 06cb46d71277a352… (all of the seat's roots in one cut). By AI agents, Wed Nov 11 2026. No macro, syntax, notation, axiom, sorry.
-/
import Derived.Test.YtahcjjelamknnaaChecked
import GoSem.Claim
import GoSem.ClaimJoined
import GoSem.ClaimMapViews
import Derived.JoinedTies
import Derived.KernelRfl
namespace Go.Proofs.Ytahcjjelamknnaa
/- THE CELL 'sum', in the pinned program and in every row, IS THE sha256 OF THE DUMP (.gsa) THAT YtahcjjelamknnaaProg.lean LOADS. Nothing in Lean hashes anything: it is a label: what it is worth is what the hold of that sum in a sandbox is worth. -/
noncomputable def Try.pinned : Pinned := { name := "ytahcjjelamknnaa", sum := "06cb46d71277a352922a7fbbd6c8323262897003e6afcaeff0abdb51fc79a9a5", checked := Try.checked }
namespace Rows
def none {H : Type} : Left H := { results := [], args := [] }

/-- 'gleanerlaw27.LimitTells': WHATEVER THE INPUT: true; the input reads as it did. -/
def limitTellsSpec : ChangeSpec := { name := "limitTells", fn := fun _ => fun
  | [d1, d2, d3, d4, d5] => { results := [.lit (.bool true)], args := [d1, d2, d3, d4, d5] }
  | _ => none }
def limitTellsRow : OpenClaim := { program := "ytahcjjelamknnaa", sum := "06cb46d71277a352922a7fbbd6c8323262897003e6afcaeff0abdb51fc79a9a5", func := "gleaner/gleanerlaw27.LimitTells", spec := "limitTells", apart := false }
def LimitTellsSaid : Prop := limitTellsRow.holds Try.pinned (OpenSpec.ofChange limitTellsSpec)

/-- ITS FALSE NEIGHBOUR: 'it returns false'. Refute it at one input. -/
def limitTellsWrong : ChangeSpec := { name := "limitTells", fn := fun _ => fun
  | [d1, d2, d3, d4, d5] => { results := [.lit (.bool false)], args := [d1, d2, d3, d4, d5] }
  | _ => none }
def LimitTellsWrongFalsely : Prop := limitTellsRow.holds Try.pinned (OpenSpec.ofChange limitTellsWrong)

/-- 'gleanerlaw27.LimitMore': WHATEVER THE INPUT: true; the input reads as it did. -/
def limitMoreSpec : ChangeSpec := { name := "limitMore", fn := fun _ => fun
  | [d1, d2, d3, d4, d5, d6] => { results := [.lit (.bool true)], args := [d1, d2, d3, d4, d5, d6] }
  | _ => none }
def limitMoreRow : OpenClaim := { program := "ytahcjjelamknnaa", sum := "06cb46d71277a352922a7fbbd6c8323262897003e6afcaeff0abdb51fc79a9a5", func := "gleaner/gleanerlaw27.LimitMore", spec := "limitMore", apart := false }
def LimitMoreSaid : Prop := limitMoreRow.holds Try.pinned (OpenSpec.ofChange limitMoreSpec)

/-- ITS FALSE NEIGHBOUR: 'it returns false'. Refute it at one input. -/
def limitMoreWrong : ChangeSpec := { name := "limitMore", fn := fun _ => fun
  | [d1, d2, d3, d4, d5, d6] => { results := [.lit (.bool false)], args := [d1, d2, d3, d4, d5, d6] }
  | _ => none }
def LimitMoreWrongFalsely : Prop := limitMoreRow.holds Try.pinned (OpenSpec.ofChange limitMoreWrong)

/-- 'gleanerlaw27.LimitEnds': WHATEVER THE INPUT: true; the input reads as it did. -/
def limitEndsSpec : ChangeSpec := { name := "limitEnds", fn := fun _ => fun
  | [d1, d2] => { results := [.lit (.bool true)], args := [d1, d2] }
  | _ => none }
def limitEndsRow : OpenClaim := { program := "ytahcjjelamknnaa", sum := "06cb46d71277a352922a7fbbd6c8323262897003e6afcaeff0abdb51fc79a9a5", func := "gleaner/gleanerlaw27.LimitEnds", spec := "limitEnds", apart := false }
def LimitEndsSaid : Prop := limitEndsRow.holds Try.pinned (OpenSpec.ofChange limitEndsSpec)

/-- ITS FALSE NEIGHBOUR: 'it returns false'. Refute it at one input. -/
def limitEndsWrong : ChangeSpec := { name := "limitEnds", fn := fun _ => fun
  | [d1, d2] => { results := [.lit (.bool false)], args := [d1, d2] }
  | _ => none }
def LimitEndsWrongFalsely : Prop := limitEndsRow.holds Try.pinned (OpenSpec.ofChange limitEndsWrong)

/-- 'gleanerlaw27.LimitFits': WHATEVER THE INPUT: true; the input reads as it did. -/
def limitFitsSpec : ChangeSpec := { name := "limitFits", fn := fun _ => fun
  | [d1, d2, d3] => { results := [.lit (.bool true)], args := [d1, d2, d3] }
  | _ => none }
def limitFitsRow : OpenClaim := { program := "ytahcjjelamknnaa", sum := "06cb46d71277a352922a7fbbd6c8323262897003e6afcaeff0abdb51fc79a9a5", func := "gleaner/gleanerlaw27.LimitFits", spec := "limitFits", apart := false }
def LimitFitsSaid : Prop := limitFitsRow.holds Try.pinned (OpenSpec.ofChange limitFitsSpec)

/-- ITS FALSE NEIGHBOUR: 'it returns false'. Refute it at one input. -/
def limitFitsWrong : ChangeSpec := { name := "limitFits", fn := fun _ => fun
  | [d1, d2, d3] => { results := [.lit (.bool false)], args := [d1, d2, d3] }
  | _ => none }
def LimitFitsWrongFalsely : Prop := limitFitsRow.holds Try.pinned (OpenSpec.ofChange limitFitsWrong)

/-- 'gleanerlaw2.CrcSums': WHATEVER THE INPUT: true; the input reads as it did. -/
def crcSumsSpec : ChangeSpec := { name := "crcSums", fn := fun _ => fun
  | [d] => { results := [.lit (.bool true)], args := [d] }
  | _ => none }
def crcSumsRow : OpenClaim := { program := "ytahcjjelamknnaa", sum := "06cb46d71277a352922a7fbbd6c8323262897003e6afcaeff0abdb51fc79a9a5", func := "gleaner/gleanerlaw2.CrcSums", spec := "crcSums", apart := false }
def CrcSumsSaid : Prop := crcSumsRow.holds Try.pinned (OpenSpec.ofChange crcSumsSpec)

/-- ITS FALSE NEIGHBOUR: 'it returns false'. Refute it at one input. -/
def crcSumsWrong : ChangeSpec := { name := "crcSums", fn := fun _ => fun
  | [d] => { results := [.lit (.bool false)], args := [d] }
  | _ => none }
def CrcSumsWrongFalsely : Prop := crcSumsRow.holds Try.pinned (OpenSpec.ofChange crcSumsWrong)

/-- 'gleanerlaw2.CrcMore': WHATEVER THE INPUT: true; the input reads as it did. -/
def crcMoreSpec : ChangeSpec := { name := "crcMore", fn := fun _ => fun
  | [d1, d2, d3] => { results := [.lit (.bool true)], args := [d1, d2, d3] }
  | _ => none }
def crcMoreRow : OpenClaim := { program := "ytahcjjelamknnaa", sum := "06cb46d71277a352922a7fbbd6c8323262897003e6afcaeff0abdb51fc79a9a5", func := "gleaner/gleanerlaw2.CrcMore", spec := "crcMore", apart := false }
def CrcMoreSaid : Prop := crcMoreRow.holds Try.pinned (OpenSpec.ofChange crcMoreSpec)

/-- ITS FALSE NEIGHBOUR: 'it returns false'. Refute it at one input. -/
def crcMoreWrong : ChangeSpec := { name := "crcMore", fn := fun _ => fun
  | [d1, d2, d3] => { results := [.lit (.bool false)], args := [d1, d2, d3] }
  | _ => none }
def CrcMoreWrongFalsely : Prop := crcMoreRow.holds Try.pinned (OpenSpec.ofChange crcMoreWrong)

/-- 'gleanerlaw2.CrcTurned': WHATEVER THE INPUT: true; the input reads as it did. -/
def crcTurnedSpec : ChangeSpec := { name := "crcTurned", fn := fun _ => fun
  | [d1, d2, d3] => { results := [.lit (.bool true)], args := [d1, d2, d3] }
  | _ => none }
def crcTurnedRow : OpenClaim := { program := "ytahcjjelamknnaa", sum := "06cb46d71277a352922a7fbbd6c8323262897003e6afcaeff0abdb51fc79a9a5", func := "gleaner/gleanerlaw2.CrcTurned", spec := "crcTurned", apart := false }
def CrcTurnedSaid : Prop := crcTurnedRow.holds Try.pinned (OpenSpec.ofChange crcTurnedSpec)

/-- ITS FALSE NEIGHBOUR: 'it returns false'. Refute it at one input. -/
def crcTurnedWrong : ChangeSpec := { name := "crcTurned", fn := fun _ => fun
  | [d1, d2, d3] => { results := [.lit (.bool false)], args := [d1, d2, d3] }
  | _ => none }
def CrcTurnedWrongFalsely : Prop := crcTurnedRow.holds Try.pinned (OpenSpec.ofChange crcTurnedWrong)

/-- 'gleanerlaw2.CrcLinear': WHATEVER THE INPUT: true; the input reads as it did. -/
def crcLinearSpec : ChangeSpec := { name := "crcLinear", fn := fun _ => fun
  | [d1, d2, d3] => { results := [.lit (.bool true)], args := [d1, d2, d3] }
  | _ => none }
def crcLinearRow : OpenClaim := { program := "ytahcjjelamknnaa", sum := "06cb46d71277a352922a7fbbd6c8323262897003e6afcaeff0abdb51fc79a9a5", func := "gleaner/gleanerlaw2.CrcLinear", spec := "crcLinear", apart := false }
def CrcLinearSaid : Prop := crcLinearRow.holds Try.pinned (OpenSpec.ofChange crcLinearSpec)

/-- ITS FALSE NEIGHBOUR: 'it returns false'. Refute it at one input. -/
def crcLinearWrong : ChangeSpec := { name := "crcLinear", fn := fun _ => fun
  | [d1, d2, d3] => { results := [.lit (.bool false)], args := [d1, d2, d3] }
  | _ => none }
def CrcLinearWrongFalsely : Prop := crcLinearRow.holds Try.pinned (OpenSpec.ofChange crcLinearWrong)

/-- 'gleanerlaw2.CrcCuts': WHATEVER THE INPUT: true; the input reads as it did. -/
def crcCutsSpec : ChangeSpec := { name := "crcCuts", fn := fun _ => fun
  | [d1, d2] => { results := [.lit (.bool true)], args := [d1, d2] }
  | _ => none }
def crcCutsRow : OpenClaim := { program := "ytahcjjelamknnaa", sum := "06cb46d71277a352922a7fbbd6c8323262897003e6afcaeff0abdb51fc79a9a5", func := "gleaner/gleanerlaw2.CrcCuts", spec := "crcCuts", apart := false }
def CrcCutsSaid : Prop := crcCutsRow.holds Try.pinned (OpenSpec.ofChange crcCutsSpec)

/-- ITS FALSE NEIGHBOUR: 'it returns false'. Refute it at one input. -/
def crcCutsWrong : ChangeSpec := { name := "crcCuts", fn := fun _ => fun
  | [d1, d2] => { results := [.lit (.bool false)], args := [d1, d2] }
  | _ => none }
def CrcCutsWrongFalsely : Prop := crcCutsRow.holds Try.pinned (OpenSpec.ofChange crcCutsWrong)

/- THE SECOND FORM. 'bulk': how many values and letters a reading holds, each counted each time it is reached (what is shared counts as often as it is met; a slice's spare places count too). A statement '..UptoSaid' is the law's where the arguments, and the package variables that the reading takes, are together of bulk at most 1048576: NARROWER than '..Said'. Prove '..Said' where nothing that the law and all that it calls make is longer than what came in: it says more and counts as full. Else prove '..UptoSaid'. A law counts once. -/
mutual
def uptoBulk {H : Type} : DataW H → Nat
  | .lit (.string bytes) => bytes.length + 1
  | .lit _ => 1
  | .nil => 1
  | .ptr d => uptoBulk d + 1
  | .slice elems spare => uptoBulkAll elems + uptoBulkAll spare + 1
  | .agg parts => uptoBulkAll parts + 1
  | .iface _ d => uptoBulk d + 1
  | .map entries => uptoBulkEntries entries + 1
  | .held _ => 1
def uptoBulkAll {H : Type} : List (DataW H) → Nat
  | [] => 0
  | d :: r => uptoBulk d + uptoBulkAll r
def uptoBulkEntries {H : Type} : List (Lit × DataW H) → Nat
  | [] => 0
  | x :: r => uptoBulkEntry x + uptoBulkEntries r
def uptoBulkEntry {H : Type} : Lit × DataW H → Nat
  | (.string bytes, d) => bytes.length + uptoBulk d + 1
  | (_, d) => uptoBulk d + 1
 end
def uptoSmall : (H : Type) → List (DataW H) → Bool := fun _ ds => decide (uptoBulkAll ds ≤ 1048576)
def OpenSpec.upto (s : _root_.Go.ChangeSpec) : _root_.Go.OpenSpec := { _root_.Go.OpenSpec.ofChange s with cond := some uptoSmall }

/-- 'gleanerlaw27.LimitTells', WHERE WHAT IT READS IS OF BULK AT MOST 1048576: true; the input reads as it did. -/
def limitTellsUptoRow : OpenClaim := { program := "ytahcjjelamknnaa", sum := "06cb46d71277a352922a7fbbd6c8323262897003e6afcaeff0abdb51fc79a9a5", func := "gleaner/gleanerlaw27.LimitTells", spec := "limitTells", apart := false, narrowed := true }
def LimitTellsUptoSaid : Prop := limitTellsUptoRow.holds Try.pinned (OpenSpec.upto limitTellsSpec)

/-- 'gleanerlaw27.LimitMore', WHERE WHAT IT READS IS OF BULK AT MOST 1048576: true; the input reads as it did. -/
def limitMoreUptoRow : OpenClaim := { program := "ytahcjjelamknnaa", sum := "06cb46d71277a352922a7fbbd6c8323262897003e6afcaeff0abdb51fc79a9a5", func := "gleaner/gleanerlaw27.LimitMore", spec := "limitMore", apart := false, narrowed := true }
def LimitMoreUptoSaid : Prop := limitMoreUptoRow.holds Try.pinned (OpenSpec.upto limitMoreSpec)

/-- 'gleanerlaw27.LimitEnds', WHERE WHAT IT READS IS OF BULK AT MOST 1048576: true; the input reads as it did. -/
def limitEndsUptoRow : OpenClaim := { program := "ytahcjjelamknnaa", sum := "06cb46d71277a352922a7fbbd6c8323262897003e6afcaeff0abdb51fc79a9a5", func := "gleaner/gleanerlaw27.LimitEnds", spec := "limitEnds", apart := false, narrowed := true }
def LimitEndsUptoSaid : Prop := limitEndsUptoRow.holds Try.pinned (OpenSpec.upto limitEndsSpec)

/-- 'gleanerlaw27.LimitFits', WHERE WHAT IT READS IS OF BULK AT MOST 1048576: true; the input reads as it did. -/
def limitFitsUptoRow : OpenClaim := { program := "ytahcjjelamknnaa", sum := "06cb46d71277a352922a7fbbd6c8323262897003e6afcaeff0abdb51fc79a9a5", func := "gleaner/gleanerlaw27.LimitFits", spec := "limitFits", apart := false, narrowed := true }
def LimitFitsUptoSaid : Prop := limitFitsUptoRow.holds Try.pinned (OpenSpec.upto limitFitsSpec)

/-- 'gleanerlaw2.CrcSums', WHERE WHAT IT READS IS OF BULK AT MOST 1048576: true; the input reads as it did. -/
def crcSumsUptoRow : OpenClaim := { program := "ytahcjjelamknnaa", sum := "06cb46d71277a352922a7fbbd6c8323262897003e6afcaeff0abdb51fc79a9a5", func := "gleaner/gleanerlaw2.CrcSums", spec := "crcSums", apart := false, narrowed := true }
def CrcSumsUptoSaid : Prop := crcSumsUptoRow.holds Try.pinned (OpenSpec.upto crcSumsSpec)

/-- 'gleanerlaw2.CrcMore', WHERE WHAT IT READS IS OF BULK AT MOST 1048576: true; the input reads as it did. -/
def crcMoreUptoRow : OpenClaim := { program := "ytahcjjelamknnaa", sum := "06cb46d71277a352922a7fbbd6c8323262897003e6afcaeff0abdb51fc79a9a5", func := "gleaner/gleanerlaw2.CrcMore", spec := "crcMore", apart := false, narrowed := true }
def CrcMoreUptoSaid : Prop := crcMoreUptoRow.holds Try.pinned (OpenSpec.upto crcMoreSpec)

/-- 'gleanerlaw2.CrcTurned', WHERE WHAT IT READS IS OF BULK AT MOST 1048576: true; the input reads as it did. -/
def crcTurnedUptoRow : OpenClaim := { program := "ytahcjjelamknnaa", sum := "06cb46d71277a352922a7fbbd6c8323262897003e6afcaeff0abdb51fc79a9a5", func := "gleaner/gleanerlaw2.CrcTurned", spec := "crcTurned", apart := false, narrowed := true }
def CrcTurnedUptoSaid : Prop := crcTurnedUptoRow.holds Try.pinned (OpenSpec.upto crcTurnedSpec)

/-- 'gleanerlaw2.CrcLinear', WHERE WHAT IT READS IS OF BULK AT MOST 1048576: true; the input reads as it did. -/
def crcLinearUptoRow : OpenClaim := { program := "ytahcjjelamknnaa", sum := "06cb46d71277a352922a7fbbd6c8323262897003e6afcaeff0abdb51fc79a9a5", func := "gleaner/gleanerlaw2.CrcLinear", spec := "crcLinear", apart := false, narrowed := true }
def CrcLinearUptoSaid : Prop := crcLinearUptoRow.holds Try.pinned (OpenSpec.upto crcLinearSpec)

/-- 'gleanerlaw2.CrcCuts', WHERE WHAT IT READS IS OF BULK AT MOST 1048576: true; the input reads as it did. -/
def crcCutsUptoRow : OpenClaim := { program := "ytahcjjelamknnaa", sum := "06cb46d71277a352922a7fbbd6c8323262897003e6afcaeff0abdb51fc79a9a5", func := "gleaner/gleanerlaw2.CrcCuts", spec := "crcCuts", apart := false, narrowed := true }
def CrcCutsUptoSaid : Prop := crcCutsUptoRow.holds Try.pinned (OpenSpec.upto crcCutsSpec)

end Rows
end Go.Proofs.Ytahcjjelamknnaa
