/-
  No cell of these rows narrows 'for every input' (looked for: loops, veiled, ifaces, maps, wideKeys, modest, calm, conditions, laid).
  DERIVED. THE GIVEN ROWS OF THIS SEAT. 9 by the template 'for every input the law returns true; each argument reads behind the call as it read before'; 0 by the template 'total and deterministic' (their statements: YtnbhphjpefagjaaTotals.lean).
  GIVEN WITH THE SEED: the statements are not yours to turn. If you find one false, say at which input.
  Laid BY PROGRAM, IN A SANDBOX (cutbox-rows.mjs): the forced cells as the released guide's own fill.sh prints them over the translation 714c14b55eb3e7b3… (all of the seat's roots in one cut). By AI agents, Wed Nov 11 2026. No macro, syntax, notation, axiom, sorry.
-/
import Derived.Test.YtnbhphjpefagjaaChecked
import GoSem.Claim
import GoSem.ClaimJoined
import GoSem.ClaimMapViews
import Derived.JoinedTies
import Derived.KernelRfl
namespace Go.Proofs.Ytnbhphjpefagjaa
/- THE CELL 'sum', in the pinned program and in every row, IS THE sha256 OF THE DUMP (.gsa) THAT YtnbhphjpefagjaaProg.lean LOADS. Nothing in Lean hashes anything: it is a label: what it is worth is what the hold of that sum in a sandbox is worth. -/
noncomputable def Try.pinned : Pinned := { name := "ytnbhphjpefagjaa", sum := "714c14b55eb3e7b3e5f58a3588503a6c0a9d33da0c66dca5ff374cadcd1c4a92", checked := Try.checked }
namespace Rows
def none {H : Type} : Left H := { results := [], args := [] }

/-- 'warplaw11.LogEncodes': WHATEVER THE INPUT: true; the input reads as it did. -/
def logEncodesSpec : ChangeSpec := { name := "logEncodes", fn := fun _ => fun
  | [d] => { results := [.lit (.bool true)], args := [d] }
  | _ => none }
def logEncodesRow : OpenClaim := { program := "ytnbhphjpefagjaa", sum := "714c14b55eb3e7b3e5f58a3588503a6c0a9d33da0c66dca5ff374cadcd1c4a92", func := "warp/warplaw11.LogEncodes", spec := "logEncodes", unfollowed := true, recurses := true, apart := false }
def LogEncodesSaid : Prop := logEncodesRow.holds Try.pinned (OpenSpec.ofChange logEncodesSpec)

/-- ITS FALSE NEIGHBOUR: 'it returns false'. Refute it at one input. -/
def logEncodesWrong : ChangeSpec := { name := "logEncodes", fn := fun _ => fun
  | [d] => { results := [.lit (.bool false)], args := [d] }
  | _ => none }
def LogEncodesWrongFalsely : Prop := logEncodesRow.holds Try.pinned (OpenSpec.ofChange logEncodesWrong)

/-- 'warplaw11.LogEnds': WHATEVER THE INPUT: true; the input reads as it did. -/
def logEndsSpec : ChangeSpec := { name := "logEnds", fn := fun _ => fun
  | [d] => { results := [.lit (.bool true)], args := [d] }
  | _ => none }
def logEndsRow : OpenClaim := { program := "ytnbhphjpefagjaa", sum := "714c14b55eb3e7b3e5f58a3588503a6c0a9d33da0c66dca5ff374cadcd1c4a92", func := "warp/warplaw11.LogEnds", spec := "logEnds", unfollowed := true, recurses := true, apart := false }
def LogEndsSaid : Prop := logEndsRow.holds Try.pinned (OpenSpec.ofChange logEndsSpec)

/-- ITS FALSE NEIGHBOUR: 'it returns false'. Refute it at one input. -/
def logEndsWrong : ChangeSpec := { name := "logEnds", fn := fun _ => fun
  | [d] => { results := [.lit (.bool false)], args := [d] }
  | _ => none }
def LogEndsWrongFalsely : Prop := logEndsRow.holds Try.pinned (OpenSpec.ofChange logEndsWrong)

/-- 'warplaw11.LogDecodes': WHATEVER THE INPUT: true; the input reads as it did. -/
def logDecodesSpec : ChangeSpec := { name := "logDecodes", fn := fun _ => fun
  | [d] => { results := [.lit (.bool true)], args := [d] }
  | _ => none }
def logDecodesRow : OpenClaim := { program := "ytnbhphjpefagjaa", sum := "714c14b55eb3e7b3e5f58a3588503a6c0a9d33da0c66dca5ff374cadcd1c4a92", func := "warp/warplaw11.LogDecodes", spec := "logDecodes", unfollowed := true, recurses := true, apart := false }
def LogDecodesSaid : Prop := logDecodesRow.holds Try.pinned (OpenSpec.ofChange logDecodesSpec)

/-- ITS FALSE NEIGHBOUR: 'it returns false'. Refute it at one input. -/
def logDecodesWrong : ChangeSpec := { name := "logDecodes", fn := fun _ => fun
  | [d] => { results := [.lit (.bool false)], args := [d] }
  | _ => none }
def LogDecodesWrongFalsely : Prop := logDecodesRow.holds Try.pinned (OpenSpec.ofChange logDecodesWrong)

/-- 'warplaw11.LogSealed': WHATEVER THE INPUT: true; the input reads as it did. -/
def logSealedSpec : ChangeSpec := { name := "logSealed", fn := fun _ => fun
  | [d] => { results := [.lit (.bool true)], args := [d] }
  | _ => none }
def logSealedRow : OpenClaim := { program := "ytnbhphjpefagjaa", sum := "714c14b55eb3e7b3e5f58a3588503a6c0a9d33da0c66dca5ff374cadcd1c4a92", func := "warp/warplaw11.LogSealed", spec := "logSealed", unfollowed := true, recurses := true, apart := false }
def LogSealedSaid : Prop := logSealedRow.holds Try.pinned (OpenSpec.ofChange logSealedSpec)

/-- ITS FALSE NEIGHBOUR: 'it returns false'. Refute it at one input. -/
def logSealedWrong : ChangeSpec := { name := "logSealed", fn := fun _ => fun
  | [d] => { results := [.lit (.bool false)], args := [d] }
  | _ => none }
def LogSealedWrongFalsely : Prop := logSealedRow.holds Try.pinned (OpenSpec.ofChange logSealedWrong)

/-- 'warplaw11.LogSums': WHATEVER THE INPUT: true; the input reads as it did. -/
def logSumsSpec : ChangeSpec := { name := "logSums", fn := fun _ => fun
  | [d] => { results := [.lit (.bool true)], args := [d] }
  | _ => none }
def logSumsRow : OpenClaim := { program := "ytnbhphjpefagjaa", sum := "714c14b55eb3e7b3e5f58a3588503a6c0a9d33da0c66dca5ff374cadcd1c4a92", func := "warp/warplaw11.LogSums", spec := "logSums", unfollowed := true, recurses := true, apart := false }
def LogSumsSaid : Prop := logSumsRow.holds Try.pinned (OpenSpec.ofChange logSumsSpec)

/-- ITS FALSE NEIGHBOUR: 'it returns false'. Refute it at one input. -/
def logSumsWrong : ChangeSpec := { name := "logSums", fn := fun _ => fun
  | [d] => { results := [.lit (.bool false)], args := [d] }
  | _ => none }
def LogSumsWrongFalsely : Prop := logSumsRow.holds Try.pinned (OpenSpec.ofChange logSumsWrong)

/-- 'warplaw11.LogTurns': WHATEVER THE INPUT: true; the input reads as it did. -/
def logTurnsSpec : ChangeSpec := { name := "logTurns", fn := fun _ => fun
  | [d] => { results := [.lit (.bool true)], args := [d] }
  | _ => none }
def logTurnsRow : OpenClaim := { program := "ytnbhphjpefagjaa", sum := "714c14b55eb3e7b3e5f58a3588503a6c0a9d33da0c66dca5ff374cadcd1c4a92", func := "warp/warplaw11.LogTurns", spec := "logTurns", unfollowed := true, recurses := true, apart := false }
def LogTurnsSaid : Prop := logTurnsRow.holds Try.pinned (OpenSpec.ofChange logTurnsSpec)

/-- ITS FALSE NEIGHBOUR: 'it returns false'. Refute it at one input. -/
def logTurnsWrong : ChangeSpec := { name := "logTurns", fn := fun _ => fun
  | [d] => { results := [.lit (.bool false)], args := [d] }
  | _ => none }
def LogTurnsWrongFalsely : Prop := logTurnsRow.holds Try.pinned (OpenSpec.ofChange logTurnsWrong)

/-- 'warplaw11.LogChecks': WHATEVER THE INPUT: true; the input reads as it did. -/
def logChecksSpec : ChangeSpec := { name := "logChecks", fn := fun _ => fun
  | [d1, d2] => { results := [.lit (.bool true)], args := [d1, d2] }
  | _ => none }
def logChecksRow : OpenClaim := { program := "ytnbhphjpefagjaa", sum := "714c14b55eb3e7b3e5f58a3588503a6c0a9d33da0c66dca5ff374cadcd1c4a92", func := "warp/warplaw11.LogChecks", spec := "logChecks", unfollowed := true, recurses := true, apart := false }
def LogChecksSaid : Prop := logChecksRow.holds Try.pinned (OpenSpec.ofChange logChecksSpec)

/-- ITS FALSE NEIGHBOUR: 'it returns false'. Refute it at one input. -/
def logChecksWrong : ChangeSpec := { name := "logChecks", fn := fun _ => fun
  | [d1, d2] => { results := [.lit (.bool false)], args := [d1, d2] }
  | _ => none }
def LogChecksWrongFalsely : Prop := logChecksRow.holds Try.pinned (OpenSpec.ofChange logChecksWrong)

/-- 'warplaw11.LogSteps': WHATEVER THE INPUT: true; the input reads as it did. -/
def logStepsSpec : ChangeSpec := { name := "logSteps", fn := fun _ => fun
  | [d1, d2] => { results := [.lit (.bool true)], args := [d1, d2] }
  | _ => none }
def logStepsRow : OpenClaim := { program := "ytnbhphjpefagjaa", sum := "714c14b55eb3e7b3e5f58a3588503a6c0a9d33da0c66dca5ff374cadcd1c4a92", func := "warp/warplaw11.LogSteps", spec := "logSteps", unfollowed := true, recurses := true, apart := false }
def LogStepsSaid : Prop := logStepsRow.holds Try.pinned (OpenSpec.ofChange logStepsSpec)

/-- ITS FALSE NEIGHBOUR: 'it returns false'. Refute it at one input. -/
def logStepsWrong : ChangeSpec := { name := "logSteps", fn := fun _ => fun
  | [d1, d2] => { results := [.lit (.bool false)], args := [d1, d2] }
  | _ => none }
def LogStepsWrongFalsely : Prop := logStepsRow.holds Try.pinned (OpenSpec.ofChange logStepsWrong)

/-- 'warplaw11.LogBack': WHATEVER THE INPUT: true; the input reads as it did. -/
def logBackSpec : ChangeSpec := { name := "logBack", fn := fun _ => fun
  | [d1, d2, d3] => { results := [.lit (.bool true)], args := [d1, d2, d3] }
  | _ => none }
def logBackRow : OpenClaim := { program := "ytnbhphjpefagjaa", sum := "714c14b55eb3e7b3e5f58a3588503a6c0a9d33da0c66dca5ff374cadcd1c4a92", func := "warp/warplaw11.LogBack", spec := "logBack", unfollowed := true, recurses := true, apart := false }
def LogBackSaid : Prop := logBackRow.holds Try.pinned (OpenSpec.ofChange logBackSpec)

/-- ITS FALSE NEIGHBOUR: 'it returns false'. Refute it at one input. -/
def logBackWrong : ChangeSpec := { name := "logBack", fn := fun _ => fun
  | [d1, d2, d3] => { results := [.lit (.bool false)], args := [d1, d2, d3] }
  | _ => none }
def LogBackWrongFalsely : Prop := logBackRow.holds Try.pinned (OpenSpec.ofChange logBackWrong)

/- THE SECOND FORM. 'bulk': how many values and letters a reading holds, each counted each time it is reached (what is shared counts as often as it is met; a slice's spare places count too). A statement '..UptoSaid' is the law's where the arguments, and the package variables that the reading takes, are together of bulk at most 1048576: NARROWER than '..Said'. Prove '..Said' where nothing that the law and all that it calls make is longer than what came in: it says more and counts as full. Else prove '..UptoSaid'. A law counts once. -/
mutual
def uptoBulk {H : Type} : DataW H → Nat
  | .lit (.string bytes) => bytes.length + 1
  | .lit _ => 1
  | .nil => 1
  | .ptr d => uptoBulk d + 1
  | .slice elems spare => uptoBulkAll elems + uptoBulkAll spare + 1
  | .agg parts => uptoBulkAll parts + 1
  | .iface _ d => uptoBulk d + 1
  | .map entries => uptoBulkEntries entries + 1
  | .held _ => 1
def uptoBulkAll {H : Type} : List (DataW H) → Nat
  | [] => 0
  | d :: r => uptoBulk d + uptoBulkAll r
def uptoBulkEntries {H : Type} : List (Lit × DataW H) → Nat
  | [] => 0
  | x :: r => uptoBulkEntry x + uptoBulkEntries r
def uptoBulkEntry {H : Type} : Lit × DataW H → Nat
  | (.string bytes, d) => bytes.length + uptoBulk d + 1
  | (_, d) => uptoBulk d + 1
 end
def uptoSmall : (H : Type) → List (DataW H) → Bool := fun _ ds => decide (uptoBulkAll ds ≤ 1048576)
def OpenSpec.upto (s : _root_.Go.ChangeSpec) : _root_.Go.OpenSpec := { _root_.Go.OpenSpec.ofChange s with cond := some uptoSmall }

/-- 'warplaw11.LogEncodes', WHERE WHAT IT READS IS OF BULK AT MOST 1048576: true; the input reads as it did. -/
def logEncodesUptoRow : OpenClaim := { program := "ytnbhphjpefagjaa", sum := "714c14b55eb3e7b3e5f58a3588503a6c0a9d33da0c66dca5ff374cadcd1c4a92", func := "warp/warplaw11.LogEncodes", spec := "logEncodes", unfollowed := true, recurses := true, apart := false, narrowed := true }
def LogEncodesUptoSaid : Prop := logEncodesUptoRow.holds Try.pinned (OpenSpec.upto logEncodesSpec)

/-- 'warplaw11.LogEnds', WHERE WHAT IT READS IS OF BULK AT MOST 1048576: true; the input reads as it did. -/
def logEndsUptoRow : OpenClaim := { program := "ytnbhphjpefagjaa", sum := "714c14b55eb3e7b3e5f58a3588503a6c0a9d33da0c66dca5ff374cadcd1c4a92", func := "warp/warplaw11.LogEnds", spec := "logEnds", unfollowed := true, recurses := true, apart := false, narrowed := true }
def LogEndsUptoSaid : Prop := logEndsUptoRow.holds Try.pinned (OpenSpec.upto logEndsSpec)

/-- 'warplaw11.LogDecodes', WHERE WHAT IT READS IS OF BULK AT MOST 1048576: true; the input reads as it did. -/
def logDecodesUptoRow : OpenClaim := { program := "ytnbhphjpefagjaa", sum := "714c14b55eb3e7b3e5f58a3588503a6c0a9d33da0c66dca5ff374cadcd1c4a92", func := "warp/warplaw11.LogDecodes", spec := "logDecodes", unfollowed := true, recurses := true, apart := false, narrowed := true }
def LogDecodesUptoSaid : Prop := logDecodesUptoRow.holds Try.pinned (OpenSpec.upto logDecodesSpec)

/-- 'warplaw11.LogSealed', WHERE WHAT IT READS IS OF BULK AT MOST 1048576: true; the input reads as it did. -/
def logSealedUptoRow : OpenClaim := { program := "ytnbhphjpefagjaa", sum := "714c14b55eb3e7b3e5f58a3588503a6c0a9d33da0c66dca5ff374cadcd1c4a92", func := "warp/warplaw11.LogSealed", spec := "logSealed", unfollowed := true, recurses := true, apart := false, narrowed := true }
def LogSealedUptoSaid : Prop := logSealedUptoRow.holds Try.pinned (OpenSpec.upto logSealedSpec)

/-- 'warplaw11.LogSums', WHERE WHAT IT READS IS OF BULK AT MOST 1048576: true; the input reads as it did. -/
def logSumsUptoRow : OpenClaim := { program := "ytnbhphjpefagjaa", sum := "714c14b55eb3e7b3e5f58a3588503a6c0a9d33da0c66dca5ff374cadcd1c4a92", func := "warp/warplaw11.LogSums", spec := "logSums", unfollowed := true, recurses := true, apart := false, narrowed := true }
def LogSumsUptoSaid : Prop := logSumsUptoRow.holds Try.pinned (OpenSpec.upto logSumsSpec)

/-- 'warplaw11.LogTurns', WHERE WHAT IT READS IS OF BULK AT MOST 1048576: true; the input reads as it did. -/
def logTurnsUptoRow : OpenClaim := { program := "ytnbhphjpefagjaa", sum := "714c14b55eb3e7b3e5f58a3588503a6c0a9d33da0c66dca5ff374cadcd1c4a92", func := "warp/warplaw11.LogTurns", spec := "logTurns", unfollowed := true, recurses := true, apart := false, narrowed := true }
def LogTurnsUptoSaid : Prop := logTurnsUptoRow.holds Try.pinned (OpenSpec.upto logTurnsSpec)

/-- 'warplaw11.LogChecks', WHERE WHAT IT READS IS OF BULK AT MOST 1048576: true; the input reads as it did. -/
def logChecksUptoRow : OpenClaim := { program := "ytnbhphjpefagjaa", sum := "714c14b55eb3e7b3e5f58a3588503a6c0a9d33da0c66dca5ff374cadcd1c4a92", func := "warp/warplaw11.LogChecks", spec := "logChecks", unfollowed := true, recurses := true, apart := false, narrowed := true }
def LogChecksUptoSaid : Prop := logChecksUptoRow.holds Try.pinned (OpenSpec.upto logChecksSpec)

/-- 'warplaw11.LogSteps', WHERE WHAT IT READS IS OF BULK AT MOST 1048576: true; the input reads as it did. -/
def logStepsUptoRow : OpenClaim := { program := "ytnbhphjpefagjaa", sum := "714c14b55eb3e7b3e5f58a3588503a6c0a9d33da0c66dca5ff374cadcd1c4a92", func := "warp/warplaw11.LogSteps", spec := "logSteps", unfollowed := true, recurses := true, apart := false, narrowed := true }
def LogStepsUptoSaid : Prop := logStepsUptoRow.holds Try.pinned (OpenSpec.upto logStepsSpec)

/-- 'warplaw11.LogBack', WHERE WHAT IT READS IS OF BULK AT MOST 1048576: true; the input reads as it did. -/
def logBackUptoRow : OpenClaim := { program := "ytnbhphjpefagjaa", sum := "714c14b55eb3e7b3e5f58a3588503a6c0a9d33da0c66dca5ff374cadcd1c4a92", func := "warp/warplaw11.LogBack", spec := "logBack", unfollowed := true, recurses := true, apart := false, narrowed := true }
def LogBackUptoSaid : Prop := logBackUptoRow.holds Try.pinned (OpenSpec.upto logBackSpec)

end Rows
end Go.Proofs.Ytnbhphjpefagjaa
