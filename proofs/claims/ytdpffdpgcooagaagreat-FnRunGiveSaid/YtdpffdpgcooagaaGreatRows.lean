/-
  No cell of these rows narrows 'for every input' (looked for: loops, veiled, ifaces, maps, wideKeys, modest, calm, conditions, laid).
  DERIVED. THE GIVEN ROWS OF THIS SEAT. 12 by the template 'for every input the law returns true; each argument reads behind the call as it read before'; 0 by the template 'total and deterministic' (their statements: YtdpffdpgcooagaaGreatTotals.lean).
  GIVEN WITH THE SEED: the statements are not yours to turn. If you find one false, say at which input.
  Laid BY PROGRAM, IN A SANDBOX (cutbox-rows.mjs): the forced cells as the released guide's own fill.sh prints them over the translation db9573adb414c0be… (all of the seat's roots in one cut). By AI agents, Wed Nov 11 2026. No macro, syntax, notation, axiom, sorry.
-/
import Derived.Test.YtdpffdpgcooagaaGreatChecked
import GoSem.Claim
import GoSem.ClaimJoined
import GoSem.ClaimMapViews
import Derived.JoinedTies
import Derived.KernelRfl
namespace Go.Proofs.YtdpffdpgcooagaaGreat
/- THE CELL 'sum', in the pinned program and in every row, IS THE sha256 OF THE DUMP (.gsa) THAT YtdpffdpgcooagaaGreatProg.lean LOADS. Nothing in Lean hashes anything: it is a label: what it is worth is what the hold of that sum in a sandbox is worth. -/
noncomputable def Tryz.pinned : Pinned := { name := "ytdpffdpgcooagaagreat", sum := "db9573adb414c0be8cff96ea7d456796751f8ece462ff6339a31ac3c7f6a6fce", checked := Tryz.checked }
namespace Rows
def none {H : Type} : Left H := { results := [], args := [] }

/-- 'laws.FnRunCode': WHATEVER THE INPUT: true; the input reads as it did. -/
def fnRunCodeSpec : ChangeSpec := { name := "fnRunCode", fn := fun _ => fun
  | [d] => { results := [.lit (.bool true)], args := [d] }
  | _ => none }
def fnRunCodeRow : OpenClaim := { program := "ytdpffdpgcooagaagreat", sum := "db9573adb414c0be8cff96ea7d456796751f8ece462ff6339a31ac3c7f6a6fce", func := "loop.example/errandry/laws.FnRunCode", spec := "fnRunCode", inPlace := ["internal/bytealg.IndexByteString", "internal/bytealg.IndexString"], unfollowed := true, recurses := true, named := ["internal/bytealg.MaxLen"], apart := false }
def FnRunCodeSaid : Prop := fnRunCodeRow.holds Tryz.pinned (OpenSpec.ofChange fnRunCodeSpec)

/-- ITS FALSE NEIGHBOUR: 'it returns false'. Refute it at one input. -/
def fnRunCodeWrong : ChangeSpec := { name := "fnRunCode", fn := fun _ => fun
  | [d] => { results := [.lit (.bool false)], args := [d] }
  | _ => none }
def FnRunCodeWrongFalsely : Prop := fnRunCodeRow.holds Tryz.pinned (OpenSpec.ofChange fnRunCodeWrong)

/-- 'laws.FnRunCut': WHATEVER THE INPUT: true; the input reads as it did. -/
def fnRunCutSpec : ChangeSpec := { name := "fnRunCut", fn := fun _ => fun
  | [d1, d2] => { results := [.lit (.bool true)], args := [d1, d2] }
  | _ => none }
def fnRunCutRow : OpenClaim := { program := "ytdpffdpgcooagaagreat", sum := "db9573adb414c0be8cff96ea7d456796751f8ece462ff6339a31ac3c7f6a6fce", func := "loop.example/errandry/laws.FnRunCut", spec := "fnRunCut", inPlace := ["internal/bytealg.IndexByteString", "internal/bytealg.IndexString"], unfollowed := true, recurses := true, named := ["internal/bytealg.MaxLen"], apart := false }
def FnRunCutSaid : Prop := fnRunCutRow.holds Tryz.pinned (OpenSpec.ofChange fnRunCutSpec)

/-- ITS FALSE NEIGHBOUR: 'it returns false'. Refute it at one input. -/
def fnRunCutWrong : ChangeSpec := { name := "fnRunCut", fn := fun _ => fun
  | [d1, d2] => { results := [.lit (.bool false)], args := [d1, d2] }
  | _ => none }
def FnRunCutWrongFalsely : Prop := fnRunCutRow.holds Tryz.pinned (OpenSpec.ofChange fnRunCutWrong)

/-- 'laws.FnRunSteps': WHATEVER THE INPUT: true; the input reads as it did. -/
def fnRunStepsSpec : ChangeSpec := { name := "fnRunSteps", fn := fun _ => fun
  | [d] => { results := [.lit (.bool true)], args := [d] }
  | _ => none }
def fnRunStepsRow : OpenClaim := { program := "ytdpffdpgcooagaagreat", sum := "db9573adb414c0be8cff96ea7d456796751f8ece462ff6339a31ac3c7f6a6fce", func := "loop.example/errandry/laws.FnRunSteps", spec := "fnRunSteps", inPlace := ["internal/bytealg.IndexByteString", "internal/bytealg.IndexString"], unfollowed := true, recurses := true, named := ["internal/bytealg.MaxLen"], apart := false }
def FnRunStepsSaid : Prop := fnRunStepsRow.holds Tryz.pinned (OpenSpec.ofChange fnRunStepsSpec)

/-- ITS FALSE NEIGHBOUR: 'it returns false'. Refute it at one input. -/
def fnRunStepsWrong : ChangeSpec := { name := "fnRunSteps", fn := fun _ => fun
  | [d] => { results := [.lit (.bool false)], args := [d] }
  | _ => none }
def FnRunStepsWrongFalsely : Prop := fnRunStepsRow.holds Tryz.pinned (OpenSpec.ofChange fnRunStepsWrong)

/-- 'laws.FnRunTime': WHATEVER THE INPUT: true; the input reads as it did. -/
def fnRunTimeSpec : ChangeSpec := { name := "fnRunTime", fn := fun _ => fun
  | [d] => { results := [.lit (.bool true)], args := [d] }
  | _ => none }
def fnRunTimeRow : OpenClaim := { program := "ytdpffdpgcooagaagreat", sum := "db9573adb414c0be8cff96ea7d456796751f8ece462ff6339a31ac3c7f6a6fce", func := "loop.example/errandry/laws.FnRunTime", spec := "fnRunTime", inPlace := ["internal/bytealg.IndexByteString", "internal/bytealg.IndexString"], unfollowed := true, recurses := true, named := ["internal/bytealg.MaxLen"], apart := false }
def FnRunTimeSaid : Prop := fnRunTimeRow.holds Tryz.pinned (OpenSpec.ofChange fnRunTimeSpec)

/-- ITS FALSE NEIGHBOUR: 'it returns false'. Refute it at one input. -/
def fnRunTimeWrong : ChangeSpec := { name := "fnRunTime", fn := fun _ => fun
  | [d] => { results := [.lit (.bool false)], args := [d] }
  | _ => none }
def FnRunTimeWrongFalsely : Prop := fnRunTimeRow.holds Tryz.pinned (OpenSpec.ofChange fnRunTimeWrong)

/-- 'laws.FnRunTurns': WHATEVER THE INPUT: true; the input reads as it did. -/
def fnRunTurnsSpec : ChangeSpec := { name := "fnRunTurns", fn := fun _ => fun
  | [d] => { results := [.lit (.bool true)], args := [d] }
  | _ => none }
def fnRunTurnsRow : OpenClaim := { program := "ytdpffdpgcooagaagreat", sum := "db9573adb414c0be8cff96ea7d456796751f8ece462ff6339a31ac3c7f6a6fce", func := "loop.example/errandry/laws.FnRunTurns", spec := "fnRunTurns", inPlace := ["internal/bytealg.IndexByteString", "internal/bytealg.IndexString"], unfollowed := true, recurses := true, named := ["internal/bytealg.MaxLen"], apart := false }
def FnRunTurnsSaid : Prop := fnRunTurnsRow.holds Tryz.pinned (OpenSpec.ofChange fnRunTurnsSpec)

/-- ITS FALSE NEIGHBOUR: 'it returns false'. Refute it at one input. -/
def fnRunTurnsWrong : ChangeSpec := { name := "fnRunTurns", fn := fun _ => fun
  | [d] => { results := [.lit (.bool false)], args := [d] }
  | _ => none }
def FnRunTurnsWrongFalsely : Prop := fnRunTurnsRow.holds Tryz.pinned (OpenSpec.ofChange fnRunTurnsWrong)

/-- 'laws.FnRunGive': WHATEVER THE INPUT: true; the input reads as it did. -/
def fnRunGiveSpec : ChangeSpec := { name := "fnRunGive", fn := fun _ => fun
  | [d1, d2] => { results := [.lit (.bool true)], args := [d1, d2] }
  | _ => none }
def fnRunGiveRow : OpenClaim := { program := "ytdpffdpgcooagaagreat", sum := "db9573adb414c0be8cff96ea7d456796751f8ece462ff6339a31ac3c7f6a6fce", func := "loop.example/errandry/laws.FnRunGive", spec := "fnRunGive", inPlace := ["internal/bytealg.IndexByteString", "internal/bytealg.IndexString"], unfollowed := true, recurses := true, named := ["internal/bytealg.MaxLen"], apart := false }
def FnRunGiveSaid : Prop := fnRunGiveRow.holds Tryz.pinned (OpenSpec.ofChange fnRunGiveSpec)

/-- ITS FALSE NEIGHBOUR: 'it returns false'. Refute it at one input. -/
def fnRunGiveWrong : ChangeSpec := { name := "fnRunGive", fn := fun _ => fun
  | [d1, d2] => { results := [.lit (.bool false)], args := [d1, d2] }
  | _ => none }
def FnRunGiveWrongFalsely : Prop := fnRunGiveRow.holds Tryz.pinned (OpenSpec.ofChange fnRunGiveWrong)

/-- 'laws.FnRunOrder': WHATEVER THE INPUT: true; the input reads as it did. -/
def fnRunOrderSpec : ChangeSpec := { name := "fnRunOrder", fn := fun _ => fun
  | [d1, d2] => { results := [.lit (.bool true)], args := [d1, d2] }
  | _ => none }
def fnRunOrderRow : OpenClaim := { program := "ytdpffdpgcooagaagreat", sum := "db9573adb414c0be8cff96ea7d456796751f8ece462ff6339a31ac3c7f6a6fce", func := "loop.example/errandry/laws.FnRunOrder", spec := "fnRunOrder", inPlace := ["internal/bytealg.IndexByteString", "internal/bytealg.IndexString"], unfollowed := true, recurses := true, named := ["internal/bytealg.MaxLen"], apart := false }
def FnRunOrderSaid : Prop := fnRunOrderRow.holds Tryz.pinned (OpenSpec.ofChange fnRunOrderSpec)

/-- ITS FALSE NEIGHBOUR: 'it returns false'. Refute it at one input. -/
def fnRunOrderWrong : ChangeSpec := { name := "fnRunOrder", fn := fun _ => fun
  | [d1, d2] => { results := [.lit (.bool false)], args := [d1, d2] }
  | _ => none }
def FnRunOrderWrongFalsely : Prop := fnRunOrderRow.holds Tryz.pinned (OpenSpec.ofChange fnRunOrderWrong)

/-- 'laws.FnRunFirstTurn': WHATEVER THE INPUT: true; the input reads as it did. -/
def fnRunFirstTurnSpec : ChangeSpec := { name := "fnRunFirstTurn", fn := fun _ => fun
  | [d] => { results := [.lit (.bool true)], args := [d] }
  | _ => none }
def fnRunFirstTurnRow : OpenClaim := { program := "ytdpffdpgcooagaagreat", sum := "db9573adb414c0be8cff96ea7d456796751f8ece462ff6339a31ac3c7f6a6fce", func := "loop.example/errandry/laws.FnRunFirstTurn", spec := "fnRunFirstTurn", inPlace := ["internal/bytealg.IndexByteString", "internal/bytealg.IndexString"], unfollowed := true, recurses := true, named := ["internal/bytealg.MaxLen"], apart := false }
def FnRunFirstTurnSaid : Prop := fnRunFirstTurnRow.holds Tryz.pinned (OpenSpec.ofChange fnRunFirstTurnSpec)

/-- ITS FALSE NEIGHBOUR: 'it returns false'. Refute it at one input. -/
def fnRunFirstTurnWrong : ChangeSpec := { name := "fnRunFirstTurn", fn := fun _ => fun
  | [d] => { results := [.lit (.bool false)], args := [d] }
  | _ => none }
def FnRunFirstTurnWrongFalsely : Prop := fnRunFirstTurnRow.holds Tryz.pinned (OpenSpec.ofChange fnRunFirstTurnWrong)

/-- 'laws.FnRunMany': WHATEVER THE INPUT: true; the input reads as it did. -/
def fnRunManySpec : ChangeSpec := { name := "fnRunMany", fn := fun _ => fun
  | [d] => { results := [.lit (.bool true)], args := [d] }
  | _ => none }
def fnRunManyRow : OpenClaim := { program := "ytdpffdpgcooagaagreat", sum := "db9573adb414c0be8cff96ea7d456796751f8ece462ff6339a31ac3c7f6a6fce", func := "loop.example/errandry/laws.FnRunMany", spec := "fnRunMany", inPlace := ["internal/bytealg.IndexByteString", "internal/bytealg.IndexString"], unfollowed := true, recurses := true, named := ["internal/bytealg.MaxLen"], apart := false }
def FnRunManySaid : Prop := fnRunManyRow.holds Tryz.pinned (OpenSpec.ofChange fnRunManySpec)

/-- ITS FALSE NEIGHBOUR: 'it returns false'. Refute it at one input. -/
def fnRunManyWrong : ChangeSpec := { name := "fnRunMany", fn := fun _ => fun
  | [d] => { results := [.lit (.bool false)], args := [d] }
  | _ => none }
def FnRunManyWrongFalsely : Prop := fnRunManyRow.holds Tryz.pinned (OpenSpec.ofChange fnRunManyWrong)

/-- 'laws.FnRunSum': WHATEVER THE INPUT: true; the input reads as it did. -/
def fnRunSumSpec : ChangeSpec := { name := "fnRunSum", fn := fun _ => fun
  | [d] => { results := [.lit (.bool true)], args := [d] }
  | _ => none }
def fnRunSumRow : OpenClaim := { program := "ytdpffdpgcooagaagreat", sum := "db9573adb414c0be8cff96ea7d456796751f8ece462ff6339a31ac3c7f6a6fce", func := "loop.example/errandry/laws.FnRunSum", spec := "fnRunSum", inPlace := ["internal/bytealg.IndexByteString", "internal/bytealg.IndexString"], unfollowed := true, recurses := true, named := ["internal/bytealg.MaxLen"], apart := false }
def FnRunSumSaid : Prop := fnRunSumRow.holds Tryz.pinned (OpenSpec.ofChange fnRunSumSpec)

/-- ITS FALSE NEIGHBOUR: 'it returns false'. Refute it at one input. -/
def fnRunSumWrong : ChangeSpec := { name := "fnRunSum", fn := fun _ => fun
  | [d] => { results := [.lit (.bool false)], args := [d] }
  | _ => none }
def FnRunSumWrongFalsely : Prop := fnRunSumRow.holds Tryz.pinned (OpenSpec.ofChange fnRunSumWrong)

/-- 'laws.FnRunLinks': WHATEVER THE INPUT: true; the input reads as it did. -/
def fnRunLinksSpec : ChangeSpec := { name := "fnRunLinks", fn := fun _ => fun
  | [d] => { results := [.lit (.bool true)], args := [d] }
  | _ => none }
def fnRunLinksRow : OpenClaim := { program := "ytdpffdpgcooagaagreat", sum := "db9573adb414c0be8cff96ea7d456796751f8ece462ff6339a31ac3c7f6a6fce", func := "loop.example/errandry/laws.FnRunLinks", spec := "fnRunLinks", inPlace := ["internal/bytealg.IndexByteString", "internal/bytealg.IndexString"], unfollowed := true, recurses := true, named := ["internal/bytealg.MaxLen"], apart := false }
def FnRunLinksSaid : Prop := fnRunLinksRow.holds Tryz.pinned (OpenSpec.ofChange fnRunLinksSpec)

/-- ITS FALSE NEIGHBOUR: 'it returns false'. Refute it at one input. -/
def fnRunLinksWrong : ChangeSpec := { name := "fnRunLinks", fn := fun _ => fun
  | [d] => { results := [.lit (.bool false)], args := [d] }
  | _ => none }
def FnRunLinksWrongFalsely : Prop := fnRunLinksRow.holds Tryz.pinned (OpenSpec.ofChange fnRunLinksWrong)

/-- 'laws.FnRunSafe': WHATEVER THE INPUT: true; the input reads as it did. -/
def fnRunSafeSpec : ChangeSpec := { name := "fnRunSafe", fn := fun _ => fun
  | [d] => { results := [.lit (.bool true)], args := [d] }
  | _ => none }
def fnRunSafeRow : OpenClaim := { program := "ytdpffdpgcooagaagreat", sum := "db9573adb414c0be8cff96ea7d456796751f8ece462ff6339a31ac3c7f6a6fce", func := "loop.example/errandry/laws.FnRunSafe", spec := "fnRunSafe", inPlace := ["internal/bytealg.IndexByteString", "internal/bytealg.IndexString"], unfollowed := true, recurses := true, named := ["internal/bytealg.MaxLen"], apart := false }
def FnRunSafeSaid : Prop := fnRunSafeRow.holds Tryz.pinned (OpenSpec.ofChange fnRunSafeSpec)

/-- ITS FALSE NEIGHBOUR: 'it returns false'. Refute it at one input. -/
def fnRunSafeWrong : ChangeSpec := { name := "fnRunSafe", fn := fun _ => fun
  | [d] => { results := [.lit (.bool false)], args := [d] }
  | _ => none }
def FnRunSafeWrongFalsely : Prop := fnRunSafeRow.holds Tryz.pinned (OpenSpec.ofChange fnRunSafeWrong)

/- THE SECOND FORM. 'bulk': how many values and letters a reading holds, each counted each time it is reached (what is shared counts as often as it is met; a slice's spare places count too). A statement '..UptoSaid' is the law's where the arguments, and the package variables that the reading takes, are together of bulk at most 1048576: NARROWER than '..Said'. Prove '..Said' where nothing that the law and all that it calls make is longer than what came in: it says more and counts as full. Else prove '..UptoSaid'. A law counts once. -/
mutual
def uptoBulk {H : Type} : DataW H → Nat
  | .lit (.string bytes) => bytes.length + 1
  | .lit _ => 1
  | .nil => 1
  | .ptr d => uptoBulk d + 1
  | .slice elems spare => uptoBulkAll elems + uptoBulkAll spare + 1
  | .agg parts => uptoBulkAll parts + 1
  | .iface _ d => uptoBulk d + 1
  | .map entries => uptoBulkEntries entries + 1
  | .held _ => 1
def uptoBulkAll {H : Type} : List (DataW H) → Nat
  | [] => 0
  | d :: r => uptoBulk d + uptoBulkAll r
def uptoBulkEntries {H : Type} : List (Lit × DataW H) → Nat
  | [] => 0
  | x :: r => uptoBulkEntry x + uptoBulkEntries r
def uptoBulkEntry {H : Type} : Lit × DataW H → Nat
  | (.string bytes, d) => bytes.length + uptoBulk d + 1
  | (_, d) => uptoBulk d + 1
 end
def uptoSmall : (H : Type) → List (DataW H) → Bool := fun _ ds => decide (uptoBulkAll ds ≤ 1048576)
def OpenSpec.upto (s : _root_.Go.ChangeSpec) : _root_.Go.OpenSpec := { _root_.Go.OpenSpec.ofChange s with cond := some uptoSmall }

/-- 'laws.FnRunCode', WHERE WHAT IT READS IS OF BULK AT MOST 1048576: true; the input reads as it did. -/
def fnRunCodeUptoRow : OpenClaim := { program := "ytdpffdpgcooagaagreat", sum := "db9573adb414c0be8cff96ea7d456796751f8ece462ff6339a31ac3c7f6a6fce", func := "loop.example/errandry/laws.FnRunCode", spec := "fnRunCode", inPlace := ["internal/bytealg.IndexByteString", "internal/bytealg.IndexString"], unfollowed := true, recurses := true, named := ["internal/bytealg.MaxLen"], apart := false, narrowed := true }
def FnRunCodeUptoSaid : Prop := fnRunCodeUptoRow.holds Tryz.pinned (OpenSpec.upto fnRunCodeSpec)

/-- 'laws.FnRunCut', WHERE WHAT IT READS IS OF BULK AT MOST 1048576: true; the input reads as it did. -/
def fnRunCutUptoRow : OpenClaim := { program := "ytdpffdpgcooagaagreat", sum := "db9573adb414c0be8cff96ea7d456796751f8ece462ff6339a31ac3c7f6a6fce", func := "loop.example/errandry/laws.FnRunCut", spec := "fnRunCut", inPlace := ["internal/bytealg.IndexByteString", "internal/bytealg.IndexString"], unfollowed := true, recurses := true, named := ["internal/bytealg.MaxLen"], apart := false, narrowed := true }
def FnRunCutUptoSaid : Prop := fnRunCutUptoRow.holds Tryz.pinned (OpenSpec.upto fnRunCutSpec)

/-- 'laws.FnRunSteps', WHERE WHAT IT READS IS OF BULK AT MOST 1048576: true; the input reads as it did. -/
def fnRunStepsUptoRow : OpenClaim := { program := "ytdpffdpgcooagaagreat", sum := "db9573adb414c0be8cff96ea7d456796751f8ece462ff6339a31ac3c7f6a6fce", func := "loop.example/errandry/laws.FnRunSteps", spec := "fnRunSteps", inPlace := ["internal/bytealg.IndexByteString", "internal/bytealg.IndexString"], unfollowed := true, recurses := true, named := ["internal/bytealg.MaxLen"], apart := false, narrowed := true }
def FnRunStepsUptoSaid : Prop := fnRunStepsUptoRow.holds Tryz.pinned (OpenSpec.upto fnRunStepsSpec)

/-- 'laws.FnRunTime', WHERE WHAT IT READS IS OF BULK AT MOST 1048576: true; the input reads as it did. -/
def fnRunTimeUptoRow : OpenClaim := { program := "ytdpffdpgcooagaagreat", sum := "db9573adb414c0be8cff96ea7d456796751f8ece462ff6339a31ac3c7f6a6fce", func := "loop.example/errandry/laws.FnRunTime", spec := "fnRunTime", inPlace := ["internal/bytealg.IndexByteString", "internal/bytealg.IndexString"], unfollowed := true, recurses := true, named := ["internal/bytealg.MaxLen"], apart := false, narrowed := true }
def FnRunTimeUptoSaid : Prop := fnRunTimeUptoRow.holds Tryz.pinned (OpenSpec.upto fnRunTimeSpec)

/-- 'laws.FnRunTurns', WHERE WHAT IT READS IS OF BULK AT MOST 1048576: true; the input reads as it did. -/
def fnRunTurnsUptoRow : OpenClaim := { program := "ytdpffdpgcooagaagreat", sum := "db9573adb414c0be8cff96ea7d456796751f8ece462ff6339a31ac3c7f6a6fce", func := "loop.example/errandry/laws.FnRunTurns", spec := "fnRunTurns", inPlace := ["internal/bytealg.IndexByteString", "internal/bytealg.IndexString"], unfollowed := true, recurses := true, named := ["internal/bytealg.MaxLen"], apart := false, narrowed := true }
def FnRunTurnsUptoSaid : Prop := fnRunTurnsUptoRow.holds Tryz.pinned (OpenSpec.upto fnRunTurnsSpec)

/-- 'laws.FnRunGive', WHERE WHAT IT READS IS OF BULK AT MOST 1048576: true; the input reads as it did. -/
def fnRunGiveUptoRow : OpenClaim := { program := "ytdpffdpgcooagaagreat", sum := "db9573adb414c0be8cff96ea7d456796751f8ece462ff6339a31ac3c7f6a6fce", func := "loop.example/errandry/laws.FnRunGive", spec := "fnRunGive", inPlace := ["internal/bytealg.IndexByteString", "internal/bytealg.IndexString"], unfollowed := true, recurses := true, named := ["internal/bytealg.MaxLen"], apart := false, narrowed := true }
def FnRunGiveUptoSaid : Prop := fnRunGiveUptoRow.holds Tryz.pinned (OpenSpec.upto fnRunGiveSpec)

/-- 'laws.FnRunOrder', WHERE WHAT IT READS IS OF BULK AT MOST 1048576: true; the input reads as it did. -/
def fnRunOrderUptoRow : OpenClaim := { program := "ytdpffdpgcooagaagreat", sum := "db9573adb414c0be8cff96ea7d456796751f8ece462ff6339a31ac3c7f6a6fce", func := "loop.example/errandry/laws.FnRunOrder", spec := "fnRunOrder", inPlace := ["internal/bytealg.IndexByteString", "internal/bytealg.IndexString"], unfollowed := true, recurses := true, named := ["internal/bytealg.MaxLen"], apart := false, narrowed := true }
def FnRunOrderUptoSaid : Prop := fnRunOrderUptoRow.holds Tryz.pinned (OpenSpec.upto fnRunOrderSpec)

/-- 'laws.FnRunFirstTurn', WHERE WHAT IT READS IS OF BULK AT MOST 1048576: true; the input reads as it did. -/
def fnRunFirstTurnUptoRow : OpenClaim := { program := "ytdpffdpgcooagaagreat", sum := "db9573adb414c0be8cff96ea7d456796751f8ece462ff6339a31ac3c7f6a6fce", func := "loop.example/errandry/laws.FnRunFirstTurn", spec := "fnRunFirstTurn", inPlace := ["internal/bytealg.IndexByteString", "internal/bytealg.IndexString"], unfollowed := true, recurses := true, named := ["internal/bytealg.MaxLen"], apart := false, narrowed := true }
def FnRunFirstTurnUptoSaid : Prop := fnRunFirstTurnUptoRow.holds Tryz.pinned (OpenSpec.upto fnRunFirstTurnSpec)

/-- 'laws.FnRunMany', WHERE WHAT IT READS IS OF BULK AT MOST 1048576: true; the input reads as it did. -/
def fnRunManyUptoRow : OpenClaim := { program := "ytdpffdpgcooagaagreat", sum := "db9573adb414c0be8cff96ea7d456796751f8ece462ff6339a31ac3c7f6a6fce", func := "loop.example/errandry/laws.FnRunMany", spec := "fnRunMany", inPlace := ["internal/bytealg.IndexByteString", "internal/bytealg.IndexString"], unfollowed := true, recurses := true, named := ["internal/bytealg.MaxLen"], apart := false, narrowed := true }
def FnRunManyUptoSaid : Prop := fnRunManyUptoRow.holds Tryz.pinned (OpenSpec.upto fnRunManySpec)

/-- 'laws.FnRunSum', WHERE WHAT IT READS IS OF BULK AT MOST 1048576: true; the input reads as it did. -/
def fnRunSumUptoRow : OpenClaim := { program := "ytdpffdpgcooagaagreat", sum := "db9573adb414c0be8cff96ea7d456796751f8ece462ff6339a31ac3c7f6a6fce", func := "loop.example/errandry/laws.FnRunSum", spec := "fnRunSum", inPlace := ["internal/bytealg.IndexByteString", "internal/bytealg.IndexString"], unfollowed := true, recurses := true, named := ["internal/bytealg.MaxLen"], apart := false, narrowed := true }
def FnRunSumUptoSaid : Prop := fnRunSumUptoRow.holds Tryz.pinned (OpenSpec.upto fnRunSumSpec)

/-- 'laws.FnRunLinks', WHERE WHAT IT READS IS OF BULK AT MOST 1048576: true; the input reads as it did. -/
def fnRunLinksUptoRow : OpenClaim := { program := "ytdpffdpgcooagaagreat", sum := "db9573adb414c0be8cff96ea7d456796751f8ece462ff6339a31ac3c7f6a6fce", func := "loop.example/errandry/laws.FnRunLinks", spec := "fnRunLinks", inPlace := ["internal/bytealg.IndexByteString", "internal/bytealg.IndexString"], unfollowed := true, recurses := true, named := ["internal/bytealg.MaxLen"], apart := false, narrowed := true }
def FnRunLinksUptoSaid : Prop := fnRunLinksUptoRow.holds Tryz.pinned (OpenSpec.upto fnRunLinksSpec)

/-- 'laws.FnRunSafe', WHERE WHAT IT READS IS OF BULK AT MOST 1048576: true; the input reads as it did. -/
def fnRunSafeUptoRow : OpenClaim := { program := "ytdpffdpgcooagaagreat", sum := "db9573adb414c0be8cff96ea7d456796751f8ece462ff6339a31ac3c7f6a6fce", func := "loop.example/errandry/laws.FnRunSafe", spec := "fnRunSafe", inPlace := ["internal/bytealg.IndexByteString", "internal/bytealg.IndexString"], unfollowed := true, recurses := true, named := ["internal/bytealg.MaxLen"], apart := false, narrowed := true }
def FnRunSafeUptoSaid : Prop := fnRunSafeUptoRow.holds Tryz.pinned (OpenSpec.upto fnRunSafeSpec)

end Rows
end Go.Proofs.YtdpffdpgcooagaaGreat
