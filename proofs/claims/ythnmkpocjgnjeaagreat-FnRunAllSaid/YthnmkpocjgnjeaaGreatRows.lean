/-
  No cell of these rows narrows 'for every input' (looked for: loops, veiled, ifaces, maps, wideKeys, modest, calm, conditions, laid).
  DERIVED. THE GIVEN ROWS OF THIS SEAT. 10 by the template 'for every input the law returns true; each argument reads behind the call as it read before'; 0 by the template 'total and deterministic' (their statements: YthnmkpocjgnjeaaGreatTotals.lean).
  GIVEN WITH THE SEED: the statements are not yours to turn. If you find one false, say at which input.
  Laid BY PROGRAM, IN A SANDBOX (cutbox-rows.mjs): the forced cells as the released guide's own fill.sh prints them over the translation e9842ef162d6f4ca… (all of the seat's roots in one cut). By AI agents, Wed Nov 11 2026. No macro, syntax, notation, axiom, sorry.
-/
import Derived.Test.YthnmkpocjgnjeaaGreatChecked
import GoSem.Claim
import GoSem.ClaimJoined
import GoSem.ClaimMapViews
import Derived.JoinedTies
import Derived.KernelRfl
namespace Go.Proofs.YthnmkpocjgnjeaaGreat
/- THE CELL 'sum', in the pinned program and in every row, IS THE sha256 OF THE DUMP (.gsa) THAT YthnmkpocjgnjeaaGreatProg.lean LOADS. Nothing in Lean hashes anything: it is a label: what it is worth is what the hold of that sum in a sandbox is worth. -/
noncomputable def Tryz.pinned : Pinned := { name := "ythnmkpocjgnjeaagreat", sum := "e9842ef162d6f4ca423316835b78f50fe011346626d2aa586cb1cb34b021e0af", checked := Tryz.checked }
namespace Rows
def none {H : Type} : Left H := { results := [], args := [] }

/-- 'laws.FnTurnFair': WHATEVER THE INPUT: true; the input reads as it did. -/
def fnTurnFairSpec : ChangeSpec := { name := "fnTurnFair", fn := fun _ => fun
  | [d] => { results := [.lit (.bool true)], args := [d] }
  | _ => none }
def fnTurnFairRow : OpenClaim := { program := "ythnmkpocjgnjeaagreat", sum := "e9842ef162d6f4ca423316835b78f50fe011346626d2aa586cb1cb34b021e0af", func := "loop.example/errandry/laws.FnTurnFair", spec := "fnTurnFair", inPlace := ["internal/bytealg.IndexByteString", "internal/bytealg.IndexString"], unfollowed := true, recurses := true, named := ["internal/bytealg.MaxLen"], apart := false }
def FnTurnFairSaid : Prop := fnTurnFairRow.holds Tryz.pinned (OpenSpec.ofChange fnTurnFairSpec)

/-- ITS FALSE NEIGHBOUR: 'it returns false'. Refute it at one input. -/
def fnTurnFairWrong : ChangeSpec := { name := "fnTurnFair", fn := fun _ => fun
  | [d] => { results := [.lit (.bool false)], args := [d] }
  | _ => none }
def FnTurnFairWrongFalsely : Prop := fnTurnFairRow.holds Tryz.pinned (OpenSpec.ofChange fnTurnFairWrong)

/-- 'laws.FnTurnSteps': WHATEVER THE INPUT: true; the input reads as it did. -/
def fnTurnStepsSpec : ChangeSpec := { name := "fnTurnSteps", fn := fun _ => fun
  | [d] => { results := [.lit (.bool true)], args := [d] }
  | _ => none }
def fnTurnStepsRow : OpenClaim := { program := "ythnmkpocjgnjeaagreat", sum := "e9842ef162d6f4ca423316835b78f50fe011346626d2aa586cb1cb34b021e0af", func := "loop.example/errandry/laws.FnTurnSteps", spec := "fnTurnSteps", inPlace := ["internal/bytealg.IndexByteString", "internal/bytealg.IndexString"], unfollowed := true, recurses := true, named := ["internal/bytealg.MaxLen"], apart := false }
def FnTurnStepsSaid : Prop := fnTurnStepsRow.holds Tryz.pinned (OpenSpec.ofChange fnTurnStepsSpec)

/-- ITS FALSE NEIGHBOUR: 'it returns false'. Refute it at one input. -/
def fnTurnStepsWrong : ChangeSpec := { name := "fnTurnSteps", fn := fun _ => fun
  | [d] => { results := [.lit (.bool false)], args := [d] }
  | _ => none }
def FnTurnStepsWrongFalsely : Prop := fnTurnStepsRow.holds Tryz.pinned (OpenSpec.ofChange fnTurnStepsWrong)

/-- 'laws.FnStepEnd': WHATEVER THE INPUT: true; the input reads as it did. -/
def fnStepEndSpec : ChangeSpec := { name := "fnStepEnd", fn := fun _ => fun
  | [d] => { results := [.lit (.bool true)], args := [d] }
  | _ => none }
def fnStepEndRow : OpenClaim := { program := "ythnmkpocjgnjeaagreat", sum := "e9842ef162d6f4ca423316835b78f50fe011346626d2aa586cb1cb34b021e0af", func := "loop.example/errandry/laws.FnStepEnd", spec := "fnStepEnd", inPlace := ["internal/bytealg.IndexByteString", "internal/bytealg.IndexString"], unfollowed := true, recurses := true, named := ["internal/bytealg.MaxLen"], apart := false }
def FnStepEndSaid : Prop := fnStepEndRow.holds Tryz.pinned (OpenSpec.ofChange fnStepEndSpec)

/-- ITS FALSE NEIGHBOUR: 'it returns false'. Refute it at one input. -/
def fnStepEndWrong : ChangeSpec := { name := "fnStepEnd", fn := fun _ => fun
  | [d] => { results := [.lit (.bool false)], args := [d] }
  | _ => none }
def FnStepEndWrongFalsely : Prop := fnStepEndRow.holds Tryz.pinned (OpenSpec.ofChange fnStepEndWrong)

/-- 'laws.FnStepSend': WHATEVER THE INPUT: true; the input reads as it did. -/
def fnStepSendSpec : ChangeSpec := { name := "fnStepSend", fn := fun _ => fun
  | [d] => { results := [.lit (.bool true)], args := [d] }
  | _ => none }
def fnStepSendRow : OpenClaim := { program := "ythnmkpocjgnjeaagreat", sum := "e9842ef162d6f4ca423316835b78f50fe011346626d2aa586cb1cb34b021e0af", func := "loop.example/errandry/laws.FnStepSend", spec := "fnStepSend", inPlace := ["internal/bytealg.IndexByteString", "internal/bytealg.IndexString"], unfollowed := true, recurses := true, named := ["internal/bytealg.MaxLen"], apart := false }
def FnStepSendSaid : Prop := fnStepSendRow.holds Tryz.pinned (OpenSpec.ofChange fnStepSendSpec)

/-- ITS FALSE NEIGHBOUR: 'it returns false'. Refute it at one input. -/
def fnStepSendWrong : ChangeSpec := { name := "fnStepSend", fn := fun _ => fun
  | [d] => { results := [.lit (.bool false)], args := [d] }
  | _ => none }
def FnStepSendWrongFalsely : Prop := fnStepSendRow.holds Tryz.pinned (OpenSpec.ofChange fnStepSendWrong)

/-- 'laws.FnTurnsCut': WHATEVER THE INPUT: true; the input reads as it did. -/
def fnTurnsCutSpec : ChangeSpec := { name := "fnTurnsCut", fn := fun _ => fun
  | [d1, d2] => { results := [.lit (.bool true)], args := [d1, d2] }
  | _ => none }
def fnTurnsCutRow : OpenClaim := { program := "ythnmkpocjgnjeaagreat", sum := "e9842ef162d6f4ca423316835b78f50fe011346626d2aa586cb1cb34b021e0af", func := "loop.example/errandry/laws.FnTurnsCut", spec := "fnTurnsCut", inPlace := ["internal/bytealg.IndexByteString", "internal/bytealg.IndexString"], unfollowed := true, recurses := true, named := ["internal/bytealg.MaxLen"], apart := false }
def FnTurnsCutSaid : Prop := fnTurnsCutRow.holds Tryz.pinned (OpenSpec.ofChange fnTurnsCutSpec)

/-- ITS FALSE NEIGHBOUR: 'it returns false'. Refute it at one input. -/
def fnTurnsCutWrong : ChangeSpec := { name := "fnTurnsCut", fn := fun _ => fun
  | [d1, d2] => { results := [.lit (.bool false)], args := [d1, d2] }
  | _ => none }
def FnTurnsCutWrongFalsely : Prop := fnTurnsCutRow.holds Tryz.pinned (OpenSpec.ofChange fnTurnsCutWrong)

/-- 'laws.FnDoOk': WHATEVER THE INPUT: true; the input reads as it did. -/
def fnDoOkSpec : ChangeSpec := { name := "fnDoOk", fn := fun _ => fun
  | [d] => { results := [.lit (.bool true)], args := [d] }
  | _ => none }
def fnDoOkRow : OpenClaim := { program := "ythnmkpocjgnjeaagreat", sum := "e9842ef162d6f4ca423316835b78f50fe011346626d2aa586cb1cb34b021e0af", func := "loop.example/errandry/laws.FnDoOk", spec := "fnDoOk", inPlace := ["internal/bytealg.IndexByteString", "internal/bytealg.IndexString"], unfollowed := true, recurses := true, named := ["internal/bytealg.MaxLen"], apart := false }
def FnDoOkSaid : Prop := fnDoOkRow.holds Tryz.pinned (OpenSpec.ofChange fnDoOkSpec)

/-- ITS FALSE NEIGHBOUR: 'it returns false'. Refute it at one input. -/
def fnDoOkWrong : ChangeSpec := { name := "fnDoOk", fn := fun _ => fun
  | [d] => { results := [.lit (.bool false)], args := [d] }
  | _ => none }
def FnDoOkWrongFalsely : Prop := fnDoOkRow.holds Tryz.pinned (OpenSpec.ofChange fnDoOkWrong)

/-- 'laws.FnDoKinds': WHATEVER THE INPUT: true; the input reads as it did. -/
def fnDoKindsSpec : ChangeSpec := { name := "fnDoKinds", fn := fun _ => fun
  | [d] => { results := [.lit (.bool true)], args := [d] }
  | _ => none }
def fnDoKindsRow : OpenClaim := { program := "ythnmkpocjgnjeaagreat", sum := "e9842ef162d6f4ca423316835b78f50fe011346626d2aa586cb1cb34b021e0af", func := "loop.example/errandry/laws.FnDoKinds", spec := "fnDoKinds", inPlace := ["internal/bytealg.IndexByteString", "internal/bytealg.IndexString"], unfollowed := true, recurses := true, named := ["internal/bytealg.MaxLen"], apart := false }
def FnDoKindsSaid : Prop := fnDoKindsRow.holds Tryz.pinned (OpenSpec.ofChange fnDoKindsSpec)

/-- ITS FALSE NEIGHBOUR: 'it returns false'. Refute it at one input. -/
def fnDoKindsWrong : ChangeSpec := { name := "fnDoKinds", fn := fun _ => fun
  | [d] => { results := [.lit (.bool false)], args := [d] }
  | _ => none }
def FnDoKindsWrongFalsely : Prop := fnDoKindsRow.holds Tryz.pinned (OpenSpec.ofChange fnDoKindsWrong)

/-- 'laws.FnRunIdle': WHATEVER THE INPUT: true; the input reads as it did. -/
def fnRunIdleSpec : ChangeSpec := { name := "fnRunIdle", fn := fun _ => fun
  | [d1, d2] => { results := [.lit (.bool true)], args := [d1, d2] }
  | _ => none }
def fnRunIdleRow : OpenClaim := { program := "ythnmkpocjgnjeaagreat", sum := "e9842ef162d6f4ca423316835b78f50fe011346626d2aa586cb1cb34b021e0af", func := "loop.example/errandry/laws.FnRunIdle", spec := "fnRunIdle", inPlace := ["internal/bytealg.IndexByteString", "internal/bytealg.IndexString"], unfollowed := true, recurses := true, named := ["internal/bytealg.MaxLen"], apart := false }
def FnRunIdleSaid : Prop := fnRunIdleRow.holds Tryz.pinned (OpenSpec.ofChange fnRunIdleSpec)

/-- ITS FALSE NEIGHBOUR: 'it returns false'. Refute it at one input. -/
def fnRunIdleWrong : ChangeSpec := { name := "fnRunIdle", fn := fun _ => fun
  | [d1, d2] => { results := [.lit (.bool false)], args := [d1, d2] }
  | _ => none }
def FnRunIdleWrongFalsely : Prop := fnRunIdleRow.holds Tryz.pinned (OpenSpec.ofChange fnRunIdleWrong)

/-- 'laws.FnRunAll': WHATEVER THE INPUT: true; the input reads as it did. -/
def fnRunAllSpec : ChangeSpec := { name := "fnRunAll", fn := fun _ => fun
  | [d1, d2] => { results := [.lit (.bool true)], args := [d1, d2] }
  | _ => none }
def fnRunAllRow : OpenClaim := { program := "ythnmkpocjgnjeaagreat", sum := "e9842ef162d6f4ca423316835b78f50fe011346626d2aa586cb1cb34b021e0af", func := "loop.example/errandry/laws.FnRunAll", spec := "fnRunAll", inPlace := ["internal/bytealg.IndexByteString", "internal/bytealg.IndexString"], unfollowed := true, recurses := true, named := ["internal/bytealg.MaxLen"], apart := false }
def FnRunAllSaid : Prop := fnRunAllRow.holds Tryz.pinned (OpenSpec.ofChange fnRunAllSpec)

/-- ITS FALSE NEIGHBOUR: 'it returns false'. Refute it at one input. -/
def fnRunAllWrong : ChangeSpec := { name := "fnRunAll", fn := fun _ => fun
  | [d1, d2] => { results := [.lit (.bool false)], args := [d1, d2] }
  | _ => none }
def FnRunAllWrongFalsely : Prop := fnRunAllRow.holds Tryz.pinned (OpenSpec.ofChange fnRunAllWrong)

/-- 'laws.FnIdle': WHATEVER THE INPUT: true; the input reads as it did. -/
def fnIdleSpec : ChangeSpec := { name := "fnIdle", fn := fun _ => fun
  | [d] => { results := [.lit (.bool true)], args := [d] }
  | _ => none }
def fnIdleRow : OpenClaim := { program := "ythnmkpocjgnjeaagreat", sum := "e9842ef162d6f4ca423316835b78f50fe011346626d2aa586cb1cb34b021e0af", func := "loop.example/errandry/laws.FnIdle", spec := "fnIdle", inPlace := ["internal/bytealg.IndexByteString", "internal/bytealg.IndexString"], unfollowed := true, recurses := true, named := ["internal/bytealg.MaxLen"], apart := false }
def FnIdleSaid : Prop := fnIdleRow.holds Tryz.pinned (OpenSpec.ofChange fnIdleSpec)

/-- ITS FALSE NEIGHBOUR: 'it returns false'. Refute it at one input. -/
def fnIdleWrong : ChangeSpec := { name := "fnIdle", fn := fun _ => fun
  | [d] => { results := [.lit (.bool false)], args := [d] }
  | _ => none }
def FnIdleWrongFalsely : Prop := fnIdleRow.holds Tryz.pinned (OpenSpec.ofChange fnIdleWrong)

/- THE SECOND FORM. 'bulk': how many values and letters a reading holds, each counted each time it is reached (what is shared counts as often as it is met; a slice's spare places count too). A statement '..UptoSaid' is the law's where the arguments, and the package variables that the reading takes, are together of bulk at most 1048576: NARROWER than '..Said'. Prove '..Said' where nothing that the law and all that it calls make is longer than what came in: it says more and counts as full. Else prove '..UptoSaid'. A law counts once. -/
mutual
def uptoBulk {H : Type} : DataW H → Nat
  | .lit (.string bytes) => bytes.length + 1
  | .lit _ => 1
  | .nil => 1
  | .ptr d => uptoBulk d + 1
  | .slice elems spare => uptoBulkAll elems + uptoBulkAll spare + 1
  | .agg parts => uptoBulkAll parts + 1
  | .iface _ d => uptoBulk d + 1
  | .map entries => uptoBulkEntries entries + 1
  | .held _ => 1
def uptoBulkAll {H : Type} : List (DataW H) → Nat
  | [] => 0
  | d :: r => uptoBulk d + uptoBulkAll r
def uptoBulkEntries {H : Type} : List (Lit × DataW H) → Nat
  | [] => 0
  | x :: r => uptoBulkEntry x + uptoBulkEntries r
def uptoBulkEntry {H : Type} : Lit × DataW H → Nat
  | (.string bytes, d) => bytes.length + uptoBulk d + 1
  | (_, d) => uptoBulk d + 1
 end
def uptoSmall : (H : Type) → List (DataW H) → Bool := fun _ ds => decide (uptoBulkAll ds ≤ 1048576)
def OpenSpec.upto (s : _root_.Go.ChangeSpec) : _root_.Go.OpenSpec := { _root_.Go.OpenSpec.ofChange s with cond := some uptoSmall }

/-- 'laws.FnTurnFair', WHERE WHAT IT READS IS OF BULK AT MOST 1048576: true; the input reads as it did. -/
def fnTurnFairUptoRow : OpenClaim := { program := "ythnmkpocjgnjeaagreat", sum := "e9842ef162d6f4ca423316835b78f50fe011346626d2aa586cb1cb34b021e0af", func := "loop.example/errandry/laws.FnTurnFair", spec := "fnTurnFair", inPlace := ["internal/bytealg.IndexByteString", "internal/bytealg.IndexString"], unfollowed := true, recurses := true, named := ["internal/bytealg.MaxLen"], apart := false, narrowed := true }
def FnTurnFairUptoSaid : Prop := fnTurnFairUptoRow.holds Tryz.pinned (OpenSpec.upto fnTurnFairSpec)

/-- 'laws.FnTurnSteps', WHERE WHAT IT READS IS OF BULK AT MOST 1048576: true; the input reads as it did. -/
def fnTurnStepsUptoRow : OpenClaim := { program := "ythnmkpocjgnjeaagreat", sum := "e9842ef162d6f4ca423316835b78f50fe011346626d2aa586cb1cb34b021e0af", func := "loop.example/errandry/laws.FnTurnSteps", spec := "fnTurnSteps", inPlace := ["internal/bytealg.IndexByteString", "internal/bytealg.IndexString"], unfollowed := true, recurses := true, named := ["internal/bytealg.MaxLen"], apart := false, narrowed := true }
def FnTurnStepsUptoSaid : Prop := fnTurnStepsUptoRow.holds Tryz.pinned (OpenSpec.upto fnTurnStepsSpec)

/-- 'laws.FnStepEnd', WHERE WHAT IT READS IS OF BULK AT MOST 1048576: true; the input reads as it did. -/
def fnStepEndUptoRow : OpenClaim := { program := "ythnmkpocjgnjeaagreat", sum := "e9842ef162d6f4ca423316835b78f50fe011346626d2aa586cb1cb34b021e0af", func := "loop.example/errandry/laws.FnStepEnd", spec := "fnStepEnd", inPlace := ["internal/bytealg.IndexByteString", "internal/bytealg.IndexString"], unfollowed := true, recurses := true, named := ["internal/bytealg.MaxLen"], apart := false, narrowed := true }
def FnStepEndUptoSaid : Prop := fnStepEndUptoRow.holds Tryz.pinned (OpenSpec.upto fnStepEndSpec)

/-- 'laws.FnStepSend', WHERE WHAT IT READS IS OF BULK AT MOST 1048576: true; the input reads as it did. -/
def fnStepSendUptoRow : OpenClaim := { program := "ythnmkpocjgnjeaagreat", sum := "e9842ef162d6f4ca423316835b78f50fe011346626d2aa586cb1cb34b021e0af", func := "loop.example/errandry/laws.FnStepSend", spec := "fnStepSend", inPlace := ["internal/bytealg.IndexByteString", "internal/bytealg.IndexString"], unfollowed := true, recurses := true, named := ["internal/bytealg.MaxLen"], apart := false, narrowed := true }
def FnStepSendUptoSaid : Prop := fnStepSendUptoRow.holds Tryz.pinned (OpenSpec.upto fnStepSendSpec)

/-- 'laws.FnTurnsCut', WHERE WHAT IT READS IS OF BULK AT MOST 1048576: true; the input reads as it did. -/
def fnTurnsCutUptoRow : OpenClaim := { program := "ythnmkpocjgnjeaagreat", sum := "e9842ef162d6f4ca423316835b78f50fe011346626d2aa586cb1cb34b021e0af", func := "loop.example/errandry/laws.FnTurnsCut", spec := "fnTurnsCut", inPlace := ["internal/bytealg.IndexByteString", "internal/bytealg.IndexString"], unfollowed := true, recurses := true, named := ["internal/bytealg.MaxLen"], apart := false, narrowed := true }
def FnTurnsCutUptoSaid : Prop := fnTurnsCutUptoRow.holds Tryz.pinned (OpenSpec.upto fnTurnsCutSpec)

/-- 'laws.FnDoOk', WHERE WHAT IT READS IS OF BULK AT MOST 1048576: true; the input reads as it did. -/
def fnDoOkUptoRow : OpenClaim := { program := "ythnmkpocjgnjeaagreat", sum := "e9842ef162d6f4ca423316835b78f50fe011346626d2aa586cb1cb34b021e0af", func := "loop.example/errandry/laws.FnDoOk", spec := "fnDoOk", inPlace := ["internal/bytealg.IndexByteString", "internal/bytealg.IndexString"], unfollowed := true, recurses := true, named := ["internal/bytealg.MaxLen"], apart := false, narrowed := true }
def FnDoOkUptoSaid : Prop := fnDoOkUptoRow.holds Tryz.pinned (OpenSpec.upto fnDoOkSpec)

/-- 'laws.FnDoKinds', WHERE WHAT IT READS IS OF BULK AT MOST 1048576: true; the input reads as it did. -/
def fnDoKindsUptoRow : OpenClaim := { program := "ythnmkpocjgnjeaagreat", sum := "e9842ef162d6f4ca423316835b78f50fe011346626d2aa586cb1cb34b021e0af", func := "loop.example/errandry/laws.FnDoKinds", spec := "fnDoKinds", inPlace := ["internal/bytealg.IndexByteString", "internal/bytealg.IndexString"], unfollowed := true, recurses := true, named := ["internal/bytealg.MaxLen"], apart := false, narrowed := true }
def FnDoKindsUptoSaid : Prop := fnDoKindsUptoRow.holds Tryz.pinned (OpenSpec.upto fnDoKindsSpec)

/-- 'laws.FnRunIdle', WHERE WHAT IT READS IS OF BULK AT MOST 1048576: true; the input reads as it did. -/
def fnRunIdleUptoRow : OpenClaim := { program := "ythnmkpocjgnjeaagreat", sum := "e9842ef162d6f4ca423316835b78f50fe011346626d2aa586cb1cb34b021e0af", func := "loop.example/errandry/laws.FnRunIdle", spec := "fnRunIdle", inPlace := ["internal/bytealg.IndexByteString", "internal/bytealg.IndexString"], unfollowed := true, recurses := true, named := ["internal/bytealg.MaxLen"], apart := false, narrowed := true }
def FnRunIdleUptoSaid : Prop := fnRunIdleUptoRow.holds Tryz.pinned (OpenSpec.upto fnRunIdleSpec)

/-- 'laws.FnRunAll', WHERE WHAT IT READS IS OF BULK AT MOST 1048576: true; the input reads as it did. -/
def fnRunAllUptoRow : OpenClaim := { program := "ythnmkpocjgnjeaagreat", sum := "e9842ef162d6f4ca423316835b78f50fe011346626d2aa586cb1cb34b021e0af", func := "loop.example/errandry/laws.FnRunAll", spec := "fnRunAll", inPlace := ["internal/bytealg.IndexByteString", "internal/bytealg.IndexString"], unfollowed := true, recurses := true, named := ["internal/bytealg.MaxLen"], apart := false, narrowed := true }
def FnRunAllUptoSaid : Prop := fnRunAllUptoRow.holds Tryz.pinned (OpenSpec.upto fnRunAllSpec)

/-- 'laws.FnIdle', WHERE WHAT IT READS IS OF BULK AT MOST 1048576: true; the input reads as it did. -/
def fnIdleUptoRow : OpenClaim := { program := "ythnmkpocjgnjeaagreat", sum := "e9842ef162d6f4ca423316835b78f50fe011346626d2aa586cb1cb34b021e0af", func := "loop.example/errandry/laws.FnIdle", spec := "fnIdle", inPlace := ["internal/bytealg.IndexByteString", "internal/bytealg.IndexString"], unfollowed := true, recurses := true, named := ["internal/bytealg.MaxLen"], apart := false, narrowed := true }
def FnIdleUptoSaid : Prop := fnIdleUptoRow.holds Tryz.pinned (OpenSpec.upto fnIdleSpec)

end Rows
end Go.Proofs.YthnmkpocjgnjeaaGreat
