/-
  No cell of these rows narrows 'for every input' (looked for: loops, veiled, ifaces, maps, wideKeys, modest, calm, conditions, laid).
  DERIVED. THE GIVEN ROWS OF THIS SEAT. 5 by the template 'for every input the law returns true; each argument reads behind the call as it read before'; 0 by the template 'total and deterministic' (their statements: YtmkiojlebjknlaaGreatTotals.lean).
  GIVEN WITH THE SEED: the statements are not yours to turn. If you find one false, say at which input.
  Laid BY PROGRAM, IN A SANDBOX (cutbox-rows.mjs): the forced cells as the released guide's own fill.sh prints them over the translation 78550006f4997b08… (all of the seat's roots in one cut). By AI agents, Wed Nov 11 2026. No macro, syntax, notation, axiom, sorry.
-/
import Derived.Test.YtmkiojlebjknlaaGreatChecked
import GoSem.Claim
import GoSem.ClaimJoined
import GoSem.ClaimMapViews
import Derived.JoinedTies
import Derived.KernelRfl
namespace Go.Proofs.YtmkiojlebjknlaaGreat
/- THE CELL 'sum', in the pinned program and in every row, IS THE sha256 OF THE DUMP (.gsa) THAT YtmkiojlebjknlaaGreatProg.lean LOADS. Nothing in Lean hashes anything: it is a label: what it is worth is what the hold of that sum in a sandbox is worth. -/
noncomputable def Tryz.pinned : Pinned := { name := "ytmkiojlebjknlaagreat", sum := "78550006f4997b081a1f5367d0cb9e0aab8dcde21844b2502d0340c4720e74e1", checked := Tryz.checked }
namespace Rows
def none {H : Type} : Left H := { results := [], args := [] }

/-- 'laws.FnFallTwo': WHATEVER THE INPUT: true; the input reads as it did. -/
def fnFallTwoSpec : ChangeSpec := { name := "fnFallTwo", fn := fun _ => fun
  | [d1, d2] => { results := [.lit (.bool true)], args := [d1, d2] }
  | _ => none }
def fnFallTwoRow : OpenClaim := { program := "ytmkiojlebjknlaagreat", sum := "78550006f4997b081a1f5367d0cb9e0aab8dcde21844b2502d0340c4720e74e1", func := "loop.example/errandry/laws.FnFallTwo", spec := "fnFallTwo", inPlace := ["internal/bytealg.IndexByteString", "internal/bytealg.IndexString"], unfollowed := true, recurses := true, named := ["internal/bytealg.MaxLen"], apart := false }
def FnFallTwoSaid : Prop := fnFallTwoRow.holds Tryz.pinned (OpenSpec.ofChange fnFallTwoSpec)

/-- ITS FALSE NEIGHBOUR: 'it returns false'. Refute it at one input. -/
def fnFallTwoWrong : ChangeSpec := { name := "fnFallTwo", fn := fun _ => fun
  | [d1, d2] => { results := [.lit (.bool false)], args := [d1, d2] }
  | _ => none }
def FnFallTwoWrongFalsely : Prop := fnFallTwoRow.holds Tryz.pinned (OpenSpec.ofChange fnFallTwoWrong)

/-- 'laws.FnFallAll': WHATEVER THE INPUT: true; the input reads as it did. -/
def fnFallAllSpec : ChangeSpec := { name := "fnFallAll", fn := fun _ => fun
  | [d] => { results := [.lit (.bool true)], args := [d] }
  | _ => none }
def fnFallAllRow : OpenClaim := { program := "ytmkiojlebjknlaagreat", sum := "78550006f4997b081a1f5367d0cb9e0aab8dcde21844b2502d0340c4720e74e1", func := "loop.example/errandry/laws.FnFallAll", spec := "fnFallAll", inPlace := ["internal/bytealg.IndexByteString", "internal/bytealg.IndexString"], unfollowed := true, recurses := true, named := ["internal/bytealg.MaxLen"], apart := false }
def FnFallAllSaid : Prop := fnFallAllRow.holds Tryz.pinned (OpenSpec.ofChange fnFallAllSpec)

/-- ITS FALSE NEIGHBOUR: 'it returns false'. Refute it at one input. -/
def fnFallAllWrong : ChangeSpec := { name := "fnFallAll", fn := fun _ => fun
  | [d] => { results := [.lit (.bool false)], args := [d] }
  | _ => none }
def FnFallAllWrongFalsely : Prop := fnFallAllRow.holds Tryz.pinned (OpenSpec.ofChange fnFallAllWrong)

/-- 'laws.FnRunKill': WHATEVER THE INPUT: true; the input reads as it did. -/
def fnRunKillSpec : ChangeSpec := { name := "fnRunKill", fn := fun _ => fun
  | [d1, d2] => { results := [.lit (.bool true)], args := [d1, d2] }
  | _ => none }
def fnRunKillRow : OpenClaim := { program := "ytmkiojlebjknlaagreat", sum := "78550006f4997b081a1f5367d0cb9e0aab8dcde21844b2502d0340c4720e74e1", func := "loop.example/errandry/laws.FnRunKill", spec := "fnRunKill", inPlace := ["internal/bytealg.IndexByteString", "internal/bytealg.IndexString"], unfollowed := true, recurses := true, named := ["internal/bytealg.MaxLen"], apart := false }
def FnRunKillSaid : Prop := fnRunKillRow.holds Tryz.pinned (OpenSpec.ofChange fnRunKillSpec)

/-- ITS FALSE NEIGHBOUR: 'it returns false'. Refute it at one input. -/
def fnRunKillWrong : ChangeSpec := { name := "fnRunKill", fn := fun _ => fun
  | [d1, d2] => { results := [.lit (.bool false)], args := [d1, d2] }
  | _ => none }
def FnRunKillWrongFalsely : Prop := fnRunKillRow.holds Tryz.pinned (OpenSpec.ofChange fnRunKillWrong)

/-- 'laws.FnStepLink': WHATEVER THE INPUT: true; the input reads as it did. -/
def fnStepLinkSpec : ChangeSpec := { name := "fnStepLink", fn := fun _ => fun
  | [d] => { results := [.lit (.bool true)], args := [d] }
  | _ => none }
def fnStepLinkRow : OpenClaim := { program := "ytmkiojlebjknlaagreat", sum := "78550006f4997b081a1f5367d0cb9e0aab8dcde21844b2502d0340c4720e74e1", func := "loop.example/errandry/laws.FnStepLink", spec := "fnStepLink", inPlace := ["internal/bytealg.IndexByteString", "internal/bytealg.IndexString"], unfollowed := true, recurses := true, named := ["internal/bytealg.MaxLen"], apart := false }
def FnStepLinkSaid : Prop := fnStepLinkRow.holds Tryz.pinned (OpenSpec.ofChange fnStepLinkSpec)

/-- ITS FALSE NEIGHBOUR: 'it returns false'. Refute it at one input. -/
def fnStepLinkWrong : ChangeSpec := { name := "fnStepLink", fn := fun _ => fun
  | [d] => { results := [.lit (.bool false)], args := [d] }
  | _ => none }
def FnStepLinkWrongFalsely : Prop := fnStepLinkRow.holds Tryz.pinned (OpenSpec.ofChange fnStepLinkWrong)

/-- 'laws.FnStepTake': WHATEVER THE INPUT: true; the input reads as it did. -/
def fnStepTakeSpec : ChangeSpec := { name := "fnStepTake", fn := fun _ => fun
  | [d] => { results := [.lit (.bool true)], args := [d] }
  | _ => none }
def fnStepTakeRow : OpenClaim := { program := "ytmkiojlebjknlaagreat", sum := "78550006f4997b081a1f5367d0cb9e0aab8dcde21844b2502d0340c4720e74e1", func := "loop.example/errandry/laws.FnStepTake", spec := "fnStepTake", inPlace := ["internal/bytealg.IndexByteString", "internal/bytealg.IndexString"], unfollowed := true, recurses := true, named := ["internal/bytealg.MaxLen"], apart := false }
def FnStepTakeSaid : Prop := fnStepTakeRow.holds Tryz.pinned (OpenSpec.ofChange fnStepTakeSpec)

/-- ITS FALSE NEIGHBOUR: 'it returns false'. Refute it at one input. -/
def fnStepTakeWrong : ChangeSpec := { name := "fnStepTake", fn := fun _ => fun
  | [d] => { results := [.lit (.bool false)], args := [d] }
  | _ => none }
def FnStepTakeWrongFalsely : Prop := fnStepTakeRow.holds Tryz.pinned (OpenSpec.ofChange fnStepTakeWrong)

/- THE SECOND FORM. 'bulk': how many values and letters a reading holds, each counted each time it is reached (what is shared counts as often as it is met; a slice's spare places count too). A statement '..UptoSaid' is the law's where the arguments, and the package variables that the reading takes, are together of bulk at most 1048576: NARROWER than '..Said'. Prove '..Said' where nothing that the law and all that it calls make is longer than what came in: it says more and counts as full. Else prove '..UptoSaid'. A law counts once. -/
mutual
def uptoBulk {H : Type} : DataW H → Nat
  | .lit (.string bytes) => bytes.length + 1
  | .lit _ => 1
  | .nil => 1
  | .ptr d => uptoBulk d + 1
  | .slice elems spare => uptoBulkAll elems + uptoBulkAll spare + 1
  | .agg parts => uptoBulkAll parts + 1
  | .iface _ d => uptoBulk d + 1
  | .map entries => uptoBulkEntries entries + 1
  | .held _ => 1
def uptoBulkAll {H : Type} : List (DataW H) → Nat
  | [] => 0
  | d :: r => uptoBulk d + uptoBulkAll r
def uptoBulkEntries {H : Type} : List (Lit × DataW H) → Nat
  | [] => 0
  | x :: r => uptoBulkEntry x + uptoBulkEntries r
def uptoBulkEntry {H : Type} : Lit × DataW H → Nat
  | (.string bytes, d) => bytes.length + uptoBulk d + 1
  | (_, d) => uptoBulk d + 1
 end
def uptoSmall : (H : Type) → List (DataW H) → Bool := fun _ ds => decide (uptoBulkAll ds ≤ 1048576)
def OpenSpec.upto (s : _root_.Go.ChangeSpec) : _root_.Go.OpenSpec := { _root_.Go.OpenSpec.ofChange s with cond := some uptoSmall }

/-- 'laws.FnFallTwo', WHERE WHAT IT READS IS OF BULK AT MOST 1048576: true; the input reads as it did. -/
def fnFallTwoUptoRow : OpenClaim := { program := "ytmkiojlebjknlaagreat", sum := "78550006f4997b081a1f5367d0cb9e0aab8dcde21844b2502d0340c4720e74e1", func := "loop.example/errandry/laws.FnFallTwo", spec := "fnFallTwo", inPlace := ["internal/bytealg.IndexByteString", "internal/bytealg.IndexString"], unfollowed := true, recurses := true, named := ["internal/bytealg.MaxLen"], apart := false, narrowed := true }
def FnFallTwoUptoSaid : Prop := fnFallTwoUptoRow.holds Tryz.pinned (OpenSpec.upto fnFallTwoSpec)

/-- 'laws.FnFallAll', WHERE WHAT IT READS IS OF BULK AT MOST 1048576: true; the input reads as it did. -/
def fnFallAllUptoRow : OpenClaim := { program := "ytmkiojlebjknlaagreat", sum := "78550006f4997b081a1f5367d0cb9e0aab8dcde21844b2502d0340c4720e74e1", func := "loop.example/errandry/laws.FnFallAll", spec := "fnFallAll", inPlace := ["internal/bytealg.IndexByteString", "internal/bytealg.IndexString"], unfollowed := true, recurses := true, named := ["internal/bytealg.MaxLen"], apart := false, narrowed := true }
def FnFallAllUptoSaid : Prop := fnFallAllUptoRow.holds Tryz.pinned (OpenSpec.upto fnFallAllSpec)

/-- 'laws.FnRunKill', WHERE WHAT IT READS IS OF BULK AT MOST 1048576: true; the input reads as it did. -/
def fnRunKillUptoRow : OpenClaim := { program := "ytmkiojlebjknlaagreat", sum := "78550006f4997b081a1f5367d0cb9e0aab8dcde21844b2502d0340c4720e74e1", func := "loop.example/errandry/laws.FnRunKill", spec := "fnRunKill", inPlace := ["internal/bytealg.IndexByteString", "internal/bytealg.IndexString"], unfollowed := true, recurses := true, named := ["internal/bytealg.MaxLen"], apart := false, narrowed := true }
def FnRunKillUptoSaid : Prop := fnRunKillUptoRow.holds Tryz.pinned (OpenSpec.upto fnRunKillSpec)

/-- 'laws.FnStepLink', WHERE WHAT IT READS IS OF BULK AT MOST 1048576: true; the input reads as it did. -/
def fnStepLinkUptoRow : OpenClaim := { program := "ytmkiojlebjknlaagreat", sum := "78550006f4997b081a1f5367d0cb9e0aab8dcde21844b2502d0340c4720e74e1", func := "loop.example/errandry/laws.FnStepLink", spec := "fnStepLink", inPlace := ["internal/bytealg.IndexByteString", "internal/bytealg.IndexString"], unfollowed := true, recurses := true, named := ["internal/bytealg.MaxLen"], apart := false, narrowed := true }
def FnStepLinkUptoSaid : Prop := fnStepLinkUptoRow.holds Tryz.pinned (OpenSpec.upto fnStepLinkSpec)

/-- 'laws.FnStepTake', WHERE WHAT IT READS IS OF BULK AT MOST 1048576: true; the input reads as it did. -/
def fnStepTakeUptoRow : OpenClaim := { program := "ytmkiojlebjknlaagreat", sum := "78550006f4997b081a1f5367d0cb9e0aab8dcde21844b2502d0340c4720e74e1", func := "loop.example/errandry/laws.FnStepTake", spec := "fnStepTake", inPlace := ["internal/bytealg.IndexByteString", "internal/bytealg.IndexString"], unfollowed := true, recurses := true, named := ["internal/bytealg.MaxLen"], apart := false, narrowed := true }
def FnStepTakeUptoSaid : Prop := fnStepTakeUptoRow.holds Tryz.pinned (OpenSpec.upto fnStepTakeSpec)

end Rows
end Go.Proofs.YtmkiojlebjknlaaGreat
