/-
  No cell of these rows narrows 'for every input' (looked for: loops, veiled, ifaces, maps, wideKeys, modest, calm, conditions, laid).
  DERIVED. THE GIVEN ROWS OF THIS SEAT. 3 by the template 'for every input the law returns true; each argument reads behind the call as it read before'; 0 by the template 'total and deterministic' (their statements: YtahdcipolknofaaGreatTotals.lean).
  GIVEN WITH THE SEED: the statements are not yours to turn. If you find one false, say at which input.
  Laid BY PROGRAM, IN A SANDBOX (cutbox-rows.mjs): the forced cells as the released guide's own fill.sh prints them over the translation cef737c95503535d… (all of the seat's roots in one cut). By AI agents, Wed Nov 11 2026. No macro, syntax, notation, axiom, sorry.
-/
import Derived.Test.YtahdcipolknofaaGreatChecked
import GoSem.Claim
import GoSem.ClaimJoined
import GoSem.ClaimMapViews
import Derived.JoinedTies
import Derived.KernelRfl
namespace Go.Proofs.YtahdcipolknofaaGreat
/- THE CELL 'sum', in the pinned program and in every row, IS THE sha256 OF THE DUMP (.gsa) THAT YtahdcipolknofaaGreatProg.lean LOADS. Nothing in Lean hashes anything: it is a label: what it is worth is what the hold of that sum in a sandbox is worth. -/
noncomputable def Tryz.pinned : Pinned := { name := "ytahdcipolknofaagreat", sum := "cef737c95503535d5999a69ddc2029e361a2cf08b152d2e33e781b984cca97f6", checked := Tryz.checked }
namespace Rows
def none {H : Type} : Left H := { results := [], args := [] }

/-- 'laws.FnExactTurnWhen': WHATEVER THE INPUT: true; the input reads as it did. -/
def fnExactTurnWhenSpec : ChangeSpec := { name := "fnExactTurnWhen", fn := fun _ => fun
  | [d1, d2] => { results := [.lit (.bool true)], args := [d1, d2] }
  | _ => none }
def fnExactTurnWhenRow : OpenClaim := { program := "ytahdcipolknofaagreat", sum := "cef737c95503535d5999a69ddc2029e361a2cf08b152d2e33e781b984cca97f6", func := "loop.example/errandry/laws.FnExactTurnWhen", spec := "fnExactTurnWhen", inPlace := ["internal/bytealg.IndexByteString", "internal/bytealg.IndexString"], unfollowed := true, recurses := true, named := ["internal/bytealg.MaxLen"], apart := false }
def FnExactTurnWhenSaid : Prop := fnExactTurnWhenRow.holds Tryz.pinned (OpenSpec.ofChange fnExactTurnWhenSpec)

/-- ITS FALSE NEIGHBOUR: 'it returns false'. Refute it at one input. -/
def fnExactTurnWhenWrong : ChangeSpec := { name := "fnExactTurnWhen", fn := fun _ => fun
  | [d1, d2] => { results := [.lit (.bool false)], args := [d1, d2] }
  | _ => none }
def FnExactTurnWhenWrongFalsely : Prop := fnExactTurnWhenRow.holds Tryz.pinned (OpenSpec.ofChange fnExactTurnWhenWrong)

/-- 'laws.FnExactTurnTick': WHATEVER THE INPUT: true; the input reads as it did. -/
def fnExactTurnTickSpec : ChangeSpec := { name := "fnExactTurnTick", fn := fun _ => fun
  | [d] => { results := [.lit (.bool true)], args := [d] }
  | _ => none }
def fnExactTurnTickRow : OpenClaim := { program := "ytahdcipolknofaagreat", sum := "cef737c95503535d5999a69ddc2029e361a2cf08b152d2e33e781b984cca97f6", func := "loop.example/errandry/laws.FnExactTurnTick", spec := "fnExactTurnTick", inPlace := ["internal/bytealg.IndexByteString", "internal/bytealg.IndexString"], unfollowed := true, recurses := true, named := ["internal/bytealg.MaxLen"], apart := false }
def FnExactTurnTickSaid : Prop := fnExactTurnTickRow.holds Tryz.pinned (OpenSpec.ofChange fnExactTurnTickSpec)

/-- ITS FALSE NEIGHBOUR: 'it returns false'. Refute it at one input. -/
def fnExactTurnTickWrong : ChangeSpec := { name := "fnExactTurnTick", fn := fun _ => fun
  | [d] => { results := [.lit (.bool false)], args := [d] }
  | _ => none }
def FnExactTurnTickWrongFalsely : Prop := fnExactTurnTickRow.holds Tryz.pinned (OpenSpec.ofChange fnExactTurnTickWrong)

/-- 'laws.FnExactPlayDo': WHATEVER THE INPUT: true; the input reads as it did. -/
def fnExactPlayDoSpec : ChangeSpec := { name := "fnExactPlayDo", fn := fun _ => fun
  | [d1, d2] => { results := [.lit (.bool true)], args := [d1, d2] }
  | _ => none }
def fnExactPlayDoRow : OpenClaim := { program := "ytahdcipolknofaagreat", sum := "cef737c95503535d5999a69ddc2029e361a2cf08b152d2e33e781b984cca97f6", func := "loop.example/errandry/laws.FnExactPlayDo", spec := "fnExactPlayDo", inPlace := ["internal/bytealg.IndexByteString", "internal/bytealg.IndexString"], unfollowed := true, recurses := true, named := ["internal/bytealg.MaxLen"], apart := false }
def FnExactPlayDoSaid : Prop := fnExactPlayDoRow.holds Tryz.pinned (OpenSpec.ofChange fnExactPlayDoSpec)

/-- ITS FALSE NEIGHBOUR: 'it returns false'. Refute it at one input. -/
def fnExactPlayDoWrong : ChangeSpec := { name := "fnExactPlayDo", fn := fun _ => fun
  | [d1, d2] => { results := [.lit (.bool false)], args := [d1, d2] }
  | _ => none }
def FnExactPlayDoWrongFalsely : Prop := fnExactPlayDoRow.holds Tryz.pinned (OpenSpec.ofChange fnExactPlayDoWrong)

/- THE SECOND FORM. 'bulk': how many values and letters a reading holds, each counted each time it is reached (what is shared counts as often as it is met; a slice's spare places count too). A statement '..UptoSaid' is the law's where the arguments, and the package variables that the reading takes, are together of bulk at most 1048576: NARROWER than '..Said'. Prove '..Said' where nothing that the law and all that it calls make is longer than what came in: it says more and counts as full. Else prove '..UptoSaid'. A law counts once. -/
mutual
def uptoBulk {H : Type} : DataW H → Nat
  | .lit (.string bytes) => bytes.length + 1
  | .lit _ => 1
  | .nil => 1
  | .ptr d => uptoBulk d + 1
  | .slice elems spare => uptoBulkAll elems + uptoBulkAll spare + 1
  | .agg parts => uptoBulkAll parts + 1
  | .iface _ d => uptoBulk d + 1
  | .map entries => uptoBulkEntries entries + 1
  | .held _ => 1
def uptoBulkAll {H : Type} : List (DataW H) → Nat
  | [] => 0
  | d :: r => uptoBulk d + uptoBulkAll r
def uptoBulkEntries {H : Type} : List (Lit × DataW H) → Nat
  | [] => 0
  | x :: r => uptoBulkEntry x + uptoBulkEntries r
def uptoBulkEntry {H : Type} : Lit × DataW H → Nat
  | (.string bytes, d) => bytes.length + uptoBulk d + 1
  | (_, d) => uptoBulk d + 1
 end
def uptoSmall : (H : Type) → List (DataW H) → Bool := fun _ ds => decide (uptoBulkAll ds ≤ 1048576)
def OpenSpec.upto (s : _root_.Go.ChangeSpec) : _root_.Go.OpenSpec := { _root_.Go.OpenSpec.ofChange s with cond := some uptoSmall }

/-- 'laws.FnExactTurnWhen', WHERE WHAT IT READS IS OF BULK AT MOST 1048576: true; the input reads as it did. -/
def fnExactTurnWhenUptoRow : OpenClaim := { program := "ytahdcipolknofaagreat", sum := "cef737c95503535d5999a69ddc2029e361a2cf08b152d2e33e781b984cca97f6", func := "loop.example/errandry/laws.FnExactTurnWhen", spec := "fnExactTurnWhen", inPlace := ["internal/bytealg.IndexByteString", "internal/bytealg.IndexString"], unfollowed := true, recurses := true, named := ["internal/bytealg.MaxLen"], apart := false, narrowed := true }
def FnExactTurnWhenUptoSaid : Prop := fnExactTurnWhenUptoRow.holds Tryz.pinned (OpenSpec.upto fnExactTurnWhenSpec)

/-- 'laws.FnExactTurnTick', WHERE WHAT IT READS IS OF BULK AT MOST 1048576: true; the input reads as it did. -/
def fnExactTurnTickUptoRow : OpenClaim := { program := "ytahdcipolknofaagreat", sum := "cef737c95503535d5999a69ddc2029e361a2cf08b152d2e33e781b984cca97f6", func := "loop.example/errandry/laws.FnExactTurnTick", spec := "fnExactTurnTick", inPlace := ["internal/bytealg.IndexByteString", "internal/bytealg.IndexString"], unfollowed := true, recurses := true, named := ["internal/bytealg.MaxLen"], apart := false, narrowed := true }
def FnExactTurnTickUptoSaid : Prop := fnExactTurnTickUptoRow.holds Tryz.pinned (OpenSpec.upto fnExactTurnTickSpec)

/-- 'laws.FnExactPlayDo', WHERE WHAT IT READS IS OF BULK AT MOST 1048576: true; the input reads as it did. -/
def fnExactPlayDoUptoRow : OpenClaim := { program := "ytahdcipolknofaagreat", sum := "cef737c95503535d5999a69ddc2029e361a2cf08b152d2e33e781b984cca97f6", func := "loop.example/errandry/laws.FnExactPlayDo", spec := "fnExactPlayDo", inPlace := ["internal/bytealg.IndexByteString", "internal/bytealg.IndexString"], unfollowed := true, recurses := true, named := ["internal/bytealg.MaxLen"], apart := false, narrowed := true }
def FnExactPlayDoUptoSaid : Prop := fnExactPlayDoUptoRow.holds Tryz.pinned (OpenSpec.upto fnExactPlayDoSpec)

end Rows
end Go.Proofs.YtahdcipolknofaaGreat
