/-
  No cell of these rows narrows 'for every input' (looked for: loops, veiled, ifaces, maps, wideKeys, modest, calm, conditions, laid).
  DERIVED. THE GIVEN ROWS OF THIS SEAT. 12 by the template 'for every input the law returns true; each argument reads behind the call as it read before'; 0 by the template 'total and deterministic' (their statements: YtkcfminmojolhaaGreatTotals.lean).
  GIVEN WITH THE SEED: the statements are not yours to turn. If you find one false, say at which input.
  Laid BY PROGRAM, IN A SANDBOX (cutbox-rows.mjs): the forced cells as the released guide's own fill.sh prints them over the translation a3ac5c0385f8a3f2… (all of the seat's roots in one cut). By AI agents, Wed Nov 11 2026. No macro, syntax, notation, axiom, sorry.
-/
import Derived.Test.YtkcfminmojolhaaGreatChecked
import GoSem.Claim
import GoSem.ClaimJoined
import GoSem.ClaimMapViews
import Derived.JoinedTies
import Derived.KernelRfl
namespace Go.Proofs.YtkcfminmojolhaaGreat
/- THE CELL 'sum', in the pinned program and in every row, IS THE sha256 OF THE DUMP (.gsa) THAT YtkcfminmojolhaaGreatProg.lean LOADS. Nothing in Lean hashes anything: it is a label: what it is worth is what the hold of that sum in a sandbox is worth. -/
noncomputable def Tryz.pinned : Pinned := { name := "ytkcfminmojolhaagreat", sum := "a3ac5c0385f8a3f245555b564122d8c8f7ecab760403b213c4dc6582236fab57", checked := Tryz.checked }
namespace Rows
def none {H : Type} : Left H := { results := [], args := [] }

/-- 'laws.FnExactTurnWhen': WHATEVER THE INPUT: true; the input reads as it did. -/
def fnExactTurnWhenSpec : ChangeSpec := { name := "fnExactTurnWhen", fn := fun _ => fun
  | [d1, d2] => { results := [.lit (.bool true)], args := [d1, d2] }
  | _ => none }
def fnExactTurnWhenRow : OpenClaim := { program := "ytkcfminmojolhaagreat", sum := "a3ac5c0385f8a3f245555b564122d8c8f7ecab760403b213c4dc6582236fab57", func := "loop.example/errandry/laws.FnExactTurnWhen", spec := "fnExactTurnWhen", inPlace := ["internal/bytealg.IndexByteString", "internal/bytealg.IndexString"], unfollowed := true, recurses := true, named := ["internal/bytealg.MaxLen"], apart := false }
def FnExactTurnWhenSaid : Prop := fnExactTurnWhenRow.holds Tryz.pinned (OpenSpec.ofChange fnExactTurnWhenSpec)

/-- ITS FALSE NEIGHBOUR: 'it returns false'. Refute it at one input. -/
def fnExactTurnWhenWrong : ChangeSpec := { name := "fnExactTurnWhen", fn := fun _ => fun
  | [d1, d2] => { results := [.lit (.bool false)], args := [d1, d2] }
  | _ => none }
def FnExactTurnWhenWrongFalsely : Prop := fnExactTurnWhenRow.holds Tryz.pinned (OpenSpec.ofChange fnExactTurnWhenWrong)

/-- 'laws.FnExactTurnTick': WHATEVER THE INPUT: true; the input reads as it did. -/
def fnExactTurnTickSpec : ChangeSpec := { name := "fnExactTurnTick", fn := fun _ => fun
  | [d] => { results := [.lit (.bool true)], args := [d] }
  | _ => none }
def fnExactTurnTickRow : OpenClaim := { program := "ytkcfminmojolhaagreat", sum := "a3ac5c0385f8a3f245555b564122d8c8f7ecab760403b213c4dc6582236fab57", func := "loop.example/errandry/laws.FnExactTurnTick", spec := "fnExactTurnTick", inPlace := ["internal/bytealg.IndexByteString", "internal/bytealg.IndexString"], unfollowed := true, recurses := true, named := ["internal/bytealg.MaxLen"], apart := false }
def FnExactTurnTickSaid : Prop := fnExactTurnTickRow.holds Tryz.pinned (OpenSpec.ofChange fnExactTurnTickSpec)

/-- ITS FALSE NEIGHBOUR: 'it returns false'. Refute it at one input. -/
def fnExactTurnTickWrong : ChangeSpec := { name := "fnExactTurnTick", fn := fun _ => fun
  | [d] => { results := [.lit (.bool false)], args := [d] }
  | _ => none }
def FnExactTurnTickWrongFalsely : Prop := fnExactTurnTickRow.holds Tryz.pinned (OpenSpec.ofChange fnExactTurnTickWrong)

/-- 'laws.FnExactPlayDo': WHATEVER THE INPUT: true; the input reads as it did. -/
def fnExactPlayDoSpec : ChangeSpec := { name := "fnExactPlayDo", fn := fun _ => fun
  | [d1, d2] => { results := [.lit (.bool true)], args := [d1, d2] }
  | _ => none }
def fnExactPlayDoRow : OpenClaim := { program := "ytkcfminmojolhaagreat", sum := "a3ac5c0385f8a3f245555b564122d8c8f7ecab760403b213c4dc6582236fab57", func := "loop.example/errandry/laws.FnExactPlayDo", spec := "fnExactPlayDo", inPlace := ["internal/bytealg.IndexByteString", "internal/bytealg.IndexString"], unfollowed := true, recurses := true, named := ["internal/bytealg.MaxLen"], apart := false }
def FnExactPlayDoSaid : Prop := fnExactPlayDoRow.holds Tryz.pinned (OpenSpec.ofChange fnExactPlayDoSpec)

/-- ITS FALSE NEIGHBOUR: 'it returns false'. Refute it at one input. -/
def fnExactPlayDoWrong : ChangeSpec := { name := "fnExactPlayDo", fn := fun _ => fun
  | [d1, d2] => { results := [.lit (.bool false)], args := [d1, d2] }
  | _ => none }
def FnExactPlayDoWrongFalsely : Prop := fnExactPlayDoRow.holds Tryz.pinned (OpenSpec.ofChange fnExactPlayDoWrong)

/-- 'laws.FnExactPlayRun': WHATEVER THE INPUT: true; the input reads as it did. -/
def fnExactPlayRunSpec : ChangeSpec := { name := "fnExactPlayRun", fn := fun _ => fun
  | [d1, d2] => { results := [.lit (.bool true)], args := [d1, d2] }
  | _ => none }
def fnExactPlayRunRow : OpenClaim := { program := "ytkcfminmojolhaagreat", sum := "a3ac5c0385f8a3f245555b564122d8c8f7ecab760403b213c4dc6582236fab57", func := "loop.example/errandry/laws.FnExactPlayRun", spec := "fnExactPlayRun", inPlace := ["internal/bytealg.IndexByteString", "internal/bytealg.IndexString"], unfollowed := true, recurses := true, named := ["internal/bytealg.MaxLen"], apart := false }
def FnExactPlayRunSaid : Prop := fnExactPlayRunRow.holds Tryz.pinned (OpenSpec.ofChange fnExactPlayRunSpec)

/-- ITS FALSE NEIGHBOUR: 'it returns false'. Refute it at one input. -/
def fnExactPlayRunWrong : ChangeSpec := { name := "fnExactPlayRun", fn := fun _ => fun
  | [d1, d2] => { results := [.lit (.bool false)], args := [d1, d2] }
  | _ => none }
def FnExactPlayRunWrongFalsely : Prop := fnExactPlayRunRow.holds Tryz.pinned (OpenSpec.ofChange fnExactPlayRunWrong)

/-- 'laws.FnExactTurnStep': WHATEVER THE INPUT: true; the input reads as it did. -/
def fnExactTurnStepSpec : ChangeSpec := { name := "fnExactTurnStep", fn := fun _ => fun
  | [d] => { results := [.lit (.bool true)], args := [d] }
  | _ => none }
def fnExactTurnStepRow : OpenClaim := { program := "ytkcfminmojolhaagreat", sum := "a3ac5c0385f8a3f245555b564122d8c8f7ecab760403b213c4dc6582236fab57", func := "loop.example/errandry/laws.FnExactTurnStep", spec := "fnExactTurnStep", inPlace := ["internal/bytealg.IndexByteString", "internal/bytealg.IndexString"], unfollowed := true, recurses := true, named := ["internal/bytealg.MaxLen"], apart := false }
def FnExactTurnStepSaid : Prop := fnExactTurnStepRow.holds Tryz.pinned (OpenSpec.ofChange fnExactTurnStepSpec)

/-- ITS FALSE NEIGHBOUR: 'it returns false'. Refute it at one input. -/
def fnExactTurnStepWrong : ChangeSpec := { name := "fnExactTurnStep", fn := fun _ => fun
  | [d] => { results := [.lit (.bool false)], args := [d] }
  | _ => none }
def FnExactTurnStepWrongFalsely : Prop := fnExactTurnStepRow.holds Tryz.pinned (OpenSpec.ofChange fnExactTurnStepWrong)

/-- 'laws.FnExactTurnDo': WHATEVER THE INPUT: true; the input reads as it did. -/
def fnExactTurnDoSpec : ChangeSpec := { name := "fnExactTurnDo", fn := fun _ => fun
  | [d] => { results := [.lit (.bool true)], args := [d] }
  | _ => none }
def fnExactTurnDoRow : OpenClaim := { program := "ytkcfminmojolhaagreat", sum := "a3ac5c0385f8a3f245555b564122d8c8f7ecab760403b213c4dc6582236fab57", func := "loop.example/errandry/laws.FnExactTurnDo", spec := "fnExactTurnDo", inPlace := ["internal/bytealg.IndexByteString", "internal/bytealg.IndexString"], unfollowed := true, recurses := true, named := ["internal/bytealg.MaxLen"], apart := false }
def FnExactTurnDoSaid : Prop := fnExactTurnDoRow.holds Tryz.pinned (OpenSpec.ofChange fnExactTurnDoSpec)

/-- ITS FALSE NEIGHBOUR: 'it returns false'. Refute it at one input. -/
def fnExactTurnDoWrong : ChangeSpec := { name := "fnExactTurnDo", fn := fun _ => fun
  | [d] => { results := [.lit (.bool false)], args := [d] }
  | _ => none }
def FnExactTurnDoWrongFalsely : Prop := fnExactTurnDoRow.holds Tryz.pinned (OpenSpec.ofChange fnExactTurnDoWrong)

/-- 'laws.FnExactPlayTurns': WHATEVER THE INPUT: true; the input reads as it did. -/
def fnExactPlayTurnsSpec : ChangeSpec := { name := "fnExactPlayTurns", fn := fun _ => fun
  | [d1, d2] => { results := [.lit (.bool true)], args := [d1, d2] }
  | _ => none }
def fnExactPlayTurnsRow : OpenClaim := { program := "ytkcfminmojolhaagreat", sum := "a3ac5c0385f8a3f245555b564122d8c8f7ecab760403b213c4dc6582236fab57", func := "loop.example/errandry/laws.FnExactPlayTurns", spec := "fnExactPlayTurns", inPlace := ["internal/bytealg.IndexByteString", "internal/bytealg.IndexString"], unfollowed := true, recurses := true, named := ["internal/bytealg.MaxLen"], apart := false }
def FnExactPlayTurnsSaid : Prop := fnExactPlayTurnsRow.holds Tryz.pinned (OpenSpec.ofChange fnExactPlayTurnsSpec)

/-- ITS FALSE NEIGHBOUR: 'it returns false'. Refute it at one input. -/
def fnExactPlayTurnsWrong : ChangeSpec := { name := "fnExactPlayTurns", fn := fun _ => fun
  | [d1, d2] => { results := [.lit (.bool false)], args := [d1, d2] }
  | _ => none }
def FnExactPlayTurnsWrongFalsely : Prop := fnExactPlayTurnsRow.holds Tryz.pinned (OpenSpec.ofChange fnExactPlayTurnsWrong)

/-- 'laws.FnIdle': WHATEVER THE INPUT: true; the input reads as it did. -/
def fnIdleSpec : ChangeSpec := { name := "fnIdle", fn := fun _ => fun
  | [d] => { results := [.lit (.bool true)], args := [d] }
  | _ => none }
def fnIdleRow : OpenClaim := { program := "ytkcfminmojolhaagreat", sum := "a3ac5c0385f8a3f245555b564122d8c8f7ecab760403b213c4dc6582236fab57", func := "loop.example/errandry/laws.FnIdle", spec := "fnIdle", inPlace := ["internal/bytealg.IndexByteString", "internal/bytealg.IndexString"], unfollowed := true, recurses := true, named := ["internal/bytealg.MaxLen"], apart := false }
def FnIdleSaid : Prop := fnIdleRow.holds Tryz.pinned (OpenSpec.ofChange fnIdleSpec)

/-- ITS FALSE NEIGHBOUR: 'it returns false'. Refute it at one input. -/
def fnIdleWrong : ChangeSpec := { name := "fnIdle", fn := fun _ => fun
  | [d] => { results := [.lit (.bool false)], args := [d] }
  | _ => none }
def FnIdleWrongFalsely : Prop := fnIdleRow.holds Tryz.pinned (OpenSpec.ofChange fnIdleWrong)

/-- 'laws.FnTick': WHATEVER THE INPUT: true; the input reads as it did. -/
def fnTickSpec : ChangeSpec := { name := "fnTick", fn := fun _ => fun
  | [d] => { results := [.lit (.bool true)], args := [d] }
  | _ => none }
def fnTickRow : OpenClaim := { program := "ytkcfminmojolhaagreat", sum := "a3ac5c0385f8a3f245555b564122d8c8f7ecab760403b213c4dc6582236fab57", func := "loop.example/errandry/laws.FnTick", spec := "fnTick", inPlace := ["internal/bytealg.IndexByteString", "internal/bytealg.IndexString"], unfollowed := true, recurses := true, named := ["internal/bytealg.MaxLen"], apart := false }
def FnTickSaid : Prop := fnTickRow.holds Tryz.pinned (OpenSpec.ofChange fnTickSpec)

/-- ITS FALSE NEIGHBOUR: 'it returns false'. Refute it at one input. -/
def fnTickWrong : ChangeSpec := { name := "fnTick", fn := fun _ => fun
  | [d] => { results := [.lit (.bool false)], args := [d] }
  | _ => none }
def FnTickWrongFalsely : Prop := fnTickRow.holds Tryz.pinned (OpenSpec.ofChange fnTickWrong)

/-- 'laws.FnTickTwice': WHATEVER THE INPUT: true; the input reads as it did. -/
def fnTickTwiceSpec : ChangeSpec := { name := "fnTickTwice", fn := fun _ => fun
  | [d] => { results := [.lit (.bool true)], args := [d] }
  | _ => none }
def fnTickTwiceRow : OpenClaim := { program := "ytkcfminmojolhaagreat", sum := "a3ac5c0385f8a3f245555b564122d8c8f7ecab760403b213c4dc6582236fab57", func := "loop.example/errandry/laws.FnTickTwice", spec := "fnTickTwice", inPlace := ["internal/bytealg.IndexByteString", "internal/bytealg.IndexString"], unfollowed := true, recurses := true, named := ["internal/bytealg.MaxLen"], apart := false }
def FnTickTwiceSaid : Prop := fnTickTwiceRow.holds Tryz.pinned (OpenSpec.ofChange fnTickTwiceSpec)

/-- ITS FALSE NEIGHBOUR: 'it returns false'. Refute it at one input. -/
def fnTickTwiceWrong : ChangeSpec := { name := "fnTickTwice", fn := fun _ => fun
  | [d] => { results := [.lit (.bool false)], args := [d] }
  | _ => none }
def FnTickTwiceWrongFalsely : Prop := fnTickTwiceRow.holds Tryz.pinned (OpenSpec.ofChange fnTickTwiceWrong)

/-- 'laws.FnTickAll': WHATEVER THE INPUT: true; the input reads as it did. -/
def fnTickAllSpec : ChangeSpec := { name := "fnTickAll", fn := fun _ => fun
  | [d] => { results := [.lit (.bool true)], args := [d] }
  | _ => none }
def fnTickAllRow : OpenClaim := { program := "ytkcfminmojolhaagreat", sum := "a3ac5c0385f8a3f245555b564122d8c8f7ecab760403b213c4dc6582236fab57", func := "loop.example/errandry/laws.FnTickAll", spec := "fnTickAll", inPlace := ["internal/bytealg.IndexByteString", "internal/bytealg.IndexString"], unfollowed := true, recurses := true, named := ["internal/bytealg.MaxLen"], apart := false }
def FnTickAllSaid : Prop := fnTickAllRow.holds Tryz.pinned (OpenSpec.ofChange fnTickAllSpec)

/-- ITS FALSE NEIGHBOUR: 'it returns false'. Refute it at one input. -/
def fnTickAllWrong : ChangeSpec := { name := "fnTickAll", fn := fun _ => fun
  | [d] => { results := [.lit (.bool false)], args := [d] }
  | _ => none }
def FnTickAllWrongFalsely : Prop := fnTickAllRow.holds Tryz.pinned (OpenSpec.ofChange fnTickAllWrong)

/-- 'laws.FnFallTwo': WHATEVER THE INPUT: true; the input reads as it did. -/
def fnFallTwoSpec : ChangeSpec := { name := "fnFallTwo", fn := fun _ => fun
  | [d1, d2] => { results := [.lit (.bool true)], args := [d1, d2] }
  | _ => none }
def fnFallTwoRow : OpenClaim := { program := "ytkcfminmojolhaagreat", sum := "a3ac5c0385f8a3f245555b564122d8c8f7ecab760403b213c4dc6582236fab57", func := "loop.example/errandry/laws.FnFallTwo", spec := "fnFallTwo", inPlace := ["internal/bytealg.IndexByteString", "internal/bytealg.IndexString"], unfollowed := true, recurses := true, named := ["internal/bytealg.MaxLen"], apart := false }
def FnFallTwoSaid : Prop := fnFallTwoRow.holds Tryz.pinned (OpenSpec.ofChange fnFallTwoSpec)

/-- ITS FALSE NEIGHBOUR: 'it returns false'. Refute it at one input. -/
def fnFallTwoWrong : ChangeSpec := { name := "fnFallTwo", fn := fun _ => fun
  | [d1, d2] => { results := [.lit (.bool false)], args := [d1, d2] }
  | _ => none }
def FnFallTwoWrongFalsely : Prop := fnFallTwoRow.holds Tryz.pinned (OpenSpec.ofChange fnFallTwoWrong)

/- THE SECOND FORM. 'bulk': how many values and letters a reading holds, each counted each time it is reached (what is shared counts as often as it is met; a slice's spare places count too). A statement '..UptoSaid' is the law's where the arguments, and the package variables that the reading takes, are together of bulk at most 1048576: NARROWER than '..Said'. Prove '..Said' where nothing that the law and all that it calls make is longer than what came in: it says more and counts as full. Else prove '..UptoSaid'. A law counts once. -/
mutual
def uptoBulk {H : Type} : DataW H → Nat
  | .lit (.string bytes) => bytes.length + 1
  | .lit _ => 1
  | .nil => 1
  | .ptr d => uptoBulk d + 1
  | .slice elems spare => uptoBulkAll elems + uptoBulkAll spare + 1
  | .agg parts => uptoBulkAll parts + 1
  | .iface _ d => uptoBulk d + 1
  | .map entries => uptoBulkEntries entries + 1
  | .held _ => 1
def uptoBulkAll {H : Type} : List (DataW H) → Nat
  | [] => 0
  | d :: r => uptoBulk d + uptoBulkAll r
def uptoBulkEntries {H : Type} : List (Lit × DataW H) → Nat
  | [] => 0
  | x :: r => uptoBulkEntry x + uptoBulkEntries r
def uptoBulkEntry {H : Type} : Lit × DataW H → Nat
  | (.string bytes, d) => bytes.length + uptoBulk d + 1
  | (_, d) => uptoBulk d + 1
 end
def uptoSmall : (H : Type) → List (DataW H) → Bool := fun _ ds => decide (uptoBulkAll ds ≤ 1048576)
def OpenSpec.upto (s : _root_.Go.ChangeSpec) : _root_.Go.OpenSpec := { _root_.Go.OpenSpec.ofChange s with cond := some uptoSmall }

/-- 'laws.FnExactTurnWhen', WHERE WHAT IT READS IS OF BULK AT MOST 1048576: true; the input reads as it did. -/
def fnExactTurnWhenUptoRow : OpenClaim := { program := "ytkcfminmojolhaagreat", sum := "a3ac5c0385f8a3f245555b564122d8c8f7ecab760403b213c4dc6582236fab57", func := "loop.example/errandry/laws.FnExactTurnWhen", spec := "fnExactTurnWhen", inPlace := ["internal/bytealg.IndexByteString", "internal/bytealg.IndexString"], unfollowed := true, recurses := true, named := ["internal/bytealg.MaxLen"], apart := false, narrowed := true }
def FnExactTurnWhenUptoSaid : Prop := fnExactTurnWhenUptoRow.holds Tryz.pinned (OpenSpec.upto fnExactTurnWhenSpec)

/-- 'laws.FnExactTurnTick', WHERE WHAT IT READS IS OF BULK AT MOST 1048576: true; the input reads as it did. -/
def fnExactTurnTickUptoRow : OpenClaim := { program := "ytkcfminmojolhaagreat", sum := "a3ac5c0385f8a3f245555b564122d8c8f7ecab760403b213c4dc6582236fab57", func := "loop.example/errandry/laws.FnExactTurnTick", spec := "fnExactTurnTick", inPlace := ["internal/bytealg.IndexByteString", "internal/bytealg.IndexString"], unfollowed := true, recurses := true, named := ["internal/bytealg.MaxLen"], apart := false, narrowed := true }
def FnExactTurnTickUptoSaid : Prop := fnExactTurnTickUptoRow.holds Tryz.pinned (OpenSpec.upto fnExactTurnTickSpec)

/-- 'laws.FnExactPlayDo', WHERE WHAT IT READS IS OF BULK AT MOST 1048576: true; the input reads as it did. -/
def fnExactPlayDoUptoRow : OpenClaim := { program := "ytkcfminmojolhaagreat", sum := "a3ac5c0385f8a3f245555b564122d8c8f7ecab760403b213c4dc6582236fab57", func := "loop.example/errandry/laws.FnExactPlayDo", spec := "fnExactPlayDo", inPlace := ["internal/bytealg.IndexByteString", "internal/bytealg.IndexString"], unfollowed := true, recurses := true, named := ["internal/bytealg.MaxLen"], apart := false, narrowed := true }
def FnExactPlayDoUptoSaid : Prop := fnExactPlayDoUptoRow.holds Tryz.pinned (OpenSpec.upto fnExactPlayDoSpec)

/-- 'laws.FnExactPlayRun', WHERE WHAT IT READS IS OF BULK AT MOST 1048576: true; the input reads as it did. -/
def fnExactPlayRunUptoRow : OpenClaim := { program := "ytkcfminmojolhaagreat", sum := "a3ac5c0385f8a3f245555b564122d8c8f7ecab760403b213c4dc6582236fab57", func := "loop.example/errandry/laws.FnExactPlayRun", spec := "fnExactPlayRun", inPlace := ["internal/bytealg.IndexByteString", "internal/bytealg.IndexString"], unfollowed := true, recurses := true, named := ["internal/bytealg.MaxLen"], apart := false, narrowed := true }
def FnExactPlayRunUptoSaid : Prop := fnExactPlayRunUptoRow.holds Tryz.pinned (OpenSpec.upto fnExactPlayRunSpec)

/-- 'laws.FnExactTurnStep', WHERE WHAT IT READS IS OF BULK AT MOST 1048576: true; the input reads as it did. -/
def fnExactTurnStepUptoRow : OpenClaim := { program := "ytkcfminmojolhaagreat", sum := "a3ac5c0385f8a3f245555b564122d8c8f7ecab760403b213c4dc6582236fab57", func := "loop.example/errandry/laws.FnExactTurnStep", spec := "fnExactTurnStep", inPlace := ["internal/bytealg.IndexByteString", "internal/bytealg.IndexString"], unfollowed := true, recurses := true, named := ["internal/bytealg.MaxLen"], apart := false, narrowed := true }
def FnExactTurnStepUptoSaid : Prop := fnExactTurnStepUptoRow.holds Tryz.pinned (OpenSpec.upto fnExactTurnStepSpec)

/-- 'laws.FnExactTurnDo', WHERE WHAT IT READS IS OF BULK AT MOST 1048576: true; the input reads as it did. -/
def fnExactTurnDoUptoRow : OpenClaim := { program := "ytkcfminmojolhaagreat", sum := "a3ac5c0385f8a3f245555b564122d8c8f7ecab760403b213c4dc6582236fab57", func := "loop.example/errandry/laws.FnExactTurnDo", spec := "fnExactTurnDo", inPlace := ["internal/bytealg.IndexByteString", "internal/bytealg.IndexString"], unfollowed := true, recurses := true, named := ["internal/bytealg.MaxLen"], apart := false, narrowed := true }
def FnExactTurnDoUptoSaid : Prop := fnExactTurnDoUptoRow.holds Tryz.pinned (OpenSpec.upto fnExactTurnDoSpec)

/-- 'laws.FnExactPlayTurns', WHERE WHAT IT READS IS OF BULK AT MOST 1048576: true; the input reads as it did. -/
def fnExactPlayTurnsUptoRow : OpenClaim := { program := "ytkcfminmojolhaagreat", sum := "a3ac5c0385f8a3f245555b564122d8c8f7ecab760403b213c4dc6582236fab57", func := "loop.example/errandry/laws.FnExactPlayTurns", spec := "fnExactPlayTurns", inPlace := ["internal/bytealg.IndexByteString", "internal/bytealg.IndexString"], unfollowed := true, recurses := true, named := ["internal/bytealg.MaxLen"], apart := false, narrowed := true }
def FnExactPlayTurnsUptoSaid : Prop := fnExactPlayTurnsUptoRow.holds Tryz.pinned (OpenSpec.upto fnExactPlayTurnsSpec)

/-- 'laws.FnIdle', WHERE WHAT IT READS IS OF BULK AT MOST 1048576: true; the input reads as it did. -/
def fnIdleUptoRow : OpenClaim := { program := "ytkcfminmojolhaagreat", sum := "a3ac5c0385f8a3f245555b564122d8c8f7ecab760403b213c4dc6582236fab57", func := "loop.example/errandry/laws.FnIdle", spec := "fnIdle", inPlace := ["internal/bytealg.IndexByteString", "internal/bytealg.IndexString"], unfollowed := true, recurses := true, named := ["internal/bytealg.MaxLen"], apart := false, narrowed := true }
def FnIdleUptoSaid : Prop := fnIdleUptoRow.holds Tryz.pinned (OpenSpec.upto fnIdleSpec)

/-- 'laws.FnTick', WHERE WHAT IT READS IS OF BULK AT MOST 1048576: true; the input reads as it did. -/
def fnTickUptoRow : OpenClaim := { program := "ytkcfminmojolhaagreat", sum := "a3ac5c0385f8a3f245555b564122d8c8f7ecab760403b213c4dc6582236fab57", func := "loop.example/errandry/laws.FnTick", spec := "fnTick", inPlace := ["internal/bytealg.IndexByteString", "internal/bytealg.IndexString"], unfollowed := true, recurses := true, named := ["internal/bytealg.MaxLen"], apart := false, narrowed := true }
def FnTickUptoSaid : Prop := fnTickUptoRow.holds Tryz.pinned (OpenSpec.upto fnTickSpec)

/-- 'laws.FnTickTwice', WHERE WHAT IT READS IS OF BULK AT MOST 1048576: true; the input reads as it did. -/
def fnTickTwiceUptoRow : OpenClaim := { program := "ytkcfminmojolhaagreat", sum := "a3ac5c0385f8a3f245555b564122d8c8f7ecab760403b213c4dc6582236fab57", func := "loop.example/errandry/laws.FnTickTwice", spec := "fnTickTwice", inPlace := ["internal/bytealg.IndexByteString", "internal/bytealg.IndexString"], unfollowed := true, recurses := true, named := ["internal/bytealg.MaxLen"], apart := false, narrowed := true }
def FnTickTwiceUptoSaid : Prop := fnTickTwiceUptoRow.holds Tryz.pinned (OpenSpec.upto fnTickTwiceSpec)

/-- 'laws.FnTickAll', WHERE WHAT IT READS IS OF BULK AT MOST 1048576: true; the input reads as it did. -/
def fnTickAllUptoRow : OpenClaim := { program := "ytkcfminmojolhaagreat", sum := "a3ac5c0385f8a3f245555b564122d8c8f7ecab760403b213c4dc6582236fab57", func := "loop.example/errandry/laws.FnTickAll", spec := "fnTickAll", inPlace := ["internal/bytealg.IndexByteString", "internal/bytealg.IndexString"], unfollowed := true, recurses := true, named := ["internal/bytealg.MaxLen"], apart := false, narrowed := true }
def FnTickAllUptoSaid : Prop := fnTickAllUptoRow.holds Tryz.pinned (OpenSpec.upto fnTickAllSpec)

/-- 'laws.FnFallTwo', WHERE WHAT IT READS IS OF BULK AT MOST 1048576: true; the input reads as it did. -/
def fnFallTwoUptoRow : OpenClaim := { program := "ytkcfminmojolhaagreat", sum := "a3ac5c0385f8a3f245555b564122d8c8f7ecab760403b213c4dc6582236fab57", func := "loop.example/errandry/laws.FnFallTwo", spec := "fnFallTwo", inPlace := ["internal/bytealg.IndexByteString", "internal/bytealg.IndexString"], unfollowed := true, recurses := true, named := ["internal/bytealg.MaxLen"], apart := false, narrowed := true }
def FnFallTwoUptoSaid : Prop := fnFallTwoUptoRow.holds Tryz.pinned (OpenSpec.upto fnFallTwoSpec)

end Rows
end Go.Proofs.YtkcfminmojolhaaGreat
