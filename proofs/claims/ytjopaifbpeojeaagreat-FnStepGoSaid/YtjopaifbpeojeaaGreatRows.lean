/-
  No cell of these rows narrows 'for every input' (looked for: loops, veiled, ifaces, maps, wideKeys, modest, calm, conditions, laid).
  DERIVED. THE GIVEN ROWS OF THIS SEAT. 12 by the template 'for every input the law returns true; each argument reads behind the call as it read before'; 0 by the template 'total and deterministic' (their statements: YtjopaifbpeojeaaGreatTotals.lean).
  GIVEN WITH THE SEED: the statements are not yours to turn. If you find one false, say at which input.
  Laid BY PROGRAM, IN A SANDBOX (cutbox-rows.mjs): the forced cells as the released guide's own fill.sh prints them over the translation d1efec65facd3608… (all of the seat's roots in one cut). By AI agents, Wed Nov 11 2026. No macro, syntax, notation, axiom, sorry.
-/
import Derived.Test.YtjopaifbpeojeaaGreatChecked
import GoSem.Claim
import GoSem.ClaimJoined
import GoSem.ClaimMapViews
import Derived.JoinedTies
import Derived.KernelRfl
namespace Go.Proofs.YtjopaifbpeojeaaGreat
/- THE CELL 'sum', in the pinned program and in every row, IS THE sha256 OF THE DUMP (.gsa) THAT YtjopaifbpeojeaaGreatProg.lean LOADS. Nothing in Lean hashes anything: it is a label: what it is worth is what the hold of that sum in a sandbox is worth. -/
noncomputable def Tryz.pinned : Pinned := { name := "ytjopaifbpeojeaagreat", sum := "d1efec65facd3608e815dcc8fff16dbc72ab3ee1d0d6dc5ffb6ededbb0937d56", checked := Tryz.checked }
namespace Rows
def none {H : Type} : Left H := { results := [], args := [] }

/-- 'laws.FnTick': WHATEVER THE INPUT: true; the input reads as it did. -/
def fnTickSpec : ChangeSpec := { name := "fnTick", fn := fun _ => fun
  | [d] => { results := [.lit (.bool true)], args := [d] }
  | _ => none }
def fnTickRow : OpenClaim := { program := "ytjopaifbpeojeaagreat", sum := "d1efec65facd3608e815dcc8fff16dbc72ab3ee1d0d6dc5ffb6ededbb0937d56", func := "loop.example/errandry/laws.FnTick", spec := "fnTick", inPlace := ["internal/bytealg.IndexByteString", "internal/bytealg.IndexString"], unfollowed := true, recurses := true, named := ["internal/bytealg.MaxLen"], apart := false }
def FnTickSaid : Prop := fnTickRow.holds Tryz.pinned (OpenSpec.ofChange fnTickSpec)

/-- ITS FALSE NEIGHBOUR: 'it returns false'. Refute it at one input. -/
def fnTickWrong : ChangeSpec := { name := "fnTick", fn := fun _ => fun
  | [d] => { results := [.lit (.bool false)], args := [d] }
  | _ => none }
def FnTickWrongFalsely : Prop := fnTickRow.holds Tryz.pinned (OpenSpec.ofChange fnTickWrong)

/-- 'laws.FnTickTwice': WHATEVER THE INPUT: true; the input reads as it did. -/
def fnTickTwiceSpec : ChangeSpec := { name := "fnTickTwice", fn := fun _ => fun
  | [d] => { results := [.lit (.bool true)], args := [d] }
  | _ => none }
def fnTickTwiceRow : OpenClaim := { program := "ytjopaifbpeojeaagreat", sum := "d1efec65facd3608e815dcc8fff16dbc72ab3ee1d0d6dc5ffb6ededbb0937d56", func := "loop.example/errandry/laws.FnTickTwice", spec := "fnTickTwice", inPlace := ["internal/bytealg.IndexByteString", "internal/bytealg.IndexString"], unfollowed := true, recurses := true, named := ["internal/bytealg.MaxLen"], apart := false }
def FnTickTwiceSaid : Prop := fnTickTwiceRow.holds Tryz.pinned (OpenSpec.ofChange fnTickTwiceSpec)

/-- ITS FALSE NEIGHBOUR: 'it returns false'. Refute it at one input. -/
def fnTickTwiceWrong : ChangeSpec := { name := "fnTickTwice", fn := fun _ => fun
  | [d] => { results := [.lit (.bool false)], args := [d] }
  | _ => none }
def FnTickTwiceWrongFalsely : Prop := fnTickTwiceRow.holds Tryz.pinned (OpenSpec.ofChange fnTickTwiceWrong)

/-- 'laws.FnTickAll': WHATEVER THE INPUT: true; the input reads as it did. -/
def fnTickAllSpec : ChangeSpec := { name := "fnTickAll", fn := fun _ => fun
  | [d] => { results := [.lit (.bool true)], args := [d] }
  | _ => none }
def fnTickAllRow : OpenClaim := { program := "ytjopaifbpeojeaagreat", sum := "d1efec65facd3608e815dcc8fff16dbc72ab3ee1d0d6dc5ffb6ededbb0937d56", func := "loop.example/errandry/laws.FnTickAll", spec := "fnTickAll", inPlace := ["internal/bytealg.IndexByteString", "internal/bytealg.IndexString"], unfollowed := true, recurses := true, named := ["internal/bytealg.MaxLen"], apart := false }
def FnTickAllSaid : Prop := fnTickAllRow.holds Tryz.pinned (OpenSpec.ofChange fnTickAllSpec)

/-- ITS FALSE NEIGHBOUR: 'it returns false'. Refute it at one input. -/
def fnTickAllWrong : ChangeSpec := { name := "fnTickAll", fn := fun _ => fun
  | [d] => { results := [.lit (.bool false)], args := [d] }
  | _ => none }
def FnTickAllWrongFalsely : Prop := fnTickAllRow.holds Tryz.pinned (OpenSpec.ofChange fnTickAllWrong)

/-- 'laws.FnTurnWhen': WHATEVER THE INPUT: true; the input reads as it did. -/
def fnTurnWhenSpec : ChangeSpec := { name := "fnTurnWhen", fn := fun _ => fun
  | [d] => { results := [.lit (.bool true)], args := [d] }
  | _ => none }
def fnTurnWhenRow : OpenClaim := { program := "ytjopaifbpeojeaagreat", sum := "d1efec65facd3608e815dcc8fff16dbc72ab3ee1d0d6dc5ffb6ededbb0937d56", func := "loop.example/errandry/laws.FnTurnWhen", spec := "fnTurnWhen", inPlace := ["internal/bytealg.IndexByteString", "internal/bytealg.IndexString"], unfollowed := true, recurses := true, named := ["internal/bytealg.MaxLen"], apart := false }
def FnTurnWhenSaid : Prop := fnTurnWhenRow.holds Tryz.pinned (OpenSpec.ofChange fnTurnWhenSpec)

/-- ITS FALSE NEIGHBOUR: 'it returns false'. Refute it at one input. -/
def fnTurnWhenWrong : ChangeSpec := { name := "fnTurnWhen", fn := fun _ => fun
  | [d] => { results := [.lit (.bool false)], args := [d] }
  | _ => none }
def FnTurnWhenWrongFalsely : Prop := fnTurnWhenRow.holds Tryz.pinned (OpenSpec.ofChange fnTurnWhenWrong)

/-- 'laws.FnTurnNone': WHATEVER THE INPUT: true; the input reads as it did. -/
def fnTurnNoneSpec : ChangeSpec := { name := "fnTurnNone", fn := fun _ => fun
  | [d] => { results := [.lit (.bool true)], args := [d] }
  | _ => none }
def fnTurnNoneRow : OpenClaim := { program := "ytjopaifbpeojeaagreat", sum := "d1efec65facd3608e815dcc8fff16dbc72ab3ee1d0d6dc5ffb6ededbb0937d56", func := "loop.example/errandry/laws.FnTurnNone", spec := "fnTurnNone", inPlace := ["internal/bytealg.IndexByteString", "internal/bytealg.IndexString"], unfollowed := true, recurses := true, named := ["internal/bytealg.MaxLen"], apart := false }
def FnTurnNoneSaid : Prop := fnTurnNoneRow.holds Tryz.pinned (OpenSpec.ofChange fnTurnNoneSpec)

/-- ITS FALSE NEIGHBOUR: 'it returns false'. Refute it at one input. -/
def fnTurnNoneWrong : ChangeSpec := { name := "fnTurnNone", fn := fun _ => fun
  | [d] => { results := [.lit (.bool false)], args := [d] }
  | _ => none }
def FnTurnNoneWrongFalsely : Prop := fnTurnNoneRow.holds Tryz.pinned (OpenSpec.ofChange fnTurnNoneWrong)

/-- 'laws.FnTurnOthers': WHATEVER THE INPUT: true; the input reads as it did. -/
def fnTurnOthersSpec : ChangeSpec := { name := "fnTurnOthers", fn := fun _ => fun
  | [d] => { results := [.lit (.bool true)], args := [d] }
  | _ => none }
def fnTurnOthersRow : OpenClaim := { program := "ytjopaifbpeojeaagreat", sum := "d1efec65facd3608e815dcc8fff16dbc72ab3ee1d0d6dc5ffb6ededbb0937d56", func := "loop.example/errandry/laws.FnTurnOthers", spec := "fnTurnOthers", inPlace := ["internal/bytealg.IndexByteString", "internal/bytealg.IndexString"], unfollowed := true, recurses := true, named := ["internal/bytealg.MaxLen"], apart := false }
def FnTurnOthersSaid : Prop := fnTurnOthersRow.holds Tryz.pinned (OpenSpec.ofChange fnTurnOthersSpec)

/-- ITS FALSE NEIGHBOUR: 'it returns false'. Refute it at one input. -/
def fnTurnOthersWrong : ChangeSpec := { name := "fnTurnOthers", fn := fun _ => fun
  | [d] => { results := [.lit (.bool false)], args := [d] }
  | _ => none }
def FnTurnOthersWrongFalsely : Prop := fnTurnOthersRow.holds Tryz.pinned (OpenSpec.ofChange fnTurnOthersWrong)

/-- 'laws.FnStepOk': WHATEVER THE INPUT: true; the input reads as it did. -/
def fnStepOkSpec : ChangeSpec := { name := "fnStepOk", fn := fun _ => fun
  | [d] => { results := [.lit (.bool true)], args := [d] }
  | _ => none }
def fnStepOkRow : OpenClaim := { program := "ytjopaifbpeojeaagreat", sum := "d1efec65facd3608e815dcc8fff16dbc72ab3ee1d0d6dc5ffb6ededbb0937d56", func := "loop.example/errandry/laws.FnStepOk", spec := "fnStepOk", inPlace := ["internal/bytealg.IndexByteString", "internal/bytealg.IndexString"], unfollowed := true, recurses := true, named := ["internal/bytealg.MaxLen"], apart := false }
def FnStepOkSaid : Prop := fnStepOkRow.holds Tryz.pinned (OpenSpec.ofChange fnStepOkSpec)

/-- ITS FALSE NEIGHBOUR: 'it returns false'. Refute it at one input. -/
def fnStepOkWrong : ChangeSpec := { name := "fnStepOk", fn := fun _ => fun
  | [d] => { results := [.lit (.bool false)], args := [d] }
  | _ => none }
def FnStepOkWrongFalsely : Prop := fnStepOkRow.holds Tryz.pinned (OpenSpec.ofChange fnStepOkWrong)

/-- 'laws.FnStepOther': WHATEVER THE INPUT: true; the input reads as it did. -/
def fnStepOtherSpec : ChangeSpec := { name := "fnStepOther", fn := fun _ => fun
  | [d] => { results := [.lit (.bool true)], args := [d] }
  | _ => none }
def fnStepOtherRow : OpenClaim := { program := "ytjopaifbpeojeaagreat", sum := "d1efec65facd3608e815dcc8fff16dbc72ab3ee1d0d6dc5ffb6ededbb0937d56", func := "loop.example/errandry/laws.FnStepOther", spec := "fnStepOther", inPlace := ["internal/bytealg.IndexByteString", "internal/bytealg.IndexString"], unfollowed := true, recurses := true, named := ["internal/bytealg.MaxLen"], apart := false }
def FnStepOtherSaid : Prop := fnStepOtherRow.holds Tryz.pinned (OpenSpec.ofChange fnStepOtherSpec)

/-- ITS FALSE NEIGHBOUR: 'it returns false'. Refute it at one input. -/
def fnStepOtherWrong : ChangeSpec := { name := "fnStepOther", fn := fun _ => fun
  | [d] => { results := [.lit (.bool false)], args := [d] }
  | _ => none }
def FnStepOtherWrongFalsely : Prop := fnStepOtherRow.holds Tryz.pinned (OpenSpec.ofChange fnStepOtherWrong)

/-- 'laws.FnStepSlots': WHATEVER THE INPUT: true; the input reads as it did. -/
def fnStepSlotsSpec : ChangeSpec := { name := "fnStepSlots", fn := fun _ => fun
  | [d] => { results := [.lit (.bool true)], args := [d] }
  | _ => none }
def fnStepSlotsRow : OpenClaim := { program := "ytjopaifbpeojeaagreat", sum := "d1efec65facd3608e815dcc8fff16dbc72ab3ee1d0d6dc5ffb6ededbb0937d56", func := "loop.example/errandry/laws.FnStepSlots", spec := "fnStepSlots", inPlace := ["internal/bytealg.IndexByteString", "internal/bytealg.IndexString"], unfollowed := true, recurses := true, named := ["internal/bytealg.MaxLen"], apart := false }
def FnStepSlotsSaid : Prop := fnStepSlotsRow.holds Tryz.pinned (OpenSpec.ofChange fnStepSlotsSpec)

/-- ITS FALSE NEIGHBOUR: 'it returns false'. Refute it at one input. -/
def fnStepSlotsWrong : ChangeSpec := { name := "fnStepSlots", fn := fun _ => fun
  | [d] => { results := [.lit (.bool false)], args := [d] }
  | _ => none }
def FnStepSlotsWrongFalsely : Prop := fnStepSlotsRow.holds Tryz.pinned (OpenSpec.ofChange fnStepSlotsWrong)

/-- 'laws.FnStepSet': WHATEVER THE INPUT: true; the input reads as it did. -/
def fnStepSetSpec : ChangeSpec := { name := "fnStepSet", fn := fun _ => fun
  | [d] => { results := [.lit (.bool true)], args := [d] }
  | _ => none }
def fnStepSetRow : OpenClaim := { program := "ytjopaifbpeojeaagreat", sum := "d1efec65facd3608e815dcc8fff16dbc72ab3ee1d0d6dc5ffb6ededbb0937d56", func := "loop.example/errandry/laws.FnStepSet", spec := "fnStepSet", inPlace := ["internal/bytealg.IndexByteString", "internal/bytealg.IndexString"], unfollowed := true, recurses := true, named := ["internal/bytealg.MaxLen"], apart := false }
def FnStepSetSaid : Prop := fnStepSetRow.holds Tryz.pinned (OpenSpec.ofChange fnStepSetSpec)

/-- ITS FALSE NEIGHBOUR: 'it returns false'. Refute it at one input. -/
def fnStepSetWrong : ChangeSpec := { name := "fnStepSet", fn := fun _ => fun
  | [d] => { results := [.lit (.bool false)], args := [d] }
  | _ => none }
def FnStepSetWrongFalsely : Prop := fnStepSetRow.holds Tryz.pinned (OpenSpec.ofChange fnStepSetWrong)

/-- 'laws.FnStepGo': WHATEVER THE INPUT: true; the input reads as it did. -/
def fnStepGoSpec : ChangeSpec := { name := "fnStepGo", fn := fun _ => fun
  | [d] => { results := [.lit (.bool true)], args := [d] }
  | _ => none }
def fnStepGoRow : OpenClaim := { program := "ytjopaifbpeojeaagreat", sum := "d1efec65facd3608e815dcc8fff16dbc72ab3ee1d0d6dc5ffb6ededbb0937d56", func := "loop.example/errandry/laws.FnStepGo", spec := "fnStepGo", inPlace := ["internal/bytealg.IndexByteString", "internal/bytealg.IndexString"], unfollowed := true, recurses := true, named := ["internal/bytealg.MaxLen"], apart := false }
def FnStepGoSaid : Prop := fnStepGoRow.holds Tryz.pinned (OpenSpec.ofChange fnStepGoSpec)

/-- ITS FALSE NEIGHBOUR: 'it returns false'. Refute it at one input. -/
def fnStepGoWrong : ChangeSpec := { name := "fnStepGo", fn := fun _ => fun
  | [d] => { results := [.lit (.bool false)], args := [d] }
  | _ => none }
def FnStepGoWrongFalsely : Prop := fnStepGoRow.holds Tryz.pinned (OpenSpec.ofChange fnStepGoWrong)

/-- 'laws.FnStepBegin': WHATEVER THE INPUT: true; the input reads as it did. -/
def fnStepBeginSpec : ChangeSpec := { name := "fnStepBegin", fn := fun _ => fun
  | [d] => { results := [.lit (.bool true)], args := [d] }
  | _ => none }
def fnStepBeginRow : OpenClaim := { program := "ytjopaifbpeojeaagreat", sum := "d1efec65facd3608e815dcc8fff16dbc72ab3ee1d0d6dc5ffb6ededbb0937d56", func := "loop.example/errandry/laws.FnStepBegin", spec := "fnStepBegin", inPlace := ["internal/bytealg.IndexByteString", "internal/bytealg.IndexString"], unfollowed := true, recurses := true, named := ["internal/bytealg.MaxLen"], apart := false }
def FnStepBeginSaid : Prop := fnStepBeginRow.holds Tryz.pinned (OpenSpec.ofChange fnStepBeginSpec)

/-- ITS FALSE NEIGHBOUR: 'it returns false'. Refute it at one input. -/
def fnStepBeginWrong : ChangeSpec := { name := "fnStepBegin", fn := fun _ => fun
  | [d] => { results := [.lit (.bool false)], args := [d] }
  | _ => none }
def FnStepBeginWrongFalsely : Prop := fnStepBeginRow.holds Tryz.pinned (OpenSpec.ofChange fnStepBeginWrong)

/- THE SECOND FORM. 'bulk': how many values and letters a reading holds, each counted each time it is reached (what is shared counts as often as it is met; a slice's spare places count too). A statement '..UptoSaid' is the law's where the arguments, and the package variables that the reading takes, are together of bulk at most 1048576: NARROWER than '..Said'. Prove '..Said' where nothing that the law and all that it calls make is longer than what came in: it says more and counts as full. Else prove '..UptoSaid'. A law counts once. -/
mutual
def uptoBulk {H : Type} : DataW H → Nat
  | .lit (.string bytes) => bytes.length + 1
  | .lit _ => 1
  | .nil => 1
  | .ptr d => uptoBulk d + 1
  | .slice elems spare => uptoBulkAll elems + uptoBulkAll spare + 1
  | .agg parts => uptoBulkAll parts + 1
  | .iface _ d => uptoBulk d + 1
  | .map entries => uptoBulkEntries entries + 1
  | .held _ => 1
def uptoBulkAll {H : Type} : List (DataW H) → Nat
  | [] => 0
  | d :: r => uptoBulk d + uptoBulkAll r
def uptoBulkEntries {H : Type} : List (Lit × DataW H) → Nat
  | [] => 0
  | x :: r => uptoBulkEntry x + uptoBulkEntries r
def uptoBulkEntry {H : Type} : Lit × DataW H → Nat
  | (.string bytes, d) => bytes.length + uptoBulk d + 1
  | (_, d) => uptoBulk d + 1
 end
def uptoSmall : (H : Type) → List (DataW H) → Bool := fun _ ds => decide (uptoBulkAll ds ≤ 1048576)
def OpenSpec.upto (s : _root_.Go.ChangeSpec) : _root_.Go.OpenSpec := { _root_.Go.OpenSpec.ofChange s with cond := some uptoSmall }

/-- 'laws.FnTick', WHERE WHAT IT READS IS OF BULK AT MOST 1048576: true; the input reads as it did. -/
def fnTickUptoRow : OpenClaim := { program := "ytjopaifbpeojeaagreat", sum := "d1efec65facd3608e815dcc8fff16dbc72ab3ee1d0d6dc5ffb6ededbb0937d56", func := "loop.example/errandry/laws.FnTick", spec := "fnTick", inPlace := ["internal/bytealg.IndexByteString", "internal/bytealg.IndexString"], unfollowed := true, recurses := true, named := ["internal/bytealg.MaxLen"], apart := false, narrowed := true }
def FnTickUptoSaid : Prop := fnTickUptoRow.holds Tryz.pinned (OpenSpec.upto fnTickSpec)

/-- 'laws.FnTickTwice', WHERE WHAT IT READS IS OF BULK AT MOST 1048576: true; the input reads as it did. -/
def fnTickTwiceUptoRow : OpenClaim := { program := "ytjopaifbpeojeaagreat", sum := "d1efec65facd3608e815dcc8fff16dbc72ab3ee1d0d6dc5ffb6ededbb0937d56", func := "loop.example/errandry/laws.FnTickTwice", spec := "fnTickTwice", inPlace := ["internal/bytealg.IndexByteString", "internal/bytealg.IndexString"], unfollowed := true, recurses := true, named := ["internal/bytealg.MaxLen"], apart := false, narrowed := true }
def FnTickTwiceUptoSaid : Prop := fnTickTwiceUptoRow.holds Tryz.pinned (OpenSpec.upto fnTickTwiceSpec)

/-- 'laws.FnTickAll', WHERE WHAT IT READS IS OF BULK AT MOST 1048576: true; the input reads as it did. -/
def fnTickAllUptoRow : OpenClaim := { program := "ytjopaifbpeojeaagreat", sum := "d1efec65facd3608e815dcc8fff16dbc72ab3ee1d0d6dc5ffb6ededbb0937d56", func := "loop.example/errandry/laws.FnTickAll", spec := "fnTickAll", inPlace := ["internal/bytealg.IndexByteString", "internal/bytealg.IndexString"], unfollowed := true, recurses := true, named := ["internal/bytealg.MaxLen"], apart := false, narrowed := true }
def FnTickAllUptoSaid : Prop := fnTickAllUptoRow.holds Tryz.pinned (OpenSpec.upto fnTickAllSpec)

/-- 'laws.FnTurnWhen', WHERE WHAT IT READS IS OF BULK AT MOST 1048576: true; the input reads as it did. -/
def fnTurnWhenUptoRow : OpenClaim := { program := "ytjopaifbpeojeaagreat", sum := "d1efec65facd3608e815dcc8fff16dbc72ab3ee1d0d6dc5ffb6ededbb0937d56", func := "loop.example/errandry/laws.FnTurnWhen", spec := "fnTurnWhen", inPlace := ["internal/bytealg.IndexByteString", "internal/bytealg.IndexString"], unfollowed := true, recurses := true, named := ["internal/bytealg.MaxLen"], apart := false, narrowed := true }
def FnTurnWhenUptoSaid : Prop := fnTurnWhenUptoRow.holds Tryz.pinned (OpenSpec.upto fnTurnWhenSpec)

/-- 'laws.FnTurnNone', WHERE WHAT IT READS IS OF BULK AT MOST 1048576: true; the input reads as it did. -/
def fnTurnNoneUptoRow : OpenClaim := { program := "ytjopaifbpeojeaagreat", sum := "d1efec65facd3608e815dcc8fff16dbc72ab3ee1d0d6dc5ffb6ededbb0937d56", func := "loop.example/errandry/laws.FnTurnNone", spec := "fnTurnNone", inPlace := ["internal/bytealg.IndexByteString", "internal/bytealg.IndexString"], unfollowed := true, recurses := true, named := ["internal/bytealg.MaxLen"], apart := false, narrowed := true }
def FnTurnNoneUptoSaid : Prop := fnTurnNoneUptoRow.holds Tryz.pinned (OpenSpec.upto fnTurnNoneSpec)

/-- 'laws.FnTurnOthers', WHERE WHAT IT READS IS OF BULK AT MOST 1048576: true; the input reads as it did. -/
def fnTurnOthersUptoRow : OpenClaim := { program := "ytjopaifbpeojeaagreat", sum := "d1efec65facd3608e815dcc8fff16dbc72ab3ee1d0d6dc5ffb6ededbb0937d56", func := "loop.example/errandry/laws.FnTurnOthers", spec := "fnTurnOthers", inPlace := ["internal/bytealg.IndexByteString", "internal/bytealg.IndexString"], unfollowed := true, recurses := true, named := ["internal/bytealg.MaxLen"], apart := false, narrowed := true }
def FnTurnOthersUptoSaid : Prop := fnTurnOthersUptoRow.holds Tryz.pinned (OpenSpec.upto fnTurnOthersSpec)

/-- 'laws.FnStepOk', WHERE WHAT IT READS IS OF BULK AT MOST 1048576: true; the input reads as it did. -/
def fnStepOkUptoRow : OpenClaim := { program := "ytjopaifbpeojeaagreat", sum := "d1efec65facd3608e815dcc8fff16dbc72ab3ee1d0d6dc5ffb6ededbb0937d56", func := "loop.example/errandry/laws.FnStepOk", spec := "fnStepOk", inPlace := ["internal/bytealg.IndexByteString", "internal/bytealg.IndexString"], unfollowed := true, recurses := true, named := ["internal/bytealg.MaxLen"], apart := false, narrowed := true }
def FnStepOkUptoSaid : Prop := fnStepOkUptoRow.holds Tryz.pinned (OpenSpec.upto fnStepOkSpec)

/-- 'laws.FnStepOther', WHERE WHAT IT READS IS OF BULK AT MOST 1048576: true; the input reads as it did. -/
def fnStepOtherUptoRow : OpenClaim := { program := "ytjopaifbpeojeaagreat", sum := "d1efec65facd3608e815dcc8fff16dbc72ab3ee1d0d6dc5ffb6ededbb0937d56", func := "loop.example/errandry/laws.FnStepOther", spec := "fnStepOther", inPlace := ["internal/bytealg.IndexByteString", "internal/bytealg.IndexString"], unfollowed := true, recurses := true, named := ["internal/bytealg.MaxLen"], apart := false, narrowed := true }
def FnStepOtherUptoSaid : Prop := fnStepOtherUptoRow.holds Tryz.pinned (OpenSpec.upto fnStepOtherSpec)

/-- 'laws.FnStepSlots', WHERE WHAT IT READS IS OF BULK AT MOST 1048576: true; the input reads as it did. -/
def fnStepSlotsUptoRow : OpenClaim := { program := "ytjopaifbpeojeaagreat", sum := "d1efec65facd3608e815dcc8fff16dbc72ab3ee1d0d6dc5ffb6ededbb0937d56", func := "loop.example/errandry/laws.FnStepSlots", spec := "fnStepSlots", inPlace := ["internal/bytealg.IndexByteString", "internal/bytealg.IndexString"], unfollowed := true, recurses := true, named := ["internal/bytealg.MaxLen"], apart := false, narrowed := true }
def FnStepSlotsUptoSaid : Prop := fnStepSlotsUptoRow.holds Tryz.pinned (OpenSpec.upto fnStepSlotsSpec)

/-- 'laws.FnStepSet', WHERE WHAT IT READS IS OF BULK AT MOST 1048576: true; the input reads as it did. -/
def fnStepSetUptoRow : OpenClaim := { program := "ytjopaifbpeojeaagreat", sum := "d1efec65facd3608e815dcc8fff16dbc72ab3ee1d0d6dc5ffb6ededbb0937d56", func := "loop.example/errandry/laws.FnStepSet", spec := "fnStepSet", inPlace := ["internal/bytealg.IndexByteString", "internal/bytealg.IndexString"], unfollowed := true, recurses := true, named := ["internal/bytealg.MaxLen"], apart := false, narrowed := true }
def FnStepSetUptoSaid : Prop := fnStepSetUptoRow.holds Tryz.pinned (OpenSpec.upto fnStepSetSpec)

/-- 'laws.FnStepGo', WHERE WHAT IT READS IS OF BULK AT MOST 1048576: true; the input reads as it did. -/
def fnStepGoUptoRow : OpenClaim := { program := "ytjopaifbpeojeaagreat", sum := "d1efec65facd3608e815dcc8fff16dbc72ab3ee1d0d6dc5ffb6ededbb0937d56", func := "loop.example/errandry/laws.FnStepGo", spec := "fnStepGo", inPlace := ["internal/bytealg.IndexByteString", "internal/bytealg.IndexString"], unfollowed := true, recurses := true, named := ["internal/bytealg.MaxLen"], apart := false, narrowed := true }
def FnStepGoUptoSaid : Prop := fnStepGoUptoRow.holds Tryz.pinned (OpenSpec.upto fnStepGoSpec)

/-- 'laws.FnStepBegin', WHERE WHAT IT READS IS OF BULK AT MOST 1048576: true; the input reads as it did. -/
def fnStepBeginUptoRow : OpenClaim := { program := "ytjopaifbpeojeaagreat", sum := "d1efec65facd3608e815dcc8fff16dbc72ab3ee1d0d6dc5ffb6ededbb0937d56", func := "loop.example/errandry/laws.FnStepBegin", spec := "fnStepBegin", inPlace := ["internal/bytealg.IndexByteString", "internal/bytealg.IndexString"], unfollowed := true, recurses := true, named := ["internal/bytealg.MaxLen"], apart := false, narrowed := true }
def FnStepBeginUptoSaid : Prop := fnStepBeginUptoRow.holds Tryz.pinned (OpenSpec.upto fnStepBeginSpec)

end Rows
end Go.Proofs.YtjopaifbpeojeaaGreat
