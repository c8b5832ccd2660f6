/-
  What functions of the seat answer, each proved once; each under the condition that cells bear what it is given, as its statement says.
-/
import Derived.Test.YtmkiojlebjknlaaGreatAm6
import Derived.Test.YtmkiojlebjknlaaGreatInst
import Derived.Lib.Bytealg
set_option linter.all false
/-
 VALUES, STEPS, RUNS, WORLDS: what they are in plain data, and how cells bear them.
-/
set_option maxRecDepth 8000
namespace Go.Proofs.YtmkiojlebjknlaaGreat
open Go.AM
def primF (f : FuncId) (args : List V) : Option V :=
 match f == 193 with
 | false => none
 | true => match args with
  | [.c (.str s), .c (.int .u8 c)] => some (.c (.int .i64 (Lib.indexByte s.data.toList c.toNat.toUInt8)))
  | _ => none
noncomputable def Dz : Prg := ⟨Tryz.prog, TTz, annF, primF⟩
@[simp] theorem Dz_T : Dz.T = TTz := id rfl
@[simp] theorem Dz_ann : Dz.ann = annF := id rfl
abbrev ci (n : Int) : Cell := .int .i64 n
abbrev encI (n : Int) : List Cell := [.int .i64 n]
structure PVal where
 k : Int
 n : Int
 deriving DecidableEq, Inhabited
structure POp where
 kind : Int
 r : Int
 s : Int
 to : Int
 v : PVal
 deriving DecidableEq, Inhabited
structure RunG (σ τ : Type) where
 id : Int
 at_ : Int
 slots : σ
 full : Int
 mail : σ
 state : Int
 due : Int
 links : τ
 watched : τ
 trap : Bool
 why : PVal
 turns : Int
 deriving DecidableEq, Inhabited
abbrev PRun := RunG (List PVal) (List Int)
abbrev RunC := RunG Cell Cell
structure PWorld where
 code : List POp
 runs : List PRun
 queue : List Int
 now : Int
 sent : Int
 taken : Int
 lost : Int
 deriving DecidableEq, Inhabited
def encV (v : PVal) : List Cell := [.int .i64 v.k, .int .i64 v.n]
def encO (o : POp) : List Cell := [.int .i64 o.kind, .int .i64 o.r, .int .i64 o.s, .int .i64 o.to, .int .i64 o.v.k, .int .i64 o.v.n]
def encR (r : RunC) : List Cell := [.int .i64 r.id, .int .i64 r.at_, r.slots, .int .i64 r.full, r.mail, .int .i64 r.state, .int .i64 r.due, r.links, r.watched, .bool r.trap, .int .i64 r.why.k, .int .i64 r.why.n, .int .i64 r.turns]
attribute [simp] encV encO encR
structure RunR (h : H) (r : PRun) (c : RunC) : Prop where
 id : c.id = r.id
 at_ : c.at_ = r.at_
 slots : Sl h c.slots 2 encV r.slots
 full : c.full = r.full
 mail : Sl h c.mail 2 encV r.mail
 state : c.state = r.state
 due : c.due = r.due
 links : Sl h c.links 1 encI r.links
 watched : Sl h c.watched 1 encI r.watched
 trap : c.trap = r.trap
 why : c.why = r.why
 turns : c.turns = r.turns
structure RunsR (h : H) (s : Cell) (rs : List PRun) (cs : List RunC) : Prop where
 sl : Sl h s 13 encR cs
 len : cs.length = rs.length
 each : ∀ i (hi : i < rs.length), RunR h rs[i] (cs[i]'(by omega))
structure WorldC where
 code : Cell
 runs : Cell
 queue : Cell
 now : Int
 sent : Int
 taken : Int
 lost : Int
def encW (w : WorldC) : List Cell := [w.code, w.runs, w.queue, .int .i64 w.now, .int .i64 w.sent, .int .i64 w.taken, .int .i64 w.lost]
attribute [simp] encW
structure WorldR (h : H) (w : PWorld) (c : WorldC) (cs : List RunC) : Prop where
 code : Sl h c.code 6 encO w.code
 runs : RunsR h c.runs w.runs cs
 queue : Sl h c.queue 1 encI w.queue
 now : c.now = w.now
 sent : c.sent = w.sent
 taken : c.taken = w.taken
 lost : c.lost = w.lost
@[simp] theorem eta_op (o : POp) : (⟨o.kind, o.r, o.s, o.to, ⟨o.v.k, o.v.n⟩⟩ : POp) = o := rfl
@[simp] theorem eta_val (v : PVal) : (⟨v.k, v.n⟩ : PVal) = v := rfl
end Go.Proofs.YtmkiojlebjknlaaGreat

/-
 THE REFERENCE'S FUNCTIONS OF VALUES AND STEPS: what they answer.
-/
set_option maxRecDepth 8000
namespace Go.Proofs.YtmkiojlebjknlaaGreat
open Go.AM
variable {h : H}
@[simp] theorem c_l6In (n a b : Int) : Dz.den 39 [.c (.int .i64 n), .c (.int .i64 a), .c (.int .i64 b)] h = some (.c (.bool (decide (a ≤ n ∧ n ≤ b))), h) := by
 refine den_plain rfl Tryz.func39 rfl rfl ?_
 simp [Tryz.f39, an39]
 grind
theorem c_l11Among {s : Cell} {xs : List Int} (hS : Sl h s 1 encI xs) (n : Int) :
  Dz.den 81 [.c s, .c (.int .i64 n)] h = some (.c (.bool (decide (n ∈ xs))), h) := by
 refine den_plain rfl Tryz.func81 rfl rfl ?_
 simp [Tryz.f81, an81]
 refine count_wp xs.length (fun i => ([.c s, .c (ci n), .c (.bool false), .c (ci i)], [], [], h)) (fun i => AllTo xs i (· ≠ n)) rfl (by simp) ?_ ?_
 ·intro i hi hP
  rw [Wp_body]
  simp [hS.lenA, ixA_nat hS, hS.at, hi, wrap_succ (hS.lt hi), allTo_succ hi, hP]
  rintro rfl; simp
 ·intro hP
  rw [Wp_body]
  simp [hS.lenA]
  exact fun hn => allTo_len.1 hP n hn rfl
def valOk (v : PVal) : Bool :=
 if v.k = 0 then v.n = 0 else if v.k = 1 then decide (-99 ≤ v.n ∧ v.n ≤ 99) else if v.k = 2 then decide (0 ≤ v.n ∧ v.n ≤ 9) else if v.k = 3 then decide (1 ≤ v.n ∧ v.n ≤ 6) else false
@[simp] theorem c_ValOk (k n : Int) : Dz.den 13 [.g [.int .i64 k, .int .i64 n]] h = some (.c (.bool (valOk ⟨k, n⟩)), h) := by
 refine den_plain rfl Tryz.func13 rfl rfl ?_
 simp [Tryz.f13, an13]
 grind [valOk]
@[simp] theorem c_l2Slot (n : Int) : Dz.den 169 [.c (.int .i64 n)] h = some (.c (.bool (decide (0 ≤ n ∧ n ≤ 3))), h) := by
 refine den_plain rfl Tryz.func169 rfl rfl ?_
 simp [Tryz.f169, an169]
@[simp] theorem c_l2To (n : Int) : Dz.den 133 [.c (.int .i64 n)] h = some (.c (.bool (decide (0 ≤ n ∧ n ≤ 15))), h) := by
 refine den_plain rfl Tryz.func133 rfl rfl ?_
 simp [Tryz.f133, an133]
@[simp] theorem c_l1Fits (k n kind : Int) : Dz.den 160 [.g [.int .i64 k, .int .i64 n], .c (.int .i64 kind)] h = some (.c (.bool (decide (kind = 0 ∨ k = kind))), h) := by
 refine den_plain rfl Tryz.func160 rfl rfl ?_
 simp [Tryz.f160, an160]
 grind
@[simp] theorem c_l3Fills (k : Int) : Dz.den 130 [.c (.int .i64 k)] h = some (.c (.bool (decide (k = 1 ∨ k = 2 ∨ k = 4 ∨ k = 5 ∨ k = 7 ∨ k = 8))), h) := by
 refine den_plain rfl Tryz.func130 rfl rfl ?_
 simp [Tryz.f130, an130]
 grind
@[simp] theorem c_l3Goes (k : Int) : Dz.den 128 [.c (.int .i64 k)] h = some (.c (.bool (decide (k = 5 ∨ k = 8 ∨ k = 9 ∨ k = 10))), h) := by
 refine den_plain rfl Tryz.func128 rfl rfl ?_
 simp [Tryz.f128, an128]
 grind
end Go.Proofs.YtmkiojlebjknlaaGreat

/-
 THE REFERENCE'S FUNCTIONS OF STEPS: what they answer.
-/
set_option maxRecDepth 8000
namespace Go.Proofs.YtmkiojlebjknlaaGreat
open Go.AM
variable {h : H}
def form (k : Int) : List Bool :=
 if k = 1 then [true, false, false, true] else if k = 2 ∨ k = 3 ∨ k = 6 ∨ k = 7 then [true, true, false, false] else if k = 4 ∨ k = 11 ∨ k = 12 ∨ k = 14 then [true, false, false, false]
 else if k = 5 then [true, false, true, false] else if k = 8 then [true, true, true, true] else if k = 9 then [false, false, true, false] else if k = 10 then [true, false, true, true]
 else if k = 13 then [false, false, false, true] else []
abbrev encB (b : Bool) : List Cell := [.bool b]
def hasR (k : Int) : Bool := decide (k = 1 ∨ k = 2 ∨ k = 3 ∨ k = 4 ∨ k = 5 ∨ k = 6 ∨ k = 7 ∨ k = 8 ∨ k = 10 ∨ k = 11 ∨ k = 12 ∨ k = 14)
def hasS (k : Int) : Bool := decide (k = 2 ∨ k = 3 ∨ k = 6 ∨ k = 7 ∨ k = 8)
def hasT (k : Int) : Bool := decide (k = 5 ∨ k = 8 ∨ k = 9 ∨ k = 10)
def hasV (k : Int) : Bool := decide (k = 1 ∨ k = 8 ∨ k = 10 ∨ k = 13)
def opVOk (k : Int) (v : PVal) : Bool := if k = 8 then decide (v.k = 1 ∧ 1 ≤ v.n ∧ v.n ≤ 99) else if k = 13 then decide (v.k = 1 ∧ 0 ≤ v.n ∧ v.n ≤ 1) else if hasV k then valOk v else decide (v.k = 0 ∧ v.n = 0)
def opOk (o : POp) : Bool :=
 decide (1 ≤ o.kind ∧ o.kind ≤ 14) && (if hasR o.kind then decide (0 ≤ o.r ∧ o.r ≤ 3) else decide (o.r = 0)) && (if hasS o.kind then decide (0 ≤ o.s ∧ o.s ≤ 3) else decide (o.s = 0)) &&
 (if hasT o.kind then decide (0 ≤ o.to ∧ o.to ≤ 15) else decide (o.to = 0)) && opVOk o.kind o.v
theorem kinds (k : Int) : k = 1 ∨ k = 2 ∨ k = 3 ∨ k = 4 ∨ k = 5 ∨ k = 6 ∨ k = 7 ∨ k = 8 ∨ k = 9 ∨ k = 10 ∨ k = 11 ∨ k = 12 ∨ k = 13 ∨ k = 14 ∨
  (k ≠ 1 ∧ k ≠ 2 ∧ k ≠ 3 ∧ k ≠ 4 ∧ k ≠ 5 ∧ k ≠ 6 ∧ k ≠ 7 ∧ k ≠ 8 ∧ k ≠ 9 ∧ k ≠ 10 ∧ k ≠ 11 ∧ k ≠ 12 ∧ k ≠ 13 ∧ k ≠ 14) := by omega
theorem c_l2Form (k : Int) : Dz.den 159 [.c (.int .i64 k)] h = some (.c (.sl h.length 0 (form k).length none), h.push ⟨false, 1, (form k).map encB⟩) := by
 rw [← Wp_eq]
 refine den_wp rfl Tryz.func159 rfl ?_
 rcases kinds k with hk | hk | hk | hk | hk | hk | hk | hk | hk | hk | hk | hk | hk | hk | hk
 all_goals (try subst hk)
 all_goals simp [Tryz.f159, an159, form, *]
def uses (o : POp) : List Int :=
 if o.kind = 2 then [o.s] else if o.kind = 3 ∨ o.kind = 6 then [o.r, o.s] else if o.kind = 10 ∨ o.kind = 11 ∨ o.kind = 12 ∨ o.kind = 14 then [o.r] else []
theorem c_l2Uses (o : POp) : Dz.den 79 [.g (encO o)] h = some (.c (.sl h.length 0 (uses o).length none), h.push ⟨false, 1, (uses o).map encI⟩) := by
 rw [← Wp_eq]
 refine den_wp rfl Tryz.func79 rfl ?_
 obtain ⟨k, r, s, t, v⟩ := o
 rcases kinds k with hk | hk | hk | hk | hk | hk | hk | hk | hk | hk | hk | hk | hk | hk | hk
 all_goals (try subst hk)
 all_goals simp [Tryz.f79, an79, uses, *]
theorem c_l3Bit (n : Int) (h0 : 0 ≤ n) (h1 : n ≤ 3) : Dz.den 129 [.c (.int .i64 n)] h = some (.c (.int .i64 (2 ^ n.toNat)), h) := by
 refine den_plain rfl Tryz.func129 rfl rfl ?_
 obtain rfl | rfl | rfl | rfl : n = 0 ∨ n = 1 ∨ n = 2 ∨ n = 3 := by omega
 all_goals simp [Tryz.f129, an129]
theorem range3 (r : Int) : (0 ≤ r ∧ r ≤ 3) ∨ (¬ (0 ≤ r ∧ r ≤ 3) ∧ r ≠ 0) := by omega
theorem range15 (r : Int) : (0 ≤ r ∧ r ≤ 15) ∨ (¬ (0 ≤ r ∧ r ≤ 15) ∧ r ≠ 0) := by omega
end Go.Proofs.YtmkiojlebjknlaaGreat

/-
 THE PROGRAM'S FUNCTIONS OF VALUES: what they answer; strings.Contains at one byte.
-/
set_option maxRecDepth 8000
namespace Go.Proofs.YtmkiojlebjknlaaGreat
open Go.AM
variable {h : H}
@[simp] theorem c_in (n a b : Int) : Dz.den 52 [.c (.int .i64 n), .c (.int .i64 a), .c (.int .i64 b)] h = some (.c (.bool (decide (a ≤ n ∧ n ≤ b))), h) := by
 refine den_plain rfl Tryz.func52 rfl rfl ?_
 simp [Tryz.f52]
 grind
@[simp] theorem c_IValOk (k n : Int) : Dz.den 34 [.g [.int .i64 k, .int .i64 n]] h = some (.c (.bool (valOk ⟨k, n⟩)), h) := by
 refine den_plain rfl Tryz.func34 rfl rfl ?_
 simp [Tryz.f34]
 grind [valOk]
theorem c_IndexByte (s : ByteArray) (c : Int) : Dz.den 193 [.c (.str s), .c (.int .u8 c)] h = some (.c (.int .i64 (Lib.indexByte s.data.toList c.toNat.toUInt8)), h) := den_prim rfl
theorem c_SIndex (s : ByteArray) (c : UInt8) : Dz.den 190 [.c (.str s), .c (.str ⟨#[c]⟩)] h = some (.c (.int .i64 (Lib.indexByte s.data.toList c)), h) := by
 refine den_plain rfl Tryz.func190 rfl rfl ?_
 have e1 : (⟨#[c]⟩ : ByteArray).size = 1 := rfl
 have e2 : ¬ (⟨#[c]⟩ : ByteArray) = ByteArray.empty := fun e => by cases congrArg ByteArray.size e
 have e3 : (⟨#[c]⟩ : ByteArray)[0]? = some c := rfl
 simp [Tryz.f190, c_IndexByte, e1, e2, e3]
 refine ⟨fun e => ?_, fun _ => rfl⟩
 have : s.data.toList = [c] := by rw [← Lib.toList_data, e]
 simp [this, Lib.indexByte]
theorem c_Index (s : ByteArray) (c : UInt8) : Dz.den 185 [.c (.str s), .c (.str ⟨#[c]⟩)] h = some (.c (.int .i64 (Lib.indexByte s.data.toList c)), h) := by
 refine den_plain rfl Tryz.func185 rfl rfl ?_
 simp [Tryz.f185, c_SIndex]
theorem c_Contains (s : ByteArray) (c : UInt8) : Dz.den 178 [.c (.str s), .c (.str ⟨#[c]⟩)] h = some (.c (.bool (decide (0 ≤ Lib.indexByte s.data.toList c))), h) := by
 refine den_plain rfl Tryz.func178 rfl rfl ?_
 simp [Tryz.f178, c_Index]
end Go.Proofs.YtmkiojlebjknlaaGreat

/-
 THE PROGRAM'S FUNCTIONS OF STEPS: what they answer.
-/
set_option maxRecDepth 8000
namespace Go.Proofs.YtmkiojlebjknlaaGreat
open Go.AM
variable {h : H}
def fillsM (k : Int) : Bool := decide (k = 1 ∨ k = 2 ∨ k = 4 ∨ k = 5 ∨ k = 7 ∨ k = 8)
structure MannerP (k : Int) (wd hs rd : ByteArray) (fl : Bool) : Prop where
 word : wd.data.toList = [] ↔ ¬ (1 ≤ k ∧ k ≤ 14)
 hR : decide (0 ≤ Lib.indexByte hs.data.toList 82) = hasR k
 hS : decide (0 ≤ Lib.indexByte hs.data.toList 83) = hasS k
 hT : decide (0 ≤ Lib.indexByte hs.data.toList 84) = hasT k
 hV : decide (0 ≤ Lib.indexByte hs.data.toList 86) = hasV k
 reads : rd.data.toList = if k = 2 then [83] else if k = 3 ∨ k = 6 then [82, 83] else if k = 10 ∨ k = 11 ∨ k = 12 ∨ k = 14 then [82] else []
 fills : fl = fillsM k
def MannersP (el : List (List Cell)) : Prop := ∀ k : Nat, k < 15 → ∃ wd hs rd fl, el[k]? = some [.str wd, .str hs, .str rd, .bool fl] ∧ (1 ≤ k → MannerP k wd hs rd fl)
set_option maxRecDepth 20000 in
theorem c_manners : @Wp _ (Dz.den 180 [] h) ⟨fun r => ∃ el, MannersP el ∧ r = (.c (.sl h.length 0 15 none), h.push ⟨false, 4, el⟩)⟩ := by
 refine den_wp rfl Tryz.func180 rfl ?_
 simp [Tryz.f180]
 refine ⟨_, ?_, rfl⟩
 intro k hk
 obtain rfl | rfl | rfl | rfl | rfl | rfl | rfl | rfl | rfl | rfl | rfl | rfl | rfl | rfl | rfl : k = 0 ∨ k = 1 ∨ k = 2 ∨ k = 3 ∨ k = 4 ∨ k = 5 ∨ k = 6 ∨ k = 7 ∨ k = 8 ∨ k = 9 ∨ k = 10 ∨ k = 11 ∨ k = 12 ∨ k = 13 ∨ k = 14 := by omega
 ·exact ⟨_, _, _, _, rfl, fun h => by omega⟩
 all_goals exact ⟨_, _, _, _, rfl, fun h => ⟨by decide, by decide, by decide, by decide, by decide, by decide, by decide⟩⟩
theorem c_how (o : POp) : ∃ wd hs rd fl, MannerP o.kind wd hs rd fl ∧ Dz.den 151 [.g (encO o)] h = some (.g [.str wd, .str hs, .str rd, .bool fl], h) := by
 by_cases hk : 1 ≤ o.kind ∧ o.kind ≤ 14
 rotate_left
 ·refine ⟨.empty, .empty, .empty, false, ⟨by simp [hk], ?_, ?_, ?_, ?_, ?_, ?_⟩, ?_⟩
  ·simp [Lib.indexByte, hasR]; omega
  ·simp [Lib.indexByte, hasS]; omega
  ·simp [Lib.indexByte, hasT]; omega
  ·simp [Lib.indexByte, hasV]; omega
  ·rw [if_neg (by omega), if_neg (by omega), if_neg (by omega)]; rfl
  ·simp [fillsM]; omega
  ·refine den_plain rfl Tryz.func151 rfl rfl ?_
   simp [Tryz.f151, hk]
 obtain ⟨⟨r, h'⟩, e, el, hel, e2⟩ := c_manners (h := h)
 cases e2
 obtain ⟨n, hn⟩ : ∃ n : Nat, o.kind = n := ⟨o.kind.toNat, by omega⟩
 obtain ⟨wd, hs, rd, fl, h1, h2⟩ := hel n (by omega)
 refine ⟨wd, hs, rd, fl, hn ▸ h2 (by omega), ?_⟩
 refine den_plain rfl Tryz.func151 rfl rfl ?_
 have hn0 : 0 ≤ o.kind := by omega
 have hn1 : o.kind < 15 := by omega
 have hn2 : o.kind.toNat = n := by omega
 simp [Tryz.f151, hk, e, hn0, hn1, hn2, h1]
 kernel_rfl
theorem c_has (o : POp) (c : UInt8) : ∃ hs : ByteArray, ((decide (0 ≤ Lib.indexByte hs.data.toList 82) = hasR o.kind) ∧ (decide (0 ≤ Lib.indexByte hs.data.toList 83) = hasS o.kind) ∧ (decide (0 ≤ Lib.indexByte hs.data.toList 84) = hasT o.kind) ∧ (decide (0 ≤ Lib.indexByte hs.data.toList 86) = hasV o.kind)) ∧
  Dz.den 148 [.g (encO o), .c (.str ⟨#[c]⟩)] h = some (.c (.bool (decide (0 ≤ Lib.indexByte hs.data.toList c))), h) := by
 obtain ⟨wd, hs, rd, fl, hm, e⟩ := c_how (h := h) o
 refine ⟨hs, ⟨hm.hR, hm.hS, hm.hT, hm.hV⟩, ?_⟩
 refine den_plain rfl Tryz.func148 rfl rfl ?_
 simp at e
 simp [Tryz.f148, e, c_Contains]
theorem c_hasR (o : POp) : Dz.den 148 [.g (encO o), .c (.str ⟨#[82]⟩)] h = some (.c (.bool (hasR o.kind)), h) := by
 obtain ⟨hs, h1, e⟩ := c_has (h := h) o 82; rw [e, h1.1]
theorem c_hasS (o : POp) : Dz.den 148 [.g (encO o), .c (.str ⟨#[83]⟩)] h = some (.c (.bool (hasS o.kind)), h) := by
 obtain ⟨hs, h1, e⟩ := c_has (h := h) o 83; rw [e, h1.2.1]
theorem c_hasT (o : POp) : Dz.den 148 [.g (encO o), .c (.str ⟨#[84]⟩)] h = some (.c (.bool (hasT o.kind)), h) := by
 obtain ⟨hs, h1, e⟩ := c_has (h := h) o 84; rw [e, h1.2.2.1]
theorem c_hasV (o : POp) : Dz.den 148 [.g (encO o), .c (.str ⟨#[86]⟩)] h = some (.c (.bool (hasV o.kind)), h) := by
 obtain ⟨hs, h1, e⟩ := c_has (h := h) o 86; rw [e, h1.2.2.2]
theorem c_valOkO (o : POp) : Dz.den 177 [.g (encO o)] h = some (.c (.bool (if o.kind = 8 then decide (o.v.k = 1 ∧ 1 ≤ o.v.n ∧ o.v.n ≤ 99) else if o.kind = 13 then decide (o.v.k = 1 ∧ 0 ≤ o.v.n ∧ o.v.n ≤ 1) else valOk o.v)), h) := by
 refine den_plain rfl Tryz.func177 rfl rfl ?_
 simp [Tryz.f177]
 grind [valOk]
theorem c_field {id : Nat} {o : POp} (hg : h.get id = some ⟨false, 6, [encO o]⟩) (c : UInt8) (b : Bool) (n m : Int) (hb : Dz.den 148 [.g (encO o), .c (.str ⟨#[c]⟩)] h = some (.c (.bool b), h)) :
  Dz.den 176 [.c (.str ⟨#[c]⟩), .c (.int .i64 n), .c (.int .i64 m), .c (.ptr id 0 0)] h = some (.c (.bool (if b then decide (0 ≤ n ∧ n ≤ m) else decide (n = 0))), h) := by
 refine den_plain rfl Tryz.func176 rfl rfl ?_
 simp at hb
 simp [Tryz.f176, H.cellsAt, hg, hb]
 cases b <;> simp
end Go.Proofs.YtmkiojlebjknlaaGreat

/-
 THE PROGRAM'S OpOk, CodeOk: what they answer.
-/
set_option maxRecDepth 8000
namespace Go.Proofs.YtmkiojlebjknlaaGreat
open Go.AM
variable {h : H}
set_option maxHeartbeats 1000000 in
theorem c_IOpOk (o : POp) : Dz.den 147 [.g (encO o)] h = some (.c (.bool (opOk o)), h) := by
 refine den_plain rfl Tryz.func147 rfl rfl ?_
 have hg : (h.push ⟨false, 6, [encO o]⟩).get h.length = some ⟨false, 6, [encO o]⟩ := get_push_self
 have hkk : h.keeps (h.push ⟨false, 6, [encO o]⟩) := by simp
 have kR := fun k => c_hasR (h := k) o
 have kS := fun k => c_hasS (h := k) o
 have kT := fun k => c_hasT (h := k) o
 have kV := fun k => c_hasV (h := k) o
 have fR := fun k hg n m => c_field (h := k) (id := h.length) (o := o) hg 82 (hasR o.kind) n m (kR k)
 have fS := fun k hg n m => c_field (h := k) (id := h.length) (o := o) hg 83 (hasS o.kind) n m (kS k)
 have fT := fun k hg n m => c_field (h := k) (id := h.length) (o := o) hg 84 (hasT o.kind) n m (kT k)
 have vO := fun k => c_valOkO (h := k) o
 obtain ⟨wd, hs, rd, fl, hm, eh⟩ := c_how (h := h.push ⟨false, 6, [encO o]⟩) o
 have hw := hm.word
 have fR := fR _ hg
 have fS := fS _ hg
 have fT := fT _ hg
 have kV := kV (h.push ⟨false, 6, [encO o]⟩)
 have vO := vO (h.push ⟨false, 6, [encO o]⟩)
 simp at fR fS fT kV vO eh hg hkk
 rw [← Lib.toList_data] at hw
 have h8 : hasV o.kind = false → o.kind ≠ 8 ∧ o.kind ≠ 13 := by simp [hasV]; omega
 by_cases hk : 1 ≤ o.kind ∧ o.kind ≤ 14
 ·have hwn : ¬ wd.toList = [] := by rw [hw]; exact fun e => e hk
  simp [Tryz.f147, hg, kV, vO, eh, hwn, fR, fS, fT, hkk]
  clear kV vO eh fR fS fT hg hkk
  simp only [opOk, opVOk, hk]
  cases e1 : hasR o.kind <;> cases e2 : hasS o.kind <;> cases e3 : hasT o.kind <;> cases e4 : hasV o.kind <;> simp_all <;> grind
 ·have hwn : wd.toList = [] := hw.2 hk
  have : opOk o = false := by simp [opOk, hk]
  simp [Tryz.f147, hg, kV, vO, eh, hwn, fR, fS, fT, hkk, this]
end Go.Proofs.YtmkiojlebjknlaaGreat

/-
 THE REFERENCE'S OpOk: what it answers.
-/
set_option maxRecDepth 8000
namespace Go.Proofs.YtmkiojlebjknlaaGreat
open Go.AM
variable {h : H}
theorem form_in {k : Int} (hk : 1 ≤ k ∧ k ≤ 14) : form k = [hasR k, hasS k, hasT k, hasV k] := by
 rcases kinds k with e | e | e | e | e | e | e | e | e | e | e | e | e | e | e
 all_goals first | (subst e; rfl) | omega
theorem form_out {k : Int} (hk : ¬ (1 ≤ k ∧ k ≤ 14)) : form k = [] := by
 rcases kinds k with e | e | e | e | e | e | e | e | e | e | e | e | e | e | e
 all_goals first | (subst e; simp at hk) | simp [form, e]
set_option maxHeartbeats 4000000 in
set_option maxRecDepth 4000 in
theorem c_OpOk (o : POp) : Dz.den 127 [.g (encO o)] h = some (.c (.bool (opOk o)), h) := by
 refine den_plain rfl Tryz.func127 rfl rfl ?_
 obtain ⟨k, r, s, t, v⟩ := o
 by_cases hk : 1 ≤ k ∧ k ≤ 14
 ·by_cases hv : valOk v = true
  ·have hv1 : v.k = 1 → v.n ≤ 99 := fun e => by simp [valOk, e] at hv; exact hv.2
   rcases range3 r with hr | ⟨hr, hr0⟩ <;> rcases range3 s with hs | ⟨hs, hs0⟩ <;> rcases range15 t with ht | ⟨ht, ht0⟩ <;>
   simp [Tryz.f127, an127, c_l2Form, form_in hk, *]
   all_goals (repeat' (first | intro _ | apply And.intro))
   all_goals (simp_all [opOk, opVOk])
   all_goals (try grind [hasR, hasS, hasT, hasV])
  ·have hv1 : v.k = 1 → v.n < -99 ∨ 99 < v.n := fun e => by simp [valOk, e] at hv; omega
   have hv2 : v.k = 0 → v.n ≠ 0 := fun e => by simp [valOk, e] at hv; exact hv
   simp [Tryz.f127, an127, c_l2Form, form_in hk, hk, hv]
   all_goals (repeat' (first | intro _ | apply And.intro))
   all_goals (simp_all [opOk, opVOk])
   all_goals (try grind [hasR, hasS, hasT, hasV])
 ·simp [Tryz.f127, an127, c_l2Form, form_out hk, *]
  simp [opOk, hk]
end Go.Proofs.YtmkiojlebjknlaaGreat

/-
 THE REFERENCE'S FUNCTIONS OF RUNS: what they answer.
-/
set_option maxRecDepth 8000
namespace Go.Proofs.YtmkiojlebjknlaaGreat
open Go.AM
variable {h : H}
theorem c_OpOk' (k r s t vk vn : Int) : Dz.den 127 [.g [.int .i64 k, .int .i64 r, .int .i64 s, .int .i64 t, .int .i64 vk, .int .i64 vn]] h = some (.c (.bool (opOk ⟨k, r, s, t, vk, vn⟩)), h) := c_OpOk ⟨k, r, s, t, vk, vn⟩
def codeOk (c : List POp) : Bool := decide (1 ≤ c.length ∧ c.length ≤ 16) && c.all fun o => opOk o && (!hasT o.kind || decide (o.to < c.length))
theorem c_CodeOk {s : Cell} {c : List POp} (hS : Sl h s 6 encO c) : Dz.den 78 [.c s] h = some (.c (.bool (codeOk c)), h) := by
 refine den_plain rfl Tryz.func78 rfl rfl ?_
 simp [Tryz.f78, an78]
 refine count_wp c.length (fun i => ([.c s, .c (.bool false), .c (ci i)], [], [], h)) (fun i => AllTo c i fun o => opOk o = true ∧ (hasT o.kind = true → o.to < c.length)) rfl (by simp) ?_ ?_
 ·intro i hi hP
  rw [Wp_body]
  simp [hS.lenA, ixA_nat hS, hS.at, hi, wrap_succ (hS.lt hi), allTo_succ hi, hP, c_OpOk']
  have hm : c[i] ∈ c := List.getElem_mem hi
  refine ⟨fun h1 => ⟨fun h2 => ⟨fun h3 => ?_, fun h3 => ⟨h1, fun _ => h3⟩⟩, fun h2 h3 h4 h5 => ⟨h1, fun h6 => ?_⟩⟩, fun h1 => ?_⟩
  ·rw [Bool.eq_false_iff]
   intro hc
   simp only [codeOk, Bool.and_eq_true, List.all_eq_true, Bool.or_eq_true] at hc
   have := (hc.2 _ hm).2
   simp [hasT, h2] at this; omega
  ·simp [hasT, h2, h3, h4, h5] at h6
  ·rw [Bool.eq_false_iff]
   intro hc
   simp only [codeOk, Bool.and_eq_true, List.all_eq_true] at hc
   have := (hc.2 _ hm).1
   simp [h1] at this
 ·intro hP
  rw [Wp_body]
  simp [hS.lenA]
  have : (c.all fun o => opOk o && (!hasT o.kind || decide (o.to < c.length))) = true := by
   rw [List.all_eq_true]
   intro o ho
   have := allTo_len.1 hP o ho
   cases ht : hasT o.kind <;> simp [this.1]
   exact this.2 ht
  rw [codeOk, this, Bool.and_true, ← Bool.decide_and]
  exact decide_eq_decide.2 (by omega)
def has (b : Int) (i : Int) : Bool := decide (b / 2 ^ i.toNat % 2 = 1)
theorem c_l3Has (b i : Int) (hb : 0 ≤ b) (hb' : b ≤ 15) (h0 : 0 ≤ i) (h1 : i ≤ 3) : Dz.den 80 [.c (.int .i64 b), .c (.int .i64 i)] h = some (.c (.bool (has b i)), h) := by
 refine den_plain rfl Tryz.func80 rfl rfl ?_
 obtain rfl | rfl | rfl | rfl : i = 0 ∨ i = 1 ∨ i = 2 ∨ i = 3 := by omega
 all_goals
  simp [Tryz.f80, an80, c_l3Bit, has]
  first
   | rw [Int.tdiv_eq_ediv_of_nonneg hb, wrap_i64 (by omega) (by omega), Int.tmod_eq_emod_of_nonneg (by omega)]
   | rw [wrap_i64 (by omega) (by omega), Int.tmod_eq_emod_of_nonneg (by omega)]
theorem nodup_le {α : Type} [DecidableEq α] : ∀ (xs ys : List α), xs.Nodup → (∀ x ∈ xs, x ∈ ys) → xs.length ≤ ys.length
 | [], _, _, _ => Nat.zero_le _
 | x :: xs, ys, hn, hs => by
  rw [List.nodup_cons] at hn
  have := nodup_le xs (ys.erase x) hn.2 fun z hz => (List.mem_erase_of_ne (by rintro rfl; exact hn.1 hz)).2 (hs z (List.mem_cons_of_mem _ hz))
  have hm := hs x (List.mem_cons_self ..)
  rw [List.length_erase_of_mem hm] at this
  have := List.length_pos_of_mem hm
  simp only [List.length_cons]; omega
def IdsOk (xs : List Int) (own : Int) : Prop := xs.Nodup ∧ ∀ x ∈ xs, 1 ≤ x ∧ x ≤ 6 ∧ x ≠ own
theorem IdsOk.len {xs : List Int} {own : Int} (h : IdsOk xs own) : xs.length ≤ 6 := nodup_le xs [1, 2, 3, 4, 5, 6] h.1 fun x hx => by
 have := h.2 x hx
 simp; omega
theorem c_l11Ids {s : Cell} {xs : List Int} (hS : Sl h s 1 encI xs) (own : Int) :
  Dz.den 43 [.c s, .c (.int .i64 own)] h = some (.c (.bool (tt (IdsOk xs own))), h) := by
 unfold IdsOk
 refine den_plain rfl Tryz.func43 rfl rfl ?_
 simp [Tryz.f43, an43]
 refine count_wp xs.length (fun i => ([.c s, .c (ci own), .c (.bool false), .c (ci i)], [], [], h)) (fun i => (xs.take i).Nodup ∧ AllTo xs i fun x => 1 ≤ x ∧ x ≤ 6 ∧ x ≠ own) rfl (by simp) ?_ ?_
 ·intro i hi hP
  rw [Wp_body]
  simp [hS.lenA, ixA_nat hS, hS.at, hi, wrap_succ (hS.lt hi), allTo_succ hi, hP, sliceA_to hS, Nat.le_of_lt hi, c_l11Among (hS.cutTo (Nat.le_of_lt hi))]
  refine ⟨by unfold LexOk; kernel_rfl, ?_⟩
  have hm : xs[i] ∈ xs := List.getElem_mem hi
  refine ⟨fun h1 _ => ⟨_, hm, by omega⟩, fun h1 h2 => ⟨fun h3 _ => ⟨_, hm, by omega⟩, fun h3 => ⟨fun h4 h5 => ?_, fun h4 => ⟨?_, h1, h2, h3⟩⟩⟩⟩
  ·exfalso
   obtain ⟨j, hj, e⟩ := List.getElem_of_mem h4
   simp only [List.length_take] at hj
   rw [List.getElem_take] at e
   have := (List.getElem_inj h5).1 e
   omega
  ·rw [List.take_succ_eq_append_getElem hi, List.nodup_append]
   exact ⟨hP.1, by simp, by rintro a ha b hb rfl; simp only [List.mem_singleton] at hb; subst hb; exact h4 ha⟩
 ·intro hP
  rw [Wp_body]
  simp [hS.lenA]
  rw [List.take_length, allTo_len] at hP
  exact hP
end Go.Proofs.YtmkiojlebjknlaaGreat

/-
 THE REFERENCE'S FUNCTIONS OF RUNS: what they answer.
-/
set_option maxRecDepth 8000
namespace Go.Proofs.YtmkiojlebjknlaaGreat
open Go.AM
variable {h : H}
def fits (kind : Int) (v : PVal) : Bool := decide (kind = 0 ∨ v.k = kind)
def firstAt {α : Type} (p : α → Bool) (xs : List α) : Int := match xs.findIdx? p with | some i => (i : Int) | none => -1
theorem firstAt_none {α : Type} {p : α → Bool} {xs : List α} (hp : ∀ x ∈ xs, p x = false) : firstAt p xs = -1 := by
 have : xs.findIdx? p = none := List.findIdx?_eq_none_iff.2 hp
 simp [firstAt, this]
theorem firstAt_some {α : Type} {p : α → Bool} {xs : List α} {i : Nat} (hi : i < xs.length) (hb : AllTo xs i fun x => p x = false) (hp : p xs[i] = true) : firstAt p xs = i := by
 have : xs.findIdx? p = some i := by
  rw [List.findIdx?_eq_some_iff_getElem]
  refine ⟨hi, hp, fun j hj => ?_⟩
  have := hb xs[j] (by rw [List.mem_take_iff_getElem]; exact ⟨j, by omega, rfl⟩)
  simp [this]
 simp [firstAt, this]
theorem c_l11First {c : RunC} {r : PRun} (hm : Sl h c.mail 2 encV r.mail) (kind : Int) :
  Dz.den 134 [.g (encR c), .c (.int .i64 kind)] h = some (.c (.int .i64 (firstAt (fits kind) r.mail)), h) := by
 refine den_plain rfl Tryz.func134 rfl rfl ?_
 simp [Tryz.f134, an134]
 refine count_wp r.mail.length (fun i => ([.c (ci kind), .c (ci 0), .c (ci i)], [encR c], [], h)) (fun i => AllTo r.mail i fun v => fits kind v = false) rfl (by simp) ?_ ?_
 ·intro i hi hP
  rw [Wp_body]
  simp [hm.lenA, ixA_nat hm, hm.at, hi, wrap_succ (hm.lt hi), allTo_succ hi, hP]
  refine ⟨fun h1 => (firstAt_some hi hP (by simpa [fits] using h1)).symm, fun h1 h2 => by simp [fits, h1, h2]⟩
 ·intro hP
  rw [Wp_body]
  simp [hm.lenA]
  rw [firstAt_none (allTo_len.1 hP)]
end Go.Proofs.YtmkiojlebjknlaaGreat

/-
 THE REFERENCE'S FUNCTIONS OF BITS: what they answer.
-/
set_option maxRecDepth 8000
namespace Go.Proofs.YtmkiojlebjknlaaGreat
open Go.AM
variable {h : H}
def withB (b i : Int) : Int := if has b i then b else b + 2 ^ i.toNat
theorem c_l3With (b i : Int) (hb : 0 ≤ b) (hb' : b ≤ 15) (h0 : 0 ≤ i) (h1 : i ≤ 3) : Dz.den 131 [.c (.int .i64 b), .c (.int .i64 i)] h = some (.c (.int .i64 (withB b i)), h) := by
 refine den_plain rfl Tryz.func131 rfl rfl ?_
 have hw : IntKind.i64.wrap (b + 2 ^ i.toNat) = b + 2 ^ i.toNat := by
  obtain rfl | rfl | rfl | rfl : i = 0 ∨ i = 1 ∨ i = 2 ∨ i = 3 := by omega
  all_goals (refine wrap_i64 ?_ ?_ <;> simp <;> omega)
 cases hh : has b i <;> simp [Tryz.f131, c_l3Bit, c_l3Has, hb, hb', h0, h1, hh, hw, withB]
def bothTo (a b : Int) : Nat → Int
 | 0 => 0
 | i + 1 => bothTo a b i + if has a i = true ∧ has b i = true then 2 ^ i else 0
theorem bothTo_range (a b : Int) : ∀ i, i ≤ 4 → 0 ≤ bothTo a b i ∧ bothTo a b i < 2 ^ i
 | 0, _ => by simp [bothTo]
 | i + 1, hi => by
  have := bothTo_range a b i (by omega)
  simp only [bothTo]
  rw [Int.pow_succ]
  split <;> omega
def both (a b : Int) : Int := if a < 0 then b else bothTo a b 4
theorem c_l3Both (a b : Int) (ha : a ≤ 15) (hb : 0 ≤ b) (hb' : b ≤ 15) : Dz.den 85 [.c (.int .i64 a), .c (.int .i64 b)] h = some (.c (.int .i64 (both a b)), h) := by
 refine den_plain rfl Tryz.func85 rfl rfl ?_
 by_cases hn : a < 0
 ·simp [Tryz.f85, hn, both]
 simp [Tryz.f85, hn, both]
 refine count_wp 4 (fun i => ([.c (ci a), .c (ci b), .c (ci 0), .c (ci (bothTo a b i)), .c (ci i)], [], [], h)) (fun i => True) rfl (by simp) ?_ ?_
 ·intro i hi _
  have h1 := bothTo_range a b i (by omega)
  have e1 := c_l3Has (h := h) a i (by omega) ha (by omega) (by omega)
  have e2 := c_l3Has (h := h) b i hb hb' (by omega) (by omega)
  have e3 := c_l3Bit (h := h) i (by omega) (by omega)
  have hi' : (i : Int) ≤ 3 := by omega
  have hw : IntKind.i64.wrap (bothTo a b i + 2 ^ i) = bothTo a b i + 2 ^ i := by
   obtain rfl | rfl | rfl | rfl : i = 0 ∨ i = 1 ∨ i = 2 ∨ i = 3 := by omega
   all_goals (refine wrap_i64 ?_ ?_ <;> simp at h1 ⊢ <;> omega)
  rw [Wp_body]
  cases ha : has a i <;> cases hb : has b i <;>
  simp [e1, e2, e3, hi', ha, hb, wrap_succ (show i < sMost by simp [sMost]; omega), bothTo, hw]
 ·intro _
  rw [Wp_body]
  simp [both, hn]
end Go.Proofs.YtmkiojlebjknlaaGreat

/-
 THE REFERENCE'S l3Merge, l3From, l3Full: what they answer.
-/
set_option maxRecDepth 8000
namespace Go.Proofs.YtmkiojlebjknlaaGreat
open Go.AM
variable {h : H}
def BitsOk (f : List Int) : Prop := ∀ x ∈ f, -1 ≤ x ∧ x ≤ 15
def mergeF (f : List Int) (at_ : Nat) (bits : Int) : List Int := f.set at_ (both (f[at_]?.getD 0) bits)
abbrev blkI (f : List Int) : Blk := ⟨false, 1, f.map encI⟩
theorem c_l3Merge {id : Nat} {f : List Int} {at_ : Nat} {m : Int} {bits : Int} (hm : m = at_) (hg : h.get id = some (blkI f)) (hf : BitsOk f) (hb : 0 ≤ bits) (hb' : bits ≤ 15) :
  Dz.den 132 [.c (.sl id 0 f.length none), .c (.int .i64 m), .c (.int .i64 bits)] h = some (.c (.bool (tt (mergeF f at_ bits ≠ f))), h.set id (some (blkI (mergeF f at_ bits)))) := by
 subst hm
 rw [← Wp_eq]
 refine den_wp rfl Tryz.func132 rfl ?_
 by_cases hn : at_ < f.length
 ·have hm := hf f[at_] (List.getElem_mem hn)
  have e1 := c_l3Both (h := h) f[at_] bits hm.2 hb hb'
  simp [Tryz.f132, hn, hg, H.cellsAt, H.write, e1]
  have e2 : mergeF f at_ bits = f ↔ both f[at_] bits = f[at_] := by
   simp only [mergeF, List.getElem?_eq_getElem hn, Option.getD_some]
   constructor
   ·intro e
    have := congrArg (fun l => l[at_]?) e
    simpa [hn] using this
   ·intro e; rw [e]; simp
  refine ⟨fun e => absurd hn (by omega), fun e => ⟨e2.2 e, by rw [e2.2 e, set_same hg]⟩, fun e => ⟨fun k => e (e2.1 k), ?_⟩⟩
  simp [blkI, mergeF, hn, List.map_set]
 ·simp [Tryz.f132, hn]
  intro _
  have e2 : mergeF f at_ bits = f := by unfold mergeF; rw [List.set_eq_of_length_le (by omega)]
  rw [e2, set_same hg]; simp
end Go.Proofs.YtmkiojlebjknlaaGreat

/-
 THE REFERENCE'S l3From: what it answers.
-/
set_option maxRecDepth 8000
namespace Go.Proofs.YtmkiojlebjknlaaGreat
open Go.AM
variable {h : H}
def fillsK (k : Int) : Bool := decide (k = 1 ∨ k = 2 ∨ k = 4 ∨ k = 5 ∨ k = 7 ∨ k = 8)
def onward (o : POp) (bits : Int) : Int := if fillsK o.kind then withB bits o.r else bits
def goesTo (o : POp) (bits : Int) : Option Int := if o.kind = 5 then some 1 else if o.kind = 8 ∨ o.kind = 9 ∨ o.kind = 10 then some bits else none
def goF (o : POp) (f : List Int) (bits : Int) : List Int := match goesTo o bits with | some b => mergeF f o.to.toNat b | none => f
def fromF (o : POp) (f : List Int) (i : Nat) : List Int :=
 let bits := f[i]?.getD 0
 let g := goF o f bits
 if o.kind = 9 ∨ o.kind = 14 then g else mergeF g (i + 1) (onward o bits)
theorem mergeF_length {f : List Int} {n : Nat} {b : Int} : (mergeF f n b).length = f.length := by simp [mergeF]
theorem both_range {a b : Int} (ha : a ≤ 15) (hb : 0 ≤ b) (hb' : b ≤ 15) : 0 ≤ both a b ∧ both a b ≤ 15 := by
 unfold both
 split
 ·exact ⟨hb, hb'⟩
 ·have := bothTo_range a b 4 (by omega); omega
theorem mergeF_ok {f : List Int} {n : Nat} {b : Int} (hf : BitsOk f) (hb : 0 ≤ b) (hb' : b ≤ 15) : BitsOk (mergeF f n b) := by
 intro x hx
 rcases List.mem_or_eq_of_mem_set hx with hx | rfl
 ·exact hf x hx
 ·by_cases hn : n < f.length
  ·have := hf f[n] (List.getElem_mem hn)
   have := both_range this.2 hb hb'
   simp only [List.getElem?_eq_getElem hn, Option.getD_some]; omega
  ·have : both (f[n]?.getD 0) b = both 0 b := by rw [List.getElem?_eq_none (by omega)]; rfl
   rw [this]
   have := both_range (a := 0) (by omega) hb hb'; omega
theorem withB_range {b i : Int} (hb : 0 ≤ b) (hb' : b ≤ 15) (h0 : 0 ≤ i) (h1 : i ≤ 3) : 0 ≤ withB b i ∧ withB b i ≤ 15 := by
 unfold withB
 split
 ·exact ⟨hb, hb'⟩
 ·rename_i hh
  obtain rfl | rfl | rfl | rfl : i = 0 ∨ i = 1 ∨ i = 2 ∨ i = 3 := by omega
  all_goals simp [has] at hh ⊢; omega
theorem c_l3Merge2 {id : Nat} {f g : List Int} {n : Nat} {m : Int} {bits : Int} (hm : m = n) (hg : h.get id = some (blkI f)) (hl : g.length = f.length) (hf : BitsOk g) (hb : 0 ≤ bits) (hb' : bits ≤ 15) :
  Dz.den 132 [.c (.sl id 0 f.length none), .c (.int .i64 m), .c (.int .i64 bits)] (List.set h id (some (blkI g))) = some (.c (.bool (tt (mergeF g n bits ≠ g))), List.set h id (some (blkI (mergeF g n bits)))) := by
 have := c_l3Merge (h := List.set h id (some (blkI g))) (id := id) (f := g) (at_ := n) (m := m) (bits := bits) hm (get_set_self (H.get_lt hg)) hf hb hb'
 rw [hl] at this
 rw [this, List.set_set]
set_option maxHeartbeats 4000000 in
theorem c_l3From {id : Nat} {s : Cell} {code : List POp} {f : List Int} {i : Nat} (hc : Sl h s 6 encO code) (hg : h.get id = some (blkI f)) (hf : BitsOk f) (hi : i < code.length) (hl : f.length = code.length)
  (ho : opOk code[i] = true) (h0 : 0 ≤ f[i]'(by omega)) :
  @Wp _ (Dz.den 82 [.c s, .c (.sl id 0 f.length none), .c (.int .i64 i)] h) ⟨fun r => r.2 = h.set id (some (blkI (fromF code[i] f i))) ∧ ∃ b : Bool, r.1 = .c (.bool b) ∧ (b = false → fromF code[i] f i = f) ∧ (b = true → goF code[i] f (f[i]'(by omega)) ≠ f ∨ fromF code[i] f i ≠ goF code[i] f (f[i]'(by omega)))⟩ := by
 refine den_wp rfl Tryz.func82 rfl ?_
 have hfi : i < f.length := by omega
 have hb := hf f[i] (List.getElem_mem hfi)
 have hS : Sl h (.sl id 0 f.length none) 1 encI f := ⟨by simp, rfl, by rw [hl]; exact hc.len, _, hg, rfl, by simp, by rw [List.drop_zero, List.take_of_length_le (by simp)]⟩
 have e0 : h.cellsAt id i 0 1 = some [.int .i64 f[i]] := by simp [H.cellsAt, hg, hfi]
 generalize hoo : code[i] = o at *
 obtain ⟨k, r, sl, t, v⟩ := o
 simp only [opOk, Bool.and_eq_true, decide_eq_true_eq] at ho
 obtain ⟨⟨⟨⟨hk14, hr⟩, _⟩, ht⟩, _⟩ := ho
 rcases kinds k with hk | hk | hk | hk | hk | hk | hk | hk | hk | hk | hk | hk | hk | hk | hk
 ·subst hk
  simp [hasR, hasT] at hr ht
  have e1 := c_l3With (h := h) f[i] r h0 hb.2 hr.1 hr.2
  have e2 := withB_range h0 hb.2 hr.1 hr.2
  have e3 := c_l3Merge (at_ := i + 1) (m := (i : Int) + 1) (by simp) hg hf e2.1 e2.2
  simp [Tryz.f82, ixA_nat hc, hc.at, hi, hoo, hg, hfi, e0, wrap_succ (hc.lt hi), fromF, goF, goesTo, onward, fillsK, e1, e3]
 ·subst hk
  simp [hasR, hasT] at hr ht
  have e1 := c_l3With (h := h) f[i] r h0 hb.2 hr.1 hr.2
  have e2 := withB_range h0 hb.2 hr.1 hr.2
  have e3 := c_l3Merge (at_ := i + 1) (m := (i : Int) + 1) (by simp) hg hf e2.1 e2.2
  simp [Tryz.f82, ixA_nat hc, hc.at, hi, hoo, hg, hfi, e0, wrap_succ (hc.lt hi), fromF, goF, goesTo, onward, fillsK, e1, e3]
 ·subst hk
  simp [hasR, hasT] at hr ht
  have e3 := c_l3Merge (at_ := i + 1) (m := (i : Int) + 1) (by simp) hg hf h0 hb.2
  simp [Tryz.f82, ixA_nat hc, hc.at, hi, hoo, hg, hfi, e0, wrap_succ (hc.lt hi), fromF, goF, goesTo, onward, fillsK, e3]
 ·subst hk
  simp [hasR, hasT] at hr ht
  have e1 := c_l3With (h := h) f[i] r h0 hb.2 hr.1 hr.2
  have e2 := withB_range h0 hb.2 hr.1 hr.2
  have e3 := c_l3Merge (at_ := i + 1) (m := (i : Int) + 1) (by simp) hg hf e2.1 e2.2
  simp [Tryz.f82, ixA_nat hc, hc.at, hi, hoo, hg, hfi, e0, wrap_succ (hc.lt hi), fromF, goF, goesTo, onward, fillsK, e1, e3]
 ·subst hk
  simp [hasR, hasT] at hr ht
  obtain ⟨n, rfl⟩ : ∃ n : Nat, t = n := ⟨t.toNat, by omega⟩
  have e1 := c_l3With (h := List.set h id (some (blkI f))) f[i] r h0 hb.2 hr.1 hr.2
  have e1' := c_l3With (h := h) f[i] r h0 hb.2 hr.1 hr.2
  have e2 := withB_range h0 hb.2 hr.1 hr.2
  have e3 := c_l3Merge (at_ := n) (m := (n : Int)) rfl hg hf (show (0 : Int) ≤ 1 by decide) (show (1 : Int) ≤ 15 by decide)
  have e4 := c_l3Merge2 (g := mergeF f n 1) (n := i + 1) (m := (i : Int) + 1) (by simp) hg mergeF_length (mergeF_ok hf (show (0 : Int) ≤ 1 by decide) (show (1 : Int) ≤ 15 by decide)) e2.1 e2.2
  simp [Tryz.f82, ixA_nat hc, hc.at, hi, hoo, hg, hfi, e0, wrap_succ (hc.lt hi), fromF, goF, goesTo, onward, fillsK, e1', e3, e4]
  exact ⟨fun a => .inr a, fun a => ⟨fun b => by rw [a, b], fun b => .inl b⟩⟩
 ·subst hk
  simp [hasR, hasT] at hr ht
  have e3 := c_l3Merge (at_ := i + 1) (m := (i : Int) + 1) (by simp) hg hf h0 hb.2
  simp [Tryz.f82, ixA_nat hc, hc.at, hi, hoo, hg, hfi, e0, wrap_succ (hc.lt hi), fromF, goF, goesTo, onward, fillsK, e3]
 ·subst hk
  simp [hasR, hasT] at hr ht
  have e1 := c_l3With (h := h) f[i] r h0 hb.2 hr.1 hr.2
  have e2 := withB_range h0 hb.2 hr.1 hr.2
  have e3 := c_l3Merge (at_ := i + 1) (m := (i : Int) + 1) (by simp) hg hf e2.1 e2.2
  simp [Tryz.f82, ixA_nat hc, hc.at, hi, hoo, hg, hfi, e0, wrap_succ (hc.lt hi), fromF, goF, goesTo, onward, fillsK, e1, e3]
 ·subst hk
  simp [hasR, hasT] at hr ht
  obtain ⟨n, rfl⟩ : ∃ n : Nat, t = n := ⟨t.toNat, by omega⟩
  have e1 := c_l3With (h := List.set h id (some (blkI f))) f[i] r h0 hb.2 hr.1 hr.2
  have e1' := c_l3With (h := h) f[i] r h0 hb.2 hr.1 hr.2
  have e2 := withB_range h0 hb.2 hr.1 hr.2
  have e3 := c_l3Merge (at_ := n) (m := (n : Int)) rfl hg hf h0 hb.2
  have e4 := c_l3Merge2 (g := mergeF f n f[i]) (n := i + 1) (m := (i : Int) + 1) (by simp) hg mergeF_length (mergeF_ok hf h0 hb.2) e2.1 e2.2
  simp [Tryz.f82, ixA_nat hc, hc.at, hi, hoo, hg, hfi, e0, wrap_succ (hc.lt hi), fromF, goF, goesTo, onward, fillsK, e1', e3, e4]
  exact ⟨fun a => .inr a, fun a => ⟨fun b => by rw [a, b], fun b => .inl b⟩⟩
 ·subst hk
  simp [hasR, hasT] at hr ht
  obtain ⟨n, rfl⟩ : ∃ n : Nat, t = n := ⟨t.toNat, by omega⟩
  have e3 := c_l3Merge (at_ := n) (m := (n : Int)) rfl hg hf h0 hb.2
  simp [Tryz.f82, ixA_nat hc, hc.at, hi, hoo, hg, hfi, e0, wrap_succ (hc.lt hi), fromF, goF, goesTo, onward, fillsK, e3]
 ·subst hk
  simp [hasR, hasT] at hr ht
  obtain ⟨n, rfl⟩ : ∃ n : Nat, t = n := ⟨t.toNat, by omega⟩
  have e3 := c_l3Merge (at_ := n) (m := (n : Int)) rfl hg hf h0 hb.2
  have e4 := c_l3Merge2 (g := mergeF f n f[i]) (n := i + 1) (m := (i : Int) + 1) (by simp) hg mergeF_length (mergeF_ok hf h0 hb.2) h0 hb.2
  simp [Tryz.f82, ixA_nat hc, hc.at, hi, hoo, hg, hfi, e0, wrap_succ (hc.lt hi), fromF, goF, goesTo, onward, fillsK, e3, e4]
  exact ⟨fun a => .inr a, fun a => ⟨fun b => by rw [a, b], fun b => .inl b⟩⟩
 ·subst hk
  simp [hasR, hasT] at hr ht
  have e3 := c_l3Merge (at_ := i + 1) (m := (i : Int) + 1) (by simp) hg hf h0 hb.2
  simp [Tryz.f82, ixA_nat hc, hc.at, hi, hoo, hg, hfi, e0, wrap_succ (hc.lt hi), fromF, goF, goesTo, onward, fillsK, e3]
 ·subst hk
  simp [hasR, hasT] at hr ht
  have e3 := c_l3Merge (at_ := i + 1) (m := (i : Int) + 1) (by simp) hg hf h0 hb.2
  simp [Tryz.f82, ixA_nat hc, hc.at, hi, hoo, hg, hfi, e0, wrap_succ (hc.lt hi), fromF, goF, goesTo, onward, fillsK, e3]
 ·subst hk
  simp [hasR, hasT] at hr ht
  have e3 := c_l3Merge (at_ := i + 1) (m := (i : Int) + 1) (by simp) hg hf h0 hb.2
  simp [Tryz.f82, ixA_nat hc, hc.at, hi, hoo, hg, hfi, e0, wrap_succ (hc.lt hi), fromF, goF, goesTo, onward, fillsK, e3]
 ·subst hk
  simp [Tryz.f82, ixA_nat hc, hc.at, hi, hoo, hg, hfi, e0, wrap_succ (hc.lt hi), fromF, goF, goesTo, onward, fillsK, set_same hg]
 ·exact absurd hk14 (by omega)
end Go.Proofs.YtmkiojlebjknlaaGreat
