/-
  Proves that a small evaluator over abstract cells and the machine of the model come to the same, and what the calculus of its answers says; under no condition.
-/
import Derived.WalkKit
import Derived.Deep.Quiet
set_option linter.all false
/-
 THE ABSTRACT MACHINE, 1: values, heap, and the evaluation of a function's code over them. No program is named here.
 Deterministic: a slice bears no capacity, an append takes its block over into a new one (the old number is dead), boxes of a frame
 that do not leave it are kept apart from the heap. 'none': nothing is said (Go would panic, or the evaluator does not follow).
-/
namespace Go.AM
inductive Cell where
 | int (k : IntKind) (n : Int)
 | bool (b : Bool)
 | str (s : ByteArray)
 | ptr (id i k : Nat)
 | nilp
 | sl (id i len : Nat) (cap : Option Nat)
 | sle (id i l : Nat)
 | esl (id : Nat)
 | nils
 | fn (f : FuncId) (caps : List (Nat × Nat × Nat))
 | nilfn
 deriving Inhabited, DecidableEq
inductive V where
 | c (x : Cell)
 | g (xs : List Cell)
 | t (xs : List V)
 | u
 deriving Inhabited
structure Blk where
 ro : Bool
 es : Nat
 el : List (List Cell)
 deriving Inhabited
abbrev H := List (Option Blk)
def H.get (h : H) (id : Nat) : Option Blk := h[id]?.join
inductive TD where
 | int (k : IntKind)
 | bool
 | str
 | ptr
 | slice (e : TypeId)
 | struct (fs : List (TypeId × Nat))
 | fn
 | other
 deriving Inhabited
structure TT where
 td : TypeId → TD
 size : TypeId → Nat
 zero : TypeId → List Cell
structure Ann where
 esc : List Tmp := []
 keep : List (Nat × List Tmp × List Tmp × List Tmp) := []
 trunc : Bool := false
 flo : List (Nat × List Nat × List (Nat × Nat)) := []
 deriving Inhabited
inductive Slot where
 | val (v : V)
 | loc (b k : Nat)
 | iter
 deriving Inhabited
def lk {α : Type} : List (Nat × α) → Nat → Option α
 | [], _ => none
 | (t', a) :: e, t => if t' == t then some a else lk e t
structure St where
 env : List (Nat × Slot)
 bx : List (Nat × List Cell)
 its : List (Nat × ByteArray × Nat)
 h : H
 deriving Inhabited
def ofConst : Value → V
 | .int k n => .c (.int k n)
 | .bool b => .c (.bool b)
 | .string s => .c (.str s)
 | .pointer none => .c .nilp
 | .slice none 0 0 => .c .nils
 | .nilFunc => .c .nilfn
 | _ => .u
def St.val (st : St) : Operand → V
 | .tmp t => match lk st.env t with
  | some (.val v) => v
  | _ => .u
 | .const v => ofConst v
 | .func f => .c (.fn f [])
 | .global _ => .u
def St.slot (st : St) : Operand → Slot
 | .tmp t => match lk st.env t with
  | some s => s
  | none => .val .u
 | x => .val (st.val x)
def V.cells : V → Option (List Cell)
 | .c x => some [x]
 | .g xs => some xs
 | _ => none
def St.put (st : St) (dst : Option Tmp) (s : Slot) : St :=
 match dst with
 | none => st
 | some d => { st with env := (d, s) :: st.env }
abbrev undefV : V := .t []
def dropLoc (d : Nat) : List (Nat × Slot) → List (Nat × Slot)
 | [] => []
 | (t, .loc b k) :: e => if b == d then (t, .val .u) :: dropLoc d e else (t, .loc b k) :: dropLoc d e
 | x :: e => x :: dropLoc d e
def St.newBox (st : St) (d : Nat) (cs : List Cell) : St :=
 match lk st.bx d with
 | none => { st with env := (d, .loc d 0) :: st.env, bx := (d, cs) :: st.bx }
 | some _ => { st with env := (d, .loc d 0) :: dropLoc d st.env, bx := (d, cs) :: st.bx }
def H.cellsAt (h : H) (id i k n : Nat) : Option (List Cell) :=
 match h.get id with
 | some b => match b.el[i]? with
  | some e => if k + n ≤ e.length then some ((e.drop k).take n) else none
  | none => none
 | none => none
def splice (e : List Cell) (k : Nat) (cs : List Cell) : List Cell := e.take k ++ cs ++ e.drop (k + cs.length)
def H.write (h : H) (id i k : Nat) (cs : List Cell) : Option H :=
 match h.get id with
 | some b => match b.el[i]? with
  | some e => if b.ro = false ∧ k + cs.length ≤ e.length then some (h.set id (some { b with el := b.el.set i (splice e k cs) })) else none
  | none => none
 | none => none
def isStruct (T : TT) (t : TypeId) : Bool := match T.td t with | .struct _ => true | _ => false
def isOther (T : TT) (t : TypeId) : Bool := match T.td t with | .other => true | _ => false
def asV (T : TT) (t : TypeId) (cs : List Cell) : Option V :=
 if isOther T t then none
 else if isStruct T t then some (.g cs)
 else match cs with
  | [x] => some (.c x)
  | _ => none
def loadA (T : TT) (st : St) (t : TypeId) (a : Operand) : Option V :=
 match st.slot a with
 | .loc b k => match lk st.bx b with
  | some cs => if k + T.size t ≤ cs.length then asV T t ((cs.drop k).take (T.size t)) else none
  | none => none
 | .val (.c (.ptr id i k)) => match st.h.cellsAt id i k (T.size t) with
  | some cs => asV T t cs
  | none => none
 | _ => none
def storeA (T : TT) (st : St) (t : TypeId) (a : Operand) (v : V) : Option St :=
 match v.cells with
 | none => none
 | some cs =>
  if cs.length = T.size t ∧ isOther T t = false then
   match st.slot a with
   | .loc b k => match lk st.bx b with
    | some bs => if k + cs.length ≤ bs.length then some { st with bx := (b, splice bs k cs) :: st.bx } else none
    | none => none
   | .val (.c (.ptr id i k)) => match st.h.write id i k cs with
    | some h => some { st with h := h }
    | none => none
   | _ => none
  else none
def fillF (T : TT) (fs : List (TypeId × Nat)) : List (Nat × V) → List Cell → Option (List Cell)
 | [], acc => some acc
 | (i, v) :: rest, acc =>
  match fs[i]?, v.cells with
  | some (t, off), some cs => if cs.length = T.size t ∧ off + cs.length ≤ acc.length then fillF T fs rest (splice acc off cs) else none
  | _, _ => none
def fillE (es : Nat) : List (Nat × V) → List (List Cell) → Option (List (List Cell))
 | [], acc => some acc
 | (i, v) :: rest, acc =>
  match v.cells with
  | some cs => if cs.length = es ∧ i < acc.length then fillE es rest (acc.set i cs) else none
  | none => none
def lenMost : Nat := 4294967296
def H.elems (h : H) (id i len : Nat) : Option (List (List Cell)) :=
 match h.get id with
 | some b => if i + len ≤ b.el.length then some ((b.el.drop i).take len) else none
 | none => none
def Cell.eqA (h : H) : Cell → Cell → Option Bool
 | .int k a, .int k' b => if k = k' then some (a == b) else none
 | .bool a, .bool b => some (a == b)
 | .str a, .str b => some (a.toList == b.toList)
 | .nilp, .nilp => some true
 | .nilp, .ptr .. => some false
 | .ptr .., .nilp => some false
 | .ptr id i k, .ptr id' i' k' => if id = id' ∧ k = k' ∧ (h.get id).isSome = true then some (decide (i = i')) else none
 | .nils, .nils => some true
 | .nils, .sl .. => some false
 | .sl .., .nils => some false
 | _, _ => none
def tdFits : TD → Cell → Bool
 | .int _, .int .. => true
 | .bool, .bool _ => true
 | .str, .str _ => true
 | .ptr, .ptr .. => true
 | .ptr, .nilp => true
 | .slice _, .sl .. => true
 | .slice _, .nils => true
 | _, _ => false
def eqAll : List Cell → List Cell → Option Bool
 | [], [] => some true
 | .int k a :: xs, .int k' b :: ys => if k = k' then (match eqAll xs ys with | some r => some (a == b && r) | none => none) else none
 | _, _ => none
def isIntT (T : TT) (t : TypeId) : Bool := match T.td t with | .int _ => true | _ => false
def intPair (T : TT) (t : TypeId) : Bool := T.size t == 2 && match T.td t with | .struct [(t0, 0), (t1, 1)] => isIntT T t0 && isIntT T t1 | _ => false
def intFields (T : TT) (fs : List (TypeId × Nat)) (n : Nat) : Bool :=
 match fs with
 | [(t0, 0), (t1, 1)] => n == 2 && (match T.td t0, T.td t1 with | .int _, .int _ => true | _, _ => false)
 | [(t0, 0), (t1, 1), (t2, 2), (t3, 3), (t4, 4)] => n == 6 && (isIntT T t0 && isIntT T t1 && isIntT T t2 && isIntT T t3 && intPair T t4)
 | _ => false
def eqV (T : TT) (h : H) (t : TypeId) : V → V → Option Bool
 | .c x, .c y => if tdFits (T.td t) x && tdFits (T.td t) y then x.eqA h y else none
 | .g xs, .g ys => match T.td t with
  | .struct fs => if intFields T fs (T.size t) && xs.length == T.size t then eqAll xs ys else none
  | _ => none
 | _, _ => none
def intOp (op : BinOp) (k : IntKind) (a b : Int) : Option Cell :=
 match op with
 | .add => some (.int k (k.wrap (a + b)))
 | .sub => some (.int k (k.wrap (a - b)))
 | .mul => some (.int k (k.wrap (a * b)))
 | .quo => if b = 0 then none else some (.int k (k.wrap (a.tdiv b)))
 | .rem => if b = 0 then none else some (.int k (a.tmod b))
 | .and => some (.int k (k.wrap ((BitVec.ofInt k.bits a &&& BitVec.ofInt k.bits b).toNat)))
 | .or => some (.int k (k.wrap ((BitVec.ofInt k.bits a ||| BitVec.ofInt k.bits b).toNat)))
 | .xor => some (.int k (k.wrap ((BitVec.ofInt k.bits a ^^^ BitVec.ofInt k.bits b).toNat)))
 | .lss => some (.bool (decide (a < b)))
 | .leq => some (.bool (decide (a ≤ b)))
 | .gtr => some (.bool (decide (a > b)))
 | .geq => some (.bool (decide (a ≥ b)))
 | _ => none
def shiftOp (op : BinOp) (k : IntKind) (a b : Int) : Option Cell :=
 if b < 0 then none else
 match op with
 | .shl => some (.int k (k.wrap (a * 2 ^ (min b.toNat k.bits))))
 | .shr => some (.int k (a.fdiv (2 ^ (min b.toNat k.bits))))
 | _ => none
def binA (T : TT) (h : H) (op : BinOp) (t : TypeId) (x y : V) : Option V :=
 match op with
 | .eql => (eqV T h t x y).map fun b => .c (.bool b)
 | .neq => (eqV T h t x y).map fun b => .c (.bool !b)
 | .shl => match x, y with
  | .c (.int k a), .c (.int _ b) => (shiftOp .shl k a b).map .c
  | _, _ => none
 | .shr => match x, y with
  | .c (.int k a), .c (.int _ b) => (shiftOp .shr k a b).map .c
  | _, _ => none
 | .add => match x, y with
  | .c (.int k a), .c (.int k' b) => if k = k' then (intOp .add k a b).map .c else none
  | .c (.str a), .c (.str b) => if a.size + b.size < 4611686018427387904 then some (.c (.str (a ++ b))) else none
  | _, _ => none
 | _ => match x, y with
  | .c (.int k a), .c (.int k' b) => if k = k' then (intOp op k a b).map .c else none
  | _, _ => none
def unA (op : UnOp) (x : V) : Option V :=
 match op, x with
 | .not, .c (.bool b) => some (.c (.bool !b))
 | .neg, .c (.int k n) => some (.c (.int k (k.wrap (0 - n))))
 | _, _ => none
def bytesOf : List (List Cell) → Option (List UInt8)
 | [] => some []
 | [.int .u8 n] :: r => match bytesOf r with
  | some bs => some (UInt8.ofNat n.toNat :: bs)
  | none => none
 | _ => none
def convA (T : TT) (h : H) (src dst : TypeId) (x : V) : Option V :=
 match x with
 | .c (.int _ n) => match T.td src, T.td dst with
  | .int _, .int k => some (.c (.int k (k.wrap n)))
  | _, _ => none
 | .c (.str s) => match T.td src, T.td dst with
  | .str, .str => some (.c (.str s))
  | _, _ => none
 | .c .nils => match T.td src, T.td dst with
  | .slice e, .str => match T.td e with
   | .int .u8 => some (.c (.str .empty))
   | _ => none
  | _, _ => none
 | .c (.sl id i len _) => match T.td src, T.td dst with
  | .slice e, .str => match T.td e with
   | .int .u8 => match h.elems id i len with
    | some es => (bytesOf es).map fun bs => .c (.str ⟨bs.toArray⟩)
    | none => none
   | _ => none
  | _, _ => none
 | _ => none
def bound (x : V) (y : Nat) : Option Nat :=
 match x with
 | .c (.int _ i) => if 0 ≤ i ∧ i ≤ y then some i.toNat else none
 | _ => none
def cutA (es : Nat) (h : H) (id i len : Nat) (cap : Option Nat) (l : Nat) (hh : Nat) : Option V :=
 match cap with
 | some c => if l = 0 then some (.c (.sl id i hh (some c))) else none
 | none =>
  if l = 0 then some (.c (.sl id i hh none))
  else match h.get id with
   | none => none
   | some b => if b.es = es then (if l < b.el.length - i then some (.c (.sl id (i + l) (hh - l) none)) else if l = hh ∧ hh = len then some (.c (.sle id i l)) else none) else none
def capOk (h : H) (id i len : Nat) : Option Nat → Bool
 | some c => decide (len ≤ c)
 | none => match h.get id with
  | some b => decide (i + len ≤ b.el.length)
  | none => false
def lowOf (lo : Option V) (y : Nat) : Option Nat := match lo with | some v => bound v y | none => some 0
def beyondA (es : Nat) (h : H) (id i : Nat) (cap : Option Nat) (lo hi : Option V) : Option V :=
 match cap, hi, h.get id with
 | none, some hv, some b => match bound hv (b.el.length - i) with
  | none => none
  | some hh => match lowOf lo hh with
   | none => none
   | some l => if b.es = es ∧ l < b.el.length - i then some (.c (.sl id (i + l) (hh - l) none)) else none
 | _, _, _ => none
def threeA (es : Nat) (h : H) (id i len : Nat) (lv hv mv : V) : Option V :=
 match bound mv len, h.get id with
 | some m, some b => match bound hv m with
  | none => none
  | some hh => match bound lv hh with
   | none => none
   | some l => if b.es = es ∧ l < m then some (.c (.sl id (i + l) (hh - l) (some (m - l)))) else none
 | _, _ => none
def sliceA (T : TT) (h : H) (t : TypeId) (x : V) (lo hi mx : Option V) : Option V :=
 match T.td t, x with
 | .str, .c (.str s) =>
  match mx with
  | some _ => none
  | none => match (match hi with | none => some s.size | some hv => bound hv s.size) with
   | none => none
   | some hh => match lowOf lo hh with
    | none => none
    | some l => some (.c (.str (s.extract l hh)))
 | .slice e, .c (.sl id i len cap) =>
  if capOk h id i len cap = false ∨ isOther T e = true then none else
  match mx with
  | none => match (match hi with | none => some len | some hv => bound hv len) with
   | none => beyondA (T.size e) h id i cap lo hi
   | some hh => match lowOf lo hh with
    | none => none
    | some l => cutA (T.size e) h id i len cap l hh
  | some mv => match hi, lo, cap with
   | some hv, none, none => match bound mv len with
    | none => none
    | some m => match bound hv m with
     | none => none
     | some hh => some (.c (.sl id i hh (some m)))
   | some hv, some lv, none => threeA (T.size e) h id i len lv hv mv
   | _, _, _ => none
 | .slice e, .c (.sle id i l) =>
  if isOther T e = true then none else
  match mx with
  | some _ => none
  | none => match (match hi with | none => some 0 | some hv => bound hv 0) with
   | none => none
   | some _ => match lowOf lo 0 with
    | none => none
    | some _ => some (.c (.sle id i l))
 | .slice e, .c .nils =>
  if isOther T e = true then none else
  match mx with
  | some _ => none
  | none => match (match hi with | none => some 0 | some hv => bound hv 0) with
   | none => none
   | some _ => match lowOf lo 0 with
    | none => none
    | some _ => some (.c .nils)
 | _, _ => none
def elemsOf (h : H) : V → Option (List (List Cell))
 | .c .nils => some []
 | .c (.sle ..) => some []
 | .c (.sl id i len _) => h.elems id i len
 | _ => none
def H.push (h : H) (b : Blk) : H := h ++ [some b]
def appendA (es : Nat) (h : H) (s x : V) : Option (V × H) :=
 match elemsOf h x with
 | none => none
 | some xs =>
  if xs.all (fun e => e.length == es) && (xs.length ≤ lenMost) then
   match s with
   | .c .nils => if xs.isEmpty then some (.c .nils, h) else some (.c (.sl h.length 0 xs.length none), h.push ⟨false, es, xs⟩)
   | .c (.sl id i len cap) =>
    match h.get id with
    | none => none
    | some b =>
     if i + len ≤ b.el.length && b.es == es && (len + xs.length ≤ lenMost) then
      match cap with
      | some c => if xs.isEmpty then (if len ≤ c then some (.c (.sl id i len cap), h) else none) else if c < len + xs.length then
        some (.c (.sl h.length 0 (len + xs.length) none), h.push ⟨false, es, (b.el.drop i).take len ++ xs⟩) else none
      | none =>
       if b.ro then none
       else if i + len + xs.length ≤ b.el.length then
        some (.c (.sl id i (len + xs.length) none), h.set id (some { b with el := b.el.take (i + len) ++ xs ++ b.el.drop (i + len + xs.length) }))
       else some (.c (.sl h.length 0 (len + xs.length) none), H.push (h.set id none) ⟨false, es, (b.el.drop i).take len ++ xs⟩)
     else none
   | .c (.sle id i l) =>
    match h.get id with
    | none => none
    | some b =>
     if b.ro then none
     else if i + l ≤ b.el.length && b.es == es then
      if xs.isEmpty then some (.c (.sle id i l), h)
      else some (.c (.sl h.length 0 xs.length none), H.push (h.set id none) ⟨false, es, xs⟩)
     else none
   | _ => none
  else none
def lenA : TD → V → Option Nat
 | .str, .c (.str s) => some s.size
 | .slice _, .c (.sl _ _ n _) => some n
 | .slice _, .c (.sle ..) => some 0
 | .slice _, .c (.esl _) => some 0
 | .slice _, .c .nils => some 0
 | _, _ => none
def mm (mx : Bool) : V → V → Option V
 | .c (.int k x), .c (.int k' y) => if k = k' then some (.c (.int k (if mx then (if y > x then y else x) else (if y < x then y else x)))) else none
 | _, _ => none
def clearA (T : TT) (e : TypeId) (h : H) : V → Option H
 | .c .nils => some h
 | .c (.sle ..) => some h
 | .c (.sl id i len _) =>
  match h.get id with
  | none => none
  | some b => if b.ro = false ∧ i + len ≤ b.el.length ∧ (T.zero e).length = b.es ∧ isOther T e = false then
    some (h.set id (some { b with el := b.el.take i ++ List.replicate len (T.zero e) ++ b.el.drop (i + len) })) else none
 | _ => none
abbrev CallF := FuncId → List V → H → Option (V × H)
def V.caps : List (Nat × Nat × Nat) → List V
 | [] => []
 | (a, b, k) :: r => .c (.ptr a b k) :: V.caps r
def ptrsOf : List V → Option (List (Nat × Nat × Nat))
 | [] => some []
 | .c (.ptr a b k) :: r => match ptrsOf r with
  | some l => some ((a, b, k) :: l)
  | none => none
 | _ => none
def evalOp (T : TT) (call : CallF) (esc : List Tmp) (o : Oper) (st : St) : Option St :=
 match o.op with
 | .move x | .assign x => some (st.put o.dst (.val (st.val x)))
 | .pick cn a b => match st.val cn with
  | .c (.bool r) => some (st.put o.dst (.val (if r then st.val a else st.val b)))
  | _ => none
 | .alloc t => match o.dst with
  | none => none
  | some d => if isOther T t then none
   else if esc.contains d then some { st with env := (d, .val (.c (.ptr st.h.length 0 0))) :: st.env, h := st.h.push ⟨false, T.size t, [T.zero t]⟩ }
   else some (st.newBox d (T.zero t))
 | .box _ x => match o.dst, (st.val x).cells with
  | some d, some cs =>
   if esc.contains d then (if cs.isEmpty then none else some { st with env := (d, .val (.c (.ptr st.h.length 0 0))) :: st.env, h := st.h.push ⟨false, cs.length, [cs]⟩ })
   else some (st.newBox d cs)
  | _, _ => none
 | .build t ps => match T.td t with
  | .struct fs => match fillF T fs (ps.toList.map fun p => (p.1, st.val p.2)) (T.zero t) with
   | some cs => some (st.put o.dst (.val (.g cs)))
   | none => none
  | _ => none
 | .buildSlice t len ps => match T.td t with
  | .slice e => if isOther T e || decide (lenMost < len * T.size e) || decide (16777216 < len * T.size e) then none else
   match fillE (T.size e) (ps.toList.map fun p => (p.1, st.val p.2)) (List.replicate len (T.zero e)) with
   | some el => some { st.put o.dst (.val (.c (.sl st.h.length 0 len none))) with h := st.h.push ⟨false, T.size e, el⟩ }
   | none => none
  | _ => none
 | .load t a => (loadA T st t a).map fun v => st.put o.dst (.val v)
 | .store t a x => (storeA T st t a (st.val x)).map fun st' => st'.put o.dst (.val undefV)
 | .nilCheck x => match st.val x with
  | .c (.ptr a b k) => some (st.put o.dst (.val (.c (.ptr a b k))))
  | _ => none
 | .binOp op t x y _ => (binA T st.h op t (st.val x) (st.val y)).map fun v => st.put o.dst (.val v)
 | .unOp op _ x => (unA op (st.val x)).map fun v => st.put o.dst (.val v)
 | .convert src dst x => (convA T st.h src dst (st.val x)).map fun v => st.put o.dst (.val v)
 | .makeFunc (.func f) first caps =>
  if first.isEmpty then (ptrsOf (caps.toList.map st.val)).map fun l => st.put o.dst (.val (.c (.fn f l))) else none
 | .makeSlice t l cp => match T.td t, st.val l, st.val cp with
  | .slice e, .c (.int .i64 n), .c (.int .i64 m) =>
   if isOther T e = false ∧ 0 ≤ n ∧ n = m ∧ n ≤ lenMost then
    some { st.put o.dst (.val (.c (.sl st.h.length 0 n.toNat none))) with h := st.h.push ⟨false, T.size e, List.replicate n.toNat (T.zero e)⟩ }
   else none
  | _, _, _ => none
 | .slice t x lo hi mx => (sliceA T st.h t (st.val x) (lo.map st.val) (hi.map st.val) (mx.map st.val)).map fun v => st.put o.dst (.val v)
 | .fieldAddr s x f => match T.td s with
  | .struct fs => match fs[f]? with
   | none => none
   | some (_, off) => match st.slot x with
    | .loc b k => some (st.put o.dst (.loc b (k + off)))
    | .val (.c (.ptr id i k)) => some (st.put o.dst (.val (.c (.ptr id i (k + off)))))
    | _ => none
  | _ => none
 | .field s x f => match T.td s, st.val x with
  | .struct fs, .g cs => match fs[f]? with
   | none => none
   | some (t, off) => if off + T.size t ≤ cs.length then (asV T t ((cs.drop off).take (T.size t))).map fun v => st.put o.dst (.val v) else none
  | _, _ => none
 | .indexAddr t x ix => match T.td t, st.val x, st.val ix with
  | .slice e, .c (.sl id i len _), .c (.int _ n) =>
   if 0 ≤ n ∧ n < len then (match st.h.get id with
    | some b => if b.es = T.size e ∧ isOther T e = false then some (st.put o.dst (.val (.c (.ptr id (i + n.toNat) 0)))) else none
    | none => none) else none
  | _, _, _ => none
 | .index t x ix => match T.td t, st.val x, st.val ix with
  | .str, .c (.str s), .c (.int _ n) =>
   if 0 ≤ n then (match s[n.toNat]? with
    | some b => some (st.put o.dst (.val (.c (.int .u8 b.toNat))))
    | none => none) else none
  | _, _, _ => none
 | .extract x ix => match st.val x with
  | .t vs => (vs[ix]?).map fun v => st.put o.dst (.val v)
  | _ => none
 | .range t x => match T.td t, st.val x with
  | .str, .c (.str s) => match o.dst with
   | some d => some { st with env := (d, .iter) :: st.env, its := (d, s, 0) :: st.its }
   | none => none
  | _, _ => none
 | .next it isString => match it, isString with
  | .tmp t, true => match lk st.env t, lk st.its t with
   | some .iter, some (s, pos) =>
    if pos < s.size then
     some ({ st with its := (t, s, pos + (Utf8.decode s pos).2) :: st.its }.put o.dst (.val (.t [.c (.bool true), .c (.int .i64 pos), .c (.int .i32 (Utf8.decode s pos).1)])))
    else some (st.put o.dst (.val (.t [.c (.bool false)])))
   | _, _ => none
  | _, _ => none
 | .call cl => match cl.callee with
  | .builtin .len => match (cl.args.toList.map st.val), (cl.argTypes.toList.map T.td) with
   | [x], [d] => (lenA d x).map fun n => st.put o.dst (.val (.c (.int .i64 n)))
   | _, _ => none
  | .builtin .append => match (cl.args.toList.map st.val), (cl.argTypes.toList.map T.td) with
   | [s, x], [.slice e, .slice _] => if isOther T e then none else (appendA (T.size e) st.h s x).map fun r => { st.put o.dst (.val r.1) with h := r.2 }
   | _, _ => none
  | .builtin .max => match (cl.args.toList.map st.val) with
   | [x, y] => (mm true x y).map fun v => st.put o.dst (.val v)
   | _ => none
  | .builtin .min => match (cl.args.toList.map st.val) with
   | [x, y] => (mm false x y).map fun v => st.put o.dst (.val v)
   | _ => none
  | .builtin .clear => match (cl.args.toList.map st.val), (cl.argTypes.toList.map T.td) with
   | [x], [.slice e] => (clearA T e st.h x).map fun h => { st.put o.dst (.val undefV) with h := h }
   | _, _ => none
  | .builtin _ => none
  | .value f => match st.val f with
   | .c (.fn fid l) => (call fid (cl.args.toList.map st.val ++ V.caps l) st.h).map fun r => { st.put o.dst (.val r.1) with h := r.2 }
   | _ => none
  | .invoke .. => none
 | _ => none
def wantedA (ops : List Oper) (st : St) (o : Oper) : Option Bool :=
 match o.guard with
 | none => some true
 | some (j, want) => match ops[j]? with
  | none => some false
  | some oj => match oj.dst with
   | none => some false
   | some d => match lk st.env d with
    | some (.val (.c (.bool b))) => some (b == want)
    | some (.val (.t [])) => some false
    | _ => none
def dstOk (nt : Nat) (o : Oper) : Bool := match o.dst with | none => true | some d => decide (d < nt)
def evalOps (T : TT) (call : CallF) (esc : List Tmp) (nt : Nat) (ops : List Oper) : List Oper → St → Option St
 | [], st => some st
 | o :: r, st => if dstOk nt o then (match wantedA ops st o with
  | none => none
  | some false => evalOps T call esc nt ops r (st.put o.dst (.val undefV))
  | some true => (evalOp T call esc o st).bind fun st' => evalOps T call esc nt ops r st') else none
def quietOp : Op → Bool
 | .move _ | .assign _ | .pick .. | .load .. | .nilCheck _ | .binOp .. | .unOp .. | .slice .. | .fieldAddr .. | .field .. | .indexAddr .. | .index .. | .extract .. => true
 | .call c => match c.callee with
  | .builtin .len => true
  | .value _ => true
  | _ => false
 | _ => false
def V.known : V → Bool | .u => false | _ => true
open Classical in
noncomputable def quietCall (call : CallF) : CallF := fun f args h =>
 match call f args h with
 | some (r, h') => if h' = h ∧ r.known = true then some (r, h') else none
 | none => none
def readOp : Op → Bool
 | .move _ | .assign _ | .pick .. | .load .. | .nilCheck _ | .binOp .. | .unOp .. | .convert .. | .makeFunc .. | .slice .. | .fieldAddr .. | .field .. | .indexAddr .. | .index .. | .extract .. | .build .. => true
 | .call c => match c.callee with
  | .builtin .len | .builtin .max | .builtin .min => true
  | _ => false
 | _ => false
def memFree : Op → Bool
 | .move _ | .assign _ | .pick .. | .unOp .. | .fieldAddr .. | .field .. | .index .. | .extract .. => true
 | _ => false
def drawOp : Op → Bool
 | .alloc _ | .buildSlice .. | .makeSlice .. | .store .. => true
 | .call c => match c.callee with
  | .builtin .append | .value _ => true
  | .builtin .len | .builtin .max | .builtin .min => true
  | _ => false
 | op => readOp op
def callsVal : Op → Bool
 | .call c => match c.callee with | .value _ => true | _ => false
 | _ => false
def waitMask (l : List Nat) (o : Oper) : Nat := (o.after.toList.filter (Region.binds .any)).foldl (fun m e => m ||| 2 ^ e.on ||| (l[e.on]?.getD 0)) 0
def waitTo (ops : List Oper) : Nat → List Nat
 | 0 => []
 | i + 1 => waitTo ops i ++ [match ops[i]? with | some o => waitMask (waitTo ops i) o | none => 0]
def floatOp : Op → Bool
 | .alloc _ | .buildSlice .. => true
 | _ => false
def isF (esc : List Tmp) (o : Oper) : Bool := floatOp o.op && o.guard.isNone && (match o.dst with | some d => !esc.contains d | none => false)
def incr : List Nat → Bool
 | x :: y :: r => decide (x < y) && incr (y :: r)
 | _ => true
def memAt (xs : List Nat) (k : Nat) : Nat := match k with | 0 => 0 | k + 1 => xs.getD k 0 + 1
def opAt (ops : List Oper) (j : Nat) (f : Oper → Bool) : Bool := match ops[j]? with | some o => f o | none => false
def pairsX (ops : List Oper) (xs : List Nat) (prs : List (Nat × Nat)) : Bool :=
 let A := waitTo ops ops.length
 (List.range ops.length).all fun j => xs.contains j || opAt ops j (fun o => memFree o.op) ||
  (List.range (xs.length + 1)).all fun k => (k == (xs.filter (· < j)).length) || prs.contains (j, memAt xs k) ||
   (List.range k).any (fun p => (A.getD (xs.getD p 0) 0).testBit j) || (List.range xs.length).any (fun p => decide (k ≤ p) && (A.getD j 0).testBit (xs.getD p 0))
def lastX (ops : List Oper) (prs : List (Nat × Nat)) : Bool :=
 prs.all fun p => opAt ops p.1 fun oj => (match oj.dst with | some d => !(oj.looksAt ops.toArray).contains d | none => true) && (List.range ops.length).all fun i => decide (i ≤ p.1) || opAt ops i fun o => match o.dst with
  | none => true
  | some d => !(oj.looksAt ops.toArray).contains d && oj.dst != some d
def rowX (esc : List Tmp) (ops : List Oper) (xs : List Nat) : Bool :=
 let A := waitTo ops ops.length
 incr xs &&
 (xs.all fun y => opAt ops y fun o => isF esc o || ((xs.all fun x => decide (y ≤ x) || (A.getD y 0).testBit x) && (callsVal o.op || xs.all fun i => decide (i ≤ y) || !(opAt ops i (isF esc)) || (A.getD i 0).testBit y))) &&
 (xs.all fun i => !(opAt ops i (isF esc)) || (List.range ops.length).all fun j => !(opAt ops j fun o => o.after.any fun e => Region.binds .any e && e.on == i) || xs.all fun x => decide (i ≤ x) || (A.getD j 0).testBit x)
def LexX (esc : List Tmp) (ops : List Oper) (xs : List Nat) (prs : List (Nat × Nat)) : Bool :=
 Region.lexB .any ops.toArray && (List.range ops.length).all (fun i => opAt ops i fun o => drawOp o.op && (xs.contains i || readOp o.op || callsVal o.op)) &&
 xs.all (fun x => decide (x < ops.length)) && rowX esc ops xs && pairsX ops xs prs && lastX ops prs
def freshB (esc : List Tmp) (o : Oper) (st : St) : Bool := match o.op, o.dst with
 | .alloc _, some d => esc.contains d || (lk st.bx d).isNone
 | _, _ => true
def runX (T : TT) (call qcall : CallF) (esc : List Tmp) (nt : Nat) (ops : List Oper) (xs : List Nat) : Nat → List Oper → St → List (Nat × St) → Option (St × List (Nat × St))
 | _, [], st, ms => some (st, ms)
 | i, o :: r, st, ms => if dstOk nt o && freshB esc o st then (match wantedA ops st o with
  | none => none
  | some false => runX T call qcall esc nt ops xs (i + 1) r (st.put o.dst (.val undefV)) (if xs.contains i then (i + 1, st.put o.dst (.val undefV)) :: ms else ms)
  | some true => (evalOp T (if xs.contains i then call else qcall) esc o st).bind fun st' => runX T call qcall esc nt ops xs (i + 1) r st' (if xs.contains i then (i + 1, st') :: ms else ms)) else none
def lookX (T : TT) (qcall : CallF) (esc : List Tmp) (ops : List Oper) (E : St) (ms : List (Nat × St)) (p : Nat × Nat) : Option (St × Option Tmp) :=
 (ops[p.1]?).bind fun o => (lk ms p.2).bind fun m => match wantedA ops E o with
  | none => none
  | some false => some (E, none)
  | some true => (evalOp T qcall esc o { E with h := m.h, bx := m.bx, its := m.its }).map fun r => (r, o.dst)
def LooksX (T : TT) (qcall : CallF) (esc : List Tmp) (ops : List Oper) (E : St) (ms : List (Nat × St)) : List (Nat × Nat) → Prop
 | [] => True
 | p :: r => (∃ x, lookX T qcall esc ops E ms p = some x ∧ ∀ d, x.2 = some d → lk x.1.env d = lk E.env d) ∧ LooksX T qcall esc ops E ms r
open Classical in
noncomputable def evalDraw (T : TT) (call qcall : CallF) (fl : Option (List Nat × List (Nat × Nat))) (esc : List Tmp) (nt : Nat) (ops : List Oper) (st : St) : Option St :=
 match fl with
 | none => if ops.all (fun o => quietOp o.op) && Region.lexB .any ops.toArray then evalOps T qcall esc nt ops ops st else none
 | some (xs, prs) => if LexX esc ops xs prs then (runX T call qcall esc nt ops xs 0 ops st [(0, st)]).bind fun r => if LooksX T qcall esc ops r.1 r.2 prs then some r.1 else none else none
inductive Ex where
 | normal
 | exit (id : Nat)
 | ret
 deriving DecidableEq, Inhabited
abbrev LS := List V × List (List Cell) × List (ByteArray × Nat) × H
def saveV (st : St) : List Tmp → List V
 | [] => []
 | t :: r => st.val (.tmp t) :: saveV st r
def saveB (st : St) : List Tmp → List (List Cell)
 | [] => []
 | t :: r => (lk st.bx t).getD [] :: saveB st r
def saveI (st : St) : List Tmp → List (ByteArray × Nat)
 | [] => []
 | t :: r => (lk st.its t).getD (ByteArray.empty, 0) :: saveI st r
def restV : List Tmp → List V → List (Nat × Slot)
 | [], _ => []
 | t :: r, vs => (t, .val (vs.headD .u)) :: restV r vs.tail
def restL : List Tmp → List (Nat × Slot)
 | [] => []
 | t :: r => (t, .loc t 0) :: restL r
def restB : List Tmp → List (List Cell) → List (Nat × List Cell)
 | [], _ => []
 | t :: r, bs => (t, bs.headD []) :: restB r bs.tail
def restJ : List Tmp → List (Nat × Slot)
 | [] => []
 | t :: r => (t, .iter) :: restJ r
def restI : List Tmp → List (ByteArray × Nat) → List (Nat × ByteArray × Nat)
 | [], _ => []
 | t :: r, is => (t, is.headD (ByteArray.empty, 0)) :: restI r is.tail
abbrev Keep := List Tmp × List Tmp × List Tmp
def St.save (st : St) (k : Keep) : LS := (saveV st k.1, saveB st k.2.1, saveI st k.2.2, st.h)
def restore (k : Keep) (ls : LS) : St := ⟨restV k.1 ls.1 ++ (restL k.2.1 ++ restJ k.2.2), restB k.2.1 ls.2.1, restI k.2.2 ls.2.2.1, ls.2.2.2⟩
def keepOk (st : St) (k : Keep) : Bool :=
 k.2.1.all (fun b => (match lk st.env b with | some (.loc b' 0) => b' == b | _ => false) && (lk st.bx b).isSome) &&
 k.2.2.all (fun t => (match lk st.env t with | some .iter => true | _ => false) && (lk st.its t).isSome)
abbrev LoopF := (LS → Option (Ex × LS)) → LS → Option (Ex × LS)
noncomputable def evalC (T : TT) (call qcall : CallF) (lp : LoopF) (ann : Ann) (nt : Nat) : Code → Nat → St → Option (Ex × St)
 | .skip, _, st => some (.normal, st)
 | .region id ops draw, _, st =>
  if draw then (evalDraw T call qcall (lk ann.flo id) ann.esc nt ops.toList st).map fun st => (.normal, st)
  else (evalOps T call ann.esc nt ops.toList ops.toList st).map fun st => (.normal, st)
 | .seq a b, cur, st => (evalC T call qcall lp ann nt a cur st).bind fun r => match r.1 with
  | .normal => evalC T call qcall lp ann nt b cur r.2
  | e => some (e, r.2)
 | .cond x a b, cur, st => match st.val x with
  | .c (.bool r) => if r then evalC T call qcall lp ann nt a cur st else evalC T call qcall lp ann nt b cur st
  | _ => none
 | .block id c, _, st => (evalC T call qcall lp ann nt c id st).map fun r => (if r.1 = .exit id then .normal else r.1, r.2)
 | .loop c, cur, st => match lk ann.keep cur with
  | none => none
  | some k =>
   if keepOk st k then
    (lp (fun ls => (evalC T call qcall lp ann nt c cur (restore k ls)).bind fun r => if keepOk r.2 k then some (r.1, r.2.save k) else none) (st.save k)).bind fun r =>
     match r.1 with
     | .normal => none
     | e => some (e, restore k r.2)
   else none
 | .exit id, _, st => some (.exit id, st)
 | .ret, _, st => some (.ret, st)
 | _, _, _ => none
def resultsA (T : TT) (st : St) : List ResultVar → Option (List V)
 | [] => some []
 | .tmp t :: r => match resultsA T st r with
  | some vs => some (st.val (.tmp t) :: vs)
  | none => none
 | .cell a t :: r => match loadA T st t (.tmp a), resultsA T st r with
  | some v, some vs => some (v :: vs)
  | _, _ => none
def oneV : List V → V
 | [v] => v
 | vs => .t vs
def tupOk (vs : List V) : Bool := vs.length == 1 || vs.all (fun v => match v with | .c _ => true | .g _ => true | _ => false)
def argsEnv : Nat → List V → List (Nat × Slot)
 | _, [] => []
 | i, v :: r => (i, .val v) :: argsEnv (i + 1) r
noncomputable def evalFn (T : TT) (call qcall : CallF) (lp : LoopF) (ann : Ann) (fn : Func) (args : List V) (h : H) : Option (V × H) :=
 match fn.body with
 | none => none
 | some c => if args.length ≤ fn.ntmps then (evalC T call qcall lp ann fn.ntmps c 0 ⟨argsEnv 0 args, [], [], h⟩).bind fun r => match r.1 with
   | .exit _ => none
   | _ => match resultsA T r.2 fn.results.toList with
    | some vs => if tupOk vs then some (oneV vs, r.2.h) else none
    | none => none
  else none
def V.plain1 : V → Bool
 | .c (.int ..) | .c (.bool _) | .c (.str _) => true
 | .g xs => xs.all fun | .int .. | .bool _ | .str _ => true | _ => false
 | _ => false
def V.plain : V → Bool
 | .t xs => xs.all V.plain1
 | v => v.plain1
def H.keeps (h h' : H) : Prop := ∀ id, id < h.length → h'.get id = h.get id
structure Prg where
 P : Program
 T : TT
 ann : FuncId → Ann
 prim : FuncId → List V → Option V
open Classical in
noncomputable def Prg.callBody (D : Prg) (call : CallF) (lp : LoopF) : CallF := fun f args h =>
 match D.prim f args with
 | some r => some (r, h)
 | none => match D.P.funcs[f]? with
  | none => none
  | some fn => match evalFn D.T call (quietCall call) lp (D.ann f) fn args h with
   | none => none
   | some (r, h') => if (D.ann f).trunc then (if r.plain = true ∧ h.keeps h' then some (r, h) else none) else some (r, h')
def iterN (n : Nat) : LoopF := fun body ls =>
 match n with
 | 0 => none
 | n + 1 => (body ls).bind fun r => match r.1 with
  | .normal => iterN n body r.2
  | _ => some r
noncomputable def Prg.callA (D : Prg) : Nat → CallF
 | 0 => fun _ _ _ => none
 | n + 1 => D.callBody (D.callA n) (iterN n)
end Go.AM

/-
 THE ABSTRACT MACHINE, 2: how its values, heap and frames stand to the model's world. No program is named here.
-/
namespace Go.AM
structure Pl where
 blk : Nat
 base : Nat
 cap : Nat
 es : Nat
 spot : Option Nat := none
 deriving Inhabited
abbrev Plan := Nat → Pl
def ptrV (ι : Plan) (x : Nat × Nat × Nat) : Value := .pointer (some ⟨(ι x.1).blk, (ι x.1).base + x.2.1 * (ι x.1).es + x.2.2, none⟩)
def Cell.conc (ι : Plan) : Cell → Value
 | .int k n => .int k n
 | .bool b => .bool b
 | .str s => .string s
 | .ptr id i k => ptrV ι (id, i, k)
 | .nilp => .pointer none
 | .sl id i len cap => .slice (some ⟨(ι id).blk, (ι id).base + i * (ι id).es, none⟩) len (match cap with | some c => c | none => (ι id).cap - i)
 | .sle id i l => if i + l = (ι id).cap then .slice (some ⟨(ι id).blk, (ι id).base + i * (ι id).es, none⟩) 0 0
   else .slice (some ⟨(ι id).blk, (ι id).base + (i + l) * (ι id).es, none⟩) 0 ((ι id).cap - (i + l))
 | .esl id => .slice (some ⟨(ι id).blk, (ι id).base, (ι id).spot⟩) 0 0
 | .nils => .slice none 0 0
 | .fn f caps => .func (.func f) #[] (caps.map (ptrV ι)).toArray
 | .nilfn => .nilFunc
def Cell.below (n : Nat) : Cell → Prop
 | .ptr id _ _ | .sl id _ _ _ | .sle id _ _ | .esl id => id < n
 | .fn _ caps => ∀ x ∈ caps, x.1 < n
 | _ => True
def V.conc1 (ι : Plan) : V → Value
 | .c x => x.conc ι
 | .g xs => .agg (xs.map (Cell.conc ι)).toArray
 | _ => undef
def V.conc (ι : Plan) : V → Value
 | .t vs => .tuple (vs.map (V.conc1 ι)).toArray
 | v => v.conc1 ι
def V.ok1 (n : Nat) : V → Prop
 | .c x => x.below n
 | .g xs => ∀ x ∈ xs, x.below n
 | _ => False
def V.ok (n : Nat) : V → Prop
 | .t vs => ∀ v ∈ vs, v.ok1 n
 | v => v.ok1 n
def V.rel (ι : Plan) (n : Nat) : V → Value → Prop
 | .u, _ => True
 | v, x => x = v.conc ι ∧ v.ok n
theorem V.rel_mk {ι : Plan} {n : Nat} {v : V} {x : Value} (h : x = v.conc ι) (h' : v.ok n) : v.rel ι n x := by
 cases v <;> first | exact ⟨h, h'⟩ | trivial
theorem V.rel_known {ι : Plan} {n : Nat} {v : V} {x : Value} (h : v.rel ι n x) (hk : v.known = true) : x = v.conc ι ∧ v.ok n := by
 cases v <;> first | exact h | cases hk
def Agree (n : Nat) (ι ι' : Plan) : Prop := ∀ id, id < n → ι' id = ι id
theorem Agree.refl (n : Nat) (ι : Plan) : Agree n ι ι := fun _ _ => rfl
theorem Agree.mono {n m : Nat} {ι ι' : Plan} (h : Agree n ι ι') (hm : m ≤ n) : Agree m ι ι' := fun id hi => h id (Nat.lt_of_lt_of_le hi hm)
theorem Agree.trans {n m : Nat} {a b c : Plan} (h : Agree n a b) (h' : Agree m b c) (hm : n ≤ m) : Agree n a c :=
 fun id hi => (h' id (Nat.lt_of_lt_of_le hi hm)).trans (h id hi)
theorem ptrV_agree {n : Nat} {ι ι' : Plan} (h : Agree n ι ι') {x : Nat × Nat × Nat} (hx : x.1 < n) : ptrV ι' x = ptrV ι x := by
 simp [ptrV, h _ hx]
theorem Cell.conc_agree {n : Nat} {ι ι' : Plan} (h : Agree n ι ι') {x : Cell} (hx : x.below n) : x.conc ι' = x.conc ι := by
 cases x <;> simp only [Cell.conc, Cell.below] at * <;> try rfl
 case ptr id i k => exact ptrV_agree h hx
 case sl id i len cap => rw [h _ hx]
 case sle id i l => rw [h _ hx]
 case esl id => rw [h _ hx]
 case fn f caps => rw [List.map_congr_left fun x m => ptrV_agree h (hx x m)]
theorem cells_agree {n : Nat} {ι ι' : Plan} (h : Agree n ι ι') {xs : List Cell} (hx : ∀ x ∈ xs, x.below n) : xs.map (Cell.conc ι') = xs.map (Cell.conc ι) :=
 List.map_congr_left fun x m => Cell.conc_agree h (hx x m)
theorem V.conc1_agree {n : Nat} {ι ι' : Plan} (h : Agree n ι ι') {v : V} (hv : v.ok1 n) : v.conc1 ι' = v.conc1 ι := by
 cases v <;> simp only [V.conc1, V.ok1] at *
 ·exact Cell.conc_agree h hv
 ·rw [cells_agree h hv]
theorem V.conc_agree {n : Nat} {ι ι' : Plan} (h : Agree n ι ι') {v : V} (hv : v.ok n) : v.conc ι' = v.conc ι := by
 cases v
 case t vs => simp only [V.conc]; rw [List.map_congr_left fun x m => V.conc1_agree h (hv x m)]
 all_goals exact V.conc1_agree (v := _) h (by simpa only [V.ok] using hv)
theorem Cell.below_mono {n m : Nat} (h : n ≤ m) {x : Cell} (hx : x.below n) : x.below m := by
 cases x <;> simp only [Cell.below] at * <;> first | omega | (intro y hy; have := hx y hy; omega)
theorem V.ok1_mono {n m : Nat} (h : n ≤ m) {v : V} (hv : v.ok1 n) : v.ok1 m := by
 cases v <;> simp only [V.ok1] at *
 ·exact Cell.below_mono h hv
 ·exact fun x hx => Cell.below_mono h (hv x hx)
theorem V.ok_mono {n m : Nat} (h : n ≤ m) {v : V} (hv : v.ok n) : v.ok m := by
 cases v
 case t vs => exact fun v hv' => V.ok1_mono h (hv v hv')
 all_goals (simp only [V.ok] at hv ⊢; exact V.ok1_mono h hv)
theorem V.rel_agree {n m : Nat} {ι ι' : Plan} (h : Agree n ι ι') (hm : n ≤ m) {v : V} {x : Value} (hv : v.rel ι n x) : v.rel ι' m x := by
 cases v <;> simp only [V.rel] at * <;> exact ⟨by rw [V.conc_agree h hv.2]; exact hv.1, V.ok_mono hm hv.2⟩
/-! The heap's own words. -/
theorem H.get_lt {h : H} {id : Nat} {b : Blk} (hg : h.get id = some b) : id < h.length := by
 unfold H.get at hg
 rcases Nat.lt_or_ge id h.length with h' | h'
 ·exact h'
 ·simp [List.getElem?_eq_none h'] at hg
theorem H.get_push (h : H) (b : Blk) (id : Nat) : (h.push b).get id = if id = h.length then some b else h.get id := by
 unfold H.get H.push
 by_cases e : id = h.length
 ·subst e; simp
 ·rw [if_neg e]
  rcases Nat.lt_or_ge id h.length with h' | h'
  ·rw [List.getElem?_append_left h']
  ·rw [List.getElem?_eq_none (by simp; omega), List.getElem?_eq_none h']
theorem H.get_set (h : H) (id : Nat) (ob : Option Blk) (id' : Nat) (hi : id < h.length) : H.get (h.set id ob) id' = if id' = id then ob else h.get id' := by
 unfold H.get
 by_cases e : id' = id
 ·subst e; simp [hi]
 ·simp [e, Ne.symm e]
theorem H.length_push (h : H) (b : Blk) : (h.push b).length = h.length + 1 := by simp [H.push]
/-! The relation of heaps. -/
structure HR (B : Nat) (ι : Plan) (h : H) (w : World) : Prop where
 size : B ≤ w.heap.size
 live : ∀ id b, h.get id = some b → ∃ cs et fz, w.heap[(ι id).blk]? = some (.cells cs et fz) ∧ (ι id).es = b.es ∧ 0 < b.es ∧ (∀ e ∈ b.el, e.length = b.es) ∧
  b.el.length ≤ (ι id).cap ∧ (ι id).base + (ι id).cap * b.es ≤ cs.size ∧
  (∀ (i : Nat) (e : List Cell) (k : Nat) (x : Cell), b.el[i]? = some e → e[k]? = some x → cs[(ι id).base + i * b.es + k]? = some (x.conc ι) ∧ x.below h.length) ∧ (b.ro = false → B ≤ (ι id).blk ∧ fz = (0, 0))
 apart : ∀ id id' b b', id ≠ id' → h.get id = some b → h.get id' = some b' → b.ro = false → (ι id).blk ≠ (ι id').blk
structure BR (N : Nat) (ι : Plan) (β γ : Nat → Nat) (h : H) (bx : List (Nat × List Cell)) (its : List (Nat × ByteArray × Nat)) (w : World) : Prop where
 box : ∀ d cs, lk bx d = some cs → (∃ et, w.heap[β d]? = some (.cells (cs.map (Cell.conc ι)).toArray et (0, 0))) ∧ (∀ x ∈ cs, x.below h.length) ∧ N ≤ β d
 bapart : ∀ d d' cs cs', d ≠ d' → lk bx d = some cs → lk bx d' = some cs' → β d ≠ β d'
 away : ∀ d cs id b, lk bx d = some cs → h.get id = some b → (ι id).blk ≠ β d
 it : ∀ d s p, lk its d = some (s, p) → w.heap[γ d]? = some (.stringIter s p) ∧ N ≤ γ d
 iapart : ∀ d d' x x', d ≠ d' → lk its d = some x → lk its d' = some x' → γ d ≠ γ d'
structure FR (h0 : H) (ι0 : Plan) (w0 : World) (h : H) (ι : Plan) (w : World) : Prop where
 os : w.os = w0.os
 tape : w.tape = w0.tape
 output : w.output = w0.output
 size : w0.heap.size ≤ w.heap.size
 len : h0.length ≤ h.length
 agree : Agree h0.length ι0 ι
 keep : ∀ b, b < w0.heap.size → (∀ id bl, h0.get id = some bl → bl.ro = false → (ι0 id).blk ≠ b) → w.heap[b]? = w0.heap[b]?
 origin : ∀ id bl, h.get id = some bl → bl.ro = false → w0.heap.size ≤ (ι id).blk ∨ ∃ id0 bl0, h0.get id0 = some bl0 ∧ bl0.ro = false ∧ (ι id).blk = (ι0 id0).blk
 rofix : ∀ id bl, h.get id = some bl → bl.ro = true → h0.get id = some bl
theorem FR.refl (h : H) (ι : Plan) (w : World) : FR h ι w h ι w :=
 ⟨rfl, rfl, rfl, Nat.le_refl _, Nat.le_refl _, Agree.refl _ _, fun _ _ _ => rfl, fun id bl hg hr => .inr ⟨id, bl, hg, hr, rfl⟩, fun _ _ hg _ => hg⟩
theorem FR.trans {h0 h1 h2 : H} {ι0 ι1 ι2 : Plan} {w0 w1 w2 : World} (a : FR h0 ι0 w0 h1 ι1 w1) (b : FR h1 ι1 w1 h2 ι2 w2) : FR h0 ι0 w0 h2 ι2 w2 where
 os := b.os.trans a.os
 tape := b.tape.trans a.tape
 output := b.output.trans a.output
 size := Nat.le_trans a.size b.size
 len := Nat.le_trans a.len b.len
 agree := a.agree.trans b.agree a.len
 keep := fun k hk hn => by
  rw [b.keep k (Nat.lt_of_lt_of_le hk a.size) fun id bl hg hr => ?_, a.keep k hk hn]
  rcases a.origin id bl hg hr with h | ⟨id0, bl0, hg0, hr0, e⟩
  ·omega
  ·rw [e]; exact hn id0 bl0 hg0 hr0
 origin := fun id bl hg hr => by
  rcases b.origin id bl hg hr with h | ⟨id1, bl1, hg1, hr1, e⟩
  ·exact .inl (Nat.le_trans a.size h)
  ·rcases a.origin id1 bl1 hg1 hr1 with h | ⟨id0, bl0, hg0, hr0, e0⟩
   ·exact .inl (by rw [e]; exact h)
   ·exact .inr ⟨id0, bl0, hg0, hr0, e.trans e0⟩
 rofix := fun id bl hg hr => a.rofix id bl (b.rofix id bl hg hr) hr
structure WR (B : Nat) (h0 : H) (ι0 : Plan) (w0 : World) (ι : Plan) (β γ : Nat → Nat) (h : H) (bx : List (Nat × List Cell)) (its : List (Nat × ByteArray × Nat)) (w : World) : Prop where
 hr : HR B ι h w
 br : BR w0.heap.size ι β γ h bx its w
 fr : FR h0 ι0 w0 h ι w
def slotRel (ι : Plan) (β γ : Nat → Nat) (n : Nat) (bx : List (Nat × List Cell)) (its : List (Nat × ByteArray × Nat)) (t : Nat) : Slot → Value → Prop
 | .val v, x => v.rel ι n x
 | .loc b k, x => x = .pointer (some ⟨β b, k, none⟩) ∧ (lk bx b).isSome
 | .iter, x => x = .pointer (some ⟨γ t, 0, none⟩) ∧ (lk its t).isSome
structure ER (nt : Nat) (ι : Plan) (β γ : Nat → Nat) (n : Nat) (bx : List (Nat × List Cell)) (its : List (Nat × ByteArray × Nat)) (env : List (Nat × Slot)) (a : Act) : Prop where
 df : a.defers = []
 nt : a.tmps.size = nt
 slot : ∀ t s, lk env t = some s → slotRel ι β γ n bx its t s (a.tmps.getD t undef)
theorem lk_cons {α : Type} (t' : Nat) (x : α) (e : List (Nat × α)) (t : Nat) : lk ((t', x) :: e) t = if t' = t then some x else lk e t := by
 simp only [lk]; by_cases h : t' = t <;> simp [h]
theorem getD_put (a : Act) (d : Nat) (v : Value) (t : Nat) (hd : d < a.tmps.size) : (a.put (some d) v).tmps.getD t undef = if d = t then v else a.tmps.getD t undef := by
 simp only [Act.put, Array.getD_eq_getD_getElem?]
 by_cases e : d = t
 ·subst e; simp [hd]
 ·simp [e, Array.getElem?_setIfInBounds_ne e]
theorem ER.put {nt : Nat} {ι : Plan} {β γ : Nat → Nat} {n : Nat} {bx : List (Nat × List Cell)} {its : List (Nat × ByteArray × Nat)} {env : List (Nat × Slot)} {a : Act}
  (h : ER nt ι β γ n bx its env a) {d : Nat} (hd : d < nt) {s : Slot} {x : Value} (hs : slotRel ι β γ n bx its d s x) : ER nt ι β γ n bx its ((d, s) :: env) (a.put (some d) x) where
 df := h.df
 nt := by simp [Act.put, h.nt]
 slot := fun t s' hl => by
  rw [getD_put a d x t (by rw [h.nt]; exact hd)]
  rw [lk_cons] at hl
  by_cases e : d = t
  ·subst e; simp only [↓reduceIte, Option.some.injEq] at hl; subst hl; simpa using hs
  ·rw [if_neg e] at hl ⊢; exact h.slot t s' hl
theorem ER.putO {nt : Nat} {ι : Plan} {β γ : Nat → Nat} {n : Nat} {bx : List (Nat × List Cell)} {its : List (Nat × ByteArray × Nat)} {st : St} {a : Act}
  (h : ER nt ι β γ n bx its st.env a) {dst : Option Tmp} (hd : ∀ d, dst = some d → d < nt) {s : Slot} {x : Value} (hs : ∀ d, dst = some d → slotRel ι β γ n bx its d s x) :
  ER nt ι β γ n bx its (st.put dst s).env (a.put dst x) := by
 cases dst with
 | none => exact h
 | some d => exact h.put (hd d rfl) (hs d rfl)
@[simp] theorem put_bx (st : St) (d : Option Tmp) (s : Slot) : (st.put d s).bx = st.bx := by cases d <;> rfl
@[simp] theorem put_its (st : St) (d : Option Tmp) (s : Slot) : (st.put d s).its = st.its := by cases d <;> rfl
@[simp] theorem put_h (st : St) (d : Option Tmp) (s : Slot) : (st.put d s).h = st.h := by cases d <;> rfl
theorem ER.val {nt : Nat} {ι : Plan} {β γ : Nat → Nat} {n : Nat} {st : St} {a : Act} (h : ER nt ι β γ n st.bx st.its st.env a) (x : Operand) : (st.val x).rel ι n (a.eval x) := by
 cases x with
 | tmp t =>
  simp only [St.val, Act.eval]
  cases hl : lk st.env t with
  | none => trivial
  | some s => cases s with
   | val v => exact h.slot t _ hl
   | _ => trivial
 | const v =>
  simp only [St.val, Act.eval]
  unfold ofConst
  split <;> first | trivial | exact ⟨rfl, trivial⟩
 | global g => trivial
 | func f => exact V.rel_mk (v := .c (.fn f [])) (by simp [Act.eval, V.conc, V.conc1, Cell.conc]) (fun x hx => by cases hx)
theorem ER.slotOf {nt : Nat} {ι : Plan} {β γ : Nat → Nat} {n : Nat} {st : St} {a : Act} (h : ER nt ι β γ n st.bx st.its st.env a) (x : Operand) :
  match st.slot x with
  | .val v => v.rel ι n (a.eval x)
  | .loc b k => a.eval x = .pointer (some ⟨β b, k, none⟩) ∧ (lk st.bx b).isSome
  | .iter => True := by
 cases x with
 | tmp t =>
  simp only [St.slot, Act.eval]
  cases hl : lk st.env t with
  | none => trivial
  | some s =>
   have := h.slot t s hl
   cases s <;> simp only [slotRel] at this ⊢ <;> first | exact this | trivial
 | const v => exact h.val (.const v)
 | global g => exact h.val (.global g)
 | func f => exact h.val (.func f)
end Go.AM

/-
 THE ABSTRACT MACHINE, 3: the operations that only read or reckon: what the evaluator gives is what the model gives, in every world that fits.
-/
namespace Go.AM
def Cell.flat : Cell → Bool
 | .ptr .. | .sl .. | .sle .. | .esl .. | .fn .. => false
 | _ => true
theorem Cell.flat_below {x : Cell} (h : x.flat = true) (n : Nat) : x.below n := by cases x <;> first | trivial | cases h
def TD.fits (T : TT) (P : Program) : TD → TypeDesc → Prop
 | .int k, d => d = .int k
 | .bool, d => d = .bool
 | .str, d => d = .string
 | .ptr, d => ∃ e, d = .pointer e ∧ (P.info? e).any (·.size != 0) = true
 | .slice e, d => d = .slice e
 | .struct fs, d => ∃ fields : Array Field, d = .struct fields ∧ fields.toList.map (fun f => (f.type, f.offset)) = fs ∧ (∀ x ∈ fs, isOther T x.1 = false)
 | .fn, d => ∃ a b c, d = .func a b c
 | .other, _ => False
structure TT.Ok (T : TT) (P : Program) : Prop where
 und : ∀ t, isOther T t = false → ∃ d, P.underlying t = some d ∧ (T.td t).fits T P d
 inf : ∀ t, isOther T t = false → ∃ i z, P.info? t = some i ∧ i.size = T.size t ∧ 0 < T.size t ∧ i.zero = some z ∧ (∀ ι, z.cells = ((T.zero t).map (Cell.conc ι)).toArray) ∧
  (T.zero t).length = T.size t ∧ i.bytes ≤ 4096 ∧ (∀ x ∈ T.zero t, x.flat = true)
 eqs : ∀ t fs, T.td t = .struct fs → intFields T fs (T.size t) = true → ∃ fields : Array Field, P.underlying t = some (.struct fields) ∧ (∀ f ∈ fields, f.name ≠ "_") ∧ P.stoodInHeld t = false ∧ P.eqGuardType P.depth t = false
section
variable {T : TT} {P : Program} (ok : T.Ok P)
include ok
theorem run_und {t : TypeId} {d : TypeDesc} (h : P.underlying t = some d) (w : World) : (underlying t).run P w = .ok d w := run_underlying h w
omit ok in
theorem isOther_of {t : TypeId} {d : TD} (h : T.td t = d) (hd : d ≠ .other) : isOther T t = false := by
 subst h; unfold isOther; split <;> simp_all
theorem run_size {t : TypeId} (h : isOther T t = false) (w : World) : (sizeOf t).run P w = .ok (T.size t) w := by
 obtain ⟨i, z, hi, hs, _⟩ := ok.inf t h
 simp [sizeOf, typeInfo, hi, hs]
theorem run_isAgg {t : TypeId} (h : isOther T t = false) (w : World) : (isAgg t).run P w = .ok (isStruct T t) w := by
 obtain ⟨d, hd, hf⟩ := ok.und t h
 unfold isAgg
 rw [Sem.run_bind, run_und ok hd]
 unfold isStruct
 cases htd : T.td t <;> rw [htd] at hf <;> simp only [TD.fits] at hf
 case struct fs => obtain ⟨fields, rfl, _⟩ := hf; rfl
 case ptr => obtain ⟨e, rfl, _⟩ := hf; rfl
 case fn => obtain ⟨a, b, c, rfl⟩ := hf; rfl
 all_goals (subst hf; rfl)
omit ok in
theorem addr_add (g o j : Nat) : (⟨g, o, none⟩ : Addr).add j = ⟨g, o + j, none⟩ := by
 unfold Addr.add; split
 ·subst_vars; simp
 ·rfl
theorem run_loadVarA {t : TypeId} (h : isOther T t = false) {g o : Nat} {cs : List Value} {w : World} (hl : cs.length = T.size t)
  (hc : ∀ j v, cs[j]? = some v → w.cell? ⟨g, o + j, none⟩ = some v) :
  (loadVar t ⟨g, o, none⟩).run P w = (if isStruct T t then .ok (.agg cs.toArray) w else .ok (cs.headD undef) w) := by
 have hcs := run_loadCells_list (P := P) w ⟨g, o, none⟩ cs (fun j v hv => by rw [addr_add]; exact hc j v hv)
 have hpos : 0 < T.size t := by obtain ⟨i, z, _, _, hp, _⟩ := ok.inf t h; exact hp
 unfold loadVar
 rw [Sem.run_bind, run_isAgg ok h]
 by_cases hs : isStruct T t = true
 ·simp only [Result.andThen_ok, hs, ↓reduceIte, Sem.run_bind, run_size ok h, ← hl, hcs, Sem.run_pure]
 ·simp only [Bool.not_eq_true] at hs
  simp only [Result.andThen_ok, hs, Bool.false_eq_true, ↓reduceIte, run_load]
  cases cs with
  | nil => simp at hl; omega
  | cons v r =>
   have := hc 0 v rfl
   simp only [Nat.add_zero] at this
   rw [this]; rfl
omit ok in
theorem asV_some {t : TypeId} {cs : List Cell} {v : V} (h : asV T t cs = some v) : isOther T t = false ∧
  ((isStruct T t = true ∧ v = .g cs) ∨ (isStruct T t = false ∧ ∃ x, cs = [x] ∧ v = .c x)) := by
 unfold asV at h
 split at h
 ·cases h
 ·rename_i ho
  refine ⟨by simpa using ho, ?_⟩
  split at h
  ·rename_i hs; cases h; exact .inl ⟨hs, rfl⟩
  ·rename_i hs
   split at h
   ·rename_i x; cases h; exact .inr ⟨by simpa using hs, x, rfl, rfl⟩
   ·cases h
theorem run_load_asV {t : TypeId} {cs : List Cell} {v : V} {ι : Plan} {n : Nat} (h : asV T t cs = some v) (hl : cs.length = T.size t) (hb : ∀ x ∈ cs, x.below n) {g o : Nat} {w : World}
  (hc : ∀ (j : Nat) (x : Cell), cs[j]? = some x → w.cell? ⟨g, o + j, none⟩ = some (x.conc ι)) : (loadVar t ⟨g, o, none⟩).run P w = .ok (v.conc ι) w ∧ v.ok n := by
 obtain ⟨ho, h2⟩ := asV_some h
 have hr := run_loadVarA ok ho (g := g) (o := o) (cs := cs.map (Cell.conc ι)) (w := w) (by simpa using hl) (fun j v hv => by
  rw [List.getElem?_map] at hv
  cases hx : cs[j]? with
  | none => simp [hx] at hv
  | some x => simp [hx] at hv; subst hv; exact hc j x hx)
 rcases h2 with ⟨hs, rfl⟩ | ⟨hs, x, rfl, rfl⟩
 ·rw [hr, if_pos hs]; exact ⟨rfl, hb⟩
 ·rw [hr, if_neg (by simp [hs])]; exact ⟨rfl, hb x (by simp)⟩
omit ok in
theorem mem_take_drop {α : Type} {l : List α} {k n : Nat} {x : α} (h : x ∈ (l.drop k).take n) : x ∈ l := List.mem_of_mem_drop (List.mem_of_mem_take h)
omit ok in
theorem getElem?_take_drop {α : Type} {l : List α} {k n j : Nat} {x : α} (h : ((l.drop k).take n)[j]? = some x) : l[k + j]? = some x ∧ j < n := by
 rw [List.getElem?_take] at h
 split at h
 ·rename_i hj; rw [List.getElem?_drop] at h; exact ⟨h, hj⟩
 ·cases h
omit ok in
theorem HR.cell {B : Nat} {ι : Plan} {h : H} {w : World} (hr : HR B ι h w) {id : Nat} {b : Blk} (hg : h.get id = some b) {i : Nat} {e : List Cell} (he : b.el[i]? = some e) {k : Nat} {x : Cell} (hx : e[k]? = some x) :
  w.cell? ⟨(ι id).blk, (ι id).base + i * (ι id).es + k, none⟩ = some (x.conc ι) ∧ x.below h.length := by
 obtain ⟨cs, et, fz, hh, hes, _, _, _, _, hc, _⟩ := hr.live id b hg
 obtain ⟨h1, h2⟩ := hc i e k x he hx
 refine ⟨?_, h2⟩
 simp [World.cell?, hh, hes, h1]
omit ok in
theorem cellsAt_some {h : H} {id i k n : Nat} {cs : List Cell} (hc : h.cellsAt id i k n = some cs) : ∃ b e, h.get id = some b ∧ b.el[i]? = some e ∧ k + n ≤ e.length ∧ cs = (e.drop k).take n := by
 unfold H.cellsAt at hc
 split at hc
 ·rename_i b hb
  split at hc
  ·rename_i e he
   split at hc
   ·rename_i hl; cases hc; exact ⟨b, e, hb, he, hl, rfl⟩
   ·cases hc
  ·cases hc
 ·cases hc
abbrev WRs (B : Nat) (h0 : H) (ι0 : Plan) (w0 : World) (ι : Plan) (β γ : Nat → Nat) (st : St) (w : World) : Prop := WR B h0 ι0 w0 ι β γ st.h st.bx st.its w
variable {B : Nat} {h0 : H} {ι0 : Plan} {w0 : World} {ι : Plan} {β γ : Nat → Nat} {nt : Nat} {st : St} {a : Act} {w : World}
theorem load_ok {t : TypeId} {x : Operand} {v : V} (her : ER nt ι β γ st.h.length st.bx st.its st.env a) (hw : WRs B h0 ι0 w0 ι β γ st w) (h : loadA T st t x = some v) :
  v.rel ι st.h.length (v.conc ι) ∧ ∀ w, WRs B h0 ι0 w0 ι β γ st w → (Instr.loadAt t (a.eval x)).run P w = .ok (v.conc ι) w := by
 have key : ∀ (g o : Nat) (cs : List Cell), a.eval x = .pointer (some ⟨g, o, none⟩) → asV T t cs = some v → cs.length = T.size t →
   (∀ w, WRs B h0 ι0 w0 ι β γ st w → (∀ y ∈ cs, y.below st.h.length) ∧ ∀ (j : Nat) (y : Cell), cs[j]? = some y → w.cell? ⟨g, o + j, none⟩ = some (y.conc ι)) →
   v.rel ι st.h.length (v.conc ι) ∧ ∀ w, WRs B h0 ι0 w0 ι β γ st w → (Instr.loadAt t (a.eval x)).run P w = .ok (v.conc ι) w := by
  intro g o cs he hv hl hc
  have hrun := fun w hw => run_load_asV ok hv hl (hc w hw).1 (hc w hw).2
  refine ⟨V.rel_mk rfl (hrun w hw).2, fun w hw => ?_⟩
  rw [he]; simp only [Instr.loadAt, Instr.sureAddr, Sem.run_bind, Sem.run_pure, Result.andThen_ok]; exact (hrun w hw).1
 have hsl := her.slotOf x
 unfold loadA at h
 cases hs : st.slot x with
 | iter => simp [hs] at h
 | loc b k =>
  simp only [hs] at h hsl
  cases hb : lk st.bx b with
  | none => simp [hb] at h
  | some cs =>
   simp only [hb] at h
   split at h
   ·rename_i hle
    refine key (β b) k _ hsl.1 h (by simp; omega) fun w hw => ?_
    obtain ⟨⟨et, hh⟩, hbel, _⟩ := hw.br.box b cs hb
    refine ⟨fun y hy => hbel y (mem_take_drop hy), fun j y hy => ?_⟩
    obtain ⟨h1, _⟩ := getElem?_take_drop hy
    simp [World.cell?, hh, h1]
   ·cases h
 | val y =>
  simp only [hs] at h hsl
  cases y with
  | c y => cases y with
   | ptr id i k =>
    simp only at h
    cases hc : st.h.cellsAt id i k (T.size t) with
    | none => simp [hc] at h
    | some cs =>
     simp only [hc] at h
     obtain ⟨b, e, hb, he, hle, rfl⟩ := cellsAt_some hc
     refine key _ _ _ hsl.1 h (by simp; omega) fun w hw => ?_
     have hcell : ∀ (j : Nat) (y : Cell), ((e.drop k).take (T.size t))[j]? = some y → w.cell? ⟨(ι id).blk, (ι id).base + i * (ι id).es + k + j, none⟩ = some (y.conc ι) ∧ y.below st.h.length := fun j y hy => by
      obtain ⟨h1, _⟩ := getElem?_take_drop hy
      have := hw.hr.cell hb he h1
      rw [Nat.add_assoc _ k j]; exact this
     exact ⟨fun y hy => by obtain ⟨j, hj⟩ := List.getElem?_of_mem hy; exact (hcell j y hj).2, fun j y hy => (hcell j y hy).1⟩
   | _ => simp at h
  | _ => simp at h
def Reads (P : Program) (B : Nat) (h0 : H) (ι0 : Plan) (w0 : World) (ι : Plan) (β γ : Nat → Nat) (st : St) (a : Act) (o : Oper) (st' : St) : Prop :=
 ∃ s x, st' = st.put o.dst s ∧ (∀ d, o.dst = some d → slotRel ι β γ st.h.length st.bx st.its d s x) ∧
  ∀ w, WRs B h0 ι0 w0 ι β γ st w → (execOp a.eval o).run P w = .ok (.value x) w
omit ok in
theorem Reads.val {o : Oper} {v : V} {x : Value} (hv : v.rel ι st.h.length x) (hx : ∀ w, WRs B h0 ι0 w0 ι β γ st w → (execOp a.eval o).run P w = .ok (.value x) w) :
  Reads P B h0 ι0 w0 ι β γ st a o (st.put o.dst (.val v)) := ⟨_, x, rfl, fun _ _ => hv, hx⟩
omit ok in
theorem bind_value {s : Sem Value} {x : Value} (h : s.run P w = .ok x w) : (do let v ← s; pure (Next.value v) : Sem Next).run P w = .ok (.value x) w := by
 simp only [Sem.run_bind, h, Result.andThen_ok, Sem.run_pure]
theorem fields_of {t : TypeId} {fs : List (TypeId × Nat)} (h : T.td t = .struct fs) : ∃ fields : Array Field, P.underlying t = some (.struct fields) ∧
  fields.toList.map (fun f => (f.type, f.offset)) = fs ∧ ∀ x ∈ fs, isOther T x.1 = false := by
 obtain ⟨d, hd, hf⟩ := ok.und t (isOther_of h (by simp))
 rw [h] at hf
 obtain ⟨fields, rfl, h1, h2⟩ := hf
 exact ⟨fields, hd, h1, h2⟩
omit ok in
theorem field_at {fields : Array Field} {fs : List (TypeId × Nat)} (h : fields.toList.map (fun f => (f.type, f.offset)) = fs) {i : Nat} {x : TypeId × Nat} (hx : fs[i]? = some x) :
  ∃ f, fields[i]? = some f ∧ f.type = x.1 ∧ f.offset = x.2 := by
 subst h
 rw [List.getElem?_map] at hx
 cases hf : fields.toList[i]? with
 | none => simp [hf] at hx
 | some f =>
  simp [hf] at hx
  exact ⟨f, by simpa using hf, by rw [← hx], by rw [← hx]⟩
theorem slice_of {t e : TypeId} (h : T.td t = .slice e) : P.underlying t = some (.slice e) := by
 obtain ⟨d, hd, hf⟩ := ok.und t (isOther_of h (by simp))
 rw [h] at hf; simp only [TD.fits] at hf; subst hf; exact hd
theorem int_of {t : TypeId} {k : IntKind} (h : T.td t = .int k) : P.underlying t = some (.int k) := by
 obtain ⟨d, hd, hf⟩ := ok.und t (isOther_of h (by simp))
 rw [h] at hf; simp only [TD.fits] at hf; subst hf; exact hd
theorem str_of {t : TypeId} (h : T.td t = .str) : P.underlying t = some .string := by
 obtain ⟨d, hd, hf⟩ := ok.und t (isOther_of h (by simp))
 rw [h] at hf; simp only [TD.fits] at hf; subst hf; exact hd
theorem bool_of {t : TypeId} (h : T.td t = .bool) : P.underlying t = some .bool := by
 obtain ⟨d, hd, hf⟩ := ok.und t (isOther_of h (by simp))
 rw [h] at hf; simp only [TD.fits] at hf; subst hf; exact hd
end
end Go.AM

/-
 THE ABSTRACT MACHINE, 4: arithmetic, comparisons, conversions, cuts.
-/
namespace Go.AM
section
variable {T : TT} {P : Program} (ok : T.Ok P)
variable {B : Nat} {h0 : H} {ι0 : Plan} {w0 : World} {ι : Plan} {β γ : Nat → Nat} {nt : Nat} {st : St} {a : Act} {w : World}
include ok
omit ok in
theorem V.rel_c {x : Cell} {v : Value} {n : Nat} (h : (V.c x).rel ι n v) : v = x.conc ι ∧ x.below n := h
omit ok in
theorem V.rel_g {xs : List Cell} {v : Value} {n : Nat} (h : (V.g xs).rel ι n v) : v = .agg (xs.map (Cell.conc ι)).toArray ∧ ∀ x ∈ xs, x.below n := h
theorem ptr_of {t : TypeId} (h : T.td t = .ptr) : ∃ e, P.underlying t = some (.pointer e) ∧ (P.info? e).any (·.size != 0) = true := by
 obtain ⟨d, hd, hf⟩ := ok.und t (isOther_of h (by simp))
 rw [h] at hf; obtain ⟨e, rfl, h2⟩ := hf; exact ⟨e, hd, h2⟩
theorem run_eqA {t : TypeId} {x y : Cell} {r : Bool} (h : x.eqA st.h y = some r) (hx : tdFits (T.td t) x = true) (hy : tdFits (T.td t) y = true) (hw : WRs B h0 ι0 w0 ι β γ st w) :
  (Op.equal t (x.conc ι) (y.conc ι)).run P w = .ok r w := by
 unfold Op.equal
 rw [show Op.maxDepth = 9999 + 1 from rfl]
 generalize 9999 = dp
 cases htd : T.td t <;> rw [htd] at hx hy <;> cases x <;> (try (simp [tdFits] at hx; done)) <;> cases y <;> (try (simp [tdFits] at hy; done)) <;> simp only [Cell.eqA] at h
 case int.int.int k k1 n k2 m =>
  split at h
  ·rename_i hk; cases h; subst hk
   simp [Cell.conc, Op.equalIn, run_und ok (int_of ok htd)]
  ·cases h
 case bool.bool.bool p q => cases h; simp [Cell.conc, Op.equalIn, run_und ok (bool_of ok htd)]
 case str.str.str p q => cases h; simp [Cell.conc, Op.equalIn, run_und ok (str_of ok htd), beq_toListBytes]
 case ptr.ptr.ptr id i k id' i' k' =>
  split at h
  ·rename_i hk; cases h
   obtain ⟨rfl, rfl, hs⟩ := hk
   obtain ⟨e, hu, hi⟩ := ptr_of ok htd
   obtain ⟨b, hb⟩ := Option.isSome_iff_exists.1 hs
   obtain ⟨cs, et, fz, hh, hes, hpos, _⟩ := hw.hr.live id b hb
   have hsz : ∃ i, P.info? e = some i ∧ i.size ≠ 0 := by
    cases hq : P.info? e with
    | none => simp [hq] at hi
    | some i => exact ⟨i, rfl, by simpa [hq] using hi⟩
   obtain ⟨inf, hq, hnz⟩ := hsz
   simp only [Cell.conc, ptrV, Op.equalIn, Sem.run_bind, run_und ok hu, Result.andThen_ok, sizeOf, typeInfo, run_program, hq, Sem.run_pure, Sem.run_ite, hnz, ne_eq, not_false_eq_true, ↓reduceIte, sameAddr, beq_self_eq_true]
   congr 1
   have : ((ι id).base + i * (ι id).es + k = (ι id).base + i' * (ι id).es + k) ↔ i = i' := by
    rw [hes]
    constructor
    ·intro h; exact Nat.eq_of_mul_eq_mul_right hpos (by omega)
    ·intro h; rw [h]
   by_cases e : i = i'
   ·subst e; simp
   ·simp only [e, decide_false]
    have hne := fun h => e (this.1 h)
    simpa using hne
  ·cases h
 case ptr.ptr.nilp => cases h; obtain ⟨e, hu, _⟩ := ptr_of ok htd; simp [Cell.conc, ptrV, Op.equalIn, run_und ok hu]
 case ptr.nilp.ptr => cases h; obtain ⟨e, hu, _⟩ := ptr_of ok htd; simp [Cell.conc, ptrV, Op.equalIn, run_und ok hu]
 case ptr.nilp.nilp => cases h; obtain ⟨e, hu, _⟩ := ptr_of ok htd; simp [Cell.conc, Op.equalIn, run_und ok hu]
 case slice.sl.sl => cases h
 case slice.sl.nils => cases h; simp [Cell.conc, Op.equalIn, run_und ok (slice_of ok htd)]
 case slice.nils.sl => cases h; simp [Cell.conc, Op.equalIn, run_und ok (slice_of ok htd)]
 case slice.nils.nils => cases h; simp [Cell.conc, Op.equalIn, run_und ok (slice_of ok htd)]
omit ok in
theorem isIntT_spec {t : TypeId} (h : isIntT T t = true) : ∃ k, T.td t = .int k := by
 unfold isIntT at h
 split at h
 ·rename_i k e; exact ⟨k, e⟩
 ·cases h
omit ok in
theorem intPair_spec {t : TypeId} (h : intPair T t = true) : ∃ t0 t1 k0 k1, T.td t = .struct [(t0, 0), (t1, 1)] ∧ T.size t = 2 ∧ T.td t0 = .int k0 ∧ T.td t1 = .int k1 := by
 unfold intPair at h
 simp only [Bool.and_eq_true, beq_iff_eq] at h
 obtain ⟨h1, h2⟩ := h
 split at h2
 ·rename_i t0 t1 e
  simp only [Bool.and_eq_true] at h2
  obtain ⟨k0, e0⟩ := isIntT_spec h2.1
  obtain ⟨k1, e1⟩ := isIntT_spec h2.2
  exact ⟨t0, t1, k0, k1, e, h1, e0, e1⟩
 ·cases h2
omit ok in
theorem intFields_spec {fs : List (TypeId × Nat)} {n : Nat} (h : intFields T fs n = true) : (∃ t0 t1 k0 k1, fs = [(t0, 0), (t1, 1)] ∧ n = 2 ∧ T.td t0 = .int k0 ∧ T.td t1 = .int k1) ∨
  ∃ t0 t1 t2 t3 t4 k0 k1 k2 k3, fs = [(t0, 0), (t1, 1), (t2, 2), (t3, 3), (t4, 4)] ∧ n = 6 ∧ T.td t0 = .int k0 ∧ T.td t1 = .int k1 ∧ T.td t2 = .int k2 ∧ T.td t3 = .int k3 ∧ intPair T t4 = true := by
 unfold intFields at h
 split at h
 ·rename_i t0 t1
  simp only [Bool.and_eq_true, beq_iff_eq] at h
  obtain ⟨h1, h2⟩ := h
  cases h3 : T.td t0 <;> simp only [h3] at h2 <;> (try cases h2)
  cases h4 : T.td t1 <;> simp only [h4] at h2 <;> (try cases h2)
  exact .inl ⟨t0, t1, _, _, rfl, h1, h3, h4⟩
 ·rename_i t0 t1 t2 t3 t4
  simp only [Bool.and_eq_true, beq_iff_eq] at h
  obtain ⟨h1, ⟨⟨⟨h2, h3⟩, h4⟩, h5⟩, h6⟩ := h
  obtain ⟨k0, e0⟩ := isIntT_spec h2
  obtain ⟨k1, e1⟩ := isIntT_spec h3
  obtain ⟨k2, e2⟩ := isIntT_spec h4
  obtain ⟨k3, e3⟩ := isIntT_spec h5
  exact .inr ⟨t0, t1, t2, t3, t4, k0, k1, k2, k3, rfl, h1, e0, e1, e2, e3, h6⟩
 ·cases h
theorem run_part {t : TypeId} (h : isOther T t = false) (hs : isStruct T t = false) {cs : Array Value} {o : Nat} {v : Value} (hv : cs[o]? = some v) : (part t cs o).run P w = .ok v w := by
 unfold part
 rw [Sem.run_bind, run_isAgg ok h]
 simp [hs, hv]
omit ok in
theorem isStruct_int {t : TypeId} {k : IntKind} (h : T.td t = .int k) : isStruct T t = false := by unfold isStruct; rw [h]
omit ok in
theorem eqAll_cons {x : Cell} {xs ys : List Cell} {r : Bool} (h : eqAll (x :: xs) ys = some r) : ∃ j a b zs s, x = .int j a ∧ ys = .int j b :: zs ∧ eqAll xs zs = some s ∧ r = (a == b && s) := by
 cases x <;> cases ys <;> (try (simp [eqAll] at h; done))
 rename_i k a y ys
 cases y <;> (try (simp [eqAll] at h; done))
 simp only [eqAll] at h
 split at h
 ·rename_i e; subst e
  split at h
  ·rename_i s hs
   simp only [Option.some.injEq] at h
   exact ⟨_, _, _, _, s, rfl, rfl, hs, h.symm⟩
  ·cases h
 ·cases h
omit ok in
theorem eqAll_nil {ys : List Cell} {r : Bool} (h : eqAll [] ys = some r) : ys = [] ∧ r = true := by
 cases ys with
 | nil => simp [eqAll] at h; exact ⟨rfl, h⟩
 | cons => simp [eqAll] at h
omit ok in
theorem eqAll_two {x0 x1 : Cell} {ys : List Cell} {r : Bool} (h : eqAll [x0, x1] ys = some r) :
  ∃ j0 j1 a0 a1 b0 b1, x0 = .int j0 a0 ∧ x1 = .int j1 a1 ∧ ys = [.int j0 b0, .int j1 b1] ∧ r = (a0 == b0 && a1 == b1) := by
 obtain ⟨j0, a0, b0, zs, s, rfl, rfl, h1, rfl⟩ := eqAll_cons h
 obtain ⟨j1, a1, b1, zs, s, rfl, rfl, h2, rfl⟩ := eqAll_cons h1
 obtain ⟨rfl, rfl⟩ := eqAll_nil h2
 exact ⟨_, _, _, _, _, _, rfl, rfl, rfl, by simp⟩
theorem intPart {f : Field} {t : TypeId} {k : IntKind} {o : Nat} (he : f.type = t ∧ f.offset = o) (ht : T.td t = .int k) {cs : Array Value} {v : Value} (hv : cs[o]? = some v) : (part f.type cs f.offset).run P w = .ok v w :=
 run_part ok (by rw [he.1]; exact isOther_of ht (by simp)) (by rw [he.1]; exact isStruct_int ht) (by rw [he.2]; exact hv)
theorem intEq {f : Field} {t : TypeId} {k : IntKind} {o : Nat} (he : f.type = t ∧ f.offset = o) (ht : T.td t = .int k) (m : Nat) (j : IntKind) (a b : Int) : (Op.equalIn (m + 1) f.type (.int j a) (.int j b)).run P w = .ok (a == b) w :=
 run_equalIn_int (P := P) w m f.type j k a b (by rw [he.1]; exact int_of ok ht)
theorem run_eq2 {t : TypeId} (h : intPair T t = true) (m : Nat) (j0 j1 : IntKind) (a0 a1 b0 b1 : Int) :
  (Op.equalIn (m + 2) t (.agg #[.int j0 a0, .int j1 a1]) (.agg #[.int j0 b0, .int j1 b1])).run P w = .ok (a0 == b0 && a1 == b1) w := by
 obtain ⟨t0, t1, k0, k1, htd, hsz, ht0, ht1⟩ := intPair_spec h
 have hf : intFields T [(t0, 0), (t1, 1)] (T.size t) = true := by simp [intFields, hsz, ht0, ht1]
 obtain ⟨fields', hu', hn, hsi, _⟩ := ok.eqs t _ htd hf
 obtain ⟨fields, hu, hfs, _⟩ := fields_of ok htd
 obtain rfl : fields' = fields := by rw [hu] at hu'; simpa using hu'.symm
 have hfo : P.fieldsOf t = fields' := by simp [Program.fieldsOf, hu]
 obtain ⟨l⟩ := fields'
 rcases l with _ | ⟨f0, _ | ⟨f1, _ | ⟨f2, l⟩⟩⟩ <;> simp at hfs
 obtain ⟨e0, e1⟩ := hfs
 have hn0 := hn f0 (by simp)
 have hn1 := hn f1 (by simp)
 rw [show m + 2 = (m + 1) + 1 from rfl, run_equalIn_struct w (m + 1) t _ _ (by rw [hfo]; exact hu) hsi, hfo]
 have p0 : ∀ (u v : Value), (part f0.type (#[u, v]) f0.offset).run P w = .ok u w := fun u v => intPart ok e0 ht0 rfl
 have p1 : ∀ (u v : Value), (part f1.type (#[u, v]) f1.offset).run P w = .ok v w := fun u v => intPart ok e1 ht1 rfl
 have q0 := intEq (w := w) ok e0 ht0 m j0 a0 b0
 have q1 := intEq (w := w) ok e1 ht1 m j1 a1 b1
 simp only [Op.eqFields, hn0, hn1, ne_eq, not_false_eq_true, ↓reduceIte, Sem.run_bind, p0, Result.andThen_ok, Sem.run_ite, Sem.run_pure, q0, p1, q1]
 cases (a0 == b0) <;> cases (a1 == b1) <;> rfl
theorem structPart {f : Field} {t : TypeId} {o n : Nat} {fs : List (TypeId × Nat)} (he : f.type = t ∧ f.offset = o) (ht : T.td t = .struct fs) (hsz : T.size t = n) (cs : Array Value) : (part f.type cs f.offset).run P w = .ok (.agg (cs.extract o (o + n))) w := by
 have hi : isOther T t = false := isOther_of ht (by simp)
 unfold part
 rw [he.1, he.2, Sem.run_bind, run_isAgg ok hi]
 have : isStruct T t = true := by unfold isStruct; rw [ht]
 simp [this, run_size ok hi, hsz]
theorem run_eqG {t : TypeId} {fs : List (TypeId × Nat)} {xs ys : List Cell} {r : Bool} (htd : T.td t = .struct fs) (hf : intFields T fs (T.size t) = true) (hl : xs.length = T.size t) (h : eqAll xs ys = some r) :
  (Op.equalIn 10000 t (.agg (xs.map (Cell.conc ι)).toArray) (.agg (ys.map (Cell.conc ι)).toArray)).run P w = .ok r w := by
 have hf' := hf
 rcases intFields_spec hf with ⟨t0, t1, k0, k1, rfl, h2, ht0, ht1⟩ | ⟨t0, t1, t2, t3, t4, k0, k1, k2, k3, rfl, h2, ht0, ht1, ht2, ht3, ht4⟩
 ·rw [h2] at hl
  match xs, hl with
  | [x0, x1], _ =>
   obtain ⟨j0, j1, a0, a1, b0, b1, rfl, rfl, rfl, rfl⟩ := eqAll_two h
   exact run_eq2 ok (by simp [intPair, isIntT, htd, h2, ht0, ht1]) 9998 j0 j1 a0 a1 b0 b1
 ·obtain ⟨fields', hu', hn, hsi, _⟩ := ok.eqs t _ htd hf'
  obtain ⟨fields, hu, hfs, _⟩ := fields_of ok htd
  obtain rfl : fields' = fields := by rw [hu] at hu'; simpa using hu'.symm
  have hfo : P.fieldsOf t = fields' := by simp [Program.fieldsOf, hu]
  obtain ⟨l⟩ := fields'
  rcases l with _ | ⟨f0, _ | ⟨f1, _ | ⟨f2, _ | ⟨f3, _ | ⟨f4, _ | ⟨f5, l⟩⟩⟩⟩⟩⟩ <;> simp at hfs
  obtain ⟨e0, e1, e2, e3, e4⟩ := hfs
  have hn0 := hn f0 (by simp)
  have hn1 := hn f1 (by simp)
  have hn2 := hn f2 (by simp)
  have hn3 := hn f3 (by simp)
  have hn4 := hn f4 (by simp)
  obtain ⟨u0, u1, l0, l1, v1, v2, v3, v4⟩ := intPair_spec ht4
  rw [h2] at hl
  match xs, hl with
  | [x0, x1, x2, x3, x4, x5], _ =>
   obtain ⟨j0, a0, b0, z0, s0, rfl, rfl, h10, rfl⟩ := eqAll_cons h
   obtain ⟨j1, a1, b1, z1, s1, rfl, rfl, h11, rfl⟩ := eqAll_cons h10
   obtain ⟨j2, a2, b2, z2, s2, rfl, rfl, h12, rfl⟩ := eqAll_cons h11
   obtain ⟨j3, a3, b3, z3, s3, rfl, rfl, h13, rfl⟩ := eqAll_cons h12
   obtain ⟨j4, j5, a4, a5, b4, b5, rfl, rfl, rfl, rfl⟩ := eqAll_two h13
   rw [show (10000 : Nat) = 9999 + 1 from rfl, run_equalIn_struct w 9999 t _ _ (by rw [hfo]; exact hu) hsi, hfo]
   have p0 : ∀ (v0 v1 v2 v3 v4 v5 : Value), (part f0.type (#[v0, v1, v2, v3, v4, v5]) f0.offset).run P w = .ok v0 w := fun _ _ _ _ _ _ => intPart ok e0 ht0 rfl
   have p1 : ∀ (v0 v1 v2 v3 v4 v5 : Value), (part f1.type (#[v0, v1, v2, v3, v4, v5]) f1.offset).run P w = .ok v1 w := fun _ _ _ _ _ _ => intPart ok e1 ht1 rfl
   have p2 : ∀ (v0 v1 v2 v3 v4 v5 : Value), (part f2.type (#[v0, v1, v2, v3, v4, v5]) f2.offset).run P w = .ok v2 w := fun _ _ _ _ _ _ => intPart ok e2 ht2 rfl
   have p3 : ∀ (v0 v1 v2 v3 v4 v5 : Value), (part f3.type (#[v0, v1, v2, v3, v4, v5]) f3.offset).run P w = .ok v3 w := fun _ _ _ _ _ _ => intPart ok e3 ht3 rfl
   have p4 : ∀ (v0 v1 v2 v3 v4 v5 : Value), (part f4.type (#[v0, v1, v2, v3, v4, v5]) f4.offset).run P w = .ok (.agg #[v4, v5]) w := fun _ _ _ _ _ _ => structPart ok e4 v1 v2 _
   have q0 : (Op.equalIn 9999 f0.type (.int j0 a0) (.int j0 b0)).run P w = .ok (a0 == b0) w := intEq (w := w) ok e0 ht0 9998 j0 a0 b0
   have q1 : (Op.equalIn 9999 f1.type (.int j1 a1) (.int j1 b1)).run P w = .ok (a1 == b1) w := intEq (w := w) ok e1 ht1 9998 j1 a1 b1
   have q2 : (Op.equalIn 9999 f2.type (.int j2 a2) (.int j2 b2)).run P w = .ok (a2 == b2) w := intEq (w := w) ok e2 ht2 9998 j2 a2 b2
   have q3 : (Op.equalIn 9999 f3.type (.int j3 a3) (.int j3 b3)).run P w = .ok (a3 == b3) w := intEq (w := w) ok e3 ht3 9998 j3 a3 b3
   have q4 : (Op.equalIn 9999 f4.type (.agg #[.int j4 a4, .int j5 a5]) (.agg #[.int j4 b4, .int j5 b5])).run P w = .ok (a4 == b4 && a5 == b5) w := by rw [e4.1]; exact run_eq2 ok ht4 9997 j4 j5 a4 a5 b4 b5
   simp only [Op.eqFields, hn0, hn1, hn2, hn3, hn4, ne_eq, not_false_eq_true, ↓reduceIte, Sem.run_bind, List.map_cons, List.map_nil, Cell.conc, p0, Result.andThen_ok, Sem.run_ite, Sem.run_pure, p1, p2, p3, p4, q0, q1, q2, q3, q4]
   cases (a0 == b0) <;> cases (a1 == b1) <;> cases (a2 == b2) <;> cases (a3 == b3) <;> cases (a4 == b4 && a5 == b5) <;> rfl
omit ok in
theorem run_eqGuard_ne {op : BinOp} {t : TypeId} {x y : Operand} (v u : Value) (h1 : v ≠ .nilIface) (h2 : ∀ xs, v ≠ .agg xs) : (eqGuard op t x y v u).run P w = .ok () w := by
 cases v <;> cases op <;> simp_all [eqGuard]
omit ok in
theorem run_eqGuard_conc {op : BinOp} {t : TypeId} {x y : Operand} (v : Cell) (u : Value) : (eqGuard op t x y (v.conc ι) u).run P w = .ok () w := by
 refine run_eqGuard_ne _ _ ?_ ?_ <;> cases v <;> simp [Cell.conc, ptrV] <;> (try split) <;> simp
omit ok in
theorem run_eqGuard_other {op : BinOp} {t : TypeId} {x y : Operand} (v u : Value) (h : op ≠ .eql) (h' : op ≠ .neq) : (eqGuard op t x y v u).run P w = .ok () w := by
 cases op <;> simp_all [eqGuard]
omit ok in
theorem intOp_ok {op : BinOp} {t : TypeId} {k : IntKind} {x y : Int} {r : Cell} (h : intOp op k x y = some r) (n : Nat) :
  r.below n ∧ (Go.binOp op t (.int k x) (.int k y)).run P w = .ok (r.conc ι) w := by
 cases op <;> simp only [intOp] at h <;> (try (cases h; done)) <;> (try (split at h; · cases h)) <;> cases h <;> refine ⟨trivial, ?_⟩ <;>
  simp [Go.binOp, Op.intArith, Op.intDiv, Op.intBits, Op.intCmp, Cell.conc, *]
omit ok in
theorem shiftOp_ok {op : BinOp} {t : TypeId} {k k' : IntKind} {x y : Int} {r : Cell} (h : shiftOp op k x y = some r) (n : Nat) :
  r.below n ∧ (Go.binOp op t (.int k x) (.int k' y)).run P w = .ok (r.conc ι) w := by
 unfold shiftOp at h
 split at h
 ·cases h
 ·cases op <;> simp only [] at h <;> (try (cases h; done)) <;> cases h <;> refine ⟨trivial, ?_⟩ <;> simp [Go.binOp, Op.shift, Cell.conc, *]
theorem bin_ok {op : BinOp} {t : TypeId} {x y : V} {v : V} (h : binA T st.h op t x y = some v) {X Y : Operand} {u u' : Value} (hx : x.rel ι st.h.length u) (hy : y.rel ι st.h.length u') (hw : WRs B h0 ι0 w0 ι β γ st w) :
    v.ok st.h.length ∧ ((do eqGuard op t X Y u u'; Go.binOp op t u u') : Sem Value).run P w = .ok (v.conc ι) w := by
  have bit : ∀ (b : Bool), (V.c (.bool b)).ok st.h.length := fun _ => trivial
  have cmp : ∀ (b : Bool) (r : Bool → Bool), (eqV T st.h t x y = some b) → v = .c (.bool (r b)) → ∀ (o : BinOp), o = .eql ∨ o = .neq →
      (o = .eql → r = id) → (o = .neq → r = not) → ((do eqGuard o t X Y u u'; Go.binOp o t u u') : Sem Value).run P w = .ok (v.conc ι) w := by
    intro b r hb hv o ho h1 h2
    subst hv
    unfold eqV at hb
    split at hb
    · rename_i x y
      split at hb
      · rename_i hf
        simp only [Bool.and_eq_true] at hf
        obtain ⟨rfl, _⟩ := V.rel_c hx
        obtain ⟨rfl, _⟩ := V.rel_c hy
        have := run_eqA ok (t := t) hb hf.1 hf.2 hw
        rw [Sem.run_bind, run_eqGuard_conc]
        simp only [Result.andThen_ok]
        cases ht : T.td t <;> rw [ht] at hf <;> cases x <;> (try (simp [tdFits] at hf; done)) <;> cases y <;> (try (simp [tdFits] at hf; done)) <;> simp only [Cell.eqA] at hb
        case int.int.int k k1 n k2 m =>
          split at hb
          · rename_i hk; subst hk; cases hb
            rcases ho with rfl | rfl
            · rw [h1 rfl]; simp [Go.binOp, Cell.conc, Op.intCmp, V.conc, V.conc1]
            · rw [h2 rfl]; simp [Go.binOp, Cell.conc, Op.intCmp, V.conc, V.conc1, bne]
          · cases hb
        case str.str.str p q =>
          cases hb
          rcases ho with rfl | rfl
          · rw [h1 rfl]; simp [Go.binOp, Cell.conc, Op.stringOp, V.conc, V.conc1]
          · rw [h2 rfl]; simp [Go.binOp, Cell.conc, Op.stringOp, V.conc, V.conc1]
        all_goals
          rcases ho with rfl | rfl
          · rw [h1 rfl]; simp only [Cell.conc, ptrV] at this ⊢; simp [Go.binOp, V.conc, V.conc1, Cell.conc, this]
          · rw [h2 rfl]; simp only [Cell.conc, ptrV] at this ⊢; simp [Go.binOp, V.conc, V.conc1, Cell.conc, this]
      · cases hb
    · rename_i xs ys
      split at hb
      · rename_i fs htd
        split at hb
        · rename_i hf
          simp only [Bool.and_eq_true, beq_iff_eq] at hf
          obtain ⟨rfl, _⟩ := V.rel_g hx
          obtain ⟨rfl, _⟩ := V.rel_g hy
          have := run_eqG ok (ι := ι) (w := w) htd hf.1 hf.2 hb
          obtain ⟨_, _, _, _, hg⟩ := ok.eqs t fs htd hf.1
          rw [Sem.run_bind, run_eqGuard_agg w o t X Y _ _ hg]
          rcases ho with rfl | rfl
          · rw [h1 rfl]; rw [Result.andThen_ok, run_eql_struct, this]; rfl
          · rw [h2 rfl]; rw [Result.andThen_ok, run_neq_struct, this]; rfl
        · cases hb
      · cases hb
    · cases hb
  cases op
  case eql =>
    simp only [binA, Option.map_eq_some_iff] at h
    obtain ⟨b, hb, rfl⟩ := h
    exact ⟨bit _, cmp b id hb rfl .eql (.inl rfl) (fun _ => rfl) (fun h => by cases h)⟩
  case neq =>
    simp only [binA, Option.map_eq_some_iff] at h
    obtain ⟨b, hb, rfl⟩ := h
    exact ⟨bit _, cmp b not hb rfl .neq (.inr rfl) (fun h => by cases h) (fun _ => rfl)⟩
  all_goals
    rw [Sem.run_bind, run_eqGuard_other _ _ (by simp) (by simp)]
    simp only [Result.andThen_ok, binA] at h ⊢
    split at h <;> (try (simp at h; done))
    first
      | (obtain ⟨c, hc, rfl⟩ := Option.map_eq_some_iff.1 h
         obtain ⟨rfl, _⟩ := V.rel_c hx
         obtain ⟨rfl, _⟩ := V.rel_c hy
         obtain ⟨h1, h2⟩ := shiftOp_ok (ι := ι) (P := P) (w := w) (t := t) (k' := _) hc st.h.length
         exact ⟨h1, h2⟩)
      | (split at h
         · rename_i hk; subst hk
           obtain ⟨c, hc, rfl⟩ := Option.map_eq_some_iff.1 h
           obtain ⟨rfl, _⟩ := V.rel_c hx
           obtain ⟨rfl, _⟩ := V.rel_c hy
           obtain ⟨h1, h2⟩ := intOp_ok (ι := ι) (P := P) (w := w) (t := t) hc st.h.length
           exact ⟨h1, h2⟩
         · cases h)
      | skip
  · rename_i p q
    split at h
    · rename_i hsz; cases h
      obtain ⟨rfl, _⟩ := V.rel_c hx
      obtain ⟨rfl, _⟩ := V.rel_c hy
      refine ⟨trivial, ?_⟩
      have : ¬ (((p.size + q.size : Nat) : Int) > IntKind.i64.max) := by
        show ¬ (((p.size + q.size : Nat) : Int) > 2 ^ 63 - 1); omega
      simp [Go.binOp, Op.stringOp, Cell.conc, V.conc, V.conc1]
      omega
    · cases h
end
end Go.AM
