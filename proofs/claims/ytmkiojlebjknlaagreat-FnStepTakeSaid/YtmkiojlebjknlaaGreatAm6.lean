/-
  Proves that a small evaluator over abstract cells and the machine of the model come to the same, and what the calculus of its answers says; under no condition.
-/
import Derived.Test.YtmkiojlebjknlaaGreatAm5
set_option linter.all false
/-
 THE ABSTRACT MACHINE, 17: what 'simp' knows of it.
-/
namespace Go.AM
def Br (b : Bool) [A : PB] [B : PB] : Prop := (b = true → A.p) ∧ (b = false → B.p)
@[simp ↓] theorem Br_true {A B : Prop} : @Br true ⟨A⟩ ⟨B⟩ ↔ A := by simp [Br]
@[simp ↓] theorem Br_false {A B : Prop} : @Br false ⟨A⟩ ⟨B⟩ ↔ B := by simp [Br]
@[simp] theorem Br_not {b : Bool} {A B : Prop} : @Br (!b) ⟨A⟩ ⟨B⟩ ↔ @Br b ⟨B⟩ ⟨A⟩ := by cases b <;> simp
@[simp low] theorem Br_def {b : Bool} {A B : Prop} : @Br b ⟨A⟩ ⟨B⟩ ↔ (b = true → A) ∧ (b = false → B) := Iff.rfl
@[simp] theorem Br_decide {p : Prop} [Decidable p] {A B : Prop} : @Br (decide p) ⟨A⟩ ⟨B⟩ ↔ (p → A) ∧ (¬ p → B) := by simp [Br]
@[simp ↓] theorem Wp_ite' {α : Type} {c : Prop} [Decidable c] {x y : Option α} {Q : α → Prop} : @Wp _ (if c then x else y) ⟨Q⟩ ↔ @Br (decide c) ⟨(@Wp _ x ⟨Q⟩)⟩ ⟨(@Wp _ y ⟨Q⟩)⟩ := by
 by_cases h : c <;> simp [h]
inductive Gd where
 | go
 | skip
 | ask (d : Tmp) (b want : Bool)
def setB : List (Nat × Slot) → Tmp → Bool → List (Nat × Slot)
 | [], _, _ => []
 | (t, s) :: e, d, b => if t == d then (t, .val (.c (.bool b))) :: e else (t, s) :: setB e d b
theorem setB_eq : ∀ {e : List (Nat × Slot)} {d : Tmp} {b : Bool}, lk e d = some (.val (.c (.bool b))) → setB e d b = e
 | [], d, b, h => by simp [lk] at h
 | (t, s) :: e, d, b, h => by
  simp only [lk, setB] at h ⊢
  by_cases hd : (t == d) = true
  ·rw [if_pos hd] at h ⊢; cases h; rfl
  ·rw [if_neg hd] at h ⊢; rw [setB_eq h]
def slotG (d : Tmp) (want : Bool) : Option Slot → Option Gd
 | some (.val (.c (.bool b))) => some (.ask d b want)
 | some (.val (.t [])) => some .skip
 | _ => none
def gdOf (ops : List Oper) (env : List (Nat × Slot)) : Option (Nat × Bool) → Option Gd
 | none => some .go
 | some (j, want) => match ops[j]? with
  | none => some .skip
  | some oj => match oj.dst with
   | none => some .skip
   | some d => slotG d want (lk env d)
def Gk (g : Gd) (st : St) [A : KB St] [B : KB St] : Prop :=
 match g with
 | .go => A.f st
 | .skip => B.f st
 | .ask d b want => @Br b ⟨(if want then A.f { st with env := setB st.env d true } else B.f { st with env := setB st.env d true })⟩ ⟨(if want then B.f { st with env := setB st.env d false } else A.f { st with env := setB st.env d false })⟩
@[simp ↓] theorem Gk_go {st : St} {A B : St → Prop} : @Gk .go st ⟨A⟩ ⟨B⟩ ↔ A st := Iff.rfl
@[simp ↓] theorem Gk_skip {st : St} {A B : St → Prop} : @Gk .skip st ⟨A⟩ ⟨B⟩ ↔ B st := Iff.rfl
@[simp ↓] theorem Gk_ask_t {st : St} {A B : St → Prop} {d : Tmp} {b : Bool} : @Gk (.ask d b true) st ⟨A⟩ ⟨B⟩ ↔ @Br b ⟨(A { st with env := setB st.env d true })⟩ ⟨(B { st with env := setB st.env d false })⟩ := by simp [Gk]
@[simp ↓] theorem Gk_ask_f {st : St} {A B : St → Prop} {d : Tmp} {b : Bool} : @Gk (.ask d b false) st ⟨A⟩ ⟨B⟩ ↔ @Br b ⟨(B { st with env := setB st.env d true })⟩ ⟨(A { st with env := setB st.env d false })⟩ := by simp [Gk]
@[simp] theorem Wp_ops_nil {T : TT} {call : CallF} {esc : List Tmp} {nt : Nat} {ops : List Oper} {st : St} {Q : St → Prop} : @Wp _ (evalOps T call esc nt ops [] st) ⟨Q⟩ ↔ Q st := by
 simp [evalOps]
@[simp] theorem Wp_ops_cons {T : TT} {call : CallF} {esc : List Tmp} {nt : Nat} {ops : List Oper} {o : Oper} {r : List Oper} {st : St} {Q : St → Prop} :
  @Wp _ (evalOps T call esc nt ops (o :: r) st) ⟨Q⟩ ↔ dstOk nt o = true ∧ @Wp _ (gdOf ops st.env o.guard) ⟨fun g => @Gk g st ⟨(fun st => @Wp _ (evalOp T call esc o st) ⟨fun st' => @Wp _ (evalOps T call esc nt ops r st') ⟨Q⟩⟩)⟩ ⟨(fun st => @Wp _ (evalOps T call esc nt ops r (st.put o.dst (.val undefV))) ⟨Q⟩)⟩⟩ := by
 simp only [evalOps]
 by_cases hd : dstOk nt o = true
 ·simp only [hd, ↓reduceIte, true_and]
  cases hw : o.guard with
  | none => simp [wantedA, hw, gdOf]
  | some x =>
   obtain ⟨j, want⟩ := x
   cases hj : ops[j]? with
   | none => simp [wantedA, hw, gdOf, hj]
   | some oj =>
    cases hdj : oj.dst with
    | none => simp [wantedA, hw, gdOf, hj, hdj]
    | some d =>
     simp only [wantedA, hw, gdOf, hj, hdj]
     generalize hl : lk st.env d = s
     cases s with
     | none => simp [slotG]
     | some s =>
      cases s with
      | val v =>
       cases v with
       | c x =>
        cases x with
        | bool b =>
         have he := setB_eq hl
         have hst : { st with env := setB st.env d b } = st := by rw [he]
         cases b <;> cases want <;> simp [slotG, hst]
        | _ => simp [slotG]
       | t xs => cases xs <;> simp [slotG]
       | _ => simp [slotG]
      | _ => simp [slotG]
 ·simp [hd]
def LexOk (ops : List Oper) : Prop := (ops.all (fun o => quietOp o.op) && Region.lexB .any ops.toArray) = true
instance (ops : List Oper) : Decidable (LexOk ops) := inferInstanceAs (Decidable (_ = true))
@[simp ↓] theorem Wp_drawN {T : TT} {call q : CallF} {esc : List Tmp} {nt : Nat} {ops : List Oper} {st : St} {Q : St → Prop} :
  @Wp _ (evalDraw T call q none esc nt ops st) ⟨Q⟩ ↔ LexOk ops ∧ @Wp _ (evalOps T q esc nt ops ops st) ⟨Q⟩ := by
 unfold evalDraw LexOk
 simp only
 split
 ·rename_i h; simp [h]
 ·rename_i h; simp [h]
class MS where
 l : List (Nat × St)
def RX (T : TT) (call q : CallF) (esc : List Tmp) (nt : Nat) (ops : List Oper) (xs : List Nat) (i : Nat) (l : List Oper) (st : St) [m : MS] [Q : KB (St × List (Nat × St))] : Prop := @Wp _ (runX T call q esc nt ops xs i l st m.l) Q
def LX (T : TT) (q : CallF) (esc : List Tmp) (ops : List Oper) (E : St) (prs : List (Nat × Nat)) [m : MS] : Prop := LooksX T q esc ops E m.l prs
def selX (b : Bool) (c q : CallF) : CallF := if b then c else q
@[simp] theorem selX_t {c q : CallF} : selX true c q = c := rfl
@[simp] theorem selX_f {c q : CallF} : selX false c q = q := rfl
def addX (b : Bool) (i : Nat) (st : St) (ms : List (Nat × St)) : List (Nat × St) := if b then (i, st) :: ms else ms
@[simp] theorem LX_nil {T : TT} {q : CallF} {esc : List Tmp} {ops : List Oper} {E : St} {m : List (Nat × St)} : @LX T q esc ops E [] ⟨m⟩ ↔ True := Iff.rfl
theorem LX_cons {T : TT} {q : CallF} {esc : List Tmp} {ops : List Oper} {E : St} {m : List (Nat × St)} {p : Nat × Nat} {r : List (Nat × Nat)} :
  @LX T q esc ops E (p :: r) ⟨m⟩ ↔ @Wp _ (lookX T q esc ops E m p) ⟨fun x => ∀ d, x.2 = some d → lk x.1.env d = lk E.env d⟩ ∧ @LX T q esc ops E r ⟨m⟩ := Iff.rfl
theorem Wp_drawS {T : TT} {call q : CallF} {esc : List Tmp} {nt : Nat} {ops : List Oper} {st : St} {xs : List Nat} {prs : List (Nat × Nat)} {Q : St → Prop} :
  @Wp _ (evalDraw T call q (some (xs, prs)) esc nt ops st) ⟨Q⟩ ↔ LexX esc ops xs prs = true ∧ @RX T call q esc nt ops xs 0 ops st ⟨[(0, st)]⟩ ⟨fun r => @LX T q esc ops r.1 prs ⟨r.2⟩ ∧ Q r.1⟩ := by
 unfold evalDraw RX LX
 simp only
 by_cases h : LexX esc ops xs prs = true
 ·rw [if_pos h]
  simp only [h, true_and, Wp_bind]
  constructor
  ·rintro ⟨r, h1, x, h2, h3⟩
   split at h2
   ·cases h2; exact ⟨r, h1, by assumption, h3⟩
   ·cases h2
  ·rintro ⟨r, h1, h2, h3⟩
   have h2 : LooksX T q esc ops r.1 r.2 prs := h2
   exact ⟨r, h1, r.1, by rw [if_pos h2], h3⟩
 ·rw [if_neg h]
  simp [h]
theorem RX_nil {T : TT} {call q : CallF} {esc : List Tmp} {nt : Nat} {ops : List Oper} {xs : List Nat} {i : Nat} {st : St} {m : List (Nat × St)} {Q : St × List (Nat × St) → Prop} : @RX T call q esc nt ops xs i [] st ⟨m⟩ ⟨Q⟩ ↔ Q (st, m) := by
 unfold RX runX; simp
theorem Wp_guard {β : Type} {ops : List Oper} {o : Oper} {st : St} {A B : St → Option β} {Q : β → Prop} :
  @Wp _ (match wantedA ops st o with | none => none | some false => B st | some true => A st) ⟨Q⟩ ↔ @Wp _ (gdOf ops st.env o.guard) ⟨fun g => @Gk g st ⟨(fun st => @Wp _ (A st) ⟨Q⟩)⟩ ⟨(fun st => @Wp _ (B st) ⟨Q⟩)⟩⟩ := by
 cases hw : o.guard with
 | none => simp [wantedA, hw, gdOf]
 | some x =>
  obtain ⟨j, want⟩ := x
  cases hj : ops[j]? with
  | none => simp [wantedA, hw, gdOf, hj]
  | some oj =>
   cases hdj : oj.dst with
   | none => simp [wantedA, hw, gdOf, hj, hdj]
   | some d =>
    simp only [wantedA, hw, gdOf, hj, hdj]
    generalize hl : lk st.env d = s
    cases s with
    | none => simp [slotG]
    | some s =>
     cases s with
     | val v =>
      cases v with
      | c x =>
       cases x with
       | bool b =>
        have he := setB_eq hl
        have hst : { st with env := setB st.env d b } = st := by rw [he]
        cases b <;> cases want <;> simp [slotG, hst]
       | _ => simp [slotG]
      | t xs => cases xs <;> simp [slotG]
      | _ => simp [slotG]
     | _ => simp [slotG]
theorem RX_cons {T : TT} {call q : CallF} {esc : List Tmp} {nt : Nat} {ops : List Oper} {xs : List Nat} {i : Nat} {o : Oper} {r : List Oper} {st : St} {m : List (Nat × St)} {Q : St × List (Nat × St) → Prop} :
  @RX T call q esc nt ops xs i (o :: r) st ⟨m⟩ ⟨Q⟩ ↔ dstOk nt o = true ∧ freshB esc o st = true ∧ @Wp _ (gdOf ops st.env o.guard) ⟨fun g => @Gk g st
   ⟨(fun st => @Wp _ (evalOp T (selX (xs.contains i) call q) esc o st) ⟨fun st' => @RX T call q esc nt ops xs (i + 1) r st' ⟨addX (xs.contains i) (i + 1) st' m⟩ ⟨Q⟩⟩)⟩
   ⟨(fun st => @RX T call q esc nt ops xs (i + 1) r (st.put o.dst (.val undefV)) ⟨addX (xs.contains i) (i + 1) (st.put o.dst (.val undefV)) m⟩ ⟨Q⟩)⟩⟩ := by
 by_cases hd : dstOk nt o = true
 ·by_cases hf : freshB esc o st = true
  ·have e : @RX T call q esc nt ops xs i (o :: r) st ⟨m⟩ ⟨Q⟩ = @Wp _ (match wantedA ops st o with
    | none => none
    | some false => runX T call q esc nt ops xs (i + 1) r (st.put o.dst (.val undefV)) (addX (xs.contains i) (i + 1) (st.put o.dst (.val undefV)) m)
    | some true => (evalOp T (selX (xs.contains i) call q) esc o st).bind fun st' => runX T call q esc nt ops xs (i + 1) r st' (addX (xs.contains i) (i + 1) st' m)) ⟨Q⟩ := by
    unfold RX
    simp only [runX, hd, hf, Bool.and_self, ↓reduceIte]
    rfl
   rw [e]
   simp only [hd, hf, true_and]
   rw [Wp_guard (A := fun st => (evalOp T (selX (xs.contains i) call q) esc o st).bind fun st' => runX T call q esc nt ops xs (i + 1) r st' (addX (xs.contains i) (i + 1) st' m))
    (B := fun st => runX T call q esc nt ops xs (i + 1) r (st.put o.dst (.val undefV)) (addX (xs.contains i) (i + 1) (st.put o.dst (.val undefV)) m))]
   have e2 : (fun st : St => @Wp _ ((evalOp T (selX (xs.contains i) call q) esc o st).bind fun st' => runX T call q esc nt ops xs (i + 1) r st' (addX (xs.contains i) (i + 1) st' m)) ⟨Q⟩) =
     (fun st => @Wp _ (evalOp T (selX (xs.contains i) call q) esc o st) ⟨fun st' => @RX T call q esc nt ops xs (i + 1) r st' ⟨addX (xs.contains i) (i + 1) st' m⟩ ⟨Q⟩⟩) := funext fun st => propext Wp_bind
   rw [e2]
   rfl
  ·simp [RX, runX, hd, hf]
 ·simp [RX, runX, hd]
attribute [simp ↓] Wp_drawS RX_nil RX_cons LX_cons
theorem Wp_look {T : TT} {q : CallF} {esc : List Tmp} {ops : List Oper} {E : St} {m : List (Nat × St)} {p : Nat × Nat} {Q : St × Option Tmp → Prop} :
  @Wp _ (lookX T q esc ops E m p) ⟨Q⟩ ↔ @Wp _ (ops[p.1]?) ⟨fun o => @Wp _ (lk m p.2) ⟨fun u => @Wp _ (gdOf ops E.env o.guard) ⟨fun g => @Gk g E
   ⟨(fun E => @Wp _ (evalOp T q esc o ⟨E.env, u.bx, u.its, u.h⟩) ⟨fun r => Q (r, o.dst)⟩)⟩ ⟨(fun E => Q (E, none))⟩⟩⟩⟩ := by
 unfold lookX
 rw [Wp_bind]
 have e : ∀ (o : Oper) (u : St), @Wp _ (match wantedA ops E o with
   | none => none
   | some false => some (E, none)
   | some true => (evalOp T q esc o { E with h := u.h, bx := u.bx, its := u.its }).map fun r => (r, o.dst)) ⟨Q⟩ ↔ @Wp _ (gdOf ops E.env o.guard) ⟨fun g => @Gk g E
   ⟨(fun E => @Wp _ (evalOp T q esc o ⟨E.env, u.bx, u.its, u.h⟩) ⟨fun r => Q (r, o.dst)⟩)⟩ ⟨(fun E => Q (E, none))⟩⟩ := by
  intro o u
  rw [Wp_guard (A := fun E => (evalOp T q esc o ⟨E.env, u.bx, u.its, u.h⟩).map fun r => (r, o.dst)) (B := fun E => some (E, none))]
  have e1 : (fun E : St => @Wp _ ((evalOp T q esc o ⟨E.env, u.bx, u.its, u.h⟩).map fun r => (r, o.dst)) ⟨Q⟩) = (fun E => @Wp _ (evalOp T q esc o ⟨E.env, u.bx, u.its, u.h⟩) ⟨fun r => Q (r, o.dst)⟩) := funext fun E => propext Wp_map
  have e2 : (fun E : St => @Wp _ (some (E, (none : Option Tmp))) ⟨Q⟩) = (fun E => Q (E, none)) := funext fun E => propext Wp_some
  rw [e1, e2]
 have e3 : (fun o : Oper => @Wp _ ((lk m p.2).bind fun u => match wantedA ops E o with
   | none => none
   | some false => some (E, none)
   | some true => (evalOp T q esc o { E with h := u.h, bx := u.bx, its := u.its }).map fun r => (r, o.dst)) ⟨Q⟩) = fun o => @Wp _ (lk m p.2) ⟨fun u => @Wp _ (gdOf ops E.env o.guard) ⟨fun g => @Gk g E
   ⟨(fun E => @Wp _ (evalOp T q esc o ⟨E.env, u.bx, u.its, u.h⟩) ⟨fun r => Q (r, o.dst)⟩)⟩ ⟨(fun E => Q (E, none))⟩⟩⟩ := by
  funext o
  rw [Wp_bind]
  have e4 : (fun u : St => @Wp _ (match wantedA ops E o with
   | none => none
   | some false => some (E, none)
   | some true => (evalOp T q esc o { E with h := u.h, bx := u.bx, its := u.its }).map fun r => (r, o.dst)) ⟨Q⟩) = _ := funext fun u => propext (e o u)
  rw [e4]
 exact iff_of_eq (congrArg (fun F => @Wp _ (ops[p.1]?) ⟨F⟩) e3)
attribute [simp ↓] Wp_look
section
variable {esc : List Tmp} {dst : Option Tmp} {ty : TypeId} {pos : String} {after : Array Edge} {guard : Option (Nat × Bool)} {st : St}
@[simp] theorem fresh_move {x : Operand} : freshB esc ⟨dst, .move x, ty, pos, after, guard⟩ st = true := id rfl
@[simp] theorem fresh_assign {x : Operand} : freshB esc ⟨dst, .assign x, ty, pos, after, guard⟩ st = true := id rfl
@[simp] theorem fresh_pick {c a b : Operand} : freshB esc ⟨dst, .pick c a b, ty, pos, after, guard⟩ st = true := id rfl
@[simp] theorem fresh_build {t : TypeId} {ps : Array (Nat × Operand)} : freshB esc ⟨dst, .build t ps, ty, pos, after, guard⟩ st = true := id rfl
@[simp] theorem fresh_buildSlice {t : TypeId} {n : Nat} {ps : Array (Nat × Operand)} : freshB esc ⟨dst, .buildSlice t n ps, ty, pos, after, guard⟩ st = true := id rfl
@[simp] theorem fresh_load {t : TypeId} {x : Operand} : freshB esc ⟨dst, .load t x, ty, pos, after, guard⟩ st = true := id rfl
@[simp] theorem fresh_store {t : TypeId} {x y : Operand} : freshB esc ⟨dst, .store t x y, ty, pos, after, guard⟩ st = true := id rfl
@[simp] theorem fresh_nilCheck {x : Operand} : freshB esc ⟨dst, .nilCheck x, ty, pos, after, guard⟩ st = true := id rfl
@[simp] theorem fresh_binOp {b : BinOp} {t u : TypeId} {x y : Operand} : freshB esc ⟨dst, .binOp b t x y u, ty, pos, after, guard⟩ st = true := id rfl
@[simp] theorem fresh_unOp {b : UnOp} {t : TypeId} {x : Operand} : freshB esc ⟨dst, .unOp b t x, ty, pos, after, guard⟩ st = true := id rfl
@[simp] theorem fresh_convert {s t : TypeId} {x : Operand} : freshB esc ⟨dst, .convert s t x, ty, pos, after, guard⟩ st = true := id rfl
@[simp] theorem fresh_makeFunc {f : Fn} {a b : Array Operand} : freshB esc ⟨dst, .makeFunc f a b, ty, pos, after, guard⟩ st = true := id rfl
@[simp] theorem fresh_makeSlice {t : TypeId} {x y : Operand} : freshB esc ⟨dst, .makeSlice t x y, ty, pos, after, guard⟩ st = true := id rfl
@[simp] theorem fresh_slice {t : TypeId} {x : Operand} {a b c : Option Operand} : freshB esc ⟨dst, .slice t x a b c, ty, pos, after, guard⟩ st = true := id rfl
@[simp] theorem fresh_fieldAddr {t : TypeId} {x : Operand} {i : Nat} : freshB esc ⟨dst, .fieldAddr t x i, ty, pos, after, guard⟩ st = true := id rfl
@[simp] theorem fresh_field {t : TypeId} {x : Operand} {i : Nat} : freshB esc ⟨dst, .field t x i, ty, pos, after, guard⟩ st = true := id rfl
@[simp] theorem fresh_indexAddr {t : TypeId} {x y : Operand} : freshB esc ⟨dst, .indexAddr t x y, ty, pos, after, guard⟩ st = true := id rfl
@[simp] theorem fresh_index {t : TypeId} {x y : Operand} : freshB esc ⟨dst, .index t x y, ty, pos, after, guard⟩ st = true := id rfl
@[simp] theorem fresh_extract {x : Operand} {i : Nat} : freshB esc ⟨dst, .extract x i, ty, pos, after, guard⟩ st = true := id rfl
@[simp] theorem fresh_call {c : Call} : freshB esc ⟨dst, .call c, ty, pos, after, guard⟩ st = true := id rfl
@[simp] theorem fresh_alloc {t : TypeId} {d : Tmp} : freshB esc ⟨some d, .alloc t, ty, pos, after, guard⟩ st = (esc.contains d || (lk st.bx d).isNone) := id rfl
end
@[simp] theorem addX_t {i : Nat} {st : St} {ms : List (Nat × St)} : addX true i st ms = (i, st) :: ms := id rfl
@[simp] theorem addX_f {i : Nat} {st : St} {ms : List (Nat × St)} : addX false i st ms = ms := id rfl
def seqK (F : St → Prop) (Q : Ex × St → Prop) : Ex × St → Prop
 | (.normal, st) => F st
 | r => Q r
@[simp ↓] theorem seqK_n {F : St → Prop} {Q : Ex × St → Prop} {st : St} : seqK F Q (.normal, st) = F st := rfl
@[simp ↓] theorem seqK_e {F : St → Prop} {Q : Ex × St → Prop} {st : St} {i : Nat} : seqK F Q (.exit i, st) = Q (.exit i, st) := rfl
@[simp ↓] theorem seqK_r {F : St → Prop} {Q : Ex × St → Prop} {st : St} : seqK F Q (.ret, st) = Q (.ret, st) := rfl
def blockK (id : Nat) (Q : Ex × St → Prop) : Ex × St → Prop
 | (.exit i, st) => if i = id then Q (.normal, st) else Q (.exit i, st)
 | r => Q r
@[simp ↓] theorem blockK_n {id : Nat} {Q : Ex × St → Prop} {st : St} : blockK id Q (.normal, st) = Q (.normal, st) := rfl
@[simp ↓] theorem blockK_r {id : Nat} {Q : Ex × St → Prop} {st : St} : blockK id Q (.ret, st) = Q (.ret, st) := rfl
@[simp ↓] theorem blockK_e {id : Nat} {Q : Ex × St → Prop} {st : St} : blockK id Q (.exit id, st) = Q (.normal, st) := by simp [blockK]
@[simp ↓] theorem blockK_o {id i : Nat} {Q : Ex × St → Prop} {st : St} (h : ¬ i = id) : blockK id Q (.exit i, st) = Q (.exit i, st) := by simp [blockK, h]
def asB : V → Option Bool
 | .c (.bool b) => some b
 | _ => none
section
variable {T : TT} {call qcall : CallF} {lp : LoopF} {ann : Ann} {nt cur : Nat} {st : St} {Q : Ex × St → Prop}
@[simp ↓] theorem Wp_skip : @Wp _ (evalC T call qcall lp ann nt .skip cur st) ⟨Q⟩ ↔ Q (.normal, st) := by simp [evalC]
@[simp ↓] theorem Wp_exit {id : Nat} : @Wp _ (evalC T call qcall lp ann nt (.exit id) cur st) ⟨Q⟩ ↔ Q (.exit id, st) := by simp [evalC]
@[simp ↓] theorem Wp_ret : @Wp _ (evalC T call qcall lp ann nt .ret cur st) ⟨Q⟩ ↔ Q (.ret, st) := by simp [evalC]
@[simp ↓] theorem Wp_region {id : Nat} {ops : Array Oper} : @Wp _ (evalC T call qcall lp ann nt (.region id ops false) cur st) ⟨Q⟩ ↔ @Wp _ (evalOps T call ann.esc nt ops.toList ops.toList st) ⟨fun st => Q (.normal, st)⟩ := by simp [evalC]
@[simp ↓] theorem Wp_regionD {id : Nat} {ops : Array Oper} : @Wp _ (evalC T call qcall lp ann nt (.region id ops true) cur st) ⟨Q⟩ ↔ @Wp _ (evalDraw T call qcall (lk ann.flo id) ann.esc nt ops.toList st) ⟨fun st => Q (.normal, st)⟩ := by simp [evalC]
@[simp ↓] theorem Wp_seq {a b : Code} : @Wp _ (evalC T call qcall lp ann nt (.seq a b) cur st) ⟨Q⟩ ↔ @Wp _ (evalC T call qcall lp ann nt a cur st) ⟨(seqK (fun st => @Wp _ (evalC T call qcall lp ann nt b cur st) ⟨Q⟩) Q)⟩ := by
 simp only [evalC, Wp_bind]
 constructor
 ·rintro ⟨⟨e, s⟩, h, q⟩; refine ⟨_, h, ?_⟩; cases e <;> simpa using q
 ·rintro ⟨⟨e, s⟩, h, q⟩; refine ⟨_, h, ?_⟩; cases e <;> simpa using q
@[simp ↓] theorem Wp_cond {x : Operand} {a b : Code} : @Wp _ (evalC T call qcall lp ann nt (.cond x a b) cur st) ⟨Q⟩ ↔ @Wp _ (asB (st.val x)) ⟨fun r => @Br r ⟨(@Wp _ (evalC T call qcall lp ann nt a cur st) ⟨Q⟩)⟩ ⟨(@Wp _ (evalC T call qcall lp ann nt b cur st) ⟨Q⟩)⟩⟩ := by
 simp only [evalC]
 generalize st.val x = v
 cases v with
 | c c => cases c with
  | bool b => cases b <;> simp [asB]
  | _ => simp [asB]
 | _ => simp [asB]
@[simp ↓] theorem Wp_block {id : Nat} {c : Code} : @Wp _ (evalC T call qcall lp ann nt (.block id c) cur st) ⟨Q⟩ ↔ @Wp _ (evalC T call qcall lp ann nt c id st) ⟨(blockK id Q)⟩ := by
 simp only [evalC, Wp_map]
 constructor
 ·rintro ⟨⟨e, s⟩, h, q⟩; refine ⟨_, h, ?_⟩
  cases e with
  | exit i => by_cases hi : i = id <;> simp_all
  | _ => simpa using q
 ·rintro ⟨⟨e, s⟩, h, q⟩; refine ⟨_, h, ?_⟩
  cases e with
  | exit i => by_cases hi : i = id <;> simp_all
  | _ => simpa using q
noncomputable def bodyA (T : TT) (call qcall : CallF) (lp : LoopF) (ann : Ann) (nt : Nat) (c : Code) (cur : Nat) (k : Keep) (ls : LS) : Option (Ex × LS) :=
 (evalC T call qcall lp ann nt c cur (restore k ls)).bind fun r => if keepOk r.2 k then some (r.1, r.2.save k) else none
def loopK (k : Keep) (Q : Ex × St → Prop) : Ex × LS → Prop
 | (.normal, _) => False
 | (e, ls) => Q (e, restore k ls)
@[simp ↓] theorem loopK_e {k : Keep} {ls : LS} {i : Nat} : loopK k Q (.exit i, ls) = Q (.exit i, restore k ls) := rfl
@[simp ↓] theorem loopK_r {k : Keep} {ls : LS} : loopK k Q (.ret, ls) = Q (.ret, restore k ls) := rfl
def saveK (k : Keep) (Q : Ex × LS → Prop) (r : Ex × St) : Prop := keepOk r.2 k = true ∧ Q (r.1, r.2.save k)
@[simp ↓] theorem saveK_n {k : Keep} {Q : Ex × LS → Prop} {e : Ex} : saveK k Q (e, st) = (keepOk st k = true ∧ Q (e, st.save k)) := rfl
@[simp ↓] theorem Wp_loop {c : Code} : @Wp _ (evalC T call qcall lp ann nt (.loop c) cur st) ⟨Q⟩ ↔ @Wp _ (lk ann.keep cur) ⟨fun k => keepOk st k = true ∧ @Wp _ (lp (bodyA T call qcall lp ann nt c cur k) (st.save k)) ⟨(loopK k Q)⟩⟩ := by
 simp only [evalC]
 cases hk : lk ann.keep cur with
 | none => simp
 | some k =>
  simp only [Wp_some]
  by_cases ho : keepOk st k = true
  ·simp only [ho, ↓reduceIte, Wp_bind, true_and]
   constructor
   ·rintro ⟨⟨e, s⟩, h, q⟩; refine ⟨_, h, ?_⟩; cases e <;> simpa [loopK] using q
   ·rintro ⟨⟨e, s⟩, h, q⟩; refine ⟨_, h, ?_⟩; cases e <;> simpa [loopK] using q
  ·simp [ho]
theorem Wp_body {c : Code} {k : Keep} {ls : LS} {Q : Ex × LS → Prop} : @Wp _ (bodyA T call qcall lp ann nt c cur k ls) ⟨Q⟩ ↔ @Wp _ (evalC T call qcall lp ann nt c cur (restore k ls)) ⟨(saveK k Q)⟩ := by
 simp only [bodyA, Wp_bind]
 constructor
 ·rintro ⟨⟨e, s⟩, h, q⟩; refine ⟨_, h, ?_⟩
  by_cases hk : keepOk s k = true <;> simp_all
 ·rintro ⟨⟨e, s⟩, h, q⟩; refine ⟨_, h, ?_⟩
  by_cases hk : keepOk s k = true <;> simp_all
def endK (T : TT) (rs : List ResultVar) (Q : V × H → Prop) : Ex × St → Prop
 | (.exit _, _) => False
 | (_, st) => @Wp _ (resultsA T st rs) ⟨fun vs => tupOk vs = true ∧ Q (oneV vs, st.h)⟩
@[simp ↓] theorem endK_n {rs : List ResultVar} {Q : V × H → Prop} : endK T rs Q (.normal, st) = @Wp _ (resultsA T st rs) ⟨fun vs => tupOk vs = true ∧ Q (oneV vs, st.h)⟩ := rfl
@[simp ↓] theorem endK_r {rs : List ResultVar} {Q : V × H → Prop} : endK T rs Q (.ret, st) = @Wp _ (resultsA T st rs) ⟨fun vs => tupOk vs = true ∧ Q (oneV vs, st.h)⟩ := rfl
@[simp ↓] theorem Wp_fn {fn : Func} {args : List V} {h : H} {Q : V × H → Prop} : @Wp _ (evalFn T call qcall lp ann fn args h) ⟨Q⟩ ↔
  @Wp _ fn.body ⟨fun c => args.length ≤ fn.ntmps ∧ @Wp _ (evalC T call qcall lp ann fn.ntmps c 0 ⟨argsEnv 0 args, [], [], h⟩) ⟨(endK T fn.results.toList Q)⟩⟩ := by
 unfold evalFn
 cases fn.body with
 | none => simp
 | some c =>
  simp only [Wp_some]
  by_cases hl : args.length ≤ fn.ntmps
  ·simp only [hl, ↓reduceIte, Wp_bind, true_and]
   constructor
   ·rintro ⟨⟨e, s⟩, h, q⟩; refine ⟨_, h, ?_⟩
    cases e with
    | exit i => simp at q
    | _ =>
     simp only at q
     cases hr : resultsA T s fn.results.toList with
     | none => simp [hr] at q
     | some vs => by_cases ht : tupOk vs = true <;> simp_all
   ·rintro ⟨⟨e, s⟩, h, q⟩; refine ⟨_, h, ?_⟩
    cases e with
    | exit i => simp [endK] at q
    | _ =>
     simp only
     cases hr : resultsA T s fn.results.toList with
     | none => simp [hr] at q
     | some vs => by_cases ht : tupOk vs = true <;> simp_all
  ·simp [hl]
end
/- ## Each operation -/
def isPtr : V → Bool | .c (.ptr ..) => true | _ => false
def ldC (T : TT) (t : TypeId) (k : Nat) (cs : List Cell) : Option V := if k + T.size t ≤ cs.length then asV T t ((cs.drop k).take (T.size t)) else none
def ldS (T : TT) (bx : List (Nat × List Cell)) (h : H) (t : TypeId) : Slot → Option V
 | .loc b k => (lk bx b).bind (ldC T t k)
 | .val (.c (.ptr id i k)) => (h.cellsAt id i k (T.size t)).bind (asV T t)
 | _ => none
def one1 : List Cell → Option Cell | [x] => some x | _ => none
def stS (st : St) (cs : List Cell) : Slot → Option St
 | .loc b k => (lk st.bx b).bind fun bs => if k + cs.length ≤ bs.length then some { st with bx := (b, splice bs k cs) :: st.bx } else none
 | .val (.c (.ptr id i k)) => (st.h.write id i k cs).bind fun h => some { st with h := h }
 | _ => none
def fieldA (td : TD) (s : Slot) (f : Nat) : Option Slot :=
 match td with
 | .struct fs => match fs[f]? with
  | none => none
  | some (_, off) => match s with
   | .loc b k => some (.loc b (k + off))
   | .val (.c (.ptr id i k)) => some (.val (.c (.ptr id i (k + off))))
   | _ => none
 | _ => none
def fldA (T : TT) (td : TD) (v : V) (f : Nat) : Option V :=
 match td, v with
 | .struct fs, .g cs => match fs[f]? with
  | none => none
  | some (t, off) => if off + T.size t ≤ cs.length then asV T t ((cs.drop off).take (T.size t)) else none
 | _, _ => none
def idxA (td : TD) (v ix : V) : Option V :=
 match td, v, ix with
 | .str, .c (.str s), .c (.int _ n) => if 0 ≤ n then (s[n.toNat]?).map fun b => .c (.int .u8 b.toNat) else none
 | _, _, _ => none
def extA (v : V) (ix : Nat) : Option V := match v with | .t vs => vs[ix]? | _ => none
def mkA (T : TT) (h : H) (td : TD) (l cp : V) : Option (V × H) :=
 match td, l, cp with
 | .slice e, .c (.int .i64 n), .c (.int .i64 m) =>
  if isOther T e = false ∧ 0 ≤ n ∧ n = m ∧ n ≤ lenMost then some (.c (.sl h.length 0 n.toNat none), h.push ⟨false, T.size e, List.replicate n.toNat (T.zero e)⟩) else none
 | _, _, _ => none
def buildA (T : TT) (td : TD) (z : List Cell) (ps : List (Nat × V)) : Option (List Cell) :=
 match td with | .struct fs => fillF T fs ps z | _ => none
def buildS (T : TT) (h : H) (td : TD) (len : Nat) (ps : List (Nat × V)) : Option (V × H) :=
 match td with
 | .slice e => if isOther T e || decide (lenMost < len * T.size e) || decide (16777216 < len * T.size e) then none
  else (fillE (T.size e) ps (List.replicate len (T.zero e))).map fun el => (.c (.sl h.length 0 len none), h.push ⟨false, T.size e, el⟩)
 | _ => none
def lenC (vs : List V) (ds : List TD) : Option Nat := match vs, ds with | [x], [d] => lenA d x | _, _ => none
def appC (T : TT) (h : H) (vs : List V) (ds : List TD) : Option (V × H) :=
 match vs, ds with
 | [s, x], [.slice e, .slice _] => if isOther T e then none else appendA (T.size e) h s x
 | _, _ => none
def mmC (b : Bool) (vs : List V) : Option V := match vs with | [x, y] => mm b x y | _ => none
def clrC (T : TT) (h : H) (vs : List V) (ds : List TD) : Option H := match vs, ds with | [x], [.slice e] => clearA T e h x | _, _ => none
def fnA : V → Option (FuncId × List (Nat × Nat × Nat)) | .c (.fn f l) => some (f, l) | _ => none
def iterS (its : List (Nat × ByteArray × Nat)) (t : Tmp) : Option Slot → Option (ByteArray × Nat)
 | some .iter => lk its t
 | _ => none
def strS : TD → V → Option ByteArray | .str, .c (.str s) => some s | _, _ => none
section
variable {T : TT} {call : CallF} {esc : List Tmp} {st : St} {dst : Option Tmp} {ty : TypeId} {pos : String} {after : Array Edge} {guard : Option (Nat × Bool)} {Q : St → Prop}
theorem Wp_op_move {x : Operand} : @Wp _ (evalOp T call esc ⟨dst, .move x, ty, pos, after, guard⟩ st) ⟨Q⟩ ↔ Q (st.put dst (.val (st.val x))) := by simp [evalOp]
theorem Wp_op_assign {x : Operand} : @Wp _ (evalOp T call esc ⟨dst, .assign x, ty, pos, after, guard⟩ st) ⟨Q⟩ ↔ Q (st.put dst (.val (st.val x))) := by simp [evalOp]
theorem Wp_op_pick {cn a b : Operand} :
  @Wp _ (evalOp T call esc ⟨dst, .pick cn a b, ty, pos, after, guard⟩ st) ⟨Q⟩ ↔ @Wp _ (asB (st.val cn)) ⟨fun r => @Br r ⟨(Q (st.put dst (.val (st.val a))))⟩ ⟨(Q (st.put dst (.val (st.val b))))⟩⟩ := by
 simp only [evalOp]
 generalize st.val cn = v
 cases v with
 | c c => cases c with
  | bool b => cases b <;> simp [asB]
  | _ => simp [asB]
 | _ => simp [asB]
theorem Wp_op_alloc {t : TypeId} {d : Tmp} : @Wp _ (evalOp T call esc ⟨some d, .alloc t, ty, pos, after, guard⟩ st) ⟨Q⟩ ↔ isOther T t = false ∧
  @Br (esc.contains d) ⟨(Q { st with env := (d, .val (.c (.ptr st.h.length 0 0))) :: st.env, h := st.h.push ⟨false, T.size t, [T.zero t]⟩ })⟩ ⟨(Q (st.newBox d (T.zero t)))⟩ := by
 simp only [evalOp]
 cases isOther T t
 ·by_cases h : esc.contains d = true
  ·rw [h]; simp
  ·rw [Bool.not_eq_true] at h; rw [h]; simp
 ·simp
theorem Wp_op_box {t : TypeId} {x : Operand} {d : Tmp} : @Wp _ (evalOp T call esc ⟨some d, .box t x, ty, pos, after, guard⟩ st) ⟨Q⟩ ↔ @Wp _ (st.val x).cells ⟨fun cs =>
  @Br (esc.contains d) ⟨(cs.isEmpty = false ∧ Q { st with env := (d, .val (.c (.ptr st.h.length 0 0))) :: st.env, h := st.h.push ⟨false, cs.length, [cs]⟩ })⟩ ⟨(Q (st.newBox d cs))⟩⟩ := by
 simp only [evalOp]
 cases (st.val x).cells with
 | none => simp
 | some cs =>
  simp only [Wp_some]
  generalize esc.contains d = c
  cases c <;> cases cs <;> simp
theorem Wp_op_build {t : TypeId} {ps : Array (Nat × Operand)} : @Wp _ (evalOp T call esc ⟨dst, .build t ps, ty, pos, after, guard⟩ st) ⟨Q⟩ ↔
  @Wp _ (buildA T (T.td t) (T.zero t) (ps.toList.map fun p => (p.1, st.val p.2))) ⟨fun cs => Q (st.put dst (.val (.g cs)))⟩ := by
 simp only [evalOp, buildA]
 cases T.td t <;> simp only [] <;> (try simp; done)
 rename_i fs
 cases fillF T fs _ (T.zero t) <;> simp
theorem Wp_op_buildSlice {t : TypeId} {len : Nat} {ps : Array (Nat × Operand)} : @Wp _ (evalOp T call esc ⟨dst, .buildSlice t len ps, ty, pos, after, guard⟩ st) ⟨Q⟩ ↔
  @Wp _ (buildS T st.h (T.td t) len (ps.toList.map fun p => (p.1, st.val p.2))) ⟨fun r => Q { st.put dst (.val r.1) with h := r.2 }⟩ := by
 simp only [evalOp, buildS]
 cases T.td t <;> simp only [] <;> (try simp; done)
 rename_i e
 by_cases hc : (isOther T e || decide (lenMost < len * T.size e) || decide (16777216 < len * T.size e)) = true
 ·simp [hc]
 ·simp only [hc, Bool.false_eq_true, ↓reduceIte]
  cases fillE (T.size e) _ _ <;> simp
theorem Wp_op_load {t : TypeId} {a : Operand} : @Wp _ (evalOp T call esc ⟨dst, .load t a, ty, pos, after, guard⟩ st) ⟨Q⟩ ↔ @Wp _ (ldS T st.bx st.h t (st.slot a)) ⟨fun v => Q (st.put dst (.val v))⟩ := by
 simp only [evalOp, Wp_map]
 have : loadA T st t a = ldS T st.bx st.h t (st.slot a) := by
  unfold loadA ldS
  cases st.slot a with
  | loc b k => simp only; cases lk st.bx b <;> simp [ldC]
  | val v =>
   cases v with
   | c c => cases c <;> simp only []; cases st.h.cellsAt _ _ _ _ <;> rfl
   | _ => rfl
  | iter => rfl
 rw [this]
theorem Wp_op_store {t : TypeId} {a x : Operand} : @Wp _ (evalOp T call esc ⟨dst, .store t a x, ty, pos, after, guard⟩ st) ⟨Q⟩ ↔ @Wp _ (st.val x).cells ⟨fun cs => cs.length = T.size t ∧ isOther T t = false ∧ @Wp _ (stS st cs (st.slot a)) ⟨fun st' => Q (st'.put dst (.val undefV))⟩⟩ := by
 simp only [evalOp, Wp_map, storeA]
 cases (st.val x).cells with
 | none => simp
 | some cs =>
  simp only [Wp_some]
  by_cases hc : cs.length = T.size t ∧ isOther T t = false
  ·simp only [hc.1, hc.2, true_and, and_self, ↓reduceIte]
   unfold stS
   cases st.slot a with
   | loc b k =>
    simp only; cases lk st.bx b with
    | none => simp
    | some bs => by_cases hk : k + T.size t ≤ bs.length <;> simp [hk, hc.1]
   | val v =>
    cases v with
    | c c => cases c <;> simp only [] <;> (try simp; done); cases st.h.write _ _ _ _ <;> simp
    | _ => simp
   | iter => simp
  ·simp only [hc, ↓reduceIte, Wp_none, false_iff]
   exact fun h => hc ⟨h.1, h.2.1⟩
theorem Wp_op_nilCheck {x : Operand} : @Wp _ (evalOp T call esc ⟨dst, .nilCheck x, ty, pos, after, guard⟩ st) ⟨Q⟩ ↔ isPtr (st.val x) = true ∧ Q (st.put dst (.val (st.val x))) := by
 simp only [evalOp]
 cases st.val x with
 | c c => cases c <;> simp [isPtr]
 | _ => simp [isPtr]
theorem Wp_op_binOp {op : BinOp} {t t' : TypeId} {x y : Operand} : @Wp _ (evalOp T call esc ⟨dst, .binOp op t x y t', ty, pos, after, guard⟩ st) ⟨Q⟩ ↔ @Wp _ (binA T st.h op t (st.val x) (st.val y)) ⟨fun v => Q (st.put dst (.val v))⟩ := by simp [evalOp]
theorem Wp_op_unOp {op : UnOp} {t : TypeId} {x : Operand} : @Wp _ (evalOp T call esc ⟨dst, .unOp op t x, ty, pos, after, guard⟩ st) ⟨Q⟩ ↔ @Wp _ (unA op (st.val x)) ⟨fun v => Q (st.put dst (.val v))⟩ := by simp [evalOp]
theorem Wp_op_convert {t t' : TypeId} {x : Operand} : @Wp _ (evalOp T call esc ⟨dst, .convert t t' x, ty, pos, after, guard⟩ st) ⟨Q⟩ ↔ @Wp _ (convA T st.h t t' (st.val x)) ⟨fun v => Q (st.put dst (.val v))⟩ := by simp [evalOp]
theorem Wp_op_makeFunc {f : FuncId} {first : Array Operand} {caps : Array Operand} : @Wp _ (evalOp T call esc ⟨dst, .makeFunc (.func f) first caps, ty, pos, after, guard⟩ st) ⟨Q⟩ ↔ first.isEmpty = true ∧ @Wp _ (ptrsOf (caps.toList.map st.val)) ⟨fun l => Q (st.put dst (.val (.c (.fn f l))))⟩ := by
 simp only [evalOp]
 by_cases h : first.isEmpty = true <;> simp [h]
theorem Wp_op_makeSlice {t : TypeId} {l cp : Operand} : @Wp _ (evalOp T call esc ⟨dst, .makeSlice t l cp, ty, pos, after, guard⟩ st) ⟨Q⟩ ↔ @Wp _ (mkA T st.h (T.td t) (st.val l) (st.val cp)) ⟨fun r => Q { st.put dst (.val r.1) with h := r.2 }⟩ := by
 simp only [evalOp]
 unfold mkA
 generalize T.td t = td
 generalize st.val l = v
 generalize st.val cp = w
 cases td <;> (try simp; done)
 cases v <;> (try simp; done)
 rename_i c
 cases c <;> (try simp; done)
 rename_i k n
 cases k <;> (try simp; done)
 cases w <;> (try simp; done)
 rename_i c
 cases c <;> (try simp; done)
 rename_i k m
 cases k <;> first | (simp; done) | (simp only []; split <;> simp)
theorem Wp_op_slice {t : TypeId} {x : Operand} {lo hi mx : Option Operand} : @Wp _ (evalOp T call esc ⟨dst, .slice t x lo hi mx, ty, pos, after, guard⟩ st) ⟨Q⟩ ↔ @Wp _ (sliceA T st.h t (st.val x) (lo.map st.val) (hi.map st.val) (mx.map st.val)) ⟨fun v => Q (st.put dst (.val v))⟩ := by simp [evalOp]
theorem Wp_op_fieldAddr {s : TypeId} {x : Operand} {f : Nat} : @Wp _ (evalOp T call esc ⟨dst, .fieldAddr s x f, ty, pos, after, guard⟩ st) ⟨Q⟩ ↔ @Wp _ (fieldA (T.td s) (st.slot x) f) ⟨fun s => Q (st.put dst s)⟩ := by
 simp only [evalOp, fieldA]
 cases T.td s <;> simp only [] <;> (try simp; done)
 rename_i fs
 cases fs[f]? with
 | none => simp
 | some p =>
  obtain ⟨t, off⟩ := p
  simp only
  cases st.slot x with
  | loc b k => simp
  | val v =>
   cases v with
   | c c => cases c <;> simp
   | _ => simp
  | iter => simp
theorem Wp_op_field {s : TypeId} {x : Operand} {f : Nat} : @Wp _ (evalOp T call esc ⟨dst, .field s x f, ty, pos, after, guard⟩ st) ⟨Q⟩ ↔ @Wp _ (fldA T (T.td s) (st.val x) f) ⟨fun v => Q (st.put dst (.val v))⟩ := by
 simp only [evalOp, fldA]
 generalize T.td s = td
 generalize st.val x = v
 cases td <;> (try simp; done)
 rename_i fs
 cases v <;> (try simp; done)
 cases hf : fs[f]? with
 | none => simp [hf]
 | some p =>
  obtain ⟨t, off⟩ := p
  simp only [hf]
  split <;> simp
theorem Wp_op_indexAddr {t : TypeId} {x ix : Operand} : @Wp _ (evalOp T call esc ⟨dst, .indexAddr t x ix, ty, pos, after, guard⟩ st) ⟨Q⟩ ↔ @Wp _ (ixA T st.h (T.td t) (st.val x) (st.val ix)) ⟨fun v => Q (st.put dst (.val v))⟩ := by
 rw [evalOp_indexAddr]; simp
theorem Wp_op_index {t : TypeId} {x ix : Operand} : @Wp _ (evalOp T call esc ⟨dst, .index t x ix, ty, pos, after, guard⟩ st) ⟨Q⟩ ↔ @Wp _ (idxA (T.td t) (st.val x) (st.val ix)) ⟨fun v => Q (st.put dst (.val v))⟩ := by
 simp only [evalOp, idxA]
 generalize T.td t = td
 generalize st.val x = v
 generalize st.val ix = w
 cases td <;> (try simp; done)
 cases v <;> (try simp; done)
 rename_i c
 cases c <;> (try simp; done)
 cases w <;> (try simp; done)
 rename_i c
 cases c <;> (try simp; done)
 rename_i s k n
 simp only []
 split
 ·cases s[n.toNat]? <;> simp
 ·simp
theorem Wp_op_extract {x : Operand} {ix : Nat} : @Wp _ (evalOp T call esc ⟨dst, .extract x ix, ty, pos, after, guard⟩ st) ⟨Q⟩ ↔ @Wp _ (extA (st.val x) ix) ⟨fun v => Q (st.put dst (.val v))⟩ := by
 simp only [evalOp, extA]
 cases st.val x <;> simp
theorem Wp_op_range {t : TypeId} {x : Operand} {d : Tmp} : @Wp _ (evalOp T call esc ⟨some d, .range t x, ty, pos, after, guard⟩ st) ⟨Q⟩ ↔ @Wp _ (strS (T.td t) (st.val x)) ⟨fun s => Q { st with env := (d, .iter) :: st.env, its := (d, s, 0) :: st.its }⟩ := by
 simp only [evalOp, strS]
 generalize T.td t = td
 generalize st.val x = v
 cases td <;> (try simp; done)
 cases v <;> (try simp; done)
 rename_i c
 cases c <;> simp
theorem Wp_op_next {t : Tmp} : @Wp _ (evalOp T call esc ⟨dst, .next (.tmp t) true, ty, pos, after, guard⟩ st) ⟨Q⟩ ↔ @Wp _ (iterS st.its t (lk st.env t)) ⟨fun p => (p.2 < p.1.size →
  Q ({ st with its := (t, p.1, p.2 + (Utf8.decode p.1 p.2).2) :: st.its }.put dst (.val (.t [.c (.bool true), .c (.int .i64 p.2), .c (.int .i32 (Utf8.decode p.1 p.2).1)])))) ∧ (¬ p.2 < p.1.size → Q (st.put dst (.val (.t [.c (.bool false)]))))⟩ := by
 simp only [evalOp]
 generalize lk st.env t = s
 cases s with
 | none => simp [iterS]
 | some s =>
  cases s with
  | iter =>
   simp only [iterS]
   cases lk st.its t with
   | none => simp
   | some p =>
    obtain ⟨s, pos⟩ := p
    simp only [Wp_some]
    by_cases hp : pos < s.size
    ·simp [hp, Nat.not_le.2 hp]
    ·simp [hp, Nat.not_lt.1 hp]
  | _ => simp [iterS]
theorem Wp_op_len {args : Array Operand} {ts : Array TypeId} : @Wp _ (evalOp T call esc ⟨dst, .call ⟨.builtin .len, args, ts⟩, ty, pos, after, guard⟩ st) ⟨Q⟩ ↔ @Wp Nat (lenC (args.toList.map st.val) (ts.toList.map T.td)) ⟨fun n => Q (st.put dst (.val (.c (.int .i64 n))))⟩ := by
 simp only [evalOp, lenC]
 split
 ·rename_i x d h1 h2; simp only [h1, h2, Wp_map]; cases lenA d x <;> simp
 ·rename_i h
  split
  ·rename_i h1 h2; exact (h _ _ h1 h2).elim
  ·simp
theorem Wp_op_append {args : Array Operand} {ts : Array TypeId} : @Wp _ (evalOp T call esc ⟨dst, .call ⟨.builtin .append, args, ts⟩, ty, pos, after, guard⟩ st) ⟨Q⟩ ↔ @Wp _ (appC T st.h (args.toList.map st.val) (ts.toList.map T.td)) ⟨fun r => Q { st.put dst (.val r.1) with h := r.2 }⟩ := by
 simp only [evalOp, appC]
 split
 ·rename_i h1 h2; rw [h1, h2]; simp only; split <;> simp
 ·rename_i h
  split
  ·rename_i h1 h2; exact (h _ _ _ _ h1 h2).elim
  ·simp
theorem Wp_op_max {args : Array Operand} {ts : Array TypeId} : @Wp _ (evalOp T call esc ⟨dst, .call ⟨.builtin .max, args, ts⟩, ty, pos, after, guard⟩ st) ⟨Q⟩ ↔ @Wp _ (mmC true (args.toList.map st.val)) ⟨fun v => Q (st.put dst (.val v))⟩ := by
 simp only [evalOp]
 generalize args.toList.map st.val = vs
 rcases vs with _ | ⟨x, _ | ⟨y, _ | ⟨z, r⟩⟩⟩ <;> simp [mmC]
theorem Wp_op_min {args : Array Operand} {ts : Array TypeId} : @Wp _ (evalOp T call esc ⟨dst, .call ⟨.builtin .min, args, ts⟩, ty, pos, after, guard⟩ st) ⟨Q⟩ ↔ @Wp _ (mmC false (args.toList.map st.val)) ⟨fun v => Q (st.put dst (.val v))⟩ := by
 simp only [evalOp]
 generalize args.toList.map st.val = vs
 rcases vs with _ | ⟨x, _ | ⟨y, _ | ⟨z, r⟩⟩⟩ <;> simp [mmC]
theorem Wp_op_clear {args : Array Operand} {ts : Array TypeId} : @Wp _ (evalOp T call esc ⟨dst, .call ⟨.builtin .clear, args, ts⟩, ty, pos, after, guard⟩ st) ⟨Q⟩ ↔ @Wp _ (clrC T st.h (args.toList.map st.val) (ts.toList.map T.td)) ⟨fun h => Q { st.put dst (.val undefV) with h := h }⟩ := by
 simp only [evalOp, clrC]
 split
 ·rename_i h1 h2; rw [h1, h2]; simp
 ·rename_i h
  split
  ·rename_i h1 h2; exact (h _ _ h1 h2).elim
  ·simp
theorem Wp_op_call {f : Operand} {args : Array Operand} {ts : Array TypeId} : @Wp _ (evalOp T call esc ⟨dst, .call ⟨.value f, args, ts⟩, ty, pos, after, guard⟩ st) ⟨Q⟩ ↔ @Wp _ (fnA (st.val f)) ⟨fun p => @Wp _ (call p.1 (args.toList.map st.val ++ V.caps p.2) st.h) ⟨fun r => Q { st.put dst (.val r.1) with h := r.2 }⟩⟩ := by
 simp only [evalOp]
 generalize st.val f = v
 cases v with
 | c c => cases c <;> simp [fnA]
 | _ => simp [fnA]
end
attribute [simp ↓] Wp_op_move Wp_op_assign Wp_op_pick Wp_op_alloc Wp_op_box Wp_op_build Wp_op_buildSlice Wp_op_load Wp_op_store Wp_op_nilCheck Wp_op_binOp Wp_op_unOp Wp_op_convert Wp_op_makeFunc Wp_op_makeSlice
 Wp_op_slice Wp_op_fieldAddr Wp_op_field Wp_op_indexAddr Wp_op_index Wp_op_extract Wp_op_range Wp_op_next Wp_op_len Wp_op_append Wp_op_max Wp_op_min Wp_op_clear Wp_op_call
theorem Wp_quiet {c : CallF} {f : FuncId} {args : List V} {h : H} {Q : V × H → Prop} (hc : @Wp _ (c f args h) ⟨fun r => r.2 = h ∧ r.1.known = true ∧ Q r⟩) : @Wp _ (quietCall c f args h) ⟨Q⟩ := by
 obtain ⟨⟨r, h'⟩, h1, h2, h3, h4⟩ := hc
 simp only at h2 h3 h4
 subst h2
 exact ⟨_, by simp [quietCall, h1, h3], h4⟩
@[simp ↓] theorem Wp_quietCall {c : CallF} {f : FuncId} {args : List V} {h : H} {Q : V × H → Prop} : @Wp _ (quietCall c f args h) ⟨Q⟩ ↔ @Wp _ (c f args h) ⟨fun r => r.2 = h ∧ r.1.known = true ∧ Q r⟩ := by
 constructor
 ·rintro ⟨⟨r, h'⟩, h1, h2⟩
  unfold quietCall at h1
  split at h1
  ·rename_i r0 h0 heq
   by_cases hc : h0 = h ∧ r0.known = true
   ·rw [if_pos hc] at h1; cases h1; exact ⟨_, heq, hc.1, hc.2, h2⟩
   ·rw [if_neg hc] at h1; cases h1
  ·cases h1
 ·exact Wp_quiet
/- ## Values, by their forms -/
section
variable {T : TT} {h : H} {k : IntKind} {a b : Int} {Q : V → Prop}
@[simp] theorem lk_hit {α : Type} {d : Nat} {x : α} {e : List (Nat × α)} : lk ((d, x) :: e) d = some x := by simp [lk]
@[simp] theorem lk_miss {α : Type} {t d : Nat} {x : α} {e : List (Nat × α)} (hn : ¬ t = d) : lk ((t, x) :: e) d = lk e d := by simp [lk, hn]
@[simp] theorem lk_nil {α : Type} {d : Nat} : lk ([] : List (Nat × α)) d = none := id rfl
def valS : Option Slot → V | some (.val v) => v | _ => .u
@[simp] theorem valS_v {v : V} : valS (some (.val v)) = v := rfl
@[simp] theorem valS_l {b k : Nat} : valS (some (.loc b k)) = .u := rfl
def slotS : Option Slot → Slot | some s => s | none => .val .u
@[simp] theorem slotS_s {s : Slot} : slotS (some s) = s := rfl
@[simp] theorem val_tmp {st : St} {t : Tmp} : st.val (.tmp t) = valS (lk st.env t) := by
 simp only [St.val]; cases lk st.env t with
 | none => rfl
 | some s => cases s <;> rfl
@[simp] theorem val_const {st : St} {v : Value} : st.val (.const v) = ofConst v := rfl
@[simp] theorem val_func {st : St} {f : FuncId} : st.val (.func f) = .c (.fn f []) := rfl
@[simp] theorem slot_tmp {st : St} {t : Tmp} : st.slot (.tmp t) = slotS (lk st.env t) := by
 simp only [St.slot]; cases lk st.env t <;> rfl
@[simp] theorem ofConst_int {n : Int} : ofConst (.int k n) = .c (.int k n) := rfl
@[simp] theorem ofConst_bool {b : Bool} : ofConst (.bool b) = .c (.bool b) := rfl
@[simp] theorem ofConst_str {s : ByteArray} : ofConst (.string s) = .c (.str s) := rfl
@[simp] theorem ofConst_nilp : ofConst (.pointer none) = .c .nilp := rfl
@[simp] theorem ofConst_nils : ofConst (.slice none 0 0) = .c .nils := rfl
@[simp] theorem ofConst_nilfn : ofConst .nilFunc = .c .nilfn := rfl
@[simp] theorem put_some {st : St} {d : Tmp} {s : Slot} : st.put (some d) s = { st with env := (d, s) :: st.env } := rfl
@[simp] theorem put_none {st : St} {s : Slot} : st.put none s = st := rfl
@[simp] theorem cells_c {x : Cell} : (V.c x).cells = some [x] := rfl
@[simp] theorem cells_g {x : List Cell} : (V.g x).cells = some x := rfl
@[simp] theorem asB_b {b : Bool} : asB (.c (.bool b)) = some b := rfl
@[simp] theorem isPtr_p {a b c : Nat} : isPtr (.c (.ptr a b c)) = true := rfl
@[simp] theorem dstOk_some {nt d : Nat} {op ty pos after guard} : dstOk nt ⟨some d, op, ty, pos, after, guard⟩ = decide (d < nt) := rfl
@[simp] theorem dstOk_none {nt : Nat} {op ty pos after guard} : dstOk nt ⟨none, op, ty, pos, after, guard⟩ = true := rfl
@[simp] theorem gdOf_none {ops : List Oper} {env : List (Nat × Slot)} : gdOf ops env none = some .go := rfl
def gdD (env : List (Nat × Slot)) (want : Bool) : Option Oper → Option Gd
 | none => some .skip
 | some oj => match oj.dst with
  | none => some .skip
  | some d => slotG d want (lk env d)
@[simp] theorem gdOf_some {ops : List Oper} {env : List (Nat × Slot)} {j : Nat} {w : Bool} : gdOf ops env (some (j, w)) = gdD env w ops[j]? := by
 cases hj : ops[j]? <;> simp only [gdOf, gdD, hj]
@[simp] theorem gdD_some {env : List (Nat × Slot)} {w : Bool} {d : Tmp} {op ty pos after guard} : gdD env w (some ⟨some d, op, ty, pos, after, guard⟩) = slotG d w (lk env d) := rfl
@[simp] theorem gdD_none {env : List (Nat × Slot)} {w : Bool} {op ty pos after guard} : gdD env w (some ⟨none, op, ty, pos, after, guard⟩) = some .skip := rfl
@[simp] theorem slotG_b {d : Tmp} {w b : Bool} : slotG d w (some (.val (.c (.bool b)))) = some (.ask d b w) := rfl
@[simp] theorem slotG_u {d : Tmp} {w : Bool} : slotG d w (some (.val (.t []))) = some .skip := rfl
@[simp] theorem setB_hit {d : Nat} {s : Slot} {e : List (Nat × Slot)} {b : Bool} : setB ((d, s) :: e) d b = (d, .val (.c (.bool b))) :: e := by simp [setB]
@[simp] theorem setB_miss {t d : Nat} {s : Slot} {e : List (Nat × Slot)} {b : Bool} (hn : ¬ t = d) : setB ((t, s) :: e) d b = (t, s) :: setB e d b := by simp [setB, hn]
@[simp] theorem ldS_loc {bx : List (Nat × List Cell)} {t : TypeId} {b k : Nat} : ldS T bx h t (.loc b k) = (lk bx b).bind (ldC T t k) := rfl
@[simp] theorem ldS_ptr {bx : List (Nat × List Cell)} {t : TypeId} {b i k : Nat} : ldS T bx h t (.val (.c (.ptr b i k))) = (h.cellsAt b i k (T.size t)).bind (asV T t) := rfl
@[simp ↓] theorem Wp_ldC {t : TypeId} {k : Nat} {cs : List Cell} : @Wp _ (ldC T t k cs) ⟨Q⟩ ↔ k + T.size t ≤ cs.length ∧ @Wp _ (asV T t ((cs.drop k).take (T.size t))) ⟨Q⟩ := by
 unfold ldC
 by_cases hc : k + T.size t ≤ cs.length
 ·simp only [hc, ↓reduceIte, true_and]
 ·simp only [hc, ↓reduceIte, false_and, Wp_none]
@[simp ↓] theorem Wp_asV {t : TypeId} {cs : List Cell} : @Wp _ (asV T t cs) ⟨Q⟩ ↔ isOther T t = false ∧ @Br (isStruct T t) ⟨(Q (.g cs))⟩ ⟨(@Wp _ (one1 cs) ⟨fun x => Q (.c x)⟩)⟩ := by
 unfold asV
 cases isOther T t <;> cases isStruct T t <;> simp
 rcases cs with _ | ⟨x, _ | ⟨y, r⟩⟩ <;> simp [one1]
@[simp] theorem one1_one {x : Cell} : one1 [x] = some x := rfl
@[simp ↓] theorem stS_loc {st : St} {cs : List Cell} {b k : Nat} {Q : St → Prop} : @Wp _ (stS st cs (.loc b k)) ⟨Q⟩ ↔ @Wp _ (lk st.bx b) ⟨fun bs => k + cs.length ≤ bs.length ∧ Q { st with bx := (b, splice bs k cs) :: st.bx }⟩ := by
 simp only [stS, Wp_bind]
 cases lk st.bx b with
 | none => simp
 | some bs => by_cases hc : k + cs.length ≤ bs.length <;> simp [hc]
@[simp ↓] theorem stS_ptr {st : St} {cs : List Cell} {b i k : Nat} {Q : St → Prop} : @Wp _ (stS st cs (.val (.c (.ptr b i k)))) ⟨Q⟩ ↔ @Wp _ (st.h.write b i k cs) ⟨fun h => Q { st with h := h }⟩ := by
 simp only [stS, Wp_bind]
 cases st.h.write b i k cs <;> simp
def fieldS (s : Slot) : Option (TypeId × Nat) → Option Slot
 | none => none
 | some (_, off) => match s with
  | .loc b k => some (.loc b (k + off))
  | .val (.c (.ptr id i k)) => some (.val (.c (.ptr id i (k + off))))
  | _ => none
@[simp] theorem fieldA_s {fs : List (TypeId × Nat)} {s : Slot} {f : Nat} : fieldA (.struct fs) s f = fieldS s fs[f]? := by
 cases hj : fs[f]? <;> simp only [fieldA, fieldS, hj]
@[simp] theorem fieldS_l {b k t off : Nat} : fieldS (.loc b k) (some (t, off)) = some (.loc b (k + off)) := rfl
@[simp] theorem fieldS_p {b i k t off : Nat} : fieldS (.val (.c (.ptr b i k))) (some (t, off)) = some (.val (.c (.ptr b i (k + off)))) := rfl
def fldS (T : TT) (cs : List Cell) : Option (TypeId × Nat) → Option V
 | none => none
 | some (t, off) => ldC T t off cs
@[simp] theorem fldA_g {fs : List (TypeId × Nat)} {cs : List Cell} {f : Nat} : fldA T (.struct fs) (.g cs) f = fldS T cs fs[f]? := by
 cases hj : fs[f]? <;> simp only [fldA, fldS, hj, ldC]
@[simp] theorem fldS_s {cs : List Cell} {t off : Nat} : fldS T cs (some (t, off)) = ldC T t off cs := rfl
@[simp] theorem extA_t {vs : List V} {i : Nat} : extA (.t vs) i = vs[i]? := rfl
@[simp] theorem fnA_f {f : FuncId} {l : List (Nat × Nat × Nat)} : fnA (.c (.fn f l)) = some (f, l) := rfl
@[simp] theorem caps_nil : V.caps [] = [] := rfl
@[simp] theorem caps_cons {a b k : Nat} {r : List (Nat × Nat × Nat)} : V.caps ((a, b, k) :: r) = .c (.ptr a b k) :: V.caps r := rfl
@[simp] theorem ptrsOf_nil : ptrsOf [] = some [] := rfl
@[simp] theorem ptrsOf_cons {a b k : Nat} {r : List V} : ptrsOf (.c (.ptr a b k) :: r) = (ptrsOf r).map fun l => (a, b, k) :: l := by
 simp only [ptrsOf]; cases ptrsOf r <;> rfl
@[simp] theorem lenC_1 {x : V} {d : TD} : lenC [x] [d] = lenA d x := rfl
@[simp] theorem lenA_str {s : ByteArray} : lenA .str (.c (.str s)) = some s.size := rfl
@[simp] theorem lenA_nils {e : TypeId} : lenA (.slice e) (.c .nils) = some 0 := rfl
@[simp] theorem lenA_sl {e : TypeId} {id i n : Nat} {c : Option Nat} : lenA (.slice e) (.c (.sl id i n c)) = some n := rfl
@[simp ↓] theorem appC_2 {s x : V} {e e' : TypeId} {Q : V × H → Prop} : @Wp _ (appC T h [s, x] [.slice e, .slice e']) ⟨Q⟩ ↔ isOther T e = false ∧ @Wp _ (appendA (T.size e) h s x) ⟨Q⟩ := by
 simp only [appC]; cases isOther T e <;> simp
@[simp] theorem mmC_2 {m : Bool} {x y : V} : mmC m [x, y] = mm m x y := rfl
@[simp] theorem mm_t : mm true (.c (.int k a)) (.c (.int k b)) = some (.c (.int k (if b > a then b else a))) := by simp [mm]
@[simp] theorem mm_f : mm false (.c (.int k a)) (.c (.int k b)) = some (.c (.int k (if b < a then b else a))) := by simp [mm]
@[simp] theorem clrC_1 {x : V} {e : TypeId} : clrC T h [x] [.slice e] = clearA T e h x := rfl
@[simp] theorem strS_s {s : ByteArray} : strS .str (.c (.str s)) = some s := rfl
@[simp] theorem iterS_i {its : List (Nat × ByteArray × Nat)} {t : Tmp} : iterS its t (some .iter) = lk its t := rfl
@[simp] theorem buildA_s {fs : List (TypeId × Nat)} {z : List Cell} {ps : List (Nat × V)} : buildA T (.struct fs) z ps = fillF T fs ps z := rfl
def fillO (T : TT) (v : V) (acc : List Cell) : Option (TypeId × Nat) → Option (List Cell)
 | some (t, off) => v.cells.bind fun cs => if cs.length = T.size t ∧ off + cs.length ≤ acc.length then some (splice acc off cs) else none
 | none => none
@[simp] theorem fillF_nil {fs : List (TypeId × Nat)} {acc : List Cell} : fillF T fs [] acc = some acc := rfl
@[simp] theorem fillF_cons {fs : List (TypeId × Nat)} {i : Nat} {v : V} {r : List (Nat × V)} {acc : List Cell} : fillF T fs ((i, v) :: r) acc = (fillO T v acc fs[i]?).bind (fillF T fs r) := by
 simp only [fillF, fillO]
 cases fs[i]? with
 | none => rfl
 | some p =>
  obtain ⟨t, off⟩ := p
  cases v.cells with
  | none => rfl
  | some cs => simp only [Option.bind_some]; split <;> rfl
@[simp ↓] theorem Wp_fillO {v : V} {acc : List Cell} {t off : Nat} {Q : List Cell → Prop} : @Wp _ (fillO T v acc (some (t, off))) ⟨Q⟩ ↔ @Wp _ v.cells ⟨fun cs => cs.length = T.size t ∧ off + cs.length ≤ acc.length ∧ Q (splice acc off cs)⟩ := by
 simp only [fillO]
 cases v.cells with
 | none => simp
 | some cs =>
  simp only [Wp_some, Option.bind_some]
  by_cases hc : cs.length = T.size t ∧ off + cs.length ≤ acc.length
  ·rw [if_pos hc]; simp only [Wp_some]; exact ⟨fun q => ⟨hc.1, hc.2, q⟩, fun q => q.2.2⟩
  ·simp only [hc, ↓reduceIte, Wp_none, false_iff]; exact fun h => hc ⟨h.1, h.2.1⟩
@[simp ↓] theorem Wp_buildS {e : TypeId} {len : Nat} {ps : List (Nat × V)} {Q : V × H → Prop} : @Wp _ (buildS T h (.slice e) len ps) ⟨Q⟩ ↔ isOther T e = false ∧ len * T.size e ≤ 16777216 ∧
  @Wp _ (fillE (T.size e) ps (List.replicate len (T.zero e))) ⟨fun el => Q (.c (.sl h.length 0 len none), h.push ⟨false, T.size e, el⟩)⟩ := by
 simp only [buildS]
 by_cases hc : (isOther T e || decide (lenMost < len * T.size e) || decide (16777216 < len * T.size e)) = true
 ·simp only [hc, ↓reduceIte, Wp_none, false_iff]
  simp only [Bool.or_eq_true, decide_eq_true_eq, lenMost] at hc
  rintro ⟨h1, h2, _⟩
  rcases hc with (hc | hc) | hc
  ·rw [h1] at hc; cases hc
  ·have hc := of_decide_eq_true hc; omega
  ·omega
 ·simp only [hc, Bool.false_eq_true, ↓reduceIte, Wp_map]
  simp only [Bool.or_eq_true, decide_eq_true_eq, not_or, Bool.not_eq_true, lenMost] at hc
  constructor
  ·intro hq; exact ⟨hc.1.1, by omega, hq⟩
  ·rintro ⟨_, _, hq⟩; exact hq
@[simp] theorem fillE_nil {es : Nat} {acc : List (List Cell)} : fillE es [] acc = some acc := rfl
@[simp ↓] theorem Wp_fillE {es : Nat} {i : Nat} {v : V} {r : List (Nat × V)} {acc : List (List Cell)} {Q : List (List Cell) → Prop} : @Wp _ (fillE es ((i, v) :: r) acc) ⟨Q⟩ ↔ @Wp _ v.cells ⟨fun cs => cs.length = es ∧ i < acc.length ∧ @Wp _ (fillE es r (acc.set i cs)) ⟨Q⟩⟩ := by
 simp only [fillE]
 cases v.cells with
 | none => simp
 | some cs =>
  simp only [Wp_some]
  by_cases hc : cs.length = es ∧ i < acc.length
  ·simp only [hc, and_self, ↓reduceIte, true_and]
  ·simp only [hc, ↓reduceIte, Wp_none, false_iff]; exact fun h => hc ⟨h.1, h.2.1⟩
@[simp ↓] theorem Wp_mkA {e : TypeId} {n m : Int} {Q : V × H → Prop} : @Wp _ (mkA T h (.slice e) (.c (.int .i64 n)) (.c (.int .i64 m))) ⟨Q⟩ ↔ isOther T e = false ∧ 0 ≤ n ∧ n = m ∧ n ≤ lenMost ∧ Q (.c (.sl h.length 0 n.toNat none), h.push ⟨false, T.size e, List.replicate n.toNat (T.zero e)⟩) := by
 simp only [mkA]
 by_cases hc : isOther T e = false ∧ 0 ≤ n ∧ n = m ∧ n ≤ lenMost
 ·rw [if_pos hc]; simp only [Wp_some]; exact ⟨fun q => ⟨hc.1, hc.2.1, hc.2.2.1, hc.2.2.2, q⟩, fun q => q.2.2.2.2⟩
 ·simp only [hc, ↓reduceIte, Wp_none, false_iff]; exact fun h => hc ⟨h.1, h.2.1, h.2.2.1, h.2.2.2.1⟩
@[simp] theorem binA_eql {t : TypeId} {x y : V} : binA T h .eql t x y = (eqV T h t x y).map fun b => .c (.bool b) := rfl
@[simp] theorem binA_neq {t : TypeId} {x y : V} : binA T h .neq t x y = (eqV T h t x y).map fun b => .c (.bool !b) := rfl
@[simp] theorem eqV_int {t : TypeId} : eqV T h t (.c (.int k a)) (.c (.int k b)) = if tdFits (T.td t) (.int k a) && tdFits (T.td t) (.int k b) then some (decide (a = b)) else none := by
 simp only [eqV, Cell.eqA, ↓reduceIte]; rfl
@[simp] theorem eqV_bool {t : TypeId} {x y : Bool} : eqV T h t (.c (.bool x)) (.c (.bool y)) = if tdFits (T.td t) (.bool x) && tdFits (T.td t) (.bool y) then some (x == y) else none := rfl
@[simp] theorem eqV_str {t : TypeId} {x y : ByteArray} : eqV T h t (.c (.str x)) (.c (.str y)) = if tdFits (T.td t) (.str x) && tdFits (T.td t) (.str y) then some (x.toList == y.toList) else none := rfl
@[simp] theorem eqV_nn {t : TypeId} : eqV T h t (.c .nilp) (.c .nilp) = if tdFits (T.td t) .nilp && tdFits (T.td t) .nilp then some true else none := rfl
@[simp] theorem eqV_np {t : TypeId} {x y z : Nat} : eqV T h t (.c .nilp) (.c (.ptr x y z)) = if tdFits (T.td t) .nilp && tdFits (T.td t) (.ptr x y z) then some false else none := rfl
@[simp] theorem eqV_pn {t : TypeId} {x y z : Nat} : eqV T h t (.c (.ptr x y z)) (.c .nilp) = if tdFits (T.td t) (.ptr x y z) && tdFits (T.td t) .nilp then some false else none := rfl
@[simp] theorem eqV_pp {t : TypeId} {x y z x' y' z' : Nat} : eqV T h t (.c (.ptr x y z)) (.c (.ptr x' y' z')) = if tdFits (T.td t) (.ptr x y z) && tdFits (T.td t) (.ptr x' y' z') then (if x = x' ∧ z = z' ∧ (h.get x).isSome = true then some (decide (y = y')) else none) else none := rfl
def eqS (T : TT) (n : Nat) (xs ys : List Cell) : TD → Option Bool
 | .struct fs => if intFields T fs n && xs.length == n then eqAll xs ys else none
 | _ => none
@[simp] theorem eqV_g {t : TypeId} {xs ys : List Cell} : eqV T h t (.g xs) (.g ys) = eqS T (T.size t) xs ys (T.td t) := by
 simp only [eqV, eqS]
 cases T.td t <;> rfl
@[simp] theorem eqS_2 {t0 t1 : TypeId} {k0 k1 : IntKind} {a b c d : Int} : eqS T 2 [.int k0 a, .int k1 b] [.int k0 c, .int k1 d] (.struct [(t0, 0), (t1, 1)]) = if (match T.td t0, T.td t1 with | .int _, .int _ => true | _, _ => false) = true then some (decide (a = c ∧ b = d)) else none := by
 simp only [eqS, intFields, eqAll, ↓reduceIte]
 generalize T.td t0 = x
 generalize T.td t1 = y
 cases x <;> cases y <;> (try simp; done)
 have e1 : (a == c) = decide (a = c) := rfl
 have e2 : (b == d) = decide (b = d) := rfl
 simp [e1, e2]
@[simp] theorem eqS_5 {t0 t1 t2 t3 t4 : TypeId} {k0 k1 k2 k3 k4 k5 : IntKind} {a0 a1 a2 a3 a4 a5 b0 b1 b2 b3 b4 b5 : Int} :
  eqS T 6 [.int k0 a0, .int k1 a1, .int k2 a2, .int k3 a3, .int k4 a4, .int k5 a5] [.int k0 b0, .int k1 b1, .int k2 b2, .int k3 b3, .int k4 b4, .int k5 b5] (.struct [(t0, 0), (t1, 1), (t2, 2), (t3, 3), (t4, 4)]) =
   if (isIntT T t0 && isIntT T t1 && isIntT T t2 && isIntT T t3 && intPair T t4) = true then some (decide (a0 = b0 ∧ a1 = b1 ∧ a2 = b2 ∧ a3 = b3 ∧ a4 = b4 ∧ a5 = b5)) else none := by
 have e : ∀ a b : Int, (a == b) = decide (a = b) := fun _ _ => rfl
 simp only [eqS, intFields, eqAll, ↓reduceIte, e]
 generalize (isIntT T t0 && isIntT T t1 && isIntT T t2 && isIntT T t3 && intPair T t4) = z
 cases z <;> simp
@[simp] theorem fits_int {k' : IntKind} {n : Int} : tdFits (.int k) (.int k' n) = true := rfl
@[simp] theorem fits_bool {b : Bool} : tdFits .bool (.bool b) = true := rfl
@[simp] theorem fits_str {b : ByteArray} : tdFits .str (.str b) = true := rfl
@[simp] theorem fits_ptr {a b c : Nat} : tdFits .ptr (.ptr a b c) = true := rfl
@[simp] theorem fits_nilp : tdFits .ptr .nilp = true := rfl
@[simp] theorem fits_nils {e : TypeId} : tdFits (.slice e) .nils = true := rfl
@[simp] theorem fits_sl {e : TypeId} {a b c : Nat} {d : Option Nat} : tdFits (.slice e) (.sl a b c d) = true := rfl
variable {t : TypeId}
@[simp] theorem binA_add : binA T h .add t (.c (.int k a)) (.c (.int k b)) = some (.c (.int k (k.wrap (a + b)))) := by simp [binA, intOp]
@[simp] theorem binA_sub : binA T h .sub t (.c (.int k a)) (.c (.int k b)) = some (.c (.int k (k.wrap (a - b)))) := by simp [binA, intOp]
@[simp] theorem binA_mul : binA T h .mul t (.c (.int k a)) (.c (.int k b)) = some (.c (.int k (k.wrap (a * b)))) := by simp [binA, intOp]
@[simp] theorem binA_quo : binA T h .quo t (.c (.int k a)) (.c (.int k b)) = if b = 0 then none else some (.c (.int k (k.wrap (a.tdiv b)))) := by
 simp only [binA, intOp, ↓reduceIte]; split <;> rfl
@[simp] theorem binA_rem : binA T h .rem t (.c (.int k a)) (.c (.int k b)) = if b = 0 then none else some (.c (.int k (a.tmod b))) := by
 simp only [binA, intOp, ↓reduceIte]; split <;> rfl
@[simp] theorem binA_and : binA T h .and t (.c (.int k a)) (.c (.int k b)) = some (.c (.int k (k.wrap ((BitVec.ofInt k.bits a &&& BitVec.ofInt k.bits b).toNat)))) := by simp [binA, intOp]
@[simp] theorem binA_or : binA T h .or t (.c (.int k a)) (.c (.int k b)) = some (.c (.int k (k.wrap ((BitVec.ofInt k.bits a ||| BitVec.ofInt k.bits b).toNat)))) := by simp [binA, intOp]
@[simp] theorem binA_xor : binA T h .xor t (.c (.int k a)) (.c (.int k b)) = some (.c (.int k (k.wrap ((BitVec.ofInt k.bits a ^^^ BitVec.ofInt k.bits b).toNat)))) := by simp [binA, intOp]
@[simp] theorem binA_lss : binA T h .lss t (.c (.int k a)) (.c (.int k b)) = some (.c (.bool (decide (a < b)))) := by simp [binA, intOp]
@[simp] theorem binA_leq : binA T h .leq t (.c (.int k a)) (.c (.int k b)) = some (.c (.bool (decide (a ≤ b)))) := by simp [binA, intOp]
@[simp] theorem binA_gtr : binA T h .gtr t (.c (.int k a)) (.c (.int k b)) = some (.c (.bool (decide (b < a)))) := by simp [binA, intOp]
@[simp] theorem binA_geq : binA T h .geq t (.c (.int k a)) (.c (.int k b)) = some (.c (.bool (decide (b ≤ a)))) := by simp [binA, intOp]
@[simp] theorem binA_shl {k' : IntKind} : binA T h .shl t (.c (.int k a)) (.c (.int k' b)) = if b < 0 then none else some (.c (.int k (k.wrap (a * 2 ^ (min b.toNat k.bits))))) := by
 simp only [binA, shiftOp]; split <;> rfl
@[simp] theorem binA_shr {k' : IntKind} : binA T h .shr t (.c (.int k a)) (.c (.int k' b)) = if b < 0 then none else some (.c (.int k (a.fdiv (2 ^ (min b.toNat k.bits))))) := by
 simp only [binA, shiftOp]; split <;> rfl
@[simp] theorem binA_adds {x y : ByteArray} : binA T h .add t (.c (.str x)) (.c (.str y)) = if x.size + y.size < 4611686018427387904 then some (.c (.str (x ++ y))) else none := rfl
@[simp] theorem unA_not {b : Bool} : unA .not (.c (.bool b)) = some (.c (.bool !b)) := rfl
@[simp] theorem unA_neg : unA .neg (.c (.int k a)) = some (.c (.int k (k.wrap (0 - a)))) := rfl
@[simp] theorem idxA_s {s : ByteArray} : idxA .str (.c (.str s)) (.c (.int k a)) = if 0 ≤ a then (s[a.toNat]?).map fun b => .c (.int .u8 b.toNat) else none := rfl
def convI (src dst : TD) (n : Int) : Option V := match src, dst with | .int _, .int k => some (.c (.int k (k.wrap n))) | .str, .str => none | _, _ => none
@[simp] theorem convA_int {t t' : TypeId} : convA T h t t' (.c (.int k a)) = convI (T.td t) (T.td t') a := by
 simp only [convA, convI]
 generalize T.td t = x
 generalize T.td t' = y
 cases x <;> cases y <;> rfl
@[simp] theorem convI_i {k k' : IntKind} {n : Int} : convI (.int k) (.int k') n = some (.c (.int k' (k'.wrap n))) := rfl
@[simp] theorem resultsA_nil {st : St} : resultsA T st [] = some [] := rfl
@[simp ↓] theorem Wp_res_tmp {st : St} {t : Tmp} {r : List ResultVar} {Q : List V → Prop} : @Wp _ (resultsA T st (.tmp t :: r)) ⟨Q⟩ ↔ @Wp _ (resultsA T st r) ⟨fun vs => Q (st.val (.tmp t) :: vs)⟩ := by
 simp only [resultsA]; cases resultsA T st r <;> simp
@[simp ↓] theorem Wp_res_cell {st : St} {t : Tmp} {ty : TypeId} {r : List ResultVar} {Q : List V → Prop} : @Wp _ (resultsA T st (.cell t ty :: r)) ⟨Q⟩ ↔ @Wp _ (ldS T st.bx st.h ty (st.slot (.tmp t))) ⟨fun v => @Wp _ (resultsA T st r) ⟨fun vs => Q (v :: vs)⟩⟩ := by
 simp only [resultsA]
 have : loadA T st ty (.tmp t) = ldS T st.bx st.h ty (st.slot (.tmp t)) := by
  unfold loadA ldS
  cases st.slot (.tmp t) with
  | loc b k => simp only; cases lk st.bx b <;> simp [ldC]
  | val v =>
   cases v with
   | c c => cases c <;> simp only []; cases st.h.cellsAt _ _ _ _ <;> rfl
   | _ => rfl
  | iter => rfl
 rw [this]
 cases ldS T st.bx st.h ty (st.slot (.tmp t)) with
 | none => simp
 | some v => cases resultsA T st r <;> simp
@[simp] theorem oneV_1 {v : V} : oneV [v] = v := rfl
@[simp] theorem oneV_2 {v w : V} {r : List V} : oneV (v :: w :: r) = .t (v :: w :: r) := rfl
@[simp] theorem tupOk_1 {v : V} : tupOk [v] = true := rfl
@[simp] theorem argsEnv_nil {i : Nat} : argsEnv i [] = [] := rfl
@[simp] theorem argsEnv_cons {i : Nat} {v : V} {r : List V} : argsEnv i (v :: r) = (i, .val v) :: argsEnv (i + 1) r := rfl
def boxIs (b : Nat) : Option Slot → Bool | some (.loc b' 0) => b' == b | _ => false
def itIs : Option Slot → Bool | some .iter => true | _ => false
@[simp] theorem boxIs_l {b : Nat} : boxIs b (some (.loc b 0)) = true := by simp [boxIs]
@[simp] theorem itIs_i : itIs (some .iter) = true := id rfl
@[simp] theorem keepOk_box {st : St} {l is : List Tmp} {b : Tmp} {bs : List Tmp} : keepOk st (l, b :: bs, is) = (boxIs b (lk st.env b) && (lk st.bx b).isSome && keepOk st (l, bs, is)) := by
 simp only [keepOk, List.all_cons, Bool.and_assoc, boxIs]
 rfl
@[simp] theorem keepOk_it {st : St} {l : List Tmp} {t : Tmp} {ts : List Tmp} : keepOk st (l, [], t :: ts) = (itIs (lk st.env t) && (lk st.its t).isSome && keepOk st (l, [], ts)) := by
 simp only [keepOk, List.all_cons, Bool.and_assoc, itIs, List.all_nil, Bool.true_and]
 rfl
@[simp] theorem keepOk_nil {st : St} {l : List Tmp} : keepOk st (l, [], []) = true := rfl
def boxO (st : St) (d : Tmp) (cs : List Cell) : Option (List Cell) → St
 | none => { st with env := (d, .loc d 0) :: st.env, bx := (d, cs) :: st.bx }
 | some _ => { st with env := (d, .loc d 0) :: dropLoc d st.env, bx := (d, cs) :: st.bx }
@[simp] theorem newBox_eq {st : St} {d : Tmp} {cs : List Cell} : st.newBox d cs = boxO st d cs (lk st.bx d) := by
 unfold St.newBox boxO; cases lk st.bx d <;> rfl
@[simp] theorem boxO_none {st : St} {d : Tmp} {cs : List Cell} : boxO st d cs none = { st with env := (d, .loc d 0) :: st.env, bx := (d, cs) :: st.bx } := rfl
@[simp] theorem boxO_some {st : St} {d : Tmp} {cs cs' : List Cell} : boxO st d cs (some cs') = { st with env := (d, .loc d 0) :: dropLoc d st.env, bx := (d, cs) :: st.bx } := rfl
end
attribute [simp] dropLoc restore St.save saveV saveB saveI restV restL restB restJ restI V.known V.plain V.plain1 splice lenMost
/- ## New blocks -/
@[simp] theorem get_push_self {h : H} {b : Blk} : (h.push b).get h.length = some b := by simp [H.get, H.push]
theorem get_push_lt {h : H} {b : Blk} {id : Nat} (hl : id < h.length) : (h.push b).get id = h.get id := by
 unfold H.get H.push; rw [List.getElem?_append_left hl]
theorem get_push_some {h : H} {b c : Blk} {id : Nat} (hg : h.get id = some c) : (h.push b).get id = some c := by rw [get_push_lt (H.get_lt hg), hg]
@[simp] theorem length_push {h : H} {b : Blk} : (h.push b).length = h.length + 1 := by simp [H.push]
def cellsB (b : Blk) (i k n : Nat) : Option (List Cell) := (b.el[i]?).bind fun e => if k + n ≤ e.length then some ((e.drop k).take n) else none
@[simp] theorem cellsAt_push_self {h : H} {b : Blk} {i k n : Nat} : (h.push b).cellsAt h.length i k n = cellsB b i k n := by
 simp only [H.cellsAt, get_push_self, cellsB]
 cases b.el[i]? <;> rfl
@[simp] theorem cellsB_mk {ro : Bool} {es : Nat} {el : List (List Cell)} {i k n : Nat} : cellsB ⟨ro, es, el⟩ i k n = (el[i]?).bind fun e => if k + n ≤ e.length then some ((e.drop k).take n) else none := rfl
@[simp ↓] theorem Wp_ix_sl {T : TT} {h : H} {e : TypeId} {id i len : Nat} {c : Option Nat} {k : IntKind} {n : Int} {Q : V → Prop} :
  @Wp _ (ixA T h (.slice e) (.c (.sl id i len c)) (.c (.int k n))) ⟨Q⟩ ↔ 0 ≤ n ∧ n < len ∧ @Wp _ (h.get id) ⟨fun b => b.es = T.size e ∧ isOther T e = false ∧ Q (.c (.ptr id (i + n.toNat) 0))⟩ := by
 simp only [ixA]
 by_cases hc : 0 ≤ n ∧ n < (len : Int)
 ·simp only [hc, and_self, ↓reduceIte, true_and]
  cases h.get id with
  | none => simp
  | some b =>
   simp only [Wp_some]
   by_cases hb : b.es = T.size e ∧ isOther T e = false
   ·rw [if_pos hb]; simp only [Wp_some]; exact ⟨fun q => ⟨hb.1, hb.2, q⟩, fun q => q.2.2⟩
   ·rw [if_neg hb]; simp only [Wp_none, false_iff]; exact fun q => hb ⟨q.1, q.2.1⟩
 ·rw [if_neg hc]; simp only [Wp_none, false_iff]; exact fun q => hc ⟨q.1, q.2.1⟩
theorem Sl.push {α : Type} {enc : α → List Cell} {xs : List α} {h : H} {s : Cell} {es : Nat} (hS : Sl h s es enc xs) (b : Blk) : Sl (h.push b) s es enc xs := by
 refine ⟨hS.1, ?_⟩
 have h2 := hS.2
 cases s with
 | sle id i l =>
  obtain ⟨h1, c, h3, h4⟩ := h2
  exact ⟨h1, c, get_push_some h3, h4⟩
 | sl id i len cap =>
  cases cap with
  | none =>
   obtain ⟨h1, h0, c, h3, h4⟩ := h2
   exact ⟨h1, h0, c, get_push_some h3, h4⟩
  | some c => exact h2
 | _ => exact h2
theorem Sl.new {α : Type} {enc : α → List Cell} {xs : List α} {h : H} {es : Nat} {ro : Bool} (he : ∀ x ∈ xs, (enc x).length = es) (hl : xs.length ≤ sMost) :
  Sl (h.push ⟨ro, es, xs.map enc⟩) (.sl h.length 0 xs.length none) es enc xs :=
 ⟨he, rfl, hl, _, get_push_self, rfl, by simp, by rw [List.drop_zero, List.take_of_length_le (by simp)]⟩
def cutTo (s : Cell) (n : Nat) : Cell := match s with | .sl id i _ c => .sl id i n c | s => s
theorem Sl.cutTo {α : Type} {enc : α → List Cell} {xs : List α} {h : H} {s : Cell} {es : Nat} (hS : Sl h s es enc xs) {n : Nat} (hn : n ≤ xs.length) : Sl h (cutTo s n) es enc (xs.take n) := by
 refine ⟨fun x hx => hS.1 x (List.mem_of_mem_take hx), ?_⟩
 have h2 := hS.2
 cases s with
 | nils => simp only [Go.AM.cutTo] at h2 ⊢; rw [h2]; simp
 | sle id i l => obtain ⟨rfl, h3⟩ := h2; exact ⟨by simp, h3⟩
 | sl id i len cap =>
  cases cap with
  | none =>
   obtain ⟨rfl, h0, b, h3, h4, h5, h6⟩ := h2
   refine ⟨by simp; omega, by omega, b, h3, h4, by omega, ?_⟩
   rw [List.map_take, ← h6, List.take_take, Nat.min_eq_left hn]
  | some c =>
   obtain ⟨rfl, rfl, rfl⟩ := h2
   simp only [List.length_nil, Nat.le_zero] at hn
   subst hn
   exact ⟨rfl, rfl, rfl⟩
 | _ => exact h2.elim
theorem sliceA_to {α : Type} {enc : α → List Cell} {xs : List α} {h : H} {s : Cell} {es : Nat} (hS : Sl h s es enc xs) {T : TT} {t : TypeId} {e : TypeId} {k : IntKind} {n : Nat} (ht : T.td t = .slice e) (ho : isOther T e = false) (hn : n ≤ xs.length) :
  sliceA T h t (.c s) none (some (.c (.int k n))) none = some (.c (cutTo s n)) := by
 have h2 := hS.2
 cases s with
 | nils =>
  simp only at h2; subst h2
  simp only [List.length_nil, Nat.le_zero] at hn; subst hn
  simp [sliceA, ht, ho, bound, lowOf, Go.AM.cutTo]
 | sle id i l =>
  obtain ⟨rfl, h3⟩ := h2
  simp only [List.length_nil, Nat.le_zero] at hn; subst hn
  simp [sliceA, ht, ho, bound, lowOf, Go.AM.cutTo]
 | sl id i len cap =>
  cases cap with
  | none =>
   obtain ⟨rfl, h0, b, h3, h4, h5, h6⟩ := h2
   have hn' : (n : Int) ≤ (xs.length : Int) := by omega
   simp [sliceA, ht, ho, bound, lowOf, Go.AM.cutTo, capOk, h3, h5, cutA, hn']
  | some c =>
   obtain ⟨rfl, rfl, rfl⟩ := h2
   simp only [List.length_nil, Nat.le_zero] at hn
   subst hn
   simp [sliceA, ht, ho, bound, lowOf, Go.AM.cutTo, capOk, cutA]
 | _ => exact h2.elim
theorem get_elem {h : H} {id : Nat} {b : Blk} (hg : h.get id = some b) : h[id]? = some (some b) := by
 unfold H.get at hg
 cases hh : h[id]? with
 | none => rw [hh] at hg; simp at hg
 | some x => rw [hh] at hg; simp only [Option.join_some] at hg; rw [hg]
theorem set_same {h : H} {id : Nat} {b : Blk} (hg : h.get id = some b) : List.set h id (some b) = h := by
 have hl := H.get_lt hg
 have he := get_elem hg
 apply List.ext_getElem?
 intro i
 rw [List.getElem?_set]
 by_cases hi : id = i
 ·subst hi; rw [if_pos rfl, if_pos hl, he]
 ·rw [if_neg hi]
theorem get_set_self {h : H} {id : Nat} {b : Blk} (hl : id < h.length) : H.get (List.set h id (some b)) id = some b := by
 unfold H.get; rw [List.getElem?_set, if_pos rfl, if_pos hl]; rfl
theorem get_set_ne {h : H} {id i : Nat} {b : Option Blk} (hn : i ≠ id) : H.get (List.set h id b) i = h.get i := by
 unfold H.get; rw [List.getElem?_set, if_neg (fun e => hn e.symm)]
theorem set_push {h : H} {b c : Blk} : List.set (h.push b) h.length (some c) = h.push c := by
 unfold H.push; simp
def Ext (h h' : H) : Prop := h.length ≤ h'.length ∧ h.keeps h'
theorem Ext.refl (h : H) : Ext h h := ⟨Nat.le_refl _, keeps_refl h⟩
theorem Ext.push (h : H) (b : Blk) : Ext h (h.push b) := ⟨by simp, keeps_push h b⟩
theorem Ext.trans {a b c : H} (x : Ext a b) (y : Ext b c) : Ext a c := ⟨Nat.le_trans x.1 y.1, keeps_trans x.2 y.2 x.1⟩
theorem Ext.get {h h' : H} (x : Ext h h') {id : Nat} {b : Blk} (hg : h.get id = some b) : h'.get id = some b := by rw [x.2 id (H.get_lt hg), hg]
theorem Sl.ext {α : Type} {enc : α → List Cell} {xs : List α} {h h' : H} {s : Cell} {es : Nat} (hS : Sl h s es enc xs) (x : Ext h h') : Sl h' s es enc xs := by
 refine ⟨hS.1, ?_⟩
 have h2 := hS.2
 cases s with
 | sle id i l =>
  obtain ⟨h1, c, h3, h4⟩ := h2
  exact ⟨h1, c, x.get h3, h4⟩
 | sl id i len cap =>
  cases cap with
  | none =>
   obtain ⟨h1, h0, c, h3, h4⟩ := h2
   exact ⟨h1, h0, c, x.get h3, h4⟩
  | some c => exact h2
 | _ => exact h2
open Classical in
noncomputable def tt (p : Prop) : Bool := decide p
@[simp] theorem tt_true {p : Prop} : tt p = true ↔ p := by simp [tt]
@[simp] theorem tt_false {p : Prop} : tt p = false ↔ ¬ p := by simp [tt]
@[simp] theorem true_tt {p : Prop} : true = tt p ↔ p := by rw [eq_comm, tt_true]
@[simp] theorem false_tt {p : Prop} : false = tt p ↔ ¬ p := by rw [eq_comm, tt_false]
theorem tt_eq {p : Prop} {b : Bool} : b = tt p ↔ (b = true ↔ p) := by cases b <;> simp
theorem tt_congr {p q : Prop} (h : p ↔ q) : tt p = tt q := by rw [propext h]
@[simp] theorem Br_tt {p : Prop} {A B : Prop} : @Br (tt p) ⟨A⟩ ⟨B⟩ ↔ (p → A) ∧ (¬ p → B) := by simp [Br]
theorem Wp_round {body : LS → Option (Ex × LS)} {ls : LS} {Q : Ex × LS → Prop} (h : @Wp _ (body ls) ⟨fun r => (r.1 = .normal → @Wp _ (loopD body r.2) ⟨Q⟩) ∧ (r.1 ≠ .normal → Q r)⟩) : @Wp _ (loopD body ls) ⟨Q⟩ := by
 obtain ⟨⟨e, l⟩, h1, h2, h3⟩ := h
 cases e with
 | normal =>
  obtain ⟨x, hx, hq⟩ := h2 rfl
  exact ⟨x, loopD_next h1 hx, hq⟩
 | exit i => exact ⟨_, loopD_exit h1, h3 (by simp)⟩
 | ret => exact ⟨_, loopD_ret h1, h3 (by simp)⟩
theorem count_wp {body : LS → Option (Ex × LS)} (n : Nat) (enc : Nat → LS) (P : Nat → Prop) {ls0 : LS} {Q : Ex × LS → Prop} (h0 : ls0 = enc 0) (hP : P 0)
  (step : ∀ i, i < n → P i → @Wp _ (body (enc i)) ⟨fun r => (r.1 = .normal → r.2 = enc (i + 1) ∧ P (i + 1)) ∧ (r.1 ≠ .normal → Q r)⟩)
  (last : P n → @Wp _ (body (enc n)) ⟨fun r => r.1 ≠ .normal ∧ Q r⟩) : @Wp _ (loopD body ls0) ⟨Q⟩ := by
 refine loop_wp enc (fun i => i ≤ n ∧ P i) (fun i => n - i) 0 h0 ⟨Nat.zero_le _, hP⟩ ?_
 rintro i ⟨hi, hp⟩
 by_cases hlt : i < n
 ·refine (step i hlt hp).mono fun r hr => ⟨fun hn => ⟨i + 1, (hr.1 hn).1, ⟨hlt, (hr.1 hn).2⟩, by omega⟩, hr.2⟩
 ·have : i = n := by omega
  subst this
  exact (last hp).mono fun r hr => ⟨fun hn => absurd hn hr.1, fun _ => hr.2⟩
theorem count_wpG {body : LS → Option (Ex × LS)} {σ : Type} (n : Nat) (enc : Nat → σ → LS) (P : Nat → σ → Prop) (g0 : σ) {ls0 : LS} {Q : Ex × LS → Prop} (h0 : ls0 = enc 0 g0) (hP : P 0 g0)
  (step : ∀ i g, i < n → P i g → @Wp _ (body (enc i g)) ⟨fun r => (r.1 = .normal → ∃ g', r.2 = enc (i + 1) g' ∧ P (i + 1) g') ∧ (r.1 ≠ .normal → Q r)⟩)
  (last : ∀ g, P n g → @Wp _ (body (enc n g)) ⟨fun r => r.1 ≠ .normal ∧ Q r⟩) : @Wp _ (loopD body ls0) ⟨Q⟩ := by
 refine loop_wp (σ := Nat × σ) (fun s => enc s.1 s.2) (fun s => s.1 ≤ n ∧ P s.1 s.2) (fun s => n - s.1) (0, g0) h0 ⟨Nat.zero_le _, hP⟩ ?_
 rintro ⟨i, g⟩ ⟨hi, hp⟩
 simp only at hi hp ⊢
 by_cases hlt : i < n
 ·refine (step i g hlt hp).mono fun r hr => ⟨fun hn => ?_, hr.2⟩
  obtain ⟨g', h1, h2⟩ := hr.1 hn
  exact ⟨(i + 1, g'), h1, ⟨hlt, h2⟩, by simp only; omega⟩
 ·have : i = n := by omega
  subst this
  exact (last g hp).mono fun r hr => ⟨fun hn => absurd hn hr.1, fun _ => hr.2⟩
def AllTo {α : Type} (xs : List α) (i : Nat) (p : α → Prop) : Prop := ∀ x ∈ xs.take i, p x
@[simp] theorem allTo_zero {α : Type} {xs : List α} {p : α → Prop} : AllTo xs 0 p := by simp [AllTo]
theorem allTo_succ {α : Type} {xs : List α} {p : α → Prop} {i : Nat} (hi : i < xs.length) : AllTo xs (i + 1) p ↔ AllTo xs i p ∧ p xs[i] := by
 unfold AllTo
 rw [List.take_succ_eq_append_getElem hi]
 constructor
 ·intro h; exact ⟨fun x hx => h x (List.mem_append_left _ hx), h _ (List.mem_append_right _ (List.mem_singleton.2 rfl))⟩
 ·rintro ⟨h1, h2⟩ x hx
  rcases List.mem_append.1 hx with hx | hx
  ·exact h1 x hx
  ·simp only [List.mem_singleton] at hx; subst hx; exact h2
theorem allTo_len {α : Type} {xs : List α} {p : α → Prop} : AllTo xs xs.length p ↔ ∀ x ∈ xs, p x := by simp [AllTo]
def AllIx {α : Type} (xs : List α) (i : Nat) (p : Nat → α → Prop) : Prop := ∀ j (hj : j < xs.length), j < i → p j xs[j]
@[simp] theorem allIx_zero {α : Type} {xs : List α} {p : Nat → α → Prop} : AllIx xs 0 p := by simp [AllIx]
theorem allIx_succ {α : Type} {xs : List α} {p : Nat → α → Prop} {i : Nat} (hi : i < xs.length) : AllIx xs (i + 1) p ↔ AllIx xs i p ∧ p i xs[i] := by
 unfold AllIx
 constructor
 ·intro h; exact ⟨fun j hj hji => h j hj (by omega), h i hi (by omega)⟩
 ·rintro ⟨h1, h2⟩ j hj hji
  rcases Nat.lt_succ_iff_lt_or_eq.1 hji with hlt | rfl
  ·exact h1 j hj hlt
  ·exact h2
theorem allIx_len {α : Type} {xs : List α} {p : Nat → α → Prop} : AllIx xs xs.length p ↔ ∀ j (hj : j < xs.length), p j xs[j] := ⟨fun h j hj => h j hj hj, fun h j hj _ => h j hj⟩
theorem wrap_succ {i : Nat} (h : i < sMost) : IntKind.i64.wrap ((i : Int) + 1) = ((i + 1 : Nat) : Int) := by
 unfold sMost at h; rw [wrap_i64 (by omega) (by omega)]; omega
theorem Sl.lt {α : Type} {enc : α → List Cell} {xs : List α} {h : H} {s : Cell} {es : Nat} (hS : Sl h s es enc xs) {i : Nat} (hi : i < xs.length) : i < sMost := Nat.lt_of_lt_of_le hi hS.len
theorem ixA_nat {α : Type} {enc : α → List Cell} {xs : List α} {h : H} {s : Cell} {es : Nat} (hS : Sl h s es enc xs) {T : TT} {e : TypeId} {k : IntKind} {n : Nat} (he : T.size e = es) (ho : isOther T e = false) (h1 : n < xs.length) :
  ixA T h (.slice e) (.c s) (.c (.int k n)) = some (.c (.ptr (sid s) (soff s + n) 0)) := by
 have := ixA_Sl hS (T := T) (e := e) (k := k) (n := n) he ho (by omega) (by omega)
 simpa using this
attribute [simp] Wp_quietCall Wp_some Wp_none Wp_bind Wp_map Br_true Br_false Wp_ite' Gk_go Gk_skip Gk_ask_t Gk_ask_f seqK_n seqK_e seqK_r blockK_n blockK_r blockK_e blockK_o Wp_skip Wp_exit Wp_ret Wp_region Wp_regionD Wp_seq Wp_cond Wp_block loopK_e loopK_r saveK_n Wp_loop endK_n endK_r Wp_fn Wp_ldC Wp_asV stS_loc stS_ptr appC_2 Wp_fillO Wp_buildS Wp_fillE Wp_mkA Wp_res_tmp Wp_res_cell Wp_ix_sl Wp_op_move Wp_op_assign Wp_op_pick Wp_op_alloc Wp_op_box Wp_op_build Wp_op_buildSlice Wp_op_load Wp_op_store Wp_op_nilCheck Wp_op_binOp Wp_op_unOp Wp_op_convert Wp_op_makeFunc Wp_op_makeSlice Wp_op_slice Wp_op_fieldAddr Wp_op_field Wp_op_indexAddr Wp_op_index Wp_op_extract Wp_op_range Wp_op_next Wp_op_len Wp_op_append Wp_op_max Wp_op_min Wp_op_clear Wp_op_call
end Go.AM

/-
 THE ABSTRACT MACHINE, 18: appending.
-/
namespace Go.AM
variable {α : Type} {enc : α → List Cell} {xs ys : List α} {k : H} {s t : Cell} {es : Nat}
theorem elems_of {id i : Nat} {b : Blk} (hg : k.get id = some b) {n : Nat} (h : i + n ≤ b.el.length) : k.elems id i n = some ((b.el.drop i).take n) := by
 simp [H.elems, hg, h]
theorem Sl.elemsOf (hT : Sl k t es enc ys) (hc : ∀ id i n c, t ≠ .sl id i n (some c)) : elemsOf k (.c t) = some (ys.map enc) := by
 have h2 := hT.2
 cases t with
 | nils => simp only at h2; subst h2; rfl
 | sle id i l => obtain ⟨rfl, _⟩ := h2; rfl
 | sl id i n c =>
  cases c with
  | none =>
   obtain ⟨rfl, _, b, h3, h4, h5, h6⟩ := h2
   simp only [Go.AM.elemsOf, elems_of h3 h5, h6]
  | some c => exact absurd rfl (hc id i n c)
 | _ => exact h2.elim
theorem Ext.set {h k : H} (x : Ext h k) {id : Nat} (hid : h.length ≤ id) (ob : Option Blk) : Ext h (List.set k id ob) :=
 ⟨by rw [List.length_set]; exact x.1, fun i hi => by rw [get_set_ne (by omega)]; exact x.2 i hi⟩
theorem Sl.same {k' : H} (hS : Sl k s es enc xs) (h : ∀ id ∈ s.ids, k'.get id = k.get id) : Sl k' s es enc xs := by
 refine ⟨hS.1, ?_⟩
 have h2 := hS.2
 cases s with
 | sle id i l =>
  obtain ⟨h1, c, h3, h4⟩ := h2
  exact ⟨h1, c, by rw [h id (by simp [Cell.ids]), h3], h4⟩
 | sl id i len cap =>
  cases cap with
  | none =>
   obtain ⟨h1, h0, c, h3, h4⟩ := h2
   exact ⟨h1, h0, c, by rw [h id (by simp [Cell.ids]), h3], h4⟩
  | some c => exact h2
 | _ => exact h2
theorem Sl.ids_lt (hS : Sl k s es enc xs) : ∀ id ∈ s.ids, id < k.length := by
 intro id hid
 have h2 := hS.2
 cases s with
 | sle i' i l =>
  obtain ⟨h1, c, h3, h4⟩ := h2
  simp [Cell.ids] at hid; subst hid; exact H.get_lt h3
 | sl i' i len cap =>
  cases cap with
  | none =>
   obtain ⟨h1, h0, c, h3, h4⟩ := h2
   simp [Cell.ids] at hid; subst hid; exact H.get_lt h3
  | some c => simp [Cell.ids] at hid
 | nils => simp [Cell.ids] at hid
 | _ => exact h2.elim
@[simp] theorem alloc_store {h : H} {z cs : List Cell} {es : Nat} (hl : z.length = cs.length) : (h.push ⟨false, es, [z]⟩).write h.length 0 0 cs = some (h.push ⟨false, es, [cs]⟩) := by
 simp only [H.write, get_push_self]
 simp [hl, splice, set_push]
 rw [List.drop_of_length_le (by omega), List.append_nil]
structure Appended (k : H) (s : Cell) (es : Nat) (enc : α → List Cell) (zs : List α) (s' : Cell) (k' : H) : Prop where
 sl : Sl k' s' es enc zs
 wr : Wr k' s'
 len : k.length ≤ k'.length
 keep : ∀ id, id < k.length → id ∉ s.ids → k'.get id = k.get id
 ids : ∀ id ∈ s'.ids, id ∈ s.ids ∨ k.length ≤ id
theorem appendS_ok (hS : Sl k s es enc xs) (hw : Wr k s) (hcs : ∀ id i n c, s ≠ .sl id i n (some c)) (hT : AM.elemsOf k (.c t) = some (ys.map enc)) (hye : ∀ y ∈ ys, (enc y).length = es) (hl : xs.length + ys.length ≤ lenMost) :
  ∃ s' k', appendA es k (.c s) (.c t) = some (.c s', k') ∧ Appended k s es enc (xs ++ ys) s' k' := by
 have hm : lenMost ≤ sMost := by decide
 have hl' : xs.length + ys.length ≤ 4294967296 := hl
 have hall : ((ys.map enc).all (fun e => e.length == es)) = true := by simp [List.all_eq_true]; exact hye
 have hlen : decide ((ys.map enc).length ≤ lenMost) = true := by simp; omega
 have hzs : ∀ x ∈ xs ++ ys, (enc x).length = es := fun x hx => by
  rcases List.mem_append.1 hx with h | h
  ·exact hS.1 x h
  ·exact hye x h
 have new : ∀ (k1 : H), k1.length = k.length → Sl (k1.push ⟨false, es, (xs ++ ys).map enc⟩) (.sl k.length 0 (xs ++ ys).length none) es enc (xs ++ ys) := fun k1 e => by
  rw [← e]; exact Sl.new hzs (by simp; omega)
 have wnew : ∀ (k1 : H) (n : Nat) (b : Blk), k1.length = k.length → b.ro = false → Wr (k1.push b) (.sl k.length 0 n none) := fun k1 n b e hb id hid => by
  simp only [Cell.ids, List.mem_singleton] at hid
  subst hid
  exact ⟨b, by rw [← e]; exact get_push_self, hb⟩
 unfold appendA
 rw [hT]
 simp only [hall, hlen, Bool.and_self, ↓reduceIte]
 have h2 := hS.2
 cases s with
 | nils =>
  simp only at h2; subst h2
  by_cases hy : ys = []
  ·subst hy
   refine ⟨.nils, k, by simp, ⟨by simp, rfl⟩, fun id hid => by simp [Cell.ids] at hid, Nat.le_refl _, fun _ _ _ => rfl, fun id hid => by simp [Cell.ids] at hid⟩
  ·refine ⟨.sl k.length 0 ys.length none, k.push ⟨false, es, ys.map enc⟩, by simp [hy], ?_⟩
   have n1 := new k rfl
   simp only [List.nil_append] at n1
   exact ⟨by simpa using n1, wnew k _ _ rfl rfl, by simp, fun id hid _ => get_push_lt hid, fun id hid => by simp only [Cell.ids, List.mem_singleton] at hid; right; omega⟩
 | sle id i l =>
  obtain ⟨rfl, b, h3, h4, h5⟩ := h2
  obtain ⟨b', h3', hro⟩ := hw id (by simp [Cell.ids])
  rw [h3] at h3'; cases h3'
  simp only [h3]
  by_cases hy : ys = []
  ·subst hy
   refine ⟨.sle id i l, k, by simp [hro, h4, h5], ⟨by simp, rfl, b, h3, h4, h5⟩, hw, Nat.le_refl _, fun _ _ _ => rfl, fun id hid => .inl hid⟩
  ·refine ⟨.sl k.length 0 ys.length none, H.push (k.set id none) ⟨false, es, ys.map enc⟩, by simp [hro, h4, h5, hy], ?_⟩
   have n1 := new (k.set id none) (by simp)
   simp only [List.nil_append] at n1
   refine ⟨by simpa using n1, wnew (k.set id none) _ _ (by simp) rfl, by simp [H.push], fun id' hid' hn => ?_, fun id hid => by simp only [Cell.ids, List.mem_singleton] at hid; right; omega⟩
   simp only [Cell.ids, List.mem_singleton] at hn
   rw [get_push_lt (by simpa using hid'), get_set_ne hn]
 | sl id i n c =>
  cases c with
  | some c =>
   exact absurd rfl (hcs id i n c)
  | none =>
   obtain ⟨rfl, h0, b, h3, h4, h5, h6⟩ := h2
   obtain ⟨b', h3', hro⟩ := hw id (by simp [Cell.ids])
   rw [h3] at h3'; cases h3'
   simp only [h3, hro, Bool.false_eq_true, ↓reduceIte]
   have hc1 : (decide (i + xs.length ≤ b.el.length) && b.es == es && decide (xs.length + (ys.map enc).length ≤ lenMost)) = true := by simp [h4, h5]; omega
   rw [if_pos hc1]
   by_cases hr : i + xs.length + (ys.map enc).length ≤ b.el.length
   ·rw [if_pos hr]
    refine ⟨_, _, rfl, ?_⟩
    have hidl := H.get_lt h3
    refine ⟨⟨hzs, ?_⟩, ?_, by simp, fun id' hid' hn => ?_, fun id' hid' => .inl (by simpa [Cell.ids] using hid')⟩
    ·refine ⟨by simp, by simp; omega, _, get_set_self hidl, h4, ?_, ?_⟩
     ·simp at hr ⊢; omega
     ·simp only [List.length_map] at hr ⊢
      have hA : (List.take (i + xs.length) b.el).drop i = xs.map enc := by
       rw [List.drop_take, show i + xs.length - i = xs.length by omega]; exact h6
      have hAl : i ≤ (List.take (i + xs.length) b.el).length := by simp; omega
      rw [List.append_assoc, List.drop_append_of_le_length hAl, hA, ← List.append_assoc, ← List.map_append]
      exact List.take_left' (by simp)
    ·intro id' hid'
     simp only [Cell.ids, List.mem_singleton] at hid'
     subst hid'
     exact ⟨_, get_set_self hidl, rfl⟩
    ·simp only [Cell.ids, List.mem_singleton] at hn
     exact get_set_ne hn
   ·rw [if_neg hr, h6]
    refine ⟨_, _, rfl, ?_⟩
    have n1 := new (k.set id none) (by simp)
    refine ⟨by simpa using n1, wnew (k.set id none) _ _ (by simp) rfl, by simp [H.push], fun id' hid' hn => ?_, fun id hid => by simp only [Cell.ids, List.mem_singleton] at hid; right; omega⟩
    simp only [Cell.ids, List.mem_singleton] at hn
    rw [get_push_lt (by simpa using hid'), get_set_ne hn]
 | _ => exact h2.elim
/- ## Slices that came in: an empty one may lie wherever -/
def SlA (h : H) (s : Cell) (es : Nat) {α : Type} (enc : α → List Cell) (xs : List α) : Prop := Sl h s es enc xs ∨ (xs = [] ∧ ∃ id, s = .esl id)
theorem SlA.lenA (hS : SlA k s es enc xs) {e : TypeId} : lenA (.slice e) (.c s) = some xs.length := by
 rcases hS with h | ⟨rfl, id, rfl⟩
 ·exact h.lenA
 ·rfl
theorem SlA.sl (hS : SlA k s es enc xs) {n : Nat} (hn : n < xs.length) : Sl k s es enc xs := by
 rcases hS with h | ⟨rfl, id, rfl⟩
 ·exact h
 ·simp at hn
theorem SlA.len (hS : SlA k s es enc xs) : xs.length ≤ sMost := by
 rcases hS with h | ⟨rfl, id, rfl⟩
 ·exact h.len
 ·simp
theorem SlA.lt (hS : SlA k s es enc xs) {i : Nat} (hi : i < xs.length) : i < sMost := Nat.lt_of_lt_of_le hi hS.len
theorem SlA.push (hS : SlA k s es enc xs) (b : Blk) : SlA (k.push b) s es enc xs := by
 rcases hS with h | h
 ·exact .inl (h.push b)
 ·exact .inr h
theorem SlA.ext {k' : H} (hS : SlA k s es enc xs) (x : Ext k k') : SlA k' s es enc xs := by
 rcases hS with h | h
 ·exact .inl (h.ext x)
 ·exact .inr h
theorem SlA.at [Inhabited α] (hS : SlA k s es enc xs) {n j m : Nat} (hn : n < xs.length) (hk : j + m ≤ es) : k.cellsAt (sid s) (soff s + n) j m = some (((enc (xs[n]?.getD default)).drop j).take m) := (hS.sl hn).at hn hk
theorem ixA_natA (hS : SlA k s es enc xs) {T : TT} {e : TypeId} {kk : IntKind} {n : Nat} (he : T.size e = es) (ho : isOther T e = false) (h1 : n < xs.length) : ixA T k (.slice e) (.c s) (.c (.int kk n)) = some (.c (.ptr (sid s) (soff s + n) 0)) := ixA_nat (hS.sl h1) he ho h1
end Go.AM

/-
 THE ABSTRACT MACHINE, 19: slices that are owned: a write, an append, a copy.
-/
namespace Go.AM
variable {α : Type} {enc : α → List Cell} {xs ys : List α} {k h : H} {s t : Cell} {es : Nat}
def Un (s : Cell) : Prop := (∀ id i n c, s ≠ .sl id i n (some c)) ∧ ∀ id i l, s ≠ .sle id i l
theorem Un.nils : Un .nils := ⟨(fun _ _ _ _ h => by cases h), (fun _ _ _ h => by cases h)⟩
theorem Un.new {id i n : Nat} : Un (.sl id i n none) := ⟨(fun _ _ _ _ h => by cases h), (fun _ _ _ h => by cases h)⟩
theorem appendA_un {x : V} {r : V × H} (hs : Un s) (h : appendA es k (.c s) x = some r) : ∃ s', r.1 = .c s' ∧ Un s' := by
 unfold appendA at h
 split at h
 ·cases h
 ·split at h
  ·cases s with
   | nils =>
    simp only at h
    split at h <;> cases h
    ·exact ⟨_, rfl, Un.nils⟩
    ·exact ⟨_, rfl, Un.new⟩
   | sl id i len cap =>
    simp only at h
    split at h
    ·cases h
    ·split at h
     ·cases cap with
      | some c => exact absurd rfl (hs.1 _ _ _ _)
      | none =>
       simp only at h
       split at h
       ·cases h
       ·split at h <;> cases h <;> exact ⟨_, rfl, Un.new⟩
     ·cases h
   | sle id i l => exact absurd rfl (hs.2 _ _ _)
   | _ => simp only at h; cases h
  ·cases h
structure Chg (h : H) (own : Nat → Prop) (h' : H) : Prop where
 len : h.length ≤ h'.length
 keep : ∀ id, id < h.length → ¬ own id → h'.get id = h.get id
theorem Chg.refl (h : H) (own : Nat → Prop) : Chg h own h := ⟨Nat.le_refl _, fun _ _ _ => rfl⟩
theorem Chg.of_ext {h h' : H} (x : Ext h h') (own : Nat → Prop) : Chg h own h' := ⟨x.1, fun id hid _ => x.2 id hid⟩
theorem Chg.trans {h1 h2 h3 : H} {o1 o2 : Nat → Prop} (a : Chg h1 o1 h2) (b : Chg h2 o2 h3) (ho : ∀ id, id < h1.length → o2 id → o1 id) : Chg h1 o1 h3 :=
 ⟨Nat.le_trans a.len b.len, fun id hid hn => by rw [b.keep id (Nat.lt_of_lt_of_le hid a.len) (fun h => hn (ho id hid h)), a.keep id hid hn]⟩
theorem Chg.mono {h1 h2 : H} {o1 o2 : Nat → Prop} (a : Chg h1 o1 h2) (ho : ∀ id, id < h1.length → o1 id → o2 id) : Chg h1 o2 h2 := ⟨a.len, fun id hid hn => a.keep id hid fun h => hn (ho id hid h)⟩
theorem Chg.ext {h1 h2 : H} {o : Nat → Prop} (a : Chg h1 o h2) (ho : ∀ id, id < h1.length → ¬ o id) : Ext h1 h2 := ⟨a.len, fun id hid => a.keep id hid (ho id hid)⟩
theorem Sl.ids_ne (hS : Sl k s es enc xs) {i : Nat} (hi : i < xs.length) : s.ids = [sid s] := by
 obtain ⟨id, j, b, rfl, _⟩ := hS.cons hi
 rfl
theorem Sl.write (hS : Sl h s es enc xs) (hw : Wr h s) {i : Nat} (hi : i < xs.length) {j : Nat} {cs : List Cell} {x : α} (hx : enc x = splice (enc xs[i]) j cs) (hj : j + cs.length ≤ es) :
  ∃ h', h.write (sid s) (soff s + i) j cs = some h' ∧ Sl h' s es enc (xs.set i x) ∧ Wr h' s ∧ h'.length = h.length ∧ Chg h (fun id => id ∈ s.ids) h' := by
 obtain ⟨id, o, b, rfl, hg, he, hb, ht⟩ := hS.cons hi
 obtain ⟨b', hg', hro⟩ := hw id (by simp [Cell.ids])
 rw [hg] at hg'; cases hg'
 have hel : b.el[o + i]? = some (enc xs[i]) := by
  have := congrArg (·[i]?) ht
  simp only [List.getElem?_take, List.getElem?_drop, List.getElem?_map, hi, ↓reduceIte, List.getElem?_eq_getElem, Option.map_some] at this
  exact this
 have hle := hS.1 _ (List.getElem_mem hi)
 have hil := H.get_lt hg
 refine ⟨List.set h id (some { b with el := b.el.set (o + i) (splice (enc xs[i]) j cs) }), ?_, ⟨fun y hy => ?_, ?_⟩, ?_, by simp, ⟨by simp, fun id' _ hn => ?_⟩⟩
 ·simp only [sid, soff, H.write, hg, hel, hro, hle, hj, and_self, ↓reduceIte]
 ·rcases List.mem_or_eq_of_mem_set hy with hy | rfl
  ·exact hS.1 y hy
  ·rw [hx]
   simp only [splice, List.length_append, List.length_take, List.length_drop, hle]
   omega
 ·refine ⟨by simp, hS.len, _, get_set_self hil, he, by simpa using hb, ?_⟩
  rw [List.drop_set, if_neg (by omega), show o + i - o = i by omega, List.take_set, ht, List.map_set, hx]
 ·intro id' hid'
  simp only [Cell.ids, List.mem_singleton] at hid'
  subst hid'
  exact ⟨_, get_set_self hil, hro⟩
 ·simp only [Cell.ids, List.mem_singleton] at hn
  exact get_set_ne hn
structure Grown (h : H) (s : Cell) (es : Nat) (enc : α → List Cell) (zs : List α) (s' : Cell) (h' : H) : Prop where
 sl : Sl h' s' es enc zs
 wr : Wr h' s'
 un : Un s'
 chg : Chg h (fun id => id ∈ s.ids) h'
 ids : ∀ id ∈ s'.ids, id ∈ s.ids ∨ h.length ≤ id
theorem Sl.append (hS : Sl h s es enc xs) (hw : Wr h s) (hu : Un s) (hT : Sl h t es enc ys) (ht : Un t) (hl : xs.length + ys.length ≤ lenMost) : ∃ s' h', appendA es h (.c s) (.c t) = some (.c s', h') ∧ Grown h s es enc (xs ++ ys) s' h' := by
 obtain ⟨s', h', e, a⟩ := appendS_ok hS hw hu.1 (hT.elemsOf ht.1) hT.1 hl
 obtain ⟨s2, e2, u⟩ := appendA_un hu e
 simp only [V.c.injEq] at e2
 subst e2
 exact ⟨s', h', e, ⟨a.sl, a.wr, u, ⟨a.len, fun id hid hn => a.keep id hid hn⟩, a.ids⟩⟩
theorem Sl.append_new (hS : Sl h s es enc xs) (hw : Wr h s) (hu : Un s) (hy : ∀ y ∈ ys, (enc y).length = es) (hl : xs.length + ys.length ≤ lenMost) :
  ∃ s' h', appendA es (h.push ⟨false, es, ys.map enc⟩) (.c s) (.c (.sl h.length 0 ys.length none)) = some (.c s', h') ∧ Grown h s es enc (xs ++ ys) s' h' := by
 have hm : lenMost ≤ sMost := by decide
 have hT : Sl (h.push ⟨false, es, ys.map enc⟩) (.sl h.length 0 ys.length none) es enc ys := Sl.new hy (by omega)
 have hw' : Wr (h.push ⟨false, es, ys.map enc⟩) s := fun id hid => by
  obtain ⟨b, h1, h2⟩ := hw id hid; exact ⟨b, get_push_some h1, h2⟩
 obtain ⟨s', h', e, g⟩ := (hS.push _).append hw' hu hT Un.new hl
 refine ⟨s', h', e, ⟨g.sl, g.wr, g.un, ⟨by have := g.chg.len; simp at this; omega, fun id hid hn => ?_⟩, fun id hid => ?_⟩⟩
 ·rw [g.chg.keep id (by simp; omega) hn, get_push_lt hid]
 ·rcases g.ids id hid with h | h
  ·exact .inl h
  ·simp at h; right; omega
theorem Sl.clone (hT : Sl h t es enc ys) (ht : Un t) (hl : ys.length ≤ lenMost) :
  ∃ s' h', appendA es (h.push ⟨false, es, []⟩) (.c (.sl h.length 0 0 none)) (.c t) = some (.c s', h') ∧ Sl h' s' es enc ys ∧ Wr h' s' ∧ Un s' ∧ Ext h h' ∧ ∀ id ∈ s'.ids, h.length ≤ id := by
 have hS : Sl (h.push ⟨false, es, []⟩) (.sl h.length 0 0 none) es enc ([] : List α) := ⟨by simp, rfl, by simp, _, get_push_self, rfl, by simp, rfl⟩
 have hw : Wr (h.push ⟨false, es, []⟩) (.sl h.length 0 0 none) := fun id hid => by
  simp only [Cell.ids, List.mem_singleton] at hid; subst hid; exact ⟨_, get_push_self, rfl⟩
 obtain ⟨s', h', e, g⟩ := hS.append hw Un.new (hT.push _) ht (by simpa using hl)
 refine ⟨s', h', e, by simpa using g.sl, g.wr, g.un, ⟨by have := g.chg.len; simp at this; omega, fun id hid => ?_⟩, fun id hid => ?_⟩
 ·rw [g.chg.keep id (by simp; omega) (by simp [Cell.ids]; omega), get_push_lt hid]
 ·rcases g.ids id hid with h | h
  ·simp [Cell.ids] at h; omega
  ·simp at h; omega
structure Fresh (h : H) (es : Nat) (enc : α → List Cell) (ys : List α) (s' : Cell) (h' : H) : Prop where
 sl : Sl h' s' es enc ys
 wr : Wr h' s'
 un : Un s'
 ext : Ext h h'
 ids : ∀ id ∈ s'.ids, h.length ≤ id
theorem Sl.cloneF (hT : Sl h t es enc ys) (ht : Un t) (hl : ys.length ≤ lenMost) :
  ∃ s' h', appendA es (h.push ⟨false, es, []⟩) (.c (.sl h.length 0 0 none)) (.c t) = some (.c s', h') ∧ Fresh h es enc ys s' h' := by
 obtain ⟨s', h', e, a, b, c, d, f⟩ := hT.clone ht hl
 exact ⟨s', h', e, a, b, c, d, f⟩
theorem Fresh.nils (h : H) (es : Nat) (enc : α → List Cell) : Fresh h es enc [] .nils h := ⟨⟨by simp, rfl⟩, fun id hid => by simp [Cell.ids] at hid, Un.nils, Ext.refl h, fun id hid => by simp [Cell.ids] at hid⟩
theorem Wr.same {h' : H} (hw : Wr h s) (hk : ∀ id ∈ s.ids, h'.get id = h.get id) : Wr h' s := fun id hid => by
 obtain ⟨b, h1, h2⟩ := hw id hid; exact ⟨b, by rw [hk id hid, h1], h2⟩
theorem Wr.lt (hw : Wr h s) : ∀ id ∈ s.ids, id < h.length := fun id hid => by obtain ⟨b, h1, _⟩ := hw id hid; exact H.get_lt h1
@[simp] theorem eqV_snn {T : TT} {t : TypeId} : eqV T h t (.c .nils) (.c .nils) = if tdFits (T.td t) .nils then some true else none := by simp [eqV, Cell.eqA]
theorem Sl.eqNil (hS : Sl k s es enc xs) (hu : Un s) {T : TT} {t : TypeId} (ht : ∃ e, T.td t = .slice e) : eqV T k t (.c s) (.c .nils) = some (decide (s = .nils)) := by
 obtain ⟨e, ht⟩ := ht
 have h2 := hS.2
 cases s with
 | nils => simp [eqV, Cell.eqA, ht, tdFits]
 | sle id i l => exact absurd rfl (hu.2 _ _ _)
 | sl id i n c => simp [eqV, Cell.eqA, ht, tdFits]
 | _ => exact h2.elim
end Go.AM
