/-
  Proves that the law answers true in the abstract machine, whatever it is handed that is as arguments are; under no other condition.
-/
import Derived.Test.YtmkiojlebjknlaaGreatWalkA23
import Derived.Test.YtmkiojlebjknlaaGreatWalkA25
set_option linter.all false
/-
 THE LAW FnStepTake, in the abstract machine: it answers true.
-/
set_option maxRecDepth 8000
namespace Go.Proofs.YtmkiojlebjknlaaGreat
open Go.AM
variable {h : H} {bs : List Int} {s : Cell}
set_option maxHeartbeats 4000000 in
set_option maxRecDepth 16000 in
theorem c_law_StepTake (hS : BytesA h s bs) : Dz.den 7 [.c s] h = some (.c (.bool true), h) := by
 refine den_plain rfl Tryz.func7 rfl rfl ?_
 have eL := fun e => hS.sl.lenA (e := e)
 by_cases z : (1048576 : Int) < bs.length
 ·simp [Tryz.f7, eL, z]
 obtain ⟨w, c, cs, k1, k2, k3, k4, c1, cs1, c2, c3, e1, e2, e3, e4, e5, e6, e7, P⟩ := stepped hS
 have v := P.v
 have hR := v.rd
 have hrs := hR.runs.sl
 have hlen := hR.runs.len
 have seen := P.seen
 simp only [encW] at e1 e2 e3 e4 e5 e6 e7
 by_cases a : WorldOk w
 rotate_left
 ·have a' : tt (WorldOk w) = false := by simpa using a
  rw [a'] at e5
  simp [Tryz.f7, eL, z, e1, e2, e3, e4, e5, e6, e7]
  exact ⟨by kernel_rfl, by kernel_rfl, (P.ext.trans P.ext4).2⟩
 have a' : tt (WorldOk w) = true := by simpa using a
 rw [a'] at e5
 have G := ((ok_iff w).1 a).1
 have I := G.inv
 have room := seen.room a
 have hx := step_ok room
 by_cases q0 : w.queue = []
 ·have qL := hR.queue.lenA (e := 3)
  rw [q0] at qL
  simp [Tryz.f7, eL, z, e1, e2, e3, e4, e5, e6, e7, qL]
  exact ⟨by kernel_rfl, by kernel_rfl, (P.ext.trans P.ext4).2⟩
 rw [if_neg q0] at hx
 obtain ⟨hid, h1⟩ := I.head q0
 obtain ⟨i, T⟩ := I.turn hid h1
 have X := P.x
 rw [hx] at X
 have HX := X.rd
 have xrs := HX.runs.sl
 have xlen := HX.runs.len
 have K := G.stepG hid h1
 obtain ⟨b, hb, S⟩ := T.step_own
 have OT := S.t T.run.ok T.ok
 have many := I.many
 have qpos : 0 < w.queue.length := List.length_pos_iff.2 q0
 have qL := hR.queue.lenA (e := 3)
 obtain ⟨qi, qa, _⟩ := queue_hd q0 hR.queue
 have e0 := T.e0
 have hi := T.hi
 have hi' : i < cs.length := by omega
 have xi : i < (stepP w (headQ w)).runs.length := by have := K.k.len; omega
 have xi' : i < cs1.length := by omega
 have wi : IntKind.i64.wrap ((i : Int) + 1 - 1) = (i : Int) := by rw [wrapS (by omega) (by omega)]; omega
 have wi' : IntKind.i64.wrap (i : Int) = (i : Int) := wrapS (by omega) (by omega)
 rw [e0] at qa
 have ER := hR.runs.each i hi
 have er : w.runs[i] = runAt w (headQ w) := by have := T.get; rw [List.getElem?_eq_getElem hi] at this; simpa using this
 rw [er] at ER
 have EX := HX.runs.each i xi
 have eb : (stepP w (headQ w)).runs[i] = b := by rw [List.getElem?_eq_getElem xi] at hb; simpa using hb
 rw [eb] at EX
 obtain ⟨m, hm⟩ := Int.eq_ofNat_of_zero_le T.run.ok.at_.1
 obtain ⟨ml, mg⟩ := T.opg
 rw [hm, Int.toNat_natCast] at ml mg
 have hop := T.op
 have C := hR.code
 have qp : ¬ w.queue.length = 0 := by omega
 have fin := P.ext.2
 obtain ⟨o, ho⟩ : ∃ o, codeAt w (runAt w (headQ w)).at_ = o := ⟨_, rfl⟩
 rw [ho] at S T OT
 have cm : w.code[m] = o := by
  rw [← ho, hm]
  unfold codeAt
  rw [Int.toNat_natCast, List.getElem?_eq_getElem ml]; rfl
 have sf := S.setfacts T.run.ok T.ok
 obtain ⟨r, hr⟩ : ∃ r, runAt w (headQ w) = r := ⟨_, rfl⟩
 rw [hr] at hm ER sf T OT S
 have orr := op_r T.ok
 have ors := op_s T.ok
 obtain ⟨sr, hsr⟩ : ∃ sr : Nat, o.r = sr := ⟨o.r.toNat, by omega⟩
 obtain ⟨ss, hss⟩ : ∃ ss : Nat, o.s = ss := ⟨o.s.toNat, by omega⟩
 have sl4 := T.run.ok.len
 have hs4 : sr < 4 := by omega
 have ht4 : ss < 4 := by omega
 have SR := ER.slots
 have SB := EX.slots
 have RB := (K.g.inv.each i b hb).ok
 have bl4 := RB.len
 have w1 : IntKind.i64.wrap ((m : Int) + 1) = (m : Int) + 1 := wrapS (by omega) (by have := (codeOk_len I.safe.ok); omega)
 have sv : ∀ q : Nat, (hq : q < 4) → slotAt r (q : Int) = r.slots[q]'(by omega) := fun q hq => by
  unfold slotAt
  rw [Int.toNat_natCast, List.getElem?_eq_getElem (by omega)]; rfl
 by_cases yk : o.kind = 7 ∨ o.kind = 8
 rotate_left
 ·have n7 : ¬ o.kind = 7 := fun h => yk (.inl h)
  have n8 : ¬ o.kind = 8 := fun h => yk (.inr h)
  simp [Tryz.f7, eL, z, e1, e2, e3, e4, e5, qL, q0, qp, qi, qa, wi, wi', ixA_nat hrs, hi', hrs.at, ixA_nat xrs, xi', xrs.at, ER.at_, hm, ixA_nat C, C.at, ml, cm, n7, n8]
  exact ⟨by kernel_rfl, fin⟩
 have ok := T.run.ok
 have e8 := c_IRunFirst ER ok (kind := o.s) ors
 simp only [encR, ER.at_, hm] at e8
 by_cases f : 0 ≤ mailAt r o.s
 ·rw [if_pos f, decide_eq_true f] at e8
  obtain ⟨_, e9, k5, c5, rfl, x5, S5⟩ := c_IRunTake ER (v.run_un hi') ok (kind := o.s) ors f
  have bt := S.tookRun yk f
  have e10 := c_lvVals (EX.mail.ext x5) S5
  rw [decide_eq_true (by rw [bt]; rfl)] at e10
  have bs : b.slots[sr]'(by omega) = r.mail[(mailAt r o.s).toNat]?.getD default := by
   subst bt
   simp [takeRun, nextRun, putRun, hsr]
  have b1 : b.at_ = (m : Int) + 1 := by rw [bt]; show r.at_ + 1 = _; rw [hm]
  have b2 : b.due = 0 := by rw [bt]; rfl
  have tk : c1.taken = c.taken + 1 := by rw [HX.taken, hR.taken]; exact T.took yk f
  have nn := I.nn
  have sm := I.sum
  have mn := mailSum_nn w.runs
  have wt : IntKind.i64.wrap (c.taken + 1) = c.taken + 1 := by rw [hR.taken]; exact wrapS (by omega) (by have := seen.sent; omega)
  simp only [encR, ER.at_, hm] at e9
  have tk' := eq_true tk
  rcases yk with y7 | y8
  ·simp [Tryz.f7, eL, z, e1, e2, e3, e4, e5, qL, q0, qp, qi, qa, wi, wi', ixA_nat hrs, hi', hrs.at, ixA_nat xrs, xi', xrs.at, ER.at_, hm, ixA_nat C, C.at, ml, cm, y7, e8, e9, hsr, ixA_nat (SB.ext x5), bl4, hs4, (SB.ext x5).at, bs, e10, EX.at_, b1, w1, tk', wt, EX.due, b2]
   first | exact ⟨by kernel_rfl, fin⟩ | exact ⟨by kernel_rfl, by unfold LexOk; kernel_rfl, fin⟩ | exact ⟨by kernel_rfl, (P.ext.trans x5).2⟩ | exact ⟨by kernel_rfl, by unfold LexOk; kernel_rfl, (P.ext.trans x5).2⟩
  ·simp [Tryz.f7, eL, z, e1, e2, e3, e4, e5, qL, q0, qp, qi, qa, wi, wi', ixA_nat hrs, hi', hrs.at, ixA_nat xrs, xi', xrs.at, ER.at_, hm, ixA_nat C, C.at, ml, cm, y8, e8, e9, hsr, ixA_nat (SB.ext x5), bl4, hs4, (SB.ext x5).at, bs, e10, EX.at_, b1, w1, tk', wt, EX.due, b2]
   first | exact ⟨by kernel_rfl, fin⟩ | exact ⟨by kernel_rfl, by unfold LexOk; kernel_rfl, fin⟩ | exact ⟨by kernel_rfl, (P.ext.trans x5).2⟩ | exact ⟨by kernel_rfl, by unfold LexOk; kernel_rfl, (P.ext.trans x5).2⟩
 rw [if_neg f, decide_eq_false f] at e8
 rcases S.waitRun yk f (by rw [← hr]; exact h1) with ⟨y8, d, b1, b2, b3⟩ | ⟨nd, b1, b2, b3⟩
 ·simp only [ER.due] at e8
  simp [Tryz.f7, eL, z, e1, e2, e3, e4, e5, qL, q0, qp, qi, qa, wi, wi', ixA_nat hrs, hi', hrs.at, ixA_nat xrs, xi', xrs.at, ER.at_, hm, ixA_nat C, C.at, ml, cm, y8, e8, ER.due, d, EX.at_, b1, EX.state, b2, EX.due, b3]
  first | exact ⟨by kernel_rfl, fin⟩ | exact ⟨by kernel_rfl, by unfold LexOk; kernel_rfl, fin⟩ | exact ⟨by kernel_rfl, (P.ext.trans x5).2⟩ | exact ⟨by kernel_rfl, by unfold LexOk; kernel_rfl, (P.ext.trans x5).2⟩
 have nq := T.waits yk f nd
 have e9 := c_lvAmong HX.queue (headQ w)
 rw [decide_eq_false nq, e0] at e9
 rcases b3 with ⟨y7, b3⟩ | ⟨y8, b3⟩
 ·simp [Tryz.f7, eL, z, e1, e2, e3, e4, e5, qL, q0, qp, qi, qa, wi, wi', ixA_nat hrs, hi', hrs.at, ixA_nat xrs, xi', xrs.at, ER.at_, hm, ixA_nat C, C.at, ml, cm, y7, e8, EX.at_, b2, EX.state, b1, EX.due, b3, e9]
  first | exact ⟨by kernel_rfl, fin⟩ | exact ⟨by kernel_rfl, by unfold LexOk; kernel_rfl, fin⟩ | exact ⟨by kernel_rfl, (P.ext.trans x5).2⟩ | exact ⟨by kernel_rfl, by unfold LexOk; kernel_rfl, (P.ext.trans x5).2⟩
 ·have nd8 := nd y8
  have va := op_after T.ok y8
  have nw := I.now
  have d0 : ¬ w.now + o.v.n = 0 := by omega
  simp only [ER.due] at e8
  simp [Tryz.f7, eL, z, e1, e2, e3, e4, e5, qL, q0, qp, qi, qa, wi, wi', ixA_nat hrs, hi', hrs.at, ixA_nat xrs, xi', xrs.at, ER.at_, hm, ixA_nat C, C.at, ml, cm, y8, e8, ER.due, nd8, EX.at_, b2, EX.state, b1, EX.due, b3, d0, e9]
  first | exact ⟨by kernel_rfl, fin⟩ | exact ⟨by kernel_rfl, by unfold LexOk; kernel_rfl, fin⟩ | exact ⟨by kernel_rfl, (P.ext.trans x5).2⟩ | exact ⟨by kernel_rfl, by unfold LexOk; kernel_rfl, (P.ext.trans x5).2⟩
end Go.Proofs.YtmkiojlebjknlaaGreat
