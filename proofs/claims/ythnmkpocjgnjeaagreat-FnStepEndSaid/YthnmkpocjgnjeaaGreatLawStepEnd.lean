/-
  Proves that the law answers true in the abstract machine, whatever it is handed that is as arguments are; under no other condition.
-/
import Derived.Test.YthnmkpocjgnjeaaGreatWalkA23
import Derived.Test.YthnmkpocjgnjeaaGreatWalkA25
set_option linter.all false
/-
 THE LAW FnStepEnd, in the abstract machine: it answers true.
-/
set_option maxRecDepth 8000
namespace Go.Proofs.YthnmkpocjgnjeaaGreat
open Go.AM
variable {h : H} {bs : List Int} {s : Cell}
set_option maxHeartbeats 4000000 in
set_option maxRecDepth 16000 in
theorem c_law_StepEnd (hS : BytesA h s bs) : Dz.den 5 [.c s] h = some (.c (.bool true), h) := by
 refine den_plain rfl Tryz.func5 rfl rfl ?_
 have eL := fun e => hS.sl.lenA (e := e)
 by_cases z : (1048576 : Int) < bs.length
 ·simp [Tryz.f5, eL, z]
 obtain ⟨w, c, cs, k1, k2, k3, k4, c1, cs1, c2, c3, e1, e2, e3, e4, e5, e6, e7, P⟩ := stepped hS
 have v := P.v
 have hR := v.rd
 have hrs := hR.runs.sl
 have hlen := hR.runs.len
 have seen := P.seen
 simp only [encW] at e1 e2 e3 e4 e5 e6 e7
 by_cases a : WorldOk w
 rotate_left
 ·have a' : tt (WorldOk w) = false := by simpa using a
  rw [a'] at e5
  simp [Tryz.f5, eL, z, e1, e2, e3, e4, e5, e6, e7]
  exact ⟨by kernel_rfl, by kernel_rfl, (P.ext.trans P.ext4).2⟩
 have a' : tt (WorldOk w) = true := by simpa using a
 rw [a'] at e5
 have G := ((ok_iff w).1 a).1
 have I := G.inv
 have room := seen.room a
 have hx := step_ok room
 by_cases q0 : w.queue = []
 ·have qL := hR.queue.lenA (e := 3)
  rw [q0] at qL
  simp [Tryz.f5, eL, z, e1, e2, e3, e4, e5, e6, e7, qL]
  exact ⟨by kernel_rfl, by kernel_rfl, (P.ext.trans P.ext4).2⟩
 rw [if_neg q0] at hx
 obtain ⟨hid, h1⟩ := I.head q0
 obtain ⟨i, T⟩ := I.turn hid h1
 have X := P.x
 rw [hx] at X
 have HX := X.rd
 have xrs := HX.runs.sl
 have xlen := HX.runs.len
 have K := G.stepG hid h1
 obtain ⟨b, hb, S⟩ := T.step_own
 have OT := S.t T.run.ok T.ok
 have many := I.many
 have qpos : 0 < w.queue.length := List.length_pos_iff.2 q0
 have qL := hR.queue.lenA (e := 3)
 obtain ⟨qi, qa, _⟩ := queue_hd q0 hR.queue
 have e0 := T.e0
 have hi := T.hi
 have hi' : i < cs.length := by omega
 have xi : i < (stepP w (headQ w)).runs.length := by have := K.k.len; omega
 have xi' : i < cs1.length := by omega
 have wi : IntKind.i64.wrap ((i : Int) + 1 - 1) = (i : Int) := by rw [wrapS (by omega) (by omega)]; omega
 have wi' : IntKind.i64.wrap (i : Int) = (i : Int) := wrapS (by omega) (by omega)
 rw [e0] at qa
 have ER := hR.runs.each i hi
 have er : w.runs[i] = runAt w (headQ w) := by have := T.get; rw [List.getElem?_eq_getElem hi] at this; simpa using this
 rw [er] at ER
 have EX := HX.runs.each i xi
 have eb : (stepP w (headQ w)).runs[i] = b := by rw [List.getElem?_eq_getElem xi] at hb; simpa using hb
 rw [eb] at EX
 obtain ⟨m, hm⟩ := Int.eq_ofNat_of_zero_le T.run.ok.at_.1
 obtain ⟨ml, mg⟩ := T.opg
 rw [hm, Int.toNat_natCast] at ml mg
 have hop := T.op
 have C := hR.code
 have qp : ¬ w.queue.length = 0 := by omega
 have fin := P.ext.2
 obtain ⟨o, ho⟩ : ∃ o, codeAt w (runAt w (headQ w)).at_ = o := ⟨_, rfl⟩
 rw [ho] at S T OT
 have cm : w.code[m] = o := by
  rw [← ho, hm]
  unfold codeAt
  rw [Int.toNat_natCast, List.getElem?_eq_getElem ml]; rfl
 have sf := S.setfacts T.run.ok T.ok
 obtain ⟨r, hr⟩ : ∃ r, runAt w (headQ w) = r := ⟨_, rfl⟩
 rw [hr] at hm ER sf T OT S
 have orr := op_r T.ok
 have ors := op_s T.ok
 obtain ⟨sr, hsr⟩ : ∃ sr : Nat, o.r = sr := ⟨o.r.toNat, by omega⟩
 obtain ⟨ss, hss⟩ : ∃ ss : Nat, o.s = ss := ⟨o.s.toNat, by omega⟩
 have sl4 := T.run.ok.len
 have hs4 : sr < 4 := by omega
 have ht4 : ss < 4 := by omega
 have SR := ER.slots
 have SB := EX.slots
 have RB := (K.g.inv.each i b hb).ok
 have bl4 := RB.len
 have w1 : IntKind.i64.wrap ((m : Int) + 1) = (m : Int) + 1 := wrapS (by omega) (by have := (codeOk_len I.safe.ok); omega)
 have ps := phi_sent I
 have xs := sent_phi (stepP w (headQ w))
 have kp := K.k.phi
 have ss := seen.sent
 have sv : slotAt r (sr : Int) = r.slots[sr]'(by omega) := by
  unfold slotAt
  rw [Int.toNat_natCast, List.getElem?_eq_getElem (by omega)]; rfl
 have e8 := c_lvState HX ((i : Int) + 1)
 have ra : runAt (stepP w (headQ w)) ((i : Int) + 1) = b := runAt_some (by rw [show ((i : Int) + 1 - 1).toNat = i by omega]; exact hb)
 rw [if_pos (by omega), ra] at e8
 simp only [encW] at e8
 by_cases y14 : o.kind = 14
 ·have ok1 : valOk (r.slots[sr]'(by omega)) = true := by
   have := slotAt_ok T.run.ok (k := (sr : Int)) (by omega) (by omega); rw [sv] at this; exact this
  obtain ⟨_, e9, k5, c5, cs5, rfl, x5, v5⟩ := c_IFallEnd v a (by have := seen.sent; omega) ((i : Int) + 1) ok1
  have se := T.step_end y14
  rw [hsr, sv, e0] at se
  have e10 := c_lvWorld (X.ext x5).rd v5.rd
  rw [e0, se, decide_eq_true rfl] at e10
  simp only [encW, encV] at e9 e10
  simp [Tryz.f5, eL, z, e1, e2, e3, e4, e5, qL, q0, qp, qi, qa, wi, wi', ixA_nat hrs, hi', hrs.at, ixA_nat xrs, xi', xrs.at, ER.at_, hm, ixA_nat C, C.at, ml, cm, y14, hsr, ixA_nat SR, sl4, hs4, SR.at, e9, e10]
  exact ⟨by kernel_rfl, by kernel_rfl, (P.ext.trans x5).2⟩
 ·have nm := T.end_name y14 hb S
  by_cases d3 : b.state = 3
  ·have bw := nm d3
   rw [d3] at e8
   simp [Tryz.f5, eL, z, e1, e2, e3, e4, e5, qL, q0, qp, qi, qa, wi, wi', ixA_nat hrs, hi', hrs.at, ixA_nat xrs, xi', xrs.at, ER.at_, hm, ixA_nat C, C.at, ml, cm, y14, e8, EX.why, bw]
   exact ⟨by kernel_rfl, fin⟩
  ·simp [Tryz.f5, eL, z, e1, e2, e3, e4, e5, qL, q0, qp, qi, qa, wi, wi', ixA_nat hrs, hi', hrs.at, ixA_nat xrs, xi', xrs.at, ER.at_, hm, ixA_nat C, C.at, ml, cm, y14, e8, d3]
   exact ⟨by kernel_rfl, fin⟩
end Go.Proofs.YthnmkpocjgnjeaaGreat
