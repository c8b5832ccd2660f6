/-
  Proves that the law answers true in the abstract machine, whatever it is handed that is as arguments are; under no other condition.
-/
import Derived.Test.YtmkiojlebjknlaaGreatWalkA23
import Derived.Test.YtmkiojlebjknlaaGreatWalkA25
set_option linter.all false
/-
 THE LAW FnStepLink, in the abstract machine: it answers true.
-/
set_option maxRecDepth 8000
namespace Go.Proofs.YtmkiojlebjknlaaGreat
open Go.AM
variable {h : H} {bs : List Int} {s : Cell}
set_option maxHeartbeats 4000000 in
set_option maxRecDepth 16000 in
theorem c_law_StepLink (hS : BytesA h s bs) : Dz.den 6 [.c s] h = some (.c (.bool true), h) := by
 refine den_plain rfl Tryz.func6 rfl rfl ?_
 have eL := fun e => hS.sl.lenA (e := e)
 by_cases z : (1048576 : Int) < bs.length
 ·simp [Tryz.f6, eL, z]
 obtain ⟨w, c, cs, k1, k2, k3, k4, c1, cs1, c2, c3, e1, e2, e3, e4, e5, e6, e7, P⟩ := stepped hS
 have v := P.v
 have hR := v.rd
 have hrs := hR.runs.sl
 have hlen := hR.runs.len
 have seen := P.seen
 simp only [encW] at e1 e2 e3 e4 e5 e6 e7
 by_cases a : WorldOk w
 rotate_left
 ·have a' : tt (WorldOk w) = false := by simpa using a
  rw [a'] at e5
  simp [Tryz.f6, eL, z, e1, e2, e3, e4, e5, e6, e7]
  exact ⟨by kernel_rfl, by kernel_rfl, (P.ext.trans P.ext4).2⟩
 have a' : tt (WorldOk w) = true := by simpa using a
 rw [a'] at e5
 have G := ((ok_iff w).1 a).1
 have I := G.inv
 have room := seen.room a
 have hx := step_ok room
 by_cases q0 : w.queue = []
 ·have qL := hR.queue.lenA (e := 3)
  rw [q0] at qL
  simp [Tryz.f6, eL, z, e1, e2, e3, e4, e5, e6, e7, qL]
  exact ⟨by kernel_rfl, by kernel_rfl, (P.ext.trans P.ext4).2⟩
 rw [if_neg q0] at hx
 obtain ⟨hid, h1⟩ := I.head q0
 obtain ⟨i, T⟩ := I.turn hid h1
 have X := P.x
 rw [hx] at X
 have HX := X.rd
 have xrs := HX.runs.sl
 have xlen := HX.runs.len
 have K := G.stepG hid h1
 obtain ⟨b, hb, S⟩ := T.step_own
 have OT := S.t T.run.ok T.ok
 have many := I.many
 have qpos : 0 < w.queue.length := List.length_pos_iff.2 q0
 have qL := hR.queue.lenA (e := 3)
 obtain ⟨qi, qa, _⟩ := queue_hd q0 hR.queue
 have e0 := T.e0
 have hi := T.hi
 have hi' : i < cs.length := by omega
 have xi : i < (stepP w (headQ w)).runs.length := by have := K.k.len; omega
 have xi' : i < cs1.length := by omega
 have wi : IntKind.i64.wrap ((i : Int) + 1 - 1) = (i : Int) := by rw [wrapS (by omega) (by omega)]; omega
 have wi' : IntKind.i64.wrap (i : Int) = (i : Int) := wrapS (by omega) (by omega)
 rw [e0] at qa
 have ER := hR.runs.each i hi
 have er : w.runs[i] = runAt w (headQ w) := by have := T.get; rw [List.getElem?_eq_getElem hi] at this; simpa using this
 rw [er] at ER
 have EX := HX.runs.each i xi
 have eb : (stepP w (headQ w)).runs[i] = b := by rw [List.getElem?_eq_getElem xi] at hb; simpa using hb
 rw [eb] at EX
 obtain ⟨m, hm⟩ := Int.eq_ofNat_of_zero_le T.run.ok.at_.1
 obtain ⟨ml, mg⟩ := T.opg
 rw [hm, Int.toNat_natCast] at ml mg
 have hop := T.op
 have C := hR.code
 have qp : ¬ w.queue.length = 0 := by omega
 have fin := P.ext.2
 obtain ⟨o, ho⟩ : ∃ o, codeAt w (runAt w (headQ w)).at_ = o := ⟨_, rfl⟩
 rw [ho] at S T OT
 have cm : w.code[m] = o := by
  rw [← ho, hm]
  unfold codeAt
  rw [Int.toNat_natCast, List.getElem?_eq_getElem ml]; rfl
 have sf := S.setfacts T.run.ok T.ok
 obtain ⟨r, hr⟩ : ∃ r, runAt w (headQ w) = r := ⟨_, rfl⟩
 rw [hr] at hm ER sf T OT S
 have orr := op_r T.ok
 have ors := op_s T.ok
 obtain ⟨sr, hsr⟩ : ∃ sr : Nat, o.r = sr := ⟨o.r.toNat, by omega⟩
 obtain ⟨ss, hss⟩ : ∃ ss : Nat, o.s = ss := ⟨o.s.toNat, by omega⟩
 have sl4 := T.run.ok.len
 have hs4 : sr < 4 := by omega
 have ht4 : ss < 4 := by omega
 have SR := ER.slots
 have SB := EX.slots
 have RB := (K.g.inv.each i b hb).ok
 have bl4 := RB.len
 have w1 : IntKind.i64.wrap ((m : Int) + 1) = (m : Int) + 1 := wrapS (by omega) (by have := (codeOk_len I.safe.ok); omega)
 have sv : slotAt r o.r = r.slots[sr]'(by omega) := by
  rw [hsr]
  unfold slotAt
  rw [Int.toNat_natCast, List.getElem?_eq_getElem (by omega)]; rfl
 obtain ⟨to, hto⟩ : ∃ to, r.slots[sr]'(by omega) = to := ⟨_, rfl⟩
 rw [hto] at sv
 by_cases yk : o.kind = 11 ∨ o.kind = 12
 rotate_left
 ·have n11 : ¬ o.kind = 11 := fun h => yk (.inl h)
  have n12 : ¬ o.kind = 12 := fun h => yk (.inr h)
  simp [Tryz.f6, eL, z, e1, e2, e3, e4, e5, qL, q0, qp, qi, qa, wi, wi', ixA_nat hrs, hi', hrs.at, ixA_nat xrs, xi', xrs.at, ER.at_, hm, ixA_nat C, C.at, ml, cm, n11, n12, hsr, ixA_nat SR, sl4, hs4, SR.at, hto]
  first | exact ⟨by kernel_rfl, fin⟩ | exact ⟨by kernel_rfl, by unfold LexOk; kernel_rfl, fin⟩
 by_cases t3 : to.k = 3
 rotate_left
 ·rcases yk with y11 | y12
  ·simp [Tryz.f6, eL, z, e1, e2, e3, e4, e5, qL, q0, qp, qi, qa, wi, wi', ixA_nat hrs, hi', hrs.at, ixA_nat xrs, xi', xrs.at, ER.at_, hm, ixA_nat C, C.at, ml, cm, y11, hsr, ixA_nat SR, sl4, hs4, SR.at, hto, t3]
   first | exact ⟨by kernel_rfl, fin⟩ | exact ⟨by kernel_rfl, by unfold LexOk; kernel_rfl, fin⟩
  ·simp [Tryz.f6, eL, z, e1, e2, e3, e4, e5, qL, q0, qp, qi, qa, wi, wi', ixA_nat hrs, hi', hrs.at, ixA_nat xrs, xi', xrs.at, ER.at_, hm, ixA_nat C, C.at, ml, cm, y12, hsr, ixA_nat SR, sl4, hs4, SR.at, hto, t3]
   first | exact ⟨by kernel_rfl, fin⟩ | exact ⟨by kernel_rfl, by unfold LexOk; kernel_rfl, fin⟩
 have eS := c_lvState hR to.n
 have rb : runAt (stepP w (headQ w)) (headQ w) = b := runAt_some (by rw [T.ei]; exact hb)
 have e8 := c_lvInts EX.links ER.links
 by_cases al : Alive w to.n
 rotate_left
 ·have z0 : (if 1 ≤ to.n ∧ to.n ≤ w.runs.length then (runAt w to.n).state else 0) = 0 ∨ (if 1 ≤ to.n ∧ to.n ≤ w.runs.length then (runAt w to.n).state else 0) = 3 := by
   split
   ·rename_i hh; right; exact Classical.byContradiction fun q => al ⟨hh, q⟩
   ·left; rfl
  have nt : ¬ There w (headQ w) (slotAt r o.r).n := by rw [sv]; exact fun q => al q.1
  generalize (if 1 ≤ to.n ∧ to.n ≤ w.runs.length then (runAt w to.n).state else 0) = stv at *
  simp only [encW] at eS
  rcases yk with y11 | y12
  ·have lk := (T.link_step G y11 (by rw [sv]; exact t3)).1 nt
   rw [rb] at lk
   rw [decide_eq_true lk] at e8
   rcases z0 with z0 | z0
   ·rw [z0] at eS
    simp [Tryz.f6, eL, z, e1, e2, e3, e4, e5, qL, q0, qp, qi, qa, wi, wi', ixA_nat hrs, hi', hrs.at, ixA_nat xrs, xi', xrs.at, ER.at_, hm, ixA_nat C, C.at, ml, cm, y11, hsr, ixA_nat SR, sl4, hs4, SR.at, hto, t3, eS, e8]
    first | exact ⟨by kernel_rfl, fin⟩ | exact ⟨by kernel_rfl, by unfold LexOk; kernel_rfl, fin⟩
   ·rw [z0] at eS
    simp [Tryz.f6, eL, z, e1, e2, e3, e4, e5, qL, q0, qp, qi, qa, wi, wi', ixA_nat hrs, hi', hrs.at, ixA_nat xrs, xi', xrs.at, ER.at_, hm, ixA_nat C, C.at, ml, cm, y11, hsr, ixA_nat SR, sl4, hs4, SR.at, hto, t3, eS, e8]
    first | exact ⟨by kernel_rfl, fin⟩ | exact ⟨by kernel_rfl, by unfold LexOk; kernel_rfl, fin⟩
  ·obtain ⟨lk, sn⟩ := (T.watch_step y12 (by rw [sv]; exact t3)).1 nt
   rw [rb] at lk
   rw [decide_eq_true lk] at e8
   rw [sv] at sn
   have ws : IntKind.i64.wrap (c.sent + 1) = c.sent + 1 := by rw [hR.sent]; exact wrapS (by have := I.nn; omega) (by have := seen.sent; omega)
   have sn2 : to.n = (i : Int) + 1 ∨ c1.sent = c.sent + 1 := by
    rcases sn with q | q
    ·exact .inl (by rw [q, e0])
    ·exact .inr (by rw [HX.sent, hR.sent]; exact q)
   rcases z0 with z0 | z0
   all_goals
    rw [z0] at eS
    rcases sn2 with q | q <;> have q := eq_true q
    ·simp [Tryz.f6, eL, z, e1, e2, e3, e4, e5, qL, q0, qp, qi, qa, wi, wi', ixA_nat hrs, hi', hrs.at, ixA_nat xrs, xi', xrs.at, ER.at_, hm, ixA_nat C, C.at, ml, cm, y12, hsr, ixA_nat SR, sl4, hs4, SR.at, hto, t3, eS, e8, q, ws]
     first | exact ⟨by kernel_rfl, fin⟩ | exact ⟨by kernel_rfl, by unfold LexOk; kernel_rfl, fin⟩
    ·simp [Tryz.f6, eL, z, e1, e2, e3, e4, e5, qL, q0, qp, qi, qa, wi, wi', ixA_nat hrs, hi', hrs.at, ixA_nat xrs, xi', xrs.at, ER.at_, hm, ixA_nat C, C.at, ml, cm, y12, hsr, ixA_nat SR, sl4, hs4, SR.at, hto, t3, eS, e8, q, ws]
     first | exact ⟨by kernel_rfl, fin⟩ | exact ⟨by kernel_rfl, by unfold LexOk; kernel_rfl, fin⟩
 have eS1 : (if 1 ≤ to.n ∧ to.n ≤ w.runs.length then (runAt w to.n).state else 0) = (runAt w to.n).state := if_pos al.1
 rw [eS1] at eS
 obtain ⟨q, eq, hq, erq, eiq⟩ := runAt_eq (w := w) (id := to.n) al.1
 have st1 := (I.each q _ (List.getElem?_eq_getElem hq)).ok.state
 have nz : ¬ (runAt w to.n).state = 0 := by rw [erq]; omega
 have n3 := al.2
 generalize (runAt w to.n).state = stv at *
 simp only [encW] at eS
 by_cases self : to.n = (i : Int) + 1
 ·have nt : ¬ There w (headQ w) (slotAt r o.r).n := by rw [sv]; exact fun q => q.2 (by rw [self, e0])
  rw [self] at eS
  rcases yk with y11 | y12
  ·have lk := (T.link_step G y11 (by rw [sv]; exact t3)).1 nt
   rw [rb] at lk
   rw [decide_eq_true lk] at e8
   simp [Tryz.f6, eL, z, e1, e2, e3, e4, e5, qL, q0, qp, qi, qa, wi, wi', ixA_nat hrs, hi', hrs.at, ixA_nat xrs, xi', xrs.at, ER.at_, hm, ixA_nat C, C.at, ml, cm, y11, hsr, ixA_nat SR, sl4, hs4, SR.at, hto, t3, eS, nz, n3, e8, self]
   first | exact ⟨by kernel_rfl, fin⟩ | exact ⟨by kernel_rfl, by unfold LexOk; kernel_rfl, fin⟩
  ·obtain ⟨lk, sn⟩ := (T.watch_step y12 (by rw [sv]; exact t3)).1 nt
   rw [rb] at lk
   rw [decide_eq_true lk] at e8
   simp [Tryz.f6, eL, z, e1, e2, e3, e4, e5, qL, q0, qp, qi, qa, wi, wi', ixA_nat hrs, hi', hrs.at, ixA_nat xrs, xi', xrs.at, ER.at_, hm, ixA_nat C, C.at, ml, cm, y12, hsr, ixA_nat SR, sl4, hs4, SR.at, hto, t3, eS, nz, n3, e8, self]
   first | exact ⟨by kernel_rfl, fin⟩ | exact ⟨by kernel_rfl, by unfold LexOk; kernel_rfl, fin⟩
 have th : There w (headQ w) (slotAt r o.r).n := by rw [sv]; exact ⟨al, by rw [e0]; exact self⟩
 have xq : q < (stepP w (headQ w)).runs.length := by have := K.k.len; omega
 have xq' : q < cs1.length := by omega
 have EQ := HX.runs.each q xq
 have rq : runAt (stepP w (headQ w)) to.n = (stepP w (headQ w)).runs[q] := runAt_some (by rw [eiq]; exact List.getElem?_eq_getElem xq)
 have wq : IntKind.i64.wrap (to.n - 1) = (q : Int) := by rw [wrapS (by omega) (by omega)]; omega
 rcases yk with y11 | y12
 ·obtain ⟨l1, l2⟩ := (T.link_step G y11 (by rw [sv]; exact t3)).2 th
  rw [rb, sv] at l1
  rw [sv, rq] at l2
  have l2 : ((i : Int) + 1) ∈ (stepP w (headQ w)).runs[q].links := by rw [← e0]; exact l2
  have e9 := c_lvAmong EX.links to.n
  rw [decide_eq_true l1] at e9
  have e10 := c_lvAmong EQ.links ((i : Int) + 1)
  rw [decide_eq_true l2] at e10
  simp [Tryz.f6, eL, z, e1, e2, e3, e4, e5, qL, q0, qp, qi, qa, wi, wi', ixA_nat hrs, hi', hrs.at, ixA_nat xrs, xi', xrs.at, ER.at_, hm, ixA_nat C, C.at, ml, cm, y11, hsr, ixA_nat SR, sl4, hs4, SR.at, hto, t3, eS, nz, n3, self, e9, e10, wq, xq']
  first | exact ⟨by kernel_rfl, fin⟩ | exact ⟨by kernel_rfl, by unfold LexOk; kernel_rfl, fin⟩
 ·obtain ⟨l1, l2⟩ := (T.watch_step y12 (by rw [sv]; exact t3)).2 th
  rw [sv, rq] at l1
  have l1 : ((i : Int) + 1) ∈ (stepP w (headQ w)).runs[q].watched := by rw [← e0]; exact l1
  have e9 := c_lvAmong EQ.watched ((i : Int) + 1)
  rw [decide_eq_true l1] at e9
  have cs2 := eq_true (show c1.sent = c.sent by rw [HX.sent, hR.sent]; exact l2)
  simp [Tryz.f6, eL, z, e1, e2, e3, e4, e5, qL, q0, qp, qi, qa, wi, wi', ixA_nat hrs, hi', hrs.at, ixA_nat xrs, xi', xrs.at, ER.at_, hm, ixA_nat C, C.at, ml, cm, y12, hsr, ixA_nat SR, sl4, hs4, SR.at, hto, t3, eS, nz, n3, self, e9, wq, xq', cs2]
  first | exact ⟨by kernel_rfl, fin⟩ | exact ⟨by kernel_rfl, by unfold LexOk; kernel_rfl, fin⟩
end Go.Proofs.YtmkiojlebjknlaaGreat
