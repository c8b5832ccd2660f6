/-
  Proves that the law answers true in the abstract machine, whatever it is handed that is as arguments are; under no other condition.
-/
import Derived.Test.YtjopaifbpeojeaaGreatWalk23
import Derived.Test.YtjopaifbpeojeaaGreatWalk24
set_option linter.all false
/-
  THE LAW FnStepBegin, in the abstract machine: it answers true.
-/
set_option maxRecDepth 8000
namespace Go.Proofs.YtjopaifbpeojeaaGreat
open Go.AM
variable {h : H} {bs : List Int} {s : Cell}
set_option maxHeartbeats 4000000 in
set_option maxRecDepth 16000 in
theorem c_law_StepBegin (hS : BytesA h s bs) : Dz.den 14 [.c s] h = some (.c (.bool true), h) := by
  refine den_plain rfl Tryz.func14 rfl rfl ?_
  have eL := fun e => hS.sl.lenA (e := e)
  by_cases z : (1048576 : Int) < bs.length
  · simp [Tryz.f14, eL, z]
  obtain ⟨w, c, cs, k1, k2, k3, k4, c1, cs1, c2, c3, e1, e2, e3, e4, e5, e6, e7, P⟩ := stepped hS
  have v := P.v
  have hR := v.rd
  have hrs := hR.runs.sl
  have hlen := hR.runs.len
  have seen := P.seen
  simp only [encW] at e1 e2 e3 e4 e5 e6 e7
  by_cases a : WorldOk w
  rotate_left
  · have a' : tt (WorldOk w) = false := by simpa using a
    rw [a'] at e5
    simp [Tryz.f14, eL, z, e1, e2, e3, e4, e5, e6, e7]
    exact ⟨by kernel_rfl, by kernel_rfl, (P.ext.trans P.ext4).2⟩
  have a' : tt (WorldOk w) = true := by simpa using a
  rw [a'] at e5
  have G := ((ok_iff w).1 a).1
  have I := G.inv
  have room := seen.room a
  have hx := step_ok room
  by_cases q0 : w.queue = []
  · have qL := hR.queue.lenA (e := 3)
    rw [q0] at qL
    simp [Tryz.f14, eL, z, e1, e2, e3, e4, e5, e6, e7, qL]
    exact ⟨by kernel_rfl, by kernel_rfl, (P.ext.trans P.ext4).2⟩
  rw [if_neg q0] at hx
  obtain ⟨hid, h1⟩ := I.head q0
  obtain ⟨i, T⟩ := I.turn hid h1
  have X := P.x
  rw [hx] at X
  have HX := X.rd
  have xrs := HX.runs.sl
  have xlen := HX.runs.len
  have K := G.stepG hid h1
  obtain ⟨b, hb, S⟩ := T.step_own
  have OT := S.t T.run.ok T.ok
  have many := I.many
  have qpos : 0 < w.queue.length := List.length_pos_iff.2 q0
  have qL := hR.queue.lenA (e := 3)
  obtain ⟨qi, qa, _⟩ := queue_hd q0 hR.queue
  have e0 := T.e0
  have hi := T.hi
  have hi' : i < cs.length := by omega
  have xi : i < (stepP w (headQ w)).runs.length := by have := K.k.len; omega
  have xi' : i < cs1.length := by omega
  have wi : IntKind.i64.wrap ((i : Int) + 1 - 1) = (i : Int) := by rw [wrapS (by omega) (by omega)]; omega
  have wi' : IntKind.i64.wrap (i : Int) = (i : Int) := wrapS (by omega) (by omega)
  rw [e0] at qa
  have ER := hR.runs.each i hi
  have er : w.runs[i] = runAt w (headQ w) := by have := T.get; rw [List.getElem?_eq_getElem hi] at this; simpa using this
  rw [er] at ER
  have EX := HX.runs.each i xi
  have eb : (stepP w (headQ w)).runs[i] = b := by rw [List.getElem?_eq_getElem xi] at hb; simpa using hb
  rw [eb] at EX
  obtain ⟨m, hm⟩ := Int.eq_ofNat_of_zero_le T.run.ok.at_.1
  obtain ⟨ml, mg⟩ := T.opg
  rw [hm, Int.toNat_natCast] at ml mg
  have hop := T.op
  have C := hR.code
  have qp : ¬ w.queue.length = 0 := by omega
  have fin := P.ext.2
  obtain ⟨o, ho⟩ : ∃ o, codeAt w (runAt w (headQ w)).at_ = o := ⟨_, rfl⟩
  rw [ho] at S T OT
  have cm : w.code[m] = o := by
    rw [← ho, hm]
    unfold codeAt
    rw [Int.toNat_natCast, List.getElem?_eq_getElem ml]; rfl
  have sf := S.setfacts T.run.ok T.ok
  obtain ⟨r, hr⟩ : ∃ r, runAt w (headQ w) = r := ⟨_, rfl⟩
  rw [hr] at hm ER sf T OT S
  have orr := op_r T.ok
  have ors := op_s T.ok
  obtain ⟨sr, hsr⟩ : ∃ sr : Nat, o.r = sr := ⟨o.r.toNat, by omega⟩
  obtain ⟨ss, hss⟩ : ∃ ss : Nat, o.s = ss := ⟨o.s.toNat, by omega⟩
  have sl4 := T.run.ok.len
  have hs4 : sr < 4 := by omega
  have ht4 : ss < 4 := by omega
  have SR := ER.slots
  have SB := EX.slots
  have RB := (K.g.inv.each i b hb).ok
  have bl4 := RB.len
  have w1 : IntKind.i64.wrap ((m : Int) + 1) = (m : Int) + 1 := wrapS (by omega) (by have := (codeOk_len I.safe.ok); omega)
  by_cases y5 : o.kind = 5
  rotate_left
  · have ln := T.step_len y5
    rw [ln] at xlen
    simp [Tryz.f14, eL, z, e1, e2, e3, e4, e5, qL, q0, qp, qi, qa, wi, wi', ixA_nat hrs, hi', hrs.at, ixA_nat xrs, xi', xrs.at, ER.at_, hm, ixA_nat C, C.at, ml, cm, y5, hrs.lenA, xrs.lenA, xlen, hlen, hi]
    exact ⟨by kernel_rfl, fin⟩
  have bt := S.k5 T.run.ok T.ok y5
  rw [hsr, Int.toNat_natCast] at bt
  have gb : b.slots[sr]?.getD default = b.slots[sr]'(by omega) := by rw [List.getElem?_eq_getElem (by omega)]; rfl
  rw [gb] at bt
  by_cases n6 : w.runs.length = 6
  · rw [if_pos (by omega)] at bt
    have ln : (stepP w (headQ w)).runs.length = w.runs.length := T.begin_full y5 (by omega)
    rw [ln] at xlen
    have xi6 : i < 6 := by omega
    simp [Tryz.f14, eL, z, e1, e2, e3, e4, e5, qL, q0, qp, qi, qa, wi, wi', ixA_nat hrs, hi', hrs.at, ixA_nat xrs, xi', xrs.at, ER.at_, hm, ixA_nat C, C.at, ml, cm, y5, hrs.lenA, xrs.lenA, xlen, hlen, n6, xi6, hsr, ixA_nat SB, bl4, hs4, SB.at]
    exact ⟨by kernel_rfl, by kernel_rfl, ⟨by rw [bt], by rw [bt]⟩, fin⟩
  rw [if_neg (by omega)] at bt
  obtain ⟨rs, qs⟩ := T.step_begin y5 (by omega)
  have ln : (stepP w (headQ w)).runs.length = w.runs.length + 1 := by rw [rs]; simp
  rw [ln] at xlen
  have to := code_to I.safe (i := m) ml (by rw [cm]; simp [hasT, y5])
  rw [cm] at to
  have c16 := (codeOk_len I.safe.ok).2
  have vok : valOk ⟨3, (i : Int) + 1⟩ = true := valOk_run (by omega)
  obtain ⟨_, e8, k5, cr, rfl, x5, q5, n5⟩ := c_RunNew (h := k3) (id := (w.runs.length : Int) + 1) (at_ := o.to) (v := ⟨3, (i : Int) + 1⟩) (by omega) (by omega) vok
  have xrs5 := xrs.ext x5
  have xN : w.runs.length < cs1.length := by omega
  have EN := (HX.runs.ext x5).each w.runs.length (by omega)
  have en : (stepP w (headQ w)).runs[w.runs.length]'(by omega) = newRun (w.runs.length + 1) o.to ⟨3, (i : Int) + 1⟩ := by
    have h2 : (stepP w (headQ w)).runs[w.runs.length]'(by omega) = newRun (w.runs.length + 1) o.to ⟨3, headQ w⟩ := by simp [rs]
    rw [h2, e0]
  rw [en] at EN
  have e9 := c_lvRun EN q5
  rw [decide_eq_true rfl] at e9
  have XQ := HX.queue.ext x5
  have ql : (stepP w (headQ w)).queue.length = w.queue.length + 1 := by rw [qs]; simp
  have iq := ixA_nat XQ (T := TTz) (e := 3) (k := .i64) (n := w.queue.length) rfl rfl (by omega)
  have aq := XQ.at (n := w.queue.length) (k := 0) (m := 1) (by omega) (by omega)
  have qv : (stepP w (headQ w)).queue[w.queue.length]?.getD default = (w.runs.length : Int) + 1 := by simp [qs]
  rw [qv] at aq
  simp [encI] at iq aq
  have SB5 := SB.ext x5
  have s7 := seen.queue
  have wn : IntKind.i64.wrap ((w.runs.length : Int) + 1) = (w.runs.length : Int) + 1 := wrapS (by omega) (by omega)
  have wq : IntKind.i64.wrap ((w.queue.length : Int) + 1 - 1) = (w.queue.length : Int) := by rw [wrapS (by omega) (by omega)]; omega
  have wq' : IntKind.i64.wrap (w.queue.length : Int) = (w.queue.length : Int) := wrapS (by omega) (by omega)
  simp only [encR, encV] at e8 e9
  have n6' : ¬ (w.runs.length : Int) = 6 := by omega
  have xNl : w.runs.length < w.runs.length + 1 := by omega
  have xi2 : i < w.runs.length + 1 := by omega
  simp [Tryz.f14, eL, z, e1, e2, e3, e4, e5, qL, q0, qp, qi, qa, wi, wi', ixA_nat hrs, hi', hrs.at, ixA_nat xrs, xi', xrs.at, ER.at_, hm, ixA_nat C, C.at, ml, cm, y5, hrs.lenA, xrs5.lenA, xlen, hlen, hi, n6, n6', wn, e8, ixA_nat xrs5, xN, xrs5.at, e9, XQ.lenA, ql, wq, wq', iq, aq, hsr, ixA_nat SB5, bl4, hs4, SB5.at, xi2]
  exact ⟨by kernel_rfl, by kernel_rfl, ⟨by rw [bt], by rw [bt]⟩, (P.ext.trans x5).2⟩
end Go.Proofs.YtjopaifbpeojeaaGreat
