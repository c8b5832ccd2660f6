/-
  Proves that the law answers true in the abstract machine, whatever it is handed that is as arguments are; under no other condition.
-/
import Derived.Test.YtjopaifbpeojeaaGreatWalk23
import Derived.Test.YtjopaifbpeojeaaGreatWalk24
set_option linter.all false
/-
  THE LAW FnStepGo, in the abstract machine: it answers true.
-/
set_option maxRecDepth 8000
namespace Go.Proofs.YtjopaifbpeojeaaGreat
open Go.AM
variable {h : H} {bs : List Int} {s : Cell}
set_option maxHeartbeats 4000000 in
set_option maxRecDepth 16000 in
theorem c_law_StepGo (hS : BytesA h s bs) : Dz.den 13 [.c s] h = some (.c (.bool true), h) := by
  refine den_plain rfl Tryz.func13 rfl rfl ?_
  have eL := fun e => hS.sl.lenA (e := e)
  by_cases z : (1048576 : Int) < bs.length
  · simp [Tryz.f13, eL, z]
  obtain ⟨w, c, cs, k1, k2, k3, k4, c1, cs1, c2, c3, e1, e2, e3, e4, e5, e6, e7, P⟩ := stepped hS
  have v := P.v
  have hR := v.rd
  have hrs := hR.runs.sl
  have hlen := hR.runs.len
  have seen := P.seen
  simp only [encW] at e1 e2 e3 e4 e5 e6 e7
  by_cases a : WorldOk w
  rotate_left
  · have a' : tt (WorldOk w) = false := by simpa using a
    rw [a'] at e5
    simp [Tryz.f13, eL, z, e1, e2, e3, e4, e5, e6, e7]
    exact ⟨by kernel_rfl, by kernel_rfl, (P.ext.trans P.ext4).2⟩
  have a' : tt (WorldOk w) = true := by simpa using a
  rw [a'] at e5
  have G := ((ok_iff w).1 a).1
  have I := G.inv
  have room := seen.room a
  have hx := step_ok room
  by_cases q0 : w.queue = []
  · have qL := hR.queue.lenA (e := 3)
    rw [q0] at qL
    simp [Tryz.f13, eL, z, e1, e2, e3, e4, e5, e6, e7, qL]
    exact ⟨by kernel_rfl, by kernel_rfl, (P.ext.trans P.ext4).2⟩
  rw [if_neg q0] at hx
  obtain ⟨hid, h1⟩ := I.head q0
  obtain ⟨i, T⟩ := I.turn hid h1
  have X := P.x
  rw [hx] at X
  have HX := X.rd
  have xrs := HX.runs.sl
  have xlen := HX.runs.len
  have K := G.stepG hid h1
  obtain ⟨b, hb, S⟩ := T.step_own
  have OT := S.t T.run.ok T.ok
  have many := I.many
  have qpos : 0 < w.queue.length := List.length_pos_iff.2 q0
  have qL := hR.queue.lenA (e := 3)
  obtain ⟨qi, qa, _⟩ := queue_hd q0 hR.queue
  have e0 := T.e0
  have hi := T.hi
  have hi' : i < cs.length := by omega
  have xi : i < (stepP w (headQ w)).runs.length := by have := K.k.len; omega
  have xi' : i < cs1.length := by omega
  have wi : IntKind.i64.wrap ((i : Int) + 1 - 1) = (i : Int) := by rw [wrapS (by omega) (by omega)]; omega
  have wi' : IntKind.i64.wrap (i : Int) = (i : Int) := wrapS (by omega) (by omega)
  rw [e0] at qa
  have ER := hR.runs.each i hi
  have er : w.runs[i] = runAt w (headQ w) := by have := T.get; rw [List.getElem?_eq_getElem hi] at this; simpa using this
  rw [er] at ER
  have EX := HX.runs.each i xi
  have eb : (stepP w (headQ w)).runs[i] = b := by rw [List.getElem?_eq_getElem xi] at hb; simpa using hb
  rw [eb] at EX
  obtain ⟨m, hm⟩ := Int.eq_ofNat_of_zero_le T.run.ok.at_.1
  obtain ⟨ml, mg⟩ := T.opg
  rw [hm, Int.toNat_natCast] at ml mg
  have hop := T.op
  have C := hR.code
  have qp : ¬ w.queue.length = 0 := by omega
  obtain ⟨o, ho⟩ : ∃ o, codeAt w (runAt w (headQ w)).at_ = o := ⟨_, rfl⟩
  rw [ho] at S T OT
  have cm : w.code[m] = o := by
    rw [← ho, hm]
    unfold codeAt
    rw [Int.toNat_natCast, List.getElem?_eq_getElem ml]; rfl
  have gf := S.gofacts
  obtain ⟨r, hr⟩ : ∃ r, runAt w (headQ w) = r := ⟨_, rfl⟩
  rw [hr] at hm ER gf T
  have orr := op_r T.ok
  obtain ⟨sr, hsr⟩ : ∃ sr : Nat, o.r = sr := ⟨o.r.toNat, by omega⟩
  have sl4 := T.run.ok.len
  have hs4 : sr < 4 := by omega
  have SR := ER.slots
  have w1 : IntKind.i64.wrap ((m : Int) + 1) = (m : Int) + 1 := wrapS (by omega) (by have := (codeOk_len I.safe.ok); omega)
  have slv : slotAt r o.r = r.slots[sr]'(by omega) := by
    unfold slotAt
    rw [hsr, Int.toNat_natCast, List.getElem?_eq_getElem (by omega)]; rfl
  have fin := P.ext.2
  by_cases k9 : o.kind = 9
  · have bt := gf.k9 k9
    simp [Tryz.f13, eL, z, e1, e2, e3, e4, e5, qL, q0, qp, qi, qa, wi, wi', ixA_nat hrs, hi', hrs.at, ixA_nat xrs, xi', xrs.at, ER.at_, hm, ixA_nat C, C.at, ml, cm, k9, EX.at_, bt]
    exact ⟨by kernel_rfl, by kernel_rfl, by kernel_rfl, fin⟩
  by_cases k10 : o.kind = 10
  · have bt := gf.k10 k10
    rw [slv, hm] at bt
    by_cases c10 : r.slots[sr] = o.v
    · rw [if_pos c10] at bt
      simp [Tryz.f13, eL, z, e1, e2, e3, e4, e5, qL, q0, qp, qi, qa, wi, wi', ixA_nat hrs, hi', hrs.at, ixA_nat xrs, xi', xrs.at, ER.at_, hm, ixA_nat C, C.at, ml, cm, k10, EX.at_, bt, hsr, ixA_nat SR, sl4, hs4, SR.at, c10]
      exact ⟨by kernel_rfl, by kernel_rfl, by kernel_rfl, by unfold LexOk; kernel_rfl, fin⟩
    · rw [if_neg c10] at bt
      simp [Tryz.f13, eL, z, e1, e2, e3, e4, e5, qL, q0, qp, qi, qa, wi, wi', ixA_nat hrs, hi', hrs.at, ixA_nat xrs, xi', xrs.at, ER.at_, hm, ixA_nat C, C.at, ml, cm, k10, EX.at_, bt, hsr, ixA_nat SR, sl4, hs4, SR.at, c10, w1]
      have pv : ∀ a b : PVal, a.k = b.k → a.n = b.n → a = b := by rintro ⟨_, _⟩ ⟨_, _⟩ rfl rfl; rfl
      exact ⟨by kernel_rfl, by kernel_rfl, by kernel_rfl, by unfold LexOk; kernel_rfl, fun h1 h2 => absurd (pv _ _ h1 h2) c10, fun _ => fin⟩
  by_cases k13 : o.kind = 13
  · obtain ⟨bt, ba⟩ := gf.k13 k13
    rw [hm] at ba
    by_cases c13 : o.v.n = 1
    · simp [Tryz.f13, eL, z, e1, e2, e3, e4, e5, qL, q0, qp, qi, qa, wi, wi', ixA_nat hrs, hi', hrs.at, ixA_nat xrs, xi', xrs.at, ER.at_, hm, ixA_nat C, C.at, ml, cm, k13, EX.at_, EX.trap, bt, ba, c13, w1]
      exact ⟨by kernel_rfl, by kernel_rfl, by kernel_rfl, fin⟩
    · simp [Tryz.f13, eL, z, e1, e2, e3, e4, e5, qL, q0, qp, qi, qa, wi, wi', ixA_nat hrs, hi', hrs.at, ixA_nat xrs, xi', xrs.at, ER.at_, hm, ixA_nat C, C.at, ml, cm, k13, EX.at_, EX.trap, bt, ba, c13, w1]
      exact ⟨by kernel_rfl, by kernel_rfl, by kernel_rfl, fin⟩
  have bt := gf.other k13
  simp [Tryz.f13, eL, z, e1, e2, e3, e4, e5, qL, q0, qp, qi, qa, wi, wi', ixA_nat hrs, hi', hrs.at, ixA_nat xrs, xi', xrs.at, ER.at_, ER.trap, hm, ixA_nat C, C.at, ml, cm, k9, k10, k13, EX.trap, bt]
  exact ⟨by kernel_rfl, by kernel_rfl, by kernel_rfl, fin⟩
end Go.Proofs.YtjopaifbpeojeaaGreat
