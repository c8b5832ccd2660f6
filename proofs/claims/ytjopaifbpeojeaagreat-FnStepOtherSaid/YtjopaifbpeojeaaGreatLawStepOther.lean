/-
  Proves that the law answers true in the abstract machine, whatever it is handed that is as arguments are; under no other condition.
-/
import Derived.Test.YtjopaifbpeojeaaGreatWalk23
import Derived.Test.YtjopaifbpeojeaaGreatWalk24
set_option linter.all false
/-
  THE LAW FnStepOther, in the abstract machine: it answers true.
-/
set_option maxRecDepth 8000
namespace Go.Proofs.YtjopaifbpeojeaaGreat
open Go.AM
variable {h : H} {bs : List Int} {s : Cell}
set_option maxHeartbeats 4000000 in
set_option maxRecDepth 16000 in
theorem c_law_StepOther (hS : BytesA h s bs) : Dz.den 10 [.c s] h = some (.c (.bool true), h) := by
  refine den_plain rfl Tryz.func10 rfl rfl ?_
  have eL := fun e => hS.sl.lenA (e := e)
  by_cases z : (1048576 : Int) < bs.length
  · simp [Tryz.f10, eL, z]
  obtain ⟨w, c, cs, k1, k2, k3, k4, c1, cs1, c2, c3, e1, e2, e3, e4, e5, e6, e7, P⟩ := stepped hS
  have v := P.v
  have hR := v.rd
  have hrs := hR.runs.sl
  have hlen := hR.runs.len
  have seen := P.seen
  simp only [encW] at e1 e2 e3 e4 e5 e6 e7
  by_cases a : WorldOk w
  rotate_left
  · have a' : tt (WorldOk w) = false := by simpa using a
    rw [a'] at e5
    simp [Tryz.f10, eL, z, e1, e2, e3, e4, e5, e6, e7]
    exact ⟨by kernel_rfl, by kernel_rfl, (P.ext.trans P.ext4).2⟩
  have a' : tt (WorldOk w) = true := by simpa using a
  rw [a'] at e5
  have G := ((ok_iff w).1 a).1
  have I := G.inv
  have room := seen.room a
  have hx := step_ok room
  by_cases q0 : w.queue = []
  · have qL := hR.queue.lenA (e := 3)
    rw [q0] at qL
    simp [Tryz.f10, eL, z, e1, e2, e3, e4, e5, e6, e7, qL]
    exact ⟨by kernel_rfl, by kernel_rfl, (P.ext.trans P.ext4).2⟩
  rw [if_neg q0] at hx
  obtain ⟨hid, h1⟩ := I.head q0
  obtain ⟨i, T⟩ := I.turn hid h1
  have X := P.x
  rw [hx] at X
  have HX := X.rd
  have xrs := HX.runs.sl
  have xlen := HX.runs.len
  have K := G.stepG hid h1
  obtain ⟨b, hb, S⟩ := T.step_own
  have OT := S.t T.run.ok T.ok
  have many := I.many
  have qpos : 0 < w.queue.length := List.length_pos_iff.2 q0
  have qL := hR.queue.lenA (e := 3)
  obtain ⟨qi, qa, _⟩ := queue_hd q0 hR.queue
  have e0 := T.e0
  have hi := T.hi
  have hi' : i < cs.length := by omega
  have xi : i < (stepP w (headQ w)).runs.length := by have := K.k.len; omega
  have xi' : i < cs1.length := by omega
  have wi : IntKind.i64.wrap ((i : Int) + 1 - 1) = (i : Int) := by rw [wrapS (by omega) (by omega)]; omega
  have wi' : IntKind.i64.wrap (i : Int) = (i : Int) := wrapS (by omega) (by omega)
  rw [e0] at qa
  have ER := hR.runs.each i hi
  have er : w.runs[i] = runAt w (headQ w) := by have := T.get; rw [List.getElem?_eq_getElem hi] at this; simpa using this
  rw [er] at ER
  have EX := HX.runs.each i xi
  have eb : (stepP w (headQ w)).runs[i] = b := by rw [List.getElem?_eq_getElem xi] at hb; simpa using hb
  rw [eb] at EX
  obtain ⟨m, hm⟩ := Int.eq_ofNat_of_zero_le T.run.ok.at_.1
  obtain ⟨ml, mg⟩ := T.opg
  rw [hm, Int.toNat_natCast] at ml mg
  have hop := T.op
  have C := hR.code
  have qp : ¬ w.queue.length = 0 := by omega
  have fin := P.ext.2
  have x := step_wk w (id := headQ w) (by omega)
  have l2 := x.len2
  have l1 := x.len
  have wl : IntKind.i64.wrap ((w.runs.length : Int) + 1) = (w.runs.length : Int) + 1 := wrapS (by omega) (by omega)
  have le : ((stepP w (headQ w)).runs.length : Int) ≤ w.runs.length + 1 := by omega
  have ci0 : (headQ w - 1).toNat = i := T.ei
  simp [Tryz.f10, eL, z, e1, e2, e3, e4, e5, qL, q0, qp]
  refine ⟨by kernel_rfl, ?_⟩
  refine count_wp cs.length (fun j => ([.c (.bool false), .c (ci j)], [encW c, encW c1], [], k3)) (fun _ => True) (by simp) trivial ?_ ?_
  · intro j hj _
    have hj' : j < w.runs.length := by omega
    have xj : j < (stepP w (headQ w)).runs.length := by omega
    have xj' : j < cs1.length := by omega
    have E := hR.runs.each j hj'
    have EX2 := HX.runs.each j xj
    have wj : IntKind.i64.wrap ((j : Int) + 1) = (j : Int) + 1 := wrapS (by omega) (by omega)
    rw [Wp_body]
    by_cases y : j = i
    · subst y
      simp [hrs.lenA, hj, ixA_nat hrs, hrs.at, xrs.lenA, xj', ixA_nat xrs, xrs.at, qi, qa, wj]
    have y' : ¬ (j : Int) = (i : Int) := by omega
    obtain ⟨r', h1, q⟩ := x.each j _ (by omega) (List.getElem?_eq_getElem hj')
    have er' : (stepP w (headQ w)).runs[j] = r' := by rw [List.getElem?_eq_getElem xj] at h1; simpa using h1
    rw [er'] at EX2
    by_cases d3 : r'.state = 3
    · simp [hrs.lenA, hj, ixA_nat hrs, hrs.at, xrs.lenA, xj', ixA_nat xrs, xrs.at, qi, qa, wj, y', EX2.state, d3]
    have pf := q.mail.resolve_left d3
    have ml2 := pf.length_le
    have e8 := c_lvVals E.slots EX2.slots
    rw [decide_eq_true q.slots.symm] at e8
    have sl := sliceA_to EX2.mail (T := TTz) (t := 32) (k := .i64) (n := w.runs[j].mail.length) rfl rfl ml2
    have e9 := c_lvVals (EX2.mail.cutTo ml2) E.mail
    rw [decide_eq_true (List.prefix_iff_eq_take.1 pf).symm] at e9
    have ml3 : ¬ r'.mail.length < w.runs[j].mail.length := by omega
    have a1 : cs1[j].at_ = cs[j].at_ := by rw [E.at_, EX2.at_]; exact q.at_
    have a2 : cs1[j].full = cs[j].full := by rw [E.full, EX2.full]; exact q.full
    have a3 : cs1[j].trap = cs[j].trap := by rw [E.trap, EX2.trap]; exact q.trap
    simp [hrs.lenA, hj, ixA_nat hrs, hrs.at, xrs.lenA, xj', ixA_nat xrs, xrs.at, qi, qa, wj, y', EX2.state, d3, E.mail.lenA, EX2.mail.lenA, e8, e9, sl, ml3, a1, a2, a3]
    unfold LexOk; kernel_rfl
  · intro _
    rw [Wp_body]
    simp [hrs.lenA, xrs.lenA, xlen, hlen, wl, le]
    exact fin
end Go.Proofs.YtjopaifbpeojeaaGreat
