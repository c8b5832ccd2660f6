/-
  Proves that the law answers true in the abstract machine, whatever it is handed that is as arguments are; under no other condition.
-/
import Derived.Test.YtjopaifbpeojeaaGreatWalk23
import Derived.Test.YtjopaifbpeojeaaGreatWalk24
set_option linter.all false
/-
  THE LAW FnStepOk, in the abstract machine: it answers true.
-/
set_option maxRecDepth 8000
namespace Go.Proofs.YtjopaifbpeojeaaGreat
open Go.AM
variable {h : H} {bs : List Int} {s : Cell}
set_option maxHeartbeats 4000000 in
set_option maxRecDepth 16000 in
theorem c_law_StepOk (hS : BytesA h s bs) : Dz.den 9 [.c s] h = some (.c (.bool true), h) := by
  refine den_plain rfl Tryz.func9 rfl rfl ?_
  have eL := fun e => hS.sl.lenA (e := e)
  by_cases z : (1048576 : Int) < bs.length
  · simp [Tryz.f9, eL, z]
  obtain ⟨w, c, cs, k1, k2, k3, k4, c1, cs1, c2, c3, e1, e2, e3, e4, e5, e6, e7, P⟩ := stepped hS
  have v := P.v
  have hR := v.rd
  have hrs := hR.runs.sl
  have hlen := hR.runs.len
  have seen := P.seen
  simp only [encW] at e1 e2 e3 e4 e5 e6 e7
  by_cases a : WorldOk w
  rotate_left
  · have a' : tt (WorldOk w) = false := by simpa using a
    rw [a'] at e5
    simp [Tryz.f9, eL, z, e1, e2, e3, e4, e5, e6, e7]
    exact ⟨by kernel_rfl, by kernel_rfl, (P.ext.trans P.ext4).2⟩
  have a' : tt (WorldOk w) = true := by simpa using a
  rw [a'] at e5
  have G := ((ok_iff w).1 a).1
  have I := G.inv
  have room := seen.room a
  have hx := step_ok room
  by_cases q0 : w.queue = []
  · have qL := hR.queue.lenA (e := 3)
    rw [q0] at qL
    rw [if_pos q0] at hx
    have X := P.x
    rw [hx] at X
    have e8 := c_lvWorld X.rd hR
    rw [decide_eq_true rfl] at e8
    simp only [encW] at e8
    simp [Tryz.f9, eL, z, e1, e2, e3, e4, e5, e8, qL]
    exact ⟨by kernel_rfl, P.ext.2⟩
  rw [if_neg q0] at hx
  obtain ⟨hid, h1⟩ := I.head q0
  obtain ⟨i, T⟩ := I.turn hid h1
  have X := P.x
  rw [hx] at X
  have HX := X.rd
  have xrs := HX.runs.sl
  have xlen := HX.runs.len
  have K := G.stepG hid h1
  obtain ⟨b, hb, S⟩ := T.step_own
  have OT := S.t T.run.ok T.ok
  have many := I.many
  have qpos : 0 < w.queue.length := List.length_pos_iff.2 q0
  have qL := hR.queue.lenA (e := 3)
  obtain ⟨qi, qa, _⟩ := queue_hd q0 hR.queue
  have e0 := T.e0
  have hi := T.hi
  have hi' : i < cs.length := by omega
  have xi : i < (stepP w (headQ w)).runs.length := by have := K.k.len; omega
  have xi' : i < cs1.length := by omega
  have wi : IntKind.i64.wrap ((i : Int) + 1 - 1) = (i : Int) := by rw [wrapS (by omega) (by omega)]; omega
  have wi' : IntKind.i64.wrap (i : Int) = (i : Int) := wrapS (by omega) (by omega)
  rw [e0] at qa
  have ER := hR.runs.each i hi
  have er : w.runs[i] = runAt w (headQ w) := by have := T.get; rw [List.getElem?_eq_getElem hi] at this; simpa using this
  rw [er] at ER
  have EX := HX.runs.each i xi
  have eb : (stepP w (headQ w)).runs[i] = b := by rw [List.getElem?_eq_getElem xi] at hb; simpa using hb
  rw [eb] at EX
  obtain ⟨m, hm⟩ := Int.eq_ofNat_of_zero_le T.run.ok.at_.1
  obtain ⟨ml, mg⟩ := T.opg
  rw [hm, Int.toNat_natCast] at ml mg
  have hop := T.op
  have C := hR.code
  have ps := phi_sent I
  have xs := sent_phi (stepP w (headQ w))
  have kp := K.k.phi
  have ss := seen.sent
  have OX := c_IWorldOk HX
  rw [tt_fits (K.g.ok (by omega))] at OX
  have nn := K.g.inv.nn
  have sm := K.g.inv.sum
  have mn := mailSum_nn (stepP w (headQ w)).runs
  have e8 := c_lvSum HX (by omega) (by omega) (by omega)
  rw [decide_eq_true sm] at e8
  have e9 := c_lvOps HX.code hR.code
  rw [K.k.code, decide_eq_true rfl] at e9
  have xn : c1.now = c.now := by rw [HX.now, hR.now, K.k.now]
  have qp : ¬ w.queue.length = 0 := by omega
  simp only [encW] at OX e8
  rw [xn] at OX e8 e2 e4
  simp [Tryz.f9, eL, z, e1, e2, e3, e4, e5, qL, q0, qp, OX, e8, e9]
  exact ⟨by kernel_rfl, P.ext.2⟩
end Go.Proofs.YtjopaifbpeojeaaGreat
