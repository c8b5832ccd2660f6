/-
  Proves that the law answers true in the abstract machine, whatever it is handed that is as arguments are; under no other condition.
-/
import Derived.Test.YtjopaifbpeojeaaGreatWalk23
import Derived.Test.YtjopaifbpeojeaaGreatWalk24
set_option linter.all false
/-
  THE LAW FnTurnNone, in the abstract machine: it answers true.
-/
set_option maxRecDepth 8000
namespace Go.Proofs.YtjopaifbpeojeaaGreat
open Go.AM
variable {h : H} {bs : List Int} {s : Cell}
set_option maxHeartbeats 4000000 in
set_option maxRecDepth 16000 in
theorem c_law_TurnNone (hS : BytesA h s bs) : Dz.den 7 [.c s] h = some (.c (.bool true), h) := by
  refine den_plain rfl Tryz.func7 rfl rfl ?_
  have eL := fun e => hS.sl.lenA (e := e)
  by_cases z : (1048576 : Int) < bs.length
  · simp [Tryz.f7, eL, z]
  obtain ⟨w, c, cs, k1, k2, k3, k4, c1, cs1, c2, c3, e1, e2, e3, e4, e5, e6, e7, P⟩ := turned hS
  have v := P.v
  have hR := v.rd
  have hrs := hR.runs.sl
  have hlen := hR.runs.len
  have seen := P.seen
  simp only [encW] at e1 e2 e3 e4 e5 e6 e7
  by_cases a : WorldOk w
  rotate_left
  · have a' : tt (WorldOk w) = false := by simpa using a
    rw [a'] at e5
    simp [Tryz.f7, eL, z, e1, e2, e3, e4, e5, e6, e7]
    exact ⟨by kernel_rfl, by kernel_rfl, (P.ext.trans P.ext4).2⟩
  have a' : tt (WorldOk w) = true := by simpa using a
  rw [a'] at e5
  have G := ((ok_iff w).1 a).1
  have I := G.inv
  have room := seen.room a
  have hx := do_ok room
  have X := P.x
  rw [hx] at X
  have qL := hR.queue.lenA (e := 3)
  have fin := P.ext.2
  by_cases q0 : w.queue = []
  · have et : turnP w = w := by unfold turnP; rw [if_pos q0]
    rw [et] at X
    have e8 := c_lvWorld X.rd hR
    rw [decide_eq_true rfl] at e8
    obtain ⟨_, e9, k5, c5, cs5, rfl, x5, v5⟩ := c_ITurnStep v
    rw [step_ok room, if_pos q0] at v5
    have e10 := c_lvWorld v5.rd (v.ext x5).rd
    rw [decide_eq_true rfl] at e10
    rw [q0] at qL
    simp only [encW] at e8 e9 e10
    simp [Tryz.f7, eL, z, e1, e2, e3, e4, e5, qL, e8, e9, e10]
    exact ⟨by kernel_rfl, by kernel_rfl, (P.ext.trans x5).2⟩
  · have ne : turnP w ≠ w := fun e => by
      have := turnP_turns G q0 (by have := seen.turns; omega)
      rw [e] at this; omega
    have e8 := c_lvWorld X.rd hR
    rw [decide_eq_false ne] at e8
    have qpos : 0 < w.queue.length := List.length_pos_iff.2 q0
    simp only [encW] at e8
    simp [Tryz.f7, eL, z, e1, e2, e3, e4, e5, qL, qpos, e8]
    exact ⟨by kernel_rfl, fin⟩
end Go.Proofs.YtjopaifbpeojeaaGreat
