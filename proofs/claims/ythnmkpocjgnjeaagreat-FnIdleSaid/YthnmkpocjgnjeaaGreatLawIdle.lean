/-
  Proves that the law answers true in the abstract machine, whatever it is handed that is as arguments are; under no other condition.
-/
import Derived.Test.YthnmkpocjgnjeaaGreatWalkB23
import Derived.Test.YthnmkpocjgnjeaaGreatWalkB25
set_option linter.all false
/-
 THE LAW FnIdle, in the abstract machine: it answers true.
-/
set_option maxRecDepth 8000
namespace Go.Proofs.YthnmkpocjgnjeaaGreat
open Go.AM
variable {h : H} {bs : List Int} {s : Cell}
set_option maxHeartbeats 4000000 in
set_option maxRecDepth 16000 in
theorem c_law_Idle (hS : BytesA h s bs) : Dz.den 12 [.c s] h = some (.c (.bool true), h) := by
 refine den_plain rfl Tryz.func12 rfl rfl ?_
 have eL := fun e => hS.sl.lenA (e := e)
 by_cases z : (1048576 : Int) < bs.length
 ·simp [Tryz.f12, eL, z]
 obtain ⟨_, e1, k1, w, c, cs, rfl, x1, v⟩ := c_DrawWorldIdle hS
 have hR := v.rd
 have e2 := c_IWorldIdle hR
 have e3 := c_WorldIdle hR
 have e4 := c_WorldOk hR
 have hrs := hR.runs.sl
 have hlen := hR.runs.len
 have qL := hR.queue.lenA (e := 3)
 simp only [encW] at e1 e2 e3 e4
 by_cases a : WorldOk w
 rotate_left
 ·have a' : tt (WorldOk w) = false := by simpa using a
  rw [a'] at e2 e3 e4
  simp at e2 e3
  simp [Tryz.f12, eL, z, e1, e2, e3, e4]
  exact x1.2
 have a' : tt (WorldOk w) = true := by simpa using a
 rw [a', Bool.true_and] at e2 e3
 rw [a'] at e4
 have many := a.many
 simp [Tryz.f12, eL, z, e1, e2, e3, e4]
 refine count_wp cs.length (fun i => ([.c (.bool false), .c (.bool (IdleB w)), .c (.bool (Timed (w.runs.take i))), .c (ci i)], [encW c], [], k1)) (fun _ => True) (by simp [Timed]) trivial ?_ ?_
 ·intro i hi _
  have hi' : i < w.runs.length := by omega
  have E := hR.runs.each i hi'
  have wj : IntKind.i64.wrap ((i : Int) + 1) = (i : Int) + 1 := wrapS (by omega) (by omega)
  have tk : Timed (w.runs.take (i + 1)) = (Timed (w.runs.take i) || (decide (w.runs[i].state = 2) && decide (0 < w.runs[i].due))) := by
   unfold Timed
   rw [List.take_succ_eq_append_getElem hi', List.any_append]
   simp
  rw [tk]
  rw [Wp_body]
  by_cases tt1 : Timed (w.runs.take i) = true
  ·simp [hrs.lenA, hi, tt1, wj]
  have tt2 : Timed (w.runs.take i) = false := by simpa using tt1
  by_cases s2 : w.runs[i].state = 2
  ·by_cases d0 : 0 < w.runs[i].due
   ·simp [hrs.lenA, hi, ixA_nat hrs, hrs.at, E.state, E.due, tt2, s2, d0, wj]
   ·simp [hrs.lenA, hi, ixA_nat hrs, hrs.at, E.state, E.due, tt2, s2, d0, wj]
  ·simp [hrs.lenA, hi, ixA_nat hrs, hrs.at, E.state, tt2, s2, wj]
 ·intro _
  rw [List.take_of_length_le (by omega)]
  unfold IdleB
  rw [Wp_body]
  by_cases q0 : w.queue = []
  ·rw [q0] at qL
   cases tm : Timed w.runs
   ·simp [hrs.lenA, qL, q0, tm]
    exact x1.2
   ·simp [hrs.lenA, qL, q0, tm]
    exact x1.2
  ·have q1 : ¬ w.queue.length = 0 := fun hh => q0 (List.length_eq_zero_iff.1 hh)
   simp [hrs.lenA, qL, q0, q1]
   exact x1.2
end Go.Proofs.YthnmkpocjgnjeaaGreat
