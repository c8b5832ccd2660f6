/-
  Proves that the law answers true in the abstract machine, whatever it is handed that is as arguments are; under no other condition.
-/
import Derived.Test.YtdpffdpgcooagaaGreatWalk22
set_option linter.all false
/-
  THE LAW FnRunMany, in the abstract machine: it answers true.
-/
set_option maxRecDepth 8000
namespace Go.Proofs.YtdpffdpgcooagaaGreat
open Go.AM
variable {h : H} {bs ms : List Int} {s s2 : Cell}
set_option maxHeartbeats 4000000 in
set_option maxRecDepth 16000 in
theorem c_law_RunMany (hS : BytesA h s bs) : Dz.den 11 [.c s] h = some (.c (.bool true), h) := by
  refine den_plain rfl Tryz.func11 rfl rfl ?_
  have eL := fun e => hS.sl.lenA (e := e)
  by_cases z : (1048576 : Int) < bs.length
  · simp [Tryz.f11, eL, z]
  obtain ⟨code, evs, sc, tc, k1, k2, k3, c1, cs1, c2, e1, e2, e3, e4, P⟩ := played hS
  have eT := fun e => P.oe.sl.lenA (e := e)
  simp only [encW] at e2 e3 e4
  by_cases a : PlayRun1 code evs
  rotate_left
  · have a' : tt (PlayRun1 code evs) = false := by simpa using a
    rw [a'] at e2 e3
    simp [Tryz.f11, eL, z, e1, e2, e3, e4]
    exact P.ext.2
  have Q := plays a
  have a' : tt (PlayRun1 code evs) = true := by simpa using a
  rw [a'] at e2 e3
  have v := P.v
  have hR := v.rd
  have hrs := hR.runs.sl
  have hlen := hR.runs.len
  generalize playRunP code evs = w at *
  have G := Q.good
  have I := G.inv
  obtain ⟨_, e5, k4, s5, rfl, x5, o5⟩ := c_IWorldAlive hR G (by have := Q.sent; omega)
  simp only [encW] at e5
  have h6 := I.many
  simp [Tryz.f11, eL, z, e1, e2, e3, e4]
  refine count_wp cs1.length (fun i => ([.c (.bool false), .c (ci (aliveN (w.runs.take i))), .c (ci i)], [encW c1], [], k3)) (fun _ => True) (by simp [aliveN]) trivial ?_ ?_
  · intro i hi _
    have hi' : i < w.runs.length := by omega
    have hr := hR.runs.each i hi'
    have R := I.each i _ (List.getElem?_eq_getElem hi')
    have id : w.runs[i].id = i + 1 := R.id
    have al := aliveN_le (w.runs.take i)
    have al2 : (w.runs.take i).length ≤ i := by simp; omega
    have wj : IntKind.i64.wrap ((i : Int) + 1) = (i : Int) + 1 := wrapS (by omega) (by omega)
    have wa : IntKind.i64.wrap ((aliveN (w.runs.take i) : Int) + 1) = (aliveN (w.runs.take i) : Int) + 1 := wrapS (by omega) (by omega)
    have tk : aliveN (w.runs.take (i + 1)) = aliveN (w.runs.take i) + if w.runs[i].state = 3 then 0 else 1 := by
      rw [List.take_succ_eq_append_getElem hi', aliveN_app]
      by_cases q : w.runs[i].state = 3 <;> simp [aliveN, q]
    rw [Wp_body]
    by_cases q : w.runs[i].state = 3
    · rw [if_pos q] at tk
      simp [hrs.lenA, hi, ixA_nat hrs, hrs.at, hr.id, hr.state, id, q, wj, wa, tk]
    · rw [if_neg q] at tk
      simp [hrs.lenA, hi, ixA_nat hrs, hrs.at, hr.id, hr.state, id, q, wj, wa, tk]
  · intro _
    rw [List.take_of_length_le (by omega)]
    have al := aliveIds_len w.runs
    have ql := queue_alive I
    rw [Wp_body]
    simp [hrs.lenA, e5, o5.sl.lenA, hR.queue.lenA, al]
    exact ⟨fun _ => ⟨ql, (P.ext.trans x5).2⟩, by omega⟩
end Go.Proofs.YtdpffdpgcooagaaGreat
