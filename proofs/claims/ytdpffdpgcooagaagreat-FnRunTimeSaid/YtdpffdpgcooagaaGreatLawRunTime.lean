/-
  Proves that the law answers true in the abstract machine, whatever it is handed that is as arguments are; under no other condition.
-/
import Derived.Test.YtdpffdpgcooagaaGreatWalk22
set_option linter.all false
/-
  THE LAW FnRunTime, in the abstract machine: it answers true.
-/
set_option maxRecDepth 8000
namespace Go.Proofs.YtdpffdpgcooagaaGreat
open Go.AM
variable {h : H} {bs ms : List Int} {s s2 : Cell}
set_option maxHeartbeats 4000000 in
set_option maxRecDepth 16000 in
theorem c_law_RunTime (hS : BytesA h s bs) : Dz.den 6 [.c s] h = some (.c (.bool true), h) := by
  refine den_plain rfl Tryz.func6 rfl rfl ?_
  have eL := fun e => hS.sl.lenA (e := e)
  by_cases z : (1048576 : Int) < bs.length
  · simp [Tryz.f6, eL, z]
  obtain ⟨code, evs, sc, tc, k1, k2, k3, c1, cs1, c2, e1, e2, e3, e4, P⟩ := played hS
  have eT := fun e => P.oe.sl.lenA (e := e)
  simp only [encW] at e2 e3 e4
  by_cases a : PlayRun1 code evs
  rotate_left
  · have a' : tt (PlayRun1 code evs) = false := by simpa using a
    rw [a'] at e2 e3
    simp [Tryz.f6, eL, z, e1, e2, e3, e4]
    exact P.ext.2
  have Q := plays a
  have a' : tt (PlayRun1 code evs) = true := by simpa using a
  rw [a'] at e2 e3
  have v := P.v
  have hR := v.rd
  have hrs := hR.runs.sl
  have hlen := hR.runs.len
  generalize playRunP code evs = w at *
  have G := Q.good
  have I := G.inv
  simp [Tryz.f6, eL, z, e1, e2, e3, e4, eT]
  refine count_wp evs.length (fun i => ([.c (.bool false), .c tc, .c (ci (ticksTo evs i)), .c (ci i)], [encW c1], [], k3)) (fun _ => True) (by simp [ticksTo]) trivial ?_ ?_
  · intro i hi _
    have hE := P.oe.sl
    have few := Q.few
    have tl := ticksTo_le evs i
    have wj : IntKind.i64.wrap ((i : Int) + 1) = (i : Int) + 1 := wrapS (by omega) (by omega)
    have wt : IntKind.i64.wrap ((ticksTo evs i : Int) + 1) = (ticksTo evs i : Int) + 1 := wrapS (by omega) (by omega)
    have eg : evs[i]?.getD default = evs[i] := by simp [hi]
    rw [Wp_body]
    by_cases q : evs[i].kind = 2
    · have tk : ticksTo evs (i + 1) = ticksTo evs i + 1 := by rw [ticksTo, eg, if_pos q]
      simp [hE.lenA, hi, ixA_nat hE, hE.at, q, wj, wt, tk]
    · have tk : ticksTo evs (i + 1) = ticksTo evs i := by rw [ticksTo, eg, if_neg q]; rfl
      simp [hE.lenA, hi, ixA_nat hE, hE.at, q, wj, wt, tk]
  · intro _
    have nw : w.now = ticksTo evs evs.length := by rw [Q.eq]; exact playTo_now Q.safe evs _ (by have := Q.few; omega)
    rw [Wp_body]
    simp [eT]
    refine count_wp cs1.length (fun i => ([.c (.bool false), .c (ci (ticksTo evs evs.length)), .c (ci i)], [encW c1], [], k3)) (fun _ => True) (by simp) trivial ?_ ?_
    · intro i hi _
      have hi' : i < w.runs.length := by omega
      have hr := hR.runs.each i hi'
      have R := I.each i _ (List.getElem?_eq_getElem hi')
      have wj : IntKind.i64.wrap ((i : Int) + 1) = (i : Int) + 1 := wrapS (by have := I.many; omega) (by have := I.many; omega)
      rw [Wp_body]
      by_cases q : w.runs[i].state = 2
      · have due := (R.wait q).1
        by_cases d0 : w.runs[i].due = 0
        · simp [hrs.lenA, hi, ixA_nat hrs, hrs.at, hr.state, hr.due, hR.now, q, d0, wj]
          unfold LexOk; kernel_rfl
        · have d1 : ¬ w.runs[i].due ≤ w.now := by
            rcases due with hh | hh
            · exact absurd hh.2 d0
            · omega
          simp [hrs.lenA, hi, ixA_nat hrs, hrs.at, hr.state, hr.due, hR.now, q, d0, d1, wj]
          unfold LexOk; kernel_rfl
      · simp [hrs.lenA, hi, ixA_nat hrs, hrs.at, hr.state, hr.due, hR.now, q, wj]
        unfold LexOk; kernel_rfl
    · intro _
      rw [Wp_body]
      simp [hrs.lenA, hR.now, nw]
      exact P.ext.2
end Go.Proofs.YtdpffdpgcooagaaGreat
