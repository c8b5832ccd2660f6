/-
  Proves that the law answers true in the abstract machine, whatever it is handed that is as arguments are; under no other condition.
-/
import Derived.Test.YtdpffdpgcooagaaGreatWalk22
set_option linter.all false
/-
  THE LAW FnRunCode, in the abstract machine: it answers true.
-/
set_option maxRecDepth 8000
namespace Go.Proofs.YtdpffdpgcooagaaGreat
open Go.AM
variable {h : H} {bs : List Int} {s : Cell}
set_option maxHeartbeats 4000000 in
set_option maxRecDepth 16000 in
theorem c_law_RunCode (hS : BytesA h s bs) : Dz.den 3 [.c s] h = some (.c (.bool true), h) := by
  refine den_plain rfl Tryz.func3 rfl rfl ?_
  have eL := fun e => hS.sl.lenA (e := e)
  by_cases z : (1048576 : Int) < bs.length
  · simp [Tryz.f3, eL, z]
  obtain ⟨code, evs, sc, tc, k1, k2, k3, c1, cs1, c2, e1, e2, e3, e4, P⟩ := played hS
  have e5 := c_ICodeSafe P.oc.sl
  have eT := fun e => P.oe.sl.lenA (e := e)
  simp only [encW] at e2 e3 e4
  by_cases a : PlayRun1 code evs
  · have Q := plays a
    have a' : tt (PlayRun1 code evs) = true := by simpa using a
    have s' : tt (CodeSafe code) = true := by simpa using a.1
    have e6 := c_lvOps P.v.rd.code P.oc.sl
    rw [Q.code, decide_eq_true rfl] at e6
    rw [a'] at e2 e3
    rw [s'] at e5
    simp [Tryz.f3, eL, z, e1, e2, e3, e4, e5, e6]
    exact P.ext.2
  · have a' : tt (PlayRun1 code evs) = false := by simpa using a
    rw [a'] at e2 e3
    by_cases b : CodeSafe code
    · have s' : tt (CodeSafe code) = true := by simpa using b
      rw [s'] at e5
      have m : (80 : Int) < evs.length := by
        have : ¬ evs.length ≤ 80 := fun hh => a ⟨b, hh⟩
        omega
      simp [Tryz.f3, eL, z, e1, e2, e3, e4, e5, eT, m]
      exact P.ext.2
    · have s' : tt (CodeSafe code) = false := by simpa using b
      rw [s'] at e5
      simp [Tryz.f3, eL, z, e1, e2, e3, e4, e5]
      exact P.ext.2
end Go.Proofs.YtdpffdpgcooagaaGreat
