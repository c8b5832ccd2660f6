/-
  Proves that the law answers true in the abstract machine, whatever it is handed that is as arguments are; under no other condition.
-/
import Derived.Test.YtdpffdpgcooagaaGreatWalk22
set_option linter.all false
/-
  THE LAW FnRunSum, in the abstract machine: it answers true.
-/
set_option maxRecDepth 8000
namespace Go.Proofs.YtdpffdpgcooagaaGreat
open Go.AM
variable {h : H} {bs ms : List Int} {s s2 : Cell}
set_option maxHeartbeats 4000000 in
set_option maxRecDepth 16000 in
theorem c_law_RunSum (hS : BytesA h s bs) : Dz.den 12 [.c s] h = some (.c (.bool true), h) := by
  refine den_plain rfl Tryz.func12 rfl rfl ?_
  have eL := fun e => hS.sl.lenA (e := e)
  by_cases z : (1048576 : Int) < bs.length
  · simp [Tryz.f12, eL, z]
  obtain ⟨code, evs, sc, tc, k1, k2, k3, c1, cs1, c2, e1, e2, e3, e4, P⟩ := played hS
  have eT := fun e => P.oe.sl.lenA (e := e)
  simp only [encW] at e2 e3 e4
  by_cases a : PlayRun1 code evs
  rotate_left
  · have a' : tt (PlayRun1 code evs) = false := by simpa using a
    rw [a'] at e2 e3
    simp [Tryz.f12, eL, z, e1, e2, e3, e4]
    exact P.ext.2
  have Q := plays a
  have a' : tt (PlayRun1 code evs) = true := by simpa using a
  rw [a'] at e2 e3
  have v := P.v
  have hR := v.rd
  have hrs := hR.runs.sl
  have hlen := hR.runs.len
  generalize playRunP code evs = w at *
  have G := Q.good
  have I := G.inv
  have t1 := hR.taken
  have t2 := hR.lost
  have t3 := hR.sent
  have e5 := c_IWorldWaits hR G (by have := Q.sent; omega)
  have nn := I.nn
  have sm := I.sum
  have mn := mailSum_nn w.runs
  have st := Q.sent
  have e6 := c_lvSum hR (by omega) (by omega) (by omega)
  rw [decide_eq_true sm] at e6
  simp only [encW] at e5 e6
  rw [← t1, ← t2, ← t3] at sm
  rw [← t1] at nn; rw [← t2] at nn; rw [← t3] at st nn
  have w1 : IntKind.i64.wrap (c1.taken + c1.lost) = c1.taken + c1.lost := wrapS (by omega) (by omega)
  have w2 : IntKind.i64.wrap (c1.sent - c1.taken) = c1.sent - c1.taken := wrapS (by omega) (by omega)
  have w3 : IntKind.i64.wrap (c1.sent - c1.taken - c1.lost) = c1.sent - c1.taken - c1.lost := wrapS (by omega) (by omega)
  have m1 : c1.taken + c1.lost ≤ c1.sent := by omega
  have m2 : mailSum w.runs = c1.sent - c1.taken - c1.lost := by omega
  simp [Tryz.f12, eL, z, e1, e2, e3, e4, e5, e6, w1, w2, w3, m1, m2]
  exact ⟨by unfold LexOk; kernel_rfl, P.ext.2⟩
end Go.Proofs.YtdpffdpgcooagaaGreat
