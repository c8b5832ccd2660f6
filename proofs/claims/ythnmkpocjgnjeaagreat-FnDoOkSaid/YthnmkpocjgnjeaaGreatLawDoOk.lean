/-
  Proves that the law answers true in the abstract machine, whatever it is handed that is as arguments are; under no other condition.
-/
import Derived.Test.YthnmkpocjgnjeaaGreatWalkA23
import Derived.Test.YthnmkpocjgnjeaaGreatWalkA25
set_option linter.all false
/-
 THE LAW FnDoOk, in the abstract machine: it answers true.
-/
set_option maxRecDepth 8000
namespace Go.Proofs.YthnmkpocjgnjeaaGreat
open Go.AM
variable {h : H} {bs : List Int} {s : Cell}
set_option maxHeartbeats 4000000 in
set_option maxRecDepth 16000 in
theorem c_law_DoOk (hS : BytesA h s bs) : Dz.den 8 [.c s] h = some (.c (.bool true), h) := by
 refine den_plain rfl Tryz.func8 rfl rfl ?_
 have eL := fun e => hS.sl.lenA (e := e)
 by_cases z : (1048576 : Int) < bs.length
 ·simp [Tryz.f8, eL, z]
 obtain ⟨w, c, cs, ev, k1, k2, k3, k4, c1, cs1, c2, c3, e1, e2, e3, e4, e5, e6, e7, P⟩ := doing hS
 have v := P.v
 have hR := v.rd
 have hrs := hR.runs.sl
 have hlen := hR.runs.len
 have seen := P.seen
 simp only [encW, encE] at e1 e2 e3 e4 e5 e6 e7
 by_cases a : WorldOk w
 rotate_left
 ·have a' : tt (WorldOk w) = false := by simpa using a
  rw [a'] at e5
  simp [Tryz.f8, eL, z, e1, e2, e3, e4, e5, e6, e7]
  exact ⟨by kernel_rfl, by kernel_rfl, (P.ext.trans P.ext4).2⟩
 have a' : tt (WorldOk w) = true := by simpa using a
 rw [a'] at e5
 have G := ((ok_iff w).1 a).1
 have I := G.inv
 have room := seen.room a
 have fin := P.ext.2
 have hx := playDo_ok room ev
 have X := P.x
 rw [hx] at X
 have ss := seen.sent
 obtain ⟨G5, p5, _, l5⟩ := G.doG ev
 have ps := phi_sent I
 have sp := sent_phi (doP w ev)
 have HX := X.rd
 have xrs := HX.runs.sl
 have xlen := HX.runs.len
 have gr := doP_gr w ev
 have e8 := c_lvPlay HX G5 (by omega)
 have same := fun {k : Nat} {r : PRun} (hr : w.runs[k]? = some r) (h3 : r.state = 3) => ended_same G ev hr h3
 have g1 : c.sent ≤ c1.sent := by rw [hR.sent, HX.sent]; exact gr.sent
 have g2 : c.taken ≤ c1.taken := by rw [hR.taken, HX.taken]; exact gr.taken
 have g3 : c.lost ≤ c1.lost := by rw [hR.lost, HX.lost]; exact gr.lost
 have many := I.many
 have lx : w.runs.length ≤ (doP w ev).runs.length := l5
 simp only [encW] at e8
 simp [Tryz.f8, eL, z, e1, e2, e3, e4, e5]
 refine ⟨by kernel_rfl, ?_⟩
 refine count_wp cs.length (fun i => ([.c (.bool false), .c (ci i)], [encW c, encW c1], [], k3)) (fun _ => True) (by simp) trivial ?_ ?_
 ·intro i hi _
  have hi' : i < w.runs.length := by omega
  have xi : i < (doP w ev).runs.length := by omega
  have xi' : i < cs1.length := by omega
  have E := hR.runs.each i hi'
  have EX := HX.runs.each i xi
  have wj : IntKind.i64.wrap ((i : Int) + 1) = (i : Int) + 1 := wrapS (by omega) (by omega)
  rw [Wp_body]
  by_cases d3 : w.runs[i].state = 3
  ·have es := same (List.getElem?_eq_getElem hi') d3
   have ex : (doP w ev).runs[i] = w.runs[i] := by rw [List.getElem?_eq_getElem xi] at es; simpa using es
   rw [ex] at EX
   have e9 := c_lvRun EX E
   rw [decide_eq_true rfl] at e9
   simp only [encR] at e9
   rw [E.state, d3] at e9
   simp [hrs.lenA, hi, ixA_nat hrs, hrs.at, xrs.lenA, xi', ixA_nat xrs, xrs.at, E.state, d3, e9, wj]
   unfold LexOk; kernel_rfl
  ·simp [hrs.lenA, hi, ixA_nat hrs, hrs.at, E.state, d3, wj]
   unfold LexOk; kernel_rfl
 ·intro _
  rw [Wp_body]
  simp [hrs.lenA, xrs.lenA, xlen, hlen, e8, g1, g2, g3, lx]
  exact fin
end Go.Proofs.YthnmkpocjgnjeaaGreat
