/-
  Proves that the law answers true in the abstract machine, whatever it is handed that is as arguments are; under no other condition.
-/
import Derived.Test.YtjopaifbpeojeaaGreatWalk23
set_option linter.all false
/-
  THE LAW FnTickTwice, in the abstract machine: it answers true.
-/
set_option maxRecDepth 8000
namespace Go.Proofs.YtjopaifbpeojeaaGreat
open Go.AM
variable {h : H} {bs : List Int} {s : Cell}
set_option maxHeartbeats 4000000 in
set_option maxRecDepth 16000 in
theorem c_law_TickTwice (hS : BytesA h s bs) : Dz.den 4 [.c s] h = some (.c (.bool true), h) := by
  refine den_plain rfl Tryz.func4 rfl rfl ?_
  have eL := fun e => hS.sl.lenA (e := e)
  by_cases z : (1048576 : Int) < bs.length
  · simp [Tryz.f4, eL, z]
  obtain ⟨w, c, cs, k1, k2, k3, k4, c1, cs1, c2, c3, e1, e2, e3, e4, e5, e6, e7, P⟩ := ticking hS
  have v := P.v
  have hR := v.rd
  have hrs := hR.runs.sl
  have hlen := hR.runs.len
  have seen := P.seen
  simp only [encW] at e1 e2 e3 e4 e5 e6 e7
  by_cases a : WorldOk w
  rotate_left
  · have a' : tt (WorldOk w) = false := by simpa using a
    rw [a'] at e5
    simp [Tryz.f4, eL, z, e1, e2, e3, e4, e5, e6, e7]
    exact ⟨by kernel_rfl, by kernel_rfl, (P.ext.trans P.ext4).2⟩
  have a' : tt (WorldOk w) = true := by simpa using a
  rw [a'] at e5
  have G := ((ok_iff w).1 a).1
  have I := G.inv
  have room := seen.room a
  have nw : ¬ (240 : Int) < w.now := by have := seen.now; omega
  have nc : ¬ (240 : Int) < c.now := by rw [hR.now]; exact nw
  have hx := tick_ok room
  have sp := tick_spec (w := w) (by omega)
  have X := P.x
  have Gx := G.tickG.1
  rw [hx] at X
  rw [sp] at X Gx
  have HX := X.rd
  have xrs := HX.runs.sl
  have xlen := HX.runs.len
  have many := I.many
  have now := I.now
  simp only [List.length_map] at xlen
  have wn : IntKind.i64.wrap (c.now + 1) = w.now + 1 := by rw [hR.now]; exact wrapS (by omega) (by omega)
  have room2 : Room { w with now := w.now + 1, runs := w.runs.map (tickR (w.now + 1)), queue := w.queue ++ dueTo w.runs (w.now + 1) w.runs.length } := ⟨Gx.ok (by have := seen.sent; simp only; omega), by have := seen.sent; simp only; omega⟩
  obtain ⟨_, e8, k5, c4, cs4, rfl, x5, v4⟩ := c_ITurnTick X
  rw [tick_ok room2, tick_spec (by simp only; omega)] at v4
  have R4 := v4.rd
  have S4 := R4.runs.sl
  have l4 := R4.runs.len
  simp only [List.length_map] at l4
  have hrs5 := hrs.ext x5
  have n4 : c4.now = c.now + 2 := by rw [R4.now, hR.now]; simp only; omega
  have wn2 : IntKind.i64.wrap (c.now + 2) = c.now + 2 := by rw [hR.now]; exact wrapS (by omega) (by omega)
  have s4 : c4.sent = c.sent := by rw [R4.sent, hR.sent]
  have t4 : c4.taken = c.taken := by rw [R4.taken, hR.taken]
  have u4 : c4.lost = c.lost := by rw [R4.lost, hR.lost]
  simp only [encW] at e8
  rw [n4, s4, t4, u4] at e8
  simp [Tryz.f4, eL, z, e1, e2, e3, e4, e5, nc, e8]
  refine ⟨by kernel_rfl, ?_⟩
  refine count_wp cs.length (fun i => ([.c (.bool false), .c (ci i)], [encW c, encW c4], [], k5)) (fun _ => True) (by simp [n4, s4, t4, u4]) trivial ?_ ?_
  · intro i hi _
    have hi' : i < w.runs.length := by omega
    have xi' : i < cs4.length := by omega
    have E := (hR.runs.ext x5).each i hi'
    have EX := R4.runs.each i (by simpa using hi')
    have wj : IntKind.i64.wrap ((i : Int) + 1) = (i : Int) + 1 := wrapS (by omega) (by omega)
    rw [Wp_body]
    by_cases y : w.runs[i].state = 2
    · simp [hrs5.lenA, hi, ixA_nat hrs5, hrs5.at, E.state, y, wj]
      unfold LexOk; kernel_rfl
    · have br : tickR (w.now + 1 + 1) (tickR (w.now + 1) w.runs[i]) = w.runs[i] := by
        have : ∀ t, tickR t w.runs[i] = w.runs[i] := fun t => by unfold tickR; rw [if_neg (fun hh => y hh.1)]
        rw [this, this]
      have bx : ((w.runs.map (tickR (w.now + 1))).map (tickR (w.now + 1 + 1)))[i]'(by simpa using hi') = w.runs[i] := by simp [br]
      rw [bx] at EX
      have e10 := c_lvRun EX E
      rw [decide_eq_true rfl] at e10
      simp only [encR] at e10
      rw [E.state] at e10
      simp [hrs5.lenA, hi, ixA_nat hrs5, hrs5.at, S4.lenA, xi', ixA_nat S4, S4.at, E.state, y, wj, e10]
      unfold LexOk; kernel_rfl
  · intro _
    rw [Wp_body]
    simp [hrs5.lenA, n4, s4, t4, u4, wn2]
    exact (P.ext.trans x5).2
end Go.Proofs.YtjopaifbpeojeaaGreat
