/-
  Proves that the law answers true in the abstract machine, whatever it is handed that is as arguments are; under no other condition.
-/
import Derived.Test.YtjopaifbpeojeaaGreatWalk23
set_option linter.all false
/-
  THE LAW FnTickAll, in the abstract machine: it answers true.
-/
set_option maxRecDepth 8000
namespace Go.Proofs.YtjopaifbpeojeaaGreat
open Go.AM
variable {h : H} {bs : List Int} {s : Cell}
set_option maxHeartbeats 4000000 in
set_option maxRecDepth 16000 in
theorem c_law_TickAll (hS : BytesA h s bs) : Dz.den 5 [.c s] h = some (.c (.bool true), h) := by
  refine den_plain rfl Tryz.func5 rfl rfl ?_
  have eL := fun e => hS.sl.lenA (e := e)
  by_cases z : (1048576 : Int) < bs.length
  · simp [Tryz.f5, eL, z]
  obtain ⟨w, c, cs, k1, k2, k3, k4, c1, cs1, c2, c3, e1, e2, e3, e4, e5, e6, e7, P⟩ := ticking hS
  have v := P.v
  have hR := v.rd
  have hrs := hR.runs.sl
  have hlen := hR.runs.len
  have seen := P.seen
  simp only [encW] at e1 e2 e3 e4 e5 e6 e7
  by_cases a : WorldOk w
  rotate_left
  · have a' : tt (WorldOk w) = false := by simpa using a
    rw [a'] at e5
    simp [Tryz.f5, eL, z, e1, e2, e3, e4, e5, e6, e7]
    exact ⟨by kernel_rfl, by kernel_rfl, (P.ext.trans P.ext4).2⟩
  have a' : tt (WorldOk w) = true := by simpa using a
  rw [a'] at e5
  have G := ((ok_iff w).1 a).1
  have I := G.inv
  have room := seen.room a
  have nw : ¬ (140 : Int) ≤ w.now := by have := seen.now; omega
  have nc : ¬ (140 : Int) ≤ c.now := by rw [hR.now]; exact nw
  have hx := tick_ok room
  have sp := tick_spec (w := w) (by omega)
  have X := P.x
  have Gx := G.tickG.1
  rw [hx] at X
  rw [sp] at X Gx
  have HX := X.rd
  have xrs := HX.runs.sl
  have xlen := HX.runs.len
  have many := I.many
  have now := I.now
  simp only [List.length_map] at xlen
  have wn : IntKind.i64.wrap (c.now + 1) = w.now + 1 := by rw [hR.now]; exact wrapS (by omega) (by omega)
  simp [Tryz.f5, eL, z, e1, e2, e3, e4, e5, nc]
  refine ⟨by kernel_rfl, ?_⟩
  refine count_wpG (σ := H × WorldC × List RunC) 99 (fun i g => ([.c (.bool false), .c (ci i)], [encW c, encW g.2.1], [], g.1))
    (fun i g => WorldV h.length g.1 (ticksP w i) g.2.1 g.2.2 g.2.2 ∧ Ext k3 g.1) (k3, c, cs) (by simp) ⟨v, Ext.refl _⟩ ?_ ?_
  · rintro i ⟨g, c4, cs4⟩ hi ⟨v4, x⟩
    simp only at v4 x ⊢
    have hi' : (i : Int) < 99 := by omega
    have Td := ticked G i (by have := seen.now; omega)
    have room4 : Room (ticksP w i) := ⟨Td.good.ok (by have := seen.sent; rw [Td.sent]; omega), by have := seen.sent; rw [Td.sent]; omega⟩
    obtain ⟨_, e8, k5, c5, cs5, rfl, x5, v5⟩ := c_ITurnTick v4
    rw [tick_ok room4] at v5
    have wj : IntKind.i64.wrap ((i : Int) + 1) = (i : Int) + 1 := wrapS (by omega) (by omega)
    simp only [encW] at e8
    rw [Wp_body]
    simp [hi', e8, wj]
    exact ⟨k5, c5, ⟨⟨rfl, rfl, rfl, rfl, rfl, rfl, rfl⟩, rfl⟩, ⟨cs5, v5.low (by have := v4.lo_le; omega)⟩, x.trans x5⟩
  · rintro ⟨g, c4, cs4⟩ ⟨v4, x⟩
    simp only at v4 x ⊢
    have Td := ticked G 99 (by have := seen.now; omega)
    have R4 := v4.rd
    have hrg := hrs.ext x
    have OG := c_IWorldOk R4
    rw [tt_fits (Td.good.ok (by have := seen.sent; rw [Td.sent]; omega))] at OG
    have qc : ¬ ((ticksP w 99).queue.length < w.queue.length) := by have := Td.queue; omega
    have qc' : w.queue.length ≤ (ticksP w 99).queue.length := Td.queue
    simp only [encW] at OG
    rw [Wp_body]
    simp
    refine count_wp cs.length (fun i => ([.c (.bool false), .c (ci i)], [encW c, encW c4], [], g)) (fun _ => True) (by simp) trivial ?_ ?_
    · intro i hi _
      have hi' : i < w.runs.length := by omega
      have E := (hR.runs.ext x).each i hi'
      have wj : IntKind.i64.wrap ((i : Int) + 1) = (i : Int) + 1 := wrapS (by omega) (by omega)
      rw [Wp_body]
      by_cases y : w.runs[i].state = 2
      · by_cases d : 0 < w.runs[i].due
        · obtain ⟨r', h1, g1, _⟩ := Td.run i w.runs[i] (List.getElem?_eq_getElem hi') y d
          have du := seen.due w.runs[i] (List.getElem_mem hi')
          have st := g1 (by omega)
          have e10 := c_lvState R4 ((i : Int) + 1)
          have ra : runAt (ticksP w 99) ((i : Int) + 1) = r' := runAt_some (by rw [show ((i : Int) + 1 - 1).toNat = i by omega]; exact h1)
          rw [if_pos (by rw [Td.len]; omega), ra, st] at e10
          simp only [encW] at e10
          simp [hrg.lenA, hi, ixA_nat hrg, hrg.at, E.state, E.due, y, d, wj, e10]
        · simp [hrg.lenA, hi, ixA_nat hrg, hrg.at, E.state, E.due, y, d, wj]
      · simp [hrg.lenA, hi, ixA_nat hrg, hrg.at, E.state, y, wj]
    · intro _
      rw [Wp_body]
      simp [hrg.lenA, OG, R4.queue.lenA, (hR.queue.ext x).lenA, qc, qc']
      exact (P.ext.trans x).2
end Go.Proofs.YtjopaifbpeojeaaGreat
