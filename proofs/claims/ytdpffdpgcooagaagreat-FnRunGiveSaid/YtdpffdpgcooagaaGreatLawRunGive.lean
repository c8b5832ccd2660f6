/-
  Proves that the law answers true in the abstract machine, whatever it is handed that is as arguments are; under no other condition.
-/
import Derived.Test.YtdpffdpgcooagaaGreatWalk22
set_option linter.all false
/-
  THE LAW FnRunGive, in the abstract machine: it answers true.
-/
set_option maxRecDepth 8000
namespace Go.Proofs.YtdpffdpgcooagaaGreat
open Go.AM
variable {h : H} {bs ms : List Int} {s s2 : Cell}
set_option maxHeartbeats 4000000 in
set_option maxRecDepth 16000 in
theorem c_law_RunGive (hS : BytesA h s bs) (hT : BytesA h s2 ms) : Dz.den 8 [.c s, .c s2] h = some (.c (.bool true), h) := by
  refine den_plain rfl Tryz.func8 rfl rfl ?_
  have eL := fun e => hS.sl.lenA (e := e)
  have eM := fun e => hT.sl.lenA (e := e)
  by_cases z : (1048576 : Int) < bs.length
  · simp [Tryz.f8, eL, z]
  by_cases y : (1048576 : Int) < ms.length
  · simp [Tryz.f8, eL, z, eM, y]
  obtain ⟨code, evs, sc, tc, k1, k2, k3, c1, cs1, c2, e1, e2, e3, e4, P⟩ := played hS
  have eT := fun e => P.oe.sl.lenA (e := e)
  simp only [encW] at e2 e3 e4
  by_cases a : PlayRun1 code evs
  rotate_left
  · have a' : tt (PlayRun1 code evs) = false := by simpa using a
    rw [a'] at e2 e3
    simp [Tryz.f8, eL, z, eM, y, e1, e2, e3, e4]
    exact P.ext.2
  have Q := plays a
  have a' : tt (PlayRun1 code evs) = true := by simpa using a
  rw [a'] at e2 e3
  have v := P.v
  have hR := v.rd
  have hrs := hR.runs.sl
  have hlen := hR.runs.len
  generalize playRunP code evs = w at *
  have G := Q.good
  have I := G.inv
  have many := I.many
  obtain ⟨id, hid⟩ : ∃ id : Nat, id = 1 + ms.length % w.runs.length := ⟨_, rfl⟩
  have hid2 : 1 ≤ (id : Int) ∧ (id : Int) ≤ w.runs.length := by have := Nat.mod_lt ms.length (show 0 < w.runs.length by omega); omega
  have w2 : (ms.length : Int).tmod (w.runs.length : Int) = (id : Int) - 1 := by
    rw [Int.tmod_eq_emod_of_nonneg (by omega), hid]; omega
  have w3 : ¬ ((w.runs.length : Int) = 0) := by omega
  have w4 : IntKind.i64.wrap (1 + ((id : Int) - 1)) = (id : Int) := by rw [wrapS (by omega) (by omega)]; omega
  have w5 : ¬ (w.runs.length = 0) := by omega
  have R0 : playDoP w ⟨4, id, ⟨2, 0⟩⟩ = doP w ⟨4, id, ⟨2, 0⟩⟩ := by unfold playDoP; rw [if_pos (by simpa using Q.room)]
  obtain ⟨_, e5, k5, c5, cs5, rfl, x5, v5⟩ := c_IPlayDo v ⟨4, id, ⟨2, 0⟩⟩
  rw [R0] at v5
  obtain ⟨G5, ph5, _, len5⟩ := G.doG ⟨4, id, ⟨2, 0⟩⟩
  have st := Q.sent
  have ph := phi_sent I
  have sp5 := sent_phi (doP w ⟨4, id, ⟨2, 0⟩⟩)
  have en5 := kill_ended hid2 (v := ⟨2, 0⟩) rfl
  generalize doP w ⟨4, id, ⟨2, 0⟩⟩ = u at *
  have R1 : playDoP u ⟨3, id, ⟨1, 1⟩⟩ = { u with sent := u.sent + 1, lost := u.lost + 1 } := by
    have rm : Room u := ⟨G5.ok (by omega), by omega⟩
    unfold playDoP
    rw [if_pos (by simpa using rm), give_ended en5 rfl]
  obtain ⟨_, e6, k6, c6, cs6, rfl, x6, v6⟩ := c_IPlayDo v5 ⟨3, id, ⟨1, 1⟩⟩
  rw [R1] at v6
  have H5 := (v5.ext x6).rd
  have H6 := v6.rd
  have H7 : WorldR k6 u { c6 with sent := u.sent, lost := u.lost } cs6 := ⟨H6.code, H6.runs, H6.queue, H6.now, rfl, H6.taken, rfl⟩
  have e7 := c_lvWorld H7 H5
  rw [decide_eq_true rfl] at e7
  have e8 := c_lvState H5 id
  have in5 : 1 ≤ (id : Int) ∧ (id : Int) ≤ u.runs.length := by omega
  rw [if_pos in5, en5] at e8
  have nn := G5.inv.nn
  have sm := G5.inv.sum
  have mn := mailSum_nn u.runs
  have q1 : IntKind.i64.wrap (u.lost + 1) = u.lost + 1 := wrapS (by omega) (by omega)
  have q2 : IntKind.i64.wrap (u.sent + 1) = u.sent + 1 := wrapS (by omega) (by omega)
  have s5 := H5.sent
  have l5 := H5.lost
  have s6 := H6.sent
  have l6 := H6.lost
  simp only at s6 l6
  simp only [encW, encE] at e5 e6 e7 e8
  rw [s5, l5] at e7 e8
  rw [s5, l5] at e6
  rw [s6, l6] at e6
  rw [s5, l5] at e5
  simp [Tryz.f8, eL, z, eM, y, e1, e2, e3, e4, hrs.lenA, hlen, w2, w3, w4, w5, e5, e6, q1, q2, e7, e8]
  exact ((P.ext.trans x5).trans x6).2
end Go.Proofs.YtdpffdpgcooagaaGreat
