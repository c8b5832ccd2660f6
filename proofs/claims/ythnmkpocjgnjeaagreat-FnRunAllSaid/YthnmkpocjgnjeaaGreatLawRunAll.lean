/-
  Proves that the law answers true in the abstract machine, whatever it is handed that is as arguments are; under no other condition.
-/
import Derived.Test.YthnmkpocjgnjeaaGreatWalkB23
import Derived.Test.YthnmkpocjgnjeaaGreatWalkB22
import Derived.Test.YthnmkpocjgnjeaaGreatWalkB25
set_option linter.all false
/-
 THE LAW FnRunAll, in the abstract machine: it answers true.
-/
set_option maxRecDepth 8000
namespace Go.Proofs.YthnmkpocjgnjeaaGreat
open Go.AM
variable {h : H} {bs ms : List Int} {s s2 : Cell}
set_option maxHeartbeats 4000000 in
set_option maxRecDepth 16000 in
theorem c_law_RunAll (hS : BytesA h s bs) (hT : BytesA h s2 ms) : Dz.den 11 [.c s, .c s2] h = some (.c (.bool true), h) := by
 refine den_plain rfl Tryz.func11 rfl rfl ?_
 have eL := fun e => hS.sl.lenA (e := e)
 have eM := fun e => hT.sl.lenA (e := e)
 by_cases z : (1048576 : Int) < bs.length
 ·simp [Tryz.f11, eL, z]
 by_cases y : (1048576 : Int) < ms.length
 ·simp [Tryz.f11, eL, z, eM, y]
 obtain ⟨code, evs, sc, tc, k1, k2, k3, c1, cs1, c2, e1, e2, e3, e4, P⟩ := played hS
 have eT := fun e => P.oe.sl.lenA (e := e)
 simp only [encW] at e2 e3 e4
 by_cases a : PlayRun1 code evs
 rotate_left
 ·have a' : tt (PlayRun1 code evs) = false := by simpa using a
  rw [a'] at e2 e3
  simp [Tryz.f11, eL, z, eM, y, e1, e2, e3, e4]
  exact P.ext.2
 have Q := plays a
 have a' : tt (PlayRun1 code evs) = true := by simpa using a
 rw [a'] at e2 e3
 have v := P.v
 have hR := v.rd
 have hrs := hR.runs.sl
 have hlen := hR.runs.len
 generalize playRunP code evs = w at *
 have G := Q.good
 have I := G.inv
 have many := I.many
 obtain ⟨M, hM2⟩ : ∃ M : Nat, M = ms.length % 5 := ⟨_, rfl⟩
 have hM5 : M < 5 := by have := Nat.mod_lt ms.length (show 0 < 5 by omega); omega
 have w2 : (ms.length : Int).tmod 5 = (M : Int) := by
  rw [Int.tmod_eq_emod_of_nonneg (by omega), hM2]; simp
 have hv : valOk ⟨2, (M : Int)⟩ = true := by unfold valOk; simp; omega
 have ps := phi_sent I
 have ss := Q.sent
 simp [Tryz.f11, eL, z, eM, y, e1, e2, e3, e4]
 refine count_wpG (σ := H × WorldC × List RunC) w.runs.length (fun i g => ([.c s2, .c (.bool false), .c (ci ((1 + i : Nat)))], [encW c1, encW g.2.1], [], g.1)) (fun i g => WorldV k1.length g.1 (killsTo w ⟨2, M⟩ i) g.2.1 g.2.2 g.2.2 ∧ Ext k3 g.1) (k3, c1, cs1) (by simp) ⟨v, Ext.refl _⟩ ?_ ?_
 ·rintro i ⟨g, c4, cs4⟩ hi ⟨v4, x⟩
  simp only at v4 x ⊢
  obtain ⟨G4, p4, l4, _⟩ := kills G hv i (by omega)
  have sp := sent_phi (killsTo w ⟨2, M⟩ i)
  have room4 : Room (killsTo w ⟨2, M⟩ i) := ⟨G4.ok (by omega), by omega⟩
  obtain ⟨_, e8, k5, c5, cs5, rfl, x5, v5⟩ := c_IPlayDo v4 ⟨4, (i : Int) + 1, ⟨2, M⟩⟩
  rw [playDo_ok room4] at v5
  obtain ⟨m, hm⟩ : ∃ m, 1 + i = m := ⟨_, rfl⟩
  have hm1 : 1 + (i + 1) = m + 1 := by omega
  have im : (i : Int) + 1 = (m : Int) := by omega
  rw [hm, hm1]
  rw [im] at e8
  have ml : (m : Int) ≤ cs1.length := by omega
  have wj : IntKind.i64.wrap ((m : Int) + 1) = (m : Int) + 1 := wrapS (by omega) (by omega)
  have eM2 := fun e => (hT.sl.ext (P.ext.trans x)).lenA (e := e)
  simp only [encW, encE] at e8
  rw [Wp_body]
  simp [(hrs.ext x).lenA, ml, eM2, w2, e8, wj]
  exact ⟨k5, c5, ⟨⟨rfl, rfl, rfl, rfl, rfl, rfl, rfl⟩, rfl⟩, ⟨cs5, v5.low (by have := v4.lo_le; omega)⟩, x.trans x5⟩
 ·rintro ⟨g, c4, cs4⟩ ⟨v4, x⟩
  simp only at v4 x ⊢
  obtain ⟨G4, p4, l4, d4⟩ := kills G hv w.runs.length (Nat.le_refl _)
  have sp := sent_phi (killsTo w ⟨2, M⟩ w.runs.length)
  have AE := all_ended G4 (by rw [l4]; exact d4)
  have room4 : Room (killsTo w ⟨2, M⟩ w.runs.length) := ⟨G4.ok (by omega), by omega⟩
  generalize killsTo w ⟨2, M⟩ w.runs.length = u at *
  have H4 := v4.rd
  have qL := H4.queue.lenA (e := 3)
  rw [AE.queue] at qL
  have e8 := c_IWorldWaits H4 G4 (by omega)
  rw [AE.mail] at e8
  obtain ⟨_, e9, k5, s5, rfl, x5, o5⟩ := c_IWorldAlive H4 G4 (by omega)
  have al : (aliveIds u.runs).length = 0 := by rw [aliveIds_len, AE.alive]
  have e10 := c_IWorldIdle (v4.ext x5).rd
  have okw : tt (WorldOk u) = true := by simpa using G4.ok (by omega)
  have tm : Timed u.runs = false := by
   unfold Timed
   rw [List.any_eq_false]
   intro r hr
   simp [AE.all r hr]
  have ib : IdleB u = true := by unfold IdleB; simp [AE.queue, tm]
  rw [okw, ib] at e10
  obtain ⟨_, e11, k6, c6, cs6, rfl, x6, v6⟩ := c_IPlayTurns (v4.ext x5) 5
  have pt : playTurnsP u 5 = u := by
   unfold playTurnsP
   have : tt (Room u ∧ (0 : Int) ≤ 5 ∧ (5 : Int) ≤ 80) = true := by simp [room4]
   rw [if_pos this]
   exact turnsP_none AE.queue _
  rw [pt] at v6
  have e12 := c_lvWorld v6.rd ((v4.ext x5).ext x6).rd
  rw [decide_eq_true rfl] at e12
  have mn : ¬ 1 + (w.runs.length : Int) ≤ cs1.length := by omega
  simp only [encW] at e8 e9 e10 e11 e12
  simp at e8 e10
  rw [Wp_body]
  simp [(hrs.ext x).lenA, mn, qL, e8, e9, o5.sl.lenA, al, e10, e11, e12]
  exact ⟨by kernel_rfl, (((P.ext.trans x).trans x5).trans x6).2⟩
end Go.Proofs.YthnmkpocjgnjeaaGreat
