/-
  Proves that the law answers true in the abstract machine, whatever it is handed that is as arguments are; under no other condition.
-/
import Derived.Test.YthnmkpocjgnjeaaGreatWalkA23
import Derived.Test.YthnmkpocjgnjeaaGreatWalkA25
set_option linter.all false
/-
 THE LAW FnTurnsCut, in the abstract machine: it answers true.
-/
set_option maxRecDepth 8000
namespace Go.Proofs.YthnmkpocjgnjeaaGreat
open Go.AM
variable {h : H} {bs ms : List Int} {s s2 : Cell}
set_option maxHeartbeats 4000000 in
set_option maxRecDepth 16000 in
theorem c_law_TurnsCut (hS : BytesA h s bs) (hM : BytesA h s2 ms) : Dz.den 7 [.c s, .c s2] h = some (.c (.bool true), h) := by
 refine den_plain rfl Tryz.func7 rfl rfl ?_
 have eL := fun e => hS.sl.lenA (e := e)
 by_cases z : (1048576 : Int) < bs.length
 ·simp [Tryz.f7, eL, z]
 have eM := fun e => hM.sl.lenA (e := e)
 by_cases y2 : (1048576 : Int) < ms.length
 ·simp [Tryz.f7, eL, z, eM, y2]
 obtain ⟨w, c, cs, n, k1, k2, k3, k4, c1, cs1, c2, c3, e1, e2, e3, e4, e5, e6, e7, P, n0, n1⟩ := cutting hS
 have v := P.v
 have hR := v.rd
 have hrs := hR.runs.sl
 have hlen := hR.runs.len
 have seen := P.seen
 simp only [encW] at e1 e2 e3 e4 e5 e6 e7
 by_cases a : WorldOk w
 rotate_left
 ·have a' : tt (WorldOk w) = false := by simpa using a
  rw [a'] at e5
  simp [Tryz.f7, eL, z, eM, y2, e1, e2, e3, e4, e5, e6, e7]
  exact ⟨by kernel_rfl, by kernel_rfl, (P.ext.trans P.ext4).2⟩
 have a' : tt (WorldOk w) = true := by simpa using a
 rw [a'] at e5
 have G := ((ok_iff w).1 a).1
 have I := G.inv
 have room := seen.room a
 have fin := P.ext.2
 have nS : ¬ (8000 : Int) < c.sent := by rw [hR.sent]; have := seen.sent; omega
 by_cases ng : n < 0
 ·simp [Tryz.f7, eL, z, eM, y2, e1, e2, e3, e4, e5, e6, e7, ng]
  exact ⟨by kernel_rfl, by kernel_rfl, (P.ext.trans P.ext4).2⟩
 obtain ⟨N, rfl⟩ := Int.eq_ofNat_of_zero_le (show 0 ≤ n by omega)
 have n80 : ¬ (80 : Int) < (N : Int) := by omega
 obtain ⟨M, hM2⟩ : ∃ M : Nat, M = ms.length % (N + 1) := ⟨_, rfl⟩
 have hMN : M ≤ N := by have := Nat.mod_lt ms.length (show 0 < N + 1 by omega); omega
 have w1 : IntKind.i64.wrap ((N : Int) + 1) = (N : Int) + 1 := wrapS (by omega) (by omega)
 have w2 : (ms.length : Int).tmod ((N : Int) + 1) = (M : Int) := by
  rw [Int.tmod_eq_emod_of_nonneg (by omega), hM2]; simp
 have w3 : ¬ ((N : Int) + 1 = 0) := by omega
 have ps := phi_sent I
 have ss := seen.sent
 have roomT : ∀ i, i ≤ N → Room (turnsP i w) := fun i hi => by
  obtain ⟨G4, p4, l4, t4⟩ := turnsP_all G i
  have sp := sent_phi (turnsP i w)
  exact ⟨G4.ok (by omega), by omega⟩
 have pt : ∀ (u : PWorld) (m : Nat), Room u → m ≤ 80 → playTurnsP u (m : Int) = turnsP m u := fun u m hr hm => by
  unfold playTurnsP
  have : tt (Room u ∧ (0 : Int) ≤ m ∧ (m : Int) ≤ 80) = true := by simp [hr]; omega
  rw [if_pos this, Int.toNat_natCast]
 have X := P.x
 rw [pt w N room (by omega)] at X
 simp [Tryz.f7, eL, z, eM, y2, e1, e2, e3, e4, e5, ng, n80, nS, w1, w2, w3]
 refine ⟨by kernel_rfl, ?_⟩
 refine count_wpG (σ := H × WorldC × List RunC) M (fun i g => ([.c (.bool false), .c (ci N), .c (ci M), .c (ci i)], [encW c, encW c1, encW g.2.1], [], g.1)) (fun i g => WorldV h.length g.1 (turnsP i w) g.2.1 g.2.2 g.2.2 ∧ Ext k3 g.1) (k3, c, cs) (by simp) ⟨v, Ext.refl _⟩ ?_ ?_
 ·rintro i ⟨g, c4, cs4⟩ hi ⟨v4, x⟩
  simp only at v4 x ⊢
  obtain ⟨_, e8, k5, c5, cs5, rfl, x5, v5⟩ := c_ITurnDo v4
  rw [do_ok (roomT i (by omega))] at v5
  have wj : IntKind.i64.wrap ((i : Int) + 1) = (i : Int) + 1 := wrapS (by omega) (by omega)
  simp only [encW] at e8
  rw [Wp_body]
  simp [hi, e8, wj]
  exact ⟨k5, c5, ⟨⟨rfl, rfl, rfl, rfl, rfl, rfl, rfl⟩, rfl⟩, ⟨cs5, v5.low (by have := v4.lo_le; omega)⟩, x.trans x5⟩
 ·rintro ⟨g, c4, cs4⟩ ⟨v4, x⟩
  simp only at v4 x ⊢
  obtain ⟨_, e8, k5, c5, cs5, rfl, x5, v5⟩ := c_IPlayTurns (v.ext x) (M : Int)
  rw [pt w M room (by omega)] at v5
  have e9 := c_lvWorld v5.rd (v4.ext x5).rd
  rw [decide_eq_true rfl] at e9
  have wd : IntKind.i64.wrap ((N : Int) - (M : Int)) = ((N - M : Nat) : Int) := by rw [wrapS (by omega) (by omega)]; omega
  obtain ⟨_, e10, k6, c6, cs6, rfl, x6, v6⟩ := c_IPlayTurns (v4.ext x5) ((N - M : Nat) : Int)
  rw [pt _ (N - M) (roomT M hMN) (by omega), turnsP_add, show M + (N - M) = N by omega] at v6
  have e11 := c_lvWorld v6.rd (((X.ext x).ext x5).ext x6).rd
  rw [decide_eq_true rfl] at e11
  simp only [encW] at e8 e9 e10 e11
  rw [Wp_body]
  simp [e8, e9, wd, e10, e11]
  exact ⟨by kernel_rfl, (((P.ext.trans x).trans x5).trans x6).2⟩
end Go.Proofs.YthnmkpocjgnjeaaGreat
