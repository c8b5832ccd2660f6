/-
  Proves that the law answers true in the abstract machine, whatever it is handed that is as arguments are; under no other condition.
-/
import Derived.Test.YthnmkpocjgnjeaaGreatWalkB23
import Derived.Test.YthnmkpocjgnjeaaGreatWalkB22
import Derived.Test.YthnmkpocjgnjeaaGreatWalkB25
set_option linter.all false
/-
 THE LAW FnRunIdle, in the abstract machine: it answers true.
-/
set_option maxRecDepth 8000
namespace Go.Proofs.YthnmkpocjgnjeaaGreat
open Go.AM
variable {h : H} {bs ms : List Int} {s s2 : Cell}
set_option maxHeartbeats 4000000 in
set_option maxRecDepth 16000 in
theorem c_law_RunIdle (hS : BytesA h s bs) (hT : BytesA h s2 ms) : Dz.den 10 [.c s, .c s2] h = some (.c (.bool true), h) := by
 refine den_plain rfl Tryz.func10 rfl rfl ?_
 have eL := fun e => hS.sl.lenA (e := e)
 have eM := fun e => hT.sl.lenA (e := e)
 by_cases z : (1048576 : Int) < bs.length
 ·simp [Tryz.f10, eL, z]
 by_cases y : (1048576 : Int) < ms.length
 ·simp [Tryz.f10, eL, z, eM, y]
 obtain ⟨code, evs, sc, tc, k1, k2, k3, c1, cs1, c2, e1, e2, e3, e4, P⟩ := played hS
 have eT := fun e => P.oe.sl.lenA (e := e)
 simp only [encW] at e2 e3 e4
 by_cases a : PlayRun1 code evs
 rotate_left
 ·have a' : tt (PlayRun1 code evs) = false := by simpa using a
  rw [a'] at e2 e3
  simp [Tryz.f10, eL, z, eM, y, e1, e2, e3, e4]
  exact P.ext.2
 have Q := plays a
 have a' : tt (PlayRun1 code evs) = true := by simpa using a
 rw [a'] at e2 e3
 have v := P.v
 have hR := v.rd
 have hrs := hR.runs.sl
 have hlen := hR.runs.len
 generalize playRunP code evs = w at *
 have G := Q.good
 have I := G.inv
 have many := I.many
 have qL := hR.queue.lenA (e := 3)
 have room := Q.room
 by_cases q0 : w.queue = []
 rotate_left
 ·have qpos : 0 < w.queue.length := List.length_pos_iff.2 q0
  simp [Tryz.f10, eL, z, eM, y, e1, e2, e3, e4, qL, qpos]
  exact P.ext.2
 rw [q0] at qL
 obtain ⟨M, hM2⟩ : ∃ M : Nat, M = ms.length % 9 := ⟨_, rfl⟩
 have hM9 : M < 9 := by have := Nat.mod_lt ms.length (show 0 < 9 by omega); omega
 have w2 : (ms.length : Int).tmod 9 = (M : Int) := by
  rw [Int.tmod_eq_emod_of_nonneg (by omega), hM2]; simp
 obtain ⟨_, e5, k5, c5, cs5, rfl, x5, v5⟩ := c_IPlayTurns v (M : Int)
 have pt : playTurnsP w (M : Int) = w := by
  unfold playTurnsP
  have : tt (Room w ∧ (0 : Int) ≤ M ∧ (M : Int) ≤ 80) = true := by simp [room]; omega
  rw [if_pos this, Int.toNat_natCast, turnsP_none q0]
 rw [pt] at v5
 obtain ⟨_, e6, k6, c6, cs6, rfl, x6, v6⟩ := c_ITurnTick (v.ext x5)
 have nw : w.now ≤ 80 := by
  have := playTo_now Q.safe evs evs.length (by have := Q.few; omega)
  rw [← Q.eq] at this
  have := ticksTo_le evs evs.length
  have := Q.few
  omega
 rw [tick_ok room, tick_spec (by omega)] at v6
 have hR6 := ((v.ext x5).ext x6).rd
 have e7 := c_lvWorld (v5.ext x6).rd hR6
 rw [decide_eq_true rfl] at e7
 have e8 := c_IWorldIdle hR6
 have okw : tt (WorldOk w) = true := by simpa using Q.ok
 rw [okw, Bool.true_and] at e8
 have fin := ((P.ext.trans x5).trans x6).2
 simp only [encW] at e5 e6 e7 e8
 by_cases ib : IdleB w = true
 ·rw [ib] at e8
  have nt : Timed w.runs = false := by
   unfold IdleB at ib
   simp at ib
   exact ib.2
  have nd : ∀ r ∈ w.runs, ¬ (r.state = 2 ∧ r.due = w.now + 1) := fun r hr hh => by
   have := I.now
   unfold Timed at nt
   rw [List.any_eq_false] at nt
   have := nt r hr
   simp at this
   have := this hh.1
   omega
  have m1 : w.runs.map (tickR (w.now + 1)) = w.runs := by
   conv => rhs; rw [← List.map_id w.runs]
   apply List.map_congr_left
   intro r hr
   unfold tickR
   rw [if_neg (nd r hr)]; rfl
  have m2 : ∀ n, n ≤ w.runs.length → dueTo w.runs (w.now + 1) n = [] := fun n hn => by
   induction n with
   | zero => rfl
   | succ n ih =>
    rw [dueTo, ih (by omega), if_neg]
    ·rfl
    ·rw [List.getElem?_eq_getElem (by omega), Option.getD_some]
     exact nd _ (List.getElem_mem _)
  rw [m1, m2 _ (Nat.le_refl _), List.append_nil] at v6
  have H6 := v6.rd
  have H7 : WorldR k6 w { c6 with now := w.now } cs6 := ⟨H6.code, H6.runs, H6.queue, rfl, H6.sent, H6.taken, H6.lost⟩
  have e9 := c_lvWorld H7 hR6
  rw [decide_eq_true rfl] at e9
  have cn : c1.now = w.now := hR.now
  simp only [encW] at e9
  rw [cn] at e2 e4 e5 e6 e7 e8 e9
  simp [Tryz.f10, eL, z, eM, y, e1, e2, e3, e4, qL, w2, e5, e6, e7, e8, e9, cn]
  exact fin
 ·have ib' : IdleB w = false := by simpa using ib
  rw [ib'] at e8
  simp [Tryz.f10, eL, z, eM, y, e1, e2, e3, e4, qL, w2, e5, e6, e7, e8]
  exact fin
end Go.Proofs.YthnmkpocjgnjeaaGreat
