/-
  Proves that the law answers true in the abstract machine, whatever it is handed that is as arguments are; under no other condition.
-/
import Derived.Test.YthnmkpocjgnjeaaGreatWalkA23
import Derived.Test.YthnmkpocjgnjeaaGreatWalkA25
set_option linter.all false
/-
 THE LAW FnDoKinds, in the abstract machine: it answers true.
-/
set_option maxRecDepth 8000
namespace Go.Proofs.YthnmkpocjgnjeaaGreat
open Go.AM
variable {h : H} {bs : List Int} {s : Cell}
set_option maxHeartbeats 4000000 in
set_option maxRecDepth 16000 in
theorem c_law_DoKinds (hS : BytesA h s bs) : Dz.den 9 [.c s] h = some (.c (.bool true), h) := by
 refine den_plain rfl Tryz.func9 rfl rfl ?_
 have eL := fun e => hS.sl.lenA (e := e)
 by_cases z : (1048576 : Int) < bs.length
 ·simp [Tryz.f9, eL, z]
 obtain ⟨w, c, cs, ev, k1, k2, k3, k4, c1, cs1, c2, c3, e1, e2, e3, e4, e5, e6, e7, P⟩ := doing hS
 have v := P.v
 have hR := v.rd
 have hrs := hR.runs.sl
 have hlen := hR.runs.len
 have seen := P.seen
 simp only [encW, encE] at e1 e2 e3 e4 e5 e6 e7
 by_cases a : WorldOk w
 rotate_left
 ·have a' : tt (WorldOk w) = false := by simpa using a
  rw [a'] at e5
  simp [Tryz.f9, eL, z, e1, e2, e3, e4, e5, e6, e7]
  exact ⟨by kernel_rfl, by kernel_rfl, (P.ext.trans P.ext4).2⟩
 have a' : tt (WorldOk w) = true := by simpa using a
 rw [a'] at e5
 have G := ((ok_iff w).1 a).1
 have I := G.inv
 have room := seen.room a
 have fin := P.ext.2
 have hx := playDo_ok room ev
 have X := P.x
 rw [hx] at X
 have ss := seen.sent
 have T1 := c_ITurnDo v
 have T2 := c_ITurnTick v
 by_cases y1 : ev.kind = 1
 ·obtain ⟨_, e8, k5, c5, cs5, rfl, x5, v5⟩ := T1
  rw [do_ok room] at v5
  have e9 := c_lvWorld (X.ext x5).rd v5.rd
  rw [show doP w ev = turnP w by unfold doP; rw [if_pos y1], decide_eq_true rfl] at e9
  rw [y1] at e1 e2 e3
  simp only [encW] at e8 e9
  simp [Tryz.f9, eL, z, e1, e2, e3, e4, e5, e8, e9]
  exact ⟨by kernel_rfl, by kernel_rfl, (P.ext.trans x5).2⟩
 by_cases y2 : ev.kind = 2
 ·obtain ⟨_, e8, k5, c5, cs5, rfl, x5, v5⟩ := T2
  rw [tick_ok room] at v5
  have e9 := c_lvWorld (X.ext x5).rd v5.rd
  rw [show doP w ev = tickP w by unfold doP; rw [if_neg y1, if_pos y2], decide_eq_true rfl] at e9
  rw [y2] at e1 e2 e3
  simp only [encW] at e8 e9
  simp [Tryz.f9, eL, z, e1, e2, e3, e4, e5, e8, e9]
  exact ⟨by kernel_rfl, by kernel_rfl, (P.ext.trans x5).2⟩
 have e10 := c_lvWorld X.rd hR
 simp only [encW] at e10
 by_cases y34 : ev.kind = 3 ∨ ev.kind = 4
 rotate_left
 ·have y3 : ¬ ev.kind = 3 := fun q => y34 (.inl q)
  have y4 : ¬ ev.kind = 4 := fun q => y34 (.inr q)
  rw [show doP w ev = w by unfold doP; rw [if_neg y1, if_neg y2, if_neg y3, if_neg y4], decide_eq_true rfl] at e10
  simp [Tryz.f9, eL, z, e1, e2, e3, e4, e5, y1, y2, y3, y4, e10]
  exact ⟨by kernel_rfl, fin⟩
 by_cases hv : valOk ev.v = true
 rotate_left
 ·have hv' : valOk ⟨ev.v.k, ev.v.n⟩ = false := by simpa using hv
  rcases y34 with y3 | y4
  ·rw [show doP w ev = w by unfold doP; rw [if_neg y1, if_neg y2, if_pos y3, if_neg hv], decide_eq_true rfl] at e10
   rw [y3] at e1 e2 e3
   simp [Tryz.f9, eL, z, e1, e2, e3, e4, e5, hv', e10]
   exact ⟨by kernel_rfl, by kernel_rfl, fin⟩
  ·rw [show doP w ev = w by unfold doP; rw [if_neg y1, if_neg y2, if_neg (by omega), if_pos y4, if_neg (fun q => hv q.1)], decide_eq_true rfl] at e10
   rw [y4] at e1 e2 e3
   simp [Tryz.f9, eL, z, e1, e2, e3, e4, e5, hv', e10]
   exact ⟨by kernel_rfl, by kernel_rfl, fin⟩
 have hv' : valOk ⟨ev.v.k, ev.v.n⟩ = true := hv
 rcases y34 with y3 | y4
 ·obtain ⟨_, e8, k5, c5, cs5, rfl, x5, v5⟩ := c_IWorldGive v a (by omega) ev.a hv
  have e9 := c_lvWorld (X.ext x5).rd v5.rd
  rw [show doP w ev = giveP w ev.a ev.v by unfold doP; rw [if_neg y1, if_neg y2, if_pos y3, if_pos hv], decide_eq_true rfl] at e9
  rw [y3] at e1 e2 e3
  simp only [encW, encV] at e8 e9
  simp [Tryz.f9, eL, z, e1, e2, e3, e4, e5, hv', e8, e9]
  exact ⟨by kernel_rfl, by kernel_rfl, (P.ext.trans x5).2⟩
 ·obtain ⟨_, e8, k5, c5, cs5, rfl, x5, v5⟩ := c_IFallEnd v a (by omega) ev.a hv
  have e9 := c_lvWorld (X.ext x5).rd v5.rd
  have eF : doP w ev = fallP w ev.a ev.v := by
   unfold doP
   rw [if_neg y1, if_neg y2, if_neg (by omega), if_pos y4]
   by_cases al : Alive w ev.a
   ·rw [if_pos ⟨hv, al⟩]
   ·rw [if_neg (fun hh => al hh.2)]
    unfold fallP fallN
    rw [if_neg al]
    rfl
  rw [eF, decide_eq_true rfl] at e9
  rw [y4] at e1 e2 e3
  simp only [encW, encV] at e8 e9
  simp [Tryz.f9, eL, z, e1, e2, e3, e4, e5, hv', e8, e9]
  exact ⟨by kernel_rfl, by kernel_rfl, (P.ext.trans x5).2⟩
end Go.Proofs.YthnmkpocjgnjeaaGreat
