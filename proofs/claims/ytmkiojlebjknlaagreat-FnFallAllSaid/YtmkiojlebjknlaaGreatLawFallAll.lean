/-
  Proves that the law answers true in the abstract machine, whatever it is handed that is as arguments are; under no other condition.
-/
import Derived.Test.YtmkiojlebjknlaaGreatWalkA26
import Derived.Test.YtmkiojlebjknlaaGreatWalkA25
set_option linter.all false
/-
 THE LAW FnFallAll, in the abstract machine: it answers true.
-/
set_option maxRecDepth 8000
namespace Go.Proofs.YtmkiojlebjknlaaGreat
open Go.AM
variable {h : H} {bs : List Int} {s : Cell}
set_option maxHeartbeats 4000000 in
set_option maxRecDepth 16000 in
theorem c_law_FallAll (hS : BytesA h s bs) : Dz.den 4 [.c s] h = some (.c (.bool true), h) := by
 refine den_plain rfl Tryz.func4 rfl rfl ?_
 have eL := fun e => hS.sl.lenA (e := e)
 by_cases z : (1048576 : Int) < bs.length
 ·simp [Tryz.f4, eL, z]
 obtain ⟨w, c, cs, id, y, k1, k2, k3, k4, c1, cs1, c2, c3, e1, e2, e3, e4, e5, e6, e7, P, b1, b2⟩ := falling hS
 have v := P.v
 have hR := v.rd
 have hrs := hR.runs.sl
 have hlen := hR.runs.len
 have seen := P.seen
 have many := seen.many
 have out := (P.ext.trans P.ext4).2
 simp only [encW, encV] at e1 e2 e3 e4 e5 e6 e7
 by_cases a : WorldOk w
 rotate_left
 ·have a' : tt (WorldOk w) = false := by simpa using a
  rw [a'] at e5
  simp [Tryz.f4, eL, z, e1, e2, e3, e4, e5, e6, e7]
  exact ⟨by kernel_rfl, by kernel_rfl, out⟩
 have a' : tt (WorldOk w) = true := by simpa using a
 rw [a'] at e5
 by_cases hv : valOk y = true
 rotate_left
 ·have hv' : valOk ⟨y.k, y.n⟩ = false := by simpa using hv
  simp [Tryz.f4, eL, z, e1, e2, e3, e4, e5, e6, e7, hv']
  exact ⟨by kernel_rfl, by kernel_rfl, out⟩
 have hv' : valOk ⟨y.k, y.n⟩ = true := hv
 have G := ((ok_iff w).1 a).1
 have e8 := c_lvState hR id
 simp only [encW] at e8
 by_cases r : 1 ≤ id ∧ id ≤ w.runs.length
 rotate_left
 ·rw [if_neg r] at e8
  simp [Tryz.f4, eL, z, e1, e2, e3, e4, e5, e6, e7, hv', e8]
  exact ⟨by kernel_rfl, by kernel_rfl, out⟩
 rw [if_pos r] at e8
 by_cases d3 : (runAt w id).state = 3
 ·rw [d3] at e8
  simp [Tryz.f4, eL, z, e1, e2, e3, e4, e5, e6, e7, hv', e8]
  exact ⟨by kernel_rfl, by kernel_rfl, out⟩
 have al : Alive w id := ⟨r, d3⟩
 have d0 : ¬ (runAt w id).state = 0 := by
  obtain ⟨m, em, hm, er, ei⟩ := runAt_eq (w := w) (id := id) r
  rw [er]
  have := (G.inv.each m _ (List.getElem?_eq_getElem hm)).ok.state
  omega
 have X := P.x
 have hx : fallEndP w id y = fallP w id y := by
  unfold fallEndP
  have := seen.sent
  have q : w.sent < 9900 := by omega
  rw [if_pos (by simp [a, hv, q])]
 rw [hx] at X
 have F := G.fallG id hv
 have FL := fun q hq => fallen (id := id) G hv (q := q) hq
 have ps := phi_sent G.inv
 have xs := sent_phi (fallP w id y)
 have kp := F.k.phi
 have ss := seen.sent
 have xl := (fall_stage G al hv).len
 obtain ⟨_, e9, k5, t, ts, rfl, x5, S5, T⟩ := c_IFallWith hR a id
 generalize fallP w id y = u at *
 have HX := X.rd.ext x5
 have hR5 := hR.ext x5
 have hrs5 := hR5.runs.sl
 have xrs := HX.runs.sl
 have xlen := HX.runs.len
 have e10 := c_IWorldOk HX
 rw [tt_fits (F.g.ok (by omega))] at e10
 have nn := F.g.inv.nn
 have sm := F.g.inv.sum
 have mn := mailSum_nn u.runs
 have e11 := c_lvSum HX (by omega) (by omega) (by omega)
 rw [decide_eq_true sm] at e11
 obtain ⟨nb, hnb⟩ : ∃ nb : Bool, nb = (decide (y.k = 2) && decide (y.n = 0)) := ⟨_, rfl⟩
 have nbi : nb = true ↔ y = ⟨2, 0⟩ := by
  rw [hnb]; obtain ⟨k, n⟩ := y; simp
 simp only [encW] at e9 e10 e11
 simp [Tryz.f4, eL, z, e1, e2, e3, e4, e5, hv', e8, d0, d3, e9]
 refine ⟨by kernel_rfl, ?_⟩
 refine count_wp cs.length (fun i => ([.c (.bool false), .c (.int .i64 id), .c t, .c (.bool nb), .c (ci ((1 + i : Nat)))], [encW c, encV y, encW c1], [], k5)) (fun _ => True) (by simp [hnb]) trivial ?_ ?_
 ·intro i hi _
  have hi' : i < w.runs.length := by omega
  have xi : i < u.runs.length := by omega
  have xi' : i < cs1.length := by omega
  obtain ⟨m, hm⟩ : ∃ m, 1 + i = m := ⟨_, rfl⟩
  have hm1 : 1 + (i + 1) = m + 1 := by omega
  have im : (m : Int) = (i : Int) + 1 := by omega
  have wj : IntKind.i64.wrap ((m : Int) + 1) = (m : Int) + 1 := wrapS (by omega) (by omega)
  have wi : IntKind.i64.wrap ((m : Int) - 1) = (i : Int) := by rw [wrapS (by omega) (by omega)]; omega
  have ml : (m : Int) ≤ cs.length := by omega
  rw [hm, hm1]
  have e12 := c_lvState hR5 (m : Int)
  have e13 := c_lvState HX (m : Int)
  have e14 := c_lvAmong S5 (m : Int)
  have rm : 1 ≤ (m : Int) ∧ (m : Int) ≤ w.runs.length := by omega
  rw [if_pos rm] at e12
  rw [if_pos (by omega)] at e13
  obtain ⟨f1, f2⟩ := FL m rm
  have TM := T m
  simp only [al, true_and] at f1 TM
  have f2 := f2 al
  have EX := HX.runs.each i xi
  have ru : runAt u (m : Int) = u.runs[i] := by rw [im, runAt_nat xi]
  rw [ru] at f1 f2 e13
  simp only [encW] at e12 e13
  unfold Fell at f1 f2
  rw [Wp_body]
  by_cases q1 : (m : Int) = id
  ·have q1' : ((m : Int) = id) = True := eq_true q1
   have b3 := f1.2 (.inr (.inl q1))
   have bw := f2 (.inl q1)
   rw [b3] at e13
   by_cases a3 : (runAt w (m : Int)).state = 3
   ·rw [a3] at e12
    simp [hrs5.lenA, ml, e12, e13, q1', wi, ixA_nat xrs, xi', xrs.at, EX.why, bw, wj]
    exact by unfold LexOk; kernel_rfl
   ·simp [hrs5.lenA, ml, e12, e13, q1', wi, ixA_nat xrs, xi', xrs.at, EX.why, bw, wj, a3]
    exact by unfold LexOk; kernel_rfl
  by_cases q2 : y = ⟨2, 0⟩
  ·have nbt := nbi.2 q2
   have f3 : u.runs[i].state = 3 ↔ (runAt w (m : Int)).state = 3 := by rw [f1]; simp [q1, q2]
   by_cases a3 : (runAt w (m : Int)).state = 3
   ·rw [f3.2 a3] at e13
    rw [a3] at e12
    simp [hrs5.lenA, ml, e12, e13, q1, nbt, wj]
    exact by unfold LexOk; kernel_rfl
   ·have b3 : ¬ u.runs[i].state = 3 := fun hh => a3 (f3.1 hh)
    simp [hrs5.lenA, ml, e12, e13, q1, nbt, wj, a3, b3]
    exact by unfold LexOk; kernel_rfl
  have nbf : nb = false := by
   cases nb with
   | false => rfl
   | true => exact absurd (nbi.1 rfl) q2
  by_cases q : (m : Int) ∈ ts
  ·have b3 := f1.2 (.inr (.inr ⟨q2, TM.1 q⟩))
   have bw := f2 (.inr ⟨q2, TM.1 q⟩)
   rw [decide_eq_true q] at e14
   rw [b3] at e13
   by_cases a3 : (runAt w (m : Int)).state = 3
   ·rw [a3] at e12
    simp [hrs5.lenA, ml, e12, e13, e14, q1, nbf, wi, ixA_nat xrs, xi', xrs.at, EX.why, bw, wj]
    exact by unfold LexOk; kernel_rfl
   ·simp [hrs5.lenA, ml, e12, e13, e14, q1, nbf, wi, ixA_nat xrs, xi', xrs.at, EX.why, bw, wj, a3]
    exact by unfold LexOk; kernel_rfl
  ·have f3 : u.runs[i].state = 3 ↔ (runAt w (m : Int)).state = 3 := by rw [f1, ← TM]; simp [q1, q]
   rw [decide_eq_false q] at e14
   by_cases a3 : (runAt w (m : Int)).state = 3
   ·rw [f3.2 a3] at e13
    rw [a3] at e12
    simp [hrs5.lenA, ml, e12, e13, e14, q1, nbf, wj]
    exact by unfold LexOk; kernel_rfl
   ·have b3 : ¬ u.runs[i].state = 3 := fun hh => a3 (f3.1 hh)
    simp [hrs5.lenA, ml, e12, e13, e14, q1, nbf, wj, a3, b3]
    exact by unfold LexOk; kernel_rfl
 ·intro _
  have mn : ¬ 1 + (cs.length : Int) ≤ cs.length := by omega
  rw [Wp_body]
  simp [hrs5.lenA, mn, e10, e11]
  exact (P.ext.trans x5).2
end Go.Proofs.YtmkiojlebjknlaaGreat
