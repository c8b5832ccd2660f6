/-
  Proves that the law answers true in the abstract machine, whatever it is handed that is as arguments are; under no other condition.
-/
import Derived.Test.YtmkiojlebjknlaaGreatWalkA26
import Derived.Test.YtmkiojlebjknlaaGreatWalkA25
set_option linter.all false
/-
 THE LAW FnFallTwo, in the abstract machine: it answers true.
-/
set_option maxRecDepth 8000
namespace Go.Proofs.YtmkiojlebjknlaaGreat
open Go.AM
variable {h : H} {bs ms : List Int} {s s2 : Cell}
set_option maxHeartbeats 4000000 in
set_option maxRecDepth 16000 in
theorem c_law_FallTwo (hS : BytesA h s bs) (hT : BytesA h s2 ms) : Dz.den 3 [.c s, .c s2] h = some (.c (.bool true), h) := by
 refine den_plain rfl Tryz.func3 rfl rfl ?_
 have eL := fun e => hS.sl.lenA (e := e)
 have eM := fun e => hT.sl.lenA (e := e)
 by_cases z : (1048576 : Int) < bs.length
 ·simp [Tryz.f3, eL, z]
 by_cases yy : (1048576 : Int) < ms.length
 ·simp [Tryz.f3, eL, z, eM, yy]
 obtain ⟨w, c, cs, id, y, k1, k2, k3, k4, c1, cs1, c2, c3, e1, e2, e3, e4, e5, e6, e7, P, b1, b2⟩ := falling hS
 have v := P.v
 have hR := v.rd
 have hrs := hR.runs.sl
 have hlen := hR.runs.len
 have seen := P.seen
 have many := seen.many
 have out := (P.ext.trans P.ext4).2
 simp only [encW, encV] at e1 e2 e3 e4 e5 e6 e7
 by_cases a : WorldOk w
 rotate_left
 ·have a' : tt (WorldOk w) = false := by simpa using a
  rw [a'] at e5
  simp [Tryz.f3, eL, z, eM, yy, e1, e2, e3, e4, e5, e6, e7]
  exact ⟨by kernel_rfl, by kernel_rfl, out⟩
 have a' : tt (WorldOk w) = true := by simpa using a
 rw [a'] at e5
 by_cases hv : valOk y = true
 rotate_left
 ·have hv' : valOk ⟨y.k, y.n⟩ = false := by simpa using hv
  simp [Tryz.f3, eL, z, eM, yy, e1, e2, e3, e4, e5, e6, e7, hv']
  exact ⟨by kernel_rfl, by kernel_rfl, out⟩
 have hv' : valOk ⟨y.k, y.n⟩ = true := hv
 have G := ((ok_iff w).1 a).1
 have e8 := c_lvState hR id
 simp only [encW] at e8
 by_cases r : 1 ≤ id ∧ id ≤ w.runs.length
 rotate_left
 ·rw [if_neg r] at e8
  simp [Tryz.f3, eL, z, eM, yy, e1, e2, e3, e4, e5, e6, e7, hv', e8]
  exact ⟨by kernel_rfl, by kernel_rfl, out⟩
 rw [if_pos r] at e8
 by_cases d3 : (runAt w id).state = 3
 ·rw [d3] at e8
  simp [Tryz.f3, eL, z, eM, yy, e1, e2, e3, e4, e5, e6, e7, hv', e8]
  exact ⟨by kernel_rfl, by kernel_rfl, out⟩
 have al : Alive w id := ⟨r, d3⟩
 have d0 : ¬ (runAt w id).state = 0 := by
  obtain ⟨m, em, hm, er, ei⟩ := runAt_eq (w := w) (id := id) r
  rw [er]
  have := (G.inv.each m _ (List.getElem?_eq_getElem hm)).ok.state
  omega
 have X := P.x
 have ss := seen.sent
 have end_ok : ∀ (u : PWorld) (q : Int), Good u → u.sent ≤ 9000 → fallEndP u q y = fallP u q y := fun u q Gu hu => by
  unfold fallEndP
  have q : u.sent < 9900 := by omega
  rw [if_pos (by simp [Gu.ok (by omega), hv, q])]
 rw [end_ok w id G (by omega)] at X
 have ps := phi_sent G.inv
 obtain ⟨M, hM2⟩ : ∃ M : Nat, M = ms.length % cs.length := ⟨_, rfl⟩
 have hM5 : M < cs.length := by have := Nat.mod_lt ms.length (show 0 < cs.length by omega); omega
 have w2 : (ms.length : Int).tmod (cs.length : Int) = (M : Int) := by
  rw [Int.tmod_eq_emod_of_nonneg (by omega), hM2]; omega
 have cz : ¬ (cs.length : Int) = 0 := by omega
 have cz2 : ¬ cs.length = 0 := by omega
 obtain ⟨o, hid⟩ : ∃ o : Int, 1 + (M : Int) = o := ⟨_, rfl⟩
 have wM : IntKind.i64.wrap (1 + (M : Int)) = o := by rw [wrapS (by omega) (by omega)]; omega
 have ro : 1 ≤ o ∧ o ≤ w.runs.length := by omega
 have e9 := c_lvState hR o
 rw [if_pos ro] at e9
 simp only [encW] at e9
 by_cases o3 : (runAt w o).state = 3
 ·rw [o3] at e9
  simp [Tryz.f3, eL, z, eM, yy, e1, e2, e3, e4, e5, hv', e8, d0, d3, hrs.lenA, cz, cz2, w2, wM, e9]
  exact ⟨by kernel_rfl, P.ext.2⟩
 have alo : Alive w o := ⟨ro, o3⟩
 obtain ⟨_, e10, k5, t, ts, rfl, x5, S5, T5⟩ := c_IFallWith hR a id
 have e11 := c_lvAmong S5 o
 simp only [encW] at e10
 by_cases f1 : Falls w id o
 ·rw [decide_eq_true ((T5 o).2 ⟨al, f1⟩)] at e11
  simp [Tryz.f3, eL, z, eM, yy, e1, e2, e3, e4, e5, hv', e8, d0, d3, hrs.lenA, cz, cz2, w2, wM, e9, o3, e10, e11]
  exact ⟨by kernel_rfl, (P.ext.trans x5).2⟩
 rw [decide_eq_false fun q => f1 ((T5 o).1 q).2] at e11
 obtain ⟨_, e12, k6, t6, ts6, rfl, x6, S6, T6⟩ := c_IFallWith (hR.ext x5) a o
 have e13 := c_lvAmong S6 id
 simp only [encW] at e12
 by_cases f2 : Falls w o id
 ·rw [decide_eq_true ((T6 id).2 ⟨alo, f2⟩)] at e13
  simp [Tryz.f3, eL, z, eM, yy, e1, e2, e3, e4, e5, hv', e8, d0, d3, hrs.lenA, cz, cz2, w2, wM, e9, o3, e10, e11, e12, e13]
  exact ⟨by kernel_rfl, ((P.ext.trans x5).trans x6).2⟩
 rw [decide_eq_false fun q => f2 ((T6 id).1 q).2] at e13
 have F1 := G.fallG id hv
 have F2 := G.fallG o hv
 have E1 := fell_two G al alo f1 hv
 have E2 := fell_two G alo al f2 hv
 have F3 := F1.g.fallG o hv
 have F4 := F2.g.fallG id hv
 have p1 := F1.k.phi
 have p2 := F2.k.phi
 have p3 := F3.k.phi
 have p4 := F4.k.phi
 have s1 := sent_phi (fallP w id y)
 have s2 := sent_phi (fallP w o y)
 have s3 := sent_phi (fallP (fallP w id y) o y)
 have s4 := sent_phi (fallP (fallP w o y) id y)
 have l1 := (fall_stage G al hv).len
 have l2 := (fall_stage G alo hv).len
 have l3 := (fall_stage F1.g E1.1 hv).len
 have l4 := (fall_stage F2.g E2.1 hv).len
 obtain ⟨_, e14, k7, c7, cs7, rfl, x7, v7⟩ := c_IFallEnd2 ((X.ext x5).ext x6) o y
 rw [end_ok _ o F1.g (by omega)] at v7
 have v6 := ((v.ext x5).ext x6).ext x7
 obtain ⟨_, e15, k8, c8, cs8, rfl, x8, v8⟩ := c_IFallEnd2 v6 o y
 rw [end_ok w o G (by omega)] at v8
 obtain ⟨_, e16, k9, c9, cs9, rfl, x9, v9⟩ := c_IFallEnd2 v8 id y
 rw [end_ok _ id F2.g (by omega)] at v9
 have HA := ((v7.ext x8).ext x9).rd
 have HB := v9.rd
 have hrs9 := ((hrs.ext (x5.trans (x6.trans x7))).ext x8).ext x9
 have st := fun q hq => (E1.2 q hq).trans ((by rw [or_comm (a := Fell w id y q)] : _ ↔ _).trans (E2.2 q hq).symm)
 have e17 := c_IWorldOk HA
 rw [tt_fits (F3.g.ok (by omega))] at e17
 have e18 := c_IWorldOk HB
 rw [tt_fits (F4.g.ok (by omega))] at e18
 generalize fallP (fallP w id y) o y = ua at *
 generalize fallP (fallP w o y) id y = ub at *
 have fin := (((((P.ext.trans x5).trans x6).trans x7).trans x8).trans x9).2
 simp only [encW, encV] at e14 e15 e16 e17 e18
 simp [Tryz.f3, eL, z, eM, yy, e1, e2, e3, e4, e5, hv', e8, d0, d3, hrs.lenA, cz, cz2, w2, wM, e9, o3, e10, e11, e12, e13, e14, e15, e16]
 refine ⟨by kernel_rfl, by kernel_rfl, ?_⟩
 refine count_wp cs.length (fun i => ([.c (.bool false), .c (ci ((1 + i : Nat)))], [encW c, encW c7, encW c9], [], k9)) (fun _ => True) (by simp) trivial ?_ ?_
 ·intro i hi _
  obtain ⟨m, hm⟩ : ∃ m, 1 + i = m := ⟨_, rfl⟩
  have hm1 : 1 + (i + 1) = m + 1 := by omega
  have wj : IntKind.i64.wrap ((m : Int) + 1) = (m : Int) + 1 := wrapS (by omega) (by omega)
  have ml : (m : Int) ≤ cs.length := by omega
  rw [hm, hm1]
  have e19 := c_lvState HA (m : Int)
  have e20 := c_lvState HB (m : Int)
  have rm : 1 ≤ (m : Int) ∧ (m : Int) ≤ w.runs.length := by omega
  rw [if_pos (by omega)] at e19
  rw [if_pos (by omega)] at e20
  have sm := st m rm
  simp only [encW] at e19 e20
  rw [Wp_body]
  by_cases a3 : (runAt ua (m : Int)).state = 3
  ·rw [a3] at e19
   rw [sm.1 a3] at e20
   simp [hrs9.lenA, ml, e19, e20, wj]
   exact by unfold LexOk; kernel_rfl
  ·have b3 : ¬ (runAt ub (m : Int)).state = 3 := fun hh => a3 (sm.2 hh)
   simp [hrs9.lenA, ml, e19, e20, wj, a3, b3]
   exact by unfold LexOk; kernel_rfl
 ·intro _
  have mn : ¬ 1 + (cs.length : Int) ≤ cs.length := by omega
  rw [Wp_body]
  simp [hrs9.lenA, mn, e17, e18]
  exact fin
end Go.Proofs.YtmkiojlebjknlaaGreat
