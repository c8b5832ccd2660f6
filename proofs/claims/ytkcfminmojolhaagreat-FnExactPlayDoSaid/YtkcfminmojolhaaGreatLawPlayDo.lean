/-
  Proves that the law answers true in the abstract machine, whatever it is handed that is as arguments are; under no other condition.
-/
import Derived.Test.YtkcfminmojolhaaGreatWalk19
set_option linter.all false
/-
  THE LAW FnExactPlayDo, in the abstract machine: it answers true.
-/
set_option maxRecDepth 8000
namespace Go.Proofs.YtkcfminmojolhaaGreat
open Go.AM
variable {h : H}
set_option maxHeartbeats 2000000 in
set_option maxRecDepth 16000 in
theorem c_law_PlayDo {w : PWorld} {c : WorldC} {cs : List RunC} (hw : WorldA h w c cs) (ev : PEvent) : Dz.den 5 [.g (encW c), .g (encE ev)] h = some (.c (.bool true), h) := by
  refine den_plain rfl Tryz.func5 rfl rfl ?_
  obtain ⟨_, e1, z, rfl, hz⟩ := c_szWorld hw 1048576 (by omega) (by omega)
  simp only [encW] at e1
  by_cases z0 : z < 0
  · simp [Tryz.f5, e1, z0]
  have hs := (hz (by omega)).2
  obtain ⟨_, e2, k1, c1, cs1, rfl, x1, O1⟩ := c_toWorld hw hs
  have v1 := O1.toV x1.1
  obtain ⟨_, e3, k2, c2, cs2, rfl, x2, v2⟩ := c_PlayDo v1 ev
  have hw2 := hw.ext (x1.trans x2)
  obtain ⟨_, e4, k3, c3, cs3, rfl, x3, O3⟩ := c_toWorld hw2 hs
  have v3 := O3.toV x3.1
  obtain ⟨_, e5, k4, c4, cs4, rfl, x4, v4⟩ := c_IPlayDo v3 ev
  have v24 := v2.ext (x3.trans x4)
  have e6 := c_eqWorld v4.rd v24.rd
  have hw4 := hw2.ext (x3.trans x4)
  obtain ⟨_, e7, k5, c5, cs5, rfl, x5, O5⟩ := c_toWorld hw4 hs
  have v35 := v3.ext (x4.trans x5)
  have e8 := c_eqWorld v35.rd O5.rd
  have v45 := v4.ext x5
  have v25 := v24.ext x5
  obtain ⟨_, e9, k6, w6, cs6, rfl, v6, s6, H6, z6, b6⟩ := c_markWorld v35 (hs.bd (Int.le_refl _))
  have v46 : WorldV k3.length k6 _ c4 cs4 cs4 := v45.chg s6.chg fun id ⟨k, hid⟩ ⟨k', ho⟩ => by have := v45.own.ge k id hid; have := v3.own.lt id ho; omega
  have v26 : WorldV k1.length k6 _ c2 cs2 cs2 := v25.chg s6.chg fun id ⟨k, hid⟩ ⟨k', ho⟩ => by have := v2.own.lt id hid; have := v35.own.ge k' id ho; omega
  have e10 := c_eqWorld v46.rd v26.rd
  obtain ⟨_, e11, k7, w7, cs7, rfl, v7, s7, H7, z7, b7⟩ := c_markWorld v46 ((playDo_bd (w := w) (e := ev)))
  have v27 : WorldV k1.length k7 _ c2 cs2 cs2 := v26.chg s7.chg fun id ⟨k, hid⟩ ⟨k', ho⟩ => by have := v2.own.lt id hid; have := v46.own.ge k' id ho; have := x3.1; omega
  have e12 := c_heldWorld v7.rd b7 H7
  have xa : Ext h k5 := (x1.trans x2).trans ((x3.trans x4).trans x5)
  have l2 := (x1.trans x2).1
  have x6 : Ext h k6 := s6.ext (fun id ho => v35.own.owned_ge id ho) xa l2
  have x7 : Ext h k7 := s7.ext (fun id ho => v46.own.owned_ge id ho) x6 (Nat.le_trans l2 x3.1)
  have hw7 := hw.ext x7
  obtain ⟨_, e13, k8, c8, cs8, rfl, x8, O8⟩ := c_toWorld hw7 hs
  have v8 := O8.toV x8.1
  obtain ⟨_, e14, k9, c9, cs9, rfl, x9, v9⟩ := c_IPlayDo v8 ev
  have x89 := x8.trans x9
  have e15 := c_eqWorld v9.rd (v27.ext x89).rd
  have e16 := c_heldWorld (v7.ext x89).rd b7 H7
  rw [z7] at e12 e16
  obtain ⟨r1, r2⟩ := sizeW_range ((playDo_bd (w := w) (e := ev)))
  obtain ⟨r3, r4⟩ := sizeW_range (hs.bd (Int.le_refl _))
  have m1 : ¬ (1 + sizeW w < 0) := by omega
  have m2 : ¬ (1 + sizeW (playDoP w ev) < 0) := by omega
  have ev1 := fun k => c_toEvent (h := k) ev
  simp only [encE] at ev1
  simp only [encE] at e3 e5 e14
  simp only [encW] at e2 e3 e4 e5 e6 e7 e8 e9 e10 e11 e12 e13 e14 e15 e16
  simp [Tryz.f5, e1, z0, e2, e3, e4, e5, e6, e7, e8, e9, e10, e11, e12, e13, e14, e15, e16, m1, m2, ev1]
  exact ⟨by kernel_rfl, by kernel_rfl, by kernel_rfl, by kernel_rfl, (x7.trans x89).2⟩
end Go.Proofs.YtkcfminmojolhaaGreat
