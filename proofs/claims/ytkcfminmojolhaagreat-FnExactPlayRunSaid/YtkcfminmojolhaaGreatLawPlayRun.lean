/-
  Proves that the law answers true in the abstract machine, whatever it is handed that is as arguments are; under no other condition.
-/
import Derived.Test.YtkcfminmojolhaaGreatWalk19
set_option linter.all false
/-
  THE LAW FnExactPlayRun, in the abstract machine: it answers true.
-/
set_option maxRecDepth 8000
namespace Go.Proofs.YtkcfminmojolhaaGreat
open Go.AM
variable {h : H}
theorem playRun_bd {code : List POp} {evs : List PEvent} : Bd (playRunP code evs) := by
  unfold playRunP
  split
  · rename_i a
    exact (playTo_good a.1 evs _).1.bd
  · exact emptyW_bd
/-- A list in a block of its own. -/
theorem ownBlk {α : Type} {enc : α → List Cell} {es : Nat} (k : H) (xs : List α) (he : ∀ x ∈ xs, (enc x).length = es) (hl : xs.length ≤ 1048576) :
    Sl (k.push ⟨false, es, xs.map enc⟩) (.sl k.length 0 xs.length none) es enc xs ∧ Wr (k.push ⟨false, es, xs.map enc⟩) (.sl k.length 0 xs.length none) :=
  ⟨Sl.new (by simpa using he) (by unfold sMost; omega), fun id hid => by
    simp only [Cell.ids, List.mem_singleton] at hid; subst hid; exact ⟨_, get_push_self, rfl⟩⟩
set_option maxHeartbeats 4000000 in
set_option maxRecDepth 16000 in
theorem c_law_PlayRun {s t : Cell} {code : List POp} {evs : List PEvent} (hS : SlA h s 6 encO code) (hT : SlA h t 4 encE evs) : Dz.den 6 [.c s, .c t] h = some (.c (.bool true), h) := by
  refine den_plain rfl Tryz.func6 rfl rfl ?_
  have e1 := c_szOpS hS 1048576 (by omega) (by omega)
  by_cases z0 : leftI code.length 1048576 < 0
  · simp [Tryz.f6, e1, z0]
  obtain ⟨a1, a2⟩ := leftI_ge (show 0 ≤ leftI code.length 1048576 by omega)
  have e2 := c_szEventS hT (leftI code.length 1048576) (by omega) (by omega)
  by_cases y0 : leftI evs.length (leftI code.length 1048576) < 0
  · simp [Tryz.f6, e1, z0, e2, y0]
  obtain ⟨b1, b2⟩ := leftI_ge (show 0 ≤ leftI evs.length (leftI code.length 1048576) by omega)
  have n1 : code.length ≤ 1048576 := by omega
  have n2 : evs.length ≤ 1048576 := by omega
  have toO := fun {k : H} (x : Ext h k) => c_toOpS (hS.ext x) n1
  have toE := fun {k : H} (x : Ext h k) => c_toEventS (hT.ext x) n2
  have blO := fun k => ownBlk (enc := encO) (es := 6) k code (by simp) n1
  have blE := fun k => ownBlk (enc := encE) (es := 4) k evs (by simp) n2
  have lnO := fun k : H => (show (k.push ⟨false, 6, code.map encO⟩).length = k.length + 1 by simp)
  have lnE := fun k : H => (show (k.push ⟨false, 4, evs.map encE⟩).length = k.length + 1 by simp)
  have pO := fun k : H => Ext.push k ⟨false, 6, code.map encO⟩
  have pE := fun k : H => Ext.push k ⟨false, 4, evs.map encE⟩
  -- the reference
  have t1 := toO (Ext.refl h)
  have t2 := toE (pO h)
  obtain ⟨_, e3, k1, c1, cs1, rfl, x1, v1⟩ := c_PlayRun ((blO h).1.ext (pE _)) Un.new (by unfold lenMost; omega) (blE (h.push ⟨false, 6, code.map encO⟩)).1
  have y1 : Ext h k1 := ((pO h).trans (pE _)).trans x1
  -- the program
  have t3 := toO y1
  have t4 := toE (y1.trans (pO k1))
  have S3 := (blO k1).1.ext (pE _)
  have W3 : Wr ((k1.push ⟨false, 6, code.map encO⟩).push ⟨false, 4, evs.map encE⟩) (.sl k1.length 0 code.length none) := (blO k1).2.same fun id hid => (pE _).2 id ((blO k1).2.lt id hid)
  obtain ⟨S4, W4⟩ := blE (k1.push ⟨false, 6, code.map encO⟩)
  obtain ⟨_, e4, k2, c2, cs2, rfl, x2, v2⟩ := c_IPlayRun S3 Un.new (by unfold lenMost; omega) S4
  have x12 : Ext k1 k2 := ((pO k1).trans (pE _)).trans x2
  have y2 := y1.trans x12
  have v12 := v1.ext x12
  have e5 := c_eqWorld v2.rd v12.rd
  have t5 := toO y2
  have q5 := c_eqOpS ((S3.ext x2).ext (pO k2)) (blO k2).1
  have t6 := toE (y2.trans (pO k2))
  have q6 := c_eqEventS ((S4.ext x2).ext ((pO k2).trans (pE _))) (blE (k2.push ⟨false, 6, code.map encO⟩)).1
  have x6 : Ext k2 ((k2.push ⟨false, 6, code.map encO⟩).push ⟨false, 4, evs.map encE⟩) := (pO k2).trans (pE _)
  have x26 := x2.trans x6
  -- marks
  obtain ⟨_, e6, k3, ys3, rfl, Sa, Wa, La, Ca, _⟩ := c_markOpS (S3.ext x26) (W3.same fun id hid => x26.2 id (W3.lt id hid)) (n := 1) (by omega) (by unfold markMost; omega)
  have i3 : ∀ id, id ∈ (Cell.sl k1.length 0 code.length none).ids ↔ id = k1.length := fun id => by simp [Cell.ids]
  have i4 : ∀ id, id ∈ (Cell.sl (k1.push ⟨false, 6, code.map encO⟩).length 0 evs.length none).ids ↔ id = k1.length + 1 := fun id => by simp [Cell.ids]
  have l2 : k1.length + 2 ≤ k2.length := by have := x2.1; rw [lnE, lnO] at this; omega
  have l6 := x6.1
  have S46 := S4.ext x26
  have W46 : Wr ((k2.push ⟨false, 6, code.map encO⟩).push ⟨false, 4, evs.map encE⟩) (.sl (k1.push ⟨false, 6, code.map encO⟩).length 0 evs.length none) := W4.same fun id hid => x26.2 id (W4.lt id hid)
  have kp : ∀ id ∈ (Cell.sl (k1.push ⟨false, 6, code.map encO⟩).length 0 evs.length none).ids, k3.get id = ((k2.push ⟨false, 6, code.map encO⟩).push ⟨false, 4, evs.map encE⟩).get id := fun id hid => Ca.keep id (W46.lt id hid) fun hh => by
    rw [i4] at hid; rw [i3] at hh; omega
  obtain ⟨_, e7, k4, ys4, rfl, Sb, Wb, Lb, Cb, _⟩ := c_markEventS (S46.same kp) (W46.same kp) (n := 1 + 6 * code.length) (by omega) (by unfold markMost; omega)
  have low : ∀ {lo : Nat} {k : H} {w : PWorld} {c : WorldC} {cs : List RunC} (v : WorldV lo k w c cs cs), ∀ id, Owned (part c cs) id → lo ≤ id ∧ id < k.length := fun v id ⟨K, hid⟩ => ⟨v.own.ge K id hid, v.own.lt id hid⟩
  have g1l : ((h.push ⟨false, 6, code.map encO⟩).push ⟨false, 4, evs.map encE⟩).length = h.length + 2 := by rw [lnE, lnO]
  have g3l : ((k1.push ⟨false, 6, code.map encO⟩).push ⟨false, 4, evs.map encE⟩).length = k1.length + 2 := by rw [lnE, lnO]
  have v13 := ((v12.ext x6).chg Ca fun id ho hh => by rw [i3] at hh; have := (low v1 id ho).2; omega).chg Cb fun id ho hh => by rw [i4] at hh; have := (low v1 id ho).2; omega
  have v23 := ((v2.ext x6).chg Ca fun id ho hh => by rw [i3] at hh; have := (low v2 id ho).1; omega).chg Cb fun id ho hh => by rw [i4] at hh; have := (low v2 id ho).1; omega
  have e8 := c_eqWorld v23.rd v13.rd
  obtain ⟨_, e9, k5, w5, cs5, rfl, v5, s5, H5, z5, b5⟩ := c_markWorld v23 playRun_bd
  have v15 : WorldV _ k5 _ c1 cs1 cs1 := v13.chg s5.chg fun id ho hh => by have := (low v1 id ho).2; have := (low v23 id hh).1; omega
  have e10 := c_heldWorld v5.rd b5 H5
  -- where the arguments lie is as it was
  have y6 := y2.trans x6
  have ya : Ext h k3 := ⟨Nat.le_trans y6.1 Ca.len, fun id hid => by rw [Ca.keep id (Nat.lt_of_lt_of_le hid y6.1) (fun hh => by rw [i3] at hh; have := y1.1; omega), y6.2 id hid]⟩
  have yb : Ext h k4 := ⟨Nat.le_trans ya.1 Cb.len, fun id hid => by rw [Cb.keep id (Nat.lt_of_lt_of_le hid ya.1) (fun hh => by rw [i4] at hh; have := y1.1; omega), ya.2 id hid]⟩
  have y5 : Ext h k5 := s5.ext (fun id ho => v23.own.owned_ge id ho) yb (by have := y1.1; omega)
  have t7 := toO y5
  have t8 := toE (y5.trans (pO k5))
  obtain ⟨_, e11, k6, c6, cs6, rfl, x7, v6⟩ := c_IPlayRun ((blO k5).1.ext (pE _)) Un.new (by unfold lenMost; omega) (blE (k5.push ⟨false, 6, code.map encO⟩)).1
  have x56 : Ext k5 k6 := ((pO k5).trans (pE _)).trans x7
  have e12 := c_eqWorld v6.rd (v15.ext x56).rd
  have e13 := c_heldWorld (v5.ext x56).rd b5 H5
  rw [z5] at e10 e13
  obtain ⟨r1, r2⟩ := sizeW_range (playRun_bd (code := code) (evs := evs))
  have m1 : ¬ (1 + sizeW (playRunP code evs) < 0) := by omega
  have m2 : ¬ (1 + 6 * (code.length : Int) + 4 * (evs.length : Int) < 0) := by omega
  simp only [encW] at e3 e4 e5 e8 e9 e10 e11 e12 e13
  rw [lnO] at e3 e4 e7 e11 t2 t4 t6 t8
  simp only [lnO] at q6
  simp [Tryz.f6, e1, z0, e2, y0, t1, t2, e3, t3, t4, e4, e5, t5, q5, t6, q6, e6, e7, e8, e9, e10, t7, t8, e11, e12, e13, m1, m2]
  exact (y5.trans x56).2
end Go.Proofs.YtkcfminmojolhaaGreat
