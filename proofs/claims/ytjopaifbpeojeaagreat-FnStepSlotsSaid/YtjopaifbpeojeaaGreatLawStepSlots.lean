/-
  Proves that the law answers true in the abstract machine, whatever it is handed that is as arguments are; under no other condition.
-/
import Derived.Test.YtjopaifbpeojeaaGreatWalk23
import Derived.Test.YtjopaifbpeojeaaGreatWalk24
set_option linter.all false
/-
  THE LAW FnStepSlots, in the abstract machine: it answers true.
-/
set_option maxRecDepth 8000
namespace Go.Proofs.YtjopaifbpeojeaaGreat
open Go.AM
variable {h : H} {bs : List Int} {s : Cell}
set_option maxHeartbeats 4000000 in
set_option maxRecDepth 16000 in
theorem c_law_StepSlots (hS : BytesA h s bs) : Dz.den 11 [.c s] h = some (.c (.bool true), h) := by
  refine den_plain rfl Tryz.func11 rfl rfl ?_
  have eL := fun e => hS.sl.lenA (e := e)
  by_cases z : (1048576 : Int) < bs.length
  · simp [Tryz.f11, eL, z]
  obtain ⟨w, c, cs, k1, k2, k3, k4, c1, cs1, c2, c3, e1, e2, e3, e4, e5, e6, e7, P⟩ := stepped hS
  have v := P.v
  have hR := v.rd
  have hrs := hR.runs.sl
  have hlen := hR.runs.len
  have seen := P.seen
  simp only [encW] at e1 e2 e3 e4 e5 e6 e7
  by_cases a : WorldOk w
  rotate_left
  · have a' : tt (WorldOk w) = false := by simpa using a
    rw [a'] at e5
    simp [Tryz.f11, eL, z, e1, e2, e3, e4, e5, e6, e7]
    exact ⟨by kernel_rfl, by kernel_rfl, (P.ext.trans P.ext4).2⟩
  have a' : tt (WorldOk w) = true := by simpa using a
  rw [a'] at e5
  have G := ((ok_iff w).1 a).1
  have I := G.inv
  have room := seen.room a
  have hx := step_ok room
  by_cases q0 : w.queue = []
  · have qL := hR.queue.lenA (e := 3)
    rw [q0] at qL
    simp [Tryz.f11, eL, z, e1, e2, e3, e4, e5, e6, e7, qL]
    exact ⟨by kernel_rfl, by kernel_rfl, (P.ext.trans P.ext4).2⟩
  rw [if_neg q0] at hx
  obtain ⟨hid, h1⟩ := I.head q0
  obtain ⟨i, T⟩ := I.turn hid h1
  have X := P.x
  rw [hx] at X
  have HX := X.rd
  have xrs := HX.runs.sl
  have xlen := HX.runs.len
  have K := G.stepG hid h1
  obtain ⟨b, hb, S⟩ := T.step_own
  have OT := S.t T.run.ok T.ok
  have many := I.many
  have qpos : 0 < w.queue.length := List.length_pos_iff.2 q0
  have qL := hR.queue.lenA (e := 3)
  obtain ⟨qi, qa, _⟩ := queue_hd q0 hR.queue
  have e0 := T.e0
  have hi := T.hi
  have hi' : i < cs.length := by omega
  have xi : i < (stepP w (headQ w)).runs.length := by have := K.k.len; omega
  have xi' : i < cs1.length := by omega
  have wi : IntKind.i64.wrap ((i : Int) + 1 - 1) = (i : Int) := by rw [wrapS (by omega) (by omega)]; omega
  have wi' : IntKind.i64.wrap (i : Int) = (i : Int) := wrapS (by omega) (by omega)
  rw [e0] at qa
  have ER := hR.runs.each i hi
  have er : w.runs[i] = runAt w (headQ w) := by have := T.get; rw [List.getElem?_eq_getElem hi] at this; simpa using this
  rw [er] at ER
  have EX := HX.runs.each i xi
  have eb : (stepP w (headQ w)).runs[i] = b := by rw [List.getElem?_eq_getElem xi] at hb; simpa using hb
  rw [eb] at EX
  obtain ⟨m, hm⟩ := Int.eq_ofNat_of_zero_le T.run.ok.at_.1
  obtain ⟨ml, mg⟩ := T.opg
  rw [hm, Int.toNat_natCast] at ml mg
  have hop := T.op
  have C := hR.code
  have qp : ¬ w.queue.length = 0 := by omega
  have fin := P.ext.2
  obtain ⟨o, ho⟩ : ∃ o, codeAt w (runAt w (headQ w)).at_ = o := ⟨_, rfl⟩
  rw [ho] at S T OT
  have cm : w.code[m] = o := by
    rw [← ho, hm]
    unfold codeAt
    rw [Int.toNat_natCast, List.getElem?_eq_getElem ml]; rfl
  have sf := S.setfacts T.run.ok T.ok
  obtain ⟨r, hr⟩ : ∃ r, runAt w (headQ w) = r := ⟨_, rfl⟩
  rw [hr] at hm ER sf T OT S
  have orr := op_r T.ok
  have ors := op_s T.ok
  obtain ⟨sr, hsr⟩ : ∃ sr : Nat, o.r = sr := ⟨o.r.toNat, by omega⟩
  obtain ⟨ss, hss⟩ : ∃ ss : Nat, o.s = ss := ⟨o.s.toNat, by omega⟩
  have sl4 := T.run.ok.len
  have hs4 : sr < 4 := by omega
  have ht4 : ss < 4 := by omega
  have SR := ER.slots
  have SB := EX.slots
  have RB := (K.g.inv.each i b hb).ok
  have bl4 := RB.len
  have w1 : IntKind.i64.wrap ((m : Int) + 1) = (m : Int) + 1 := wrapS (by omega) (by have := (codeOk_len I.safe.ok); omega)
  obtain ⟨D, hD⟩ : ∃ D : Bool, (!(decide (r.slots[sr]'(by omega) = b.slots[sr]'(by omega))) || (has r.full sr != has b.full sr)) = D := ⟨_, rfl⟩
  obtain ⟨dn, hdn⟩ : ∃ dn : Nat → Nat, (fun j => if sr < j ∧ D = true then 1 else 0) = dn := ⟨_, rfl⟩
  have dv : ∀ j, dn j = if sr < j ∧ D = true then 1 else 0 := fun j => by rw [← hdn]
  have d1 : ∀ j, dn j ≤ 1 := fun j => by rw [dv]; split <;> omega
  simp [Tryz.f11, eL, z, e1, e2, e3, e4, e5, qL, q0, qp, qi, qa, wi, wi', ixA_nat hrs, hi', hrs.at, ixA_nat xrs, xi', xrs.at, ER.at_, hm, ixA_nat C, C.at, ml, cm]
  refine ⟨by kernel_rfl, by kernel_rfl, by kernel_rfl, ?_⟩
  refine count_wp 4 (fun j => ([.c (.bool false), .c (ci (dn j)), .c (ci j)], [encR cs[i], encR cs1[i], encO o], [], k3)) (fun _ => True) (by simp [dv, ER.at_, hm]) trivial ?_ ?_
  · intro j hj _
    have hj3 : (j : Int) ≤ 3 := by omega
    have wj : IntKind.i64.wrap ((j : Int) + 1) = (j : Int) + 1 := wrapS (by omega) (by omega)
    have b1 := c_lvBit (h := k3) (b := r.full) (s := (j : Int)) (by have := T.run.ok.full; omega) (by omega)
    have b2 := c_lvBit (h := k3) (b := b.full) (s := (j : Int)) (by have := RB.full; omega) (by omega)
    have pv : ∀ a b : PVal, a.k = b.k → a.n = b.n → a = b := by rintro ⟨_, _⟩ ⟨_, _⟩ rfl rfl; rfl
    rw [Wp_body]
    by_cases y : j = sr
    · subst y
      have wd : IntKind.i64.wrap ((dn j : Int) + 1) = (dn j : Int) + 1 := wrapS (by omega) (by have := d1 j; omega)
      have z0 : dn j = 0 := by rw [dv]; simp
      by_cases se : r.slots[j]'(by omega) = b.slots[j]'(by omega)
      · by_cases he : has r.full (j : Int) = has b.full (j : Int)
        · have dd : D = false := by rw [← hD]; simp [se, he]
          have z1 : dn (j + 1) = 0 := by rw [dv]; simp [dd]
          simp [hj3, ixA_nat SR, sl4, hj, SR.at, ixA_nat SB, bl4, SB.at, se, ER.full, EX.full, b1, b2, he, wj, z0, z1]
          unfold LexOk; kernel_rfl
        · have dd : D = true := by rw [← hD]; simp [se, he]
          have z1 : dn (j + 1) = 1 := by rw [dv]; simp [dd]
          simp [hj3, ixA_nat SR, sl4, hj, SR.at, ixA_nat SB, bl4, SB.at, se, ER.full, EX.full, b1, b2, he, wj, z0, z1, hsr]
          exact ⟨by unfold LexOk; kernel_rfl, by decide⟩
      · have dd : D = true := by rw [← hD]; simp [se]
        have z1 : dn (j + 1) = 1 := by rw [dv]; simp [dd]
        simp [hj3, ixA_nat SR, sl4, hj, SR.at, ixA_nat SB, bl4, SB.at, se, ER.full, EX.full, b1, b2, wj, z0, z1, hsr]
        exact ⟨by unfold LexOk; kernel_rfl, fun _ => by decide, fun h1 h2 => absurd (pv _ _ h1 h2) se⟩
    · have hs := OT.slots j (by omega) (by rw [hsr]; omega)
      have z1 : dn (j + 1) = dn j := by rw [dv, dv]; congr 1; apply propext; constructor <;> (rintro ⟨q1, q2⟩; exact ⟨by omega, q2⟩)
      have gj : r.slots[j]'(by omega) = b.slots[j]'(by omega) := by
        have := hs.1
        rw [List.getElem?_eq_getElem (by omega), List.getElem?_eq_getElem (by omega)] at this
        simpa using this.symm
      simp [hj3, ixA_nat SR, sl4, hj, SR.at, ixA_nat SB, bl4, SB.at, gj, ER.full, EX.full, b1, b2, hs.2, wj, z1]
      unfold LexOk; kernel_rfl
  · intro _
    rw [Wp_body]
    simp
    have d4 := d1 4
    refine ⟨fun _ => ⟨fun _ => fin, fun n3 => ⟨fun _ => fin, fun n4 => ⟨fun _ => fin, fun n5 => ?_⟩⟩⟩, by omega⟩
    rw [ER.at_, hm, w1] at n4
    rw [EX.at_] at n4 n5
    rw [EX.state] at n3 ⊢
    rw [EX.at_, ER.at_]
    rcases OT.at_ with q | q | q | q
    · exact absurd q n3
    · rw [hm] at q; exact absurd q n4
    · exact absurd q n5
    · exact ⟨fun _ => ⟨q.2, fin⟩, q.1⟩
end Go.Proofs.YtjopaifbpeojeaaGreat
