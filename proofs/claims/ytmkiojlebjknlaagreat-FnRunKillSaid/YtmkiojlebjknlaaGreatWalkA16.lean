/-
  What functions of the seat answer, each proved once; each under the condition that cells bear what it is given, as its statement says.
-/
import Derived.Test.YtmkiojlebjknlaaGreatWalkA15
set_option linter.all false
/-
 THE REFERENCE'S l1Add, l21Other: what they answer.
-/
set_option maxRecDepth 8000
namespace Go.Proofs.YtmkiojlebjknlaaGreat
open Go.AM
variable {h h' : H} {lo : Nat} {w : PWorld} {c : WorldC} {st cs : List RunC}
theorem valOk_n {v : PVal} (h : valOk v = true) : -99 ≤ v.n ∧ v.n ≤ 99 := by
 unfold valOk at h
 split at h
 ·simp at h; omega
 ·split at h
  ·simpa using h
  ·split at h
   ·simp at h; omega
   ·split at h
    ·simp at h; omega
    ·cases h
theorem valOk_3 {v : PVal} (h : valOk v = true) (k : v.k = 3) : 1 ≤ v.n ∧ v.n ≤ 6 := by
 unfold valOk at h
 rw [if_neg (by omega), if_neg (by omega), if_neg (by omega), if_pos k] at h
 simpa using h
theorem c_l1Add {a b : PVal} (ha : valOk a = true) (hb : valOk b = true) : Dz.den 113 [.g (encV a), .g (encV b)] h = some (.t [.g (encV ((addP a b).getD ⟨0, 0⟩)), .c (.bool (addP a b).isSome)], h) := by
 have h1 := valOk_n ha
 have h2 := valOk_n hb
 have w1 : IntKind.i64.wrap (a.n + b.n) = a.n + b.n := wrap_i64 (by omega) (by omega)
 have hv : valOk ⟨1, a.n + b.n⟩ = decide (-99 ≤ a.n + b.n ∧ a.n + b.n ≤ 99) := by simp [valOk]
 by_cases d : a.k = 1 ∧ b.k = 1 ∧ -99 ≤ a.n + b.n ∧ a.n + b.n ≤ 99
 ·refine den_plain rfl Tryz.func113 rfl (by simp [V.plain, V.plain1]) ?_
  unfold addP
  rw [if_pos d]
  obtain ⟨d1, d2, d3⟩ := d
  simp [Tryz.f113, w1, d1, d2, d3, hv]
  rfl
 ·refine den_plain rfl Tryz.func113 rfl (by simp [V.plain, V.plain1]) ?_
  unfold addP
  rw [if_neg d]
  by_cases d1 : a.k = 1
  ·by_cases d2 : b.k = 1
   ·have d3 : ¬ (-99 ≤ a.n + b.n ∧ a.n + b.n ≤ 99) := fun hh => d ⟨d1, d2, hh⟩
    simp [Tryz.f113, w1, d1, d2, d3, hv]
    rfl
   ·simp [Tryz.f113, w1, d1, d2, hv]
    rfl
  ·simp [Tryz.f113, w1, d1, hv]
   rfl
theorem WorldV.layNext (hV : WorldV lo h w c cs cs) {i : Nat} (hi : i < w.runs.length) :
  ∃ h', h.write (sid c.runs) (soff c.runs + i) 0 (encR { (cs[i]'(by have := hV.len; omega)) with at_ := w.runs[i].at_ + 1 }) = some h' ∧
   WorldV lo h' { w with runs := w.runs.set i (nextRun w.runs[i]) } c (cs.set i { (cs[i]'(by have := hV.len; omega)) with at_ := w.runs[i].at_ + 1 }) (cs.set i { (cs[i]'(by have := hV.len; omega)) with at_ := w.runs[i].at_ + 1 }) ∧
   StepV h (part c cs) h' (part c (cs.set i { (cs[i]'(by have := hV.len; omega)) with at_ := w.runs[i].at_ + 1 })) := by
 have q := hV.each i hi
 obtain ⟨h1, e1, v1, g1⟩ := hV.put (i := i) hi (j := 0) (xs := encR { (cs[i]'(by have := hV.len; omega)) with at_ := w.runs[i].at_ + 1 }) (r := nextRun w.runs[i]) (r' := { (cs[i]'(by have := hV.len; omega)) with at_ := w.runs[i].at_ + 1 }) (by simp [splice]) (by simp) (fun _ q => ⟨q.id, rfl, q.slots, q.full, q.mail, q.state, q.due, q.links, q.watched, q.trap, q.why, q.turns⟩) rfl rfl rfl rfl
 exact ⟨h1, e1, v1, g1⟩
set_option maxRecDepth 16000 in
set_option maxHeartbeats 4000000 in
theorem c_l21Other (hV : WorldV lo h w c cs cs) {id : Int} {i : Nat} {r : PRun} {o : POp} (T : Turn w id i r o) (I : Inv w) (hs : w.sent ≤ 1000000000) (hk : o.kind = 6 ∨ o.kind = 11 ∨ o.kind = 12) :
  @Wp _ (Dz.den 116 [.g (encW c), .c (.int .i64 id), .g (encO o)] h) ⟨StepQ lo h (part c cs) (otherP w id o)⟩ := by
 refine den_wp rfl Tryz.func116 rfl ?_
 have K1 := T.nextK I (by omega) (by simp [fillsK]; omega)
 obtain ⟨hi, hri⟩ := T.runs
 have e0 := T.e0
 subst e0
 subst hri
 have hlen := hV.len
 have hi' : i < cs.length := by omega
 have hr := hV.each i hi
 have hS := hV.runs
 have hSl := hr.slots
 have R := T.run.ok
 obtain ⟨i1, i2, i3⟩ := T.idr I
 have h6 : i < 6 := by omega
 have wi : IntKind.i64.wrap (i : Int) = i := wrapS (by omega) (by omega)
 have hop := op_r T.ok
 have hos := op_s T.ok
 obtain ⟨ra, hra⟩ : ∃ n : Nat, o.r = n := ⟨o.r.toNat, by omega⟩
 obtain ⟨sa, hsa⟩ : ∃ n : Nat, o.s = n := ⟨o.s.toNat, by omega⟩
 have hra4 : ra < w.runs[i].slots.length := by rw [R.len]; omega
 have hsa4 : sa < w.runs[i].slots.length := by rw [R.len]; omega
 have hto : slotAt w.runs[i] o.r = w.runs[i].slots[ra] := by unfold slotAt; rw [hra, Int.toNat_natCast, List.getElem?_eq_getElem hra4]; rfl
 have hsv : slotAt w.runs[i] o.s = w.runs[i].slots[sa] := by unfold slotAt; rw [hsa, Int.toNat_natCast, List.getElem?_eq_getElem hsa4]; rfl
 have okto := slotAt_ok R hop.1 hop.2
 have oksv := slotAt_ok R hos.1 hos.2
 rw [hto] at okto
 rw [hsv] at oksv
 obtain ⟨w1, hw1⟩ : ∃ w1 : PWorld, w1 = { w with runs := w.runs.set i (nextRun w.runs[i]) } := ⟨_, rfl⟩
 have eO : otherP w ((i : Int) + 1) o = (if w.runs[i].slots[ra].k ≠ 3 then fallP w ((i : Int) + 1) ⟨2, 2⟩
  else if o.kind = 6 then giveP w1 w.runs[i].slots[ra].n w.runs[i].slots[sa]
  else if o.kind = 12 ∧ ¬ Alive w w.runs[i].slots[ra].n then giveP w1 ((i : Int) + 1) w.runs[i].slots[ra]
  else if w.runs[i].slots[ra].n = (i : Int) + 1 ∨ ¬ Alive w w.runs[i].slots[ra].n then w1
  else if o.kind = 12 ∧ (i : Int) + 1 ∉ (runAt w w.runs[i].slots[ra].n).watched then watchP w1 ((i : Int) + 1) w.runs[i].slots[ra].n
  else if o.kind = 11 ∧ w.runs[i].slots[ra].n ∉ w.runs[i].links then linkP w1 ((i : Int) + 1) w.runs[i].slots[ra].n
  else w1) := by
  unfold otherP
  rw [hw1]
  simp only [runAt_nat hi, hto, hsv, setRun_at]
 rw [eO]
 have hdr : w.runs[i].slots[ra]?.getD default = w.runs[i].slots[ra] := by rw [List.getElem?_eq_getElem hra4]; rfl
 generalize hgt : w.runs[i].slots[ra] = to at *
 have hds : w.runs[i].slots[sa]?.getD default = w.runs[i].slots[sa] := by rw [List.getElem?_eq_getElem hsa4]; rfl
 generalize hgs : w.runs[i].slots[sa] = sv at *
 by_cases k3 : to.k = 3
 case neg =>
  obtain ⟨_, e2, h2, c2, cs2, rfl, v2, g2⟩ := c_l13End hV I (by omega) (id := (i : Int) + 1) (by omega) (why := ⟨2, 2⟩) rfl
  simp only [encW, encV] at e2
  rw [if_pos k3]
  simp [Tryz.f116, wi, hi', ixA_nat hS, hS.at, hra, hra4, ixA_nat hSl, hSl.at, hgt, k3, e2]
  exact ⟨h2, c2, cs2, rfl, v2, g2⟩
 case pos =>
  rw [if_neg (by omega)]
  have e1 := c_l21Next (h := h) (r := cs[i]) (a := w.runs[i].at_) hr.at_ (by have := R.at_; omega)
  obtain ⟨h1, e2, v1, g1⟩ := hV.layNext hi
  generalize hcs1 : cs.set i { cs[i] with at_ := w.runs[i].at_ + 1 } = cs1 at v1 g1
  have hton := valOk_3 okto k3
  rw [← hw1] at v1
  have Iw1 : Inv w1 := by have := K1.inv; rw [setRun_at] at this; rw [hw1]; exact this
  have hw1n : w1.runs.length = w.runs.length := by rw [hw1]; simp
  have hw1s : w1.sent = w.sent := by rw [hw1]
  obtain ⟨m, em⟩ : ∃ m : Nat, to.n = (m : Int) + 1 := ⟨(to.n - 1).toNat, by omega⟩
  have wm : IntKind.i64.wrap (m : Int) = m := wrapS (by omega) (by omega)
  have hl1 := v1.len
  have hS1 := v1.runs
  have hri1 : w1.runs[i]'(by omega) = nextRun w.runs[i] := by subst hw1; simp
  simp only [encR] at e1 e2
  have hi1 : i < cs1.length := by omega
  have hmm : ∀ hm : m < w.runs.length, ∃ hm1 : m < w1.runs.length, w1.runs[m].state = w.runs[m].state ∧ w1.runs[m].watched = w.runs[m].watched ∧ (m ≠ i → w1.runs[m] = w.runs[m]) := fun hm => by
   refine ⟨by omega, ?_⟩
   have : w1.runs[m]'(by omega) = if i = m then nextRun w.runs[i] else w.runs[m] := by simp only [hw1, List.getElem_set]
   rw [this]
   by_cases e : i = m
   ·subst e; simp [nextRun]
   ·simp [e]
  have eAl : ∀ hm : m < w.runs.length, (Alive w to.n ↔ w.runs[m].state ≠ 3) := fun hm => by
   unfold Alive; rw [em, runAt_nat hm]
   exact ⟨fun h => h.2, fun h => ⟨by omega, h⟩⟩
  have hi1w' : i < w1.runs.length := by omega
  have hSl1 : Sl h1 cs[i].slots 2 encV w.runs[i].slots := by
   have e7 := (v1.each i hi1w').slots
   rw [hri1] at e7
   have e6 : cs1[i].slots = cs[i].slots := (by simp [← hcs1])
   rw [e6] at e7
   exact e7
  by_cases k6 : o.kind = 6
  ·obtain ⟨_, e3, h3, c3, cs3, rfl, v3, g3⟩ := c_l12Give v1 (Iw1.sane (by omega)) to.n sv
   rw [em] at e3
   simp only [encW, encV] at e3
   rw [if_pos k6]
   by_cases hm : m < w.runs.length
   ·obtain ⟨hm1, st1, wt1, rn1⟩ := hmm hm
    have hm2 : m < cs1.length := by omega
    have hrm := v1.each m hm1
    have hst := hrm.state
    have hml : (m : Int) + 1 ≤ w1.runs.length := by omega
    by_cases s3 : cs1[m].state = 3
    ·have nal : ¬ Alive w to.n := fun h => (eAl hm).1 h (by rw [← st1, ← hst]; exact s3)
     simp [Tryz.f116, wi, hi', ixA_nat hS, hS.at, hra, hra4, ixA_nat hSl, hSl.at, hgt, k3, e1, e2, hS1.lenA, hl1, em, wm, ixA_nat hS1, hS1.at, ixA_nat hSl1, hSl1.at, hml, hm1, hm2, s3, k6, hsa, hsa4, hgs, e3]
     rw [← em]
     exact ⟨by kernel_rfl, by kernel_rfl, h3, c3, cs3, rfl, v3, g1.trans g3⟩
    ·have al : Alive w to.n := (eAl hm).2 (by rw [← st1, ← hst]; exact s3)
     simp [Tryz.f116, wi, hi', ixA_nat hS, hS.at, hra, hra4, ixA_nat hSl, hSl.at, hgt, k3, e1, e2, hS1.lenA, hl1, em, wm, ixA_nat hS1, hS1.at, ixA_nat hSl1, hSl1.at, hml, hm1, hm2, s3, k6, hsa, hsa4, hgs, e3]
     rw [← em]
     exact ⟨by kernel_rfl, by kernel_rfl, h3, c3, cs3, rfl, v3, g1.trans g3⟩
   ·have hml : ¬ (m : Int) + 1 ≤ w1.runs.length := by omega
    have nal : ¬ Alive w to.n := fun h => by have := h.1; omega
    simp [Tryz.f116, wi, hi', ixA_nat hS, hS.at, hra, hra4, ixA_nat hSl, hSl.at, hgt, k3, e1, e2, hS1.lenA, hl1, em, wm, ixA_nat hS1, hS1.at, ixA_nat hSl1, hSl1.at, hml, k6, hsa, hsa4, hgs, e3]
    rw [← em]
    exact ⟨by kernel_rfl, by kernel_rfl, h3, c3, cs3, rfl, v3, g1.trans g3⟩
  rw [if_neg k6]
  by_cases k12 : o.kind = 12
  ·obtain ⟨_, e3, h3, c3, cs3, rfl, v3, g3⟩ := c_l12Give v1 (Iw1.sane (by omega)) ((i : Int) + 1) to
   simp only [encW, encV, em, k3] at e3
   by_cases hm : m < w.runs.length
   ·obtain ⟨hm1, st1, wt1, rn1⟩ := hmm hm
    have hm2 : m < cs1.length := by omega
    have hrm := v1.each m hm1
    have hst := hrm.state
    have hml : (m : Int) + 1 ≤ w1.runs.length := by omega
    by_cases s3 : cs1[m].state = 3
    ·have nal : ¬ Alive w to.n := fun h => (eAl hm).1 h (by rw [← st1, ← hst]; exact s3)
     rw [if_pos ⟨k12, nal⟩]
     simp [Tryz.f116, wi, hi', ixA_nat hS, hS.at, hra, hra4, ixA_nat hSl, hSl.at, hgt, k3, e1, e2, hS1.lenA, hl1, em, wm, ixA_nat hS1, hS1.at, ixA_nat hSl1, hSl1.at, hml, hm1, hm2, s3, k12, e3]
     exact ⟨by kernel_rfl, h3, c3, cs3, rfl, v3, g1.trans g3⟩
    ·have al : Alive w to.n := (eAl hm).2 (by rw [← st1, ← hst]; exact s3)
     rw [if_neg (fun hh => hh.2 al)]
     by_cases emi : m = i
     ·subst emi
      rw [if_pos (.inl em)]
      simp [Tryz.f116, wi, hi', ixA_nat hS, hS.at, hra, hra4, ixA_nat hSl, hSl.at, hgt, k3, e1, e2, hS1.lenA, hl1, em, wm, ixA_nat hS1, hS1.at, ixA_nat hSl1, hSl1.at, hml, hm1, hm2, s3, k12]
      exact ⟨by kernel_rfl, h1, c, cs1, rfl, v1, g1⟩
     ·have hne : ¬ (m : Int) = i := by omega
      rw [if_neg (fun hh => hh.elim (fun h1 => by omega) (fun h1 => h1 al))]
      have hw := c_l11Among hrm.watched ((i : Int) + 1)
      have hwm : w1.runs[m].watched = (runAt w ((m : Int) + 1)).watched := by rw [runAt_nat hm, wt1]
      rw [hwm] at hw
      by_cases ham : (i : Int) + 1 ∈ (runAt w ((m : Int) + 1)).watched
      ·rw [if_neg (fun hh => hh.2 (by rw [em]; exact ham)), if_neg (by omega)]
       simp [Tryz.f116, wi, hi', ixA_nat hS, hS.at, hra, hra4, ixA_nat hSl, hSl.at, hgt, k3, e1, e2, hS1.lenA, hl1, em, wm, ixA_nat hS1, hS1.at, ixA_nat hSl1, hSl1.at, hml, hm1, hm2, s3, k12, hne, hw, ham]
       exact ⟨by kernel_rfl, h1, c, cs1, rfl, v1, g1⟩
      ·rw [if_pos ⟨k12, by rw [em]; exact ham⟩]
       obtain ⟨s4, k4, h4, e4, e5, S4, v4, g4, _⟩ := v1.watchedAdd hm1 ((i : Int) + 1) (by rw [hwm]; have := (T.run.ok); have q := (I.run (id := to.n) al.1); obtain ⟨_, _, _, _, _, Rm⟩ := q; have := Rm.ok.watched.len; rw [em] at this; unfold lenMost; omega)
       simp only [encI] at e4
       have hS4 := S4
       have ePush := hS1.push ⟨false, 1, [[.int .i64 ((i : Int) + 1)]]⟩
       simp [Tryz.f116, wi, hi', ixA_nat hS, hS.at, hra, hra4, ixA_nat hSl, hSl.at, hgt, k3, e1, e2, hS1.lenA, hl1, em, wm, ixA_nat hS1, hS1.at, ixA_nat hSl1, hSl1.at, hml, hm1, hm2, s3, k12, hne, hw, ham, e4, ixA_nat hS4, e5, ixA_nat ePush, ePush.at]
       refine ⟨by kernel_rfl, by kernel_rfl, h4, c, _, rfl, ?_, g1.trans g4⟩
       unfold watchP
       rw [setRun_at, runAt_nat hm1]
       exact v4
   ·have hml : ¬ (m : Int) + 1 ≤ w1.runs.length := by omega
    have nal : ¬ Alive w to.n := fun h => by have := h.1; omega
    rw [if_pos ⟨k12, nal⟩]
    simp [Tryz.f116, wi, hi', ixA_nat hS, hS.at, hra, hra4, ixA_nat hSl, hSl.at, hgt, k3, e1, e2, hS1.lenA, hl1, em, wm, ixA_nat hS1, hS1.at, ixA_nat hSl1, hSl1.at, hml, k12, e3]
    exact ⟨by kernel_rfl, h3, c3, cs3, rfl, v3, g1.trans g3⟩
  have k11 : o.kind = 11 := by omega
  rw [if_neg (fun hh => k12 hh.1)]
  by_cases hm : m < w.runs.length
  ·obtain ⟨hm1, st1, wt1, rn1⟩ := hmm hm
   have hm2 : m < cs1.length := by omega
   have hrm := v1.each m hm1
   have hst := hrm.state
   have hml : (m : Int) + 1 ≤ w1.runs.length := by omega
   by_cases s3 : cs1[m].state = 3
   ·have nal : ¬ Alive w to.n := fun h => (eAl hm).1 h (by rw [← st1, ← hst]; exact s3)
    rw [if_pos (.inr nal)]
    simp [Tryz.f116, wi, hi', ixA_nat hS, hS.at, hra, hra4, ixA_nat hSl, hSl.at, hgt, k3, e1, e2, hS1.lenA, hl1, em, wm, ixA_nat hS1, hS1.at, ixA_nat hSl1, hSl1.at, hml, hm1, hm2, s3, k11]
    exact ⟨by kernel_rfl, h1, c, cs1, rfl, v1, g1⟩
   ·have al : Alive w to.n := (eAl hm).2 (by rw [← st1, ← hst]; exact s3)
    by_cases emi : m = i
    ·subst emi
     rw [if_pos (.inl em)]
     simp [Tryz.f116, wi, hi', ixA_nat hS, hS.at, hra, hra4, ixA_nat hSl, hSl.at, hgt, k3, e1, e2, hS1.lenA, hl1, em, wm, ixA_nat hS1, hS1.at, ixA_nat hSl1, hSl1.at, hml, hm1, hm2, s3, k11]
     exact ⟨by kernel_rfl, h1, c, cs1, rfl, v1, g1⟩
    ·have hne : ¬ (m : Int) = i := by omega
     rw [if_neg (fun hh => hh.elim (fun h1 => by omega) (fun h1 => h1 al)), if_neg (fun hh => k12 hh.1)]
     have hi1w : i < w1.runs.length := by omega
     have hri2 := v1.each i hi1w
     have hlk : w1.runs[i].links = w.runs[i].links := by rw [hri1]; rfl
     have hl := c_l11Among (h := h1) (s := cs[i].links) (xs := w.runs[i].links) (by have := hri2.links; rw [hlk] at this; have e6 : cs1[i].links = cs[i].links := (by simp [← hcs1]); rw [e6] at this; exact this) to.n
     rw [em] at hl
     by_cases ham : (m : Int) + 1 ∈ w.runs[i].links
     ·rw [if_neg (fun hh => hh.2 (by rw [em]; exact ham))]
      simp [Tryz.f116, wi, hi', ixA_nat hS, hS.at, hra, hra4, ixA_nat hSl, hSl.at, hgt, k3, e1, e2, hS1.lenA, hl1, em, wm, ixA_nat hS1, hS1.at, ixA_nat hSl1, hSl1.at, hml, hm1, hm2, s3, k11, hne, hl, ham]
      exact ⟨by kernel_rfl, h1, c, cs1, rfl, v1, g1⟩
     ·rw [if_pos ⟨k11, by rw [em]; exact ham⟩]
      obtain ⟨s4, k4, h4, e4, e5, S4, v4, g4, _⟩ := v1.linksAdd (i := i) (by omega) ((m : Int) + 1) (by rw [hlk]; have := R.links.len; unfold lenMost; omega)
      have hm4 : m < (cs1.set i { cs1[i] with links := s4 }).length := by simp; omega
      have hm5 : m < (w1.runs.set i { w1.runs[i] with links := w1.runs[i].links ++ [(m : Int) + 1] }).length := by simp; omega
      have hmr : (w1.runs.set i { w1.runs[i] with links := w1.runs[i].links ++ [(m : Int) + 1] })[m] = w1.runs[m] := by rw [List.getElem_set_ne (by omega)]
      have hmc : (cs1.set i { cs1[i] with links := s4 })[m] = cs1[m] := by rw [List.getElem_set_ne (by omega)]
      obtain ⟨s6, k6', h6', e6, e7, S6, v6, g6, _⟩ := v4.linksAdd (i := m) hm5 ((i : Int) + 1) (by simp only [hmr]; rw [rn1 emi]; obtain ⟨_, _, _, _, _, Rm⟩ := (I.run (id := to.n) al.1); have := Rm.ok.links.len; rw [em, runAt_nat hm] at this; unfold lenMost; omega)
      simp only [hmc] at e6
      have hS4 := S4
      have hS4' := v4.runs
      have hS6 := S6
      have ePush := hS1.push ⟨false, 1, [[.int .i64 ((m : Int) + 1)]]⟩
      have ePush4 := hS4'.push ⟨false, 1, [[.int .i64 ((i : Int) + 1)]]⟩
      simp only [encI] at e4 e6
      simp [Tryz.f116, wi, hi', ixA_nat hS, hS.at, hra, hra4, ixA_nat hSl, hSl.at, hgt, k3, e1, e2, hS1.lenA, hl1, em, wm, ixA_nat hS1, hS1.at, ixA_nat hSl1, hSl1.at, hml, hm1, hm2, s3, k11, hne, hl, ham, hi1, hi1w, e4, ixA_nat hS4, e5, ixA_nat ePush, ePush.at, ixA_nat hS4', hS4'.at, hm4, hmc, e6, ixA_nat hS6, e7, ixA_nat ePush4, ePush4.at]
      refine ⟨by kernel_rfl, by kernel_rfl, by kernel_rfl, h6', c, _, rfl, ?_, g1.trans (g4.trans g6)⟩
      unfold linkP
      simp only [setRun_at, runAt_nat hi1w']
      rw [runAt_nat (w := { w1 with runs := w1.runs.set i { w1.runs[i] with links := w1.runs[i].links ++ [(m : Int) + 1] } }) hm5]
      exact v6
  ·have hml : ¬ (m : Int) + 1 ≤ w1.runs.length := by omega
   have nal : ¬ Alive w to.n := fun h => by have := h.1; omega
   rw [if_pos (.inr nal)]
   simp [Tryz.f116, wi, hi', ixA_nat hS, hS.at, hra, hra4, ixA_nat hSl, hSl.at, hgt, k3, e1, e2, hS1.lenA, hl1, em, wm, ixA_nat hS1, hS1.at, ixA_nat hSl1, hSl1.at, hml, k11]
   exact ⟨by kernel_rfl, h1, c, cs1, rfl, v1, g1⟩
end Go.Proofs.YtmkiojlebjknlaaGreat

/-
 THE REFERENCE's l21Step: what it answers.
-/
set_option maxRecDepth 8000
namespace Go.Proofs.YtmkiojlebjknlaaGreat
open Go.AM
variable {h h' : H} {lo : Nat} {w : PWorld} {c : WorldC} {st cs : List RunC}
set_option maxRecDepth 16000 in
set_option maxHeartbeats 4000000 in
theorem c_l21Step (hV : WorldV lo h w c cs cs) {id : Int} {i : Nat} {r : PRun} {o : POp} (T : Turn w id i r o) (I : Inv w) (hs : w.sent ≤ 1000000000) :
  @Wp _ (Dz.den 68 [.g (encW c), .c (.int .i64 id)] h) ⟨StepQ lo h (part c cs) (stepP w id)⟩ := by
 refine den_wp rfl Tryz.func68 rfl ?_
 obtain ⟨hi, hri⟩ := T.runs
 have e0 := T.e0
 subst e0
 subst hri
 have hlen := hV.len
 have hi' : i < cs.length := by omega
 have hr := hV.each i hi
 have hS := hV.runs
 have hSl := hr.slots
 have hC := hV.code
 have R := T.run.ok
 obtain ⟨i1, i2, i3⟩ := T.idr I
 have h6 : i < 6 := by omega
 have wi : IntKind.i64.wrap (i : Int) = i := wrapS (by omega) (by omega)
 have hop := op_r T.ok
 have hos := op_s T.ok
 have hkd := op_kind T.ok
 obtain ⟨ra, hra⟩ : ∃ n : Nat, o.r = n := ⟨o.r.toNat, by omega⟩
 obtain ⟨sa, hsa⟩ : ∃ n : Nat, o.s = n := ⟨o.s.toNat, by omega⟩
 have hra4 : ra < w.runs[i].slots.length := by rw [R.len]; omega
 have hsa4 : sa < w.runs[i].slots.length := by rw [R.len]; omega
 have hto : slotAt w.runs[i] o.r = w.runs[i].slots[ra] := by unfold slotAt; rw [hra, Int.toNat_natCast, List.getElem?_eq_getElem hra4]; rfl
 have hsv : slotAt w.runs[i] o.s = w.runs[i].slots[sa] := by unfold slotAt; rw [hsa, Int.toNat_natCast, List.getElem?_eq_getElem hsa4]; rfl
 have okto := slotAt_ok R hop.1 hop.2
 have oksv := slotAt_ok R hos.1 hos.2
 rw [hto] at okto
 rw [hsv] at oksv
 obtain ⟨n, hn⟩ : ∃ n : Nat, w.runs[i].at_ = n := ⟨w.runs[i].at_.toNat, by have := R.at_; omega⟩
 have hnc : n < w.code.length := by have := T.run.at_; omega
 have hco : w.code[n] = o := by have := T.opg.2; rw [hn, Int.toNat_natCast, List.getElem?_eq_getElem hnc] at this; simpa using this
 have hat : cs[i].at_ = n := by rw [hr.at_, hn]
 have wn : IntKind.i64.wrap ((n : Int) + 1) = (n : Int) + 1 := wrapS (by omega) (by have := R.at_; omega)
 have hop2 : codeAt w (n : Int) = o := by rw [← hn]; exact T.op
 have eS : stepP w ((i : Int) + 1) = (if o.kind = 1 then setP w ((i : Int) + 1) o.r o.v
  else if o.kind = 2 then setP w ((i : Int) + 1) o.r w.runs[i].slots[sa]
  else if o.kind = 3 then (match addP w.runs[i].slots[ra] w.runs[i].slots[sa] with | none => fallP w ((i : Int) + 1) ⟨2, 1⟩ | some v => setP w ((i : Int) + 1) o.r v)
  else if o.kind = 4 then setP w ((i : Int) + 1) o.r ⟨3, (i : Int) + 1⟩
  else if o.kind = 5 then beginP w ((i : Int) + 1) o
  else if o.kind = 7 ∨ o.kind = 8 then takeP w ((i : Int) + 1) o
  else if o.kind = 9 then { w with runs := w.runs.set i { w.runs[i] with at_ := o.to } }
  else if o.kind = 10 then { w with runs := w.runs.set i { w.runs[i] with at_ := if w.runs[i].slots[ra] = o.v then o.to else (n : Int) + 1 } }
  else if o.kind = 13 then { w with runs := w.runs.set i { w.runs[i] with trap := decide (o.v.n = 1), at_ := (n : Int) + 1 } }
  else if o.kind = 14 then fallP w ((i : Int) + 1) w.runs[i].slots[ra]
  else otherP w ((i : Int) + 1) o) := by
  unfold stepP
  simp only [runAt_nat hi, hop2, hto, hsv, setRun_at, hn]
  rfl
 rw [eS]
 have Q : ∀ {w' : PWorld} {x : V × H}, StepQ lo h (part c cs) w' x → StepQ lo h (part c cs) w' x := fun q => q
 have put := fun {j : Nat} {xs : List Cell} {r : PRun} {r' : RunC} => hV.put (i := i) hi (j := j) (xs := xs) (r := r) (r' := r')
 by_cases k1 : o.kind = 1
 ·obtain ⟨_, e2, h2, c2, cs2, rfl, v2, g2⟩ := c_l21Set hV hi h6 R.len R.full R.at_ hop o.v
  simp only [encW, encV] at e2
  rw [if_pos k1]
  simp [Tryz.f68, wi, hi', ixA_nat hS, hS.at, hat, hnc, ixA_nat hC, hC.at, hco, k1, e2]
  exact ⟨h2, c2, cs2, rfl, v2, g2⟩
 rw [if_neg k1]
 by_cases k2 : o.kind = 2
 ·obtain ⟨_, e2, h2, c2, cs2, rfl, v2, g2⟩ := c_l21Set hV hi h6 R.len R.full R.at_ hop w.runs[i].slots[sa]
  simp only [encW, encV] at e2
  rw [if_pos k2]
  simp [Tryz.f68, wi, hi', ixA_nat hS, hS.at, hat, hnc, ixA_nat hC, hC.at, hco, k2, e2, hsa, ixA_nat hSl, hSl.at, hsa4]
  exact ⟨by kernel_rfl, h2, c2, cs2, rfl, v2, g2⟩
 rw [if_neg k2]
 by_cases k3 : o.kind = 3
 ·rw [if_pos k3]
  have ea := c_l1Add (h := h) okto oksv
  simp only [encV] at ea
  cases hadd : addP w.runs[i].slots[ra] w.runs[i].slots[sa] with
  | none =>
   obtain ⟨_, e2, h2, c2, cs2, rfl, v2, g2⟩ := c_l13End hV I (by omega) (id := (i : Int) + 1) (by omega) (why := ⟨2, 1⟩) rfl
   simp only [encW, encV] at e2
   rw [hadd] at ea
   simp only [Option.getD_none, Option.isSome_none] at ea
   simp [Tryz.f68, wi, hi', ixA_nat hS, hS.at, hat, hnc, ixA_nat hC, hC.at, hco, k3, hra, hsa, ixA_nat hSl, hSl.at, hra4, hsa4, ea, e2]
   exact ⟨by kernel_rfl, h2, c2, cs2, rfl, v2, g2⟩
  | some v =>
   obtain ⟨_, e2, h2, c2, cs2, rfl, v2, g2⟩ := c_l21Set hV hi h6 R.len R.full R.at_ hop v
   simp only [encW, encV, hra] at e2
   rw [hadd] at ea
   simp only [Option.getD_some, Option.isSome_some] at ea
   simp [Tryz.f68, wi, hi', ixA_nat hS, hS.at, hat, hnc, ixA_nat hC, hC.at, hco, k3, hra, hsa, ixA_nat hSl, hSl.at, hra4, hsa4, ea, e2]
   exact ⟨by kernel_rfl, h2, c2, cs2, rfl, by rw [← hra]; exact v2, g2⟩
 rw [if_neg k3]
 by_cases k4 : o.kind = 4
 ·obtain ⟨_, e2, h2, c2, cs2, rfl, v2, g2⟩ := c_l21Set hV hi h6 R.len R.full R.at_ hop ⟨3, (i : Int) + 1⟩
  simp only [encW, encV] at e2
  rw [if_pos k4]
  simp [Tryz.f68, wi, hi', ixA_nat hS, hS.at, hat, hnc, ixA_nat hC, hC.at, hco, k4, e2]
  exact ⟨h2, c2, cs2, rfl, v2, g2⟩
 rw [if_neg k4]
 by_cases k5 : o.kind = 5
 ·obtain ⟨_, e2, h2, c2, cs2, rfl, v2, g2⟩ := c_l21Begin hV T I k5
  simp only [encW, encO, k5] at e2
  rw [if_pos k5]
  simp [Tryz.f68, wi, hi', ixA_nat hS, hS.at, hat, hnc, ixA_nat hC, hC.at, hco, k5, e2]
  exact ⟨h2, c2, cs2, rfl, v2, g2⟩
 rw [if_neg k5]
 by_cases k7 : o.kind = 7 ∨ o.kind = 8
 ·obtain ⟨_, e2, h2, c2, cs2, rfl, v2, g2⟩ := c_l21Take hV T I (by omega) k7
  rw [if_pos k7]
  rcases k7 with k7 | k7
  ·simp only [encW, encO, k7] at e2
   simp [Tryz.f68, wi, hi', ixA_nat hS, hS.at, hat, hnc, ixA_nat hC, hC.at, hco, k7, e2]
   exact ⟨h2, c2, cs2, rfl, v2, g2⟩
  ·simp only [encW, encO, k7] at e2
   simp [Tryz.f68, wi, hi', ixA_nat hS, hS.at, hat, hnc, ixA_nat hC, hC.at, hco, k7, e2]
   exact ⟨h2, c2, cs2, rfl, v2, g2⟩
 rw [if_neg k7]
 by_cases k9 : o.kind = 9
 ·obtain ⟨h2, e2, v2, g2⟩ := hV.put (i := i) hi (j := 1) (xs := [.int .i64 o.to]) (r := { w.runs[i] with at_ := o.to }) (r' := { cs[i] with at_ := o.to }) (by simp [splice]) (by simp) (fun _ q => ⟨q.id, rfl, q.slots, q.full, q.mail, q.state, q.due, q.links, q.watched, q.trap, q.why, q.turns⟩) rfl rfl rfl rfl
  rw [if_pos k9]
  simp [Tryz.f68, wi, hi', ixA_nat hS, hS.at, hat, hnc, ixA_nat hC, hC.at, hco, k9, e2]
  exact ⟨h2, c, _, rfl, v2, g2⟩
 rw [if_neg k9]
 by_cases k10 : o.kind = 10
 ·rw [if_pos k10]
  obtain ⟨h2, e2, v2, g2⟩ := hV.put (i := i) hi (j := 1) (xs := [.int .i64 ((n : Int) + 1)]) (r := { w.runs[i] with at_ := (n : Int) + 1 }) (r' := { cs[i] with at_ := (n : Int) + 1 }) (by simp [splice]) (by simp) (fun _ q => ⟨q.id, rfl, q.slots, q.full, q.mail, q.state, q.due, q.links, q.watched, q.trap, q.why, q.turns⟩) rfl rfl rfl rfl
  have hS2 := v2.runs
  have hSl2 : Sl h2 cs[i].slots 2 encV w.runs[i].slots := by have := (v2.each i (by simpa using hi)).slots; simpa using this
  by_cases d : w.runs[i].slots[ra] = o.v
  ·obtain ⟨h3, e3, v3, g3⟩ := v2.put (i := i) (by simpa using hi) (j := 1) (xs := [.int .i64 o.to]) (r := { w.runs[i] with at_ := o.to }) (r' := { cs[i] with at_ := o.to }) (by simp [splice]) (by simp) (fun _ q => by simp only [List.getElem_set_self] at q; exact ⟨q.id, rfl, q.slots, q.full, q.mail, q.state, q.due, q.links, q.watched, q.trap, q.why, q.turns⟩) (by simp) (by simp) (by simp) (by simp)
   simp only [List.set_set] at v3 g3
   have d1 : w.runs[i].slots[ra].k = o.v.k ∧ w.runs[i].slots[ra].n = o.v.n := by rw [d]; exact ⟨rfl, rfl⟩
   rw [if_pos d]
   simp [Tryz.f68, wi, hi', ixA_nat hS, hS.at, hat, hnc, ixA_nat hC, hC.at, hco, k10, wn, e2, hra, ixA_nat hSl2, hSl2.at, hra4, d1, ixA_nat hS2, e3]
   exact ⟨by unfold LexOk; kernel_rfl, h3, c, _, rfl, v3, g2.trans g3⟩
  ·have d1 : ¬ (w.runs[i].slots[ra].k = o.v.k ∧ w.runs[i].slots[ra].n = o.v.n) := fun hh => d (by have a := hh.1; have b := hh.2; cases hq : w.runs[i].slots[ra]; cases hq2 : o.v; rw [hq, hq2] at a b; simp at a b; simp [a, b])
   rw [if_neg d]
   simp [Tryz.f68, wi, hi', ixA_nat hS, hS.at, hat, hnc, ixA_nat hC, hC.at, hco, k10, wn, e2, hra, ixA_nat hSl2, hSl2.at, hra4, d1]
   exact ⟨by unfold LexOk; kernel_rfl, h2, c, _, rfl, v2, g2⟩
 rw [if_neg k10]
 by_cases k13 : o.kind = 13
 ·rw [if_pos k13]
  obtain ⟨h2, e2, v2, g2⟩ := hV.put (i := i) hi (j := 9) (xs := [.bool (decide (o.v.n = 1))]) (r := { w.runs[i] with trap := decide (o.v.n = 1) }) (r' := { cs[i] with trap := decide (o.v.n = 1) }) (by simp [splice]) (by simp) (fun _ q => ⟨q.id, q.at_, q.slots, q.full, q.mail, q.state, q.due, q.links, q.watched, rfl, q.why, q.turns⟩) rfl rfl rfl rfl
  obtain ⟨h3, e3, v3, g3⟩ := v2.put (i := i) (by simpa using hi) (j := 1) (xs := [.int .i64 ((n : Int) + 1)]) (r := { w.runs[i] with trap := decide (o.v.n = 1), at_ := (n : Int) + 1 }) (r' := { cs[i] with trap := decide (o.v.n = 1), at_ := (n : Int) + 1 }) (by simp [splice]) (by simp) (fun _ q => by simp only [List.getElem_set_self] at q; exact ⟨q.id, rfl, q.slots, q.full, q.mail, q.state, q.due, q.links, q.watched, q.trap, q.why, q.turns⟩) (by simp) (by simp) (by simp) (by simp)
  simp only [List.set_set] at v3 g3
  have hS2 := v2.runs
  simp [Tryz.f68, wi, hi', ixA_nat hS, hS.at, hat, hnc, ixA_nat hC, hC.at, hco, k13, wn, e2, ixA_nat hS2, e3]
  exact ⟨h3, c, _, rfl, v3, g2.trans g3⟩
 rw [if_neg k13]
 by_cases k14 : o.kind = 14
 ·rw [if_pos k14]
  obtain ⟨_, e2, h2, c2, cs2, rfl, v2, g2⟩ := c_l13End hV I (by omega) (id := (i : Int) + 1) (by omega) (why := w.runs[i].slots[ra]) okto
  simp only [encW, encV] at e2
  simp [Tryz.f68, wi, hi', ixA_nat hS, hS.at, hat, hnc, ixA_nat hC, hC.at, hco, k14, hra, ixA_nat hSl, hSl.at, hra4, e2]
  exact ⟨by kernel_rfl, h2, c2, cs2, rfl, v2, g2⟩
 rw [if_neg k14]
 have kO : o.kind = 6 ∨ o.kind = 11 ∨ o.kind = 12 := by omega
 obtain ⟨_, e2, h2, c2, cs2, rfl, v2, g2⟩ := c_l21Other hV T I hs kO
 have k7a : ¬ o.kind = 7 := fun hh => k7 (.inl hh)
 have k7b : ¬ o.kind = 8 := fun hh => k7 (.inr hh)
 simp only [encW, encO] at e2
 simp [Tryz.f68, wi, hi', ixA_nat hS, hS.at, hat, hnc, ixA_nat hC, hC.at, hco, k1, k2, k3, k4, k5, k7a, k7b, k9, k10, k13, k14, e2]
 exact ⟨h2, c2, cs2, rfl, v2, g2⟩
end Go.Proofs.YtmkiojlebjknlaaGreat

/-
 THE REFERENCE's turns: what they answer.
-/
set_option maxRecDepth 8000
namespace Go.Proofs.YtmkiojlebjknlaaGreat
open Go.AM
variable {h h' : H} {lo : Nat} {w : PWorld} {c : WorldC} {st cs : List RunC}
theorem sent_phi (w : PWorld) : w.sent ≤ phi w := by unfold phi; omega
theorem phi_sent (I : Inv w) : phi w ≤ w.sent + 72 := by unfold phi; have := aliveN_le w.runs; have := I.many; omega
theorem countP_at {i : Nat} (hi : i < w.runs.length) : countP' w ((i : Int) + 1) = { w with runs := w.runs.set i { w.runs[i] with turns := min (w.runs[i].turns + 1) 9999 } } := by
 unfold countP'; rw [setRun_at, runAt_nat hi]
theorem minA {x : Int} : (if (9999 : Int) < x then (9999 : Int) else x) = min x 9999 := by
 rw [Int.min_def]; split <;> split <;> omega
set_option maxRecDepth 16000 in
set_option maxHeartbeats 2000000 in
theorem c_l21Do (hV : WorldV lo h w c cs cs) (G : Good w) (hs : w.sent ≤ 100000000) :
  @Wp _ (Dz.den 101 [.g (encW c)] h) ⟨StepQ lo h (part c cs) (turnP w)⟩ := by
 refine den_wp rfl Tryz.func101 rfl ?_
 have hQ := hV.queue
 by_cases hq : w.queue = []
 ·have hl0 : w.queue.length = 0 := by rw [hq]; rfl
  have el := fun e => hQ.lenA (e := e)
  rw [hl0] at el
  unfold turnP
  rw [if_pos hq]
  simp [Tryz.f101, el]
  exact ⟨h, c, cs, rfl, hV, StepV.refl _ _⟩
 ·have hln : w.queue.length ≠ 0 := fun hh => hq (List.length_eq_zero_iff.1 hh)
  obtain ⟨hid, h1⟩ := G.inv.head hq
  obtain ⟨i, ei⟩ : ∃ i : Nat, headQ w = (i : Int) + 1 := ⟨(headQ w - 1).toNat, by omega⟩
  have hi : i < w.runs.length := by omega
  have hlen := hV.len
  have hi' : i < cs.length := by omega
  have hr := hV.each i hi
  have hS := hV.runs
  have h6 : i < 6 := by have := G.inv.many; omega
  have R := (G.inv.each i _ (List.getElem?_eq_getElem hi)).ok
  have hx1 : ixA TTz h (.slice 3) (.c c.queue) (.c (.int .i64 0)) = some (.c (.ptr (sid c.queue) (soff c.queue) 0)) := ixA_nat hQ (n := 0) rfl rfl (by omega)
  have hx2 : h.cellsAt (sid c.queue) (soff c.queue) 0 1 = some [.int .i64 ((i : Int) + 1)] := by
   have := hQ.at (n := 0) (k := 0) (m := 1) (by omega) (by omega)
   rw [← ei]
   unfold headQ
   cases hh : w.queue with
   | nil => exact absurd hh hq
   | cons a t => rw [hh] at this; simpa using this
  have wi : IntKind.i64.wrap (i : Int) = i := wrapS (by omega) (by omega)
  have wt : IntKind.i64.wrap (w.runs[i].turns + 1) = w.runs[i].turns + 1 := wrapS (by have := R.turns; omega) (by have := R.turns; omega)
  have htn := hr.turns
  obtain ⟨C, ec⟩ := G.countG hid
  rw [ei] at C ec
  obtain ⟨h2, e2, v2, g2⟩ := hV.put (i := i) hi (j := 12) (xs := [.int .i64 (min (w.runs[i].turns + 1) 9999)]) (r := { w.runs[i] with turns := min (w.runs[i].turns + 1) 9999 }) (r' := { cs[i] with turns := min (w.runs[i].turns + 1) 9999 }) (by simp [splice]) (by simp) (fun _ q => ⟨q.id, q.at_, q.slots, q.full, q.mail, q.state, q.due, q.links, q.watched, q.trap, q.why, rfl⟩) rfl rfl rfl rfl
  have eT : turnP w = backP (stepsP 3 (countP' w ((i : Int) + 1)) ((i : Int) + 1)) ((i : Int) + 1) := by unfold turnP; rw [if_neg hq, ei]
  rw [eT]
  obtain ⟨W3, hW3⟩ : ∃ W3, W3 = stepsP 3 (countP' w ((i : Int) + 1)) ((i : Int) + 1) := ⟨_, rfl⟩
  rw [← hW3]
  rw [← countP_at hi] at v2
  have hph := phi_sent G.inv
  simp [Tryz.f101, hQ.lenA, hln, hx1, hx2, wi, hi', ixA_nat hS, hS.at, htn, wt, e2, minA]
  refine ⟨by kernel_rfl, ?_⟩
  have hphi := phi_sent G.inv
  refine loop_wp (σ := (H × WorldC × List RunC) × PWorld × Nat) (fun s => ([.c (ci ((i : Int) + 1)), .c (ci s.2.2)], [encW s.1.2.1, zeroW], [], s.1.1))
   (fun s => WorldV lo s.1.1 s.2.1 s.1.2.1 s.1.2.2 s.1.2.2 ∧ StepV h (part c cs) s.1.1 (part s.1.2.1 s.1.2.2) ∧ Good s.2.1 ∧ i < s.2.1.runs.length ∧ s.2.2 ≤ 3 ∧ phi s.2.1 ≤ phi w + 12 * s.2.2 ∧
    stepsP (3 - s.2.2) s.2.1 ((i : Int) + 1) = W3)
   (fun s => 3 - s.2.2) ((h2, c, cs.set i { cs[i] with turns := min (w.runs[i].turns + 1) 9999 }), countP' w ((i : Int) + 1), 0) ?_ ⟨v2, g2, C.g, by have := C.k.len; simp only; omega, by simp, by have := C.k.phi; simpa using this, hW3.symm⟩ ?_
  ·simp [zeroW]
  ·rintro ⟨⟨k, c1, cs1⟩, w1, j⟩ ⟨v, s, G1, hi1, j3, ph, st⟩
   simp only at v s G1 hi1 j3 ph st ⊢
   have hl1 := v.len
   have hi1' : i < cs1.length := by omega
   have hS1 := v.runs
   have hst := (v.each i hi1).state
   have hs1 : w1.sent ≤ 1000000000 := by have := sent_phi w1; omega
   have h6b : w1.runs.length ≤ 6 := G1.inv.many.2
   by_cases hj : j < 3
   ·obtain ⟨n, hn⟩ : ∃ n, 3 - j = n + 1 := ⟨3 - j - 1, by omega⟩
    rw [hn] at st
    simp only [stepsP] at st
    have ra : runAt w1 ((i : Int) + 1) = w1.runs[i] := runAt_nat hi1
    rw [ra] at st
    by_cases s1 : w1.runs[i].state = 1
    ·rw [if_pos s1] at st
     have hidw : 1 ≤ (i : Int) + 1 ∧ (i : Int) + 1 ≤ w1.runs.length := by omega
     obtain ⟨i', T⟩ := G1.inv.turn hidw (by rw [ra]; exact s1)
     have K := T.stepG G1
     obtain ⟨_, e3, k3, c3, cs3, rfl, v3, g3⟩ := c_l21Step v T G1.inv hs1
     have s1' : cs1[i].state = 1 := by rw [hst, s1]
     have hj' : (j : Int) < 3 := by omega
     have wj : IntKind.i64.wrap ((j : Int) + 1) = ((j + 1 : Nat) : Int) := by rw [wrapS (by omega) (by omega)]; omega
     simp only [encW] at e3
     rw [Wp_body]
     simp [hj', wi, hi1', ixA_nat hS1, hS1.at, s1', e3, wj]
     exact ⟨k3, c3, cs3, stepP w1 ((i : Int) + 1), j + 1, ⟨by omega, ⟨rfl, rfl, rfl, rfl, rfl, rfl, rfl⟩, rfl⟩, ⟨v3, s.trans g3, K.g, by have := K.k.len; omega, by omega, by have := K.k.phi; omega, by rw [show 3 - (j + 1) = n by omega]; exact st⟩, by omega⟩
    ·rw [if_neg s1] at st
     have s1' : ¬ cs1[i].state = 1 := by rw [hst]; exact s1
     have hj' : (j : Int) < 3 := by omega
     rw [← st]
     unfold backP
     rw [ra, if_neg s1]
     rw [Wp_body]
     simp [hj', wi, hi1', ixA_nat hS1, hS1.at, s1', zeroW]
     exact ⟨k, c1, cs1, rfl, v, s⟩
   ·have hj3 : j = 3 := by omega
    subst hj3
    simp only [Nat.sub_self, stepsP] at st
    have ra : runAt w1 ((i : Int) + 1) = w1.runs[i] := runAt_nat hi1
    rw [← st]
    unfold backP
    rw [ra]
    by_cases s1 : w1.runs[i].state = 1
    ·have s1' : cs1[i].state = 1 := by rw [hst, s1]
     rw [if_pos s1]
     have hq6 := G1.inv.qlen
     obtain ⟨_, e3, k3, s3, rfl, f3⟩ := c_l13Less v.queue ((i : Int) + 1) (by omega)
     obtain ⟨v3, g3⟩ := v.freshQueue f3
     have hll := less_len w1.queue ((i : Int) + 1)
     obtain ⟨s4, k4, e4, v4, g4⟩ := v3.queueApp (ys := [(i : Int) + 1]) (by simp only [List.length_singleton]; unfold lenMost; omega)
     simp only [List.map_cons, List.map_nil, encI, List.length_cons, List.length_nil] at e4
     rw [Wp_body]
     simp [wi, hi1', ixA_nat hS1, hS1.at, s1', e3, e4, zeroW]
     exact ⟨k4, { c1 with queue := s4 }, cs1, rfl, v4, s.trans (g3.trans g4)⟩
    ·have s1' : ¬ cs1[i].state = 1 := by rw [hst]; exact s1
     rw [if_neg s1]
     rw [Wp_body]
     simp [wi, hi1', ixA_nat hS1, hS1.at, s1', zeroW]
     exact ⟨k, c1, cs1, rfl, v, s⟩
end Go.Proofs.YtmkiojlebjknlaaGreat

/-
 THE REFERENCE's TurnStep, TurnDo, PlayDo, PlayTurns: what they answer.
-/
set_option maxRecDepth 8000
namespace Go.Proofs.YtmkiojlebjknlaaGreat
open Go.AM
variable {h h' : H} {lo : Nat} {w : PWorld} {c : WorldC} {st cs : List RunC}
theorem Room.good (R : Room w) : Good w ∧ w.sent < 9000 := ⟨R.1.good.1, R.2⟩
noncomputable def turnStepP (w : PWorld) : PWorld := if tt (Room w) then (if w.queue = [] then w else stepP w (headQ w)) else emptyW
noncomputable def turnDoP (w : PWorld) : PWorld := if tt (Room w) then turnP w else emptyW
noncomputable def playDoP (w : PWorld) (e : PEvent) : PWorld := if tt (Room w) then doP w e else emptyW
theorem queue_hd (hq : w.queue ≠ []) (hQ : Sl h c.queue 1 encI w.queue) : ixA TTz h (.slice 3) (.c c.queue) (.c (.int .i64 0)) = some (.c (.ptr (sid c.queue) (soff c.queue) 0)) ∧ h.cellsAt (sid c.queue) (soff c.queue) 0 1 = some [.int .i64 (headQ w)] ∧ w.queue.length ≠ 0 := by
 have hln : w.queue.length ≠ 0 := fun hh => hq (List.length_eq_zero_iff.1 hh)
 refine ⟨ixA_nat hQ (n := 0) rfl rfl (by omega), ?_, hln⟩
 have := hQ.at (n := 0) (k := 0) (m := 1) (by omega) (by omega)
 unfold headQ
 cases hh : w.queue with
 | nil => exact absurd hh hq
 | cons a t => rw [hh] at this; simpa using this
set_option maxRecDepth 16000 in
theorem c_TurnStep (hV : WorldV lo h w c cs cs) : @Wp _ (Dz.den 26 [.g (encW c)] h) ⟨CopyWQ h (turnStepP w)⟩ := by
 refine den_wp rfl Tryz.func26 rfl ?_
 have e := c_l21Room hV.rd
 simp only [encW] at e
 unfold turnStepP
 have hQ := hV.queue
 by_cases a : Room w
 ·have a' : tt (Room w) = true := by simpa using a
  rw [a'] at e ⊢
  obtain ⟨G, hs⟩ := a.good
  obtain ⟨_, e1, h1, c1, cs1, rfl, x1, v1⟩ := c_l12Copy hV a.1.le
  simp only [encW] at e1
  by_cases hq : w.queue = []
  ·have el := fun e => hQ.lenA (e := e)
   rw [hq] at el
   simp only [List.length_nil] at el
   rw [if_pos rfl, if_pos hq]
   simp [Tryz.f26, e, el, e1]
   exact ⟨h1, c1, cs1, rfl, x1, v1⟩
  ·obtain ⟨hx1, hx2, hln⟩ := queue_hd hq hQ
   obtain ⟨hid, hg⟩ := G.inv.head hq
   obtain ⟨i, T⟩ := G.inv.turn hid hg
   obtain ⟨_, e2, h2, c2, cs2, rfl, v2, s2⟩ := c_l21Step v1 T G.inv (by omega)
   have hx1' : ixA TTz h1 (.slice 3) (.c c.queue) (.c (.int .i64 0)) = some (.c (.ptr (sid c.queue) (soff c.queue) 0)) := (queue_hd hq (hQ.ext x1)).1
   have hx2' := (queue_hd hq (hQ.ext x1)).2.1
   simp only [encW] at e2
   rw [if_pos rfl, if_neg hq]
   simp [Tryz.f26, e, hQ.lenA, hln, hx1, hx2, hx1', hx2', e1, e2]
   exact ⟨by kernel_rfl, h2, c2, cs2, rfl, copy_step x1 v1 s2, v2⟩
 ·have a' : tt (Room w) = false := by simpa using a
  rw [a'] at e ⊢
  simp [Tryz.f26, e]
  exact ⟨h, _, _, rfl, Ext.refl _, emptyV h⟩
def encE (e : PEvent) : List Cell := [.int .i64 e.kind, .int .i64 e.a, .int .i64 e.v.k, .int .i64 e.v.n]
attribute [simp] encE
theorem Good.doG (G : Good w) (e : PEvent) : Good (doP w e) ∧ phi (doP w e) ≤ phi w + 36 ∧ (doP w e).code = w.code ∧ w.runs.length ≤ (doP w e).runs.length := by
 unfold doP
 split
 ·have K := G.turnG; exact ⟨K.g, K.k.phi, K.k.code, K.k.len⟩
 ·split
  ·obtain ⟨a, b, c, d⟩ := G.tickG; exact ⟨a, by omega, c, d⟩
  ·split
   ·split
    ·rename_i hv
     have K := G.giveG e.a hv; exact ⟨K.g, by have := K.k.phi; omega, K.k.code, K.k.len⟩
    ·exact ⟨G, by omega, rfl, Nat.le_refl _⟩
   ·split
    ·split
     ·rename_i hv
      have K := G.fallG e.a hv.1; exact ⟨K.g, by have := K.k.phi; omega, K.k.code, K.k.len⟩
     ·exact ⟨G, by omega, rfl, Nat.le_refl _⟩
    ·exact ⟨G, by omega, rfl, Nat.le_refl _⟩
set_option maxRecDepth 16000 in
set_option maxHeartbeats 2000000 in
theorem c_l22Do (hV : WorldV lo h w c cs cs) (G : Good w) (hs : w.sent ≤ 100000000) (e : PEvent) : @Wp _ (Dz.den 60 [.g (encW c), .g (encE e)] h) ⟨StepQ lo h (part c cs) (doP w e)⟩ := by
 refine den_wp rfl Tryz.func60 rfl ?_
 have I := G.inv
 unfold doP
 by_cases k1 : e.kind = 1
 ·obtain ⟨_, e2, h2, c2, cs2, rfl, v2, s2⟩ := c_l21Do hV G hs
  simp only [encW] at e2
  rw [if_pos k1]
  simp [Tryz.f60, k1, e2]
  exact ⟨h2, c2, cs2, rfl, v2, s2⟩
 rw [if_neg k1]
 by_cases k2 : e.kind = 2
 ·obtain ⟨_, e2, h2, c2, cs2, rfl, v2, s2⟩ := c_l21Tick hV I.now (by have := I.qlen; have := I.many; unfold lenMost; omega)
  simp only [encW] at e2
  rw [if_pos k2]
  simp [Tryz.f60, k2, e2]
  exact ⟨h2, c2, cs2, rfl, v2, s2⟩
 rw [if_neg k2]
 by_cases k3 : e.kind = 3
 ·rw [if_pos k3]
  by_cases hv : valOk e.v = true
  ·obtain ⟨_, e2, h2, c2, cs2, rfl, v2, s2⟩ := c_l12Give hV (I.sane (by omega)) e.a e.v
   simp only [encW, encV] at e2
   have hv' : valOk ⟨e.v.k, e.v.n⟩ = true := hv
   rw [if_pos hv]
   simp [Tryz.f60, k3, hv', e2]
   exact ⟨h2, c2, cs2, rfl, v2, s2⟩
  ·have hv' : valOk ⟨e.v.k, e.v.n⟩ = false := by simpa using hv
   rw [if_neg hv]
   simp [Tryz.f60, k3, hv']
   exact ⟨h, c, cs, rfl, hV, StepV.refl _ _⟩
 rw [if_neg k3]
 by_cases k4 : e.kind = 4
 ·rw [if_pos k4]
  have hS := hV.runs
  have hlen := hV.len
  by_cases hv : valOk e.v = true
  ·have hv' : valOk ⟨e.v.k, e.v.n⟩ = true := hv
   by_cases hin : 1 ≤ e.a ∧ e.a ≤ w.runs.length
   ·obtain ⟨i, ei, ei2, hi, hg, R⟩ := I.run hin
    have hri : runAt w e.a = w.runs[i] := by have := List.getElem?_eq_getElem hi; rw [hg] at this; simpa using this
    have hi' : i < cs.length := by omega
    have hst := (hV.each i hi).state
    have h6 := I.many
    have wi : IntKind.i64.wrap (i : Int) = i := wrapS (by omega) (by omega)
    have b1 : (1 : Int) ≤ (i : Int) + 1 := by omega
    have b2 : (i : Int) + 1 ≤ w.runs.length := by omega
    by_cases s3 : w.runs[i].state = 3
    ·have s3' : cs[i].state = 3 := by rw [hst, s3]
     rw [if_neg (fun hh => hh.2.2 (by rw [hri]; exact s3))]
     simp [Tryz.f60, k4, hv', hS.lenA, hlen, ei, b1, b2, hi, wi, hi', ixA_nat hS, hS.at, s3']
     exact ⟨h, c, cs, rfl, hV, StepV.refl _ _⟩
    ·have s3' : ¬ cs[i].state = 3 := by rw [hst]; exact s3
     obtain ⟨_, e2, h2, c2, cs2, rfl, v2, s2⟩ := c_l13End hV I (by omega) hin (why := e.v) hv
     rw [if_pos ⟨hv, hin, by rw [hri]; exact s3⟩]
     rw [ei] at e2
     simp only [encW, encV] at e2
     simp [Tryz.f60, k4, hv', hS.lenA, hlen, ei, b1, b2, hi, wi, hi', ixA_nat hS, hS.at, s3', e2]
     rw [← ei]
     exact ⟨h2, c2, cs2, rfl, v2, s2⟩
   ·rw [if_neg (fun hh => hin hh.2.1)]
    simp [Tryz.f60, k4, hv', hS.lenA, hlen, hin]
    exact ⟨h, c, cs, rfl, hV, StepV.refl _ _⟩
  ·have hv' : valOk ⟨e.v.k, e.v.n⟩ = false := by simpa using hv
   rw [if_neg (fun hh => hv hh.1)]
   simp [Tryz.f60, k4, hv']
   exact ⟨h, c, cs, rfl, hV, StepV.refl _ _⟩
 rw [if_neg k4]
 simp [Tryz.f60, k1, k2, k3, k4]
 exact ⟨h, c, cs, rfl, hV, StepV.refl _ _⟩
end Go.Proofs.YtmkiojlebjknlaaGreat
