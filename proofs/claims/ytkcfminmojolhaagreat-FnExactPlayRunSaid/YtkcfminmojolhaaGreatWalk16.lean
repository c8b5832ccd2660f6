/-
  What functions of the seat answer, each proved once; each under the condition that cells bear what it is given, as its statement says.
-/
import Derived.Test.YtkcfminmojolhaaGreatWalk15
set_option linter.all false
/-
  THE REFERENCE'S l1Add, l21Other: what they answer.
-/
set_option maxRecDepth 8000
namespace Go.Proofs.YtkcfminmojolhaaGreat
open Go.AM
variable {h h' : H} {lo : Nat} {w : PWorld} {c : WorldC} {st cs : List RunC}
theorem valOk_n {v : PVal} (h : valOk v = true) : -99 ≤ v.n ∧ v.n ≤ 99 := by
  unfold valOk at h
  split at h
  · simp at h; omega
  · split at h
    · simpa using h
    · split at h
      · simp at h; omega
      · split at h
        · simp at h; omega
        · cases h
theorem valOk_3 {v : PVal} (h : valOk v = true) (k : v.k = 3) : 1 ≤ v.n ∧ v.n ≤ 6 := by
  unfold valOk at h
  rw [if_neg (by omega), if_neg (by omega), if_neg (by omega), if_pos k] at h
  simpa using h
theorem c_l1Add {a b : PVal} (ha : valOk a = true) (hb : valOk b = true) : Dz.den 131 [.g (encV a), .g (encV b)] h = some (.t [.g (encV ((addP a b).getD ⟨0, 0⟩)), .c (.bool (addP a b).isSome)], h) := by
  have h1 := valOk_n ha
  have h2 := valOk_n hb
  have w1 : IntKind.i64.wrap (a.n + b.n) = a.n + b.n := wrap_i64 (by omega) (by omega)
  have hv : valOk ⟨1, a.n + b.n⟩ = decide (-99 ≤ a.n + b.n ∧ a.n + b.n ≤ 99) := by simp [valOk]
  by_cases d : a.k = 1 ∧ b.k = 1 ∧ -99 ≤ a.n + b.n ∧ a.n + b.n ≤ 99
  · refine den_plain rfl Tryz.func131 rfl (by simp [V.plain, V.plain1]) ?_
    unfold addP
    rw [if_pos d]
    obtain ⟨d1, d2, d3⟩ := d
    simp [Tryz.f131, w1, d1, d2, d3, hv]
    rfl
  · refine den_plain rfl Tryz.func131 rfl (by simp [V.plain, V.plain1]) ?_
    unfold addP
    rw [if_neg d]
    by_cases d1 : a.k = 1
    · by_cases d2 : b.k = 1
      · have d3 : ¬ (-99 ≤ a.n + b.n ∧ a.n + b.n ≤ 99) := fun hh => d ⟨d1, d2, hh⟩
        simp [Tryz.f131, w1, d1, d2, d3, hv]
        rfl
      · simp [Tryz.f131, w1, d1, d2, hv]
        rfl
    · simp [Tryz.f131, w1, d1, hv]
      rfl
/-- A run goes to its next step: the whole is laid anew. -/
theorem WorldV.layNext (hV : WorldV lo h w c cs cs) {i : Nat} (hi : i < w.runs.length) :
    ∃ h', h.write (sid c.runs) (soff c.runs + i) 0 (encR { (cs[i]'(by have := hV.len; omega)) with at_ := w.runs[i].at_ + 1 }) = some h' ∧
      WorldV lo h' { w with runs := w.runs.set i (nextRun w.runs[i]) } c (cs.set i { (cs[i]'(by have := hV.len; omega)) with at_ := w.runs[i].at_ + 1 }) (cs.set i { (cs[i]'(by have := hV.len; omega)) with at_ := w.runs[i].at_ + 1 }) ∧
      StepV h (part c cs) h' (part c (cs.set i { (cs[i]'(by have := hV.len; omega)) with at_ := w.runs[i].at_ + 1 })) := by
  have q := hV.each i hi
  obtain ⟨h1, e1, v1, g1⟩ := hV.put (i := i) hi (j := 0) (xs := encR { (cs[i]'(by have := hV.len; omega)) with at_ := w.runs[i].at_ + 1 }) (r := nextRun w.runs[i]) (r' := { (cs[i]'(by have := hV.len; omega)) with at_ := w.runs[i].at_ + 1 }) (by simp [splice]) (by simp) (fun _ q => ⟨q.id, rfl, q.slots, q.full, q.mail, q.state, q.due, q.links, q.watched, q.trap, q.why, q.turns⟩) rfl rfl rfl rfl
  exact ⟨h1, e1, v1, g1⟩
set_option maxRecDepth 16000 in
set_option maxHeartbeats 4000000 in
theorem c_l21Other (hV : WorldV lo h w c cs cs) {id : Int} {i : Nat} {r : PRun} {o : POp} (T : Turn w id i r o) (I : Inv w) (hs : w.sent ≤ 1000000000) (hk : o.kind = 6 ∨ o.kind = 11 ∨ o.kind = 12) :
    @Wp _ (Dz.den 134 [.g (encW c), .c (.int .i64 id), .g (encO o)] h) ⟨StepQ lo h (part c cs) (otherP w id o)⟩ := by
  refine den_wp rfl Tryz.func134 rfl ?_
  have K1 := T.nextK I (by omega) (by simp [fillsK]; omega)
  obtain ⟨hi, hri⟩ := T.runs
  have e0 := T.e0
  subst e0
  subst hri
  have hlen := hV.len
  have hi' : i < cs.length := by omega
  have hr := hV.each i hi
  have hS := hV.runs
  have hSl := hr.slots
  have R := T.run.ok
  obtain ⟨i1, i2, i3⟩ := T.idr I
  have h6 : i < 6 := by omega
  have wi : IntKind.i64.wrap (i : Int) = i := wrapS (by omega) (by omega)
  have hop := op_r T.ok
  have hos := op_s T.ok
  obtain ⟨ra, hra⟩ : ∃ n : Nat, o.r = n := ⟨o.r.toNat, by omega⟩
  obtain ⟨sa, hsa⟩ : ∃ n : Nat, o.s = n := ⟨o.s.toNat, by omega⟩
  have hra4 : ra < w.runs[i].slots.length := by rw [R.len]; omega
  have hsa4 : sa < w.runs[i].slots.length := by rw [R.len]; omega
  have hto : slotAt w.runs[i] o.r = w.runs[i].slots[ra] := by unfold slotAt; rw [hra, Int.toNat_natCast, List.getElem?_eq_getElem hra4]; rfl
  have hsv : slotAt w.runs[i] o.s = w.runs[i].slots[sa] := by unfold slotAt; rw [hsa, Int.toNat_natCast, List.getElem?_eq_getElem hsa4]; rfl
  have okto := slotAt_ok R hop.1 hop.2
  have oksv := slotAt_ok R hos.1 hos.2
  rw [hto] at okto
  rw [hsv] at oksv
  obtain ⟨w1, hw1⟩ : ∃ w1 : PWorld, w1 = { w with runs := w.runs.set i (nextRun w.runs[i]) } := ⟨_, rfl⟩
  have eO : otherP w ((i : Int) + 1) o = (if w.runs[i].slots[ra].k ≠ 3 then fallP w ((i : Int) + 1) ⟨2, 2⟩
    else if o.kind = 6 then giveP w1 w.runs[i].slots[ra].n w.runs[i].slots[sa]
    else if o.kind = 12 ∧ ¬ Alive w w.runs[i].slots[ra].n then giveP w1 ((i : Int) + 1) w.runs[i].slots[ra]
    else if w.runs[i].slots[ra].n = (i : Int) + 1 ∨ ¬ Alive w w.runs[i].slots[ra].n then w1
    else if o.kind = 12 ∧ (i : Int) + 1 ∉ (runAt w w.runs[i].slots[ra].n).watched then watchP w1 ((i : Int) + 1) w.runs[i].slots[ra].n
    else if o.kind = 11 ∧ w.runs[i].slots[ra].n ∉ w.runs[i].links then linkP w1 ((i : Int) + 1) w.runs[i].slots[ra].n
    else w1) := by
    unfold otherP
    rw [hw1]
    simp only [runAt_nat hi, hto, hsv, setRun_at]
  rw [eO]
  have hdr : w.runs[i].slots[ra]?.getD default = w.runs[i].slots[ra] := by rw [List.getElem?_eq_getElem hra4]; rfl
  generalize hgt : w.runs[i].slots[ra] = to at *
  have hds : w.runs[i].slots[sa]?.getD default = w.runs[i].slots[sa] := by rw [List.getElem?_eq_getElem hsa4]; rfl
  generalize hgs : w.runs[i].slots[sa] = sv at *
  by_cases k3 : to.k = 3
  case neg =>
    obtain ⟨_, e2, h2, c2, cs2, rfl, v2, g2⟩ := c_l13End hV I (by omega) (id := (i : Int) + 1) (by omega) (why := ⟨2, 2⟩) rfl
    simp only [encW, encV] at e2
    rw [if_pos k3]
    simp [Tryz.f134, wi, hi', ixA_nat hS, hS.at, hra, hra4, ixA_nat hSl, hSl.at, hgt, k3, e2]
    exact ⟨h2, c2, cs2, rfl, v2, g2⟩
  case pos =>
    rw [if_neg (by omega)]
    have e1 := c_l21Next (h := h) (r := cs[i]) (a := w.runs[i].at_) hr.at_ (by have := R.at_; omega)
    obtain ⟨h1, e2, v1, g1⟩ := hV.layNext hi
    generalize hcs1 : cs.set i { cs[i] with at_ := w.runs[i].at_ + 1 } = cs1 at v1 g1
    have hton := valOk_3 okto k3
    rw [← hw1] at v1
    have Iw1 : Inv w1 := by have := K1.inv; rw [setRun_at] at this; rw [hw1]; exact this
    have hw1n : w1.runs.length = w.runs.length := by rw [hw1]; simp
    have hw1s : w1.sent = w.sent := by rw [hw1]
    obtain ⟨m, em⟩ : ∃ m : Nat, to.n = (m : Int) + 1 := ⟨(to.n - 1).toNat, by omega⟩
    have wm : IntKind.i64.wrap (m : Int) = m := wrapS (by omega) (by omega)
    have hl1 := v1.len
    have hS1 := v1.runs
    have hri1 : w1.runs[i]'(by omega) = nextRun w.runs[i] := by subst hw1; simp
    simp only [encR] at e1 e2
    have hi1 : i < cs1.length := by omega
    have hmm : ∀ hm : m < w.runs.length, ∃ hm1 : m < w1.runs.length, w1.runs[m].state = w.runs[m].state ∧ w1.runs[m].watched = w.runs[m].watched ∧ (m ≠ i → w1.runs[m] = w.runs[m]) := fun hm => by
      refine ⟨by omega, ?_⟩
      have : w1.runs[m]'(by omega) = if i = m then nextRun w.runs[i] else w.runs[m] := by simp only [hw1, List.getElem_set]
      rw [this]
      by_cases e : i = m
      · subst e; simp [nextRun]
      · simp [e]
    have eAl : ∀ hm : m < w.runs.length, (Alive w to.n ↔ w.runs[m].state ≠ 3) := fun hm => by
      unfold Alive; rw [em, runAt_nat hm]
      exact ⟨fun h => h.2, fun h => ⟨by omega, h⟩⟩
    have hi1w' : i < w1.runs.length := by omega
    have hSl1 : Sl h1 cs[i].slots 2 encV w.runs[i].slots := by
      have e7 := (v1.each i hi1w').slots
      rw [hri1] at e7
      have e6 : cs1[i].slots = cs[i].slots := (by simp [← hcs1])
      rw [e6] at e7
      exact e7
    by_cases k6 : o.kind = 6
    · obtain ⟨_, e3, h3, c3, cs3, rfl, v3, g3⟩ := c_l12Give v1 (Iw1.sane (by omega)) to.n sv
      rw [em] at e3
      simp only [encW, encV] at e3
      rw [if_pos k6]
      by_cases hm : m < w.runs.length
      · obtain ⟨hm1, st1, wt1, rn1⟩ := hmm hm
        have hm2 : m < cs1.length := by omega
        have hrm := v1.each m hm1
        have hst := hrm.state
        have hml : (m : Int) + 1 ≤ w1.runs.length := by omega
        by_cases s3 : cs1[m].state = 3
        · have nal : ¬ Alive w to.n := fun h => (eAl hm).1 h (by rw [← st1, ← hst]; exact s3)
          simp [Tryz.f134, wi, hi', ixA_nat hS, hS.at, hra, hra4, ixA_nat hSl, hSl.at, hgt, k3, e1, e2, hS1.lenA, hl1, em, wm, ixA_nat hS1, hS1.at, ixA_nat hSl1, hSl1.at, hml, hm1, hm2, s3, k6, hsa, hsa4, hgs, e3]
          rw [← em]
          exact ⟨by kernel_rfl, by kernel_rfl, h3, c3, cs3, rfl, v3, g1.trans g3⟩
        · have al : Alive w to.n := (eAl hm).2 (by rw [← st1, ← hst]; exact s3)
          simp [Tryz.f134, wi, hi', ixA_nat hS, hS.at, hra, hra4, ixA_nat hSl, hSl.at, hgt, k3, e1, e2, hS1.lenA, hl1, em, wm, ixA_nat hS1, hS1.at, ixA_nat hSl1, hSl1.at, hml, hm1, hm2, s3, k6, hsa, hsa4, hgs, e3]
          rw [← em]
          exact ⟨by kernel_rfl, by kernel_rfl, h3, c3, cs3, rfl, v3, g1.trans g3⟩
      · have hml : ¬ (m : Int) + 1 ≤ w1.runs.length := by omega
        have nal : ¬ Alive w to.n := fun h => by have := h.1; omega
        simp [Tryz.f134, wi, hi', ixA_nat hS, hS.at, hra, hra4, ixA_nat hSl, hSl.at, hgt, k3, e1, e2, hS1.lenA, hl1, em, wm, ixA_nat hS1, hS1.at, ixA_nat hSl1, hSl1.at, hml, k6, hsa, hsa4, hgs, e3]
        rw [← em]
        exact ⟨by kernel_rfl, by kernel_rfl, h3, c3, cs3, rfl, v3, g1.trans g3⟩
    rw [if_neg k6]
    by_cases k12 : o.kind = 12
    · obtain ⟨_, e3, h3, c3, cs3, rfl, v3, g3⟩ := c_l12Give v1 (Iw1.sane (by omega)) ((i : Int) + 1) to
      simp only [encW, encV, em, k3] at e3
      by_cases hm : m < w.runs.length
      · obtain ⟨hm1, st1, wt1, rn1⟩ := hmm hm
        have hm2 : m < cs1.length := by omega
        have hrm := v1.each m hm1
        have hst := hrm.state
        have hml : (m : Int) + 1 ≤ w1.runs.length := by omega
        by_cases s3 : cs1[m].state = 3
        · have nal : ¬ Alive w to.n := fun h => (eAl hm).1 h (by rw [← st1, ← hst]; exact s3)
          rw [if_pos ⟨k12, nal⟩]
          simp [Tryz.f134, wi, hi', ixA_nat hS, hS.at, hra, hra4, ixA_nat hSl, hSl.at, hgt, k3, e1, e2, hS1.lenA, hl1, em, wm, ixA_nat hS1, hS1.at, ixA_nat hSl1, hSl1.at, hml, hm1, hm2, s3, k12, e3]
          exact ⟨by kernel_rfl, h3, c3, cs3, rfl, v3, g1.trans g3⟩
        · have al : Alive w to.n := (eAl hm).2 (by rw [← st1, ← hst]; exact s3)
          rw [if_neg (fun hh => hh.2 al)]
          by_cases emi : m = i
          · subst emi
            rw [if_pos (.inl em)]
            simp [Tryz.f134, wi, hi', ixA_nat hS, hS.at, hra, hra4, ixA_nat hSl, hSl.at, hgt, k3, e1, e2, hS1.lenA, hl1, em, wm, ixA_nat hS1, hS1.at, ixA_nat hSl1, hSl1.at, hml, hm1, hm2, s3, k12]
            exact ⟨by kernel_rfl, h1, c, cs1, rfl, v1, g1⟩
          · have hne : ¬ (m : Int) = i := by omega
            rw [if_neg (fun hh => hh.elim (fun h1 => by omega) (fun h1 => h1 al))]
            have hw := c_l11Among hrm.watched ((i : Int) + 1)
            have hwm : w1.runs[m].watched = (runAt w ((m : Int) + 1)).watched := by rw [runAt_nat hm, wt1]
            rw [hwm] at hw
            by_cases ham : (i : Int) + 1 ∈ (runAt w ((m : Int) + 1)).watched
            · rw [if_neg (fun hh => hh.2 (by rw [em]; exact ham)), if_neg (by omega)]
              simp [Tryz.f134, wi, hi', ixA_nat hS, hS.at, hra, hra4, ixA_nat hSl, hSl.at, hgt, k3, e1, e2, hS1.lenA, hl1, em, wm, ixA_nat hS1, hS1.at, ixA_nat hSl1, hSl1.at, hml, hm1, hm2, s3, k12, hne, hw, ham]
              exact ⟨by kernel_rfl, h1, c, cs1, rfl, v1, g1⟩
            · rw [if_pos ⟨k12, by rw [em]; exact ham⟩]
              obtain ⟨s4, k4, h4, e4, e5, S4, v4, g4, _⟩ := v1.watchedAdd hm1 ((i : Int) + 1) (by rw [hwm]; have := (T.run.ok); have q := (I.run (id := to.n) al.1); obtain ⟨_, _, _, _, _, Rm⟩ := q; have := Rm.ok.watched.len; rw [em] at this; unfold lenMost; omega)
              simp only [encI] at e4
              have hS4 := S4
              have ePush := hS1.push ⟨false, 1, [[.int .i64 ((i : Int) + 1)]]⟩
              simp [Tryz.f134, wi, hi', ixA_nat hS, hS.at, hra, hra4, ixA_nat hSl, hSl.at, hgt, k3, e1, e2, hS1.lenA, hl1, em, wm, ixA_nat hS1, hS1.at, ixA_nat hSl1, hSl1.at, hml, hm1, hm2, s3, k12, hne, hw, ham, e4, ixA_nat hS4, e5, ixA_nat ePush, ePush.at]
              refine ⟨by kernel_rfl, by kernel_rfl, h4, c, _, rfl, ?_, g1.trans g4⟩
              unfold watchP
              rw [setRun_at, runAt_nat hm1]
              exact v4
      · have hml : ¬ (m : Int) + 1 ≤ w1.runs.length := by omega
        have nal : ¬ Alive w to.n := fun h => by have := h.1; omega
        rw [if_pos ⟨k12, nal⟩]
        simp [Tryz.f134, wi, hi', ixA_nat hS, hS.at, hra, hra4, ixA_nat hSl, hSl.at, hgt, k3, e1, e2, hS1.lenA, hl1, em, wm, ixA_nat hS1, hS1.at, ixA_nat hSl1, hSl1.at, hml, k12, e3]
        exact ⟨by kernel_rfl, h3, c3, cs3, rfl, v3, g1.trans g3⟩
    have k11 : o.kind = 11 := by omega
    rw [if_neg (fun hh => k12 hh.1)]
    by_cases hm : m < w.runs.length
    · obtain ⟨hm1, st1, wt1, rn1⟩ := hmm hm
      have hm2 : m < cs1.length := by omega
      have hrm := v1.each m hm1
      have hst := hrm.state
      have hml : (m : Int) + 1 ≤ w1.runs.length := by omega
      by_cases s3 : cs1[m].state = 3
      · have nal : ¬ Alive w to.n := fun h => (eAl hm).1 h (by rw [← st1, ← hst]; exact s3)
        rw [if_pos (.inr nal)]
        simp [Tryz.f134, wi, hi', ixA_nat hS, hS.at, hra, hra4, ixA_nat hSl, hSl.at, hgt, k3, e1, e2, hS1.lenA, hl1, em, wm, ixA_nat hS1, hS1.at, ixA_nat hSl1, hSl1.at, hml, hm1, hm2, s3, k11]
        exact ⟨by kernel_rfl, h1, c, cs1, rfl, v1, g1⟩
      · have al : Alive w to.n := (eAl hm).2 (by rw [← st1, ← hst]; exact s3)
        by_cases emi : m = i
        · subst emi
          rw [if_pos (.inl em)]
          simp [Tryz.f134, wi, hi', ixA_nat hS, hS.at, hra, hra4, ixA_nat hSl, hSl.at, hgt, k3, e1, e2, hS1.lenA, hl1, em, wm, ixA_nat hS1, hS1.at, ixA_nat hSl1, hSl1.at, hml, hm1, hm2, s3, k11]
          exact ⟨by kernel_rfl, h1, c, cs1, rfl, v1, g1⟩
        · have hne : ¬ (m : Int) = i := by omega
          rw [if_neg (fun hh => hh.elim (fun h1 => by omega) (fun h1 => h1 al)), if_neg (fun hh => k12 hh.1)]
          have hi1w : i < w1.runs.length := by omega
          have hri2 := v1.each i hi1w
          have hlk : w1.runs[i].links = w.runs[i].links := by rw [hri1]; rfl
          have hl := c_l11Among (h := h1) (s := cs[i].links) (xs := w.runs[i].links) (by have := hri2.links; rw [hlk] at this; have e6 : cs1[i].links = cs[i].links := (by simp [← hcs1]); rw [e6] at this; exact this) to.n
          rw [em] at hl
          by_cases ham : (m : Int) + 1 ∈ w.runs[i].links
          · rw [if_neg (fun hh => hh.2 (by rw [em]; exact ham))]
            simp [Tryz.f134, wi, hi', ixA_nat hS, hS.at, hra, hra4, ixA_nat hSl, hSl.at, hgt, k3, e1, e2, hS1.lenA, hl1, em, wm, ixA_nat hS1, hS1.at, ixA_nat hSl1, hSl1.at, hml, hm1, hm2, s3, k11, hne, hl, ham]
            exact ⟨by kernel_rfl, h1, c, cs1, rfl, v1, g1⟩
          · rw [if_pos ⟨k11, by rw [em]; exact ham⟩]
            obtain ⟨s4, k4, h4, e4, e5, S4, v4, g4, _⟩ := v1.linksAdd (i := i) (by omega) ((m : Int) + 1) (by rw [hlk]; have := R.links.len; unfold lenMost; omega)
            have hm4 : m < (cs1.set i { cs1[i] with links := s4 }).length := by simp; omega
            have hm5 : m < (w1.runs.set i { w1.runs[i] with links := w1.runs[i].links ++ [(m : Int) + 1] }).length := by simp; omega
            have hmr : (w1.runs.set i { w1.runs[i] with links := w1.runs[i].links ++ [(m : Int) + 1] })[m] = w1.runs[m] := by rw [List.getElem_set_ne (by omega)]
            have hmc : (cs1.set i { cs1[i] with links := s4 })[m] = cs1[m] := by rw [List.getElem_set_ne (by omega)]
            obtain ⟨s6, k6', h6', e6, e7, S6, v6, g6, _⟩ := v4.linksAdd (i := m) hm5 ((i : Int) + 1) (by simp only [hmr]; rw [rn1 emi]; obtain ⟨_, _, _, _, _, Rm⟩ := (I.run (id := to.n) al.1); have := Rm.ok.links.len; rw [em, runAt_nat hm] at this; unfold lenMost; omega)
            simp only [hmc] at e6
            have hS4 := S4
            have hS4' := v4.runs
            have hS6 := S6
            have ePush := hS1.push ⟨false, 1, [[.int .i64 ((m : Int) + 1)]]⟩
            have ePush4 := hS4'.push ⟨false, 1, [[.int .i64 ((i : Int) + 1)]]⟩
            simp only [encI] at e4 e6
            simp [Tryz.f134, wi, hi', ixA_nat hS, hS.at, hra, hra4, ixA_nat hSl, hSl.at, hgt, k3, e1, e2, hS1.lenA, hl1, em, wm, ixA_nat hS1, hS1.at, ixA_nat hSl1, hSl1.at, hml, hm1, hm2, s3, k11, hne, hl, ham, hi1, hi1w, e4, ixA_nat hS4, e5, ixA_nat ePush, ePush.at, ixA_nat hS4', hS4'.at, hm4, hmc, e6, ixA_nat hS6, e7, ixA_nat ePush4, ePush4.at]
            refine ⟨by kernel_rfl, by kernel_rfl, by kernel_rfl, h6', c, _, rfl, ?_, g1.trans (g4.trans g6)⟩
            unfold linkP
            simp only [setRun_at, runAt_nat hi1w']
            rw [runAt_nat (w := { w1 with runs := w1.runs.set i { w1.runs[i] with links := w1.runs[i].links ++ [(m : Int) + 1] } }) hm5]
            exact v6
    · have hml : ¬ (m : Int) + 1 ≤ w1.runs.length := by omega
      have nal : ¬ Alive w to.n := fun h => by have := h.1; omega
      rw [if_pos (.inr nal)]
      simp [Tryz.f134, wi, hi', ixA_nat hS, hS.at, hra, hra4, ixA_nat hSl, hSl.at, hgt, k3, e1, e2, hS1.lenA, hl1, em, wm, ixA_nat hS1, hS1.at, ixA_nat hSl1, hSl1.at, hml, k11]
      exact ⟨by kernel_rfl, h1, c, cs1, rfl, v1, g1⟩
end Go.Proofs.YtkcfminmojolhaaGreat

/-
  THE PROGRAM'S parts of steps: deleting from a list, filling a slot, sums, new runs: what they answer.
-/
set_option maxRecDepth 8000
namespace Go.Proofs.YtkcfminmojolhaaGreat
open Go.AM
variable {h h' : H} {lo p : Nat} {w : PWorld} {c : WorldC} {st cs : List RunC}
/-- Values cut in their own place. -/
structure CutV (h : H) (s : Cell) (zs : List PVal) (s' : Cell) (h' : H) : Prop where
  sl : Sl h' s' 2 encV zs
  wr : Wr h' s'
  un : Un s'
  chg : Chg h (fun id => id ∈ s.ids) h'
  ids : ∀ id ∈ s'.ids, id ∈ s.ids
set_option maxHeartbeats 1000000 in
theorem c_DeleteV {s : Cell} {xs : List PVal} (hS : Sl h s 2 encV xs) (hw : Wr h s) {n : Nat} (hn : n < xs.length) (hl : xs.length ≤ 1000) :
    ∃ s' k, Dz.den 178 [.c s, .c (.int .i64 n), .c (.int .i64 ((n : Int) + 1))] h = some (.c s', k) ∧ CutV h s (xs.eraseIdx n) s' k := by
  have hel0 := fun e => hS.lenA (e := e)
  obtain ⟨s2, e2, S2, i2, c2⟩ := sliceA_from hS (T := TTz) (t := 65) (e := 43) (kk := .i64) (n := n + 1) rfl rfl rfl (by omega) (by omega)
  have e1 := sliceA_to (k := .i64) (n := n) (T := TTz) (t := 65) (e := 43) hS rfl rfl (Nat.le_of_lt hn)
  have eE := S2.elemsOf c2
  obtain ⟨id, o, b, rfl, hg, hes, hle, hel⟩ := hS.cons hn
  obtain ⟨b', hg', hro⟩ := hw id (by simp [Cell.ids])
  rw [hg] at hg'; cases hg'
  have hlt := H.get_lt hg
  have hlen := hS.len
  obtain ⟨ys, hys⟩ : ∃ ys, ys = xs.drop (n + 1) := ⟨_, rfl⟩
  have hyl : ys.length = xs.length - (n + 1) := by rw [hys]; simp
  rw [← hys] at eE
  obtain ⟨b1, b1d⟩ : ∃ b1 : Blk, b1 = { b with el := b.el.take (o + n) ++ ys.map encV ++ b.el.drop (o + n + ys.length) } := ⟨_, rfl⟩
  have hb1 : b1.el.length = b.el.length := by simp [b1d]; omega
  obtain ⟨b2, b2d⟩ : ∃ b2 : Blk, b2 = { b with el := b1.el.take (o + (xs.length - 1)) ++ List.replicate 1 [.int .i64 0, .int .i64 0] ++ b1.el.drop (o + (xs.length - 1) + 1) } := ⟨_, rfl⟩
  have hb2 : b2.el.length = b.el.length := by simp [b2d]; omega
  have ee : xs.eraseIdx n = xs.take n ++ ys := by rw [hys, List.eraseIdx_eq_take_drop_succ]
  have eel : (xs.eraseIdx n).length = xs.length - 1 := by rw [List.length_eraseIdx_of_lt hn]
  have hfin : (b2.el.drop o).take (xs.length - 1) = (xs.eraseIdx n).map encV := by
    have h1 : (b2.el.drop o).take (xs.length - 1) = (b1.el.drop o).take (xs.length - 1) := by
      apply List.ext_getElem?
      intro q
      by_cases hq : q < xs.length - 1
      · rw [List.getElem?_take_of_lt hq, List.getElem?_take_of_lt hq, List.getElem?_drop, List.getElem?_drop]
        simp only [b2d]
        rw [List.append_assoc, List.getElem?_append_left (by simp; omega), List.getElem?_take_of_lt (by omega)]
      · rw [List.getElem?_eq_none (by simp; omega), List.getElem?_eq_none (by simp; omega)]
    rw [h1, ee, List.map_append]
    have h2 : (xs.take n).map encV = (b.el.drop o).take n := by rw [List.map_take, ← hel, List.take_take, Nat.min_eq_left (by omega)]
    rw [h2]
    apply List.ext_getElem?
    intro q
    by_cases hq : q < xs.length - 1
    · rw [List.getElem?_take_of_lt hq, List.getElem?_drop]
      simp only [b1d]
      by_cases hqn : q < n
      · rw [List.append_assoc, List.getElem?_append_left (by simp; omega), List.getElem?_take_of_lt (by omega), List.getElem?_append_left (by simp; omega), List.getElem?_take_of_lt hqn, List.getElem?_drop]
      · rw [List.append_assoc, List.getElem?_append_right (by simp; omega), List.getElem?_append_left (by simp; omega), List.getElem?_append_right (by simp; omega)]
        congr 1
        simp; omega
    · rw [List.getElem?_eq_none (by simp; omega), List.getElem?_eq_none (by simp; omega)]
  refine ⟨.sl id o (xs.length - 1) none, List.set h id (some b2), ?_, ⟨⟨fun x _ => rfl, by rw [eel], by omega, b2, get_set_self hlt, by rw [b2d]; exact hes, by rw [hb2]; omega, hfin⟩, fun q hq => ?_, Un.new, ⟨by simp, fun q _ hn => get_set_ne (by simpa [Cell.ids] using hn)⟩, fun q hq => hq⟩⟩
  · have n1 : ((n + 1 : Nat) : Int) = (n : Int) + 1 := by omega
    rw [n1] at e2
    have n2 : (n : Int) + 1 ≤ xs.length := by omega
    have n3 : (0 : Int) ≤ (n : Int) + 1 := by omega
    have n4 : (n : Int) ≤ (n : Int) + 1 := by omega
    have n5 : ((n : Int) + 1).toNat = n + 1 := by omega
    have hcap : capOk h id o xs.length none = true := by simp [capOk, hg]; omega
    have e13 : sliceA TTz h 65 (.c (.sl id o xs.length none)) (some (.c (.int .i64 n))) (some (.c (.int .i64 ((n : Int) + 1)))) (some (.c (.int .i64 xs.length))) = some (.c (.sl id (o + n) (n + 1 - n) (some (xs.length - n)))) := by
      simp [sliceA, hcap, threeA, bound, hg, hes, n2, n3, n4, n5, hn]
    have e1' : sliceA TTz h 65 (.c (.sl id o xs.length none)) none (some (.c (.int .i64 n))) none = some (.c (.sl id o n none)) := e1
    have ea : appendA 2 h (.c (.sl id o n none)) (.c s2) = some (.c (.sl id o (xs.length - 1) none), List.set h id (some b1)) := by
      unfold appendA
      rw [eE]
      have q1 : ((ys.map encV).all fun e => e.length == 2) = true := by simp
      have q2 : o + n ≤ b.el.length := by omega
      have q3 : n + ys.length ≤ lenMost := by unfold lenMost; omega
      have q4 : ys.length ≤ lenMost := by unfold lenMost; omega
      have q5 : o + n + ys.length ≤ b.el.length := by omega
      have q6 : n + ys.length = xs.length - 1 := by omega
      simp [q1, q4, hg, q2, hes, q3, hro, q5, q6, b1d]
      omega
    have hg1 : H.get (List.set h id (some b1)) id = some b1 := get_set_self hlt
    have hcap1 : capOk (List.set h id (some b1)) id o (xs.length - 1) none = true := by simp [capOk, hg1, hb1]; omega
    have m1 : ¬ (xs.length : Int) ≤ ((xs.length - 1 : Nat) : Int) := by omega
    have m2 : (xs.length : Int) ≤ ((b1.el.length - o : Nat) : Int) := by rw [hb1]; omega
    have m3 : ((xs.length - 1 : Nat) : Int) ≤ (xs.length : Int) := by omega
    have m4 : xs.length - 1 < b1.el.length - o := by rw [hb1]; omega
    have hes1 : b1.es = 2 := by rw [b1d]; exact hes
    have e31 : sliceA TTz (List.set h id (some b1)) 65 (.c (.sl id o (xs.length - 1) none)) (some (.c (.int .i64 ((xs.length - 1 : Nat) : Int)))) (some (.c (.int .i64 xs.length))) none = some (.c (.sl id (o + (xs.length - 1)) (xs.length - (xs.length - 1)) none)) := by
      simp [sliceA, hcap1, bound, m1, beyondA, hg1, m2, m3, lowOf, hes1, m4]
    have ecl : clearA TTz 43 (List.set h id (some b1)) (.c (.sl id (o + (xs.length - 1)) (xs.length - (xs.length - 1)) none)) = some (List.set h id (some b2)) := by
      have w1 : xs.length - (xs.length - 1) = 1 := by omega
      have w2 : o + (xs.length - 1) + 1 ≤ b1.el.length := by rw [hb1]; omega
      have hro1 : b1.ro = false := by rw [b1d]; exact hro
      rw [w1]
      have w3 : b1.es = b.es := by rw [b1d]
      have w4 : b1.ro = b.ro := by rw [b1d]
      simp [clearA, hg1, hro1, w2, hes1, b2d]
      simp [← w3, hes1, hro]
    have eqn : ¬ (n : Int) = (n : Int) + 1 := by omega
    rw [← Wp_eq]
    refine den_wp rfl Tryz.func178 rfl ?_
    simp [Tryz.f178, lenA, e13, e1', e2, ea, eqn, e31, ecl]
    kernel_rfl
  · simp only [Cell.ids, List.mem_singleton] at hq
    subst hq
    exact ⟨b2, get_set_self hlt, by rw [b2d]; exact hro⟩
/-- A run's mail is cut in its place. -/
theorem WorldV.cutMail (hV : WorldV lo h w c cs cs) {j : Nat} (hj : j < w.runs.length) {zs : List PVal} {s : Cell} {k : H} (f : CutV h (cs[j]'(by have := hV.len; omega)).mail zs s k) :
    ∃ k', H.write k (sid c.runs) (soff c.runs + j) 4 [s] = some k' ∧ WorldV lo k' { w with runs := w.runs.set j { w.runs[j] with mail := zs } } c (cs.set j { (cs[j]'(by have := hV.len; omega)) with mail := s }) (cs.set j { (cs[j]'(by have := hV.len; omega)) with mail := s }) ∧
      StepV h (part c cs) k' (part c (cs.set j { (cs[j]'(by have := hV.len; omega)) with mail := s })) := by
  have hi' : j < cs.length := by have := hV.len; omega
  obtain ⟨v1, g1⟩ := hV.newMail hj f.chg f.sl f.wr f.un (fun id hid => .inl (f.ids id hid))
  obtain ⟨h5, e5, v5, g5⟩ := v1.lay (i := j) (by simpa using hj) (j := 4) (xs := [s]) (r' := { cs[j] with mail := s }) (by simp [splice]) (by simp)
  exact ⟨h5, e5, v5, g1.trans g5⟩
set_option maxRecDepth 16000 in
theorem c_fill (hV : WorldV lo h w c cs cs) {i : Nat} (hi : i < w.runs.length) (h4 : w.runs[i].slots.length = 4) (hf : 0 ≤ w.runs[i].full ∧ w.runs[i].full ≤ 15) {slot : Int} (h0 : 0 ≤ slot ∧ slot ≤ 3) (v : PVal) :
    ∃ h', Dz.den 135 [.c (.ptr (sid c.runs) (soff c.runs + i) 0), .c (.int .i64 slot), .g (encV v)] h = some (.t [], h') ∧
      WorldV lo h' { w with runs := w.runs.set i (putRun w.runs[i] slot v) } c (cs.set i { (cs[i]'(by have := hV.len; omega)) with full := withB w.runs[i].full slot }) (cs.set i { (cs[i]'(by have := hV.len; omega)) with full := withB w.runs[i].full slot }) ∧
      StepV h (part c cs) h' (part c (cs.set i { (cs[i]'(by have := hV.len; omega)) with full := withB w.runs[i].full slot })) := by
  have hi' : i < cs.length := by have := hV.len; omega
  obtain ⟨n, hn⟩ : ∃ n : Nat, slot = n := ⟨slot.toNat, by omega⟩
  have hn4 : n < w.runs[i].slots.length := by omega
  obtain ⟨h1, e1, v1, g1⟩ := hV.slotPut hi hn4 v
  have hr := hV.each i hi
  have hS := hr.slots
  have hR := hV.runs
  have hR1 := v1.runs
  obtain ⟨h2, e2, v2, g2⟩ := v1.put (i := i) (by simpa using hi) (j := 3) (xs := [.int .i64 (withB w.runs[i].full slot)]) (r := putRun w.runs[i] slot v) (r' := { cs[i] with full := withB w.runs[i].full slot }) (by simp [splice]) (by simp)
    (fun _ q => by simp only [List.getElem_set_self] at q; refine ⟨q.id, q.at_, ?_, rfl, q.mail, q.state, q.due, q.links, q.watched, q.trap, q.why, q.turns⟩; have := q.slots; simp only [putRun, hn, Int.toNat_natCast]; exact this) rfl rfl rfl rfl
  simp only [List.set_set] at v2
  have ew := orW hf.1 hf.2 h0.1 h0.2
  refine ⟨h2, ?_, v2, g1.trans g2⟩
  rw [← Wp_eq]
  refine den_wp rfl Tryz.func135 rfl ?_
  have hfl := hr.full
  subst hn
  simp only [Int.toNat_natCast] at ew
  simp [Tryz.f135, hR.at, hi', ixA_nat hS, hn4, e1, hR1.at, hfl, e2, ew]
  exact ⟨by kernel_rfl, by kernel_rfl, rfl, rfl⟩
set_option maxRecDepth 16000 in
theorem c_take (hV : WorldV lo h w c cs cs) {i : Nat} (hi : i < w.runs.length) {n : Nat} (hn : n < w.runs[i].mail.length) (h12 : w.runs[i].mail.length ≤ 12) :
    ∃ h' s', Dz.den 140 [.c (.ptr (sid c.runs) (soff c.runs + i) 0), .c (.int .i64 n)] h = some (.g (encV w.runs[i].mail[n]), h') ∧
      WorldV lo h' { w with runs := w.runs.set i { w.runs[i] with mail := w.runs[i].mail.eraseIdx n } } c (cs.set i { (cs[i]'(by have := hV.len; omega)) with mail := s' }) (cs.set i { (cs[i]'(by have := hV.len; omega)) with mail := s' }) ∧
      StepV h (part c cs) h' (part c (cs.set i { (cs[i]'(by have := hV.len; omega)) with mail := s' })) := by
  have hi' : i < cs.length := by have := hV.len; omega
  have hr := hV.each i hi
  have hR := hV.runs
  have hm := hr.mail
  have wr : Wr h cs[i].mail := by have := hV.own.wr (.mail i); simpa [part, fld_at hi'] using this
  obtain ⟨s', h1, e1, f1⟩ := c_DeleteV hm wr hn (by omega)
  obtain ⟨h2, e2, v2, g2⟩ := hV.cutMail hi f1
  refine ⟨h2, s', ?_, v2, g2⟩
  have wn : IntKind.i64.wrap ((n : Int) + 1) = (n : Int) + 1 := wrapS (by omega) (by omega)
  rw [← Wp_eq]
  refine den_wp rfl Tryz.func140 rfl ?_
  simp [Tryz.f140, hR.at, hi', ixA_nat hm, hm.at, hn, wn, e1, e2]
theorem c_ValAdd {a b : PVal} (ha : valOk a = true) (hb : valOk b = true) : Dz.den 136 [.g (encV a), .g (encV b)] h = some (.t [.g (encV ((addP a b).getD ⟨0, 0⟩)), .c (.bool (addP a b).isSome)], h) := by
  have h1 := valOk_n ha
  have h2 := valOk_n hb
  have w1 : IntKind.i64.wrap (a.n + b.n) = a.n + b.n := wrap_i64 (by omega) (by omega)
  have hv : valOk ⟨1, a.n + b.n⟩ = decide (-99 ≤ a.n + b.n ∧ a.n + b.n ≤ 99) := by simp [valOk]
  have ha' : valOk ⟨a.k, a.n⟩ = true := ha
  have hb' : valOk ⟨b.k, b.n⟩ = true := hb
  by_cases d : a.k = 1 ∧ b.k = 1 ∧ -99 ≤ a.n + b.n ∧ a.n + b.n ≤ 99
  · refine den_plain rfl Tryz.func136 rfl (by simp [V.plain, V.plain1]) ?_
    unfold addP
    rw [if_pos d]
    obtain ⟨d1, d2, d3⟩ := d
    rw [d1] at ha'
    rw [d2] at hb'
    simp [Tryz.f136, w1, d1, d2, d3, hv, ha', hb']
    rfl
  · refine den_plain rfl Tryz.func136 rfl (by simp [V.plain, V.plain1]) ?_
    unfold addP
    rw [if_neg d]
    by_cases d1 : a.k = 1
    · rw [d1] at ha'
      by_cases d2 : b.k = 1
      · have d3 : ¬ (-99 ≤ a.n + b.n ∧ a.n + b.n ≤ 99) := fun hh => d ⟨d1, d2, hh⟩
        rw [d2] at hb'
        simp [Tryz.f136, w1, d1, d2, d3, hv, ha', hb']
        rfl
      · simp [Tryz.f136, w1, d1, d2, hv, ha', hb']
        rfl
    · simp [Tryz.f136, w1, d1, hv, ha', hb']
      rfl
def NewIQ (h : H) (r : PRun) (x : V × H) : Prop := ∃ k cr, x = (.t [.g (encR cr), .c (.bool true)], k) ∧ Ext h k ∧ RunR k r cr ∧ RunN h.length k cr
theorem c_RunNew {id at_ : Int} {v : PVal} (hid : 1 ≤ id ∧ id ≤ 6) (ha : 0 ≤ at_ ∧ at_ ≤ 15) (hv : valOk v = true) : @Wp _ (Dz.den 128 [.c (.int .i64 id), .c (.int .i64 at_), .g (encV v)] h) ⟨NewIQ h (newRun id at_ v)⟩ := by
  refine den_wp rfl Tryz.func128 rfl ?_
  have hv' : valOk ⟨v.k, v.n⟩ = true := hv
  have S0 : Sl (h.push ⟨false, 2, [[.int .i64 0, .int .i64 0], [.int .i64 0, .int .i64 0], [.int .i64 0, .int .i64 0], [.int .i64 0, .int .i64 0]]⟩) (.sl h.length 0 4 none) 2 encV [⟨0, 0⟩, ⟨0, 0⟩, ⟨0, 0⟩, ⟨0, 0⟩] :=
    ⟨by simp, rfl, by simp [sMost], _, get_push_self, rfl, by simp, by simp⟩
  have W0 : Wr (h.push ⟨false, 2, [[.int .i64 0, .int .i64 0], [.int .i64 0, .int .i64 0], [.int .i64 0, .int .i64 0], [.int .i64 0, .int .i64 0]]⟩) (.sl h.length 0 4 none) := fun q hq => by
    simp only [Cell.ids, List.mem_singleton] at hq; subst hq; exact ⟨_, get_push_self, rfl⟩
  obtain ⟨k1, e1, S1, W1, l1, C1⟩ := S0.write W0 (i := 0) (by simp) (j := 0) (cs := [.int .i64 v.k, .int .i64 v.n]) (x := v) (by simp [splice]) (by simp)
  have f1 : Fresh h 2 encV [v, ⟨0, 0⟩, ⟨0, 0⟩, ⟨0, 0⟩] (.sl h.length 0 4 none) k1 := by
    refine ⟨by simpa using S1, W1, Un.new, ⟨by rw [l1]; simp, fun q hq => ?_⟩, fun q hq => by simp only [Cell.ids, List.mem_singleton] at hq; omega⟩
    rw [C1.keep q (by simp; omega) (by simp [Cell.ids]; omega), get_push_lt hq]
  obtain ⟨x, q, n⟩ := run_new (r := newRun id at_ v) (cr := ⟨id, at_, .nils, 1, .nils, 1, 0, .nils, .nils, false, ⟨0, 0⟩, 0⟩) f1 (Fresh.nils k1 2 encV) (Fresh.nils k1 1 encI) (Fresh.nils k1 1 encI) rfl rfl rfl rfl rfl rfl rfl rfl
  simp only [sid, soff] at e1
  simp [Tryz.f128, hid, ha, hv', e1]
  exact ⟨rfl, k1, _, rfl, x, q, n⟩
end Go.Proofs.YtkcfminmojolhaaGreat

/-
  THE PROGRAM's begin, rest, address: what they answer.
-/
set_option maxRecDepth 8000
namespace Go.Proofs.YtkcfminmojolhaaGreat
open Go.AM
variable {h h' : H} {lo p : Nat} {w : PWorld} {c : WorldC} {st cs : List RunC}
/-- A function that changes the world behind a pointer, and answers nothing. -/
def DoQ (lo : Nat) (h : H) (p : Nat) (q : Key → Cell) (w' : PWorld) (x : V × H) : Prop := ∃ k c' cs', x = (.t [], k) ∧ WorldP lo k p w' c' cs' ∧ StepP h p q k (part c' cs')
/-- The queue of a world behind a pointer is one longer. -/
theorem WorldP.queueMore (hP : WorldP lo h p w c cs) (x : Int) (hl : w.queue.length + 1 ≤ lenMost) :
    ∃ s' k1 k2, appendA 1 (h.push ⟨false, 1, [encI x]⟩) (.c c.queue) (.c (.sl h.length 0 1 none)) = some (.c s', k1) ∧ k1.write p 0 2 [s'] = some k2 ∧ k1.get p = some ⟨false, 7, [encW c]⟩ ∧ WorldP lo k2 p { w with queue := w.queue ++ [x] } { c with queue := s' } cs ∧ StepP h p (part c cs) k2 (part { c with queue := s' } cs) := by
  obtain ⟨s', k1, e1, v1, g1⟩ := hP.v.queueApp (ys := [x]) (by simpa using hl)
  obtain ⟨a3, b3⟩ := g1.away hP.lt hP.out
  rw [hP.at_] at a3
  obtain ⟨k2, e2, P2, ch2⟩ := v1.home a3 b3 hP.ge (j := 2) (xs := [s']) (by simp [splice]) (by simp)
  exact ⟨s', k1, k2, e1, e2, a3, P2, g1.toP.trans (StepP.of_chg ch2)⟩
/-- One more run in a world behind a pointer. -/
theorem WorldP.runMore (hP : WorldP lo h p w c cs) {r : PRun} {cr : RunC} {k : H} (x : Ext h k) (hr : RunR k r cr) (hn : RunN h.length k cr) (hl : w.runs.length + 1 ≤ lenMost) :
    ∃ s' k1 k2, appendA 13 (k.push ⟨false, 13, [encR cr]⟩) (.c c.runs) (.c (.sl k.length 0 1 none)) = some (.c s', k1) ∧ k1.write p 0 1 [s'] = some k2 ∧ WorldP lo k2 p { w with runs := w.runs ++ [r] } { c with runs := s' } (cs ++ [cr]) ∧ StepP h p (part c cs) k2 (part { c with runs := s' } (cs ++ [cr])) := by
  obtain ⟨s', k1, e1, v1, g1⟩ := hP.v.oneMore x hr hn hl
  obtain ⟨a3, b3⟩ := g1.away hP.lt hP.out
  rw [hP.at_] at a3
  obtain ⟨k2, e2, P2, ch2⟩ := v1.home a3 b3 hP.ge (j := 1) (xs := [s']) (by simp [splice]) (by simp)
  exact ⟨s', k1, k2, e1, e2, P2, g1.toP.trans (StepP.of_chg ch2)⟩
def beginI (w : PWorld) (id : Int) (o : POp) : PWorld :=
  if 6 < w.runs.length + 1 then setRun w id (putRun (runAt w id) o.r ⟨0, 0⟩) else setRun (addRunP w id o) id (putRun (runAt (addRunP w id o) id) o.r ⟨3, w.runs.length + 1⟩)
set_option maxRecDepth 16000 in
set_option maxHeartbeats 1000000 in
theorem c_begin (hP : WorldP lo h p w c cs) {id : Int} {i : Nat} {r : PRun} {o : POp} (T : Turn w id i r o) (I : Inv w) (hk : o.kind = 5) :
    @Wp _ (Dz.den 137 [.c (.ptr p 0 0), .c (.int .i64 id), .g (encO o)] h) ⟨DoQ lo h p (part c cs) (beginI w id o)⟩ := by
  refine den_wp rfl Tryz.func137 rfl ?_
  obtain ⟨hi, hri⟩ := T.runs
  have e0 := T.e0
  subst e0
  subst hri
  have hV := hP.v
  have hlen := hV.len
  have hi' : i < cs.length := by omega
  have hS := hV.runs
  have R := T.run.ok
  obtain ⟨i1, i2, i3⟩ := T.idr I
  have h6 : i < 6 := by omega
  have hm := I.many
  have hop := op_r T.ok
  have hgp := hP.at_
  have wn : IntKind.i64.wrap ((w.runs.length : Int) + 1) = (w.runs.length : Int) + 1 := wrapS (by omega) (by omega)
  by_cases hn : 6 < w.runs.length + 1
  · have hn' : ¬ (w.runs.length : Int) < 6 := by omega
    obtain ⟨h2, e2, v2, g2⟩ := c_fill hV hi R.len R.full hop ⟨0, 0⟩
    have er := c_run hgp hS ((i : Int) + 1)
    rw [if_pos (by omega), show ((i : Int) + 1 - 1).toNat = i by omega] at er
    have P2 := hP.move v2 g2
    simp only [encV] at e2
    unfold beginI
    rw [if_pos hn, setRun_at, runAt_nat hi]
    simp [Tryz.f137, at_blk hgp, hS.lenA, hlen, hn', er, e2]
    exact ⟨by kernel_rfl, rfl, h2, c, _, rfl, P2, g2.toP⟩
  · have hn' : (w.runs.length : Int) < 6 := by omega
    have hto : 0 ≤ o.to ∧ o.to ≤ 15 := by
      have A := T.to I (fun x => by simp [goesTo, hk]) (by simp [hasT, hk])
      have := I.clen; omega
    obtain ⟨_, e1, h1, cr, rfl, x1, q1, n1⟩ := c_RunNew (h := h) (id := (w.runs.length : Int) + 1) (at_ := o.to) (v := ⟨3, (i : Int) + 1⟩) (by omega) hto (valOk_run (by omega))
    obtain ⟨s2, k2, h2, e2, e2', P2, g2⟩ := hP.runMore x1 q1 n1 (by unfold lenMost; omega)
    obtain ⟨s3, k3, h3, e3, e3', a3, P3, g3⟩ := P2.queueMore ((w.runs.length : Int) + 1) (by have := I.qlen; show w.queue.length + 1 ≤ _; unfold lenMost; omega)
    have hi2 : i < (addRunP w ((i : Int) + 1) o).runs.length := by simp [addRunP]; omega
    have hri2 : (addRunP w ((i : Int) + 1) o).runs[i] = w.runs[i] := by simp only [addRunP]; rw [List.getElem_append_left hi]
    have P3' : WorldP lo h3 p (addRunP w ((i : Int) + 1) o) { c with runs := s2, queue := s3 } (cs ++ [cr]) := P3
    obtain ⟨h4, e4, v4, g4⟩ := c_fill P3'.v hi2 (by rw [hri2]; exact R.len) (by rw [hri2]; exact R.full) hop ⟨3, (w.runs.length : Int) + 1⟩
    have P4 := P3'.move v4 g4
    have er := c_run P3'.at_ P3'.v.runs ((i : Int) + 1)
    rw [if_pos (by simp; omega), show ((i : Int) + 1 - 1).toNat = i by omega] at er
    have hgp1 : h1.get p = some ⟨false, 7, [encW c]⟩ := by rw [x1.2 p hP.lt]; exact hgp
    have hgp2 := P2.at_
    have ap1 : ∀ b j m, j + m ≤ 7 → (h1.push b).cellsAt p 0 j m = some (((encW c).drop j).take m) := fun b j m hk => at_blk (get_push_some hgp1) (by simpa using hk)
    have ap2 : ∀ b j m, j + m ≤ 7 → (h2.push b).cellsAt p 0 j m = some (((encW { c with runs := s2 }).drop j).take m) := fun b j m hk => at_blk (get_push_some hgp2) (by simpa using hk)
    simp only [encV, encR, encI] at e1 e2 e3 e4
    unfold beginI
    rw [if_neg hn, setRun_at, runAt_nat hi2]
    simp [Tryz.f137, at_blk hgp, hS.lenA, hlen, hn', wn, e1, at_blk hgp1, ap1, e2, e2', at_blk hgp2, ap2, e3, e3', er, e4]
    exact ⟨by kernel_rfl, by kernel_rfl, by kernel_rfl, rfl, h4, _, _, rfl, P4, g2.trans (g3.trans g4.toP)⟩
set_option maxRecDepth 16000 in
set_option maxHeartbeats 1000000 in
theorem c_rest (hP : WorldP lo h p w c cs) {id : Int} {i : Nat} {r : PRun} {o : POp} (T : Turn w id i r o) (I : Inv w) (hk : o.kind = 7 ∨ o.kind = 8) (hf : ¬ 0 ≤ mailAt r o.s) :
    @Wp _ (Dz.den 141 [.c (.ptr p 0 0), .c (.ptr (sid c.runs) (soff c.runs + i) 0), .g (encO o)] h) ⟨DoQ lo h p (part c cs) (takeP w id o)⟩ := by
  refine den_wp rfl Tryz.func141 rfl ?_
  obtain ⟨hi, hri⟩ := T.runs
  have e0 := T.e0
  subst e0
  subst hri
  have hV := hP.v
  have hlen := hV.len
  have hi' : i < cs.length := by omega
  have hr := hV.each i hi
  have hS := hV.runs
  have R := T.run.ok
  obtain ⟨i1, i2, i3⟩ := T.idr I
  have hgp := hP.at_
  have hdue := hr.due
  have hid := hr.id
  have hidr : w.runs[i].id = (i : Int) + 1 := T.run.id
  unfold takeP
  rw [runAt_nat hi, if_neg hf]
  have wait : ∀ {due : Int} {h2 : H}, WorldP lo h2 p { w with runs := w.runs.set i { w.runs[i] with state := 2, due := due } } c (cs.set i { cs[i] with state := 2, due := due }) → StepP h p (part c cs) h2 (part c (cs.set i { cs[i] with state := 2, due := due })) →
      ∃ s7 k7 k8, Dz.den 143 [.c c.queue, .c (.int .i64 ((i : Int) + 1))] h2 = some (.c s7, k7) ∧ k7.write p 0 2 [s7] = some k8 ∧ DoQ lo h p (part c cs) (waitP w ((i : Int) + 1) due) (.t [], k8) := fun {due} {h2} P2 g2 => by
    obtain ⟨_, e7, s7, k7, rfl, f7⟩ := c_without P2.v.queue (P2.v.own.wr .queue) (P2.v.own.un .queue) ((i : Int) + 1) (by have := I.qlen; show w.queue.length ≤ _; omega)
    obtain ⟨k8, e8, P8, g8⟩ := P2.cutQueue f7
    refine ⟨s7, k7, k8, e7, e8, k8, _, _, rfl, ?_, g2.trans g8⟩
    rw [waitP_at hi]; exact P8
  by_cases h7 : o.kind = 7
  · obtain ⟨h1, e1, v1, g1⟩ := hV.put (i := i) hi (j := 5) (xs := [.int .i64 2]) (r := { w.runs[i] with state := 2 }) (r' := { cs[i] with state := 2 }) (by simp [splice]) (by simp) (fun _ q => ⟨q.id, q.at_, q.slots, q.full, q.mail, rfl, q.due, q.links, q.watched, q.trap, q.why, q.turns⟩) rfl rfl rfl rfl
    obtain ⟨h2, e2, v2, g2⟩ := v1.put (i := i) (by simpa using hi) (j := 6) (xs := [.int .i64 0]) (r := { w.runs[i] with state := 2, due := 0 }) (r' := { cs[i] with state := 2, due := 0 }) (by simp [splice]) (by simp) (fun _ q => by simp only [List.getElem_set_self] at q; exact ⟨q.id, q.at_, q.slots, q.full, q.mail, q.state, rfl, q.links, q.watched, q.trap, q.why, q.turns⟩) (by simp) (by simp) (by simp) (by simp)
    simp only [List.set_set] at v2 g2
    have P2 := (hP.move v1 g1).move v2 g2
    obtain ⟨s7, k7, k8, e7, e8, D⟩ := wait P2 (g1.trans g2).toP
    have hgp2 := P2.at_
    have hS2 := v2.runs
    rw [if_pos h7]
    simp [Tryz.f141, h7, e1, e2, at_blk hgp2, hS2.at, hi', hid, hidr, e7, e8]
    exact ⟨by kernel_rfl, rfl, D⟩
  · have h8 : o.kind = 8 := by omega
    rw [if_neg h7]
    by_cases hd : w.runs[i].due < 0
    · have hd1 : w.runs[i].due = -1 := by have := R.due; omega
      have hd' : cs[i].due = -1 := by rw [hdue, hd1]
      obtain ⟨h1, e1, v1, g1⟩ := hV.put (i := i) hi (j := 1) (xs := [.int .i64 o.to]) (r := { w.runs[i] with at_ := o.to }) (r' := { cs[i] with at_ := o.to }) (by simp [splice]) (by simp) (fun _ q => ⟨q.id, rfl, q.slots, q.full, q.mail, q.state, q.due, q.links, q.watched, q.trap, q.why, q.turns⟩) rfl rfl rfl rfl
      obtain ⟨h2, e2, v2, g2⟩ := v1.put (i := i) (by simpa using hi) (j := 6) (xs := [.int .i64 0]) (r := { w.runs[i] with due := 0, at_ := o.to }) (r' := { cs[i] with due := 0, at_ := o.to }) (by simp [splice]) (by simp) (fun _ q => by simp only [List.getElem_set_self] at q; exact ⟨q.id, q.at_, q.slots, q.full, q.mail, q.state, rfl, q.links, q.watched, q.trap, q.why, q.turns⟩) (by simp) (by simp) (by simp) (by simp)
      simp only [List.set_set] at v2 g2
      have P2 := (hP.move v1 g1).move v2 g2
      rw [if_pos hd, setRun_at]
      simp [Tryz.f141, h8, hS.at, hi', hd', e1, e2]
      exact ⟨rfl, h2, c, _, rfl, P2, (g1.trans g2).toP⟩
    · have hd' : ¬ cs[i].due = -1 := by rw [hdue]; omega
      obtain ⟨h1, e1, v1, g1⟩ := hV.put (i := i) hi (j := 5) (xs := [.int .i64 2]) (r := { w.runs[i] with state := 2 }) (r' := { cs[i] with state := 2 }) (by simp [splice]) (by simp) (fun _ q => ⟨q.id, q.at_, q.slots, q.full, q.mail, rfl, q.due, q.links, q.watched, q.trap, q.why, q.turns⟩) rfl rfl rfl rfl
      obtain ⟨h2, e2, v2, g2⟩ := v1.put (i := i) (by simpa using hi) (j := 6) (xs := [.int .i64 0]) (r := { w.runs[i] with state := 2, due := 0 }) (r' := { cs[i] with state := 2, due := 0 }) (by simp [splice]) (by simp) (fun _ q => by simp only [List.getElem_set_self] at q; exact ⟨q.id, q.at_, q.slots, q.full, q.mail, q.state, rfl, q.links, q.watched, q.trap, q.why, q.turns⟩) (by simp) (by simp) (by simp) (by simp)
      simp only [List.set_set] at v2 g2
      obtain ⟨h3, e3, v3, g3⟩ := v2.put (i := i) (by simpa using hi) (j := 6) (xs := [.int .i64 (w.now + o.v.n)]) (r := { w.runs[i] with state := 2, due := w.now + o.v.n }) (r' := { cs[i] with state := 2, due := w.now + o.v.n }) (by simp [splice]) (by simp) (fun _ q => by simp only [List.getElem_set_self] at q; exact ⟨q.id, q.at_, q.slots, q.full, q.mail, q.state, rfl, q.links, q.watched, q.trap, q.why, q.turns⟩) (by simp) (by simp) (by simp) (by simp)
      simp only [List.set_set] at v3 g3
      have P2 := (hP.move v1 g1).move v2 g2
      have P3 := P2.move v3 g3
      have ha := op_after T.ok h8
      have hnow := I.now
      have wn : IntKind.i64.wrap (c.now + o.v.n) = w.now + o.v.n := by rw [hV.now]; exact wrapS (by omega) (by omega)
      obtain ⟨s7, k7, k8, e7, e8, D⟩ := wait P3 (g1.trans (g2.trans g3)).toP
      have hgp2 := P2.at_
      have hgp3 := P3.at_
      have hS3 := v3.runs
      rw [if_neg hd]
      simp [Tryz.f141, h8, hS.at, hi', hd', e1, e2, at_blk hgp2, wn, e3, at_blk hgp3, hS3.at, hid, hidr, e7, e8]
      exact ⟨by kernel_rfl, by kernel_rfl, rfl, D⟩
end Go.Proofs.YtkcfminmojolhaaGreat
