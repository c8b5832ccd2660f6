/-
  What functions of the seat answer, each proved once; each under the condition that cells bear what it is given, as its statement says.
-/
import Derived.Test.YtkcfminmojolhaaGreatWalk16
import Derived.Test.YtkcfminmojolhaaGreatWalk12
set_option linter.all false
/-
  THE PROGRAM's address: what it answers.
-/
set_option maxRecDepth 8000
namespace Go.Proofs.YtkcfminmojolhaaGreat
open Go.AM
variable {h h' : H} {lo p : Nat} {w : PWorld} {c : WorldC} {st cs : List RunC}
def addressI (w : PWorld) (id : Int) (o : POp) (to sv : PVal) : PWorld :=
  if o.kind = 6 then giveP w to.n sv
  else if o.kind = 11 then (if Alive w to.n ∧ to.n ≠ id ∧ to.n ∉ (runAt w id).links then linkP w id to.n else w)
  else if ¬ Alive w to.n then giveP w id to
  else if to.n ≠ id ∧ id ∉ (runAt w to.n).watched then watchP w id to.n else w
theorem linkP_at {i m : Nat} (hi : i < w.runs.length) (hm : m < w.runs.length) (hne : m ≠ i) : linkP w ((i : Int) + 1) ((m : Int) + 1) =
    { w with runs := (w.runs.set i { w.runs[i] with links := w.runs[i].links ++ [(m : Int) + 1] }).set m { w.runs[m] with links := w.runs[m].links ++ [(i : Int) + 1] } } := by
  unfold linkP
  simp only [setRun_at, runAt_nat hi]
  rw [runAt_nat (w := { w with runs := w.runs.set i { w.runs[i] with links := w.runs[i].links ++ [(m : Int) + 1] } }) (by simpa using hm)]
  simp only [List.getElem_set_ne (Ne.symm hne)]
theorem watchP_at {i m : Nat} (hm : m < w.runs.length) : watchP w ((i : Int) + 1) ((m : Int) + 1) = { w with runs := w.runs.set m { w.runs[m] with watched := w.runs[m].watched ++ [(i : Int) + 1] } } := by
  unfold watchP; rw [setRun_at, runAt_nat hm]
set_option maxRecDepth 16000 in
set_option maxHeartbeats 2000000 in
theorem c_address (hP : WorldP lo h p w c cs) {id : Int} {i : Nat} {r : PRun} {o : POp} (T : Turn w id i r o) (I : Inv w) (hs : w.sent ≤ 1000000000) (hk : o.kind = 6 ∨ o.kind = 11 ∨ o.kind = 12) {to : PVal} (okto : valOk to = true) (k3 : to.k = 3) :
    @Wp _ (Dz.den 138 [.c (.ptr p 0 0), .c (.ptr (sid c.runs) (soff c.runs + i) 0), .g (encO o), .g (encV to)] h) ⟨DoQ lo h p (part c cs) (addressI w id o to (slotAt r o.s))⟩ := by
  refine den_wp rfl Tryz.func138 rfl ?_
  obtain ⟨hi, hri⟩ := T.runs
  have e0 := T.e0
  subst e0
  subst hri
  have hV := hP.v
  have hlen := hV.len
  have hi' : i < cs.length := by omega
  have hr := hV.each i hi
  have hS := hV.runs
  have hSl := hr.slots
  have R := T.run.ok
  obtain ⟨i1, i2, i3⟩ := T.idr I
  have h6 : i < 6 := by omega
  have hos := op_s T.ok
  have hgp := hP.at_
  have hidr : w.runs[i].id = (i : Int) + 1 := T.run.id
  have hid : cs[i].id = (i : Int) + 1 := by rw [hr.id, hidr]
  have hton := valOk_3 okto k3
  obtain ⟨m, em⟩ : ∃ m : Nat, to.n = (m : Int) + 1 := ⟨(to.n - 1).toNat, by omega⟩
  have em2 : (to.n - 1).toNat = m := by omega
  have ea := c_alive (ro := false) hgp hV.rd.runs to.n
  have eto : to = ⟨3, (m : Int) + 1⟩ := by cases to; simp at k3 em; simp [k3, em]
  have SI := I.saneI (by omega)
  obtain ⟨sa, hsa⟩ : ∃ n : Nat, o.s = n := ⟨o.s.toNat, by omega⟩
  have hsa4 : sa < w.runs[i].slots.length := by rw [R.len]; omega
  have hsv : slotAt w.runs[i] o.s = w.runs[i].slots[sa] := by unfold slotAt; rw [hsa, Int.toNat_natCast, List.getElem?_eq_getElem hsa4]; rfl
  have oksv := slotAt_ok R hos.1 hos.2
  rw [hsv] at oksv ⊢
  have hsr : ∃ b, h.get (sid c.runs) = some b := by obtain ⟨id, j, b, e, hb, _⟩ := hS.cons hi'; rw [e]; exact ⟨b, hb⟩
  obtain ⟨br, hbr⟩ := hsr
  have liveIn : Alive w to.n → ∃ hm : m < w.runs.length, m < cs.length ∧ w.runs[m].watched = (runAt w to.n).watched := fun al => by
    have := al.1
    have hm : m < w.runs.length := by omega
    exact ⟨hm, by omega, by rw [em, runAt_nat hm]⟩
  by_cases k6 : o.kind = 6
  · obtain ⟨_, e2, h2, c2, cs2, rfl, P2, g2, r2⟩ := c_give hP SI to.n w.runs[i].slots[sa] oksv
    unfold addressI
    rw [if_pos k6]
    simp only [encV, em] at e2
    by_cases al : Alive w to.n
    · rw [if_pos (aliveC_iff.2 al), em2, em] at ea
      simp [Tryz.f138, em, ea, k6, hS.at, hi', hsa, ixA_nat hSl, hSl.at, hsa4, e2]
      rw [← em]
      exact ⟨by kernel_rfl, rfl, h2, c2, cs2, rfl, P2, g2⟩
    · rw [aliveC_not al, em] at ea
      simp [Tryz.f138, em, ea, k6, hS.at, hi', hsa, ixA_nat hSl, hSl.at, hsa4, e2]
      rw [← em]
      exact ⟨by kernel_rfl, rfl, h2, c2, cs2, rfl, P2, g2⟩
  by_cases k11 : o.kind = 11
  · unfold addressI
    rw [if_neg k6, if_pos k11, runAt_nat hi]
    by_cases al : Alive w to.n
    · obtain ⟨hm, hm', _⟩ := liveIn al
      rw [if_pos (aliveC_iff.2 al), em2, em] at ea
      by_cases emi : m = i
      · subst emi
        rw [if_neg (fun hh => hh.2.1 em)]
        simp [Tryz.f138, em, ea, k11, hbr, Cell.eqA]
        exact ⟨by unfold LexOk; kernel_rfl, rfl, h, c, cs, rfl, hP, StepP.refl _ _ _⟩
      · have hne : ¬ (soff c.runs + m = soff c.runs + i) := by omega
        have hl := c_ContainsI (h := h) hr.links ((m : Int) + 1)
        by_cases ham : (m : Int) + 1 ∈ w.runs[i].links
        · rw [if_neg (fun hh => hh.2.2 (by rw [em]; exact ham))]
          simp [Tryz.f138, em, ea, k11, hbr, Cell.eqA, emi, hS.at, hi', hl, ham]
          exact ⟨by unfold LexOk; kernel_rfl, rfl, h, c, cs, rfl, hP, StepP.refl _ _ _⟩
        · rw [if_pos ⟨al, by rw [em]; omega, by rw [em]; exact ham⟩]
          obtain ⟨s4, k4, h4, e4, e5, S4, v4, g4, _⟩ := hV.linksAdd hi ((m : Int) + 1) (by have := R.links.len; unfold lenMost; omega)
          generalize hcs4 : cs.set i { cs[i] with links := s4 } = cs4 at v4 g4
          have hm4 : m < cs4.length := by rw [← hcs4]; simp; omega
          have hi4 : i < cs4.length := by rw [← hcs4]; simp; omega
          have hm5 : m < (w.runs.set i { w.runs[i] with links := w.runs[i].links ++ [(m : Int) + 1] }).length := by simp; omega
          have hmr : (w.runs.set i { w.runs[i] with links := w.runs[i].links ++ [(m : Int) + 1] })[m] = w.runs[m] := by rw [List.getElem_set_ne (by omega)]
          have hmc : cs4[m] = cs[m] := by subst hcs4; rw [List.getElem_set_ne (by omega)]
          have hci : cs4[i].id = (i : Int) + 1 := by subst hcs4; simpa using hid
          have P4 := hP.move v4 g4
          obtain ⟨s6, k6', h6', e6, e7, S6, v6, g6, _⟩ := v4.linksAdd (i := m) hm5 ((i : Int) + 1) (by simp only [hmr]; have := (I.each m _ (List.getElem?_eq_getElem hm)).ok.links.len; unfold lenMost; omega)
          have P6 := P4.move v6 g6
          simp only [hmc] at e6
          have hS4 := v4.runs
          have hP1 := hS.push ⟨false, 1, [[.int .i64 ((m : Int) + 1)]]⟩
          have hP4 := hS4.push ⟨false, 1, [[.int .i64 ((i : Int) + 1)]]⟩
          simp only [encI] at e4 e6
          simp [Tryz.f138, em, ea, k11, hbr, Cell.eqA, emi, hS.at, hi', hl, ham, e4, e5, hP1.at, hS4.at, hm4, hi4, hmc, hci, e6, e7, hP4.at, hm']
          rw [linkP_at hi hm emi]
          simp only [hmr] at P6
          exact ⟨by unfold LexOk; kernel_rfl, by kernel_rfl, by kernel_rfl, rfl, h6', c, _, rfl, P6, (g4.trans g6).toP⟩
    · rw [if_neg (fun hh => al hh.1)]
      rw [aliveC_not al, em] at ea
      simp [Tryz.f138, em, ea, k11]
      exact ⟨by unfold LexOk; kernel_rfl, rfl, h, c, cs, rfl, hP, StepP.refl _ _ _⟩
  have k12 : o.kind = 12 := by omega
  unfold addressI
  rw [if_neg k6, if_neg k11]
  by_cases al : Alive w to.n
  · rw [if_neg (fun hh => hh al)]
    obtain ⟨hm, hm', hwm⟩ := liveIn al
    rw [if_pos (aliveC_iff.2 al), em2, em] at ea
    have hrm := hV.each m hm
    by_cases emi : m = i
    · subst emi
      rw [if_neg (fun hh => hh.1 em)]
      simp [Tryz.f138, em, ea, k12, hbr, Cell.eqA]
      exact ⟨by unfold LexOk; kernel_rfl, rfl, h, c, cs, rfl, hP, StepP.refl _ _ _⟩
    · have hl := c_ContainsI (h := h) hrm.watched ((i : Int) + 1)
      rw [hwm] at hl
      by_cases ham : (i : Int) + 1 ∈ (runAt w to.n).watched
      · rw [if_neg (fun hh => hh.2 ham)]
        simp only [ham] at hl
        simp [Tryz.f138, em, ea, k12, hbr, Cell.eqA, emi, hS.at, hi', hm', hid, hl]
        exact ⟨by unfold LexOk; kernel_rfl, rfl, h, c, cs, rfl, hP, StepP.refl _ _ _⟩
      · rw [if_pos ⟨by rw [em]; omega, ham⟩]
        obtain ⟨s4, k4, h4, e4, e5, S4, v4, g4, _⟩ := hV.watchedAdd hm ((i : Int) + 1) (by have := (I.each m _ (List.getElem?_eq_getElem hm)).ok.watched.len; unfold lenMost; omega)
        have P4 := hP.move v4 g4
        have hP1 := hS.push ⟨false, 1, [[.int .i64 ((i : Int) + 1)]]⟩
        have hl' := hl
        simp only [ham] at hl
        simp only [encI] at e4
        simp [Tryz.f138, em, ea, k12, hbr, Cell.eqA, emi, hS.at, hi', hm', hid, hl, e4, e5, hP1.at]
        rw [watchP_at hm]
        exact ⟨by unfold LexOk; kernel_rfl, by kernel_rfl, rfl, h4, c, _, rfl, P4, g4.toP⟩
  · rw [if_pos al]
    obtain ⟨_, e2, h2, c2, cs2, rfl, P2, g2, r2⟩ := c_give hP SI ((i : Int) + 1) to okto
    rw [aliveC_not al, em] at ea
    simp only [encV, em, k3] at e2
    simp [Tryz.f138, em, k3, ea, k12, hS.at, hi', hid, e2]
    exact ⟨by kernel_rfl, rfl, h2, c2, cs2, rfl, P2, g2⟩
end Go.Proofs.YtkcfminmojolhaaGreat

/-
  WORLDS IN PLAIN DATA: the order of going to the next step, and what else a step does.
-/
set_option maxRecDepth 8000
namespace Go.Proofs.YtkcfminmojolhaaGreat
open Go.AM
variable {w : PWorld}
/-- A run is at a place. -/
def setAt (w : PWorld) (id : Int) (a : Int) : PWorld := setRun w id { runAt w id with at_ := a }
theorem setRun_set {id : Int} {x y : PRun} : setRun (setRun w id x) id y = setRun w id y := by
  unfold setRun; simp
theorem setAt_setRun {id : Int} {x : PRun} {a : Int} (h : 1 ≤ id ∧ id ≤ w.runs.length) : setAt (setRun w id x) id a = setRun w id { x with at_ := a } := by
  unfold setAt
  rw [runAt_set h h.1, if_pos rfl, setRun_set]
theorem setRun_comm {a b : Int} {x y : PRun} (h : (a - 1).toNat ≠ (b - 1).toNat) : setRun (setRun w a x) b y = setRun (setRun w b y) a x := by
  unfold setRun
  simp only
  rw [List.set_comm _ _ h]
theorem setAt_give {id : Int} (h : 1 ≤ id ∧ id ≤ w.runs.length) (h1 : (runAt w id).state = 1) (k : Int) (v : PVal) :
    setAt (giveP w k v) id ((runAt w id).at_ + 1) = giveP (setRun w id (nextRun (runAt w id))) k v := by
  have e1 : ∀ {q : Int}, 1 ≤ q → runAt (setRun w id (nextRun (runAt w id))) q = if q = id then nextRun (runAt w id) else runAt w q := fun hq => runAt_set h hq
  have el : (setRun w id (nextRun (runAt w id))).runs.length = w.runs.length := setRun_len
  have eT : Takes (setRun w id (nextRun (runAt w id))) k ↔ Takes w k := by
    unfold Takes
    rw [el]
    constructor
    · rintro ⟨a, b, d⟩
      rw [e1 a.1] at b d
      refine ⟨a, ?_⟩
      split at b
      · rename_i e; subst e; rw [if_pos rfl] at d; exact ⟨b, d⟩
      · rename_i e; rw [if_neg e] at d; exact ⟨b, d⟩
    · rintro ⟨a, b, d⟩
      refine ⟨a, ?_⟩
      rw [e1 a.1]
      split
      · rename_i e; subst e; exact ⟨b, d⟩
      · exact ⟨b, d⟩
  by_cases T : Takes w k
  · have T' := eT.2 T
    unfold giveP
    rw [if_pos T, if_pos T']
    by_cases ek : k = id
    · subst ek
      have nw : ¬ Wakes w (runAt w k) v := fun hh => by have := hh.1; omega
      have nw' : ¬ Wakes (setRun w k (nextRun (runAt w k))) (runAt (setRun w k (nextRun (runAt w k))) k) v := fun hh => by
        have := hh.1; rw [e1 h.1, if_pos rfl] at this; simp only [nextRun] at this; omega
      rw [if_neg nw, if_neg nw', e1 h.1, if_pos rfl]
      unfold setAt
      have e2 : runAt { w with sent := w.sent + 1, runs := w.runs.set (k - 1).toNat { runAt w k with mail := (runAt w k).mail ++ [v] } } k = { runAt w k with mail := (runAt w k).mail ++ [v] } := by
        have := runAt_set (w := w) (x := { runAt w k with mail := (runAt w k).mail ++ [v] }) h h.1
        rw [if_pos rfl] at this
        exact this
      rw [e2]
      unfold setRun
      simp [nextRun]
    · have e3 : runAt (setRun w id (nextRun (runAt w id))) k = runAt w k := by rw [e1 T.1.1, if_neg ek]
      rw [e3]
      have hne : (id - 1).toNat ≠ (k - 1).toNat := by have := T.1.1; omega
      have eW : Wakes (setRun w id (nextRun (runAt w id))) (runAt w k) v ↔ Wakes w (runAt w k) v := Iff.rfl
      have hrd : ∀ (x : PRun) (q : List Int) (s : Int), runAt { w with sent := s, runs := w.runs.set (k - 1).toNat x, queue := q } id = runAt w id := fun x q s => by
        have := runAt_set (w := w) (x := x) T.1 h.1
        rw [if_neg (Ne.symm ek)] at this
        exact this
      by_cases W : Wakes w (runAt w k) v
      · rw [if_pos W, if_pos (eW.2 W)]
        unfold setAt
        rw [hrd]
        unfold setRun
        simp only [nextRun]
        rw [List.set_comm _ _ hne]
      · rw [if_neg W, if_neg (fun hh => W (eW.1 hh))]
        unfold setAt
        have := hrd { runAt w k with mail := (runAt w k).mail ++ [v] } w.queue (w.sent + 1)
        rw [this]
        unfold setRun
        simp only [nextRun]
        rw [List.set_comm _ _ hne]
  · have T' : ¬ Takes (setRun w id (nextRun (runAt w id))) k := fun hh => T (eT.1 hh)
    unfold giveP
    rw [if_neg T, if_neg T']
    rfl
theorem setAt_link {id k : Int} (h : 1 ≤ id ∧ id ≤ w.runs.length) (hk : 1 ≤ k ∧ k ≤ w.runs.length) (hne : k ≠ id) :
    setAt (linkP w id k) id ((runAt w id).at_ + 1) = linkP (setRun w id (nextRun (runAt w id))) id k := by
  have hk' : ∀ {x : PRun}, 1 ≤ k ∧ k ≤ (setRun w id x).runs.length := fun {x} => by rw [setRun_len]; exact hk
  have hi' : ∀ {x : PRun}, 1 ≤ id ∧ id ≤ (setRun w id x).runs.length := fun {x} => by rw [setRun_len]; exact h
  have hn : (id - 1).toNat ≠ (k - 1).toNat := by omega
  unfold linkP setAt
  simp only [runAt_set h hk.1, runAt_set h h.1, if_neg hne, if_pos rfl, runAt_set hk' h.1, if_neg (Ne.symm hne), runAt_set hi' hk.1, setRun_set]
  rw [setRun_comm hn.symm, setRun_set]
  rfl
theorem setAt_watch {id k : Int} (h : 1 ≤ id ∧ id ≤ w.runs.length) (hk : 1 ≤ k ∧ k ≤ w.runs.length) (hne : k ≠ id) :
    setAt (watchP w id k) id ((runAt w id).at_ + 1) = watchP (setRun w id (nextRun (runAt w id))) id k := by
  have hn : (id - 1).toNat ≠ (k - 1).toNat := by omega
  unfold watchP setAt
  simp only [runAt_set h hk.1, runAt_set hk h.1, if_neg hne, if_neg (Ne.symm hne)]
  rw [setRun_comm hn.symm]
  rfl
end Go.Proofs.YtkcfminmojolhaaGreat

/-
  THE PROGRAM's step: what it answers.
-/
set_option maxRecDepth 8000
namespace Go.Proofs.YtkcfminmojolhaaGreat
open Go.AM
variable {h h' : H} {lo p : Nat} {w : PWorld} {c : WorldC} {st cs : List RunC}
theorem setAt_begin {id : Int} {i : Nat} {r : PRun} {o : POp} (T : Turn w id i r o) (I : Inv w) : setAt (beginI w id o) id (r.at_ + 1) = beginP w id o := by
  obtain ⟨i1, i2, i3⟩ := T.idr I
  have hl : (addRunP w id o).runs.length = w.runs.length + 1 := by simp [addRunP]
  unfold beginI beginP
  split
  · rw [setAt_setRun ⟨i1, i3⟩]
    unfold setP
    rw [T.at_]; rfl
  · rw [setAt_setRun (by rw [hl]; omega)]
    unfold setP
    have : runAt (addRunP w id o) id = r := by rw [runAt_add ⟨i1, i3⟩, T.at_]
    rw [this]; rfl
theorem setAt_address {id : Int} {i : Nat} {r : PRun} {o : POp} (T : Turn w id i r o) (I : Inv w) (hk : o.kind = 6 ∨ o.kind = 11 ∨ o.kind = 12) (k3 : (slotAt r o.r).k = 3) :
    setAt (addressI w id o (slotAt r o.r) (slotAt r o.s)) id (r.at_ + 1) = otherP w id o := by
  obtain ⟨i1, i2, i3⟩ := T.idr I
  have hin : 1 ≤ id ∧ id ≤ w.runs.length := ⟨i1, i3⟩
  have hg : (runAt w id).state = 1 := by rw [T.at_]; exact T.going
  have e0 : r.at_ = (runAt w id).at_ := by rw [T.at_]
  have same : setAt w id ((runAt w id).at_ + 1) = setRun w id (nextRun (runAt w id)) := rfl
  rw [T.at_] at same
  have sg := fun k v => setAt_give hin hg k v
  have sl := fun k hk ne => setAt_link (k := k) hin hk ne
  have sw := fun k hk ne => setAt_watch (k := k) hin hk ne
  simp only [T.at_] at sg sl sw
  by_cases k6 : o.kind = 6
  · simp [addressI, otherP, T.at_, k3, k6]
    exact sg _ _
  by_cases k11 : o.kind = 11
  · by_cases al : Alive w (slotAt r o.r).n
    · by_cases ne : (slotAt r o.r).n = id
      · simp only [addressI, otherP, T.at_, k3, k11, al, ne]
        simp
        exact same
      · by_cases ham : (slotAt r o.r).n ∈ r.links
        · simp [addressI, otherP, T.at_, k3, k11, al, ne, ham]
          exact same
        · simp [addressI, otherP, T.at_, k3, k11, al, ne, ham]
          exact sl _ al.1 ne
    · simp [addressI, otherP, T.at_, k3, k11, al]
      exact same
  have k12 : o.kind = 12 := by omega
  by_cases al : Alive w (slotAt r o.r).n
  · by_cases ne : (slotAt r o.r).n = id
    · simp only [addressI, otherP, T.at_, k3, k12, al, ne]
      have al' : Alive w id := ne ▸ al
      simp [al']
      exact same
    · by_cases ham : id ∈ (runAt w (slotAt r o.r).n).watched
      · simp [addressI, otherP, T.at_, k3, k12, al, ne, ham]
        exact same
      · simp [addressI, otherP, T.at_, k3, k12, al, ne, ham]
        exact sw _ al.1 ne
  · simp [addressI, otherP, T.at_, k3, k12, al]
    exact sg _ _
end Go.Proofs.YtkcfminmojolhaaGreat

/-
  THE REFERENCE's l21Step: what it answers.
-/
set_option maxRecDepth 8000
namespace Go.Proofs.YtkcfminmojolhaaGreat
open Go.AM
variable {h h' : H} {lo : Nat} {w : PWorld} {c : WorldC} {st cs : List RunC}
set_option maxRecDepth 16000 in
set_option maxHeartbeats 4000000 in
theorem c_l21Step (hV : WorldV lo h w c cs cs) {id : Int} {i : Nat} {r : PRun} {o : POp} (T : Turn w id i r o) (I : Inv w) (hs : w.sent ≤ 1000000000) :
    @Wp _ (Dz.den 87 [.g (encW c), .c (.int .i64 id)] h) ⟨StepQ lo h (part c cs) (stepP w id)⟩ := by
  refine den_wp rfl Tryz.func87 rfl ?_
  obtain ⟨hi, hri⟩ := T.runs
  have e0 := T.e0
  subst e0
  subst hri
  have hlen := hV.len
  have hi' : i < cs.length := by omega
  have hr := hV.each i hi
  have hS := hV.runs
  have hSl := hr.slots
  have hC := hV.code
  have R := T.run.ok
  obtain ⟨i1, i2, i3⟩ := T.idr I
  have h6 : i < 6 := by omega
  have wi : IntKind.i64.wrap (i : Int) = i := wrapS (by omega) (by omega)
  have hop := op_r T.ok
  have hos := op_s T.ok
  have hkd := op_kind T.ok
  obtain ⟨ra, hra⟩ : ∃ n : Nat, o.r = n := ⟨o.r.toNat, by omega⟩
  obtain ⟨sa, hsa⟩ : ∃ n : Nat, o.s = n := ⟨o.s.toNat, by omega⟩
  have hra4 : ra < w.runs[i].slots.length := by rw [R.len]; omega
  have hsa4 : sa < w.runs[i].slots.length := by rw [R.len]; omega
  have hto : slotAt w.runs[i] o.r = w.runs[i].slots[ra] := by unfold slotAt; rw [hra, Int.toNat_natCast, List.getElem?_eq_getElem hra4]; rfl
  have hsv : slotAt w.runs[i] o.s = w.runs[i].slots[sa] := by unfold slotAt; rw [hsa, Int.toNat_natCast, List.getElem?_eq_getElem hsa4]; rfl
  have okto := slotAt_ok R hop.1 hop.2
  have oksv := slotAt_ok R hos.1 hos.2
  rw [hto] at okto
  rw [hsv] at oksv
  obtain ⟨n, hn⟩ : ∃ n : Nat, w.runs[i].at_ = n := ⟨w.runs[i].at_.toNat, by have := R.at_; omega⟩
  have hnc : n < w.code.length := by have := T.run.at_; omega
  have hco : w.code[n] = o := by have := T.opg.2; rw [hn, Int.toNat_natCast, List.getElem?_eq_getElem hnc] at this; simpa using this
  have hat : cs[i].at_ = n := by rw [hr.at_, hn]
  have wn : IntKind.i64.wrap ((n : Int) + 1) = (n : Int) + 1 := wrapS (by omega) (by have := R.at_; omega)
  have hop2 : codeAt w (n : Int) = o := by rw [← hn]; exact T.op
  have eS : stepP w ((i : Int) + 1) = (if o.kind = 1 then setP w ((i : Int) + 1) o.r o.v
    else if o.kind = 2 then setP w ((i : Int) + 1) o.r w.runs[i].slots[sa]
    else if o.kind = 3 then (match addP w.runs[i].slots[ra] w.runs[i].slots[sa] with | none => fallP w ((i : Int) + 1) ⟨2, 1⟩ | some v => setP w ((i : Int) + 1) o.r v)
    else if o.kind = 4 then setP w ((i : Int) + 1) o.r ⟨3, (i : Int) + 1⟩
    else if o.kind = 5 then beginP w ((i : Int) + 1) o
    else if o.kind = 7 ∨ o.kind = 8 then takeP w ((i : Int) + 1) o
    else if o.kind = 9 then { w with runs := w.runs.set i { w.runs[i] with at_ := o.to } }
    else if o.kind = 10 then { w with runs := w.runs.set i { w.runs[i] with at_ := if w.runs[i].slots[ra] = o.v then o.to else (n : Int) + 1 } }
    else if o.kind = 13 then { w with runs := w.runs.set i { w.runs[i] with trap := decide (o.v.n = 1), at_ := (n : Int) + 1 } }
    else if o.kind = 14 then fallP w ((i : Int) + 1) w.runs[i].slots[ra]
    else otherP w ((i : Int) + 1) o) := by
    unfold stepP
    simp only [runAt_nat hi, hop2, hto, hsv, setRun_at, hn]
    rfl
  rw [eS]
  have Q : ∀ {w' : PWorld} {x : V × H}, StepQ lo h (part c cs) w' x → StepQ lo h (part c cs) w' x := fun q => q
  have put := fun {j : Nat} {xs : List Cell} {r : PRun} {r' : RunC} => hV.put (i := i) hi (j := j) (xs := xs) (r := r) (r' := r')
  by_cases k1 : o.kind = 1
  · obtain ⟨_, e2, h2, c2, cs2, rfl, v2, g2⟩ := c_l21Set hV hi h6 R.len R.full R.at_ hop o.v
    simp only [encW, encV] at e2
    rw [if_pos k1]
    simp [Tryz.f87, wi, hi', ixA_nat hS, hS.at, hat, hnc, ixA_nat hC, hC.at, hco, k1, e2]
    exact ⟨h2, c2, cs2, rfl, v2, g2⟩
  rw [if_neg k1]
  by_cases k2 : o.kind = 2
  · obtain ⟨_, e2, h2, c2, cs2, rfl, v2, g2⟩ := c_l21Set hV hi h6 R.len R.full R.at_ hop w.runs[i].slots[sa]
    simp only [encW, encV] at e2
    rw [if_pos k2]
    simp [Tryz.f87, wi, hi', ixA_nat hS, hS.at, hat, hnc, ixA_nat hC, hC.at, hco, k2, e2, hsa, ixA_nat hSl, hSl.at, hsa4]
    exact ⟨by kernel_rfl, h2, c2, cs2, rfl, v2, g2⟩
  rw [if_neg k2]
  by_cases k3 : o.kind = 3
  · rw [if_pos k3]
    have ea := c_l1Add (h := h) okto oksv
    simp only [encV] at ea
    cases hadd : addP w.runs[i].slots[ra] w.runs[i].slots[sa] with
    | none =>
      obtain ⟨_, e2, h2, c2, cs2, rfl, v2, g2⟩ := c_l13End hV I (by omega) (id := (i : Int) + 1) (by omega) (why := ⟨2, 1⟩) rfl
      simp only [encW, encV] at e2
      rw [hadd] at ea
      simp only [Option.getD_none, Option.isSome_none] at ea
      simp [Tryz.f87, wi, hi', ixA_nat hS, hS.at, hat, hnc, ixA_nat hC, hC.at, hco, k3, hra, hsa, ixA_nat hSl, hSl.at, hra4, hsa4, ea, e2]
      exact ⟨by kernel_rfl, h2, c2, cs2, rfl, v2, g2⟩
    | some v =>
      obtain ⟨_, e2, h2, c2, cs2, rfl, v2, g2⟩ := c_l21Set hV hi h6 R.len R.full R.at_ hop v
      simp only [encW, encV, hra] at e2
      rw [hadd] at ea
      simp only [Option.getD_some, Option.isSome_some] at ea
      simp [Tryz.f87, wi, hi', ixA_nat hS, hS.at, hat, hnc, ixA_nat hC, hC.at, hco, k3, hra, hsa, ixA_nat hSl, hSl.at, hra4, hsa4, ea, e2]
      exact ⟨by kernel_rfl, h2, c2, cs2, rfl, by rw [← hra]; exact v2, g2⟩
  rw [if_neg k3]
  by_cases k4 : o.kind = 4
  · obtain ⟨_, e2, h2, c2, cs2, rfl, v2, g2⟩ := c_l21Set hV hi h6 R.len R.full R.at_ hop ⟨3, (i : Int) + 1⟩
    simp only [encW, encV] at e2
    rw [if_pos k4]
    simp [Tryz.f87, wi, hi', ixA_nat hS, hS.at, hat, hnc, ixA_nat hC, hC.at, hco, k4, e2]
    exact ⟨h2, c2, cs2, rfl, v2, g2⟩
  rw [if_neg k4]
  by_cases k5 : o.kind = 5
  · obtain ⟨_, e2, h2, c2, cs2, rfl, v2, g2⟩ := c_l21Begin hV T I k5
    simp only [encW, encO, k5] at e2
    rw [if_pos k5]
    simp [Tryz.f87, wi, hi', ixA_nat hS, hS.at, hat, hnc, ixA_nat hC, hC.at, hco, k5, e2]
    exact ⟨h2, c2, cs2, rfl, v2, g2⟩
  rw [if_neg k5]
  by_cases k7 : o.kind = 7 ∨ o.kind = 8
  · obtain ⟨_, e2, h2, c2, cs2, rfl, v2, g2⟩ := c_l21Take hV T I (by omega) k7
    rw [if_pos k7]
    rcases k7 with k7 | k7
    · simp only [encW, encO, k7] at e2
      simp [Tryz.f87, wi, hi', ixA_nat hS, hS.at, hat, hnc, ixA_nat hC, hC.at, hco, k7, e2]
      exact ⟨h2, c2, cs2, rfl, v2, g2⟩
    · simp only [encW, encO, k7] at e2
      simp [Tryz.f87, wi, hi', ixA_nat hS, hS.at, hat, hnc, ixA_nat hC, hC.at, hco, k7, e2]
      exact ⟨h2, c2, cs2, rfl, v2, g2⟩
  rw [if_neg k7]
  by_cases k9 : o.kind = 9
  · obtain ⟨h2, e2, v2, g2⟩ := hV.put (i := i) hi (j := 1) (xs := [.int .i64 o.to]) (r := { w.runs[i] with at_ := o.to }) (r' := { cs[i] with at_ := o.to }) (by simp [splice]) (by simp) (fun _ q => ⟨q.id, rfl, q.slots, q.full, q.mail, q.state, q.due, q.links, q.watched, q.trap, q.why, q.turns⟩) rfl rfl rfl rfl
    rw [if_pos k9]
    simp [Tryz.f87, wi, hi', ixA_nat hS, hS.at, hat, hnc, ixA_nat hC, hC.at, hco, k9, e2]
    exact ⟨h2, c, _, rfl, v2, g2⟩
  rw [if_neg k9]
  by_cases k10 : o.kind = 10
  · rw [if_pos k10]
    obtain ⟨h2, e2, v2, g2⟩ := hV.put (i := i) hi (j := 1) (xs := [.int .i64 ((n : Int) + 1)]) (r := { w.runs[i] with at_ := (n : Int) + 1 }) (r' := { cs[i] with at_ := (n : Int) + 1 }) (by simp [splice]) (by simp) (fun _ q => ⟨q.id, rfl, q.slots, q.full, q.mail, q.state, q.due, q.links, q.watched, q.trap, q.why, q.turns⟩) rfl rfl rfl rfl
    have hS2 := v2.runs
    have hSl2 : Sl h2 cs[i].slots 2 encV w.runs[i].slots := by have := (v2.each i (by simpa using hi)).slots; simpa using this
    by_cases d : w.runs[i].slots[ra] = o.v
    · obtain ⟨h3, e3, v3, g3⟩ := v2.put (i := i) (by simpa using hi) (j := 1) (xs := [.int .i64 o.to]) (r := { w.runs[i] with at_ := o.to }) (r' := { cs[i] with at_ := o.to }) (by simp [splice]) (by simp) (fun _ q => by simp only [List.getElem_set_self] at q; exact ⟨q.id, rfl, q.slots, q.full, q.mail, q.state, q.due, q.links, q.watched, q.trap, q.why, q.turns⟩) (by simp) (by simp) (by simp) (by simp)
      simp only [List.set_set] at v3 g3
      have d1 : w.runs[i].slots[ra].k = o.v.k ∧ w.runs[i].slots[ra].n = o.v.n := by rw [d]; exact ⟨rfl, rfl⟩
      rw [if_pos d]
      simp [Tryz.f87, wi, hi', ixA_nat hS, hS.at, hat, hnc, ixA_nat hC, hC.at, hco, k10, wn, e2, hra, ixA_nat hSl2, hSl2.at, hra4, d1, ixA_nat hS2, e3]
      exact ⟨by unfold LexOk; kernel_rfl, h3, c, _, rfl, v3, g2.trans g3⟩
    · have d1 : ¬ (w.runs[i].slots[ra].k = o.v.k ∧ w.runs[i].slots[ra].n = o.v.n) := fun hh => d (by have a := hh.1; have b := hh.2; cases hq : w.runs[i].slots[ra]; cases hq2 : o.v; rw [hq, hq2] at a b; simp at a b; simp [a, b])
      rw [if_neg d]
      simp [Tryz.f87, wi, hi', ixA_nat hS, hS.at, hat, hnc, ixA_nat hC, hC.at, hco, k10, wn, e2, hra, ixA_nat hSl2, hSl2.at, hra4, d1]
      exact ⟨by unfold LexOk; kernel_rfl, h2, c, _, rfl, v2, g2⟩
  rw [if_neg k10]
  by_cases k13 : o.kind = 13
  · rw [if_pos k13]
    obtain ⟨h2, e2, v2, g2⟩ := hV.put (i := i) hi (j := 9) (xs := [.bool (decide (o.v.n = 1))]) (r := { w.runs[i] with trap := decide (o.v.n = 1) }) (r' := { cs[i] with trap := decide (o.v.n = 1) }) (by simp [splice]) (by simp) (fun _ q => ⟨q.id, q.at_, q.slots, q.full, q.mail, q.state, q.due, q.links, q.watched, rfl, q.why, q.turns⟩) rfl rfl rfl rfl
    obtain ⟨h3, e3, v3, g3⟩ := v2.put (i := i) (by simpa using hi) (j := 1) (xs := [.int .i64 ((n : Int) + 1)]) (r := { w.runs[i] with trap := decide (o.v.n = 1), at_ := (n : Int) + 1 }) (r' := { cs[i] with trap := decide (o.v.n = 1), at_ := (n : Int) + 1 }) (by simp [splice]) (by simp) (fun _ q => by simp only [List.getElem_set_self] at q; exact ⟨q.id, rfl, q.slots, q.full, q.mail, q.state, q.due, q.links, q.watched, q.trap, q.why, q.turns⟩) (by simp) (by simp) (by simp) (by simp)
    simp only [List.set_set] at v3 g3
    have hS2 := v2.runs
    simp [Tryz.f87, wi, hi', ixA_nat hS, hS.at, hat, hnc, ixA_nat hC, hC.at, hco, k13, wn, e2, ixA_nat hS2, e3]
    exact ⟨h3, c, _, rfl, v3, g2.trans g3⟩
  rw [if_neg k13]
  by_cases k14 : o.kind = 14
  · rw [if_pos k14]
    obtain ⟨_, e2, h2, c2, cs2, rfl, v2, g2⟩ := c_l13End hV I (by omega) (id := (i : Int) + 1) (by omega) (why := w.runs[i].slots[ra]) okto
    simp only [encW, encV] at e2
    simp [Tryz.f87, wi, hi', ixA_nat hS, hS.at, hat, hnc, ixA_nat hC, hC.at, hco, k14, hra, ixA_nat hSl, hSl.at, hra4, e2]
    exact ⟨by kernel_rfl, h2, c2, cs2, rfl, v2, g2⟩
  rw [if_neg k14]
  have kO : o.kind = 6 ∨ o.kind = 11 ∨ o.kind = 12 := by omega
  obtain ⟨_, e2, h2, c2, cs2, rfl, v2, g2⟩ := c_l21Other hV T I hs kO
  have k7a : ¬ o.kind = 7 := fun hh => k7 (.inl hh)
  have k7b : ¬ o.kind = 8 := fun hh => k7 (.inr hh)
  simp only [encW, encO] at e2
  simp [Tryz.f87, wi, hi', ixA_nat hS, hS.at, hat, hnc, ixA_nat hC, hC.at, hco, k1, k2, k3, k4, k5, k7a, k7b, k9, k10, k13, k14, e2]
  exact ⟨h2, c2, cs2, rfl, v2, g2⟩
end Go.Proofs.YtkcfminmojolhaaGreat

/-
  THE REFERENCE's turns: what they answer.
-/
set_option maxRecDepth 8000
namespace Go.Proofs.YtkcfminmojolhaaGreat
open Go.AM
variable {h h' : H} {lo : Nat} {w : PWorld} {c : WorldC} {st cs : List RunC}
theorem sent_phi (w : PWorld) : w.sent ≤ phi w := by unfold phi; omega
theorem phi_sent (I : Inv w) : phi w ≤ w.sent + 72 := by unfold phi; have := aliveN_le w.runs; have := I.many; omega
theorem countP_at {i : Nat} (hi : i < w.runs.length) : countP' w ((i : Int) + 1) = { w with runs := w.runs.set i { w.runs[i] with turns := min (w.runs[i].turns + 1) 9999 } } := by
  unfold countP'; rw [setRun_at, runAt_nat hi]
theorem minA {x : Int} : (if (9999 : Int) < x then (9999 : Int) else x) = min x 9999 := by
  rw [Int.min_def]; split <;> split <;> omega
set_option maxRecDepth 16000 in
set_option maxHeartbeats 2000000 in
theorem c_l21Do (hV : WorldV lo h w c cs cs) (G : Good w) (hs : w.sent ≤ 100000000) :
    @Wp _ (Dz.den 89 [.g (encW c)] h) ⟨StepQ lo h (part c cs) (turnP w)⟩ := by
  refine den_wp rfl Tryz.func89 rfl ?_
  have hQ := hV.queue
  by_cases hq : w.queue = []
  · have hl0 : w.queue.length = 0 := by rw [hq]; rfl
    have el := fun e => hQ.lenA (e := e)
    rw [hl0] at el
    unfold turnP
    rw [if_pos hq]
    simp [Tryz.f89, el]
    exact ⟨h, c, cs, rfl, hV, StepV.refl _ _⟩
  · have hln : w.queue.length ≠ 0 := fun hh => hq (List.length_eq_zero_iff.1 hh)
    obtain ⟨hid, h1⟩ := G.inv.head hq
    obtain ⟨i, ei⟩ : ∃ i : Nat, headQ w = (i : Int) + 1 := ⟨(headQ w - 1).toNat, by omega⟩
    have hi : i < w.runs.length := by omega
    have hlen := hV.len
    have hi' : i < cs.length := by omega
    have hr := hV.each i hi
    have hS := hV.runs
    have h6 : i < 6 := by have := G.inv.many; omega
    have R := (G.inv.each i _ (List.getElem?_eq_getElem hi)).ok
    have hx1 : ixA TTz h (.slice 3) (.c c.queue) (.c (.int .i64 0)) = some (.c (.ptr (sid c.queue) (soff c.queue) 0)) := ixA_nat hQ (n := 0) rfl rfl (by omega)
    have hx2 : h.cellsAt (sid c.queue) (soff c.queue) 0 1 = some [.int .i64 ((i : Int) + 1)] := by
      have := hQ.at (n := 0) (k := 0) (m := 1) (by omega) (by omega)
      rw [← ei]
      unfold headQ
      cases hh : w.queue with
      | nil => exact absurd hh hq
      | cons a t => rw [hh] at this; simpa using this
    have wi : IntKind.i64.wrap (i : Int) = i := wrapS (by omega) (by omega)
    have wt : IntKind.i64.wrap (w.runs[i].turns + 1) = w.runs[i].turns + 1 := wrapS (by have := R.turns; omega) (by have := R.turns; omega)
    have htn := hr.turns
    obtain ⟨C, ec⟩ := G.countG hid
    rw [ei] at C ec
    obtain ⟨h2, e2, v2, g2⟩ := hV.put (i := i) hi (j := 12) (xs := [.int .i64 (min (w.runs[i].turns + 1) 9999)]) (r := { w.runs[i] with turns := min (w.runs[i].turns + 1) 9999 }) (r' := { cs[i] with turns := min (w.runs[i].turns + 1) 9999 }) (by simp [splice]) (by simp) (fun _ q => ⟨q.id, q.at_, q.slots, q.full, q.mail, q.state, q.due, q.links, q.watched, q.trap, q.why, rfl⟩) rfl rfl rfl rfl
    have eT : turnP w = backP (stepsP 3 (countP' w ((i : Int) + 1)) ((i : Int) + 1)) ((i : Int) + 1) := by unfold turnP; rw [if_neg hq, ei]
    rw [eT]
    obtain ⟨W3, hW3⟩ : ∃ W3, W3 = stepsP 3 (countP' w ((i : Int) + 1)) ((i : Int) + 1) := ⟨_, rfl⟩
    rw [← hW3]
    rw [← countP_at hi] at v2
    have hph := phi_sent G.inv
    simp [Tryz.f89, hQ.lenA, hln, hx1, hx2, wi, hi', ixA_nat hS, hS.at, htn, wt, e2, minA]
    refine ⟨by kernel_rfl, ?_⟩
    have hphi := phi_sent G.inv
    refine loop_wp (σ := (H × WorldC × List RunC) × PWorld × Nat) (fun s => ([.c (ci ((i : Int) + 1)), .c (ci s.2.2)], [encW s.1.2.1, zeroW], [], s.1.1))
      (fun s => WorldV lo s.1.1 s.2.1 s.1.2.1 s.1.2.2 s.1.2.2 ∧ StepV h (part c cs) s.1.1 (part s.1.2.1 s.1.2.2) ∧ Good s.2.1 ∧ i < s.2.1.runs.length ∧ s.2.2 ≤ 3 ∧ phi s.2.1 ≤ phi w + 12 * s.2.2 ∧
        stepsP (3 - s.2.2) s.2.1 ((i : Int) + 1) = W3)
      (fun s => 3 - s.2.2) ((h2, c, cs.set i { cs[i] with turns := min (w.runs[i].turns + 1) 9999 }), countP' w ((i : Int) + 1), 0) ?_ ⟨v2, g2, C.g, by have := C.k.len; simp only; omega, by simp, by have := C.k.phi; simpa using this, hW3.symm⟩ ?_
    · simp [zeroW]
    · rintro ⟨⟨k, c1, cs1⟩, w1, j⟩ ⟨v, s, G1, hi1, j3, ph, st⟩
      simp only at v s G1 hi1 j3 ph st ⊢
      have hl1 := v.len
      have hi1' : i < cs1.length := by omega
      have hS1 := v.runs
      have hst := (v.each i hi1).state
      have hs1 : w1.sent ≤ 1000000000 := by have := sent_phi w1; omega
      have h6b : w1.runs.length ≤ 6 := G1.inv.many.2
      by_cases hj : j < 3
      · obtain ⟨n, hn⟩ : ∃ n, 3 - j = n + 1 := ⟨3 - j - 1, by omega⟩
        rw [hn] at st
        simp only [stepsP] at st
        have ra : runAt w1 ((i : Int) + 1) = w1.runs[i] := runAt_nat hi1
        rw [ra] at st
        by_cases s1 : w1.runs[i].state = 1
        · rw [if_pos s1] at st
          have hidw : 1 ≤ (i : Int) + 1 ∧ (i : Int) + 1 ≤ w1.runs.length := by omega
          obtain ⟨i', T⟩ := G1.inv.turn hidw (by rw [ra]; exact s1)
          have K := T.stepG G1
          obtain ⟨_, e3, k3, c3, cs3, rfl, v3, g3⟩ := c_l21Step v T G1.inv hs1
          have s1' : cs1[i].state = 1 := by rw [hst, s1]
          have hj' : (j : Int) < 3 := by omega
          have wj : IntKind.i64.wrap ((j : Int) + 1) = ((j + 1 : Nat) : Int) := by rw [wrapS (by omega) (by omega)]; omega
          simp only [encW] at e3
          rw [Wp_body]
          simp [hj', wi, hi1', ixA_nat hS1, hS1.at, s1', e3, wj]
          exact ⟨k3, c3, cs3, stepP w1 ((i : Int) + 1), j + 1, ⟨by omega, ⟨rfl, rfl, rfl, rfl, rfl, rfl, rfl⟩, rfl⟩, ⟨v3, s.trans g3, K.g, by have := K.k.len; omega, by omega, by have := K.k.phi; omega, by rw [show 3 - (j + 1) = n by omega]; exact st⟩, by omega⟩
        · rw [if_neg s1] at st
          have s1' : ¬ cs1[i].state = 1 := by rw [hst]; exact s1
          have hj' : (j : Int) < 3 := by omega
          rw [← st]
          unfold backP
          rw [ra, if_neg s1]
          rw [Wp_body]
          simp [hj', wi, hi1', ixA_nat hS1, hS1.at, s1', zeroW]
          exact ⟨k, c1, cs1, rfl, v, s⟩
      · have hj3 : j = 3 := by omega
        subst hj3
        simp only [Nat.sub_self, stepsP] at st
        have ra : runAt w1 ((i : Int) + 1) = w1.runs[i] := runAt_nat hi1
        rw [← st]
        unfold backP
        rw [ra]
        by_cases s1 : w1.runs[i].state = 1
        · have s1' : cs1[i].state = 1 := by rw [hst, s1]
          rw [if_pos s1]
          have hq6 := G1.inv.qlen
          obtain ⟨_, e3, k3, s3, rfl, f3⟩ := c_l13Less v.queue ((i : Int) + 1) (by omega)
          obtain ⟨v3, g3⟩ := v.freshQueue f3
          have hll := less_len w1.queue ((i : Int) + 1)
          obtain ⟨s4, k4, e4, v4, g4⟩ := v3.queueApp (ys := [(i : Int) + 1]) (by simp only [List.length_singleton]; unfold lenMost; omega)
          simp only [List.map_cons, List.map_nil, encI, List.length_cons, List.length_nil] at e4
          rw [Wp_body]
          simp [wi, hi1', ixA_nat hS1, hS1.at, s1', e3, e4, zeroW]
          exact ⟨k4, { c1 with queue := s4 }, cs1, rfl, v4, s.trans (g3.trans g4)⟩
        · have s1' : ¬ cs1[i].state = 1 := by rw [hst]; exact s1
          rw [if_neg s1]
          rw [Wp_body]
          simp [wi, hi1', ixA_nat hS1, hS1.at, s1', zeroW]
          exact ⟨k, c1, cs1, rfl, v, s⟩
end Go.Proofs.YtkcfminmojolhaaGreat
