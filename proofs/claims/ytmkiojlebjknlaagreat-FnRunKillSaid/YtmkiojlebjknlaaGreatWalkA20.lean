/-
  What functions of the seat answer, each proved once; each under the condition that cells bear what it is given, as its statement says.
-/
import Derived.Test.YtmkiojlebjknlaaGreatWalkA10
import Derived.Test.YtmkiojlebjknlaaGreatWalkA19
import Derived.Test.YtmkiojlebjknlaaGreatWalkA16
set_option linter.all false
/-
 WORLDS IN PLAIN DATA: the order of going to the next step, and what else a step does.
-/
set_option maxRecDepth 8000
namespace Go.Proofs.YtmkiojlebjknlaaGreat
open Go.AM
variable {w : PWorld}
def setAt (w : PWorld) (id : Int) (a : Int) : PWorld := setRun w id { runAt w id with at_ := a }
theorem setRun_set {id : Int} {x y : PRun} : setRun (setRun w id x) id y = setRun w id y := by
 unfold setRun; simp
theorem setAt_setRun {id : Int} {x : PRun} {a : Int} (h : 1 ≤ id ∧ id ≤ w.runs.length) : setAt (setRun w id x) id a = setRun w id { x with at_ := a } := by
 unfold setAt
 rw [runAt_set h h.1, if_pos rfl, setRun_set]
theorem setRun_comm {a b : Int} {x y : PRun} (h : (a - 1).toNat ≠ (b - 1).toNat) : setRun (setRun w a x) b y = setRun (setRun w b y) a x := by
 unfold setRun
 simp only
 rw [List.set_comm _ _ h]
theorem setAt_give {id : Int} (h : 1 ≤ id ∧ id ≤ w.runs.length) (h1 : (runAt w id).state = 1) (k : Int) (v : PVal) :
  setAt (giveP w k v) id ((runAt w id).at_ + 1) = giveP (setRun w id (nextRun (runAt w id))) k v := by
 have e1 : ∀ {q : Int}, 1 ≤ q → runAt (setRun w id (nextRun (runAt w id))) q = if q = id then nextRun (runAt w id) else runAt w q := fun hq => runAt_set h hq
 have el : (setRun w id (nextRun (runAt w id))).runs.length = w.runs.length := setRun_len
 have eT : Takes (setRun w id (nextRun (runAt w id))) k ↔ Takes w k := by
  unfold Takes
  rw [el]
  constructor
  ·rintro ⟨a, b, d⟩
   rw [e1 a.1] at b d
   refine ⟨a, ?_⟩
   split at b
   ·rename_i e; subst e; rw [if_pos rfl] at d; exact ⟨b, d⟩
   ·rename_i e; rw [if_neg e] at d; exact ⟨b, d⟩
  ·rintro ⟨a, b, d⟩
   refine ⟨a, ?_⟩
   rw [e1 a.1]
   split
   ·rename_i e; subst e; exact ⟨b, d⟩
   ·exact ⟨b, d⟩
 by_cases T : Takes w k
 ·have T' := eT.2 T
  unfold giveP
  rw [if_pos T, if_pos T']
  by_cases ek : k = id
  ·subst ek
   have nw : ¬ Wakes w (runAt w k) v := fun hh => by have := hh.1; omega
   have nw' : ¬ Wakes (setRun w k (nextRun (runAt w k))) (runAt (setRun w k (nextRun (runAt w k))) k) v := fun hh => by
    have := hh.1; rw [e1 h.1, if_pos rfl] at this; simp only [nextRun] at this; omega
   rw [if_neg nw, if_neg nw', e1 h.1, if_pos rfl]
   unfold setAt
   have e2 : runAt { w with sent := w.sent + 1, runs := w.runs.set (k - 1).toNat { runAt w k with mail := (runAt w k).mail ++ [v] } } k = { runAt w k with mail := (runAt w k).mail ++ [v] } := by
    have := runAt_set (w := w) (x := { runAt w k with mail := (runAt w k).mail ++ [v] }) h h.1
    rw [if_pos rfl] at this
    exact this
   rw [e2]
   unfold setRun
   simp [nextRun]
  ·have e3 : runAt (setRun w id (nextRun (runAt w id))) k = runAt w k := by rw [e1 T.1.1, if_neg ek]
   rw [e3]
   have hne : (id - 1).toNat ≠ (k - 1).toNat := by have := T.1.1; omega
   have eW : Wakes (setRun w id (nextRun (runAt w id))) (runAt w k) v ↔ Wakes w (runAt w k) v := Iff.rfl
   have hrd : ∀ (x : PRun) (q : List Int) (s : Int), runAt { w with sent := s, runs := w.runs.set (k - 1).toNat x, queue := q } id = runAt w id := fun x q s => by
    have := runAt_set (w := w) (x := x) T.1 h.1
    rw [if_neg (Ne.symm ek)] at this
    exact this
   by_cases W : Wakes w (runAt w k) v
   ·rw [if_pos W, if_pos (eW.2 W)]
    unfold setAt
    rw [hrd]
    unfold setRun
    simp only [nextRun]
    rw [List.set_comm _ _ hne]
   ·rw [if_neg W, if_neg (fun hh => W (eW.1 hh))]
    unfold setAt
    have := hrd { runAt w k with mail := (runAt w k).mail ++ [v] } w.queue (w.sent + 1)
    rw [this]
    unfold setRun
    simp only [nextRun]
    rw [List.set_comm _ _ hne]
 ·have T' : ¬ Takes (setRun w id (nextRun (runAt w id))) k := fun hh => T (eT.1 hh)
  unfold giveP
  rw [if_neg T, if_neg T']
  rfl
theorem setAt_link {id k : Int} (h : 1 ≤ id ∧ id ≤ w.runs.length) (hk : 1 ≤ k ∧ k ≤ w.runs.length) (hne : k ≠ id) :
  setAt (linkP w id k) id ((runAt w id).at_ + 1) = linkP (setRun w id (nextRun (runAt w id))) id k := by
 have hk' : ∀ {x : PRun}, 1 ≤ k ∧ k ≤ (setRun w id x).runs.length := fun {x} => by rw [setRun_len]; exact hk
 have hi' : ∀ {x : PRun}, 1 ≤ id ∧ id ≤ (setRun w id x).runs.length := fun {x} => by rw [setRun_len]; exact h
 have hn : (id - 1).toNat ≠ (k - 1).toNat := by omega
 unfold linkP setAt
 simp only [runAt_set h hk.1, runAt_set h h.1, if_neg hne, if_pos rfl, runAt_set hk' h.1, if_neg (Ne.symm hne), runAt_set hi' hk.1, setRun_set]
 rw [setRun_comm hn.symm, setRun_set]
 rfl
theorem setAt_watch {id k : Int} (h : 1 ≤ id ∧ id ≤ w.runs.length) (hk : 1 ≤ k ∧ k ≤ w.runs.length) (hne : k ≠ id) :
  setAt (watchP w id k) id ((runAt w id).at_ + 1) = watchP (setRun w id (nextRun (runAt w id))) id k := by
 have hn : (id - 1).toNat ≠ (k - 1).toNat := by omega
 unfold watchP setAt
 simp only [runAt_set h hk.1, runAt_set hk h.1, if_neg hne, if_neg (Ne.symm hne)]
 rw [setRun_comm hn.symm]
 rfl
end Go.Proofs.YtmkiojlebjknlaaGreat

/-
 THE PROGRAM's step: what it answers.
-/
set_option maxRecDepth 8000
namespace Go.Proofs.YtmkiojlebjknlaaGreat
open Go.AM
variable {h h' : H} {lo p : Nat} {w : PWorld} {c : WorldC} {st cs : List RunC}
theorem setAt_begin {id : Int} {i : Nat} {r : PRun} {o : POp} (T : Turn w id i r o) (I : Inv w) : setAt (beginI w id o) id (r.at_ + 1) = beginP w id o := by
 obtain ⟨i1, i2, i3⟩ := T.idr I
 have hl : (addRunP w id o).runs.length = w.runs.length + 1 := by simp [addRunP]
 unfold beginI beginP
 split
 ·rw [setAt_setRun ⟨i1, i3⟩]
  unfold setP
  rw [T.at_]; rfl
 ·rw [setAt_setRun (by rw [hl]; omega)]
  unfold setP
  have : runAt (addRunP w id o) id = r := by rw [runAt_add ⟨i1, i3⟩, T.at_]
  rw [this]; rfl
theorem setAt_address {id : Int} {i : Nat} {r : PRun} {o : POp} (T : Turn w id i r o) (I : Inv w) (hk : o.kind = 6 ∨ o.kind = 11 ∨ o.kind = 12) (k3 : (slotAt r o.r).k = 3) :
  setAt (addressI w id o (slotAt r o.r) (slotAt r o.s)) id (r.at_ + 1) = otherP w id o := by
 obtain ⟨i1, i2, i3⟩ := T.idr I
 have hin : 1 ≤ id ∧ id ≤ w.runs.length := ⟨i1, i3⟩
 have hg : (runAt w id).state = 1 := by rw [T.at_]; exact T.going
 have e0 : r.at_ = (runAt w id).at_ := by rw [T.at_]
 have same : setAt w id ((runAt w id).at_ + 1) = setRun w id (nextRun (runAt w id)) := rfl
 rw [T.at_] at same
 have sg := fun k v => setAt_give hin hg k v
 have sl := fun k hk ne => setAt_link (k := k) hin hk ne
 have sw := fun k hk ne => setAt_watch (k := k) hin hk ne
 simp only [T.at_] at sg sl sw
 by_cases k6 : o.kind = 6
 ·simp [addressI, otherP, T.at_, k3, k6]
  exact sg _ _
 by_cases k11 : o.kind = 11
 ·by_cases al : Alive w (slotAt r o.r).n
  ·by_cases ne : (slotAt r o.r).n = id
   ·simp only [addressI, otherP, T.at_, k3, k11, al, ne]
    simp
    exact same
   ·by_cases ham : (slotAt r o.r).n ∈ r.links
    ·simp [addressI, otherP, T.at_, k3, k11, al, ne, ham]
     exact same
    ·simp [addressI, otherP, T.at_, k3, k11, al, ne, ham]
     exact sl _ al.1 ne
  ·simp [addressI, otherP, T.at_, k3, k11, al]
   exact same
 have k12 : o.kind = 12 := by omega
 by_cases al : Alive w (slotAt r o.r).n
 ·by_cases ne : (slotAt r o.r).n = id
  ·simp only [addressI, otherP, T.at_, k3, k12, al, ne]
   have al' : Alive w id := ne ▸ al
   simp [al']
   exact same
  ·by_cases ham : id ∈ (runAt w (slotAt r o.r).n).watched
   ·simp [addressI, otherP, T.at_, k3, k12, al, ne, ham]
    exact same
   ·simp [addressI, otherP, T.at_, k3, k12, al, ne, ham]
    exact sw _ al.1 ne
 ·simp [addressI, otherP, T.at_, k3, k12, al]
  exact sg _ _
end Go.Proofs.YtmkiojlebjknlaaGreat

/-
 THE PROGRAM's step: what it answers.
-/
set_option maxRecDepth 8000
namespace Go.Proofs.YtmkiojlebjknlaaGreat
open Go.AM
variable {h h' : H} {lo p : Nat} {w : PWorld} {c : WorldC} {st cs : List RunC}
theorem WorldP.putAt (hP : WorldP lo h p w c cs) {i : Nat} (hi : i < w.runs.length) (a : Int) :
  Dz.den 48 [.c (.ptr p 0 0), .c (.int .i64 ((i : Int) + 1))] h = some (.c (.ptr (sid c.runs) (soff c.runs + i) 0), h) ∧
  ∃ h' cs', h.write (sid c.runs) (soff c.runs + i) 1 [.int .i64 a] = some h' ∧ WorldP lo h' p (setAt w ((i : Int) + 1) a) c cs' ∧ StepP h p (part c cs) h' (part c cs') := by
 have er := c_run hP.at_ hP.v.runs ((i : Int) + 1)
 have hlen := hP.v.len
 rw [if_pos (by omega), show ((i : Int) + 1 - 1).toNat = i by omega] at er
 obtain ⟨h1, e1, v1, g1⟩ := hP.v.put (i := i) hi (j := 1) (xs := [.int .i64 a]) (r := { w.runs[i] with at_ := a }) (r' := { (cs[i]'(by omega)) with at_ := a }) (by simp [splice]) (by simp) (fun _ q => ⟨q.id, rfl, q.slots, q.full, q.mail, q.state, q.due, q.links, q.watched, q.trap, q.why, q.turns⟩) rfl rfl rfl rfl
 refine ⟨er, h1, _, e1, ?_, g1.toP⟩
 unfold setAt
 rw [setRun_at, runAt_nat hi]
 exact hP.move v1 g1
theorem setAt_at {i : Nat} (hi : i < w.runs.length) {x : PRun} {a : Int} {n s t l : Int} {q : List Int} : setAt { w with runs := w.runs.set i x, queue := q, now := n, sent := s, taken := t, lost := l } ((i : Int) + 1) a = { w with runs := w.runs.set i { x with at_ := a }, queue := q, now := n, sent := s, taken := t, lost := l } := by
 unfold setAt
 rw [setRun_at, runAt_nat (by simpa using hi)]
 simp
theorem beginI_len {id : Int} {o : POp} : w.runs.length ≤ (beginI w id o).runs.length := by
 unfold beginI; split
 ·rw [setRun_len]; exact Nat.le_refl _
 ·rw [setRun_len]; simp [addRunP]
theorem addressI_len {id : Int} {o : POp} {to sv : PVal} : (addressI w id o to sv).runs.length = w.runs.length := by
 have hl : ∀ a b, (linkP w a b).runs.length = w.runs.length := fun a b => by unfold linkP; simp only; rw [setRun_len, setRun_len]
 have hw : ∀ a b, (watchP w a b).runs.length = w.runs.length := fun a b => by unfold watchP; rw [setRun_len]
 unfold addressI
 split
 ·exact (giveP_len _ _ _).1
 ·split
  ·split
   ·exact hl _ _
   ·rfl
  ·split
   ·exact (giveP_len _ _ _).1
   ·split
    ·exact hw _ _
    ·rfl
set_option maxRecDepth 16000 in
set_option maxHeartbeats 4000000 in
theorem c_step (hP : WorldP lo h p w c cs) (I : Inv w) (hs : w.sent ≤ 1000000000) (hq : w.queue ≠ []) {i : Nat} {r : PRun} {o : POp} (T : Turn w (headQ w) i r o) :
  @Wp _ (Dz.den 66 [.c (.ptr p 0 0)] h) ⟨DoQ lo h p (part c cs) (stepP w (headQ w))⟩ := by
 refine den_wp rfl Tryz.func66 rfl ?_
 obtain ⟨hi, hri⟩ := T.runs
 have e0 := T.e0
 have hV := hP.v
 have hQ := hV.queue
 obtain ⟨hx1, hx2, hln⟩ := queue_hd hq hQ
 rw [e0] at T hx2 ⊢
 subst hri
 have hlen := hV.len
 have hi' : i < cs.length := by omega
 have hr := hV.each i hi
 have hS := hV.runs
 have hSl := hr.slots
 have hC := hV.code
 have R := T.run.ok
 obtain ⟨i1, i2, i3⟩ := T.idr I
 have h6 : i < 6 := by omega
 have hop := op_r T.ok
 have hos := op_s T.ok
 have hkd := op_kind T.ok
 have hgp := hP.at_
 have hidr : w.runs[i].id = (i : Int) + 1 := T.run.id
 have hid : cs[i].id = (i : Int) + 1 := by rw [hr.id, hidr]
 obtain ⟨ra, hra⟩ : ∃ n : Nat, o.r = n := ⟨o.r.toNat, by omega⟩
 obtain ⟨sa, hsa⟩ : ∃ n : Nat, o.s = n := ⟨o.s.toNat, by omega⟩
 have hra4 : ra < w.runs[i].slots.length := by rw [R.len]; omega
 have hsa4 : sa < w.runs[i].slots.length := by rw [R.len]; omega
 have hto : slotAt w.runs[i] o.r = w.runs[i].slots[ra] := by unfold slotAt; rw [hra, Int.toNat_natCast, List.getElem?_eq_getElem hra4]; rfl
 have hsv : slotAt w.runs[i] o.s = w.runs[i].slots[sa] := by unfold slotAt; rw [hsa, Int.toNat_natCast, List.getElem?_eq_getElem hsa4]; rfl
 have okto := slotAt_ok R hop.1 hop.2
 have oksv := slotAt_ok R hos.1 hos.2
 rw [hto] at okto
 rw [hsv] at oksv
 obtain ⟨n, hn⟩ : ∃ n : Nat, w.runs[i].at_ = n := ⟨w.runs[i].at_.toNat, by have := R.at_; omega⟩
 have hnc : n < w.code.length := by have := T.run.at_; omega
 have hco : w.code[n] = o := by have := T.opg.2; rw [hn, Int.toNat_natCast, List.getElem?_eq_getElem hnc] at this; simpa using this
 have hat : cs[i].at_ = n := by rw [hr.at_, hn]
 have wn : IntKind.i64.wrap ((n : Int) + 1) = (n : Int) + 1 := wrapS (by omega) (by have := R.at_; omega)
 have hop2 : codeAt w (n : Int) = o := by rw [← hn]; exact T.op
 obtain ⟨er, _⟩ := hP.putAt hi 0
 have eS : stepP w ((i : Int) + 1) = (if o.kind = 1 then setP w ((i : Int) + 1) o.r o.v
  else if o.kind = 2 then setP w ((i : Int) + 1) o.r w.runs[i].slots[sa]
  else if o.kind = 3 then (match addP w.runs[i].slots[ra] w.runs[i].slots[sa] with | none => fallP w ((i : Int) + 1) ⟨2, 1⟩ | some v => setP w ((i : Int) + 1) o.r v)
  else if o.kind = 4 then setP w ((i : Int) + 1) o.r ⟨3, (i : Int) + 1⟩
  else if o.kind = 5 then beginP w ((i : Int) + 1) o
  else if o.kind = 7 ∨ o.kind = 8 then takeP w ((i : Int) + 1) o
  else if o.kind = 9 then { w with runs := w.runs.set i { w.runs[i] with at_ := o.to } }
  else if o.kind = 10 then { w with runs := w.runs.set i { w.runs[i] with at_ := if w.runs[i].slots[ra] = o.v then o.to else (n : Int) + 1 } }
  else if o.kind = 13 then { w with runs := w.runs.set i { w.runs[i] with trap := decide (o.v.n = 1), at_ := (n : Int) + 1 } }
  else if o.kind = 14 then fallP w ((i : Int) + 1) w.runs[i].slots[ra]
  else otherP w ((i : Int) + 1) o) := by
  unfold stepP
  simp only [runAt_nat hi, hop2, hto, hsv, setRun_at, hn]
  rfl
 rw [eS]
 have hSet : ∀ {v : PVal}, setAt { w with runs := w.runs.set i (putRun w.runs[i] o.r v) } ((i : Int) + 1) ((n : Int) + 1) = setP w ((i : Int) + 1) o.r v := fun {v} => by
  rw [setP_at hi]
  have := setAt_at (w := w) hi (x := putRun w.runs[i] o.r v) (a := (n : Int) + 1) (n := w.now) (s := w.sent) (t := w.taken) (l := w.lost) (q := w.queue)
  refine this.trans ?_
  simp only [nextRun, putRun, hn]
 by_cases k1 : o.kind = 1
 ·obtain ⟨h2, e2, v2, g2⟩ := c_fill hV hi R.len R.full hop o.v
  have P2 := hP.move v2 g2
  obtain ⟨er2, h3, cs3, e3, P3, g3⟩ := P2.putAt (i := i) (by simpa using hi) ((n : Int) + 1)
  rw [hSet] at P3
  simp only [encV] at e2
  rw [if_pos k1]
  simp [Tryz.f66, at_blk hgp, hx1, hx2, er, hS.at, hi', hat, hnc, ixA_nat hC, hC.at, hco, hid, wn, k1, e2, er2, e3]
  exact ⟨by kernel_rfl, rfl, h3, c, cs3, rfl, P3, g2.toP.trans g3⟩
 rw [if_neg k1]
 by_cases k2 : o.kind = 2
 ·obtain ⟨h2, e2, v2, g2⟩ := c_fill hV hi R.len R.full hop w.runs[i].slots[sa]
  have P2 := hP.move v2 g2
  obtain ⟨er2, h3, cs3, e3, P3, g3⟩ := P2.putAt (i := i) (by simpa using hi) ((n : Int) + 1)
  rw [hSet] at P3
  simp only [encV] at e2
  rw [if_pos k2]
  simp [Tryz.f66, at_blk hgp, hx1, hx2, er, hS.at, hi', hat, hnc, ixA_nat hC, hC.at, hco, hid, wn, k2, hsa, ixA_nat hSl, hSl.at, hsa4, e2, er2, e3]
  exact ⟨by kernel_rfl, by kernel_rfl, rfl, h3, c, cs3, rfl, P3, g2.toP.trans g3⟩
 rw [if_neg k2]
 by_cases k3 : o.kind = 3
 ·rw [if_pos k3]
  have ea := c_ValAdd (h := h) okto oksv
  simp only [encV] at ea
  cases hadd : addP w.runs[i].slots[ra] w.runs[i].slots[sa] with
  | none =>
   obtain ⟨_, e2, h2, c2, cs2, rfl, P2, g2, r2⟩ := c_fall hP I (by omega) ((i : Int) + 1) (why := ⟨2, 1⟩) rfl
   simp only [encV] at e2
   rw [hadd] at ea
   simp only [Option.getD_none, Option.isSome_none] at ea
   simp [Tryz.f66, at_blk hgp, hx1, hx2, er, hS.at, hi', hat, hnc, ixA_nat hC, hC.at, hco, hid, wn, k3, hra, hsa, ixA_nat hSl, hSl.at, hra4, hsa4, ea, e2]
   exact ⟨by kernel_rfl, by kernel_rfl, rfl, h2, c2, cs2, rfl, P2, g2⟩
  | some v =>
   obtain ⟨h2, e2, v2, g2⟩ := c_fill hV hi R.len R.full hop v
   have P2 := hP.move v2 g2
   obtain ⟨er2, h3, cs3, e3, P3, g3⟩ := P2.putAt (i := i) (by simpa using hi) ((n : Int) + 1)
   rw [hSet] at P3
   simp only [encV, hra] at e2
   rw [hadd] at ea
   simp only [Option.getD_some, Option.isSome_some] at ea
   simp [Tryz.f66, at_blk hgp, hx1, hx2, er, hS.at, hi', hat, hnc, ixA_nat hC, hC.at, hco, hid, wn, k3, hra, hsa, ixA_nat hSl, hSl.at, hra4, hsa4, ea, e2, er2, e3]
   exact ⟨by kernel_rfl, by kernel_rfl, rfl, h3, c, cs3, rfl, by rw [← hra]; exact P3, g2.toP.trans g3⟩
 rw [if_neg k3]
 by_cases k4 : o.kind = 4
 ·obtain ⟨h2, e2, v2, g2⟩ := c_fill hV hi R.len R.full hop ⟨3, (i : Int) + 1⟩
  have P2 := hP.move v2 g2
  obtain ⟨er2, h3, cs3, e3, P3, g3⟩ := P2.putAt (i := i) (by simpa using hi) ((n : Int) + 1)
  rw [hSet] at P3
  simp only [encV] at e2
  rw [if_pos k4]
  simp [Tryz.f66, at_blk hgp, hx1, hx2, er, hS.at, hi', hat, hnc, ixA_nat hC, hC.at, hco, hid, wn, k4, e2, er2, e3]
  exact ⟨by kernel_rfl, rfl, h3, c, cs3, rfl, P3, g2.toP.trans g3⟩
 rw [if_neg k4]
 by_cases k5 : o.kind = 5
 ·obtain ⟨_, e2, h2, c2, cs2, rfl, P2, g2⟩ := c_begin hP T I k5
  obtain ⟨er2, h3, cs3, e3, P3, g3⟩ := P2.putAt (i := i) (by have := beginI_len (w := w) (id := (i : Int) + 1) (o := o); omega) ((n : Int) + 1)
  have ec := setAt_begin T I
  rw [hn] at ec
  rw [ec] at P3
  simp only [encO, k5] at e2
  rw [if_pos k5]
  simp [Tryz.f66, at_blk hgp, hx1, hx2, er, hS.at, hi', hat, hnc, ixA_nat hC, hC.at, hco, hid, wn, k5, e2, er2, e3]
  exact ⟨by kernel_rfl, rfl, h3, c2, cs3, rfl, P3, g2.trans g3⟩
 rw [if_neg k5]
 by_cases k7 : o.kind = 7 ∨ o.kind = 8
 ·rw [if_pos k7]
  have hm := hr.mail
  have ef := c_first (h := h) (c := cs[i]) (r := w.runs[i]) hm (fun v hv => R.mail v hv) o.s
  simp only [encR, hid, hat] at ef
  by_cases f0 : 0 ≤ mailAt w.runs[i] o.s
  ·obtain ⟨q, hqn⟩ : ∃ q : Nat, mailAt w.runs[i] o.s = q := ⟨(mailAt w.runs[i] o.s).toNat, by omega⟩
   have hql : q < w.runs[i].mail.length := by have := firstAt_lt (show 0 ≤ firstAt (fits o.s) w.runs[i].mail from f0); unfold mailAt at hqn; omega
   have ef' : firstAt (fits o.s) w.runs[i].mail = q := hqn
   rw [ef'] at ef
   obtain ⟨h2, s2, e2, v2, g2⟩ := c_take hV hi hql R.room
   have P2 := hP.move v2 g2
   obtain ⟨h3, e3, v3, g3⟩ := c_fill v2 (i := i) (by simpa using hi) (by simpa using R.len) (by simpa using R.full) hop w.runs[i].mail[q]
   simp only [List.getElem_set_self, List.set_set] at e3 v3 g3
   have P3 := P2.move v3 g3
   obtain ⟨h4, e4, v4, g4⟩ := v3.put (i := i) (by simpa using hi) (j := 6) (xs := [.int .i64 0]) (r := { putRun w.runs[i] o.r w.runs[i].mail[q] with mail := w.runs[i].mail.eraseIdx q, due := 0 }) (r' := { cs[i] with mail := s2, full := withB w.runs[i].full o.r, due := 0 }) (by simp [splice]) (by simp)
    (fun _ x => by simp only [List.getElem_set_self] at x; exact ⟨x.id, x.at_, x.slots, x.full, x.mail, x.state, rfl, x.links, x.watched, x.trap, x.why, x.turns⟩) (by simp) (by simp) (by simp) (by simp)
   simp only [List.set_set] at v4 g4
   have P4 := P3.move v4 g4
   obtain ⟨n1, n2, n3⟩ := I.nn
   have htk : w.taken ≤ w.sent := by have := I.sum; have := mailSum_nn w.runs; omega
   have wt : IntKind.i64.wrap (c.taken + 1) = w.taken + 1 := by rw [hV.taken]; exact wrapS (by omega) (by omega)
   have v5 := v4.nums w.now w.sent (w.taken + 1) w.lost
   obtain ⟨h5, e5, P5, ch5⟩ := v5.home (c0 := c) P4.at_ (by rw [numsPart]; exact P4.out) hP.ge (j := 5) (xs := [.int .i64 (w.taken + 1)]) (by simp [splice, hV.now, hV.sent, hV.lost]) (by simp)
   obtain ⟨er2, h6, cs6, e6, P6, g6⟩ := P5.putAt (i := i) (by simpa using hi) ((n : Int) + 1)
   have g5 : StepP h4 p (part c (cs.set i { cs[i] with mail := s2, full := withB w.runs[i].full o.r, due := 0 })) h5 (part { c with now := w.now, sent := w.sent, taken := w.taken + 1, lost := w.lost } (cs.set i { cs[i] with mail := s2, full := withB w.runs[i].full o.r, due := 0 })) := by
    rw [numsPart]; exact StepP.of_chg ch5
   have eT : setAt { w with runs := w.runs.set i { putRun w.runs[i] o.r w.runs[i].mail[q] with mail := w.runs[i].mail.eraseIdx q, due := 0 }, now := w.now, sent := w.sent, taken := w.taken + 1, lost := w.lost } ((i : Int) + 1) ((n : Int) + 1) = takeP w ((i : Int) + 1) o := by
    rw [setAt_at hi, takeP_at hi hqn, setP_at (by simpa using hi)]
    have dn : w.runs[i].mail[q]?.getD default = w.runs[i].mail[q] := by rw [List.getElem?_eq_getElem hql]; rfl
    rw [dn]
    simp [nextRun, putRun, hn]
   rw [eT] at P6
   have hgp4 := P4.at_
   simp only [encV] at e2 e3
   have S : StepP h p (part c cs) h6 (part { c with now := w.now, sent := w.sent, taken := w.taken + 1, lost := w.lost } cs6) := g2.toP.trans (g3.toP.trans (g4.toP.trans (g5.trans g6)))
   rcases k7 with k7 | k7
   ·simp [Tryz.f66, at_blk hgp, hx1, hx2, er, hS.at, hi', hat, hnc, ixA_nat hC, hC.at, hco, hid, wn, k7, ef, e2, e3, e4, at_blk hgp4, wt, e5, er2, e6]
    exact ⟨by kernel_rfl, by unfold LexOk; kernel_rfl, by kernel_rfl, rfl, h6, _, cs6, rfl, P6, S⟩
   ·simp [Tryz.f66, at_blk hgp, hx1, hx2, er, hS.at, hi', hat, hnc, ixA_nat hC, hC.at, hco, hid, wn, k7, ef, e2, e3, e4, at_blk hgp4, wt, e5, er2, e6]
    exact ⟨by kernel_rfl, by unfold LexOk; kernel_rfl, by kernel_rfl, rfl, h6, _, cs6, rfl, P6, S⟩
  ·have f0' : ¬ 0 ≤ firstAt (fits o.s) w.runs[i].mail := f0
   obtain ⟨_, e2, h2, c2, cs2, rfl, P2, g2⟩ := c_rest hP T I k7 f0
   rcases k7 with k7 | k7
   ·simp only [encO, k7] at e2
    simp [Tryz.f66, at_blk hgp, hx1, hx2, er, hS.at, hi', hat, hnc, ixA_nat hC, hC.at, hco, hid, wn, k7, ef, f0', e2]
    exact ⟨by kernel_rfl, by unfold LexOk; kernel_rfl, rfl, h2, c2, cs2, rfl, P2, g2⟩
   ·simp only [encO, k7] at e2
    simp [Tryz.f66, at_blk hgp, hx1, hx2, er, hS.at, hi', hat, hnc, ixA_nat hC, hC.at, hco, hid, wn, k7, ef, f0', e2]
    exact ⟨by kernel_rfl, by unfold LexOk; kernel_rfl, rfl, h2, c2, cs2, rfl, P2, g2⟩
 rw [if_neg k7]
 by_cases k9 : o.kind = 9
 ·obtain ⟨er2, h3, cs3, e3, P3, g3⟩ := hP.putAt (i := i) hi o.to
  unfold setAt at P3
  rw [setRun_at, runAt_nat hi] at P3
  rw [if_pos k9]
  simp [Tryz.f66, at_blk hgp, hx1, hx2, er, hS.at, hi', hat, hnc, ixA_nat hC, hC.at, hco, hid, wn, k9, e3]
  exact ⟨by kernel_rfl, rfl, h3, c, cs3, rfl, P3, g3⟩
 rw [if_neg k9]
 by_cases k10 : o.kind = 10
 ·rw [if_pos k10]
  by_cases d : w.runs[i].slots[ra] = o.v
  ·obtain ⟨er2, h3, cs3, e3, P3, g3⟩ := hP.putAt (i := i) hi o.to
   unfold setAt at P3
   rw [setRun_at, runAt_nat hi] at P3
   have d1 : w.runs[i].slots[ra].k = o.v.k ∧ w.runs[i].slots[ra].n = o.v.n := by rw [d]; exact ⟨rfl, rfl⟩
   rw [if_pos d]
   simp [Tryz.f66, at_blk hgp, hx1, hx2, er, hS.at, hi', hat, hnc, ixA_nat hC, hC.at, hco, hid, wn, k10, hra, ixA_nat hSl, hSl.at, hra4, d1, e3]
   exact ⟨by kernel_rfl, by unfold LexOk; kernel_rfl, rfl, h3, c, cs3, rfl, P3, g3⟩
  ·obtain ⟨er2, h3, cs3, e3, P3, g3⟩ := hP.putAt (i := i) hi ((n : Int) + 1)
   unfold setAt at P3
   rw [setRun_at, runAt_nat hi] at P3
   have d1 : ¬ (w.runs[i].slots[ra].k = o.v.k ∧ w.runs[i].slots[ra].n = o.v.n) := fun hh => d (by have a := hh.1; have b := hh.2; cases hq : w.runs[i].slots[ra]; cases hq2 : o.v; rw [hq, hq2] at a b; simp at a b; simp [a, b])
   rw [if_neg d]
   simp [Tryz.f66, at_blk hgp, hx1, hx2, er, hS.at, hi', hat, hnc, ixA_nat hC, hC.at, hco, hid, wn, k10, hra, ixA_nat hSl, hSl.at, hra4, d1, e3]
   exact ⟨by kernel_rfl, by unfold LexOk; kernel_rfl, rfl, h3, c, cs3, rfl, P3, g3⟩
 rw [if_neg k10]
 by_cases k13 : o.kind = 13
 ·rw [if_pos k13]
  obtain ⟨h2, e2, v2, g2⟩ := hV.put (i := i) hi (j := 9) (xs := [.bool (decide (o.v.n = 1))]) (r := { w.runs[i] with trap := decide (o.v.n = 1) }) (r' := { cs[i] with trap := decide (o.v.n = 1) }) (by simp [splice]) (by simp) (fun _ q => ⟨q.id, q.at_, q.slots, q.full, q.mail, q.state, q.due, q.links, q.watched, rfl, q.why, q.turns⟩) rfl rfl rfl rfl
  have P2 := hP.move v2 g2
  obtain ⟨er2, h3, cs3, e3, P3, g3⟩ := P2.putAt (i := i) (by simpa using hi) ((n : Int) + 1)
  have eT := setAt_at (w := w) hi (x := { w.runs[i] with trap := decide (o.v.n = 1) }) (a := (n : Int) + 1) (n := w.now) (s := w.sent) (t := w.taken) (l := w.lost) (q := w.queue)
  rw [eT] at P3
  simp [Tryz.f66, at_blk hgp, hx1, hx2, er, hS.at, hi', hat, hnc, ixA_nat hC, hC.at, hco, hid, wn, k13, e2, er2, e3]
  exact ⟨by kernel_rfl, rfl, h3, c, cs3, rfl, P3, g2.toP.trans g3⟩
 rw [if_neg k13]
 by_cases k14 : o.kind = 14
 ·rw [if_pos k14]
  obtain ⟨_, e2, h2, c2, cs2, rfl, P2, g2, r2⟩ := c_fall hP I (by omega) ((i : Int) + 1) (why := w.runs[i].slots[ra]) okto
  simp only [encV] at e2
  simp [Tryz.f66, at_blk hgp, hx1, hx2, er, hS.at, hi', hat, hnc, ixA_nat hC, hC.at, hco, hid, wn, k14, hra, ixA_nat hSl, hSl.at, hra4, e2]
  exact ⟨by kernel_rfl, by kernel_rfl, rfl, h2, c2, cs2, rfl, P2, g2⟩
 rw [if_neg k14]
 have kO : o.kind = 6 ∨ o.kind = 11 ∨ o.kind = 12 := by omega
 have k7a : ¬ o.kind = 7 := fun hh => k7 (.inl hh)
 have k7b : ¬ o.kind = 8 := fun hh => k7 (.inr hh)
 by_cases d3 : w.runs[i].slots[ra].k = 3
 ·obtain ⟨_, e2, h2, c2, cs2, rfl, P2, g2⟩ := c_address hP T I hs kO okto d3
  obtain ⟨er2, h3, cs3, e3, P3, g3⟩ := P2.putAt (i := i) (by rw [addressI_len]; exact hi) ((n : Int) + 1)
  have ec := setAt_address T I kO (by rw [hto]; exact d3)
  rw [hn, hto] at ec
  rw [ec] at P3
  simp only [encV, encO, d3] at e2
  rcases kO with kO | kO | kO
  all_goals
   simp only [kO, hra, hsa] at e2
   simp [Tryz.f66, at_blk hgp, hx1, hx2, er, hS.at, hi', hat, hnc, ixA_nat hC, hC.at, hco, hid, wn, kO, hra, hsa, ixA_nat hSl, hSl.at, hra4, d3, e2, er2, e3]
   exact ⟨by kernel_rfl, by unfold LexOk; kernel_rfl, by kernel_rfl, rfl, h3, c2, cs3, rfl, P3, g2.trans g3⟩
 ·obtain ⟨_, e2, h2, c2, cs2, rfl, P2, g2, r2⟩ := c_fall hP I (by omega) ((i : Int) + 1) (why := ⟨2, 2⟩) rfl
  have eO : otherP w ((i : Int) + 1) o = fallP w ((i : Int) + 1) ⟨2, 2⟩ := by
   unfold otherP
   rw [runAt_nat hi]
   simp only [hto]
   rw [if_pos d3]
  rw [eO]
  simp only [encV] at e2
  rcases kO with kO | kO | kO
  all_goals
   simp [Tryz.f66, at_blk hgp, hx1, hx2, er, hS.at, hi', hat, hnc, ixA_nat hC, hC.at, hco, hid, wn, kO, hra, ixA_nat hSl, hSl.at, hra4, d3, e2]
   exact ⟨by kernel_rfl, by unfold LexOk; kernel_rfl, rfl, h2, c2, cs2, rfl, P2, g2⟩
end Go.Proofs.YtmkiojlebjknlaaGreat

/-
 WORLDS IN PLAIN DATA: whose turn it is stays the first; who fell ended.
-/
set_option maxRecDepth 8000
namespace Go.Proofs.YtmkiojlebjknlaaGreat
open Go.AM
variable {w : PWorld}
theorem fallN_dead {why : PVal} (hw : valOk why = true) : ∀ (n : Nat) {w : PWorld} (ks : List Int), Good w → ∀ q, Alive (fallN n w ks why) q → Alive w q
 | 0, w, ks, _, q, h => h
 | n + 1, w, [], _, q, h => h
 | n + 1, w, k :: ks, G, q, h => by
  unfold fallN at h
  split at h
  ·rename_i ha
   obtain ⟨G2, al⟩ := G.end ha hw
   exact ((al q).1 (fallN_dead hw n _ G2 q h)).1
  ·exact fallN_dead hw n ks G q h
theorem fall_self {why : PVal} (hw : valOk why = true) (G : Good w) (id : Int) : ¬ Alive (fallP w id why) id := by
 intro h
 have h0 := fallN_dead hw 64 [id] G id h
 unfold fallP fallN at h
 rw [if_pos h0] at h
 obtain ⟨G2, al⟩ := G.end h0 hw
 exact ((al id).1 (fallN_dead hw 63 _ G2 id h)).2 rfl
theorem fall_state {why : PVal} (hw : valOk why = true) (G : Good w) {id : Int} (hid : 1 ≤ id ∧ id ≤ w.runs.length) : (runAt (fallP w id why) id).state = 3 := by
 have h := fall_self hw G id
 have hl : (fallP w id why).runs.length = w.runs.length := fallN_len hw 64 [id] G.inv
 exact Classical.byContradiction fun hne => h ⟨by rw [hl]; exact hid, hne⟩
def HeadIs (w : PWorld) (id : Int) : Prop := ∃ t, w.queue = id :: t
theorem HeadIs.head {id : Int} (h : HeadIs w id) : headQ w = id ∧ w.queue ≠ [] := by
 obtain ⟨t, e⟩ := h
 unfold headQ; rw [e]; exact ⟨rfl, by simp⟩
theorem HeadIs.give {id : Int} (h : HeadIs w id) (k : Int) (v : PVal) : HeadIs (giveP w k v) id := by
 obtain ⟨t, e⟩ := h
 unfold giveP
 split
 ·split
  ·exact ⟨t ++ [k], by simp [e]⟩
  ·exact ⟨t, e⟩
 ·exact ⟨t, e⟩
theorem Turn.head {id : Int} {i : Nat} {r : PRun} {o : POp} (T : Turn w id i r o) (G : Good w) (h : HeadIs w id) (h1 : (runAt (stepP w id) id).state = 1) : HeadIs (stepP w id) id := by
 obtain ⟨i1, i2, i3⟩ := T.idr G.inv
 have hin : 1 ≤ id ∧ id ≤ w.runs.length := ⟨i1, i3⟩
 obtain ⟨t, e⟩ := h
 have hf : ∀ why, valOk why = true → (runAt (fallP w id why) id).state = 1 → False := fun why hw hh => by rw [fall_state hw G hin] at hh; cases hh
 have hw2 : ∀ due, (runAt (waitP w id due) id).state = 1 → False := fun due hh => by
  have := runAt_set (w := w) (x := { runAt w id with state := 2, due := due }) hin hin.1
  rw [if_pos rfl] at this
  have e2 : runAt (waitP w id due) id = runAt (setRun w id { runAt w id with state := 2, due := due }) id := rfl
  rw [e2, this] at hh
  cases hh
 have hr := op_r T.ok
 unfold stepP at h1 ⊢
 simp only [T.at_, T.op] at h1 ⊢
 split
 ·exact ⟨t, e⟩
 ·rename_i k1; rw [if_neg k1] at h1; split
  ·exact ⟨t, e⟩
  ·rename_i k2; rw [if_neg k2] at h1; split
   ·rename_i k3
    rw [if_pos k3] at h1
    cases ha : addP (slotAt r o.r) (slotAt r o.s) with
    | none => rw [ha] at h1; exact (hf _ rfl h1).elim
    | some v => exact ⟨t, e⟩
   ·rename_i k3; rw [if_neg k3] at h1; split
    ·exact ⟨t, e⟩
    ·rename_i k4; rw [if_neg k4] at h1; split
     ·unfold beginP
      split
      ·exact ⟨t, e⟩
      ·exact ⟨t ++ [(w.runs.length : Int) + 1], by show w.queue ++ _ = _; rw [e]; rfl⟩
     ·rename_i k5; rw [if_neg k5] at h1; split
      ·rename_i k7
       rw [if_pos k7] at h1
       unfold takeP at h1 ⊢
       split
       ·exact ⟨t, e⟩
       ·rename_i f0; rw [if_neg f0] at h1; split
        ·rename_i q7; rw [if_pos q7] at h1; exact (hw2 _ h1).elim
        ·rename_i q7; rw [if_neg q7] at h1; split
         ·exact ⟨t, e⟩
         ·rename_i d; rw [if_neg d] at h1; exact (hw2 _ h1).elim
      ·rename_i k7; rw [if_neg k7] at h1; split
       ·exact ⟨t, e⟩
       ·rename_i k9; rw [if_neg k9] at h1; split
        ·exact ⟨t, e⟩
        ·rename_i k10; rw [if_neg k10] at h1; split
         ·exact ⟨t, e⟩
         ·rename_i k13; rw [if_neg k13] at h1; split
          ·rename_i k14; rw [if_pos k14] at h1
           exact (hf _ (slotAt_ok T.run.ok hr.1 hr.2) h1).elim
          ·rename_i k14; rw [if_neg k14] at h1
           unfold otherP at h1 ⊢
           simp only [T.at_] at h1 ⊢
           have hw1 : HeadIs (setRun w id (nextRun r)) id := ⟨t, e⟩
           split
           ·rename_i d; rw [if_pos d] at h1; exact (hf _ rfl h1).elim
           ·split
            ·exact hw1.give _ _
            ·split
             ·exact hw1.give _ _
             ·split
              ·exact hw1
              ·split
               ·exact hw1
               ·split
                ·exact hw1
                ·exact hw1
end Go.Proofs.YtmkiojlebjknlaaGreat

/-
 THE PROGRAM's turn: what it answers.
-/
set_option maxRecDepth 8000
namespace Go.Proofs.YtmkiojlebjknlaaGreat
open Go.AM
variable {h h' : H} {lo p : Nat} {w : PWorld} {c : WorldC} {st cs : List RunC}
set_option maxRecDepth 16000 in
set_option maxHeartbeats 2000000 in
theorem c_turn (hP : WorldP lo h p w c cs) (G : Good w) (hs : w.sent ≤ 100000000) : @Wp _ (Dz.den 104 [.c (.ptr p 0 0)] h) ⟨DoQ lo h p (part c cs) (turnP w)⟩ := by
 refine den_wp rfl Tryz.func104 rfl ?_
 have hV := hP.v
 have hQ := hV.queue
 have hgp := hP.at_
 by_cases hq : w.queue = []
 ·have el := fun e => hQ.lenA (e := e)
  rw [hq] at el
  simp only [List.length_nil] at el
  unfold turnP
  rw [if_pos hq]
  simp [Tryz.f104, at_blk hgp, el]
  exact ⟨rfl, h, c, cs, rfl, hP, StepP.refl _ _ _⟩
 ·obtain ⟨hx1, hx2, hln⟩ := queue_hd hq hQ
  obtain ⟨hid, h1⟩ := G.inv.head hq
  obtain ⟨i, ei⟩ : ∃ i : Nat, headQ w = (i : Int) + 1 := ⟨(headQ w - 1).toNat, by omega⟩
  have hi : i < w.runs.length := by omega
  have hlen := hV.len
  have hi' : i < cs.length := by omega
  have hr := hV.each i hi
  have hS := hV.runs
  have h6 : i < 6 := by have := G.inv.many; omega
  have R := (G.inv.each i _ (List.getElem?_eq_getElem hi)).ok
  have wt : IntKind.i64.wrap (w.runs[i].turns + 1) = w.runs[i].turns + 1 := wrapS (by have := R.turns; omega) (by have := R.turns; omega)
  have htn := hr.turns
  obtain ⟨C, ec⟩ := G.countG hid
  rw [ei] at C ec hx2
  obtain ⟨er, _⟩ := hP.putAt hi 0
  obtain ⟨h2, e2, v2, g2⟩ := hV.put (i := i) hi (j := 12) (xs := [.int .i64 (min (w.runs[i].turns + 1) 9999)]) (r := { w.runs[i] with turns := min (w.runs[i].turns + 1) 9999 }) (r' := { cs[i] with turns := min (w.runs[i].turns + 1) 9999 }) (by simp [splice]) (by simp) (fun _ q => ⟨q.id, q.at_, q.slots, q.full, q.mail, q.state, q.due, q.links, q.watched, q.trap, q.why, rfl⟩) rfl rfl rfl rfl
  have P2 := hP.move v2 g2
  have eT : turnP w = backP (stepsP 3 (countP' w ((i : Int) + 1)) ((i : Int) + 1)) ((i : Int) + 1) := by unfold turnP; rw [if_neg hq, ei]
  rw [eT]
  obtain ⟨W3, hW3⟩ : ∃ W3, W3 = stepsP 3 (countP' w ((i : Int) + 1)) ((i : Int) + 1) := ⟨_, rfl⟩
  rw [← hW3]
  rw [← countP_at hi] at P2
  have hph := phi_sent G.inv
  have hd0 : HeadIs (countP' w ((i : Int) + 1)) ((i : Int) + 1) := by
   show ∃ t, w.queue = _
   unfold headQ at ei
   cases hh : w.queue with
   | nil => exact absurd hh hq
   | cons a t => rw [hh] at ei; simp at ei; exact ⟨t, by rw [ei]⟩
  simp [Tryz.f104, at_blk hgp, hQ.lenA, hln, hx1, hx2, er, hS.at, hi', htn, wt, e2, minA]
  refine loop_wp (σ := (H × WorldC × List RunC) × PWorld × Nat) (fun s => ([.c (.ptr p 0 0), .c (ci ((i : Int) + 1)), .c (ci s.2.2)], [], [], s.1.1))
   (fun s => WorldP lo s.1.1 p s.2.1 s.1.2.1 s.1.2.2 ∧ StepP h p (part c cs) s.1.1 (part s.1.2.1 s.1.2.2) ∧ Good s.2.1 ∧ i < s.2.1.runs.length ∧ s.2.2 ≤ 3 ∧ phi s.2.1 ≤ phi w + 12 * s.2.2 ∧
    stepsP (3 - s.2.2) s.2.1 ((i : Int) + 1) = W3 ∧ ((runAt s.2.1 ((i : Int) + 1)).state = 1 → HeadIs s.2.1 ((i : Int) + 1)))
   (fun s => 3 - s.2.2) ((h2, c, cs.set i { cs[i] with turns := min (w.runs[i].turns + 1) 9999 }), countP' w ((i : Int) + 1), 0) rfl ⟨P2, g2.toP, C.g, by have := C.k.len; simp only; omega, by simp, by have := C.k.phi; simpa using this, hW3.symm, fun _ => hd0⟩ ?_
  rintro ⟨⟨k, c1, cs1⟩, w1, j⟩ ⟨P, s, G1, hi1, j3, ph, st, hd⟩
  simp only at P s G1 hi1 j3 ph st hd ⊢
  have v := P.v
  have hl1 := v.len
  have hi1' : i < cs1.length := by omega
  have hS1 := v.runs
  have hst := (v.each i hi1).state
  have hgp1 := P.at_
  have hs1 : w1.sent ≤ 1000000000 := by have := sent_phi w1; omega
  obtain ⟨er1, _⟩ := P.putAt hi1 0
  have ra : runAt w1 ((i : Int) + 1) = w1.runs[i] := runAt_nat hi1
  by_cases hj : j < 3
  ·obtain ⟨n, hn⟩ : ∃ n, 3 - j = n + 1 := ⟨3 - j - 1, by omega⟩
   rw [hn] at st
   simp only [stepsP] at st
   rw [ra] at st
   have hj' : (j : Int) < 3 := by omega
   by_cases s1 : w1.runs[i].state = 1
   ·rw [if_pos s1] at st
    have hidw : 1 ≤ (i : Int) + 1 ∧ (i : Int) + 1 ≤ w1.runs.length := by omega
    have hd1 := hd (by rw [ra]; exact s1)
    obtain ⟨hh, hqn⟩ := hd1.head
    obtain ⟨i', T⟩ := G1.inv.turn hidw (by rw [ra]; exact s1)
    have K := T.stepG G1
    have T' := T
    rw [← hh] at T'
    obtain ⟨_, e3, k3, c3, cs3, rfl, P3, g3⟩ := c_step P G1.inv hs1 hqn T'
    rw [hh] at P3
    have s1' : cs1[i].state = 1 := by rw [hst, s1]
    have wj : IntKind.i64.wrap ((j : Int) + 1) = ((j + 1 : Nat) : Int) := by rw [wrapS (by omega) (by omega)]; omega
    rw [Wp_body]
    simp [hj', er1, hi1', hS1.at, s1', e3, wj]
    exact ⟨k3, c3, cs3, stepP w1 ((i : Int) + 1), j + 1, ⟨by omega, rfl⟩, ⟨P3, s.trans g3, K.g, by have := K.k.len; omega, by omega, by have := K.k.phi; omega, by rw [show 3 - (j + 1) = n by omega]; exact st, fun hh2 => T.head G1 hd1 hh2⟩, by omega⟩
   ·rw [if_neg s1] at st
    have s1' : ¬ cs1[i].state = 1 := by rw [hst]; exact s1
    rw [← st]
    unfold backP
    rw [ra, if_neg s1]
    rw [Wp_body]
    simp [hj', er1, hi1', hS1.at, s1']
    exact ⟨rfl, k, c1, cs1, rfl, P, s⟩
  ·have hj3 : j = 3 := by omega
   subst hj3
   simp only [Nat.sub_self, stepsP] at st
   rw [← st]
   unfold backP
   rw [ra]
   by_cases s1 : w1.runs[i].state = 1
   ·have s1' : cs1[i].state = 1 := by rw [hst, s1]
    rw [if_pos s1]
    have hq6 := G1.inv.qlen
    obtain ⟨_, e3, s3, k3, rfl, f3⟩ := c_without v.queue (v.own.wr .queue) (v.own.un .queue) ((i : Int) + 1) (by omega)
    obtain ⟨v3, g3⟩ := v.newQueue f3.chg f3.sl f3.wr f3.un fun id hid => .inl (f3.ids id hid)
    have hll := less_len w1.queue ((i : Int) + 1)
    obtain ⟨s4, k4, e4, v4, g4⟩ := v3.queueApp (ys := [(i : Int) + 1]) (by simp only [List.length_singleton]; unfold lenMost; omega)
    have g34 := g3.trans g4
    obtain ⟨a4, b4⟩ := g34.away P.lt P.out
    rw [hgp1] at a4
    obtain ⟨k5, e5, P5, ch5⟩ := v4.home a4 b4 P.ge (j := 2) (xs := [s4]) (by simp [splice]) (by simp)
    simp only [List.map_cons, List.map_nil, encI, List.length_cons, List.length_nil] at e4
    rw [Wp_body]
    simp [er1, hi1', hS1.at, s1', at_blk hgp1, e3, e4, e5]
    exact ⟨rfl, k5, { c1 with queue := s4 }, cs1, rfl, P5, s.trans (g34.toP.trans (StepP.of_chg ch5))⟩
   ·have s1' : ¬ cs1[i].state = 1 := by rw [hst]; exact s1
    rw [if_neg s1]
    rw [Wp_body]
    simp [er1, hi1', hS1.at, s1']
    exact ⟨rfl, k, c1, cs1, rfl, P, s⟩
end Go.Proofs.YtmkiojlebjknlaaGreat
