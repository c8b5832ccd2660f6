/-
  What functions of the seat answer, each proved once; each under the condition that cells bear what it is given, as its statement says.
-/
import Derived.Test.YtmkiojlebjknlaaGreatWalkA4
import Derived.Test.YtmkiojlebjknlaaGreatAm6
set_option linter.all false
/-
 THE PROGRAM'S waiting, WorldOk: what they answer.
-/
set_option maxRecDepth 8000
namespace Go.Proofs.YtmkiojlebjknlaaGreat
open Go.AM
variable {h : H}
def waitW (w : PWorld) : Nat → Int
 | 0 => 0
 | i + 1 => IntKind.i64.wrap (waitW w i + (w.runs[i]?.getD default).mail.length)
theorem c_waiting {c : WorldC} {w : PWorld} {cs : List RunC} (hw : WorldR h w c cs) : Dz.den 53 [.g (encW c)] h = some (.c (.int .i64 (waitW w w.runs.length)), h) := by
 refine den_plain rfl Tryz.func53 rfl rfl ?_
 have hS := hw.runs.sl
 have hl := hw.runs.len
 simp [Tryz.f53, hS.lenA]
 refine count_wp cs.length (fun i => ([.c (ci 0), .c (ci (waitW w i)), .c c.runs, .c (ci cs.length), .c (ci i)], [], [], h)) (fun i => True) rfl trivial ?_ ?_
 ·intro i hi _
  have hi' : i < w.runs.length := by omega
  have hm := fun e => (hw.runs.each i hi').mail.lenA (e := e)
  rw [Wp_body]
  simp [hi, ixA_nat hS, hS.at, hm, wrap_succ (hS.lt hi), waitW, hi']
 ·intro _
  rw [Wp_body]
  simp [hl]
def goingTo (w : PWorld) : Nat → Nat
 | 0 => 0
 | i + 1 => goingTo w i + if (w.runs[i]?.getD default).state = 1 then 1 else 0
theorem goingTo_le (w : PWorld) : ∀ i, goingTo w i ≤ i
 | 0 => Nat.le_refl _
 | i + 1 => by have := goingTo_le w i; simp only [goingTo]; split <;> omega
structure RunAt (w : PWorld) (full : List Int) (i : Nat) (r : PRun) : Prop where
 id : r.id = i + 1
 fits : RunFits w full r
 going : r.state = 1 → r.id ∈ w.queue
 links : ∀ k ∈ r.links, r.id ∈ (w.runs[(k - 1).toNat]?.getD default).links
structure WorldFits (w : PWorld) : Prop where
 safe : CodeSafe w.code
 many : 1 ≤ w.runs.length ∧ w.runs.length ≤ 6
 now : 0 ≤ w.now ∧ w.now ≤ 300
 sent : 0 ≤ w.sent ∧ w.sent ≤ 9999
 taken : 0 ≤ w.taken ∧ w.taken ≤ 9999
 lost : 0 ≤ w.lost ∧ w.lost ≤ 9999
 sum : w.sent = IntKind.i64.wrap (IntKind.i64.wrap (w.taken + w.lost) + waitW w w.runs.length)
 each : ∀ i (hi : i < w.runs.length), RunAt w (fullR w.code) i w.runs[i]
 queue : w.queue.length = goingTo w w.runs.length
set_option maxHeartbeats 4000000 in
set_option maxRecDepth 8000 in
theorem c_IWorldOk {c : WorldC} {w : PWorld} {cs : List RunC} (hw : WorldR h w c cs) :
  Dz.den 17 [.g (encW c)] h = some (.c (.bool (tt (WorldFits w))), h) := by
 refine den_plain rfl Tryz.func17 rfl rfl ?_
 have e1 := c_ICodeSafe hw.code
 have hS := hw.runs.sl
 have hcl := hw.runs.len
 have lr := fun e => hS.lenA (e := e)
 have ew := c_waiting hw
 simp [hw.now, hw.sent, hw.taken, hw.lost] at ew
 by_cases h1 : CodeSafe w.code
 rotate_left
 ·have kk : ¬ WorldFits w := fun k => h1 k.safe
  simp [Tryz.f17, e1, h1, kk]
 by_cases h2 : 1 ≤ w.runs.length ∧ w.runs.length ≤ 6
 rotate_left
 ·have kk : ¬ WorldFits w := fun k => h2 k.many
  have h2' : ¬ (1 ≤ (cs.length : Int) ∧ (cs.length : Int) ≤ 6) := by omega
  simp [Tryz.f17, e1, h1, kk, lr, h2']
 have h2' : 1 ≤ (cs.length : Int) ∧ (cs.length : Int) ≤ 6 := by omega
 by_cases h3 : 0 ≤ w.now ∧ w.now ≤ 300
 rotate_left
 ·have kk : ¬ WorldFits w := fun k => h3 k.now
  simp [Tryz.f17, e1, h1, kk, lr, h2', hw.now, h3]
 by_cases h4 : 0 ≤ w.sent ∧ w.sent ≤ 9999
 rotate_left
 ·have kk : ¬ WorldFits w := fun k => h4 k.sent
  simp [Tryz.f17, e1, h1, kk, lr, h2', hw.now, h3, hw.sent, h4]
  unfold LexOk; kernel_rfl
 by_cases h5 : 0 ≤ w.taken ∧ w.taken ≤ 9999
 rotate_left
 ·have kk : ¬ WorldFits w := fun k => h5 k.taken
  simp [Tryz.f17, e1, h1, kk, lr, h2', hw.now, h3, hw.sent, h4, hw.taken, h5]
  unfold LexOk; kernel_rfl
 by_cases h6 : 0 ≤ w.lost ∧ w.lost ≤ 9999
 rotate_left
 ·have kk : ¬ WorldFits w := fun k => h6 k.lost
  simp [Tryz.f17, e1, h1, kk, lr, h2', hw.now, h3, hw.sent, h4, hw.taken, h5, hw.lost, h6]
  unfold LexOk; kernel_rfl
 by_cases h7 : w.sent = IntKind.i64.wrap (IntKind.i64.wrap (w.taken + w.lost) + waitW w w.runs.length)
 rotate_left
 ·have kk : ¬ WorldFits w := fun k => h7 k.sum
  simp [Tryz.f17, e1, h1, kk, lr, h2', hw.now, h3, hw.sent, h4, hw.taken, h5, hw.lost, h6, ew, h7]
  unfold LexOk; kernel_rfl
 have hop := codeOk_op h1.ok
 have hcl2 := codeOk_len h1.ok
 obtain ⟨p1, p2, p3⟩ := fullR_props hop
 obtain ⟨⟨v, k⟩, e3, e4, hx, hg⟩ := c_IFull hw.code h1.ok
 simp only at e4 hx hg
 subst e4
 have hwk := hw.ext hx
 have hSk := hwk.runs.sl
 have lrk := fun e => hSk.lenA (e := e)
 have hq := hwk.queue
 simp [Tryz.f17, e1, h1, lr, h2', hw.now, h3, hw.sent, h4, hw.taken, h5, hw.lost, h6, ew, eq_true h7, e3, lrk]
 refine ⟨by unfold LexOk; kernel_rfl, ?_⟩
 refine count_wp cs.length (fun i => ([.c (.bool false), .c (.sl h.length 0 w.code.length none), .c (ci (goingTo w i)), .c c.runs, .c (ci cs.length), .c (ci i)], [encW c], [], k)) (fun i => ∀ j (hj : j < w.runs.length), j < i → RunAt w (fullR w.code) j w.runs[j]) (by simp [goingTo, hw.now, hw.sent, hw.taken, hw.lost]) (by simp) ?_ ?_
 ·intro i hi hP
  have hi' : i < w.runs.length := by omega
  have hr := hwk.runs.each i hi'
  have er := c_runOk hwk hr hg p1 p2
  rw [p2] at er
  have hgl := goingTo_le w i
  have ws := wrap_succ (show i < sMost by simp [sMost]; omega)
  have wg := wrap_succ (show goingTo w i < sMost by simp [sMost]; omega)
  have hgt : goingTo w (i + 1) = goingTo w i + if w.runs[i].state = 1 then 1 else 0 := by simp only [goingTo, List.getElem?_eq_getElem hi', Option.getD_some]
  have bad : ¬ RunAt w (fullR w.code) i w.runs[i] → ¬ WorldFits w := fun a b => a (b.each i hi')
  have li := fun e => hr.links.lenA (e := e)
  have hsl := hr.links
  generalize hrr : w.runs[i] = r at *
  simp at ws wg
  simp [hr.id, hr.state] at er
  rw [Wp_body]
  by_cases q1 : r.id = i + 1
  rotate_left
  ·have kk := bad fun a => q1 a.id
   simp [hi, ixA_nat hSk, hSk.at, hr.id, hr.state, ws, q1, kk, hx.2]
  rw [q1] at er
  by_cases q2 : RunFits w (fullR w.code) r
  rotate_left
  ·have kk := bad fun a => q2 a.fits
   simp [hi, ixA_nat hSk, hSk.at, hr.id, hr.state, ws, q1, er, q2, kk, hx.2]
  have eq := c_ContainsI hq ((i : Int) + 1)
  by_cases q3 : r.state = 1 → r.id ∈ w.queue
  rotate_left
  ·have kk := bad fun a => q3 a.going
   have q4 : r.state = 1 := Classical.byContradiction fun e => q3 fun e' => absurd e' e
   have q5 : ¬ (i : Int) + 1 ∈ w.queue := fun e => q3 fun _ => by rw [q1]; exact e
   simp [hi, ixA_nat hSk, hSk.at, hr.id, hr.state, ws, wg, q1, er, q2, kk, hx.2, eq_true q4, eq, q5]
  by_cases q4 : r.state = 1
  ·simp only [q4, ↓reduceIte] at hgt
   have q5 : (i : Int) + 1 ∈ w.queue := q1 ▸ q3 q4
   simp [hi, ixA_nat hSk, hSk.at, hr.id, hr.state, ws, wg, q1, er, q2, eq_true q4, eq, q5, li]
   refine count_wp r.links.length (fun j => ([.c (.bool false), .c (.sl h.length 0 w.code.length none), .c (ci (goingTo w (i + 1))), .c c.runs, .c (ci cs.length), .c (ci i), .c cs[i].links, .c (ci r.links.length), .c (ci j)],
    [encW c, [ci (i + 1), ci cs[i].at_, cs[i].slots, ci cs[i].full, cs[i].mail, ci r.state, ci cs[i].due, cs[i].links, cs[i].watched, .bool cs[i].trap, ci cs[i].why.k, ci cs[i].why.n, ci cs[i].turns]], [], k))
    (fun j => AllTo r.links j fun x => (i : Int) + 1 ∈ (w.runs[(x - 1).toNat]?.getD default).links) (by simp [hgt]) (by simp) ?_ ?_
   ·intro j hj hA
    have hst : r.state ≠ 3 := fun e => by rw [(q2.ok.ended e).2.1] at hj; simp at hj
    have hal := q2.others hst _ (List.mem_append_left _ (List.getElem_mem hj))
    simp only [aliveC, Bool.and_eq_true, decide_eq_true_eq] at hal
    obtain ⟨b, hb⟩ : ∃ b : Nat, r.links[j] = b + 1 := ⟨(r.links[j] - 1).toNat, by omega⟩
    have hb1 : b < w.runs.length := by omega
    have hb2 : b < cs.length := by omega
    have lb := c_ContainsI (hwk.runs.each b hb1).links ((i : Int) + 1)
    have wb : IntKind.i64.wrap (b : Int) = b := wrap_i64 (by omega) (by omega)
    have wj := wrap_succ (hsl.lt hj)
    simp at wj
    rw [Wp_body]
    simp [hj, ixA_nat hsl, hsl.at, hb, wb, ixA_nat hSk, hSk.at, hb2, lb, wj, allTo_succ hj, hb1]
    refine ⟨by unfold LexOk; kernel_rfl, fun hy => ⟨by simpa using hA, hy⟩, fun hn => ⟨bad fun a => ?_, hx.2⟩⟩
    have := a.links _ (List.getElem_mem hj)
    rw [hb, q1] at this
    simp [hb1] at this
    exact hn this
   ·intro hA
    rw [allTo_len] at hA
    rw [Wp_body]
    simp [ws]
    intro j hj hji
    rcases Nat.lt_succ_iff_lt_or_eq.1 hji with e | rfl
    ·exact hP j hj e
    ·rw [hrr]; exact ⟨q1, q2, q3, fun x hx => by rw [q1]; exact hA x hx⟩
  ·simp only [q4, ↓reduceIte, Nat.add_zero] at hgt
   simp [hi, ixA_nat hSk, hSk.at, hr.id, hr.state, ws, q1, er, q2, q4, li]
   refine count_wp r.links.length (fun j => ([.c (.bool false), .c (.sl h.length 0 w.code.length none), .c (ci (goingTo w (i + 1))), .c c.runs, .c (ci cs.length), .c (ci i), .c cs[i].links, .c (ci r.links.length), .c (ci j)],
    [encW c, [ci (i + 1), ci cs[i].at_, cs[i].slots, ci cs[i].full, cs[i].mail, ci r.state, ci cs[i].due, cs[i].links, cs[i].watched, .bool cs[i].trap, ci cs[i].why.k, ci cs[i].why.n, ci cs[i].turns]], [], k))
    (fun j => AllTo r.links j fun x => (i : Int) + 1 ∈ (w.runs[(x - 1).toNat]?.getD default).links) (by simp [hgt]) (by simp) ?_ ?_
   ·intro j hj hA
    have hst : r.state ≠ 3 := fun e => by rw [(q2.ok.ended e).2.1] at hj; simp at hj
    have hal := q2.others hst _ (List.mem_append_left _ (List.getElem_mem hj))
    simp only [aliveC, Bool.and_eq_true, decide_eq_true_eq] at hal
    obtain ⟨b, hb⟩ : ∃ b : Nat, r.links[j] = b + 1 := ⟨(r.links[j] - 1).toNat, by omega⟩
    have hb1 : b < w.runs.length := by omega
    have hb2 : b < cs.length := by omega
    have lb := c_ContainsI (hwk.runs.each b hb1).links ((i : Int) + 1)
    have wb : IntKind.i64.wrap (b : Int) = b := wrap_i64 (by omega) (by omega)
    have wj := wrap_succ (hsl.lt hj)
    simp at wj
    rw [Wp_body]
    simp [hj, ixA_nat hsl, hsl.at, hb, wb, ixA_nat hSk, hSk.at, hb2, lb, wj, allTo_succ hj, hb1]
    refine ⟨by unfold LexOk; kernel_rfl, fun hy => ⟨by simpa using hA, hy⟩, fun hn => ⟨bad fun a => ?_, hx.2⟩⟩
    have := a.links _ (List.getElem_mem hj)
    rw [hb, q1] at this
    simp [hb1] at this
    exact hn this
   ·intro hA
    rw [allTo_len] at hA
    rw [Wp_body]
    simp [ws]
    intro j hj hji
    rcases Nat.lt_succ_iff_lt_or_eq.1 hji with e | rfl
    ·exact hP j hj e
    ·rw [hrr]; exact ⟨q1, q2, q3, fun x hx => by rw [q1]; exact hA x hx⟩
 ·intro hP
  rw [Wp_body]
  simp [hq.lenA, hx.2]
  rw [tt_eq, decide_eq_true_iff]
  constructor
  ·intro e
   exact ⟨h1, h2, h3, h4, h5, h6, h7, fun i hi => hP i hi (by omega), by rw [← hcl]; omega⟩
  ·intro kw
   rw [kw.queue, hcl]
end Go.Proofs.YtmkiojlebjknlaaGreat

/-
 PLAIN: what the program asks of a world, and what the reference asks, are the same.
-/
set_option maxRecDepth 8000
namespace Go.Proofs.YtmkiojlebjknlaaGreat
open Go.AM
def goingL (w : PWorld) : Nat → List Int
 | 0 => []
 | i + 1 => goingL w i ++ if (w.runs[i]?.getD default).state = 1 then [(i : Int) + 1] else []
theorem goingL_length (w : PWorld) : ∀ i, (goingL w i).length = goingTo w i
 | 0 => rfl
 | i + 1 => by simp only [goingL, goingTo, List.length_append, goingL_length w i]; split <;> rfl
theorem goingL_mem (w : PWorld) : ∀ i x, x ∈ goingL w i ↔ ∃ j : Nat, j < i ∧ x = j + 1 ∧ (w.runs[j]?.getD default).state = 1
 | 0, x => by simp [goingL]
 | i + 1, x => by
  simp only [goingL, List.mem_append, goingL_mem w i]
  constructor
  ·rintro (⟨j, h1, h2, h3⟩ | h)
   ·exact ⟨j, by omega, h2, h3⟩
   ·split at h
    ·simp at h; exact ⟨i, by omega, h, by assumption⟩
    ·cases h
  ·rintro ⟨j, h1, h2, h3⟩
   rcases Nat.lt_succ_iff_lt_or_eq.1 h1 with h | rfl
   ·exact .inl ⟨j, h, h2, h3⟩
   ·right; rw [if_pos h3]; simp [h2]
theorem goingL_nodup (w : PWorld) : ∀ i, (goingL w i).Nodup
 | 0 => by simp [goingL]
 | i + 1 => by
  simp only [goingL]
  rw [List.nodup_append]
  refine ⟨goingL_nodup w i, by split <;> simp, fun a ha b hb e => ?_⟩
  split at hb
  ·simp at hb
   obtain ⟨j, h1, h2, _⟩ := (goingL_mem w i a).1 ha
   omega
  ·cases hb
theorem perm_of_sub : ∀ (g q : List Int), g.Nodup → (∀ x ∈ g, x ∈ q) → q.length ≤ g.length → q.Perm g
 | [], q, _, _, h => by
  have : q = [] := List.length_eq_zero_iff.1 (by simpa using h)
  rw [this]
 | x :: g, q, hn, hs, h => by
  rw [List.nodup_cons] at hn
  have hx := hs x (List.mem_cons_self ..)
  have hp := List.perm_cons_erase hx
  refine hp.trans (List.Perm.cons x (perm_of_sub g (q.erase x) hn.2 (fun y hy => ?_) ?_))
  ·exact (List.mem_erase_of_ne (by rintro rfl; exact hn.1 hy)).2 (hs y (List.mem_cons_of_mem _ hy))
  ·rw [List.length_erase_of_mem hx]; simp at h; have := List.length_pos_of_mem hx; omega
theorem waitW_eq {w : PWorld} (hm : ∀ j (hj : j < w.runs.length), (w.runs[j]).mail.length ≤ 12) : ∀ i, i ≤ w.runs.length → i ≤ 6 → waitW w i = mailTo w i
 | 0, _, _ => rfl
 | i + 1, h1, h2 => by
  have hi : i < w.runs.length := by omega
  have := hm i hi
  have hl := mailTo_le (w := w) i (fun j hj _ => hm j hj)
  simp only [waitW, mailTo, waitW_eq hm i (by omega) (by omega), List.getElem?_eq_getElem hi, Option.getD_some]
  rw [wrap_i64 (by omega) (by omega)]; omega
theorem fits_ok {w : PWorld} (F : WorldFits w) : WorldOk w := by
 have hm : ∀ j (hj : j < w.runs.length), (w.runs[j]).mail.length ≤ 12 := fun j hj => (F.each j hj).fits.ok.room
 have hs := F.sum
 rw [waitW_eq hm _ (Nat.le_refl _) F.many.2] at hs
 have hml := mailTo_le (w := w) w.runs.length (fun j hj _ => hm j hj)
 have hmany := F.many
 have ht := F.taken
 have hlo := F.lost
 rw [wrap_i64 (x := w.taken + w.lost) (by omega) (by omega), wrap_i64 (by omega) (by omega)] at hs
 have hG : ∀ x ∈ goingL w w.runs.length, x ∈ w.queue := fun x hx => by
  obtain ⟨j, h1, h2, h3⟩ := (goingL_mem w _ x).1 hx
  rw [List.getElem?_eq_getElem h1, Option.getD_some] at h3
  have := (F.each j h1).going h3
  rw [(F.each j h1).id] at this
  rw [h2]; exact this
 have hp := perm_of_sub _ w.queue (goingL_nodup w _) hG (by rw [goingL_length, F.queue]; exact Nat.le_refl _)
 have hq : ∀ x, x ∈ w.queue ↔ ∃ j : Nat, j < w.runs.length ∧ x = j + 1 ∧ (w.runs[j]?.getD default).state = 1 := fun x => by rw [hp.mem_iff, goingL_mem]
 refine ⟨F.safe, F.many, F.now, F.sent, F.taken, F.lost, ⟨hp.nodup_iff.2 (goingL_nodup w _), fun x hx => ?_⟩, fun i hi => ?_, fun q hq2 => ?_, fun a b ha hb => ?_, hs⟩
 ·obtain ⟨j, h1, h2, _⟩ := (hq x).1 hx
  omega
 ·have R := F.each i hi
  refine ⟨R.fits.ok, R.id, R.fits.at_, ?_, R.fits.wait, fun hst k hk => ?_, R.fits.full⟩
  ·rw [hq, R.id]
   constructor
   ·rintro ⟨j, h1, h2, h3⟩
    have : j = i := by omega
    subst this
    rw [List.getElem?_eq_getElem h1, Option.getD_some] at h3
    exact h3
   ·intro h3
    exact ⟨i, hi, rfl, by rw [List.getElem?_eq_getElem hi, Option.getD_some]; exact h3⟩
  ·have := R.fits.others hst k hk
   simp only [aliveC, Bool.and_eq_true, decide_eq_true_eq] at this
   exact ⟨this.1.2, this.2⟩
 ·obtain ⟨j, h1, h2, _⟩ := (hq q).1 hq2
  omega
 ·have hb' : b < w.runs.length := by omega
  constructor
  ·intro h
   have := (F.each a ha).links _ h
   rw [(F.each a ha).id] at this
   have e : ((b : Int) + 1 - 1).toNat = b := by omega
   rw [e, List.getElem?_eq_getElem hb', Option.getD_some] at this
   exact this
  ·intro h
   have := (F.each b hb').links _ h
   rw [(F.each b hb').id] at this
   have e : ((a : Int) + 1 - 1).toNat = a := by omega
   rw [e, List.getElem?_eq_getElem ha, Option.getD_some] at this
   exact this
theorem ok_fits {w : PWorld} (W : WorldOk w) : WorldFits w := by
 have hm : ∀ j (hj : j < w.runs.length), (w.runs[j]).mail.length ≤ 12 := fun j hj => (W.each j hj).ok.room
 have hml := mailTo_le (w := w) w.runs.length (fun j hj _ => hm j hj)
 have hs := W.sum
 have hmany := W.many
 have ht := W.taken
 have hlo := W.lost
 have hp : w.queue.Perm (goingL w w.runs.length) := by
  rw [List.perm_ext_iff_of_nodup W.queue.1 (goingL_nodup w _)]
  intro x
  rw [goingL_mem]
  constructor
  ·intro hx
   have h1 := W.queue.2 x hx
   have h2 := W.queueTo x hx
   obtain ⟨j, hj⟩ : ∃ j : Nat, x = j + 1 := ⟨(x - 1).toNat, by omega⟩
   have hjl : j < w.runs.length := by omega
   refine ⟨j, hjl, hj, ?_⟩
   rw [List.getElem?_eq_getElem hjl, Option.getD_some]
   refine (W.each j hjl).queue.1 ?_
   rw [(W.each j hjl).id, ← hj]; exact hx
  ·rintro ⟨j, h1, h2, h3⟩
   rw [List.getElem?_eq_getElem h1, Option.getD_some] at h3
   have := (W.each j h1).queue.2 h3
   rw [(W.each j h1).id] at this
   rw [h2]; exact this
 refine ⟨W.safe, W.many, W.now, W.sent, W.taken, W.lost, ?_, fun i hi => ?_, by rw [hp.length_eq, goingL_length]⟩
 ·rw [waitW_eq hm _ (Nat.le_refl _) W.many.2, wrap_i64 (x := w.taken + w.lost) (by omega) (by omega), wrap_i64 (by omega) (by omega)]
  exact hs
 ·have R := W.each i hi
  refine ⟨R.id, ⟨R.ok, R.at_, R.wait, fun hst k hk => ?_, R.full⟩, fun h => R.queue.2 h, fun k hk => ?_⟩
  ·have h1 := R.others hst k hk
   have h2 : 1 ≤ k := by
    rcases List.mem_append.1 hk with hk | hk
    ·exact (R.ok.links.2 k hk).1
    ·exact (R.ok.watched.2 k hk).1
   simp only [aliveC, Bool.and_eq_true, decide_eq_true_eq]
   exact ⟨⟨h2, h1.1⟩, h1.2⟩
  ·have hst : w.runs[i].state ≠ 3 := fun e => by rw [(R.ok.ended e).2.1] at hk; cases hk
   have h1 := (R.others hst k (List.mem_append_left _ hk)).1
   have h2 := R.ok.links.2 k hk
   obtain ⟨b, hb⟩ : ∃ b : Nat, k = b + 1 := ⟨(k - 1).toNat, by omega⟩
   have hbl : b < w.runs.length := by omega
   have e : (k - 1).toNat = b := by omega
   rw [e, List.getElem?_eq_getElem hbl, Option.getD_some, R.id]
   have hne : b ≠ i := fun e2 => h2.2.2 (by rw [R.id]; omega)
   rw [hb] at hk
   rcases Nat.lt_or_gt_of_ne hne with h | h
   ·exact (W.links i b hi h).1 hk
   ·exact (W.links b i hbl h).2 hk
theorem fits_iff (w : PWorld) : WorldFits w ↔ WorldOk w := ⟨fits_ok, ok_fits⟩
variable {h : H}
theorem c_IWorldOk' {c : WorldC} {w : PWorld} {cs : List RunC} (hw : WorldR h w c cs) : Dz.den 17 [.g (encW c)] h = some (.c (.bool (tt (WorldOk w))), h) := by
 rw [c_IWorldOk hw, tt_congr (fits_iff w)]
end Go.Proofs.YtmkiojlebjknlaaGreat

/-
 RUNS AND WORLDS THAT CAME IN, AND ROWS OF THEM: plain facts.
-/
set_option maxRecDepth 8000
namespace Go.Proofs.YtmkiojlebjknlaaGreat
open Go.AM
variable {h : H}
theorem eq_take_succ {α : Type} {xs ys : List α} {i : Nat} (hx : i < xs.length) (hy : i < ys.length) : xs.take (i + 1) = ys.take (i + 1) ↔ xs.take i = ys.take i ∧ xs[i] = ys[i] := by
 rw [List.take_succ_eq_append_getElem hx, List.take_succ_eq_append_getElem hy]
 constructor
 ·intro h
  have := List.append_inj h (by simp; omega)
  exact ⟨this.1, by simpa using this.2⟩
 ·rintro ⟨h1, h2⟩; rw [h1, h2]
theorem ne_of_get {α : Type} {xs ys : List α} {i : Nat} (hx : i < xs.length) (hy : i < ys.length) (h : xs[i] ≠ ys[i]) : xs ≠ ys := by
 rintro rfl; exact h rfl
structure RunA (h : H) (r : PRun) (c : RunC) : Prop where
 id : c.id = r.id
 at_ : c.at_ = r.at_
 slots : SlA h c.slots 2 encV r.slots
 full : c.full = r.full
 mail : SlA h c.mail 2 encV r.mail
 state : c.state = r.state
 due : c.due = r.due
 links : SlA h c.links 1 encI r.links
 watched : SlA h c.watched 1 encI r.watched
 trap : c.trap = r.trap
 why : c.why = r.why
 turns : c.turns = r.turns
structure RunsA (h : H) (s : Cell) (rs : List PRun) (cs : List RunC) : Prop where
 sl : SlA h s 13 encR cs
 len : cs.length = rs.length
 each : ∀ i (hi : i < rs.length), RunA h rs[i] (cs[i]'(by omega))
structure WorldA (h : H) (w : PWorld) (c : WorldC) (cs : List RunC) : Prop where
 code : SlA h c.code 6 encO w.code
 runs : RunsA h c.runs w.runs cs
 queue : SlA h c.queue 1 encI w.queue
 now : c.now = w.now
 sent : c.sent = w.sent
 taken : c.taken = w.taken
 lost : c.lost = w.lost
theorem RunA.ext {r : PRun} {c : RunC} {h h' : H} (hr : RunA h r c) (x : Ext h h') : RunA h' r c := ⟨hr.id, hr.at_, hr.slots.ext x, hr.full, hr.mail.ext x, hr.state, hr.due, hr.links.ext x, hr.watched.ext x, hr.trap, hr.why, hr.turns⟩
theorem RunsA.ext {s : Cell} {rs : List PRun} {cs : List RunC} {h h' : H} (hr : RunsA h s rs cs) (x : Ext h h') : RunsA h' s rs cs := ⟨hr.sl.ext x, hr.len, fun i hi => (hr.each i hi).ext x⟩
theorem WorldA.ext {c : WorldC} {w : PWorld} {cs : List RunC} {h h' : H} (hw : WorldA h w c cs) (x : Ext h h') : WorldA h' w c cs := ⟨hw.code.ext x, hw.runs.ext x, hw.queue.ext x, hw.now, hw.sent, hw.taken, hw.lost⟩
theorem WorldA.push {c : WorldC} {w : PWorld} {cs : List RunC} {h : H} (hw : WorldA h w c cs) (b : Blk) : WorldA (h.push b) w c cs := hw.ext (Ext.push h b)
def RunSmall (n : Int) (r : PRun) : Prop := (r.slots.length : Int) ≤ n ∧ (r.mail.length : Int) ≤ n ∧ (r.links.length : Int) ≤ n ∧ (r.watched.length : Int) ≤ n
theorem RunSmall.mono {a b : Int} {r : PRun} (h : RunSmall a r) (hab : a ≤ b) : RunSmall b r := ⟨by have := h.1; omega, by have := h.2.1; omega, by have := h.2.2.1; omega, by have := h.2.2.2; omega⟩
def RunC.ids (c : RunC) : List Nat := Cell.ids c.slots ++ (Cell.ids c.mail ++ (Cell.ids c.links ++ Cell.ids c.watched))
structure Own (lo : Nat) (h : H) (ids : List Nat) : Prop where
 nd : ids.Nodup
 ge : ∀ id ∈ ids, lo ≤ id
 wr : ∀ id ∈ ids, ∃ b, h.get id = some b ∧ b.ro = false
theorem Own.lt {lo : Nat} {h : H} {ids : List Nat} (o : Own lo h ids) : ∀ id ∈ ids, id < h.length := fun id hid => by
 obtain ⟨b, hb, _⟩ := o.wr id hid; exact H.get_lt hb
theorem Own.ext {lo : Nat} {h k : H} {ids : List Nat} (o : Own lo h ids) (hk : ∀ id ∈ ids, k.get id = h.get id) : Own lo k ids := ⟨o.nd, o.ge, fun id hid => by rw [hk id hid]; exact o.wr id hid⟩
theorem Own.append {lo mid : Nat} {h : H} {a b : List Nat} (ha : Own lo h a) (hb : Own mid h b) (hm : lo ≤ mid) (hlt : ∀ id ∈ a, id < mid) : Own lo h (a ++ b) where
 nd := by
  rw [List.nodup_append]
  exact ⟨ha.nd, hb.nd, fun x hx y hy e => by have := hlt x hx; have := hb.ge y hy; omega⟩
 ge := fun id hid => by
  rcases List.mem_append.1 hid with h | h
  ·exact ha.ge id h
  ·have := hb.ge id h; omega
 wr := fun id hid => by
  rcases List.mem_append.1 hid with h | h
  ·exact ha.wr id h
  ·exact hb.wr id h
theorem RunR.same {k k' : H} {r : PRun} {c : RunC} (hr : RunR k r c) (h : ∀ id ∈ RunC.ids c, k'.get id = k.get id) : RunR k' r c :=
 ⟨hr.id, hr.at_, hr.slots.same fun id hid => h id (by simp [RunC.ids, hid]), hr.full, hr.mail.same fun id hid => h id (by simp [RunC.ids, hid]), hr.state, hr.due,
  hr.links.same fun id hid => h id (by simp [RunC.ids, hid]), hr.watched.same fun id hid => h id (by simp [RunC.ids, hid]), hr.trap, hr.why, hr.turns⟩
def runsIds (cs : List RunC) : List Nat := cs.flatMap RunC.ids
def WorldC.ids (c : WorldC) (cs : List RunC) : List Nat := Cell.ids c.code ++ (Cell.ids c.runs ++ runsIds cs) ++ Cell.ids c.queue
end Go.Proofs.YtmkiojlebjknlaaGreat
