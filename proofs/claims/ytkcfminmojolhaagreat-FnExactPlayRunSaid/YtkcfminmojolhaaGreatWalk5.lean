/-
  What functions of the seat answer, each proved once; each under the condition that cells bear what it is given, as its statement says.
-/
import Derived.Test.YtkcfminmojolhaaGreatWalk4
import Derived.Test.YtkcfminmojolhaaGreatAm6
set_option linter.all false
/-
  THE PROGRAM'S waiting, WorldOk: what they answer.
-/
set_option maxRecDepth 8000
namespace Go.Proofs.YtkcfminmojolhaaGreat
open Go.AM
variable {h : H}
def waitW (w : PWorld) : Nat → Int
  | 0 => 0
  | i + 1 => IntKind.i64.wrap (waitW w i + (w.runs[i]?.getD default).mail.length)
theorem c_waiting {c : WorldC} {w : PWorld} {cs : List RunC} (hw : WorldR h w c cs) : Dz.den 106 [.g (encW c)] h = some (.c (.int .i64 (waitW w w.runs.length)), h) := by
  refine den_plain rfl Tryz.func106 rfl rfl ?_
  have hS := hw.runs.sl
  have hl := hw.runs.len
  simp [Tryz.f106, hS.lenA]
  refine count_wp cs.length (fun i => ([.c (ci 0), .c (ci (waitW w i)), .c c.runs, .c (ci cs.length), .c (ci i)], [], [], h)) (fun i => True) rfl trivial ?_ ?_
  · intro i hi _
    have hi' : i < w.runs.length := by omega
    have hm := fun e => (hw.runs.each i hi').mail.lenA (e := e)
    rw [Wp_body]
    simp [hi, ixA_nat hS, hS.at, hm, wrap_succ (hS.lt hi), waitW, hi']
  · intro _
    rw [Wp_body]
    simp [hl]
def goingTo (w : PWorld) : Nat → Nat
  | 0 => 0
  | i + 1 => goingTo w i + if (w.runs[i]?.getD default).state = 1 then 1 else 0
theorem goingTo_le (w : PWorld) : ∀ i, goingTo w i ≤ i
  | 0 => Nat.le_refl _
  | i + 1 => by have := goingTo_le w i; simp only [goingTo]; split <;> omega
/-- What the program asks of a run, by its place. -/
structure RunAt (w : PWorld) (full : List Int) (i : Nat) (r : PRun) : Prop where
  id : r.id = i + 1
  fits : RunFits w full r
  going : r.state = 1 → r.id ∈ w.queue
  links : ∀ k ∈ r.links, r.id ∈ (w.runs[(k - 1).toNat]?.getD default).links
structure WorldFits (w : PWorld) : Prop where
  safe : CodeSafe w.code
  many : 1 ≤ w.runs.length ∧ w.runs.length ≤ 6
  now : 0 ≤ w.now ∧ w.now ≤ 300
  sent : 0 ≤ w.sent ∧ w.sent ≤ 9999
  taken : 0 ≤ w.taken ∧ w.taken ≤ 9999
  lost : 0 ≤ w.lost ∧ w.lost ≤ 9999
  sum : w.sent = IntKind.i64.wrap (IntKind.i64.wrap (w.taken + w.lost) + waitW w w.runs.length)
  each : ∀ i (hi : i < w.runs.length), RunAt w (fullR w.code) i w.runs[i]
  queue : w.queue.length = goingTo w w.runs.length

set_option maxHeartbeats 4000000 in
set_option maxRecDepth 8000 in
theorem c_IWorldOk {c : WorldC} {w : PWorld} {cs : List RunC} (hw : WorldR h w c cs) :
    Dz.den 51 [.g (encW c)] h = some (.c (.bool (tt (WorldFits w))), h) := by
  refine den_plain rfl Tryz.func51 rfl rfl ?_
  have e1 := c_ICodeSafe hw.code
  have hS := hw.runs.sl
  have hcl := hw.runs.len
  have lr := fun e => hS.lenA (e := e)
  have ew := c_waiting hw
  simp [hw.now, hw.sent, hw.taken, hw.lost] at ew
  by_cases h1 : CodeSafe w.code
  rotate_left
  · have kk : ¬ WorldFits w := fun k => h1 k.safe
    simp [Tryz.f51, e1, h1, kk]
  by_cases h2 : 1 ≤ w.runs.length ∧ w.runs.length ≤ 6
  rotate_left
  · have kk : ¬ WorldFits w := fun k => h2 k.many
    have h2' : ¬ (1 ≤ (cs.length : Int) ∧ (cs.length : Int) ≤ 6) := by omega
    simp [Tryz.f51, e1, h1, kk, lr, h2']
  have h2' : 1 ≤ (cs.length : Int) ∧ (cs.length : Int) ≤ 6 := by omega
  by_cases h3 : 0 ≤ w.now ∧ w.now ≤ 300
  rotate_left
  · have kk : ¬ WorldFits w := fun k => h3 k.now
    simp [Tryz.f51, e1, h1, kk, lr, h2', hw.now, h3]
  by_cases h4 : 0 ≤ w.sent ∧ w.sent ≤ 9999
  rotate_left
  · have kk : ¬ WorldFits w := fun k => h4 k.sent
    simp [Tryz.f51, e1, h1, kk, lr, h2', hw.now, h3, hw.sent, h4]
    unfold LexOk; kernel_rfl
  by_cases h5 : 0 ≤ w.taken ∧ w.taken ≤ 9999
  rotate_left
  · have kk : ¬ WorldFits w := fun k => h5 k.taken
    simp [Tryz.f51, e1, h1, kk, lr, h2', hw.now, h3, hw.sent, h4, hw.taken, h5]
    unfold LexOk; kernel_rfl
  by_cases h6 : 0 ≤ w.lost ∧ w.lost ≤ 9999
  rotate_left
  · have kk : ¬ WorldFits w := fun k => h6 k.lost
    simp [Tryz.f51, e1, h1, kk, lr, h2', hw.now, h3, hw.sent, h4, hw.taken, h5, hw.lost, h6]
    unfold LexOk; kernel_rfl
  by_cases h7 : w.sent = IntKind.i64.wrap (IntKind.i64.wrap (w.taken + w.lost) + waitW w w.runs.length)
  rotate_left
  · have kk : ¬ WorldFits w := fun k => h7 k.sum
    simp [Tryz.f51, e1, h1, kk, lr, h2', hw.now, h3, hw.sent, h4, hw.taken, h5, hw.lost, h6, ew, h7]
    unfold LexOk; kernel_rfl
  have hop := codeOk_op h1.ok
  have hcl2 := codeOk_len h1.ok
  obtain ⟨p1, p2, p3⟩ := fullR_props hop
  obtain ⟨⟨v, k⟩, e3, e4, hx, hg⟩ := c_IFull hw.code h1.ok
  simp only at e4 hx hg
  subst e4
  have hwk := hw.ext hx
  have hSk := hwk.runs.sl
  have lrk := fun e => hSk.lenA (e := e)
  have hq := hwk.queue
  simp [Tryz.f51, e1, h1, lr, h2', hw.now, h3, hw.sent, h4, hw.taken, h5, hw.lost, h6, ew, eq_true h7, e3, lrk]
  refine ⟨by unfold LexOk; kernel_rfl, ?_⟩
  refine count_wp cs.length (fun i => ([.c (.bool false), .c (.sl h.length 0 w.code.length none), .c (ci (goingTo w i)), .c c.runs, .c (ci cs.length), .c (ci i)], [encW c], [], k)) (fun i => ∀ j (hj : j < w.runs.length), j < i → RunAt w (fullR w.code) j w.runs[j]) (by simp [goingTo, hw.now, hw.sent, hw.taken, hw.lost]) (by simp) ?_ ?_
  · intro i hi hP
    have hi' : i < w.runs.length := by omega
    have hr := hwk.runs.each i hi'
    have er := c_runOk hwk hr hg p1 p2
    rw [p2] at er
    have hgl := goingTo_le w i
    have ws := wrap_succ (show i < sMost by simp [sMost]; omega)
    have wg := wrap_succ (show goingTo w i < sMost by simp [sMost]; omega)
    have hgt : goingTo w (i + 1) = goingTo w i + if w.runs[i].state = 1 then 1 else 0 := by simp only [goingTo, List.getElem?_eq_getElem hi', Option.getD_some]
    have bad : ¬ RunAt w (fullR w.code) i w.runs[i] → ¬ WorldFits w := fun a b => a (b.each i hi')
    have li := fun e => hr.links.lenA (e := e)
    have hsl := hr.links
    generalize hrr : w.runs[i] = r at *
    simp at ws wg
    simp [hr.id, hr.state] at er
    rw [Wp_body]
    by_cases q1 : r.id = i + 1
    rotate_left
    · have kk := bad fun a => q1 a.id
      simp [hi, ixA_nat hSk, hSk.at, hr.id, hr.state, ws, q1, kk, hx.2]
    rw [q1] at er
    by_cases q2 : RunFits w (fullR w.code) r
    rotate_left
    · have kk := bad fun a => q2 a.fits
      simp [hi, ixA_nat hSk, hSk.at, hr.id, hr.state, ws, q1, er, q2, kk, hx.2]
    have eq := c_ContainsI hq ((i : Int) + 1)
    by_cases q3 : r.state = 1 → r.id ∈ w.queue
    rotate_left
    · have kk := bad fun a => q3 a.going
      have q4 : r.state = 1 := Classical.byContradiction fun e => q3 fun e' => absurd e' e
      have q5 : ¬ (i : Int) + 1 ∈ w.queue := fun e => q3 fun _ => by rw [q1]; exact e
      simp [hi, ixA_nat hSk, hSk.at, hr.id, hr.state, ws, wg, q1, er, q2, kk, hx.2, eq_true q4, eq, q5]
    by_cases q4 : r.state = 1
    · simp only [q4, ↓reduceIte] at hgt
      have q5 : (i : Int) + 1 ∈ w.queue := q1 ▸ q3 q4
      simp [hi, ixA_nat hSk, hSk.at, hr.id, hr.state, ws, wg, q1, er, q2, eq_true q4, eq, q5, li]
      refine count_wp r.links.length (fun j => ([.c (.bool false), .c (.sl h.length 0 w.code.length none), .c (ci (goingTo w (i + 1))), .c c.runs, .c (ci cs.length), .c (ci i), .c cs[i].links, .c (ci r.links.length), .c (ci j)],
        [encW c, [ci (i + 1), ci cs[i].at_, cs[i].slots, ci cs[i].full, cs[i].mail, ci r.state, ci cs[i].due, cs[i].links, cs[i].watched, .bool cs[i].trap, ci cs[i].why.k, ci cs[i].why.n, ci cs[i].turns]], [], k))
        (fun j => AllTo r.links j fun x => (i : Int) + 1 ∈ (w.runs[(x - 1).toNat]?.getD default).links) (by simp [hgt]) (by simp) ?_ ?_
      · intro j hj hA
        have hst : r.state ≠ 3 := fun e => by rw [(q2.ok.ended e).2.1] at hj; simp at hj
        have hal := q2.others hst _ (List.mem_append_left _ (List.getElem_mem hj))
        simp only [aliveC, Bool.and_eq_true, decide_eq_true_eq] at hal
        obtain ⟨b, hb⟩ : ∃ b : Nat, r.links[j] = b + 1 := ⟨(r.links[j] - 1).toNat, by omega⟩
        have hb1 : b < w.runs.length := by omega
        have hb2 : b < cs.length := by omega
        have lb := c_ContainsI (hwk.runs.each b hb1).links ((i : Int) + 1)
        have wb : IntKind.i64.wrap (b : Int) = b := wrap_i64 (by omega) (by omega)
        have wj := wrap_succ (hsl.lt hj)
        simp at wj
        rw [Wp_body]
        simp [hj, ixA_nat hsl, hsl.at, hb, wb, ixA_nat hSk, hSk.at, hb2, lb, wj, allTo_succ hj, hb1]
        refine ⟨by unfold LexOk; kernel_rfl, fun hy => ⟨by simpa using hA, hy⟩, fun hn => ⟨bad fun a => ?_, hx.2⟩⟩
        have := a.links _ (List.getElem_mem hj)
        rw [hb, q1] at this
        simp [hb1] at this
        exact hn this
      · intro hA
        rw [allTo_len] at hA
        rw [Wp_body]
        simp [ws]
        intro j hj hji
        rcases Nat.lt_succ_iff_lt_or_eq.1 hji with e | rfl
        · exact hP j hj e
        · rw [hrr]; exact ⟨q1, q2, q3, fun x hx => by rw [q1]; exact hA x hx⟩
    · simp only [q4, ↓reduceIte, Nat.add_zero] at hgt
      simp [hi, ixA_nat hSk, hSk.at, hr.id, hr.state, ws, q1, er, q2, q4, li]
      refine count_wp r.links.length (fun j => ([.c (.bool false), .c (.sl h.length 0 w.code.length none), .c (ci (goingTo w (i + 1))), .c c.runs, .c (ci cs.length), .c (ci i), .c cs[i].links, .c (ci r.links.length), .c (ci j)],
        [encW c, [ci (i + 1), ci cs[i].at_, cs[i].slots, ci cs[i].full, cs[i].mail, ci r.state, ci cs[i].due, cs[i].links, cs[i].watched, .bool cs[i].trap, ci cs[i].why.k, ci cs[i].why.n, ci cs[i].turns]], [], k))
        (fun j => AllTo r.links j fun x => (i : Int) + 1 ∈ (w.runs[(x - 1).toNat]?.getD default).links) (by simp [hgt]) (by simp) ?_ ?_
      · intro j hj hA
        have hst : r.state ≠ 3 := fun e => by rw [(q2.ok.ended e).2.1] at hj; simp at hj
        have hal := q2.others hst _ (List.mem_append_left _ (List.getElem_mem hj))
        simp only [aliveC, Bool.and_eq_true, decide_eq_true_eq] at hal
        obtain ⟨b, hb⟩ : ∃ b : Nat, r.links[j] = b + 1 := ⟨(r.links[j] - 1).toNat, by omega⟩
        have hb1 : b < w.runs.length := by omega
        have hb2 : b < cs.length := by omega
        have lb := c_ContainsI (hwk.runs.each b hb1).links ((i : Int) + 1)
        have wb : IntKind.i64.wrap (b : Int) = b := wrap_i64 (by omega) (by omega)
        have wj := wrap_succ (hsl.lt hj)
        simp at wj
        rw [Wp_body]
        simp [hj, ixA_nat hsl, hsl.at, hb, wb, ixA_nat hSk, hSk.at, hb2, lb, wj, allTo_succ hj, hb1]
        refine ⟨by unfold LexOk; kernel_rfl, fun hy => ⟨by simpa using hA, hy⟩, fun hn => ⟨bad fun a => ?_, hx.2⟩⟩
        have := a.links _ (List.getElem_mem hj)
        rw [hb, q1] at this
        simp [hb1] at this
        exact hn this
      · intro hA
        rw [allTo_len] at hA
        rw [Wp_body]
        simp [ws]
        intro j hj hji
        rcases Nat.lt_succ_iff_lt_or_eq.1 hji with e | rfl
        · exact hP j hj e
        · rw [hrr]; exact ⟨q1, q2, q3, fun x hx => by rw [q1]; exact hA x hx⟩
  · intro hP
    rw [Wp_body]
    simp [hq.lenA, hx.2]
    rw [tt_eq, decide_eq_true_iff]
    constructor
    · intro e
      exact ⟨h1, h2, h3, h4, h5, h6, h7, fun i hi => hP i hi (by omega), by rw [← hcl]; omega⟩
    · intro kw
      rw [kw.queue, hcl]
end Go.Proofs.YtkcfminmojolhaaGreat

/-
  PLAIN: what the program asks of a world, and what the reference asks, are the same.
-/
set_option maxRecDepth 8000
namespace Go.Proofs.YtkcfminmojolhaaGreat
open Go.AM
def goingL (w : PWorld) : Nat → List Int
  | 0 => []
  | i + 1 => goingL w i ++ if (w.runs[i]?.getD default).state = 1 then [(i : Int) + 1] else []
theorem goingL_length (w : PWorld) : ∀ i, (goingL w i).length = goingTo w i
  | 0 => rfl
  | i + 1 => by simp only [goingL, goingTo, List.length_append, goingL_length w i]; split <;> rfl
theorem goingL_mem (w : PWorld) : ∀ i x, x ∈ goingL w i ↔ ∃ j : Nat, j < i ∧ x = j + 1 ∧ (w.runs[j]?.getD default).state = 1
  | 0, x => by simp [goingL]
  | i + 1, x => by
    simp only [goingL, List.mem_append, goingL_mem w i]
    constructor
    · rintro (⟨j, h1, h2, h3⟩ | h)
      · exact ⟨j, by omega, h2, h3⟩
      · split at h
        · simp at h; exact ⟨i, by omega, h, by assumption⟩
        · cases h
    · rintro ⟨j, h1, h2, h3⟩
      rcases Nat.lt_succ_iff_lt_or_eq.1 h1 with h | rfl
      · exact .inl ⟨j, h, h2, h3⟩
      · right; rw [if_pos h3]; simp [h2]
theorem goingL_nodup (w : PWorld) : ∀ i, (goingL w i).Nodup
  | 0 => by simp [goingL]
  | i + 1 => by
    simp only [goingL]
    rw [List.nodup_append]
    refine ⟨goingL_nodup w i, by split <;> simp, fun a ha b hb e => ?_⟩
    split at hb
    · simp at hb
      obtain ⟨j, h1, h2, _⟩ := (goingL_mem w i a).1 ha
      omega
    · cases hb
theorem perm_of_sub : ∀ (g q : List Int), g.Nodup → (∀ x ∈ g, x ∈ q) → q.length ≤ g.length → q.Perm g
  | [], q, _, _, h => by
    have : q = [] := List.length_eq_zero_iff.1 (by simpa using h)
    rw [this]
  | x :: g, q, hn, hs, h => by
    rw [List.nodup_cons] at hn
    have hx := hs x (List.mem_cons_self ..)
    have hp := List.perm_cons_erase hx
    refine hp.trans (List.Perm.cons x (perm_of_sub g (q.erase x) hn.2 (fun y hy => ?_) ?_))
    · exact (List.mem_erase_of_ne (by rintro rfl; exact hn.1 hy)).2 (hs y (List.mem_cons_of_mem _ hy))
    · rw [List.length_erase_of_mem hx]; simp at h; have := List.length_pos_of_mem hx; omega
theorem waitW_eq {w : PWorld} (hm : ∀ j (hj : j < w.runs.length), (w.runs[j]).mail.length ≤ 12) : ∀ i, i ≤ w.runs.length → i ≤ 6 → waitW w i = mailTo w i
  | 0, _, _ => rfl
  | i + 1, h1, h2 => by
    have hi : i < w.runs.length := by omega
    have := hm i hi
    have hl := mailTo_le (w := w) i (fun j hj _ => hm j hj)
    simp only [waitW, mailTo, waitW_eq hm i (by omega) (by omega), List.getElem?_eq_getElem hi, Option.getD_some]
    rw [wrap_i64 (by omega) (by omega)]; omega
theorem fits_ok {w : PWorld} (F : WorldFits w) : WorldOk w := by
  have hm : ∀ j (hj : j < w.runs.length), (w.runs[j]).mail.length ≤ 12 := fun j hj => (F.each j hj).fits.ok.room
  have hs := F.sum
  rw [waitW_eq hm _ (Nat.le_refl _) F.many.2] at hs
  have hml := mailTo_le (w := w) w.runs.length (fun j hj _ => hm j hj)
  have hmany := F.many
  have ht := F.taken
  have hlo := F.lost
  rw [wrap_i64 (x := w.taken + w.lost) (by omega) (by omega), wrap_i64 (by omega) (by omega)] at hs
  have hG : ∀ x ∈ goingL w w.runs.length, x ∈ w.queue := fun x hx => by
    obtain ⟨j, h1, h2, h3⟩ := (goingL_mem w _ x).1 hx
    rw [List.getElem?_eq_getElem h1, Option.getD_some] at h3
    have := (F.each j h1).going h3
    rw [(F.each j h1).id] at this
    rw [h2]; exact this
  have hp := perm_of_sub _ w.queue (goingL_nodup w _) hG (by rw [goingL_length, F.queue]; exact Nat.le_refl _)
  have hq : ∀ x, x ∈ w.queue ↔ ∃ j : Nat, j < w.runs.length ∧ x = j + 1 ∧ (w.runs[j]?.getD default).state = 1 := fun x => by rw [hp.mem_iff, goingL_mem]
  refine ⟨F.safe, F.many, F.now, F.sent, F.taken, F.lost, ⟨hp.nodup_iff.2 (goingL_nodup w _), fun x hx => ?_⟩, fun i hi => ?_, fun q hq2 => ?_, fun a b ha hb => ?_, hs⟩
  · obtain ⟨j, h1, h2, _⟩ := (hq x).1 hx
    omega
  · have R := F.each i hi
    refine ⟨R.fits.ok, R.id, R.fits.at_, ?_, R.fits.wait, fun hst k hk => ?_, R.fits.full⟩
    · rw [hq, R.id]
      constructor
      · rintro ⟨j, h1, h2, h3⟩
        have : j = i := by omega
        subst this
        rw [List.getElem?_eq_getElem h1, Option.getD_some] at h3
        exact h3
      · intro h3
        exact ⟨i, hi, rfl, by rw [List.getElem?_eq_getElem hi, Option.getD_some]; exact h3⟩
    · have := R.fits.others hst k hk
      simp only [aliveC, Bool.and_eq_true, decide_eq_true_eq] at this
      exact ⟨this.1.2, this.2⟩
  · obtain ⟨j, h1, h2, _⟩ := (hq q).1 hq2
    omega
  · have hb' : b < w.runs.length := by omega
    constructor
    · intro h
      have := (F.each a ha).links _ h
      rw [(F.each a ha).id] at this
      have e : ((b : Int) + 1 - 1).toNat = b := by omega
      rw [e, List.getElem?_eq_getElem hb', Option.getD_some] at this
      exact this
    · intro h
      have := (F.each b hb').links _ h
      rw [(F.each b hb').id] at this
      have e : ((a : Int) + 1 - 1).toNat = a := by omega
      rw [e, List.getElem?_eq_getElem ha, Option.getD_some] at this
      exact this
theorem ok_fits {w : PWorld} (W : WorldOk w) : WorldFits w := by
  have hm : ∀ j (hj : j < w.runs.length), (w.runs[j]).mail.length ≤ 12 := fun j hj => (W.each j hj).ok.room
  have hml := mailTo_le (w := w) w.runs.length (fun j hj _ => hm j hj)
  have hs := W.sum
  have hmany := W.many
  have ht := W.taken
  have hlo := W.lost
  have hp : w.queue.Perm (goingL w w.runs.length) := by
    rw [List.perm_ext_iff_of_nodup W.queue.1 (goingL_nodup w _)]
    intro x
    rw [goingL_mem]
    constructor
    · intro hx
      have h1 := W.queue.2 x hx
      have h2 := W.queueTo x hx
      obtain ⟨j, hj⟩ : ∃ j : Nat, x = j + 1 := ⟨(x - 1).toNat, by omega⟩
      have hjl : j < w.runs.length := by omega
      refine ⟨j, hjl, hj, ?_⟩
      rw [List.getElem?_eq_getElem hjl, Option.getD_some]
      refine (W.each j hjl).queue.1 ?_
      rw [(W.each j hjl).id, ← hj]; exact hx
    · rintro ⟨j, h1, h2, h3⟩
      rw [List.getElem?_eq_getElem h1, Option.getD_some] at h3
      have := (W.each j h1).queue.2 h3
      rw [(W.each j h1).id] at this
      rw [h2]; exact this
  refine ⟨W.safe, W.many, W.now, W.sent, W.taken, W.lost, ?_, fun i hi => ?_, by rw [hp.length_eq, goingL_length]⟩
  · rw [waitW_eq hm _ (Nat.le_refl _) W.many.2, wrap_i64 (x := w.taken + w.lost) (by omega) (by omega), wrap_i64 (by omega) (by omega)]
    exact hs
  · have R := W.each i hi
    refine ⟨R.id, ⟨R.ok, R.at_, R.wait, fun hst k hk => ?_, R.full⟩, fun h => R.queue.2 h, fun k hk => ?_⟩
    · have h1 := R.others hst k hk
      have h2 : 1 ≤ k := by
        rcases List.mem_append.1 hk with hk | hk
        · exact (R.ok.links.2 k hk).1
        · exact (R.ok.watched.2 k hk).1
      simp only [aliveC, Bool.and_eq_true, decide_eq_true_eq]
      exact ⟨⟨h2, h1.1⟩, h1.2⟩
    · have hst : w.runs[i].state ≠ 3 := fun e => by rw [(R.ok.ended e).2.1] at hk; cases hk
      have h1 := (R.others hst k (List.mem_append_left _ hk)).1
      have h2 := R.ok.links.2 k hk
      obtain ⟨b, hb⟩ : ∃ b : Nat, k = b + 1 := ⟨(k - 1).toNat, by omega⟩
      have hbl : b < w.runs.length := by omega
      have e : (k - 1).toNat = b := by omega
      rw [e, List.getElem?_eq_getElem hbl, Option.getD_some, R.id]
      have hne : b ≠ i := fun e2 => h2.2.2 (by rw [R.id]; omega)
      rw [hb] at hk
      rcases Nat.lt_or_gt_of_ne hne with h | h
      · exact (W.links i b hi h).1 hk
      · exact (W.links b i hbl h).2 hk
theorem fits_iff (w : PWorld) : WorldFits w ↔ WorldOk w := ⟨fits_ok, ok_fits⟩

variable {h : H}
theorem c_IWorldOk' {c : WorldC} {w : PWorld} {cs : List RunC} (hw : WorldR h w c cs) : Dz.den 51 [.g (encW c)] h = some (.c (.bool (tt (WorldOk w))), h) := by
  rw [c_IWorldOk hw, tt_congr (fits_iff w)]
theorem firstAt_range {α : Type} (p : α → Bool) (xs : List α) : -1 ≤ firstAt p xs ∧ firstAt p xs < xs.length := by
  unfold firstAt
  cases h : xs.findIdx? p with
  | none => simp only; omega
  | some i =>
    rw [List.findIdx?_eq_some_iff_getElem] at h
    obtain ⟨h1, _⟩ := h
    simp only; omega
theorem c_ITurnWhen {c : WorldC} {w : PWorld} {cs : List RunC} (hw : WorldR h w c cs) (id : Int) :
    Dz.den 18 [.g (encW c), .c (.int .i64 id)] h = some (.c (.int .i64 (if tt (WorldOk w) then whenP w id else 0)), h) := by
  refine den_plain rfl Tryz.func18 rfl rfl ?_
  have e1 := c_IWorldOk' hw
  simp at e1
  by_cases h1 : WorldOk w
  rotate_left
  · simp [Tryz.f18, e1, h1]
  have ht : tt (WorldOk w) = true := tt_true.2 h1
  have eq := c_IndexI hw.queue id
  have hr := firstAt_range (fun x => decide (id = x)) w.queue
  have hq := hw.queue.len
  simp [sMost] at hq
  have e2 : firstAt (fun x => decide (id = x)) w.queue = firstAt (fun q => decide (q = id)) w.queue := by congr 1; funext x; rw [decide_eq_decide]; exact eq_comm
  rw [ht]
  simp [Tryz.f18, e1, h1, eq, whenP]
  rw [wrap_i64 (by omega) (by omega), e2]
end Go.Proofs.YtkcfminmojolhaaGreat

/-
  THE LAWS' FUNCTIONS THAT COMPARE: what they answer.
-/
set_option maxRecDepth 8000
namespace Go.Proofs.YtkcfminmojolhaaGreat
open Go.AM
variable {h : H}
@[simp] theorem c_eqVal (a b c d : Int) : Dz.den 129 [.g [.int .i64 a, .int .i64 b], .g [.int .i64 c, .int .i64 d]] h = some (.c (.bool (decide ((⟨a, b⟩ : PVal) = ⟨c, d⟩))), h) := by
  refine den_plain rfl Tryz.func129 rfl rfl ?_
  simp [Tryz.f129]
  grind
theorem eq_take_succ {α : Type} {xs ys : List α} {i : Nat} (hx : i < xs.length) (hy : i < ys.length) : xs.take (i + 1) = ys.take (i + 1) ↔ xs.take i = ys.take i ∧ xs[i] = ys[i] := by
  rw [List.take_succ_eq_append_getElem hx, List.take_succ_eq_append_getElem hy]
  constructor
  · intro h
    have := List.append_inj h (by simp; omega)
    exact ⟨this.1, by simpa using this.2⟩
  · rintro ⟨h1, h2⟩; rw [h1, h2]
theorem ne_of_get {α : Type} {xs ys : List α} {i : Nat} (hx : i < xs.length) (hy : i < ys.length) (h : xs[i] ≠ ys[i]) : xs ≠ ys := by
  rintro rfl; exact h rfl
theorem c_eqIntS {s t : Cell} {xs ys : List Int} (hS : Sl h s 1 encI xs) (hT : Sl h t 1 encI ys) : Dz.den 65 [.c s, .c t] h = some (.c (.bool (decide (xs = ys))), h) := by
  refine den_plain rfl Tryz.func65 rfl rfl ?_
  by_cases hl : xs.length = ys.length
  rotate_left
  · have hl' : ¬ ((xs.length : Int) = ys.length) := by omega
    have hne : ¬ xs = ys := fun e => hl (by rw [e])
    simp [Tryz.f65, hS.lenA, hT.lenA, hl', hne]
  simp [Tryz.f65, hS.lenA, hT.lenA, hl]
  refine count_wp ys.length (fun i => ([.c s, .c t, .c (.bool false), .c (ci i)], [], [], h)) (fun i => xs.take i = ys.take i) rfl (by simp) ?_ ?_
  · intro i hi hP
    have hi' : i < xs.length := by omega
    rw [Wp_body]
    simp [hS.lenA, hi, hi', ixA_nat hS, hS.at, ixA_nat hT, hT.at, wrap_succ (hS.lt hi'), eq_take_succ hi' hi, hP, hl]
    exact ⟨by unfold LexOk; kernel_rfl, fun e => ne_of_get hi' hi e⟩
  · intro hP
    rw [← hl, List.take_length] at hP
    rw [Wp_body]
    simp [hS.lenA, hl]
    rw [hP, hl, List.take_length]
theorem c_eqValS {s t : Cell} {xs ys : List PVal} (hS : Sl h s 2 encV xs) (hT : Sl h t 2 encV ys) : Dz.den 168 [.c s, .c t] h = some (.c (.bool (decide (xs = ys))), h) := by
  refine den_plain rfl Tryz.func168 rfl rfl ?_
  by_cases hl : xs.length = ys.length
  rotate_left
  · have hl' : ¬ ((xs.length : Int) = ys.length) := by omega
    have hne : ¬ xs = ys := fun e => hl (by rw [e])
    simp [Tryz.f168, hS.lenA, hT.lenA, hl', hne]
  simp [Tryz.f168, hS.lenA, hT.lenA, hl]
  refine count_wp ys.length (fun i => ([.c s, .c t, .c (.bool false), .c (ci i)], [], [], h)) (fun i => xs.take i = ys.take i) rfl (by simp) ?_ ?_
  · intro i hi hP
    have hi' : i < xs.length := by omega
    rw [Wp_body]
    simp [hS.lenA, hi, hi', ixA_nat hS, hS.at, ixA_nat hT, hT.at, wrap_succ (hS.lt hi'), eq_take_succ hi' hi, hP, hl]
    exact ⟨by unfold LexOk; kernel_rfl, fun e => ne_of_get hi' hi e⟩
  · intro hP
    rw [← hl, List.take_length] at hP
    rw [Wp_body]
    simp [hS.lenA, hl]
    rw [hP, hl, List.take_length]
theorem c_eqOp (a b : POp) : Dz.den 85 [.g (encO a), .g (encO b)] h = some (.c (.bool (decide (a = b))), h) := by
  refine den_plain rfl Tryz.func85 rfl rfl ?_
  obtain ⟨a1, a2, a3, a4, a5, a6⟩ := a
  obtain ⟨b1, b2, b3, b4, b5, b6⟩ := b
  simp [Tryz.f85]
  grind
theorem c_eqOpS {s t : Cell} {xs ys : List POp} (hS : Sl h s 6 encO xs) (hT : Sl h t 6 encO ys) : Dz.den 33 [.c s, .c t] h = some (.c (.bool (decide (xs = ys))), h) := by
  refine den_plain rfl Tryz.func33 rfl rfl ?_
  by_cases hl : xs.length = ys.length
  rotate_left
  · have hl' : ¬ ((xs.length : Int) = ys.length) := by omega
    have hne : ¬ xs = ys := fun e => hl (by rw [e])
    simp [Tryz.f33, hS.lenA, hT.lenA, hl', hne]
  simp [Tryz.f33, hS.lenA, hT.lenA, hl]
  refine count_wp ys.length (fun i => ([.c s, .c t, .c (.bool false), .c (ci i)], [], [], h)) (fun i => xs.take i = ys.take i) rfl (by simp) ?_ ?_
  · intro i hi hP
    have hi' : i < xs.length := by omega
    have e := c_eqOp (h := h) xs[i] ys[i]
    simp only [encO] at e
    rw [Wp_body]
    simp [hS.lenA, hi, hi', ixA_nat hS, hS.at, ixA_nat hT, hT.at, wrap_succ (hS.lt hi'), eq_take_succ hi' hi, hP, hl, e]
    exact ⟨by unfold LexOk; kernel_rfl, fun e => ne_of_get hi' hi e⟩
  · intro hP
    rw [← hl, List.take_length] at hP
    rw [Wp_body]
    simp [hS.lenA, hl]
    rw [hP, hl, List.take_length]
set_option maxRecDepth 8000 in
theorem c_eqRun {a b : PRun} {c d : RunC} (ha : RunR h a c) (hb : RunR h b d) : Dz.den 117 [.g (encR c), .g (encR d)] h = some (.c (.bool (decide (a = b))), h) := by
  refine den_plain rfl Tryz.func117 rfl rfl ?_
  have e1 := c_eqValS ha.slots hb.slots
  have e2 := c_eqValS ha.mail hb.mail
  have e3 := c_eqIntS ha.links hb.links
  have e4 := c_eqIntS ha.watched hb.watched
  obtain ⟨c1, c2, c3, c4, c5, c6, c7, c8, c9, c10, ⟨c11, c12⟩, c13⟩ := c
  obtain ⟨d1, d2, d3, d4, d5, d6, d7, d8, d9, d10, ⟨d11, d12⟩, d13⟩ := d
  obtain ⟨a1, a2, a3, a4, a5, a6, a7, a8, a9, a10, ⟨a11, a12⟩, a13⟩ := a
  obtain ⟨b1, b2, b3, b4, b5, b6, b7, b8, b9, b10, ⟨b11, b12⟩, b13⟩ := b
  obtain ⟨rfl, rfl, q1, rfl, q2, rfl, rfl, q3, q4, rfl, ew, rfl⟩ := ha
  obtain ⟨rfl, rfl, q5, rfl, q6, rfl, rfl, q7, q8, rfl, ew2, rfl⟩ := hb
  clear q1 q2 q3 q4 q5 q6 q7 q8
  simp only [PVal.mk.injEq] at ew ew2
  obtain ⟨rfl, rfl⟩ := ew
  obtain ⟨rfl, rfl⟩ := ew2
  simp only at e1 e2 e3 e4
  simp +contextual [Tryz.f117, e1, e2, e3, e4]
  grind
theorem c_eqRunS {s t : Cell} {xs ys : List PRun} {cs ds : List RunC} (ha : RunsR h s xs cs) (hb : RunsR h t ys ds) : Dz.den 64 [.c s, .c t] h = some (.c (.bool (decide (xs = ys))), h) := by
  refine den_plain rfl Tryz.func64 rfl rfl ?_
  have hS := ha.sl
  have hT := hb.sl
  have l1 := ha.len
  have l2 := hb.len
  by_cases hl : xs.length = ys.length
  rotate_left
  · have hl' : ¬ ((cs.length : Int) = ds.length) := by omega
    have hne : ¬ xs = ys := fun e => hl (by rw [e])
    simp [Tryz.f64, hS.lenA, hT.lenA, hl', hne]
  have hl' : cs.length = ds.length := by omega
  simp [Tryz.f64, hS.lenA, hT.lenA, hl']
  refine count_wp ds.length (fun i => ([.c s, .c t, .c (.bool false), .c (ci i)], [], [], h)) (fun i => xs.take i = ys.take i) rfl (by simp) ?_ ?_
  · intro i hi hP
    have hi' : i < cs.length := by omega
    have hx : i < xs.length := by omega
    have hy : i < ys.length := by omega
    have e := c_eqRun (ha.each i hx) (hb.each i hy)
    simp only [encR] at e
    rw [Wp_body]
    simp [hS.lenA, hi, hi', ixA_nat hS, hS.at, ixA_nat hT, hT.at, wrap_succ (hS.lt hi'), eq_take_succ hx hy, hP, hl', e]
    exact ⟨by unfold LexOk; kernel_rfl, fun e => ne_of_get hx hy e⟩
  · intro hP
    rw [List.take_of_length_le (by omega), List.take_of_length_le (by omega)] at hP
    rw [Wp_body]
    simp [hS.lenA, hl']
    exact hP
set_option maxRecDepth 8000 in
theorem c_eqWorld {a b : PWorld} {c d : WorldC} {cs ds : List RunC} (ha : WorldR h a c cs) (hb : WorldR h b d ds) : Dz.den 19 [.g (encW c), .g (encW d)] h = some (.c (.bool (decide (a = b))), h) := by
  refine den_plain rfl Tryz.func19 rfl rfl ?_
  have e1 := c_eqOpS ha.code hb.code
  have e2 := c_eqRunS ha.runs hb.runs
  have e3 := c_eqIntS ha.queue hb.queue
  obtain ⟨c1, c2, c3, c4, c5, c6, c7⟩ := c
  obtain ⟨d1, d2, d3, d4, d5, d6, d7⟩ := d
  obtain ⟨a1, a2, a3, a4, a5, a6, a7⟩ := a
  obtain ⟨b1, b2, b3, b4, b5, b6, b7⟩ := b
  obtain ⟨q1, q2, q3, rfl, rfl, rfl, rfl⟩ := ha
  obtain ⟨q5, q6, q7, rfl, rfl, rfl, rfl⟩ := hb
  clear q1 q2 q3 q5 q6 q7
  simp only at e1 e2 e3
  simp +contextual [Tryz.f19, e1, e2, e3]
end Go.Proofs.YtkcfminmojolhaaGreat

/-
  THE LAWS' FUNCTIONS THAT MEASURE AND COPY: what they answer.
-/
set_option maxRecDepth 8000
namespace Go.Proofs.YtkcfminmojolhaaGreat
open Go.AM
variable {h : H}
/-- Cells that came in bear a run, a row of runs, a world. -/
structure RunA (h : H) (r : PRun) (c : RunC) : Prop where
  id : c.id = r.id
  at_ : c.at_ = r.at_
  slots : SlA h c.slots 2 encV r.slots
  full : c.full = r.full
  mail : SlA h c.mail 2 encV r.mail
  state : c.state = r.state
  due : c.due = r.due
  links : SlA h c.links 1 encI r.links
  watched : SlA h c.watched 1 encI r.watched
  trap : c.trap = r.trap
  why : c.why = r.why
  turns : c.turns = r.turns
structure RunsA (h : H) (s : Cell) (rs : List PRun) (cs : List RunC) : Prop where
  sl : SlA h s 13 encR cs
  len : cs.length = rs.length
  each : ∀ i (hi : i < rs.length), RunA h rs[i] (cs[i]'(by omega))
structure WorldA (h : H) (w : PWorld) (c : WorldC) (cs : List RunC) : Prop where
  code : SlA h c.code 6 encO w.code
  runs : RunsA h c.runs w.runs cs
  queue : SlA h c.queue 1 encI w.queue
  now : c.now = w.now
  sent : c.sent = w.sent
  taken : c.taken = w.taken
  lost : c.lost = w.lost
theorem RunA.ext {r : PRun} {c : RunC} {h h' : H} (hr : RunA h r c) (x : Ext h h') : RunA h' r c := ⟨hr.id, hr.at_, hr.slots.ext x, hr.full, hr.mail.ext x, hr.state, hr.due, hr.links.ext x, hr.watched.ext x, hr.trap, hr.why, hr.turns⟩
theorem RunsA.ext {s : Cell} {rs : List PRun} {cs : List RunC} {h h' : H} (hr : RunsA h s rs cs) (x : Ext h h') : RunsA h' s rs cs := ⟨hr.sl.ext x, hr.len, fun i hi => (hr.each i hi).ext x⟩
theorem WorldA.ext {c : WorldC} {w : PWorld} {cs : List RunC} {h h' : H} (hw : WorldA h w c cs) (x : Ext h h') : WorldA h' w c cs := ⟨hw.code.ext x, hw.runs.ext x, hw.queue.ext x, hw.now, hw.sent, hw.taken, hw.lost⟩
theorem WorldA.push {c : WorldC} {w : PWorld} {cs : List RunC} {h : H} (hw : WorldA h w c cs) (b : Blk) : WorldA (h.push b) w c cs := hw.ext (Ext.push h b)
/-- What is left after so many; -1 if too many. -/
def leftI (n : Nat) (left : Int) : Int := if left - n < 0 then -1 else left - n
theorem leftI_ge {n : Nat} {left : Int} (h : 0 ≤ leftI n left) : leftI n left ≤ left ∧ (n : Int) ≤ left := by unfold leftI at *; split at h <;> split <;> omega
theorem c_szOpS {s : Cell} {xs : List POp} (hS : SlA h s 6 encO xs) (left : Int) (h0 : 0 ≤ left) (h1 : left ≤ 1048576) : Dz.den 27 [.c s, .c (.int .i64 left)] h = some (.c (.int .i64 (leftI xs.length left)), h) := by
  refine den_plain rfl Tryz.func27 rfl rfl ?_
  have := hS.len
  simp [sMost] at this
  have w : IntKind.i64.wrap (left - xs.length) = left - xs.length := wrap_i64 (by omega) (by omega)
  by_cases hn : left < xs.length
  · have : left - (xs.length : Int) < 0 := by omega
    simp [Tryz.f27, hS.lenA, w, leftI, this]
  · have : ¬ left - (xs.length : Int) < 0 := by omega
    simp [Tryz.f27, hS.lenA, w, leftI, this]
theorem c_szValS {s : Cell} {xs : List PVal} (hS : SlA h s 2 encV xs) (left : Int) (h0 : 0 ≤ left) (h1 : left ≤ 1048576) : Dz.den 166 [.c s, .c (.int .i64 left)] h = some (.c (.int .i64 (leftI xs.length left)), h) := by
  refine den_plain rfl Tryz.func166 rfl rfl ?_
  have := hS.len
  simp [sMost] at this
  have w : IntKind.i64.wrap (left - xs.length) = left - xs.length := wrap_i64 (by omega) (by omega)
  by_cases hn : left < xs.length
  · have : left - (xs.length : Int) < 0 := by omega
    simp [Tryz.f166, hS.lenA, w, leftI, this]
  · have : ¬ left - (xs.length : Int) < 0 := by omega
    simp [Tryz.f166, hS.lenA, w, leftI, this]
theorem c_szIntS {s : Cell} {xs : List Int} (hS : SlA h s 1 encI xs) (left : Int) (h0 : 0 ≤ left) (h1 : left ≤ 1048576) : Dz.den 60 [.c s, .c (.int .i64 left)] h = some (.c (.int .i64 (leftI xs.length left)), h) := by
  refine den_plain rfl Tryz.func60 rfl rfl ?_
  have := hS.len
  simp [sMost] at this
  have w : IntKind.i64.wrap (left - xs.length) = left - xs.length := wrap_i64 (by omega) (by omega)
  by_cases hn : left < xs.length
  · have : left - (xs.length : Int) < 0 := by omega
    simp [Tryz.f60, hS.lenA, w, leftI, this]
  · have : ¬ left - (xs.length : Int) < 0 := by omega
    simp [Tryz.f60, hS.lenA, w, leftI, this]
/-- What is left, or too much is there. -/
def leftR (r : PRun) (left : Int) : Int :=
  let a := leftI r.slots.length left
  if a < 0 then -1 else let b := leftI r.mail.length a
  if b < 0 then -1 else let c := leftI r.links.length b
  if c < 0 then -1 else let d := leftI r.watched.length c
  if d < 0 then -1 else d
/-- No list of a run is longer. -/
def RunSmall (n : Int) (r : PRun) : Prop := (r.slots.length : Int) ≤ n ∧ (r.mail.length : Int) ≤ n ∧ (r.links.length : Int) ≤ n ∧ (r.watched.length : Int) ≤ n
theorem RunSmall.mono {a b : Int} {r : PRun} (h : RunSmall a r) (hab : a ≤ b) : RunSmall b r := ⟨by have := h.1; omega, by have := h.2.1; omega, by have := h.2.2.1; omega, by have := h.2.2.2; omega⟩
theorem leftR_ge {r : PRun} {left : Int} (h : 0 ≤ leftR r left) : leftR r left ≤ left ∧ RunSmall left r := by
  unfold leftR at h ⊢
  simp only at h ⊢
  split at h
  · omega
  rename_i a0
  have a := leftI_ge (show 0 ≤ leftI r.slots.length left by omega)
  split at h
  · omega
  rename_i b0
  have b := leftI_ge (show 0 ≤ leftI r.mail.length (leftI r.slots.length left) by omega)
  split at h
  · omega
  rename_i c0
  have c := leftI_ge (show 0 ≤ leftI r.links.length (leftI r.mail.length (leftI r.slots.length left)) by omega)
  split at h
  · omega
  rename_i d0
  have d := leftI_ge (show 0 ≤ leftI r.watched.length (leftI r.links.length (leftI r.mail.length (leftI r.slots.length left))) by omega)
  rw [if_neg a0, if_neg b0, if_neg c0, if_neg d0]
  exact ⟨by omega, by omega, by omega, by omega, by omega⟩
theorem c_szRun {r : PRun} {c : RunC} (hr : RunA h r c) (left : Int) (h0 : 0 ≤ left) (h1 : left ≤ 1048576) : Dz.den 115 [.g (encR c), .c (.int .i64 left)] h = some (.c (.int .i64 (leftR r left)), h) := by
  refine den_plain rfl Tryz.func115 rfl rfl ?_
  have e1 := c_szValS hr.slots left h0 h1
  unfold leftR
  by_cases a0 : leftI r.slots.length left < 0
  · simp [Tryz.f115, e1, a0]
  have a := leftI_ge (show 0 ≤ leftI r.slots.length left by omega)
  have e2 := c_szValS hr.mail _ (show 0 ≤ leftI r.slots.length left by omega) (by omega)
  by_cases b0 : leftI r.mail.length (leftI r.slots.length left) < 0
  · simp [Tryz.f115, e1, a0, e2, b0]
  have b := leftI_ge (show 0 ≤ leftI r.mail.length (leftI r.slots.length left) by omega)
  have e3 := c_szIntS hr.links _ (show 0 ≤ leftI r.mail.length (leftI r.slots.length left) by omega) (by omega)
  by_cases c0 : leftI r.links.length (leftI r.mail.length (leftI r.slots.length left)) < 0
  · simp [Tryz.f115, e1, a0, e2, b0, e3, c0]
  have c := leftI_ge (show 0 ≤ leftI r.links.length (leftI r.mail.length (leftI r.slots.length left)) by omega)
  have e4 := c_szIntS hr.watched _ (show 0 ≤ leftI r.links.length (leftI r.mail.length (leftI r.slots.length left)) by omega) (by omega)
  by_cases d0 : leftI r.watched.length (leftI r.links.length (leftI r.mail.length (leftI r.slots.length left))) < 0
  · simp [Tryz.f115, e1, a0, e2, b0, e3, c0, e4, d0]
  simp [Tryz.f115, e1, a0, e2, b0, e3, c0, e4, d0]
def SzQ (P : Int → Prop) (h : H) (r : V × H) : Prop := ∃ z, r = (.c (.int .i64 z), h) ∧ (0 ≤ z → P z)
theorem c_szRunS {s : Cell} {rs : List PRun} {cs : List RunC} (hR : RunsA h s rs cs) (left : Int) (h0 : 0 ≤ left) (h1 : left ≤ 1048576) :
    @Wp _ (Dz.den 59 [.c s, .c (.int .i64 left)] h) ⟨SzQ (fun z => z ≤ left ∧ (rs.length : Int) ≤ left ∧ ∀ r ∈ rs, RunSmall left r) h⟩ := by
  have key : @Wp _ (Dz.den 59 [.c s, .c (.int .i64 left)] h) ⟨fun r => (∃ z : Int, r.1 = .c (.int .i64 z) ∧ (0 ≤ z → z ≤ left ∧ (rs.length : Int) ≤ left ∧ ∀ r ∈ rs, RunSmall left r)) ∧ r.2 = h⟩ := by
    refine den_plainQ (Q := fun r => ∃ z : Int, r = .c (.int .i64 z) ∧ (0 ≤ z → z ≤ left ∧ (rs.length : Int) ≤ left ∧ ∀ r ∈ rs, RunSmall left r)) rfl Tryz.func59 rfl ?_
    have hS := hR.sl
    have hl := hR.len
    have hlen := hS.len
    simp [sMost] at hlen
    have w : IntKind.i64.wrap (left - cs.length) = left - cs.length := wrap_i64 (by omega) (by omega)
    by_cases hn : left < cs.length
    · have : left - (cs.length : Int) < 0 := by omega
      simp [Tryz.f59, hS.lenA, w, this]
    have hn2 : ¬ left - (cs.length : Int) < 0 := by omega
    simp [Tryz.f59, hS.lenA, w, hn2]
    refine count_wpG (σ := Int) cs.length (fun i z => ([.c s, .c (ci z), .c (ci 0), .c (ci i)], [], [], h)) (fun i z => (0 ≤ z ∧ z ≤ left) ∧ AllTo rs i (RunSmall left)) (left - cs.length) rfl ⟨⟨by omega, by omega⟩, by simp⟩ ?_ ?_
    · rintro i z hi ⟨⟨z0, z1⟩, hA⟩
      have hi' : i < rs.length := by omega
      have e := c_szRun (hR.each i hi') z z0 (by omega)
      simp only [encR] at e
      rw [Wp_body]
      by_cases hz : leftR rs[i] z < 0
      · simp [hS.lenA, hi, ixA_natA hS, hS.at, e, hz]
      · have hz2 := leftR_ge (show 0 ≤ leftR rs[i] z by omega)
        simp [hS.lenA, hi, ixA_natA hS, hS.at, e, hz, wrap_succ (hS.lt hi)]
        exact ⟨⟨by omega, by omega⟩, (allTo_succ hi').2 ⟨hA, hz2.2.mono z1⟩⟩
    · rintro z ⟨⟨z0, z1⟩, hA⟩
      rw [Wp_body]
      simp [hS.lenA]
      rw [hl, allTo_len] at hA
      exact fun _ => ⟨z1, by omega, hA⟩
  obtain ⟨⟨v, k⟩, e, ⟨z, h2, h3⟩, h4⟩ := key
  simp only at h2 h4
  subst h2; subst h4
  exact ⟨_, e, z, rfl, h3⟩
structure WorldSmall (n : Int) (w : PWorld) : Prop where
  code : (w.code.length : Int) ≤ n
  runs : (w.runs.length : Int) ≤ n
  queue : (w.queue.length : Int) ≤ n
  each : ∀ r ∈ w.runs, RunSmall n r
theorem c_szWorld {w : PWorld} {c : WorldC} {cs : List RunC} (hw : WorldA h w c cs) (left : Int) (h0 : 0 ≤ left) (h1 : left ≤ 1048576) :
    @Wp _ (Dz.den 15 [.g (encW c), .c (.int .i64 left)] h) ⟨SzQ (fun z => z ≤ left ∧ WorldSmall left w) h⟩ := by
  have key : @Wp _ (Dz.den 15 [.g (encW c), .c (.int .i64 left)] h) ⟨fun r => (∃ z : Int, r.1 = .c (.int .i64 z) ∧ (0 ≤ z → z ≤ left ∧ WorldSmall left w)) ∧ r.2 = h⟩ := by
    refine den_plainQ (Q := fun r => ∃ z : Int, r = .c (.int .i64 z) ∧ (0 ≤ z → z ≤ left ∧ WorldSmall left w)) rfl Tryz.func15 rfl ?_
    have e1 := c_szOpS hw.code left h0 h1
    by_cases a0 : leftI w.code.length left < 0
    · simp [Tryz.f15, e1, a0]
    have a := leftI_ge (show 0 ≤ leftI w.code.length left by omega)
    obtain ⟨_, e2, z, rfl, hz⟩ := c_szRunS hw.runs (leftI w.code.length left) (by omega) (by omega)
    by_cases b0 : z < 0
    · simp [Tryz.f15, e1, a0, e2, b0]
    have b := hz (by omega)
    have e3 := c_szIntS hw.queue z (by omega) (by omega)
    by_cases c0 : leftI w.queue.length z < 0
    · simp [Tryz.f15, e1, a0, e2, b0, e3, c0]
    have c := leftI_ge (show 0 ≤ leftI w.queue.length z by omega)
    simp [Tryz.f15, e1, a0, e2, b0, e3, c0]
    exact fun _ => ⟨by omega, ⟨by omega, by omega, by omega, fun r hr => (b.2.2 r hr).mono (by omega)⟩⟩
  obtain ⟨⟨v, k⟩, e, ⟨z, h2, h3⟩, h4⟩ := key
  simp only at h2 h4
  subst h2; subst h4
  exact ⟨_, e, z, rfl, h3⟩
@[simp] theorem c_toVal (k n : Int) : Dz.den 78 [.g [.int .i64 k, .int .i64 n]] h = some (.g [.int .i64 k, .int .i64 n], h) := by
  refine den_plain rfl Tryz.func78 rfl rfl ?_
  simp [Tryz.f78]
theorem c_toOp (o : POp) : Dz.den 83 [.g (encO o)] h = some (.g (encO o), h) := by
  refine den_plain rfl Tryz.func83 rfl rfl ?_
  simp [Tryz.f83]
/-- A row that is filled from its beginning. -/
def fillTo {α : Type} (enc : α → List Cell) (z : List Cell) (xs : List α) (i : Nat) : List (List Cell) := (xs.take i).map enc ++ List.replicate (xs.length - i) z
theorem fillTo_zero {α : Type} (enc : α → List Cell) (z : List Cell) (xs : List α) : fillTo enc z xs 0 = List.replicate xs.length z := by simp [fillTo]
theorem fillTo_len {α : Type} (enc : α → List Cell) (z : List Cell) (xs : List α) : fillTo enc z xs xs.length = xs.map enc := by simp [fillTo]
theorem fillTo_set {α : Type} (enc : α → List Cell) (z : List Cell) {xs : List α} {i : Nat} (hi : i < xs.length) : (fillTo enc z xs i).set i (enc xs[i]) = fillTo enc z xs (i + 1) := by
  unfold fillTo
  rw [List.take_succ_eq_append_getElem hi, List.map_append, List.set_append_right _ _ (by simp; omega)]
  have e : xs.length - i = (xs.length - (i + 1)) + 1 := by omega
  rw [e, List.replicate_succ]
  have e2 : i - (List.map enc (List.take i xs)).length = 0 := by simp; omega
  rw [e2]; simp
theorem fillTo_get {α : Type} (enc : α → List Cell) (z : List Cell) {xs : List α} {i : Nat} (hi : i < xs.length) : (fillTo enc z xs i)[i]? = some z := by
  unfold fillTo
  rw [List.getElem?_append_right (by simp; omega)]
  have e2 : i - (List.map enc (List.take i xs)).length = 0 := by simp; omega
  rw [e2, List.getElem?_replicate, if_pos (by omega)]
theorem write_fill {h : H} {id es : Nat} {α : Type} {enc : α → List Cell} {z : List Cell} {xs : List α} {i : Nat} (hg : h.get id = some ⟨false, es, fillTo enc z xs i⟩) (hi : i < xs.length) (hz : z.length = (enc xs[i]).length) :
    h.write id i 0 (enc xs[i]) = some (h.set id (some ⟨false, es, fillTo enc z xs (i + 1)⟩)) := by
  simp only [H.write, hg, fillTo_get enc z hi]
  simp [hz, splice]
  rw [List.drop_of_length_le (by omega), List.append_nil, fillTo_set enc z hi]
theorem c_toIntS {s : Cell} {xs : List Int} (hS : SlA h s 1 encI xs) (hl : xs.length ≤ 1048576) : Dz.den 62 [.c s] h = some (.c (.sl h.length 0 xs.length none), h.push ⟨false, 1, xs.map encI⟩) := by
  rw [← Wp_eq]
  refine den_wp rfl Tryz.func62 rfl ?_
  have hl2 : (xs.length : Int) ≤ 4294967296 := by omega
  simp [Tryz.f62, hS.lenA, hl2]
  refine count_wp xs.length (fun i => ([.c s, .c .nils, .c (.sl h.length 0 xs.length none), .c (ci i)], [], [], h.push ⟨false, 1, fillTo encI [.int .i64 0] xs i⟩)) (fun i => True) (by simp [fillTo_zero]) trivial ?_ ?_
  · intro i hi _
    have hS' := hS.push ⟨false, 1, fillTo encI [.int .i64 0] xs i⟩
    have hW := write_fill (h := h.push ⟨false, 1, fillTo encI [.int .i64 0] xs i⟩) get_push_self hi rfl
    rw [set_push] at hW
    simp only [encI] at hW
    rw [Wp_body]
    simp [hS'.lenA, hi, ixA_natA hS', hS'.at, hW, wrap_succ (hS.lt hi)]
  · intro _
    have hS' := hS.push ⟨false, 1, fillTo encI [.int .i64 0] xs xs.length⟩
    rw [Wp_body]
    simp [hS'.lenA, fillTo_len]
theorem c_toValS {s : Cell} {xs : List PVal} (hS : SlA h s 2 encV xs) (hl : xs.length ≤ 1048576) : Dz.den 167 [.c s] h = some (.c (.sl h.length 0 xs.length none), h.push ⟨false, 2, xs.map encV⟩) := by
  rw [← Wp_eq]
  refine den_wp rfl Tryz.func167 rfl ?_
  have hl2 : (xs.length : Int) ≤ 4294967296 := by omega
  simp [Tryz.f167, hS.lenA, hl2]
  refine count_wp xs.length (fun i => ([.c s, .c .nils, .c (.sl h.length 0 xs.length none), .c (ci i)], [], [], h.push ⟨false, 2, fillTo encV [.int .i64 0, .int .i64 0] xs i⟩)) (fun i => True) (by simp [fillTo_zero]) trivial ?_ ?_
  · intro i hi _
    have hS' := hS.push ⟨false, 2, fillTo encV [.int .i64 0, .int .i64 0] xs i⟩
    have hW := write_fill (h := h.push ⟨false, 2, fillTo encV [.int .i64 0, .int .i64 0] xs i⟩) get_push_self hi rfl
    rw [set_push] at hW
    simp only [encV] at hW
    rw [Wp_body]
    simp [hS'.lenA, hi, ixA_natA hS', hS'.at, hW, wrap_succ (hS.lt hi)]
  · intro _
    have hS' := hS.push ⟨false, 2, fillTo encV [.int .i64 0, .int .i64 0] xs xs.length⟩
    rw [Wp_body]
    simp [hS'.lenA, fillTo_len]
theorem c_toOpS {s : Cell} {xs : List POp} (hS : SlA h s 6 encO xs) (hl : xs.length ≤ 1048576) : Dz.den 30 [.c s] h = some (.c (.sl h.length 0 xs.length none), h.push ⟨false, 6, xs.map encO⟩) := by
  rw [← Wp_eq]
  refine den_wp rfl Tryz.func30 rfl ?_
  have hl2 : (xs.length : Int) ≤ 4294967296 := by omega
  simp [Tryz.f30, hS.lenA, hl2]
  refine count_wp xs.length (fun i => ([.c s, .c .nils, .c (.sl h.length 0 xs.length none), .c (ci i)], [], [], h.push ⟨false, 6, fillTo encO [.int .i64 0, .int .i64 0, .int .i64 0, .int .i64 0, .int .i64 0, .int .i64 0] xs i⟩)) (fun i => True) (by simp [fillTo_zero]) trivial ?_ ?_
  · intro i hi _
    have hS' := hS.push ⟨false, 6, fillTo encO [.int .i64 0, .int .i64 0, .int .i64 0, .int .i64 0, .int .i64 0, .int .i64 0] xs i⟩
    have hW := write_fill (h := h.push ⟨false, 6, fillTo encO [.int .i64 0, .int .i64 0, .int .i64 0, .int .i64 0, .int .i64 0, .int .i64 0] xs i⟩) get_push_self hi rfl
    have e := c_toOp (h := h.push ⟨false, 6, fillTo encO [.int .i64 0, .int .i64 0, .int .i64 0, .int .i64 0, .int .i64 0, .int .i64 0] xs i⟩) xs[i]
    rw [set_push] at hW
    simp only [encO] at hW e
    rw [Wp_body]
    simp [hS'.lenA, hi, ixA_natA hS', hS'.at, hW, wrap_succ (hS.lt hi), e]
  · intro _
    have hS' := hS.push ⟨false, 6, fillTo encO [.int .i64 0, .int .i64 0, .int .i64 0, .int .i64 0, .int .i64 0, .int .i64 0] xs xs.length⟩
    rw [Wp_body]
    simp [hS'.lenA, fillTo_len]
end Go.Proofs.YtkcfminmojolhaaGreat
