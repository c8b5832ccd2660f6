/-
  What functions of the seat answer, each proved once; each under the condition that cells bear what it is given, as its statement says.
-/
import Derived.Test.YtkcfminmojolhaaGreatWalk9
import Derived.Test.YtkcfminmojolhaaGreatWalk7
set_option linter.all false
/-
  WORLDS IN PLAIN DATA: what holds of a world between any two changes; giving keeps it.
-/
set_option maxRecDepth 8000
namespace Go.Proofs.YtkcfminmojolhaaGreat
open Go.AM
variable {w : PWorld}
/-- A run fits steps, a time, and so many runs. -/
structure RunI (code : List POp) (now : Int) (n : Nat) (i : Nat) (r : PRun) : Prop where
  ok : RunOk r
  id : r.id = i + 1
  at_ : r.at_ < code.length
  wait : r.state = 2 → ((code[r.at_.toNat]?.getD default).kind = 7 ∧ r.due = 0 ∨ (code[r.at_.toNat]?.getD default).kind = 8 ∧ now < r.due) ∧ firstAt (fits (code[r.at_.toNat]?.getD default).s) r.mail < 0
  full : r.state ≠ 3 → 0 ≤ (fullR code)[r.at_.toNat]?.getD 0 ∧ both ((fullR code)[r.at_.toNat]?.getD 0) r.full = (fullR code)[r.at_.toNat]?.getD 0
  links : ∀ k ∈ r.links, k ≤ n
  watched : ∀ k ∈ r.watched, k ≤ n
def mailSum (rs : List PRun) : Int := (rs.map fun r => (r.mail.length : Int)).sum
/-- Whose turn may come. -/
def Going (rs : List PRun) (q : Int) : Prop := ∃ i : Nat, q = i + 1 ∧ ∃ r, rs[i]? = some r ∧ r.state = 1
structure Inv (w : PWorld) : Prop where
  safe : CodeSafe w.code
  many : 1 ≤ w.runs.length ∧ w.runs.length ≤ 6
  now : 0 ≤ w.now ∧ w.now ≤ 300
  nn : 0 ≤ w.sent ∧ 0 ≤ w.taken ∧ 0 ≤ w.lost
  queue : w.queue.Nodup
  mem : ∀ q, q ∈ w.queue ↔ Going w.runs q
  each : ∀ i r, w.runs[i]? = some r → RunI w.code w.now w.runs.length i r
  sum : w.sent = w.taken + w.lost + mailSum w.runs
theorem mailSum_set : ∀ {rs : List PRun} {i : Nat} {r r' : PRun}, rs[i]? = some r → mailSum (rs.set i r') = mailSum rs + r'.mail.length - r.mail.length
  | [], i, r, r', h => by simp at h
  | a :: rs, 0, r, r', h => by simp at h; subst h; simp [mailSum]; omega
  | a :: rs, i + 1, r, r', h => by
    have ih := mailSum_set (rs := rs) (i := i) (r' := r') (by simpa using h)
    simp only [mailSum, List.set_cons_succ, List.map_cons, List.sum_cons] at ih ⊢
    omega
theorem mailSum_nn : ∀ (rs : List PRun), 0 ≤ mailSum rs
  | [] => by simp [mailSum]
  | a :: rs => by have := mailSum_nn rs; simp only [mailSum, List.map_cons, List.sum_cons] at this ⊢; omega
theorem mailSum_app (a b : List PRun) : mailSum (a ++ b) = mailSum a + mailSum b := by simp [mailSum]
theorem mailTo_sum (w : PWorld) : ∀ i, i ≤ w.runs.length → (mailTo w i : Int) = mailSum (w.runs.take i)
  | 0, _ => by simp [mailTo, mailSum]
  | i + 1, h => by
    have ih := mailTo_sum w i (by omega)
    rw [List.take_succ_eq_append_getElem (by omega), mailSum_app]
    simp only [mailTo, mailSum, List.map_cons, List.map_nil, List.sum_cons, List.sum_nil] at ih ⊢
    rw [List.getElem?_eq_getElem (by omega), Option.getD_some]
    omega
theorem RunI.more {code : List POp} {now : Int} {n m i : Nat} {r : PRun} (h : RunI code now n i r) (hn : n ≤ m) : RunI code now m i r :=
  ⟨h.ok, h.id, h.at_, h.wait, h.full, fun k hk => by have := h.links k hk; omega, fun k hk => by have := h.watched k hk; omega⟩
/-- One run is otherwise. -/
theorem Inv.upd (I : Inv w) {i : Nat} {r r' : PRun} (hi : w.runs[i]? = some r) {q' : List Int} {s t l : Int} (hr : RunI w.code w.now w.runs.length i r') (hq : q'.Nodup)
    (hm : ∀ x, x ∈ q' ↔ (x ∈ w.queue ∧ x ≠ i + 1) ∨ (x = i + 1 ∧ r'.state = 1)) (hnn : 0 ≤ s ∧ 0 ≤ t ∧ 0 ≤ l) (hs : s - t - l = w.sent - w.taken - w.lost + r'.mail.length - r.mail.length) :
    Inv { w with runs := w.runs.set i r', queue := q', sent := s, taken := t, lost := l } := by
  have hl : i < w.runs.length := (List.getElem?_eq_some_iff.1 hi).1
  refine ⟨I.safe, by simpa using I.many, I.now, hnn, hq, fun x => ?_, fun j a ha => ?_, ?_⟩
  · rw [hm, I.mem]
    constructor
    · rintro (⟨⟨j, rfl, b, hb, hb1⟩, hne⟩ | ⟨rfl, h1⟩)
      · exact ⟨j, rfl, b, by rw [List.getElem?_set_ne (by omega)]; exact hb, hb1⟩
      · exact ⟨i, rfl, r', by simp [hl], h1⟩
    · rintro ⟨j, rfl, b, hb, hb1⟩
      by_cases hj : i = j
      · subst hj
        simp [hl] at hb; subst hb
        exact .inr ⟨rfl, hb1⟩
      · rw [List.getElem?_set_ne hj] at hb
        exact .inl ⟨⟨j, rfl, b, hb, hb1⟩, by omega⟩
  · simp only [List.length_set] at ha ⊢
    by_cases hj : i = j
    · subst hj
      simp [hl] at ha; subst ha; exact hr
    · rw [List.getElem?_set_ne hj] at ha
      exact I.each j a ha
  · have := mailSum_set (r' := r') hi
    have hS := I.sum
    simp only
    omega
theorem Inv.run_mem (I : Inv w) {i : Nat} {r : PRun} (hi : w.runs[i]? = some r) : (i : Int) + 1 ∈ w.queue ↔ r.state = 1 := by
  rw [I.mem]
  constructor
  · rintro ⟨j, hj, b, hb, h1⟩
    have : i = j := by omega
    subst this; rw [hi] at hb; cases hb; exact h1
  · intro h; exact ⟨i, rfl, r, hi, h⟩
/-- The queue stays. -/
theorem Inv.q_same (I : Inv w) {i : Nat} {r r' : PRun} (hi : w.runs[i]? = some r) (h : r'.state = 1 ↔ r.state = 1) : ∀ x, x ∈ w.queue ↔ (x ∈ w.queue ∧ x ≠ i + 1) ∨ (x = i + 1 ∧ r'.state = 1) := fun x => by
  by_cases hx : x = i + 1
  · subst hx; rw [I.run_mem hi, h]; simp
  · simp [hx]
theorem Inv.q_app (I : Inv w) {i : Nat} {r r' : PRun} (hi : w.runs[i]? = some r) (h : r.state ≠ 1) (h' : r'.state = 1) : (w.queue ++ [(i : Int) + 1]).Nodup ∧ ∀ x, x ∈ w.queue ++ [(i : Int) + 1] ↔ (x ∈ w.queue ∧ x ≠ i + 1) ∨ (x = i + 1 ∧ r'.state = 1) := by
  have hn : ¬ (i : Int) + 1 ∈ w.queue := by rw [I.run_mem hi]; exact h
  refine ⟨List.nodup_append.2 ⟨I.queue, by simp, fun a ha b hb => by simp at hb; subst hb; intro e; subst e; exact hn ha⟩, fun x => ?_⟩
  simp only [List.mem_append, List.mem_singleton, h', and_true]
  constructor
  · rintro (hx | hx)
    · exact .inl ⟨hx, fun e => by subst e; exact hn hx⟩
    · exact .inr hx
  · rintro (hx | hx)
    · exact .inl hx.1
    · exact .inr hx
theorem mem_less {xs : List Int} {n x : Int} : x ∈ less xs n ↔ x ∈ xs ∧ x ≠ n := by simp [less]
theorem less_nodup {xs : List Int} {n : Int} (h : xs.Nodup) : (less xs n).Nodup := h.filter _
theorem Inv.q_less (I : Inv w) {i : Nat} {r' : PRun} (h' : r'.state ≠ 1) : (less w.queue (i + 1)).Nodup ∧ ∀ x, x ∈ less w.queue ((i : Int) + 1) ↔ (x ∈ w.queue ∧ x ≠ i + 1) ∨ (x = i + 1 ∧ r'.state = 1) :=
  ⟨less_nodup I.queue, fun x => by simp [mem_less, h']⟩
theorem Inv.run (I : Inv w) {id : Int} (h : 1 ≤ id ∧ id ≤ w.runs.length) : ∃ i : Nat, id = i + 1 ∧ (id - 1).toNat = i ∧ i < w.runs.length ∧ w.runs[i]? = some (runAt w id) ∧ RunI w.code w.now w.runs.length i (runAt w id) := by
  obtain ⟨i, e, hi, er, ei⟩ := runAt_eq h
  have hg : w.runs[i]? = some (runAt w id) := by rw [er]; exact List.getElem?_eq_getElem hi
  exact ⟨i, e, ei, hi, hg, I.each i _ hg⟩
theorem firstAt_app {α : Type} {p : α → Bool} {xs : List α} {v : α} (h : firstAt p xs < 0) (hv : p v = false) : firstAt p (xs ++ [v]) < 0 := by
  rw [firstAt_none]
  · omega
  · intro x hx
    have h0 : ∀ x ∈ xs, p x = false := by
      intro y hy
      unfold firstAt at h
      cases hf : xs.findIdx? p with
      | none => exact List.findIdx?_eq_none_iff.1 hf y hy
      | some i => rw [hf] at h; simp only at h; omega
    rcases List.mem_append.1 hx with hx | hx
    · exact h0 x hx
    · simp at hx; subst hx; exact hv
theorem Inv.at_nn (I : Inv w) {i : Nat} {r : PRun} (hi : w.runs[i]? = some r) : 0 ≤ r.at_ := (I.each i r hi).ok.at_.1
/-- Giving keeps it. -/
theorem Inv.give (I : Inv w) (id : Int) {v : PVal} (hv : valOk v = true) : Inv (giveP w id v) ∧ (giveP w id v).sent = w.sent + 1 := by
  obtain ⟨n1, n2, n3⟩ := I.nn
  unfold giveP
  split
  · rename_i k
    obtain ⟨i, rfl, ei, hl, hg, R⟩ := I.run k.1
    obtain ⟨_, k2, k3⟩ := k
    generalize runAt w (↑i + 1) = r at *
    rw [ei]
    split
    · rename_i f
      obtain ⟨f1, f2⟩ := f
      have Q := I.q_app (r' := { r with mail := r.mail ++ [v], state := 1 }) hg (by rw [f1]; decide) rfl
      refine ⟨I.upd (s := w.sent + 1) (t := w.taken) (l := w.lost) hg ⟨⟨R.ok.id, R.ok.at_, R.ok.len, R.ok.full, ?_, ?_, R.ok.due, R.ok.turns, R.ok.slots, ?_, R.ok.links, R.ok.watched, R.ok.why, ?_, ?_⟩, R.id, R.at_, ?_, ?_, R.links, R.watched⟩ Q.1 Q.2 ⟨by omega, n2, n3⟩ ?_, rfl⟩
      · simp; omega
      · simp
      · intro x hx
        rcases List.mem_append.1 hx with hx | hx
        · exact R.ok.mail x hx
        · simp at hx; subst hx; exact hv
      · intro h; simp at h
      · intro _; exact R.ok.live k2
      · intro h; simp at h
      · intro _; exact R.full k2
      · simp only [List.length_append, List.length_singleton]; omega
    · rename_i f
      refine ⟨I.upd (s := w.sent + 1) (t := w.taken) (l := w.lost) hg ⟨⟨R.ok.id, R.ok.at_, R.ok.len, R.ok.full, ?_, R.ok.state, R.ok.due, R.ok.turns, R.ok.slots, ?_, R.ok.links, R.ok.watched, R.ok.why, ?_, R.ok.live⟩, R.id, R.at_, ?_, R.full, R.links, R.watched⟩ I.queue (I.q_same hg Iff.rfl) ⟨by omega, n2, n3⟩ ?_, rfl⟩
      · simp; omega
      · intro x hx
        rcases List.mem_append.1 hx with hx | hx
        · exact R.ok.mail x hx
        · simp at hx; subst hx; exact hv
      · intro h; exact absurd h k2
      · intro h
        have q := R.wait h
        refine ⟨q.1, firstAt_app q.2 ?_⟩
        cases hf : fits (w.code[r.at_.toNat]?.getD default).s v with
        | false => rfl
        | true => exact absurd ⟨h, hf⟩ f
      · simp only [List.length_append, List.length_singleton]; omega
  · refine ⟨⟨I.safe, I.many, I.now, ⟨by simp only; omega, n2, by simp only; omega⟩, I.queue, I.mem, I.each, ?_⟩, rfl⟩
    have := I.sum
    simp only
    omega
theorem giveP_len (w : PWorld) (id : Int) (v : PVal) : (giveP w id v).runs.length = w.runs.length ∧ (giveP w id v).code = w.code := by
  unfold giveP; split
  · split <;> simp
  · simp
end Go.Proofs.YtkcfminmojolhaaGreat

/-
  WORLDS IN PLAIN DATA: ending a run, and all that fall with it.
-/
set_option maxRecDepth 8000
namespace Go.Proofs.YtkcfminmojolhaaGreat
open Go.AM
variable {w : PWorld}
def linkStep (id : Int) (why : PVal) (a : PWorld × List Int) (k : Int) : PWorld × List Int :=
  if why = ⟨2, 0⟩ then (setRun a.1 k { runAt a.1 k with links := less (runAt a.1 k).links id }, a.2)
  else if (runAt a.1 k).trap = true then (giveP (setRun a.1 k { runAt a.1 k with links := less (runAt a.1 k).links id }) k ⟨3, id⟩, a.2)
  else (setRun a.1 k { runAt a.1 k with links := less (runAt a.1 k).links id }, a.2 ++ [k])
def clearRun (r : PRun) (why : PVal) : PRun := { r with mail := [], links := [], watched := [], state := 3, due := 0, why := why }
def unwatch (id : Int) (r : PRun) : PRun := { r with watched := less r.watched id }
def endBase (w : PWorld) (id : Int) (why : PVal) : PWorld :=
  { w with lost := w.lost + (runAt w id).mail.length, queue := less w.queue id, runs := (w.runs.set (id - 1).toNat (clearRun (runAt w id) why)).map (unwatch id) }
def endLinks (w : PWorld) (id : Int) (why : PVal) (ks : List Int) : PWorld × List Int := ks.foldl (linkStep id why) (endBase w id why, [])
def tell (id : Int) (w : PWorld) (ks : List Int) : PWorld := ks.foldl (fun w k => giveP w k ⟨3, id⟩) w
def endP (w : PWorld) (id : Int) (why : PVal) : PWorld × List Int :=
  (tell id (endLinks w id why (runAt w id).links).1 (runAt w id).watched, (endLinks w id why (runAt w id).links).2)
/-- It is there, and did not end. -/
def Alive (w : PWorld) (id : Int) : Prop := (1 ≤ id ∧ id ≤ w.runs.length) ∧ (runAt w id).state ≠ 3
instance (w : PWorld) (id : Int) : Decidable (Alive w id) := inferInstanceAs (Decidable (_ ∧ _))
def fallN : Nat → PWorld → List Int → PVal → PWorld
  | 0, w, _, _ => w
  | _ + 1, w, [], _ => w
  | n + 1, w, id :: rest, why => if Alive w id then fallN n (endP w id why).1 (rest ++ (endP w id why).2) why else fallN n w rest why
def fallP (w : PWorld) (id : Int) (why : PVal) : PWorld := fallN 64 w [id] why
def aliveN (rs : List PRun) : Nat := rs.countP fun r => decide (r.state ≠ 3)
theorem aliveN_set : ∀ {rs : List PRun} {i : Nat} {r r' : PRun}, rs[i]? = some r → aliveN (rs.set i r') + (if r.state ≠ 3 then 1 else 0) = aliveN rs + (if r'.state ≠ 3 then 1 else 0)
  | [], i, r, r', h => by simp at h
  | a :: rs, 0, r, r', h => by simp at h; subst h; simp only [aliveN, List.set_cons_zero, List.countP_cons, decide_eq_true_eq]; omega
  | a :: rs, i + 1, r, r', h => by
    have ih := aliveN_set (rs := rs) (i := i) (r' := r') (by simpa using h)
    simp only [aliveN, List.set_cons_succ, List.countP_cons, decide_eq_true_eq] at ih ⊢
    omega
theorem aliveN_le (rs : List PRun) : aliveN rs ≤ rs.length := List.countP_le_length
theorem aliveN_map (id : Int) : ∀ (rs : List PRun), aliveN (rs.map (unwatch id)) = aliveN rs
  | [] => rfl
  | a :: rs => by simp only [aliveN, List.map_cons, List.countP_cons] at *; rw [show List.countP _ (List.map (unwatch id) rs) = _ from aliveN_map id rs]; rfl
theorem mailSum_map (id : Int) : ∀ (rs : List PRun), mailSum (rs.map (unwatch id)) = mailSum rs
  | [] => rfl
  | a :: rs => by have := mailSum_map id rs; simp only [mailSum, List.map_cons, List.sum_cons] at this ⊢; rw [this]; rfl
theorem less_ids {xs : List Int} {own n : Int} (h : IdsOk xs own) : IdsOk (less xs n) own := ⟨h.1.filter _, fun x hx => h.2 x (mem_less.1 hx).1⟩
theorem less_nil (n : Int) : less [] n = [] := rfl
theorem RunI.unwatch {code : List POp} {now : Int} {n i : Nat} {r : PRun} (R : RunI code now n i r) (id : Int) : RunI code now n i (unwatch id r) :=
  ⟨⟨R.ok.id, R.ok.at_, R.ok.len, R.ok.full, R.ok.room, R.ok.state, R.ok.due, R.ok.turns, R.ok.slots, R.ok.mail, R.ok.links, less_ids R.ok.watched, R.ok.why, fun h => ⟨(R.ok.ended h).1, (R.ok.ended h).2.1, by show less r.watched id = []; rw [(R.ok.ended h).2.2]; rfl⟩, R.ok.live⟩, R.id, R.at_, R.wait, R.full, R.links, fun k hk => R.watched k (mem_less.1 hk).1⟩
theorem RunI.unlink {code : List POp} {now : Int} {n i : Nat} {r : PRun} (R : RunI code now n i r) (id : Int) : RunI code now n i { r with links := less r.links id } :=
  ⟨⟨R.ok.id, R.ok.at_, R.ok.len, R.ok.full, R.ok.room, R.ok.state, R.ok.due, R.ok.turns, R.ok.slots, R.ok.mail, less_ids R.ok.links, R.ok.watched, R.ok.why, fun h => ⟨(R.ok.ended h).1, by show less r.links id = []; rw [(R.ok.ended h).2.1]; rfl, (R.ok.ended h).2.2⟩, R.ok.live⟩, R.id, R.at_, R.wait, R.full, fun k hk => R.links k (mem_less.1 hk).1, R.watched⟩
theorem Inv.map (I : Inv w) (id : Int) : Inv { w with runs := w.runs.map (unwatch id) } := by
  refine ⟨I.safe, by simpa using I.many, I.now, I.nn, I.queue, fun q => ?_, fun i r hi => ?_, by simp only [mailSum_map]; exact I.sum⟩
  · rw [I.mem]
    constructor
    · rintro ⟨i, e, r, hr, h1⟩
      exact ⟨i, e, unwatch id r, by simp [hr], h1⟩
    · rintro ⟨i, e, r, hr, h1⟩
      simp only [List.getElem?_map] at hr
      cases hb : w.runs[i]? with
      | none => rw [hb] at hr; simp at hr
      | some b => rw [hb] at hr; simp at hr; subst hr; exact ⟨i, e, b, hb, h1⟩
  · simp only [List.getElem?_map, List.length_map] at hi ⊢
    cases hb : w.runs[i]? with
    | none => rw [hb] at hi; simp at hi
    | some b => rw [hb] at hi; simp at hi; subst hi; exact (I.each i b hb).unwatch id
theorem valOk_run {id : Int} (h : 1 ≤ id ∧ id ≤ 6) : valOk ⟨3, id⟩ = true := by simp [valOk]; omega
theorem setRun_eq {id : Int} {r : PRun} : setRun w id r = { w with runs := w.runs.set (id - 1).toNat r } := rfl
theorem Inv.unlink (I : Inv w) {k : Int} (hk : 1 ≤ k ∧ k ≤ w.runs.length) (id : Int) : Inv (setRun w k { runAt w k with links := less (runAt w k).links id }) := by
  obtain ⟨i, rfl, ei, hl, hg, R⟩ := I.run hk
  have := I.upd (r' := { runAt w (↑i + 1) with links := less (runAt w (↑i + 1)).links id }) (s := w.sent) (t := w.taken) (l := w.lost) hg (R.unlink id) I.queue (I.q_same hg Iff.rfl) I.nn (by simp only; omega)
  unfold setRun; rw [ei]; exact this
theorem Inv.endBase (I : Inv w) {id : Int} (hid : 1 ≤ id ∧ id ≤ w.runs.length) {why : PVal} (hw : valOk why = true) : Inv (endBase w id why) := by
  obtain ⟨i, rfl, ei, hl, hg, R⟩ := I.run hid
  obtain ⟨n1, n2, n3⟩ := I.nn
  have Q := I.q_less (r' := clearRun (runAt w (↑i + 1)) why) (i := i) (by simp [clearRun])
  have J := I.upd (r' := clearRun (runAt w (↑i + 1)) why) (s := w.sent) (t := w.taken) (l := w.lost + (runAt w (↑i + 1)).mail.length) hg
    ⟨⟨R.ok.id, R.ok.at_, R.ok.len, R.ok.full, by simp [clearRun], by simp [clearRun], by simp [clearRun], R.ok.turns, R.ok.slots, by simp [clearRun], ⟨by simp [clearRun], by simp [clearRun]⟩, ⟨by simp [clearRun], by simp [clearRun]⟩, hw, fun _ => ⟨rfl, rfl, rfl⟩, fun h => by simp [clearRun] at h⟩, R.id, R.at_, fun h => by simp [clearRun] at h, fun h => by simp [clearRun] at h, by simp [clearRun], by simp [clearRun]⟩
    Q.1 Q.2 ⟨n1, n2, by omega⟩ (by simp [clearRun]; omega)
  unfold Go.Proofs.YtkcfminmojolhaaGreat.endBase
  rw [ei]
  exact J.map _
/-- What links and watchers bring about keeps it. -/
structure EndTo (w : PWorld) (b : Int) (n a : Nat) (x : PWorld × List Int) : Prop where
  inv : Inv x.1
  sent : x.1.sent ≤ b
  len : x.1.runs.length = n
  code : x.1.code = w.code
  now : x.1.now = w.now
  alive : aliveN x.1.runs = a
  next : ∀ k ∈ x.2, 1 ≤ k ∧ k ≤ n
theorem aliveN_give (w : PWorld) (id : Int) (v : PVal) : aliveN (giveP w id v).runs = aliveN w.runs := by
  unfold giveP
  split
  · rename_i k
    obtain ⟨k1, k2, k3⟩ := k
    obtain ⟨i, rfl, hi, er, ei⟩ := runAt_eq k1
    have hg : w.runs[i]? = some (runAt w (↑i + 1)) := by rw [er]; exact List.getElem?_eq_getElem hi
    split
    · have := aliveN_set (r' := { runAt w (↑i + 1) with mail := (runAt w (↑i + 1)).mail ++ [v], state := 1 }) hg
      simp only [ei]
      simp [k2] at this ⊢
      omega
    · have := aliveN_set (r' := { runAt w (↑i + 1) with mail := (runAt w (↑i + 1)).mail ++ [v] }) hg
      simp only [ei]
      simp [k2] at this ⊢
      omega
  · rfl
theorem giveP_now (w : PWorld) (id : Int) (v : PVal) : (giveP w id v).now = w.now := by
  unfold giveP; split
  · split <;> rfl
  · rfl
theorem EndTo.give {b : Int} {n a : Nat} {x : PWorld × List Int} (E : EndTo w b n a x) (k : Int) {v : PVal} (hv : valOk v = true) : EndTo w (b + 1) n a (giveP x.1 k v, x.2) := by
  obtain ⟨I, hs⟩ := E.inv.give k hv
  exact ⟨I, by have := E.sent; rw [hs]; omega, by rw [(giveP_len _ _ _).1]; exact E.len, by rw [(giveP_len _ _ _).2]; exact E.code, by rw [giveP_now]; exact E.now, by rw [aliveN_give]; exact E.alive, E.next⟩
theorem aliveN_unlink {k id : Int} (hk : 1 ≤ k ∧ k ≤ w.runs.length) : aliveN (setRun w k { runAt w k with links := less (runAt w k).links id }).runs = aliveN w.runs := by
  obtain ⟨i, rfl, hi, er, ei⟩ := runAt_eq hk
  have hg : w.runs[i]? = some (runAt w (↑i + 1)) := by rw [er]; exact List.getElem?_eq_getElem hi
  have := aliveN_set (r' := { runAt w (↑i + 1) with links := less (runAt w (↑i + 1)).links id }) hg
  unfold setRun
  rw [ei]
  simp only at this ⊢
  omega
theorem setRun_len {k : Int} {r : PRun} : (setRun w k r).runs.length = w.runs.length := by simp [setRun]
theorem EndTo.link {b : Int} {n a : Nat} {x : PWorld × List Int} (E : EndTo w b n a x) {k id : Int} {why : PVal} (hk : 1 ≤ k ∧ k ≤ n) (hid : 1 ≤ id ∧ id ≤ 6) : EndTo w (b + 1) n a (linkStep id why x k) := by
  have hk' : 1 ≤ k ∧ k ≤ x.1.runs.length := by rw [E.len]; exact hk
  have U : EndTo w b n a (setRun x.1 k { runAt x.1 k with links := less (runAt x.1 k).links id }, x.2) :=
    ⟨E.inv.unlink hk' id, E.sent, by rw [setRun_len]; exact E.len, E.code, E.now, by rw [aliveN_unlink hk']; exact E.alive, E.next⟩
  have hs : (setRun x.1 k { runAt x.1 k with links := less (runAt x.1 k).links id }).sent ≤ b + 1 := by have := E.sent; show x.1.sent ≤ b + 1; omega
  unfold linkStep
  split
  · exact ⟨U.inv, hs, U.len, U.code, U.now, U.alive, U.next⟩
  · split
    · exact U.give k (valOk_run hid)
    · refine ⟨U.inv, hs, U.len, U.code, U.now, U.alive, fun q hq => ?_⟩
      rcases List.mem_append.1 hq with hq | hq
      · exact E.next q hq
      · simp at hq; subst hq; exact hk
theorem EndTo.links {b : Int} {n a : Nat} {id : Int} {why : PVal} (hid : 1 ≤ id ∧ id ≤ 6) : ∀ (ks : List Int) {x : PWorld × List Int}, EndTo w b n a x → (∀ k ∈ ks, 1 ≤ k ∧ k ≤ n) → EndTo w (b + ks.length) n a (ks.foldl (linkStep id why) x)
  | [], x, E, _ => by simpa using E
  | k :: ks, x, E, h => by
    have := EndTo.links (why := why) hid ks (E.link (why := why) (h k (by simp)) hid) fun q hq => h q (by simp [hq])
    simp only [List.foldl_cons, List.length_cons]
    exact ⟨this.inv, by have := this.sent; omega, this.len, this.code, this.now, this.alive, this.next⟩
theorem EndTo.tell {b : Int} {n a : Nat} {id : Int} (hid : 1 ≤ id ∧ id ≤ 6) : ∀ (ks : List Int) {x : PWorld × List Int}, EndTo w b n a x → EndTo w (b + ks.length) n a (tell id x.1 ks, x.2)
  | [], x, E => by simpa [Go.Proofs.YtkcfminmojolhaaGreat.tell] using E
  | k :: ks, x, E => by
    have := (E.give k (valOk_run hid)).tell hid ks
    simp only [Go.Proofs.YtkcfminmojolhaaGreat.tell, List.foldl_cons, List.length_cons] at this ⊢
    exact ⟨this.inv, by have := this.sent; omega, this.len, this.code, this.now, this.alive, this.next⟩
theorem Inv.endBaseTo (I : Inv w) {id : Int} (ha : Alive w id) {why : PVal} (hw : valOk why = true) : EndTo w w.sent w.runs.length (aliveN w.runs - 1) (Go.Proofs.YtkcfminmojolhaaGreat.endBase w id why, []) ∧ 1 ≤ aliveN w.runs := by
  have h2 := ha.2
  obtain ⟨i, rfl, ei, hl, hg, R⟩ := I.run ha.1
  have := aliveN_set (r' := clearRun (runAt w (↑i + 1)) why) hg
  have e3 : (clearRun (runAt w (↑i + 1)) why).state = 3 := rfl
  rw [if_pos h2, if_neg (by rw [e3]; simp)] at this
  refine ⟨⟨I.endBase ha.1 hw, Int.le_refl _, ?_, rfl, rfl, ?_, by simp⟩, by omega⟩
  · simp [Go.Proofs.YtkcfminmojolhaaGreat.endBase]
  · simp only [Go.Proofs.YtkcfminmojolhaaGreat.endBase, aliveN_map, ei]; omega
theorem linkStep_next_len {id : Int} {why : PVal} {x : PWorld × List Int} {k : Int} : (linkStep id why x k).2.length ≤ x.2.length + 1 := by
  unfold linkStep; split
  · simp
  · split <;> simp
theorem links_next_len {id : Int} {why : PVal} : ∀ (ks : List Int) (x : PWorld × List Int), (ks.foldl (linkStep id why) x).2.length ≤ x.2.length + ks.length
  | [], x => by simp
  | k :: ks, x => by
    have := links_next_len (id := id) (why := why) ks (linkStep id why x k)
    have h2 := linkStep_next_len (id := id) (why := why) (x := x) (k := k)
    simp only [List.foldl_cons, List.length_cons]; omega
theorem Inv.endP (I : Inv w) {id : Int} (ha : Alive w id) {why : PVal} (hw : valOk why = true) :
    EndTo w (w.sent + 12) w.runs.length (aliveN w.runs - 1) (Go.Proofs.YtkcfminmojolhaaGreat.endP w id why) ∧ 1 ≤ aliveN w.runs ∧ (Go.Proofs.YtkcfminmojolhaaGreat.endP w id why).2.length ≤ 6 := by
  obtain ⟨E, h1⟩ := I.endBaseTo ha hw
  obtain ⟨i, e, ei, hl, hg, R⟩ := I.run ha.1
  have l1 := R.ok.links.len
  have l2 := R.ok.watched.len
  have hid : 1 ≤ id ∧ id ≤ 6 := by have := I.many; have := ha.1; omega
  have E2 := (E.links (why := why) hid (runAt w id).links fun k hk => ⟨(R.ok.links.2 k hk).1, R.links k hk⟩)
  have E3 := E2.tell hid (runAt w id).watched
  refine ⟨⟨E3.inv, ?_, E3.len, E3.code, E3.now, E3.alive, E3.next⟩, h1, ?_⟩
  · have := E3.sent
    refine Int.le_trans this ?_
    omega
  · have := links_next_len (id := id) (why := why) (runAt w id).links (Go.Proofs.YtkcfminmojolhaaGreat.endBase w id why, [])
    simp only [List.length_nil] at this
    show (endLinks w id why _).2.length ≤ 6
    unfold endLinks; omega
end Go.Proofs.YtkcfminmojolhaaGreat

/-
  WORLDS IN PLAIN DATA: what is full behind a step.
-/
set_option maxRecDepth 8000
namespace Go.Proofs.YtkcfminmojolhaaGreat
open Go.AM
theorem mergeF_fix {f : List Int} {n : Nat} {b : Int} (h : mergeF f n b = f) (hn : n < f.length) : both (f[n]?.getD 0) b = f[n]?.getD 0 := by
  have h2 : (mergeF f n b)[n]? = f[n]? := by rw [h]
  unfold mergeF at h2
  rw [List.getElem?_set_self hn] at h2
  have e : f[n]?.getD 0 = both (f[n]?.getD 0) b := congrArg (·.getD 0) h2.symm
  exact e.symm
theorem both_nn {a b : Int} (h : both a b = a) (hb : 0 ≤ b) : 0 ≤ a := by
  by_cases ha : a < 0
  · unfold both at h; rw [if_pos ha] at h; omega
  · omega
theorem full_arrows {code : List POp} (S : CodeSafe code) {i : Nat} (hi : i < code.length) (h0 : 0 ≤ (fullR code)[i]?.getD 0) :
    let x := (fullR code)[i]?.getD 0
    x ≤ 15 ∧ (∀ b, goesTo code[i] x = some b → 0 ≤ (fullR code)[code[i].to.toNat]?.getD 0 ∧ both ((fullR code)[code[i].to.toNat]?.getD 0) b = (fullR code)[code[i].to.toNat]?.getD 0) ∧
    (¬ (code[i].kind = 9 ∨ code[i].kind = 14) → i + 1 < code.length ∧ 0 ≤ (fullR code)[i + 1]?.getD 0 ∧ both ((fullR code)[i + 1]?.getD 0) (onward code[i] x) = (fullR code)[i + 1]?.getD 0) := by
  intro x
  have hc := codeOk_op S.ok
  obtain ⟨hB, hL, hP⟩ := fullR_props hc
  have hiL : i < (fullR code).length := by omega
  have hx15 : x ≤ 15 := by
    show (fullR code)[i]?.getD 0 ≤ 15
    rw [List.getElem?_eq_getElem hiL, Option.getD_some]; exact (hB _ (List.getElem_mem hiL)).2
  have ho : opOk code[i] = true := hc _ (List.getElem_mem hi)
  have e1 := passTo_fix hc hB hL hP i (by omega)
  have e2 := passTo_fix hc hB hL hP (i + 1) (by omega)
  simp only [passTo, e1] at e2
  rw [if_pos h0, List.getElem?_eq_getElem hi, Option.getD_some] at e2
  have a := goF_props (o := code[i]) hB h0 hx15
  have b := fromF_props (i := i) hB ho h0 hx15
  have ne := a.2.2.ne b.2.2
  have g1 : goF code[i] (fullR code) x = fullR code := Classical.byContradiction fun hh => (ne.2 (.inl hh)) e2
  refine ⟨hx15, fun v hv => ?_, fun hk => ?_⟩
  · have hv2 := goesTo_range h0 hx15 hv
    unfold goF at g1
    simp only [hv] at g1
    have ht : code[i].to.toNat < (fullR code).length := by
      have hT : hasT code[i].kind = true := by
        unfold goesTo at hv
        simp only [hasT, decide_eq_true_eq]
        split at hv
        · omega
        · split at hv
          · omega
          · cases hv
      have := S.ok
      simp only [codeOk, Bool.and_eq_true, List.all_eq_true, Bool.or_eq_true, decide_eq_true_eq, Bool.not_eq_true'] at this
      have q := (this.2 _ (List.getElem_mem hi)).2
      rw [hT] at q
      have q2 : code[i].to < code.length := by simpa using q
      have : 1 ≤ code.length := by omega
      omega
    have f := mergeF_fix g1 ht
    exact ⟨both_nn f hv2.1, f⟩
  · have sf := S.safe i hi h0
    have hn : i + 1 < code.length := by
      have : ¬ i + 1 = code.length := fun hh => hk (sf.2 hh)
      omega
    simp only [fromF] at e2
    rw [if_neg hk] at e2
    have e3 : mergeF (fullR code) (i + 1) (onward code[i] x) = fullR code := by
      rw [show goF code[i] (fullR code) ((fullR code)[i]?.getD 0) = fullR code from g1] at e2; exact e2
    have f := mergeF_fix e3 (by omega)
    exact ⟨hn, both_nn f (onward_range ho h0 hx15).1, f⟩
theorem bits_fin : ∀ a b : Fin 16, both a.val b.val = a.val → ∀ c : Fin 16, (both b.val c.val = b.val → both a.val c.val = a.val) := by decide +kernel
theorem both_trans {a b c : Int} (ha : 0 ≤ a) (ha' : a ≤ 15) (hb : 0 ≤ b) (hb' : b ≤ 15) (hc : 0 ≤ c) (hc' : c ≤ 15) (h1 : both a b = a) (h2 : both b c = b) : both a c = a := by
  have := bits_fin ⟨a.toNat, by omega⟩ ⟨b.toNat, by omega⟩
  simp only [Int.toNat_of_nonneg ha, Int.toNat_of_nonneg hb] at this
  have := this h1 ⟨c.toNat, by omega⟩
  simp only [Int.toNat_of_nonneg hc] at this
  exact this h2
theorem withB_fin : ∀ a b : Fin 16, both a.val b.val = a.val → ∀ s : Fin 4, both (withB a.val s.val) (withB b.val s.val) = withB a.val s.val ∧ both a.val (withB b.val s.val) = a.val := by decide +kernel
theorem withB_mono {a b s : Int} (ha : 0 ≤ a) (ha' : a ≤ 15) (hb : 0 ≤ b) (hb' : b ≤ 15) (hs : 0 ≤ s) (hs' : s ≤ 3) (h : both a b = a) : both (withB a s) (withB b s) = withB a s ∧ both a (withB b s) = a := by
  have := withB_fin ⟨a.toNat, by omega⟩ ⟨b.toNat, by omega⟩
  simp only [Int.toNat_of_nonneg ha, Int.toNat_of_nonneg hb] at this
  have := this h ⟨s.toNat, by omega⟩
  simp only [Int.toNat_of_nonneg hs] at this
  exact this
theorem one_fin : ∀ a : Fin 16, both a.val 1 = a.val → a.val = 0 ∨ a.val = 1 := by decide +kernel
theorem withB_has : ∀ b : Fin 16, ∀ s t : Fin 4, has (withB b.val s.val) t.val = (decide (s = t) || has b.val t.val) := by decide +kernel
theorem hasW {b s t : Int} (hb : 0 ≤ b) (hb' : b ≤ 15) (hs : 0 ≤ s) (hs' : s ≤ 3) (ht : 0 ≤ t) (ht' : t ≤ 3) : has (withB b s) t = (decide (s = t) || has b t) := by
  have := withB_has ⟨b.toNat, by omega⟩ ⟨s.toNat, by omega⟩ ⟨t.toNat, by omega⟩
  simp only [Int.toNat_of_nonneg hb, Int.toNat_of_nonneg hs, Int.toNat_of_nonneg ht, Fin.mk.injEq] at this
  rw [this]
  congr 1
  exact decide_eq_decide.2 (by omega)
end Go.Proofs.YtkcfminmojolhaaGreat

/-
  WORLDS IN PLAIN DATA: steps, turns, what happens.
-/
set_option maxRecDepth 8000
namespace Go.Proofs.YtkcfminmojolhaaGreat
open Go.AM
variable {w : PWorld}
def slotAt (r : PRun) (k : Int) : PVal := r.slots[k.toNat]?.getD default
def nextRun (r : PRun) : PRun := { r with at_ := r.at_ + 1 }
def putRun (r : PRun) (slot : Int) (v : PVal) : PRun := { r with slots := r.slots.set slot.toNat v, full := withB r.full slot }
def setP (w : PWorld) (id slot : Int) (v : PVal) : PWorld := setRun w id (nextRun (putRun (runAt w id) slot v))
def waitP (w : PWorld) (id due : Int) : PWorld := { setRun w id { runAt w id with state := 2, due := due } with queue := less w.queue id }
def addP (a b : PVal) : Option PVal := if a.k = 1 ∧ b.k = 1 ∧ -99 ≤ a.n + b.n ∧ a.n + b.n ≤ 99 then some ⟨1, a.n + b.n⟩ else none
def newRun (id at_ : Int) (v : PVal) : PRun := ⟨id, at_, [v, ⟨0, 0⟩, ⟨0, 0⟩, ⟨0, 0⟩], 1, [], 1, 0, [], [], false, ⟨0, 0⟩, 0⟩
/-- The place of the first value that fits. -/
def mailAt (r : PRun) (kind : Int) : Int := firstAt (fits kind) r.mail
def takeRun (r : PRun) (slot : Int) (n : Nat) : PRun := { nextRun (putRun r slot (r.mail[n]?.getD default)) with mail := r.mail.eraseIdx n, due := 0 }
def takeP (w : PWorld) (id : Int) (o : POp) : PWorld :=
  if 0 ≤ mailAt (runAt w id) o.s then { setRun w id (takeRun (runAt w id) o.r (mailAt (runAt w id) o.s).toNat) with taken := w.taken + 1 }
  else if o.kind = 7 then waitP w id 0
  else if (runAt w id).due < 0 then setRun w id { runAt w id with due := 0, at_ := o.to }
  else waitP w id (w.now + o.v.n)
def addRunP (w : PWorld) (id : Int) (o : POp) : PWorld := { w with runs := w.runs ++ [newRun (w.runs.length + 1) o.to ⟨3, id⟩], queue := w.queue ++ [(w.runs.length : Int) + 1] }
def beginP (w : PWorld) (id : Int) (o : POp) : PWorld :=
  if 6 < w.runs.length + 1 then setP w id o.r ⟨0, 0⟩ else setP (addRunP w id o) id o.r ⟨3, w.runs.length + 1⟩
def linkP (w : PWorld) (id k : Int) : PWorld :=
  let w1 := setRun w id { runAt w id with links := (runAt w id).links ++ [k] }
  setRun w1 k { runAt w1 k with links := (runAt w1 k).links ++ [id] }
def watchP (w : PWorld) (id k : Int) : PWorld := setRun w k { runAt w k with watched := (runAt w k).watched ++ [id] }
def otherP (w : PWorld) (id : Int) (o : POp) : PWorld :=
  let r := runAt w id
  let to := slotAt r o.r
  let w1 := setRun w id (nextRun r)
  if to.k ≠ 3 then fallP w id ⟨2, 2⟩
  else if o.kind = 6 then giveP w1 to.n (slotAt r o.s)
  else if o.kind = 12 ∧ ¬ Alive w to.n then giveP w1 id to
  else if to.n = id ∨ ¬ Alive w to.n then w1
  else if o.kind = 12 ∧ id ∉ (runAt w to.n).watched then watchP w1 id to.n
  else if o.kind = 11 ∧ to.n ∉ r.links then linkP w1 id to.n
  else w1
def stepP (w : PWorld) (id : Int) : PWorld :=
  let r := runAt w id
  let o := codeAt w r.at_
  if o.kind = 1 then setP w id o.r o.v
  else if o.kind = 2 then setP w id o.r (slotAt r o.s)
  else if o.kind = 3 then (match addP (slotAt r o.r) (slotAt r o.s) with | none => fallP w id ⟨2, 1⟩ | some v => setP w id o.r v)
  else if o.kind = 4 then setP w id o.r ⟨3, id⟩
  else if o.kind = 5 then beginP w id o
  else if o.kind = 7 ∨ o.kind = 8 then takeP w id o
  else if o.kind = 9 then setRun w id { r with at_ := o.to }
  else if o.kind = 10 then setRun w id { r with at_ := if slotAt r o.r = o.v then o.to else r.at_ + 1 }
  else if o.kind = 13 then setRun w id { r with trap := decide (o.v.n = 1), at_ := r.at_ + 1 }
  else if o.kind = 14 then fallP w id (slotAt r o.r)
  else otherP w id o
def headQ (w : PWorld) : Int := w.queue.headD 0
def stepsP : Nat → PWorld → Int → PWorld
  | 0, w, _ => w
  | n + 1, w, id => if (runAt w id).state = 1 then stepsP n (stepP w id) id else w
def backP (w : PWorld) (id : Int) : PWorld := if (runAt w id).state = 1 then { w with queue := less w.queue id ++ [id] } else w
def countP' (w : PWorld) (id : Int) : PWorld := setRun w id { runAt w id with turns := min ((runAt w id).turns + 1) 9999 }
def turnP (w : PWorld) : PWorld := if w.queue = [] then w else backP (stepsP 3 (countP' w (headQ w)) (headQ w)) (headQ w)
structure PEvent where
  kind : Int
  a : Int
  v : PVal
  deriving DecidableEq, Inhabited
def doP (w : PWorld) (e : PEvent) : PWorld :=
  if e.kind = 1 then turnP w
  else if e.kind = 2 then tickP w
  else if e.kind = 3 then (if valOk e.v = true then giveP w e.a e.v else w)
  else if e.kind = 4 then (if valOk e.v = true ∧ Alive w e.a then fallP w e.a e.v else w)
  else w
def newP (code : List POp) : PWorld := ⟨code, [newRun 1 0 ⟨3, 1⟩], [1], 0, 0, 0, 0⟩
end Go.Proofs.YtkcfminmojolhaaGreat
