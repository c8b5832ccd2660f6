/-
  What functions of the seat answer, each proved once; each under the condition that cells bear what it is given, as its statement says.
-/
import Derived.Test.YtmkiojlebjknlaaGreatWalkA23
set_option linter.all false
/-
 WORLDS IN PLAIN DATA: the order of turns.
-/
set_option maxRecDepth 8000
namespace Go.Proofs.YtmkiojlebjknlaaGreat
variable {w w' : PWorld} {id hd : Int}
def Dead (w : PWorld) (k : Int) : Prop := 1 ≤ k ∧ ∃ r, w.runs[(k - 1).toNat]? = some r ∧ r.state = 3
theorem WK.dead {n : Nat} {k0 : Int} (x : WK (fun _ => False) n k0 w w') {k : Int} (d : Dead w k) : Dead w' k := by
 obtain ⟨h1, r, h2, h3⟩ := d
 obtain ⟨r', h4, q⟩ := x.each _ r (fun h => h) h2
 exact ⟨h1, r', h4, q.ended h3⟩
structure QW (hd : Int) (w w' : PWorld) : Prop where
 q : ∃ (p : Int → Bool) (t : List Int), w'.queue = w.queue.filter p ++ t ∧ (∀ k ∈ w.queue, p k = false → k = hd ∨ Dead w' k) ∧ ∀ k ∈ t, k = hd ∨ ¬ Dead w k
 dead : ∀ k, k ≠ hd → Dead w k → Dead w' k
theorem filt (l : List Int) : l.filter (fun _ => true) = l := List.filter_eq_self.2 (by simp)
theorem QW.same (e : w'.queue = w.queue) (d : ∀ k, k ≠ hd → Dead w k → Dead w' k) : QW hd w w' := ⟨⟨fun _ => true, [], by rw [e, filt, List.append_nil], by simp, by simp⟩, d⟩
theorem QW.wk {n : Nat} {k0 : Int} (e : w'.queue = w.queue) (x : WK (fun _ => False) n k0 w w') : QW hd w w' := QW.same e fun _ _ d => x.dead d
theorem QW.refl (w : PWorld) : QW hd w w := QW.same rfl fun _ _ d => d
theorem QW.trans {a b c : PWorld} (x : QW hd a b) (y : QW hd b c) : QW hd a c := by
 obtain ⟨p, t, e, r, n⟩ := x.q
 obtain ⟨p', t', e', r', n'⟩ := y.q
 refine ⟨⟨fun k => p k && p' k, t.filter p' ++ t', ?_, fun k hk hp => ?_, fun k hk => ?_⟩, fun k h d => y.dead k h (x.dead k h d)⟩
 ·rw [e', e, List.filter_append, List.filter_filter, List.append_assoc]
  congr 2
  funext k; exact Bool.and_comm _ _
 ·by_cases hh : k = hd
  ·exact .inl hh
  ·right
   by_cases hpk : p k = true
   ·have : k ∈ b.queue := by rw [e]; exact List.mem_append_left _ (List.mem_filter.2 ⟨hk, hpk⟩)
    have hp' : p' k = false := by simpa [hpk] using hp
    exact (r' k this hp').resolve_left hh
   ·have hpf : p k = false := by simpa using hpk
    exact y.dead k hh ((r k hk hpf).resolve_left hh)
 ·rcases List.mem_append.1 hk with h | h
  ·exact n k (List.mem_filter.1 h).1
  ·rcases n' k h with h1 | h1
   ·exact .inl h1
   ·by_cases hh : k = hd
    ·exact .inl hh
    ·exact .inr fun d => h1 (x.dead k hh d)
theorem QW.own {r' : PRun} {w2 : PWorld} (h1 : 1 ≤ hd) (er : w2.runs = w.runs.set (hd - 1).toNat r') (eq : w2.queue = w.queue ∨ w2.queue = less w.queue hd) : QW hd w w2 := by
 have dd : ∀ k, k ≠ hd → Dead w k → Dead w2 k := fun k h ⟨k1, r, h2, h3⟩ => ⟨k1, r, by rw [er, List.getElem?_set_ne (by omega)]; exact h2, h3⟩
 rcases eq with e | e
 ·exact QW.same e dd
 ·refine ⟨⟨fun x => decide (x ≠ hd), [], by rw [e]; simp [less], fun k hk hp => .inl (by simpa using hp), by simp⟩, dd⟩
end Go.Proofs.YtmkiojlebjknlaaGreat

/-
 WORLDS IN PLAIN DATA: what a step makes of the run whose step it is.
-/
set_option maxRecDepth 8000
namespace Go.Proofs.YtmkiojlebjknlaaGreat
variable {w w' : PWorld} {id : Int} {i : Nat} {r : PRun} {o : POp}
inductive OwnS (w : PWorld) (id : Int) (r : PRun) (o : POp) : PRun → Prop
 | set1 (k : o.kind = 1) : OwnS w id r o (nextRun (putRun r o.r o.v))
 | set2 (k : o.kind = 2) : OwnS w id r o (nextRun (putRun r o.r (slotAt r o.s)))
 | add (v : PVal) (k : o.kind = 3) (h : addP (slotAt r o.r) (slotAt r o.s) = some v) : OwnS w id r o (nextRun (putRun r o.r v))
 | self (k : o.kind = 4) : OwnS w id r o (nextRun (putRun r o.r ⟨3, id⟩))
 | start (k : o.kind = 5) : OwnS w id r o (nextRun (putRun r o.r (if 6 < w.runs.length + 1 then ⟨0, 0⟩ else ⟨3, w.runs.length + 1⟩)))
 | fall (b : PRun) (v : PVal) (k : o.kind = 3 ∧ addP (slotAt r o.r) (slotAt r o.s) = none ∧ v = ⟨2, 1⟩ ∨ o.kind = 14 ∧ v = slotAt r o.r ∨ (o.kind = 6 ∨ o.kind = 11 ∨ o.kind = 12) ∧ (slotAt r o.r).k ≠ 3 ∧ v = ⟨2, 2⟩) (q : RunK r b) (e : b.state = 3) (y : b.why = v) : OwnS w id r o b
 | take (k : o.kind = 7 ∨ o.kind = 8) (m : 0 ≤ mailAt r o.s) : OwnS w id r o (takeRun r o.r (mailAt r o.s).toNat)
 | wait (d : Int) (k : o.kind = 7 ∧ d = 0 ∨ o.kind = 8 ∧ ¬ r.due < 0 ∧ d = w.now + o.v.n) (m : ¬ 0 ≤ mailAt r o.s) : OwnS w id r o { r with state := 2, due := d }
 | after (k : o.kind = 8) (m : ¬ 0 ≤ mailAt r o.s) (d : r.due < 0) : OwnS w id r o { r with due := 0, at_ := o.to }
 | go (k : o.kind = 9) : OwnS w id r o { r with at_ := o.to }
 | cond (k : o.kind = 10) : OwnS w id r o { r with at_ := if slotAt r o.r = o.v then o.to else r.at_ + 1 }
 | trap (k : o.kind = 13) : OwnS w id r o { r with trap := decide (o.v.n = 1), at_ := r.at_ + 1 }
 | other (b : PRun) (k : o.kind = 6 ∨ o.kind = 11 ∨ o.kind = 12) (t : (slotAt r o.r).k = 3) (q : RunK (nextRun r) b) : OwnS w id r o b
theorem Turn.alive (T : Turn w id i r o) : Alive w id := ⟨by have := T.e0; have := T.hi; omega, by rw [T.at_, T.going]; decide⟩
theorem Turn.step_own (T : Turn w id i r o) : ∃ b, (stepP w id).runs[i]? = some b ∧ OwnS w id r o b := by
 have hi := T.hi
 have own : ∀ (r' : PRun), (setRun w id r').runs[i]? = some r' := fun r' => by unfold setRun; simp only; rw [T.ei]; simp [hi]
 have hop := T.op
 have ok := T.ok
 have h14 := op_kind ok
 have fall : ∀ v, ∃ b, (fallP w id v).runs[i]? = some b ∧ RunK r b ∧ b.state = 3 ∧ b.why = v := fun v => by
  have x := fall_wk (id := 0) w id v
  obtain ⟨b, h1, q⟩ := x.each i r (fun h => h) T.get
  have eb : runAt (fallP w id v) id = b := runAt_some (by rw [T.ei]; exact h1)
  exact ⟨b, h1, q, by rw [← eb]; exact fall_ended T.alive.1 v, by rw [← eb]; exact fall_why T.alive v⟩
 unfold stepP
 simp only [T.at_, T.op]
 split
 ·rename_i k; exact ⟨_, own _, by rw [T.at_]; exact .set1 k⟩
 split
 ·rename_i k; exact ⟨_, own _, by rw [T.at_]; exact .set2 k⟩
 split
 ·rename_i k
  split
  ·rename_i hn
   obtain ⟨b, h1, q, e, y⟩ := fall ⟨2, 1⟩
   exact ⟨b, h1, .fall b _ (.inl ⟨k, hn, rfl⟩) q e y⟩
  ·rename_i v hv
   exact ⟨_, own _, by rw [T.at_]; exact .add v k hv⟩
 split
 ·rename_i k; exact ⟨_, own _, by rw [T.at_]; exact .self k⟩
 split
 ·rename_i k
  have st := OwnS.start (w := w) (id := id) (r := r) k
  unfold beginP
  split
  ·rename_i c
   rw [if_pos c] at st
   exact ⟨_, own _, by rw [T.at_]; exact st⟩
  ·rename_i c
   rw [if_neg c] at st
   have e : runAt (addRunP w id o) id = r := by
    rw [← T.at_]
    unfold runAt addRunP; simp only; rw [T.ei, List.getElem?_append_left hi]
   refine ⟨_, ?_, st⟩
   unfold setP setRun
   simp only
   rw [T.ei, e]
   rw [List.getElem?_set_self (by simp [addRunP]; omega)]
 split
 ·rename_i k78
  unfold takeP
  rw [T.at_]
  split
  ·rename_i m
   refine ⟨_, ?_, .take k78 m⟩
   unfold setRun; simp only; rw [T.ei]; simp [hi]
  ·rename_i m
   split
   ·rename_i k7
    refine ⟨_, ?_, .wait 0 (.inl ⟨k7, rfl⟩) m⟩
    unfold waitP setRun; simp only; rw [T.ei, T.at_]; simp [hi]
   ·rename_i k7
    have k8 : o.kind = 8 := by rcases k78 with h | h; exact absurd h k7; exact h
    split
    ·rename_i d
     exact ⟨_, own _, .after k8 m d⟩
    ·rename_i d
     refine ⟨_, ?_, .wait (w.now + o.v.n) (.inr ⟨k8, d, rfl⟩) m⟩
     unfold waitP setRun; simp only; rw [T.ei, T.at_]; simp [hi]
 split
 ·rename_i k; exact ⟨_, own _, .go k⟩
 split
 ·rename_i k; exact ⟨_, own _, .cond k⟩
 split
 ·rename_i k; exact ⟨_, own _, .trap k⟩
 split
 ·rename_i k
  obtain ⟨b, h1, q, e, y⟩ := fall (slotAt r o.r)
  exact ⟨b, h1, .fall b _ (.inr (.inl ⟨k, rfl⟩)) q e y⟩
 have ks : o.kind = 6 ∨ o.kind = 11 ∨ o.kind = 12 := by omega
 unfold otherP
 simp only [T.at_]
 have nx := own (nextRun r)
 have via : ∀ {w2 : PWorld}, WK (fun _ => False) 0 0 (setRun w id (nextRun r)) w2 → ∀ (t : (slotAt r o.r).k = 3), ∃ b, w2.runs[i]? = some b ∧ OwnS w id r o b := fun {w2} x t => by
  obtain ⟨b, h1, q⟩ := x.each i _ (fun h => h) nx
  exact ⟨b, h1, .other b ks t q⟩
 split
 ·rename_i t
  obtain ⟨b, h1, q, e, y⟩ := fall ⟨2, 2⟩
  exact ⟨b, h1, .fall b _ (.inr (.inr ⟨ks, t, rfl⟩)) q e y⟩
 rename_i t
 have t : (slotAt r o.r).k = 3 := Classical.byContradiction t
 split
 ·exact via (give_wk _ _ _) t
 split
 ·exact via (give_wk _ _ _) t
 split
 ·exact via (WK.refl _) t
 split
 ·unfold watchP
  exact via (WK.setRun fun r hr => .inr (by rw [hr]; exact ⟨rfl, rfl, rfl, rfl, rfl, rfl, .inr (List.prefix_refl _), fun h => h, .inl rfl, .inl rfl, .inl rfl⟩)) t
 split
 ·unfold linkP
  simp only
  exact via (WK.trans0 (WK.setRun fun r hr => .inr (by rw [hr]; exact ⟨rfl, rfl, rfl, rfl, rfl, rfl, .inr (List.prefix_refl _), fun h => h, .inl rfl, .inl rfl, .inl rfl⟩)) (WK.setRun fun r hr => .inr (by rw [hr]; exact ⟨rfl, rfl, rfl, rfl, rfl, rfl, .inr (List.prefix_refl _), fun h => h, .inl rfl, .inl rfl, .inl rfl⟩))) t
 exact via (WK.refl _) t
end Go.Proofs.YtmkiojlebjknlaaGreat

/-
 WORLDS IN PLAIN DATA: what the laws of steps and turns ask.
-/
set_option maxRecDepth 8000
namespace Go.Proofs.YtmkiojlebjknlaaGreat
variable {w w' : PWorld} {id : Int} {i : Nat} {r b : PRun} {o : POp}
theorem hasP {f s k : Int} (hf : 0 ≤ f ∧ f ≤ 15) (hs : 0 ≤ s ∧ s ≤ 3) (hk : 0 ≤ k ∧ k ≤ 3) (h : k ≠ s) : has (withB f s) k = has f k := by
 rw [hasW hf.1 hf.2 hs.1 hs.2 hk.1 hk.2]
 have hn : ¬ s = k := fun e => h e.symm
 simp [hn]
structure OwnT (r b : PRun) (o : POp) : Prop where
 slots : ∀ k : Nat, k ≤ 3 → (k : Int) ≠ o.r → b.slots[k]? = r.slots[k]? ∧ has b.full k = has r.full k
 at_ : b.state = 3 ∨ b.at_ = r.at_ + 1 ∨ b.at_ = o.to ∨ b.state = 2 ∧ b.at_ = r.at_
theorem OwnS.t (S : OwnS w id r o b) (R : RunOk r) (ok : opOk o = true) : OwnT r b o := by
 have hr := op_r ok
 have put : ∀ v, ∀ k : Nat, k ≤ 3 → (k : Int) ≠ o.r → (putRun r o.r v).slots[k]? = r.slots[k]? ∧ has (putRun r o.r v).full k = has r.full k := fun v k hk hne => by
  refine ⟨?_, hasP R.full hr (by omega) hne⟩
  simp only [putRun]
  rw [List.getElem?_set_ne (by omega)]
 cases S with
 | set1 k => exact ⟨put _, .inr (.inl rfl)⟩
 | set2 k => exact ⟨put _, .inr (.inl rfl)⟩
 | add v k h => exact ⟨put _, .inr (.inl rfl)⟩
 | self k => exact ⟨put _, .inr (.inl rfl)⟩
 | start k => exact ⟨put _, .inr (.inl rfl)⟩
 | fall _ v k q e y => exact ⟨fun k _ _ => by rw [q.slots, q.full]; exact ⟨rfl, rfl⟩, .inl e⟩
 | take k m => exact ⟨put _, .inr (.inl rfl)⟩
 | wait d k m => exact ⟨fun _ _ _ => ⟨rfl, rfl⟩, .inr (.inr (.inr ⟨rfl, rfl⟩))⟩
 | after k m d => exact ⟨fun _ _ _ => ⟨rfl, rfl⟩, .inr (.inr (.inl rfl))⟩
 | go k => exact ⟨fun _ _ _ => ⟨rfl, rfl⟩, .inr (.inr (.inl rfl))⟩
 | cond k =>
  refine ⟨fun _ _ _ => ⟨rfl, rfl⟩, ?_⟩
  by_cases c : slotAt r o.r = o.v
  ·exact .inr (.inr (.inl (by simp only; rw [if_pos c])))
  ·exact .inr (.inl (by simp only; rw [if_neg c]))
 | trap k => exact ⟨fun _ _ _ => ⟨rfl, rfl⟩, .inr (.inl rfl)⟩
 | other _ k t q => exact ⟨fun k _ _ => by rw [q.slots, q.full]; exact ⟨rfl, rfl⟩, .inr (.inl (by rw [q.at_]; rfl))⟩
structure SetF (id : Int) (r b : PRun) (o : POp) : Prop where
 k1 : o.kind = 1 → b.slots[o.r.toNat]?.getD default = o.v
 k2 : o.kind = 2 → b.slots[o.r.toNat]?.getD default = r.slots[o.s.toNat]?.getD default
 k4 : o.kind = 4 → b.slots[o.r.toNat]?.getD default = ⟨3, id⟩
 k3 : o.kind = 3 → match addP (slotAt r o.r) (slotAt r o.s) with | none => b.state = 3 ∧ b.why = ⟨2, 1⟩ | some v => b.slots[o.r.toNat]?.getD default = v
theorem OwnS.setfacts (S : OwnS w id r o b) (R : RunOk r) (ok : opOk o = true) : SetF id r b o := by
 have hr := op_r ok
 have hl := R.len
 have put : ∀ v, (nextRun (putRun r o.r v)).slots[o.r.toNat]?.getD default = v := fun v => by
  show (r.slots.set o.r.toNat v)[o.r.toNat]?.getD default = v
  rw [List.getElem?_set_self (by omega)]; rfl
 cases S with
 | set1 k => exact ⟨fun _ => put _, fun h => by omega, fun h => by omega, fun h => by omega⟩
 | set2 k => exact ⟨fun h => by omega, fun _ => put _, fun h => by omega, fun h => by omega⟩
 | add v k h => exact ⟨fun h => by omega, fun h => by omega, fun h => by omega, fun _ => by rw [h]; exact put v⟩
 | self k => exact ⟨fun h => by omega, fun h => by omega, fun _ => put _, fun h => by omega⟩
 | fall _ v k q e y => exact ⟨fun h => by omega, fun h => by omega, fun h => by omega, fun h => by
   rcases k with k | k | k
   ·rw [k.2.1]; exact ⟨e, by rw [y, k.2.2]⟩
   ·omega
   ·omega⟩
 | _ => exact ⟨fun h => by omega, fun h => by omega, fun h => by omega, fun h => by omega⟩
theorem OwnS.k5 (S : OwnS w id r o b) (R : RunOk r) (ok : opOk o = true) (h : o.kind = 5) : b.slots[o.r.toNat]?.getD default = if 6 < w.runs.length + 1 then ⟨0, 0⟩ else ⟨3, w.runs.length + 1⟩ := by
 have hr := op_r ok
 have hl := R.len
 cases S with
 | start k =>
  show (r.slots.set o.r.toNat _)[o.r.toNat]?.getD default = _
  rw [List.getElem?_set_self (by omega)]; rfl
 | _ => omega
end Go.Proofs.YtmkiojlebjknlaaGreat

/-
 WORLDS IN PLAIN DATA: how many turns were had matters to no step.
-/
set_option maxRecDepth 8000
namespace Go.Proofs.YtmkiojlebjknlaaGreat
variable {w : PWorld} {id : Int}
end Go.Proofs.YtmkiojlebjknlaaGreat
