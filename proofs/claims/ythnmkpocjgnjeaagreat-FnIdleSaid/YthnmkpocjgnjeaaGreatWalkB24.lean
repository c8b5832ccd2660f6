/-
  What functions of the seat answer, each proved once; each under the condition that cells bear what it is given, as its statement says.
-/
import Derived.Test.YthnmkpocjgnjeaaGreatWalkB23
import Derived.Test.YthnmkpocjgnjeaaGreatWalkB21
set_option linter.all false
/-
 WHAT IS DRAWN: worlds with turns, with what happens, idle ones.
-/
set_option maxRecDepth 8000
namespace Go.Proofs.YthnmkpocjgnjeaaGreat
open Go.AM
variable {h h' k : H} {p n m lo : Nat} {d : Cell} {bs : List Int} {w : PWorld} {c : WorldC} {cs : List RunC} {s : Cell}
def DrawnV (h : H) (x : V × H) : Prop := ∃ k w c cs, x = (.g (encW c), k) ∧ Ext h k ∧ WorldV h.length k w c cs cs
set_option maxRecDepth 16000 in
theorem c_DrawWorldIdle (hS : BytesA h s bs) : @Wp _ (Dz.den 41 [.c s] h) ⟨DrawnV h⟩ := by
 refine den_wp rfl Tryz.func41 rfl ?_
 obtain ⟨_, e1, k1, d, bs1, rfl, x1, R1⟩ := c_l6Open hS
 obtain ⟨w, c, cs, k2, q2, e2, v2, S2, R2, hq2, ch2⟩ := world1 R1 (by omega)
 have hp := R1.lt
 have l1 := x1.1
 obtain ⟨N, k3, e3, b3, R3, ch3⟩ := pick1 R2 (by omega) (m := 2) (by omega) (by omega)
 have v3 := v2.chgp ch3 hp
 have x3 := open_ext x1 hp (ch2.pp ch3)
 obtain ⟨_, e4, k4, c4, cs4, rfl, x4, v4⟩ := c_PlayTurns v3 40
 have e5 := c_WorldOk v4.rd
 simp only [encW] at e2 e4 e5
 by_cases y : N = 0
 ·subst y
  simp at e3
  by_cases a : WorldOk (playTurnsP w 40)
  ·have a' : tt (WorldOk (playTurnsP w 40)) = true := by simpa using a
   rw [a'] at e5
   simp [Tryz.f41, e1, e2, e3, e4, e5]
   exact ⟨k4, _, c4, cs4, rfl, x3.trans x4, v4.low x3.1⟩
  ·have a' : tt (WorldOk (playTurnsP w 40)) = false := by simpa using a
   rw [a'] at e5
   simp [Tryz.f41, e1, e2, e3, e4, e5]
   exact ⟨k4, w, c, cs, rfl, x3.trans x4, (v3.low l1).ext x4⟩
 ·have y' : ¬ (N : Int) = 0 := by omega
  simp [Tryz.f41, e1, e2, e3, y, y']
  exact ⟨k3, w, c, cs, rfl, x3, v3.low l1⟩
end Go.Proofs.YthnmkpocjgnjeaaGreat

/-
 WHAT WorldGive, FallEnd, WorldIdle ANSWER.
-/
set_option maxRecDepth 8000
namespace Go.Proofs.YthnmkpocjgnjeaaGreat
open Go.AM
variable {h k : H} {lo : Nat} {w : PWorld} {c : WorldC} {cs : List RunC}
theorem c_IndexFuncR {s : Cell} {xs : List RunC} (hS : Sl h s 13 encR xs) {f : FuncId} {caps : List (Nat × Nat × Nat)} {p : RunC → Bool} (ha : Answers h f caps encR xs p) :
  Dz.den 130 [.c s, .c (.fn f caps)] h = some (.c (.int .i64 (firstAt p xs)), h) := by
 refine den_plain rfl Tryz.func130 rfl rfl ?_
 simp [Tryz.f130, hS.lenA]
 refine count_wp xs.length (fun i => ([.c s, .c (.fn f caps), .c (ci 0), .c (ci xs.length), .c (ci i)], [], [], h)) (fun i => AllTo xs i fun x => p x = false) rfl (by simp) ?_ ?_
 ·intro i hi hP
  have e := ha _ (List.getElem_mem hi)
  simp only [encR] at e
  rw [Wp_body]
  simp [ixA_nat hS, hS.at, hi, wrap_succ (hS.lt hi), allTo_succ hi, e, hP]
  exact fun e => by rw [firstAt_some hi hP e]
 ·intro hP
  rw [Wp_body]
  simp
  rw [firstAt_none (allTo_len.1 hP)]
theorem c_ContainsFuncR {s : Cell} {xs : List RunC} (hS : Sl h s 13 encR xs) {f : FuncId} {caps : List (Nat × Nat × Nat)} {p : RunC → Bool} (ha : Answers h f caps encR xs p) :
  Dz.den 81 [.c s, .c (.fn f caps)] h = some (.c (.bool (xs.any p)), h) := by
 refine den_plain rfl Tryz.func81 rfl rfl ?_
 simp [Tryz.f81, c_IndexFuncR hS ha, firstAt_ge]
 rw [Bool.eq_iff_iff]; simp
theorem c_idle1 (r : RunC) : Dz.den 80 [.g (encR r)] h = some (.c (.bool (decide (r.state = 2) && decide (0 < r.due))), h) := by
 refine den_plain rfl Tryz.func80 rfl rfl ?_
 by_cases a : r.state = 2
 ·simp [Tryz.f80, a]
 ·simp [Tryz.f80, a]
def Timed (rs : List PRun) : Bool := rs.any fun r => decide (r.state = 2) && decide (0 < r.due)
def IdleB (w : PWorld) : Bool := decide (w.queue = []) && !Timed w.runs
theorem timed_c (hw : WorldR h w c cs) : (cs.any fun r => decide (r.state = 2) && decide (0 < r.due)) = Timed w.runs := by
 have hl := hw.runs.len
 unfold Timed
 rw [Bool.eq_iff_iff, List.any_eq_true, List.any_eq_true]
 constructor
 ·rintro ⟨x, hx, hp⟩
  obtain ⟨i, hi, rfl⟩ := List.mem_iff_getElem.1 hx
  have E := hw.runs.each i (by omega)
  refine ⟨w.runs[i]'(by omega), List.getElem_mem _, ?_⟩
  rw [← E.state, ← E.due]; exact hp
 ·rintro ⟨x, hx, hp⟩
  obtain ⟨i, hi, rfl⟩ := List.mem_iff_getElem.1 hx
  have E := hw.runs.each i hi
  refine ⟨cs[i]'(by omega), List.getElem_mem _, ?_⟩
  rw [E.state, E.due]; exact hp
theorem c_IWorldIdle (hw : WorldR h w c cs) : Dz.den 38 [.g (encW c)] h = some (.c (.bool (tt (WorldOk w) && IdleB w)), h) := by
 refine den_plain rfl Tryz.func38 rfl rfl ?_
 have e := c_IWorldOk hw
 have et : tt (WorldFits w) = tt (WorldOk w) := by
  have := fits_iff w
  by_cases a : WorldOk w
  ·rw [tt_fits a]; simpa using a
  ·have b : ¬ WorldFits w := fun q => a (this.1 q)
   rw [show tt (WorldFits w) = false by simpa using b, show tt (WorldOk w) = false by simpa using a]
 rw [et] at e
 have qL := hw.queue.lenA (e := 3)
 have e2 := c_ContainsFuncR hw.runs.sl (f := 80) (caps := []) (p := fun r => decide (r.state = 2) && decide (0 < r.due)) (fun r _ => c_idle1 r)
 rw [timed_c hw] at e2
 simp only [encW] at e
 unfold IdleB
 by_cases a : WorldOk w
 ·have a' : tt (WorldOk w) = true := by simpa using a
  rw [a'] at e
  rw [a']
  by_cases q : w.queue = []
  ·rw [q] at qL
   simp [Tryz.f38, e, qL, e2, q]
  ·have q' : ¬ w.queue.length = 0 := fun hh => q (List.length_eq_zero_iff.1 hh)
   simp [Tryz.f38, e, qL, q, q']
 ·have a' : tt (WorldOk w) = false := by simpa using a
  rw [a'] at e
  rw [a']
  simp [Tryz.f38, e]
theorem c_WorldIdle (hw : WorldR h w c cs) : Dz.den 42 [.g (encW c)] h = some (.c (.bool (tt (WorldOk w) && IdleB w)), h) := by
 refine den_plain rfl Tryz.func42 rfl rfl ?_
 have e := c_WorldOk hw
 have qL := hw.queue.lenA (e := 3)
 have hS := hw.runs.sl
 have hl := hw.runs.len
 simp only [encW] at e
 unfold IdleB
 by_cases a : WorldOk w
 rotate_left
 ·have a' : tt (WorldOk w) = false := by simpa using a
  rw [a'] at e
  rw [a']
  simp [Tryz.f42, e]
 have a' : tt (WorldOk w) = true := by simpa using a
 rw [a'] at e
 rw [a']
 by_cases q : w.queue = []
 rotate_left
 ·have q' : 0 < w.queue.length := List.length_pos_iff.2 q
  simp [Tryz.f42, e, qL, q, q']
 rw [q] at qL
 have many := a.many
 simp [Tryz.f42, e, qL, q]
 refine count_wp cs.length (fun i => ([.c (.bool false), .c (ci i)], [encW c], [], h)) (fun i => Timed (w.runs.take i) = false) (by simp) rfl ?_ ?_
 ·intro i hi hP
  have hi' : i < w.runs.length := by omega
  have E := hw.runs.each i hi'
  have wj : IntKind.i64.wrap ((i : Int) + 1) = (i : Int) + 1 := wrapS (by omega) (by omega)
  have tk : Timed (w.runs.take (i + 1)) = (Timed (w.runs.take i) || (decide (w.runs[i].state = 2) && decide (0 < w.runs[i].due))) := by
   unfold Timed
   rw [List.take_succ_eq_append_getElem hi', List.any_append]
   simp
  rw [Wp_body]
  by_cases y : w.runs[i].state = 2
  ·by_cases d : 0 < w.runs[i].due
   ·have ty : Timed w.runs = true := by
     unfold Timed; rw [List.any_eq_true]
     exact ⟨w.runs[i], List.getElem_mem hi', by simp [y, d]⟩
    simp [hS.lenA, hi, ixA_nat hS, hS.at, E.state, E.due, y, d, ty]
   ·simp [hS.lenA, hi, ixA_nat hS, hS.at, E.state, E.due, y, d, wj, tk, hP]
  ·simp [hS.lenA, hi, ixA_nat hS, hS.at, E.state, y, wj, tk, hP]
 ·intro hP
  rw [List.take_of_length_le (by omega)] at hP
  rw [Wp_body]
  simp [hS.lenA, hP, q]
end Go.Proofs.YthnmkpocjgnjeaaGreat

/-
 WORLDS IN PLAIN DATA: the order of turns.
-/
set_option maxRecDepth 8000
namespace Go.Proofs.YthnmkpocjgnjeaaGreat
variable {w w' : PWorld} {id hd : Int}
def Dead (w : PWorld) (k : Int) : Prop := 1 ≤ k ∧ ∃ r, w.runs[(k - 1).toNat]? = some r ∧ r.state = 3
theorem WK.dead {n : Nat} {k0 : Int} (x : WK (fun _ => False) n k0 w w') {k : Int} (d : Dead w k) : Dead w' k := by
 obtain ⟨h1, r, h2, h3⟩ := d
 obtain ⟨r', h4, q⟩ := x.each _ r (fun h => h) h2
 exact ⟨h1, r', h4, q.ended h3⟩
structure QW (hd : Int) (w w' : PWorld) : Prop where
 q : ∃ (p : Int → Bool) (t : List Int), w'.queue = w.queue.filter p ++ t ∧ (∀ k ∈ w.queue, p k = false → k = hd ∨ Dead w' k) ∧ ∀ k ∈ t, k = hd ∨ ¬ Dead w k
 dead : ∀ k, k ≠ hd → Dead w k → Dead w' k
theorem filt (l : List Int) : l.filter (fun _ => true) = l := List.filter_eq_self.2 (by simp)
theorem QW.same (e : w'.queue = w.queue) (d : ∀ k, k ≠ hd → Dead w k → Dead w' k) : QW hd w w' := ⟨⟨fun _ => true, [], by rw [e, filt, List.append_nil], by simp, by simp⟩, d⟩
theorem QW.wk {n : Nat} {k0 : Int} (e : w'.queue = w.queue) (x : WK (fun _ => False) n k0 w w') : QW hd w w' := QW.same e fun _ _ d => x.dead d
theorem QW.refl (w : PWorld) : QW hd w w := QW.same rfl fun _ _ d => d
theorem QW.trans {a b c : PWorld} (x : QW hd a b) (y : QW hd b c) : QW hd a c := by
 obtain ⟨p, t, e, r, n⟩ := x.q
 obtain ⟨p', t', e', r', n'⟩ := y.q
 refine ⟨⟨fun k => p k && p' k, t.filter p' ++ t', ?_, fun k hk hp => ?_, fun k hk => ?_⟩, fun k h d => y.dead k h (x.dead k h d)⟩
 ·rw [e', e, List.filter_append, List.filter_filter, List.append_assoc]
  congr 2
  funext k; exact Bool.and_comm _ _
 ·by_cases hh : k = hd
  ·exact .inl hh
  ·right
   by_cases hpk : p k = true
   ·have : k ∈ b.queue := by rw [e]; exact List.mem_append_left _ (List.mem_filter.2 ⟨hk, hpk⟩)
    have hp' : p' k = false := by simpa [hpk] using hp
    exact (r' k this hp').resolve_left hh
   ·have hpf : p k = false := by simpa using hpk
    exact y.dead k hh ((r k hk hpf).resolve_left hh)
 ·rcases List.mem_append.1 hk with h | h
  ·exact n k (List.mem_filter.1 h).1
  ·rcases n' k h with h1 | h1
   ·exact .inl h1
   ·by_cases hh : k = hd
    ·exact .inl hh
    ·exact .inr fun d => h1 (x.dead k hh d)
theorem QW.own {r' : PRun} {w2 : PWorld} (h1 : 1 ≤ hd) (er : w2.runs = w.runs.set (hd - 1).toNat r') (eq : w2.queue = w.queue ∨ w2.queue = less w.queue hd) : QW hd w w2 := by
 have dd : ∀ k, k ≠ hd → Dead w k → Dead w2 k := fun k h ⟨k1, r, h2, h3⟩ => ⟨k1, r, by rw [er, List.getElem?_set_ne (by omega)]; exact h2, h3⟩
 rcases eq with e | e
 ·exact QW.same e dd
 ·refine ⟨⟨fun x => decide (x ≠ hd), [], by rw [e]; simp [less], fun k hk hp => .inl (by simpa using hp), by simp⟩, dd⟩
end Go.Proofs.YthnmkpocjgnjeaaGreat

/-
 WORLDS IN PLAIN DATA: what a step makes of the run whose step it is.
-/
set_option maxRecDepth 8000
namespace Go.Proofs.YthnmkpocjgnjeaaGreat
variable {w w' : PWorld} {id : Int} {i : Nat} {r : PRun} {o : POp}
inductive OwnS (w : PWorld) (id : Int) (r : PRun) (o : POp) : PRun → Prop
 | set1 (k : o.kind = 1) : OwnS w id r o (nextRun (putRun r o.r o.v))
 | set2 (k : o.kind = 2) : OwnS w id r o (nextRun (putRun r o.r (slotAt r o.s)))
 | add (v : PVal) (k : o.kind = 3) (h : addP (slotAt r o.r) (slotAt r o.s) = some v) : OwnS w id r o (nextRun (putRun r o.r v))
 | self (k : o.kind = 4) : OwnS w id r o (nextRun (putRun r o.r ⟨3, id⟩))
 | start (k : o.kind = 5) : OwnS w id r o (nextRun (putRun r o.r (if 6 < w.runs.length + 1 then ⟨0, 0⟩ else ⟨3, w.runs.length + 1⟩)))
 | fall (b : PRun) (v : PVal) (k : o.kind = 3 ∧ addP (slotAt r o.r) (slotAt r o.s) = none ∧ v = ⟨2, 1⟩ ∨ o.kind = 14 ∧ v = slotAt r o.r ∨ (o.kind = 6 ∨ o.kind = 11 ∨ o.kind = 12) ∧ (slotAt r o.r).k ≠ 3 ∧ v = ⟨2, 2⟩) (q : RunK r b) (e : b.state = 3) (y : b.why = v) : OwnS w id r o b
 | take (k : o.kind = 7 ∨ o.kind = 8) (m : 0 ≤ mailAt r o.s) : OwnS w id r o (takeRun r o.r (mailAt r o.s).toNat)
 | wait (d : Int) (k : o.kind = 7 ∧ d = 0 ∨ o.kind = 8 ∧ ¬ r.due < 0 ∧ d = w.now + o.v.n) (m : ¬ 0 ≤ mailAt r o.s) : OwnS w id r o { r with state := 2, due := d }
 | after (k : o.kind = 8) (m : ¬ 0 ≤ mailAt r o.s) (d : r.due < 0) : OwnS w id r o { r with due := 0, at_ := o.to }
 | go (k : o.kind = 9) : OwnS w id r o { r with at_ := o.to }
 | cond (k : o.kind = 10) : OwnS w id r o { r with at_ := if slotAt r o.r = o.v then o.to else r.at_ + 1 }
 | trap (k : o.kind = 13) : OwnS w id r o { r with trap := decide (o.v.n = 1), at_ := r.at_ + 1 }
 | other (b : PRun) (k : o.kind = 6 ∨ o.kind = 11 ∨ o.kind = 12) (t : (slotAt r o.r).k = 3) (q : RunK (nextRun r) b) : OwnS w id r o b
theorem Turn.alive (T : Turn w id i r o) : Alive w id := ⟨by have := T.e0; have := T.hi; omega, by rw [T.at_, T.going]; decide⟩
end Go.Proofs.YthnmkpocjgnjeaaGreat

/-
 WORLDS IN PLAIN DATA: what the laws of steps and turns ask.
-/
set_option maxRecDepth 8000
namespace Go.Proofs.YthnmkpocjgnjeaaGreat
variable {w w' : PWorld} {id : Int} {i : Nat} {r b : PRun} {o : POp}
theorem hasP {f s k : Int} (hf : 0 ≤ f ∧ f ≤ 15) (hs : 0 ≤ s ∧ s ≤ 3) (hk : 0 ≤ k ∧ k ≤ 3) (h : k ≠ s) : has (withB f s) k = has f k := by
 rw [hasW hf.1 hf.2 hs.1 hs.2 hk.1 hk.2]
 have hn : ¬ s = k := fun e => h e.symm
 simp [hn]
structure OwnT (r b : PRun) (o : POp) : Prop where
 slots : ∀ k : Nat, k ≤ 3 → (k : Int) ≠ o.r → b.slots[k]? = r.slots[k]? ∧ has b.full k = has r.full k
 at_ : b.state = 3 ∨ b.at_ = r.at_ + 1 ∨ b.at_ = o.to ∨ b.state = 2 ∧ b.at_ = r.at_
theorem OwnS.t (S : OwnS w id r o b) (R : RunOk r) (ok : opOk o = true) : OwnT r b o := by
 have hr := op_r ok
 have put : ∀ v, ∀ k : Nat, k ≤ 3 → (k : Int) ≠ o.r → (putRun r o.r v).slots[k]? = r.slots[k]? ∧ has (putRun r o.r v).full k = has r.full k := fun v k hk hne => by
  refine ⟨?_, hasP R.full hr (by omega) hne⟩
  simp only [putRun]
  rw [List.getElem?_set_ne (by omega)]
 cases S with
 | set1 k => exact ⟨put _, .inr (.inl rfl)⟩
 | set2 k => exact ⟨put _, .inr (.inl rfl)⟩
 | add v k h => exact ⟨put _, .inr (.inl rfl)⟩
 | self k => exact ⟨put _, .inr (.inl rfl)⟩
 | start k => exact ⟨put _, .inr (.inl rfl)⟩
 | fall _ v k q e y => exact ⟨fun k _ _ => by rw [q.slots, q.full]; exact ⟨rfl, rfl⟩, .inl e⟩
 | take k m => exact ⟨put _, .inr (.inl rfl)⟩
 | wait d k m => exact ⟨fun _ _ _ => ⟨rfl, rfl⟩, .inr (.inr (.inr ⟨rfl, rfl⟩))⟩
 | after k m d => exact ⟨fun _ _ _ => ⟨rfl, rfl⟩, .inr (.inr (.inl rfl))⟩
 | go k => exact ⟨fun _ _ _ => ⟨rfl, rfl⟩, .inr (.inr (.inl rfl))⟩
 | cond k =>
  refine ⟨fun _ _ _ => ⟨rfl, rfl⟩, ?_⟩
  by_cases c : slotAt r o.r = o.v
  ·exact .inr (.inr (.inl (by simp only; rw [if_pos c])))
  ·exact .inr (.inl (by simp only; rw [if_neg c]))
 | trap k => exact ⟨fun _ _ _ => ⟨rfl, rfl⟩, .inr (.inl rfl)⟩
 | other _ k t q => exact ⟨fun k _ _ => by rw [q.slots, q.full]; exact ⟨rfl, rfl⟩, .inr (.inl (by rw [q.at_]; rfl))⟩
theorem OwnS.k5 (S : OwnS w id r o b) (R : RunOk r) (ok : opOk o = true) (h : o.kind = 5) : b.slots[o.r.toNat]?.getD default = if 6 < w.runs.length + 1 then ⟨0, 0⟩ else ⟨3, w.runs.length + 1⟩ := by
 have hr := op_r ok
 have hl := R.len
 cases S with
 | start k =>
  show (r.slots.set o.r.toNat _)[o.r.toNat]?.getD default = _
  rw [List.getElem?_set_self (by omega)]; rfl
 | _ => omega
end Go.Proofs.YthnmkpocjgnjeaaGreat
