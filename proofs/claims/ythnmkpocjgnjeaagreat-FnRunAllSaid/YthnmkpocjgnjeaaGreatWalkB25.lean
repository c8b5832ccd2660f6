/-
  What functions of the seat answer, each proved once; each under the condition that cells bear what it is given, as its statement says.
-/
import Derived.Test.YthnmkpocjgnjeaaGreatWalkB24
import Derived.Test.YthnmkpocjgnjeaaGreatWalkB20
import Derived.Test.YthnmkpocjgnjeaaGreatWalkB23
set_option linter.all false
/-
 WORLDS IN PLAIN DATA: how many turns were had matters to no step.
-/
set_option maxRecDepth 8000
namespace Go.Proofs.YthnmkpocjgnjeaaGreat
variable {w : PWorld} {id : Int}
def zr (r : PRun) : PRun := { r with turns := 0 }
theorem zr_slot (r : PRun) (k : Int) : slotAt (zr r) k = slotAt r k := id rfl
def Z (w : PWorld) : PWorld := { w with runs := w.runs.map zr }
theorem Z_len (w : PWorld) : (Z w).runs.length = w.runs.length := by simp [Z]
theorem Z_at (w : PWorld) (k : Int) : runAt (Z w) k = zr (runAt w k) := by
 unfold runAt Z
 simp only [List.getElem?_map]
 cases w.runs[(k - 1).toNat]? <;> rfl
theorem Z_set (w : PWorld) (k : Int) (r : PRun) : setRun (Z w) k (zr r) = Z (setRun w k r) := by
 unfold setRun Z
 simp only [List.map_set]
theorem Z_give (w : PWorld) (k : Int) (v : PVal) : giveP (Z w) k v = Z (giveP w k v) := by
 have tk : Takes (Z w) k ↔ Takes w k := by unfold Takes; rw [Z_len, Z_at]; exact Iff.rfl
 have wk : Wakes (Z w) (runAt (Z w) k) v ↔ Wakes w (runAt w k) v := by rw [Z_at]; exact Iff.rfl
 unfold giveP
 by_cases t : Takes w k
 ·rw [if_pos t, if_pos (tk.2 t)]
  by_cases x : Wakes w (runAt w k) v
  ·rw [if_pos x, if_pos (wk.2 x), Z_at]
   unfold Z zr
   simp only [List.map_set]
  ·rw [if_neg x, if_neg (fun h => x (wk.1 h)), Z_at]
   unfold Z zr
   simp only [List.map_set]
 ·rw [if_neg t, if_neg (fun h => t (tk.1 h))]
  rfl
theorem Z_tell (k : Int) : ∀ (ks : List Int) (w : PWorld), tell k (Z w) ks = Z (tell k w ks)
 | [], w => rfl
 | a :: ks, w => by
  unfold tell
  rw [List.foldl_cons, List.foldl_cons, Z_give]
  exact Z_tell k ks _
theorem Z_linkStep (k : Int) (why : PVal) (x : PWorld × List Int) (a : Int) : linkStep k why (Z x.1, x.2) a = (Z (linkStep k why x a).1, (linkStep k why x a).2) := by
 have s : setRun (Z x.1) a { runAt (Z x.1) a with links := less (runAt (Z x.1) a).links k } = Z (setRun x.1 a { runAt x.1 a with links := less (runAt x.1 a).links k }) := by
  rw [← Z_set, Z_at]; rfl
 have t : (runAt (Z x.1) a).trap = (runAt x.1 a).trap := by rw [Z_at]; rfl
 unfold linkStep
 simp only [s]
 simp only [t]
 split
 ·rfl
 ·split
  ·rw [Z_give]
  ·rfl
theorem Z_endLinks (k : Int) (why : PVal) : ∀ (ks : List Int) (x : PWorld × List Int), ks.foldl (linkStep k why) (Z x.1, x.2) = (Z (ks.foldl (linkStep k why) x).1, (ks.foldl (linkStep k why) x).2)
 | [], x => rfl
 | a :: ks, x => by
  rw [List.foldl_cons, List.foldl_cons, Z_linkStep]
  exact Z_endLinks k why ks _
theorem Z_end (w : PWorld) (k : Int) (why : PVal) : endP (Z w) k why = (Z (endP w k why).1, (endP w k why).2) := by
 have b : endBase (Z w) k why = Z (endBase w k why) := by
  unfold endBase
  rw [Z_at]
  unfold Z
  simp only [List.map_set, List.map_map]
  rfl
 have l : (runAt (Z w) k).links = (runAt w k).links := by rw [Z_at]; rfl
 have v : (runAt (Z w) k).watched = (runAt w k).watched := by rw [Z_at]; rfl
 unfold endP endLinks
 rw [b, l, v, Z_endLinks k why _ (endBase w k why, [])]
 simp only
 rw [Z_tell]
theorem Z_fallN (why : PVal) : ∀ (n : Nat) (w : PWorld) (ks : List Int), fallN n (Z w) ks why = Z (fallN n w ks why)
 | 0, w, ks => rfl
 | n + 1, w, [] => rfl
 | n + 1, w, k :: ks => by
  have al : Alive (Z w) k ↔ Alive w k := by unfold Alive; rw [Z_len, Z_at]; exact Iff.rfl
  unfold fallN
  by_cases a : Alive w k
  ·rw [if_pos a, if_pos (al.2 a), Z_end]
   simp only
   exact Z_fallN why n _ _
  ·rw [if_neg a, if_neg (fun h => a (al.1 h))]
   exact Z_fallN why n w ks
theorem Z_fall (w : PWorld) (k : Int) (why : PVal) : fallP (Z w) k why = Z (fallP w k why) := Z_fallN why 64 w [k]
def stepZB (w : PWorld) (id : Int) (r : PRun) (o : POp) : PWorld :=
 if o.kind = 1 then setP w id o.r o.v
 else if o.kind = 2 then setP w id o.r (slotAt r o.s)
 else if o.kind = 3 then (match addP (slotAt r o.r) (slotAt r o.s) with | none => fallP w id ⟨2, 1⟩ | some v => setP w id o.r v)
 else if o.kind = 4 then setP w id o.r ⟨3, id⟩
 else if o.kind = 5 then beginP w id o
 else if o.kind = 7 ∨ o.kind = 8 then takeP w id o
 else if o.kind = 9 then setRun w id { r with at_ := o.to }
 else if o.kind = 10 then setRun w id { r with at_ := if slotAt r o.r = o.v then o.to else r.at_ + 1 }
 else if o.kind = 13 then setRun w id { r with trap := decide (o.v.n = 1), at_ := r.at_ + 1 }
 else if o.kind = 14 then fallP w id (slotAt r o.r)
 else otherP w id o
theorem stepP_B (w : PWorld) (id : Int) : stepP w id = stepZB w id (runAt w id) (codeAt w (runAt w id).at_) := rfl
theorem Z_other (w : PWorld) (id : Int) (o : POp) : otherP (Z w) id o = Z (otherP w id o) := by
 have al : ∀ k, Alive (Z w) k ↔ Alive w k := fun k => by unfold Alive; rw [Z_len, Z_at]; exact Iff.rfl
 have hs : ∀ k, slotAt (runAt (Z w) id) k = slotAt (runAt w id) k := fun k => by rw [Z_at]; rfl
 have hwt : ∀ k, (runAt (Z w) k).watched = (runAt w k).watched := fun k => by rw [Z_at]; rfl
 have hl : (runAt (Z w) id).links = (runAt w id).links := by rw [Z_at]; rfl
 have nx : setRun (Z w) id (nextRun (runAt (Z w) id)) = Z (setRun w id (nextRun (runAt w id))) := by rw [Z_at, ← Z_set]; rfl
 unfold otherP
 simp only
 rw [hs, hs, nx, hl, hwt]
 generalize setRun w id (nextRun (runAt w id)) = u
 generalize hto : slotAt (runAt w id) o.r = to
 by_cases k1 : to.k ≠ 3
 ·rw [if_pos k1, if_pos k1]; exact Z_fall w id _
 rw [if_neg k1, if_neg k1]
 by_cases k2 : o.kind = 6
 ·rw [if_pos k2, if_pos k2]; exact Z_give _ _ _
 rw [if_neg k2, if_neg k2]
 by_cases k3 : o.kind = 12 ∧ ¬ Alive w to.n
 ·rw [if_pos k3, if_pos ⟨k3.1, fun h => k3.2 ((al _).1 h)⟩]; exact Z_give _ _ _
 rw [if_neg k3, if_neg (fun h => k3 ⟨h.1, fun q => h.2 ((al _).2 q)⟩)]
 by_cases k4 : to.n = id ∨ ¬ Alive w to.n
 ·rw [if_pos k4, if_pos (k4.imp_right fun h q => h ((al _).1 q))]
 rw [if_neg k4, if_neg (fun h => k4 (h.imp_right fun q x => q ((al _).2 x)))]
 by_cases k5 : o.kind = 12 ∧ id ∉ (runAt w to.n).watched
 ·rw [if_pos k5, if_pos k5]
  unfold watchP
  rw [Z_at]
  exact Z_set u to.n { runAt u to.n with watched := (runAt u to.n).watched ++ [id] }
 rw [if_neg k5, if_neg k5]
 by_cases k6 : o.kind = 11 ∧ to.n ∉ (runAt w id).links
 ·rw [if_pos k6, if_pos k6]
  unfold linkP
  simp only
  rw [Z_at]
  have e : setRun (Z u) id { zr (runAt u id) with links := (zr (runAt u id)).links ++ [to.n] } = Z (setRun u id { runAt u id with links := (runAt u id).links ++ [to.n] }) := Z_set u id { runAt u id with links := (runAt u id).links ++ [to.n] }
  rw [e, Z_at]
  exact Z_set _ to.n { runAt (setRun u id { runAt u id with links := (runAt u id).links ++ [to.n] }) to.n with links := (runAt (setRun u id { runAt u id with links := (runAt u id).links ++ [to.n] }) to.n).links ++ [id] }
 rw [if_neg k6, if_neg k6]
theorem Z_step (w : PWorld) (id : Int) : stepP (Z w) id = Z (stepP w id) := by
 have s : ∀ (u : PWorld) (r : PRun) (q : PRun), q = zr r → setRun (Z u) id q = Z (setRun u id r) := fun u r q h => by rw [h, Z_set]
 have ho : codeAt (Z w) (runAt (Z w) id).at_ = codeAt w (runAt w id).at_ := by rw [Z_at]; rfl
 have hr : runAt (Z w) id = zr (runAt w id) := Z_at w id
 have hm : ∀ k, mailAt (runAt (Z w) id) k = mailAt (runAt w id) k := fun k => by rw [Z_at]; rfl
 have hd : (runAt (Z w) id).due = (runAt w id).due := by rw [Z_at]; rfl
 have st : ∀ slot v, setP (Z w) id slot v = Z (setP w id slot v) := fun slot v => by unfold setP; exact s w _ _ (by rw [hr]; rfl)
 have wt : ∀ d, waitP (Z w) id d = Z (waitP w id d) := fun d => by
  unfold waitP
  rw [s w { runAt w id with state := 2, due := d } _ (by rw [hr]; rfl)]
  rfl
 rw [stepP_B, stepP_B, ho, hr]
 generalize codeAt w (runAt w id).at_ = o
 unfold stepZB
 by_cases k1 : o.kind = 1
 ·rw [if_pos k1, if_pos k1]; exact st _ _
 rw [if_neg k1, if_neg k1]
 by_cases k2 : o.kind = 2
 ·rw [if_pos k2, if_pos k2]; exact st _ _
 rw [if_neg k2, if_neg k2]
 by_cases k3 : o.kind = 3
 ·rw [if_pos k3, if_pos k3, zr_slot, zr_slot]
  cases addP (slotAt (runAt w id) o.r) (slotAt (runAt w id) o.s) with
  | none => exact Z_fall w id _
  | some v => exact st _ _
 rw [if_neg k3, if_neg k3]
 by_cases k4 : o.kind = 4
 ·rw [if_pos k4, if_pos k4]; exact st _ _
 rw [if_neg k4, if_neg k4]
 by_cases k5 : o.kind = 5
 ·rw [if_pos k5, if_pos k5]
  unfold beginP
  rw [Z_len]
  by_cases c : 6 < w.runs.length + 1
  ·rw [if_pos c, if_pos c]; exact st _ _
  ·rw [if_neg c, if_neg c]
   have a : addRunP (Z w) id o = Z (addRunP w id o) := by
    unfold addRunP Z
    simp [newRun, zr]
   rw [a]
   unfold setP
   exact s _ _ _ (by rw [Z_at]; rfl)
 rw [if_neg k5, if_neg k5]
 by_cases k7 : o.kind = 7 ∨ o.kind = 8
 ·rw [if_pos k7, if_pos k7]
  unfold takeP
  rw [hm, hd]
  by_cases c : 0 ≤ mailAt (runAt w id) o.s
  ·rw [if_pos c, if_pos c, s w (takeRun (runAt w id) o.r (mailAt (runAt w id) o.s).toNat) _ (by rw [hr]; rfl)]
   rfl
  rw [if_neg c, if_neg c]
  by_cases c2 : o.kind = 7
  ·rw [if_pos c2, if_pos c2]; exact wt _
  rw [if_neg c2, if_neg c2]
  by_cases c3 : (runAt w id).due < 0
  ·rw [if_pos c3, if_pos c3]; exact s w { runAt w id with due := 0, at_ := o.to } _ (by rw [hr]; rfl)
  rw [if_neg c3, if_neg c3]; exact wt _
 rw [if_neg k7, if_neg k7]
 by_cases k9 : o.kind = 9
 ·rw [if_pos k9, if_pos k9]; exact s w { runAt w id with at_ := o.to } _ rfl
 rw [if_neg k9, if_neg k9]
 by_cases k10 : o.kind = 10
 ·rw [if_pos k10, if_pos k10]; exact s w { runAt w id with at_ := if slotAt (runAt w id) o.r = o.v then o.to else (runAt w id).at_ + 1 } _ rfl
 rw [if_neg k10, if_neg k10]
 by_cases k13 : o.kind = 13
 ·rw [if_pos k13, if_pos k13]; exact s w { runAt w id with trap := decide (o.v.n = 1), at_ := (runAt w id).at_ + 1 } _ rfl
 rw [if_neg k13, if_neg k13]
 by_cases k14 : o.kind = 14
 ·rw [if_pos k14, if_pos k14]; exact Z_fall w id _
 rw [if_neg k14, if_neg k14]
 exact Z_other w id o
theorem Z_steps (id : Int) : ∀ (n : Nat) (w : PWorld), stepsP n (Z w) id = Z (stepsP n w id)
 | 0, w => rfl
 | n + 1, w => by
  have e : (runAt (Z w) id).state = (runAt w id).state := by rw [Z_at]; rfl
  unfold stepsP
  rw [e]
  split
  ·rw [Z_step]; exact Z_steps id n _
  ·rfl
theorem Z_count (w : PWorld) (id : Int) : Z (countP' w id) = Z w := by
 have : Z (countP' w id) = setRun (Z w) id (zr (runAt w id)) := by
  unfold countP'
  rw [← Z_set]
  rfl
 rw [this, ← Z_at]
 unfold setRun runAt
 by_cases h : (id - 1).toNat < (Z w).runs.length
 ·rw [List.getElem?_eq_getElem h, Option.getD_some, List.set_getElem_self]
 ·rw [List.set_eq_of_length_le (by omega)]
end Go.Proofs.YthnmkpocjgnjeaaGreat

/-
 WORLDS IN PLAIN DATA: everybody has a turn in time.
-/
set_option maxRecDepth 8000
namespace Go.Proofs.YthnmkpocjgnjeaaGreat
variable {w : PWorld}
theorem turn_at (G : Good w) (hq : w.queue ≠ []) (hb : turnsOf w.runs < 9999) {k : Int} (hk : 1 ≤ k ∧ k ≤ w.runs.length) : (runAt (turnP w) k).turns = (runAt w k).turns + if k = headQ w then 1 else 0 := by
 obtain ⟨hl, x⟩ := turn_wk G.inv hq
 obtain ⟨hid, h1⟩ := G.inv.head hq
 have t := (turnsOf_le (rs := w.runs) fun r hr => by
  obtain ⟨i, hi, rfl⟩ := List.mem_iff_getElem.1 hr
  exact (G.inv.each i _ (List.getElem?_eq_getElem hi)).ok.turns.1).2 _ (List.mem_of_getElem? (runAt_in hk))
 have lc : (countP' w (headQ w)).runs.length = w.runs.length := by unfold countP'; exact setRun_len
 obtain ⟨r', h2, q⟩ := x.turns _ _ (runAt_in (w := countP' w (headQ w)) (id := k) (by rw [lc]; exact hk))
 rw [runAt_some h2, q]
 unfold countP'
 rw [runAt_set hid hk.1]
 by_cases e : k = headQ w
 ·subst e; simp; omega
 ·simp [e]
end Go.Proofs.YthnmkpocjgnjeaaGreat

/-
 WORLDS IN PLAIN DATA: a turn is some steps.
-/
set_option maxRecDepth 8000
namespace Go.Proofs.YthnmkpocjgnjeaaGreat
variable {w : PWorld} {id : Int}
def stepI (w : PWorld) (id : Int) : Nat → PWorld
 | 0 => w
 | i + 1 => stepP (stepI w id i) id
abbrev Goes (w : PWorld) (id : Int) : Prop := (runAt w id).state = 1
theorem stepsP_iter : ∀ (i n : Nat), (∀ j, j < i → Goes (stepI w id j) id) → stepsP (i + n) w id = stepsP n (stepI w id i) id
 | 0, n, _ => by rw [Nat.zero_add]; rfl
 | i + 1, n, h => by
  have ih := stepsP_iter i (n + 1) fun j hj => h j (by omega)
  rw [show i + 1 + n = i + (n + 1) by omega, ih, stepsP, if_pos (h i (by omega))]
  rfl
theorem stepsP_stop (n : Nat) (h : ¬ Goes w id) : stepsP n w id = w := by
 cases n with
 | zero => rfl
 | succ n => rw [stepsP, if_neg h]
theorem steps_stop (w : PWorld) (id : Int) : ∃ N, N ≤ 3 ∧ (∀ j, j < N → Goes (stepI w id j) id) ∧ (N = 3 ∨ ¬ Goes (stepI w id N) id) ∧ stepsP 3 w id = stepI w id N := by
 have fin : ∀ N, N ≤ 3 → (∀ j, j < N → Goes (stepI w id j) id) → (N = 3 ∨ ¬ Goes (stepI w id N) id) → stepsP 3 w id = stepI w id N := fun N h3 hg hs => by
  have := stepsP_iter N (3 - N) hg
  rw [show N + (3 - N) = 3 by omega] at this
  rw [this]
  rcases hs with rfl | hs
  ·rfl
  ·exact stepsP_stop _ hs
 by_cases g0 : Goes (stepI w id 0) id
 rotate_left
 ·exact ⟨0, by omega, fun j hj => by omega, .inr g0, fin 0 (by omega) (fun j hj => by omega) (.inr g0)⟩
 by_cases g1 : Goes (stepI w id 1) id
 rotate_left
 ·have a : ∀ j, j < 1 → Goes (stepI w id j) id := fun j hj => by rw [show j = 0 by omega]; exact g0
  exact ⟨1, by omega, a, .inr g1, fin 1 (by omega) a (.inr g1)⟩
 by_cases g2 : Goes (stepI w id 2) id
 rotate_left
 ·have a : ∀ j, j < 2 → Goes (stepI w id j) id := fun j hj => by
   by_cases e : j = 0
   ·subst e; exact g0
   ·rw [show j = 1 by omega]; exact g1
  exact ⟨2, by omega, a, .inr g2, fin 2 (by omega) a (.inr g2)⟩
 have a : ∀ j, j < 3 → Goes (stepI w id j) id := fun j hj => by
  by_cases e : j = 0
  ·subst e; exact g0
  ·by_cases e : j = 1
   ·subst e; exact g1
   ·rw [show j = 2 by omega]; exact g2
 exact ⟨3, by omega, a, .inl rfl, fin 3 (by omega) a (.inl rfl)⟩
theorem turnsP_none {w : PWorld} (h : w.queue = []) : ∀ n, turnsP n w = w
 | 0 => rfl
 | n + 1 => by rw [turnsP, turnsP_none h n]; unfold turnP; rw [if_pos h]
theorem zr_same {a b : PRun} (h : zr a = zr b) : { a with turns := b.turns } = b := congrArg (fun r : PRun => { r with turns := b.turns }) h
structure StepsI (w : PWorld) (id : Int) (i : Nat) : Prop where
 good : Good (stepI w id i)
 phi : phi (stepI w id i) ≤ phi w + 12 * i
 len : w.runs.length ≤ (stepI w id i).runs.length
 head : Goes (stepI w id i) id → HeadIs (stepI w id i) id
theorem stepsI (G : Good w) (hq : w.queue ≠ []) : ∀ i, (∀ j, j < i → Goes (stepI w (headQ w) j) (headQ w)) → StepsI w (headQ w) i
 | 0, _ => ⟨G, by simp [stepI], Nat.le_refl _, fun _ => by
   unfold HeadIs stepI headQ
   cases hh : w.queue with
   | nil => exact absurd hh hq
   | cons a t => exact ⟨t, rfl⟩⟩
 | i + 1, h => by
  have ih := stepsI G hq i fun j hj => h j (by omega)
  have g := h i (by omega)
  obtain ⟨hid, _⟩ := G.inv.head hq
  have rng : 1 ≤ headQ w ∧ headQ w ≤ (stepI w (headQ w) i).runs.length := by have := ih.len; omega
  have K := ih.good.stepG rng g
  obtain ⟨k, T⟩ := ih.good.inv.turn rng g
  exact ⟨K.g, by have := K.k.phi; have := ih.phi; rw [stepI]; omega, by have := K.k.len; have := ih.len; rw [stepI]; omega, fun g2 => T.head ih.good (ih.head g) g2⟩
theorem turn_steps (hq : w.queue ≠ []) : (turnP w).runs.map zr = (stepsP 3 w (headQ w)).runs.map zr ∧ (turnP w).sent = (stepsP 3 w (headQ w)).sent ∧ (turnP w).taken = (stepsP 3 w (headQ w)).taken ∧ (turnP w).lost = (stepsP 3 w (headQ w)).lost := by
 have e : Z (stepsP 3 (countP' w (headQ w)) (headQ w)) = Z (stepsP 3 w (headQ w)) := by
  rw [← Z_steps, ← Z_steps, Z_count]
 have tp : turnP w = backP (stepsP 3 (countP' w (headQ w)) (headQ w)) (headQ w) := by unfold turnP; rw [if_neg hq]
 have b : ∀ u : PWorld, (backP u (headQ w)).runs = u.runs ∧ (backP u (headQ w)).sent = u.sent ∧ (backP u (headQ w)).taken = u.taken ∧ (backP u (headQ w)).lost = u.lost := fun u => by
  unfold backP; split <;> exact ⟨rfl, rfl, rfl, rfl⟩
 rw [tp]
 obtain ⟨b1, b2, b3, b4⟩ := b (stepsP 3 (countP' w (headQ w)) (headQ w))
 rw [b1, b2, b3, b4]
 exact ⟨(by have := congrArg PWorld.runs e; exact this), (by have := congrArg PWorld.sent e; exact this), (by have := congrArg PWorld.taken e; exact this), (by have := congrArg PWorld.lost e; exact this)⟩
theorem turn_last (G : Good w) (hq : w.queue ≠ []) (g : Goes (turnP w) (headQ w)) : ∃ l, (turnP w).queue = l ++ [headQ w] := by
 have tp : turnP w = backP (stepsP 3 (countP' w (headQ w)) (headQ w)) (headQ w) := by unfold turnP; rw [if_neg hq]
 rw [tp] at g ⊢
 unfold backP at g ⊢
 split
 ·exact ⟨_, rfl⟩
 ·rename_i n
  rw [if_neg n] at g
  exact absurd g n
end Go.Proofs.YthnmkpocjgnjeaaGreat

/-
 WORLDS IN PLAIN DATA: all are ended.
-/
set_option maxRecDepth 8000
namespace Go.Proofs.YthnmkpocjgnjeaaGreat
variable {w : PWorld}
def killsTo (w : PWorld) (v : PVal) : Nat → PWorld
 | 0 => w
 | i + 1 => doP (killsTo w v i) ⟨4, (i : Int) + 1, v⟩
theorem kill_len (G : Good w) (id : Int) (v : PVal) : (doP w ⟨4, id, v⟩).runs.length = w.runs.length := by
 have x := (doP_quiet w ⟨4, id, v⟩ (by simp)).1
 have := x.len; have := x.len2; omega
theorem kills (G : Good w) {v : PVal} (hv : valOk v = true) : ∀ i, i ≤ w.runs.length → Good (killsTo w v i) ∧ phi (killsTo w v i) ≤ phi w + 36 * i ∧ (killsTo w v i).runs.length = w.runs.length ∧ ∀ k : Nat, k < i → (runAt (killsTo w v i) ((k : Int) + 1)).state = 3
 | 0, _ => ⟨G, by simp [killsTo], rfl, fun k hk => by omega⟩
 | i + 1, h => by
  obtain ⟨a, b, c, d⟩ := kills G hv i (by omega)
  obtain ⟨a2, b2, _, _⟩ := a.doG ⟨4, (i : Int) + 1, v⟩
  refine ⟨a2, by rw [killsTo]; omega, by rw [killsTo, kill_len a, c], fun k hk => ?_⟩
  rw [killsTo]
  by_cases e : k = i
  ·subst e
   exact kill_ended (by omega) hv
  ·have x := (doP_quiet (killsTo w v i) ⟨4, (i : Int) + 1, v⟩ (by simp)).1
   exact (x.at_ (id := (k : Int) + 1) (by omega) (fun h => h)).ended (d k (by omega))
structure AllEnded (w : PWorld) : Prop where
 queue : w.queue = []
 mail : mailSum w.runs = 0
 alive : aliveN w.runs = 0
 all : ∀ r ∈ w.runs, r.state = 3
theorem all_ended (G : Good w) (h : ∀ k : Nat, k < w.runs.length → (runAt w ((k : Int) + 1)).state = 3) : AllEnded w := by
 have I := G.inv
 have st : ∀ r ∈ w.runs, r.state = 3 ∧ r.mail = [] := fun r hr => by
  obtain ⟨i, hi, rfl⟩ := List.mem_iff_getElem.1 hr
  have s := h i hi
  rw [runAt_nat hi] at s
  exact ⟨s, ((I.each i _ (List.getElem?_eq_getElem hi)).ok.ended s).1⟩
 refine ⟨?_, ?_, ?_, fun r hr => (st r hr).1⟩
 ·cases hq : w.queue with
  | nil => rfl
  | cons a t =>
   obtain ⟨i, ei, r, hr, h1⟩ := (I.mem a).1 (by rw [hq]; simp)
   have := (st r (List.mem_of_getElem? hr)).1
   rw [h1] at this; cases this
 ·have : w.runs.map (fun r => (r.mail.length : Int)) = w.runs.map fun _ => 0 := List.map_congr_left fun r hr => by rw [(st r hr).2]; rfl
  unfold mailSum
  rw [this]
  clear this st h I G
  induction w.runs with
  | nil => rfl
  | cons a l ih => simp only [List.map_cons, List.sum_cons, ih]; rfl
 ·unfold aliveN
  rw [List.countP_eq_zero]
  intro r hr
  simp [(st r hr).1]
end Go.Proofs.YthnmkpocjgnjeaaGreat

/-
 WORLDS IN PLAIN DATA: steps that send, link, watch, end.
-/
set_option maxRecDepth 8000
namespace Go.Proofs.YthnmkpocjgnjeaaGreat
variable {w w' : PWorld} {id : Int} {i : Nat} {r b : PRun} {o : POp}
theorem Turn.rng (T : Turn w id i r o) : 1 ≤ id ∧ id ≤ w.runs.length := by have := T.e0; have := T.hi; omega
def St3 (u : PWorld) (i : Nat) : Prop := ∀ b, u.runs[i]? = some b → b.state ≠ 3
theorem St3.set {u u2 : PWorld} (s : St3 u i) {j : Nat} {r' : PRun} (e : u2.runs = u.runs.set j r') (h : ∀ q, u.runs[j]? = some q → q.state ≠ 3 → r'.state ≠ 3) : St3 u2 i := fun b hb => by
 rw [e] at hb
 by_cases hj : j = i
 ·subst hj
  have hl : j < u.runs.length := by
   have := (List.getElem?_eq_some_iff.1 hb).1
   simpa using this
  rw [List.getElem?_set_self hl] at hb
  cases hb
  exact h _ (List.getElem?_eq_getElem hl) (s _ (List.getElem?_eq_getElem hl))
 ·rw [List.getElem?_set_ne hj] at hb
  exact s b hb
theorem St3.give {u : PWorld} (s : St3 u i) (k : Int) (v : PVal) : St3 (giveP u k v) i := by
 unfold giveP
 split
 ·split
  ·exact s.set rfl fun q _ _ => by simp
  ·exact s.set (j := (k - 1).toNat) rfl fun q hq h3 => by rw [runAt_some hq]; exact h3
 ·exact s
theorem OwnS.on (S : OwnS w id r o b) (k : o.kind = 6 ∨ o.kind = 11 ∨ o.kind = 12) (t : (slotAt r o.r).k = 3) : b.at_ = r.at_ + 1 := by
 cases S with
 | fall _ v k2 q e y =>
  rcases k2 with k2 | k2 | k2
  ·omega
  ·omega
  ·exact absurd t k2.2.1
 | other _ k2 t2 q => exact q.at_
 | _ => omega
end Go.Proofs.YthnmkpocjgnjeaaGreat

/-
 A LAW OF WORLDS BEGINS: what happens, many turns.
-/
set_option maxRecDepth 8000
namespace Go.Proofs.YthnmkpocjgnjeaaGreat
open Go.AM
variable {h k : H} {bs : List Int} {s : Cell}
theorem playDo_ok {w : PWorld} (r : Room w) (e : PEvent) : playDoP w e = doP w e := by unfold playDoP; rw [if_pos (by simpa using r)]
end Go.Proofs.YthnmkpocjgnjeaaGreat

/-
 WORLDS IN PLAIN DATA: ticks of time.
-/
set_option maxRecDepth 8000
namespace Go.Proofs.YthnmkpocjgnjeaaGreat
variable {w : PWorld}
def tickR (t : Int) (r : PRun) : PRun := if r.state = 2 ∧ r.due = t then { r with state := 1, due := -1 } else r
def dueTo (rs : List PRun) (t : Int) : Nat → List Int
 | 0 => []
 | i + 1 => dueTo rs t i ++ if (rs[i]?.getD default).state = 2 ∧ (rs[i]?.getD default).due = t then [(i : Int) + 1] else []
theorem tickTo_spec (v : PWorld) : ∀ i, i ≤ v.runs.length → tickTo v i = { v with runs := (v.runs.take i).map (tickR v.now) ++ v.runs.drop i, queue := v.queue ++ dueTo v.runs v.now i }
 | 0, _ => by simp [tickTo, dueTo]
 | i + 1, h => by
  have hi : i < v.runs.length := by omega
  have ih := tickTo_spec v i (by omega)
  have hl : ((v.runs.take i).map (tickR v.now)).length = i := by simp; omega
  have hd : v.runs.drop i = v.runs[i] :: v.runs.drop (i + 1) := List.drop_eq_getElem_cons hi
  have g : ((v.runs.take i).map (tickR v.now) ++ v.runs.drop i)[i]? = some v.runs[i] := by
   rw [List.getElem?_append_right (by omega), hl, Nat.sub_self, hd]; rfl
  have ht : (v.runs.take (i + 1)).map (tickR v.now) = (v.runs.take i).map (tickR v.now) ++ [tickR v.now v.runs[i]] := by
   rw [List.take_succ_eq_append_getElem hi, List.map_append]; rfl
  have eg : v.runs[i]?.getD default = v.runs[i] := by simp [hi]
  rw [tickTo, ih]
  unfold tickAt
  simp only [g, dueTo, eg]
  by_cases c : v.runs[i].state = 2 ∧ v.runs[i].due = v.now
  ·rw [if_pos c, if_pos c, ht]
   have : tickR v.now v.runs[i] = { v.runs[i] with state := 1, due := -1 } := by unfold tickR; rw [if_pos c]
   rw [this, List.set_append_right _ _ (by omega), hl, Nat.sub_self, hd, List.set_cons_zero]
   simp [List.append_assoc]
  ·rw [if_neg c, if_neg c, ht]
   have : tickR v.now v.runs[i] = v.runs[i] := by unfold tickR; rw [if_neg c]
   rw [this, hd]
   simp [List.append_assoc]
theorem tick_spec (h : w.now < 250) : tickP w = { w with now := w.now + 1, runs := w.runs.map (tickR (w.now + 1)), queue := w.queue ++ dueTo w.runs (w.now + 1) w.runs.length } := by
 unfold tickP
 rw [if_neg (by omega), tickTo_spec _ _ (Nat.le_refl _)]
 simp
end Go.Proofs.YthnmkpocjgnjeaaGreat
