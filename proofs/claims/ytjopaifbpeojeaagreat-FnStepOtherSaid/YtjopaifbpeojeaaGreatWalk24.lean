/-
  What functions of the seat answer, each proved once; each under the condition that cells bear what it is given, as its statement says.
-/
import Derived.Test.YtjopaifbpeojeaaGreatWalk23
set_option linter.all false
/-
  WORLDS IN PLAIN DATA: what a step makes of the run whose step it is.
-/
set_option maxRecDepth 8000
namespace Go.Proofs.YtjopaifbpeojeaaGreat
variable {w w' : PWorld} {id : Int} {i : Nat} {r : PRun} {o : POp}
inductive OwnS (w : PWorld) (id : Int) (r : PRun) (o : POp) : PRun → Prop
  | set1 (k : o.kind = 1) : OwnS w id r o (nextRun (putRun r o.r o.v))
  | set2 (k : o.kind = 2) : OwnS w id r o (nextRun (putRun r o.r (slotAt r o.s)))
  | add (v : PVal) (k : o.kind = 3) (h : addP (slotAt r o.r) (slotAt r o.s) = some v) : OwnS w id r o (nextRun (putRun r o.r v))
  | self (k : o.kind = 4) : OwnS w id r o (nextRun (putRun r o.r ⟨3, id⟩))
  | start (k : o.kind = 5) : OwnS w id r o (nextRun (putRun r o.r (if 6 < w.runs.length + 1 then ⟨0, 0⟩ else ⟨3, w.runs.length + 1⟩)))
  | fall (b : PRun) (v : PVal) (k : o.kind = 3 ∧ addP (slotAt r o.r) (slotAt r o.s) = none ∧ v = ⟨2, 1⟩ ∨ o.kind = 14 ∧ v = slotAt r o.r ∨ (o.kind = 6 ∨ o.kind = 11 ∨ o.kind = 12) ∧ (slotAt r o.r).k ≠ 3 ∧ v = ⟨2, 2⟩) (q : RunK r b) (e : b.state = 3) (y : b.why = v) : OwnS w id r o b
  | take (k : o.kind = 7 ∨ o.kind = 8) (m : 0 ≤ mailAt r o.s) : OwnS w id r o (takeRun r o.r (mailAt r o.s).toNat)
  | wait (d : Int) (k : o.kind = 7 ∧ d = 0 ∨ o.kind = 8 ∧ ¬ r.due < 0 ∧ d = w.now + o.v.n) (m : ¬ 0 ≤ mailAt r o.s) : OwnS w id r o { r with state := 2, due := d }
  | after (k : o.kind = 8) (m : ¬ 0 ≤ mailAt r o.s) (d : r.due < 0) : OwnS w id r o { r with due := 0, at_ := o.to }
  | go (k : o.kind = 9) : OwnS w id r o { r with at_ := o.to }
  | cond (k : o.kind = 10) : OwnS w id r o { r with at_ := if slotAt r o.r = o.v then o.to else r.at_ + 1 }
  | trap (k : o.kind = 13) : OwnS w id r o { r with trap := decide (o.v.n = 1), at_ := r.at_ + 1 }
  | other (b : PRun) (k : o.kind = 6 ∨ o.kind = 11 ∨ o.kind = 12) (t : (slotAt r o.r).k = 3) (q : RunK (nextRun r) b) : OwnS w id r o b
theorem Turn.alive (T : Turn w id i r o) : Alive w id := ⟨by have := T.e0; have := T.hi; omega, by rw [T.at_, T.going]; decide⟩
theorem Turn.step_own (T : Turn w id i r o) : ∃ b, (stepP w id).runs[i]? = some b ∧ OwnS w id r o b := by
  have hi := T.hi
  have own : ∀ (r' : PRun), (setRun w id r').runs[i]? = some r' := fun r' => by unfold setRun; simp only; rw [T.ei]; simp [hi]
  have hop := T.op
  have ok := T.ok
  have h14 := op_kind ok
  have fall : ∀ v, ∃ b, (fallP w id v).runs[i]? = some b ∧ RunK r b ∧ b.state = 3 ∧ b.why = v := fun v => by
    have x := fall_wk (id := 0) w id v
    obtain ⟨b, h1, q⟩ := x.each i r (fun h => h) T.get
    have eb : runAt (fallP w id v) id = b := runAt_some (by rw [T.ei]; exact h1)
    exact ⟨b, h1, q, by rw [← eb]; exact fall_ended T.alive.1 v, by rw [← eb]; exact fall_why T.alive v⟩
  unfold stepP
  simp only [T.at_, T.op]
  split
  · rename_i k; exact ⟨_, own _, by rw [T.at_]; exact .set1 k⟩
  split
  · rename_i k; exact ⟨_, own _, by rw [T.at_]; exact .set2 k⟩
  split
  · rename_i k
    split
    · rename_i hn
      obtain ⟨b, h1, q, e, y⟩ := fall ⟨2, 1⟩
      exact ⟨b, h1, .fall b _ (.inl ⟨k, hn, rfl⟩) q e y⟩
    · rename_i v hv
      exact ⟨_, own _, by rw [T.at_]; exact .add v k hv⟩
  split
  · rename_i k; exact ⟨_, own _, by rw [T.at_]; exact .self k⟩
  split
  · rename_i k
    have st := OwnS.start (w := w) (id := id) (r := r) k
    unfold beginP
    split
    · rename_i c
      rw [if_pos c] at st
      exact ⟨_, own _, by rw [T.at_]; exact st⟩
    · rename_i c
      rw [if_neg c] at st
      have e : runAt (addRunP w id o) id = r := by
        rw [← T.at_]
        unfold runAt addRunP; simp only; rw [T.ei, List.getElem?_append_left hi]
      refine ⟨_, ?_, st⟩
      unfold setP setRun
      simp only
      rw [T.ei, e]
      rw [List.getElem?_set_self (by simp [addRunP]; omega)]
  split
  · rename_i k78
    unfold takeP
    rw [T.at_]
    split
    · rename_i m
      refine ⟨_, ?_, .take k78 m⟩
      unfold setRun; simp only; rw [T.ei]; simp [hi]
    · rename_i m
      split
      · rename_i k7
        refine ⟨_, ?_, .wait 0 (.inl ⟨k7, rfl⟩) m⟩
        unfold waitP setRun; simp only; rw [T.ei, T.at_]; simp [hi]
      · rename_i k7
        have k8 : o.kind = 8 := by rcases k78 with h | h; exact absurd h k7; exact h
        split
        · rename_i d
          exact ⟨_, own _, .after k8 m d⟩
        · rename_i d
          refine ⟨_, ?_, .wait (w.now + o.v.n) (.inr ⟨k8, d, rfl⟩) m⟩
          unfold waitP setRun; simp only; rw [T.ei, T.at_]; simp [hi]
  split
  · rename_i k; exact ⟨_, own _, .go k⟩
  split
  · rename_i k; exact ⟨_, own _, .cond k⟩
  split
  · rename_i k; exact ⟨_, own _, .trap k⟩
  split
  · rename_i k
    obtain ⟨b, h1, q, e, y⟩ := fall (slotAt r o.r)
    exact ⟨b, h1, .fall b _ (.inr (.inl ⟨k, rfl⟩)) q e y⟩
  have ks : o.kind = 6 ∨ o.kind = 11 ∨ o.kind = 12 := by omega
  unfold otherP
  simp only [T.at_]
  have nx := own (nextRun r)
  have via : ∀ {w2 : PWorld}, WK (fun _ => False) 0 0 (setRun w id (nextRun r)) w2 → ∀ (t : (slotAt r o.r).k = 3), ∃ b, w2.runs[i]? = some b ∧ OwnS w id r o b := fun {w2} x t => by
    obtain ⟨b, h1, q⟩ := x.each i _ (fun h => h) nx
    exact ⟨b, h1, .other b ks t q⟩
  split
  · rename_i t
    obtain ⟨b, h1, q, e, y⟩ := fall ⟨2, 2⟩
    exact ⟨b, h1, .fall b _ (.inr (.inr ⟨ks, t, rfl⟩)) q e y⟩
  rename_i t
  have t : (slotAt r o.r).k = 3 := Classical.byContradiction t
  split
  · exact via (give_wk _ _ _) t
  split
  · exact via (give_wk _ _ _) t
  split
  · exact via (WK.refl _) t
  split
  · unfold watchP
    exact via (WK.setRun fun r hr => .inr (by rw [hr]; exact ⟨rfl, rfl, rfl, rfl, rfl, rfl, .inr (List.prefix_refl _), fun h => h, .inl rfl, .inl rfl, .inl rfl⟩)) t
  split
  · unfold linkP
    simp only
    exact via (WK.trans0 (WK.setRun fun r hr => .inr (by rw [hr]; exact ⟨rfl, rfl, rfl, rfl, rfl, rfl, .inr (List.prefix_refl _), fun h => h, .inl rfl, .inl rfl, .inl rfl⟩)) (WK.setRun fun r hr => .inr (by rw [hr]; exact ⟨rfl, rfl, rfl, rfl, rfl, rfl, .inr (List.prefix_refl _), fun h => h, .inl rfl, .inl rfl, .inl rfl⟩))) t
  exact via (WK.refl _) t
end Go.Proofs.YtjopaifbpeojeaaGreat

/-
  WORLDS IN PLAIN DATA: what the laws of steps and turns ask.
-/
set_option maxRecDepth 8000
namespace Go.Proofs.YtjopaifbpeojeaaGreat
variable {w w' : PWorld} {id : Int} {i : Nat} {r b : PRun} {o : POp}
theorem Turn.step_len (T : Turn w id i r o) (k : o.kind ≠ 5) : (stepP w id).runs.length = w.runs.length := by
  have s : ∀ (r' : PRun), (setRun w id r').runs.length = w.runs.length := fun r' => setRun_len
  have f : ∀ v, (fallP w id v).runs.length = w.runs.length := fun v => by
    have x := fall_wk (id := 0) w id v
    have := x.len; have := x.len2; omega
  have g : ∀ (u : PWorld) a v, (giveP u a v).runs.length = u.runs.length := fun u a v => (giveP_len u a v).1
  unfold stepP
  simp only [T.at_, T.op]
  split
  · exact s _
  split
  · exact s _
  split
  · split
    · exact f _
    · exact s _
  split
  · exact s _
  split
  · unfold takeP
    split
    · exact s _
    · split
      · exact s _
      · split
        · exact s _
        · exact s _
  split
  · exact s _
  split
  · exact s _
  split
  · exact s _
  split
  · exact f _
  unfold otherP
  simp only
  split
  · exact f _
  split
  · rw [g]; exact s _
  split
  · rw [g]; exact s _
  split
  · exact s _
  split
  · unfold watchP; rw [setRun_len]; exact s _
  split
  · unfold linkP; simp only; rw [setRun_len, setRun_len]; exact s _
  exact s _
theorem Turn.step_begin (T : Turn w id i r o) (k : o.kind = 5) (hn : w.runs.length < 6) : (stepP w id).runs = w.runs.set i (nextRun (putRun r o.r ⟨3, w.runs.length + 1⟩)) ++ [newRun (w.runs.length + 1) o.to ⟨3, id⟩] ∧ (stepP w id).queue = w.queue ++ [(w.runs.length : Int) + 1] := by
  have hi := T.hi
  have e : runAt (addRunP w id o) id = r := by
    rw [← T.at_]
    unfold runAt addRunP; simp only; rw [T.ei, List.getElem?_append_left hi]
  have es : stepP w id = beginP w id o := by
    unfold stepP
    simp only [T.at_, T.op]
    rw [if_neg (by omega), if_neg (by omega), if_neg (by omega), if_neg (by omega), if_pos k]
  rw [es]
  unfold beginP
  rw [if_neg (by omega)]
  unfold setP setRun
  simp only
  rw [T.ei, e]
  refine ⟨?_, rfl⟩
  unfold addRunP
  simp only
  rw [List.set_append_left _ _ hi]
theorem hasP {f s k : Int} (hf : 0 ≤ f ∧ f ≤ 15) (hs : 0 ≤ s ∧ s ≤ 3) (hk : 0 ≤ k ∧ k ≤ 3) (h : k ≠ s) : has (withB f s) k = has f k := by
  rw [hasW hf.1 hf.2 hs.1 hs.2 hk.1 hk.2]
  have hn : ¬ s = k := fun e => h e.symm
  simp [hn]
structure OwnT (r b : PRun) (o : POp) : Prop where
  slots : ∀ k : Nat, k ≤ 3 → (k : Int) ≠ o.r → b.slots[k]? = r.slots[k]? ∧ has b.full k = has r.full k
  at_ : b.state = 3 ∨ b.at_ = r.at_ + 1 ∨ b.at_ = o.to ∨ b.state = 2 ∧ b.at_ = r.at_
theorem OwnS.t (S : OwnS w id r o b) (R : RunOk r) (ok : opOk o = true) : OwnT r b o := by
  have hr := op_r ok
  have put : ∀ v, ∀ k : Nat, k ≤ 3 → (k : Int) ≠ o.r → (putRun r o.r v).slots[k]? = r.slots[k]? ∧ has (putRun r o.r v).full k = has r.full k := fun v k hk hne => by
    refine ⟨?_, hasP R.full hr (by omega) hne⟩
    simp only [putRun]
    rw [List.getElem?_set_ne (by omega)]
  cases S with
  | set1 k => exact ⟨put _, .inr (.inl rfl)⟩
  | set2 k => exact ⟨put _, .inr (.inl rfl)⟩
  | add v k h => exact ⟨put _, .inr (.inl rfl)⟩
  | self k => exact ⟨put _, .inr (.inl rfl)⟩
  | start k => exact ⟨put _, .inr (.inl rfl)⟩
  | fall _ v k q e y => exact ⟨fun k _ _ => by rw [q.slots, q.full]; exact ⟨rfl, rfl⟩, .inl e⟩
  | take k m => exact ⟨put _, .inr (.inl rfl)⟩
  | wait d k m => exact ⟨fun _ _ _ => ⟨rfl, rfl⟩, .inr (.inr (.inr ⟨rfl, rfl⟩))⟩
  | after k m d => exact ⟨fun _ _ _ => ⟨rfl, rfl⟩, .inr (.inr (.inl rfl))⟩
  | go k => exact ⟨fun _ _ _ => ⟨rfl, rfl⟩, .inr (.inr (.inl rfl))⟩
  | cond k =>
    refine ⟨fun _ _ _ => ⟨rfl, rfl⟩, ?_⟩
    by_cases c : slotAt r o.r = o.v
    · exact .inr (.inr (.inl (by simp only; rw [if_pos c])))
    · exact .inr (.inl (by simp only; rw [if_neg c]))
  | trap k => exact ⟨fun _ _ _ => ⟨rfl, rfl⟩, .inr (.inl rfl)⟩
  | other _ k t q => exact ⟨fun k _ _ => by rw [q.slots, q.full]; exact ⟨rfl, rfl⟩, .inr (.inl (by rw [q.at_]; rfl))⟩
structure GoF (r b : PRun) (o : POp) : Prop where
  k9 : o.kind = 9 → b.at_ = o.to
  k10 : o.kind = 10 → b.at_ = if slotAt r o.r = o.v then o.to else r.at_ + 1
  k13 : o.kind = 13 → b.trap = decide (o.v.n = 1) ∧ b.at_ = r.at_ + 1
  other : o.kind ≠ 13 → b.trap = r.trap
theorem OwnS.gofacts (S : OwnS w id r o b) : GoF r b o := by
  cases S with
  | fall _ v k q e y => exact ⟨fun h => by omega, fun h => by omega, fun h => by omega, fun _ => q.trap⟩
  | go k => exact ⟨fun _ => rfl, fun h => by omega, fun h => by omega, fun _ => rfl⟩
  | cond k => exact ⟨fun h => by omega, fun _ => rfl, fun h => by omega, fun _ => rfl⟩
  | trap k => exact ⟨fun h => by omega, fun h => by omega, fun _ => ⟨rfl, rfl⟩, fun h => absurd k h⟩
  | other _ k t q => exact ⟨fun h => by omega, fun h => by omega, fun h => by omega, fun _ => q.trap⟩
  | _ => exact ⟨fun h => by omega, fun h => by omega, fun h => by omega, fun _ => rfl⟩
structure SetF (id : Int) (r b : PRun) (o : POp) : Prop where
  k1 : o.kind = 1 → b.slots[o.r.toNat]?.getD default = o.v
  k2 : o.kind = 2 → b.slots[o.r.toNat]?.getD default = r.slots[o.s.toNat]?.getD default
  k4 : o.kind = 4 → b.slots[o.r.toNat]?.getD default = ⟨3, id⟩
  k3 : o.kind = 3 → match addP (slotAt r o.r) (slotAt r o.s) with | none => b.state = 3 ∧ b.why = ⟨2, 1⟩ | some v => b.slots[o.r.toNat]?.getD default = v
theorem OwnS.setfacts (S : OwnS w id r o b) (R : RunOk r) (ok : opOk o = true) : SetF id r b o := by
  have hr := op_r ok
  have hl := R.len
  have put : ∀ v, (nextRun (putRun r o.r v)).slots[o.r.toNat]?.getD default = v := fun v => by
    show (r.slots.set o.r.toNat v)[o.r.toNat]?.getD default = v
    rw [List.getElem?_set_self (by omega)]; rfl
  cases S with
  | set1 k => exact ⟨fun _ => put _, fun h => by omega, fun h => by omega, fun h => by omega⟩
  | set2 k => exact ⟨fun h => by omega, fun _ => put _, fun h => by omega, fun h => by omega⟩
  | add v k h => exact ⟨fun h => by omega, fun h => by omega, fun h => by omega, fun _ => by rw [h]; exact put v⟩
  | self k => exact ⟨fun h => by omega, fun h => by omega, fun _ => put _, fun h => by omega⟩
  | fall _ v k q e y => exact ⟨fun h => by omega, fun h => by omega, fun h => by omega, fun h => by
      rcases k with k | k | k
      · rw [k.2.1]; exact ⟨e, by rw [y, k.2.2]⟩
      · omega
      · omega⟩
  | _ => exact ⟨fun h => by omega, fun h => by omega, fun h => by omega, fun h => by omega⟩
theorem OwnS.k5 (S : OwnS w id r o b) (R : RunOk r) (ok : opOk o = true) (h : o.kind = 5) : b.slots[o.r.toNat]?.getD default = if 6 < w.runs.length + 1 then ⟨0, 0⟩ else ⟨3, w.runs.length + 1⟩ := by
  have hr := op_r ok
  have hl := R.len
  cases S with
  | start k =>
    show (r.slots.set o.r.toNat _)[o.r.toNat]?.getD default = _
    rw [List.getElem?_set_self (by omega)]; rfl
  | _ => omega
theorem Turn.begin_full (T : Turn w id i r o) (k : o.kind = 5) (hn : 6 ≤ w.runs.length) : (stepP w id).runs.length = w.runs.length := by
  have es : stepP w id = beginP w id o := by
    unfold stepP
    simp only [T.at_, T.op]
    rw [if_neg (by omega), if_neg (by omega), if_neg (by omega), if_neg (by omega), if_pos k]
  rw [es]
  unfold beginP
  rw [if_pos (by omega)]
  exact setRun_len
theorem firstAt_idx (id : Int) : ∀ l : List Int, firstAt (fun q => decide (q = id)) l = if id ∈ l then (l.idxOf id : Int) else -1
  | [] => rfl
  | a :: l => by
    have ih := firstAt_idx id l
    unfold firstAt at ih ⊢
    rw [List.findIdx?_cons, List.idxOf_cons]
    by_cases h : a = id
    · subst h; simp
    · have h' : ¬ id = a := fun e => h e.symm
      simp only [h, decide_false, Bool.false_eq_true, ↓reduceIte, List.mem_cons, h', false_or]
      cases hf : l.findIdx? (fun q => decide (q = id)) with
      | none =>
        rw [hf] at ih
        simp only [Option.map_none]
        by_cases hm : id ∈ l
        · rw [if_pos hm] at ih; simp only at ih; omega
        · rw [if_neg hm]
      | some j =>
        rw [hf] at ih
        simp only [Option.map_some]
        by_cases hm : id ∈ l
        · rw [if_pos hm] at ih ⊢
          simp only at ih
          have : ¬ (a == id) = true := by simpa using h
          simp only [this, cond_false]
          simp
          omega
        · rw [if_neg hm] at ih; simp only at ih; omega
theorem idx_filter {id : Int} {p : Int → Bool} (hp : p id = true) (t : List Int) : ∀ {l : List Int}, id ∈ l → (l.filter p ++ t).idxOf id ≤ l.idxOf id
  | a :: l, hm => by
    by_cases h : a = id
    · subst h
      rw [List.filter_cons, if_pos hp]
      simp
    · have hm' : id ∈ l := by
        rcases List.mem_cons.1 hm with e | e
        · exact absurd e.symm h
        · exact e
      have ih := idx_filter hp t hm'
      have hb : ¬ (a == id) = true := by simpa using h
      rw [List.idxOf_cons, List.filter_cons]
      simp only [hb, cond_false]
      by_cases hpa : p a = true
      · rw [if_pos hpa, List.cons_append, List.idxOf_cons]
        simp only [hb, cond_false]
        simp
        omega
      · rw [if_neg hpa]
        simp
        omega
theorem when_turn (G : Good w) {id : Int} (hm : id ∈ w.queue) (hne : headQ w ≠ id) (h3 : (runAt (turnP w) id).state ≠ 3) : 1 ≤ whenP (turnP w) id ∧ whenP (turnP w) id ≤ whenP w id - 1 := by
  have hq : w.queue ≠ [] := fun e => by rw [e] at hm; simp at hm
  obtain ⟨t, e⟩ := turn_q G hq
  have hn : ¬ id = headQ w := fun q => hne q.symm
  have hp : (fun k => decide (k ≠ headQ w) && !decide ((runAt (turnP w) k).state = 3)) id = true := by simp [hn, h3]
  obtain ⟨a, rest, hw⟩ : ∃ a rest, w.queue = a :: rest := by
    cases hh : w.queue with
    | nil => exact absurd hh hq
    | cons a rest => exact ⟨a, rest, rfl⟩
  have ha : headQ w = a := by unfold headQ; rw [hw]; rfl
  have hr : id ∈ rest := by
    rw [hw] at hm
    rcases List.mem_cons.1 hm with q | q
    · exact absurd (ha.trans q.symm) hne
    · exact q
  have hmem : id ∈ (turnP w).queue := by rw [e]; exact List.mem_append_left _ (List.mem_filter.2 ⟨hm, hp⟩)
  have e2 : (turnP w).queue = (rest.filter fun k => decide (k ≠ headQ w) && !decide ((runAt (turnP w) k).state = 3)) ++ t := by
    rw [e, hw, List.filter_cons, if_neg (by simp [ha])]
  have le := idx_filter (p := fun k => decide (k ≠ headQ w) && !decide ((runAt (turnP w) k).state = 3)) hp t hr
  rw [← e2] at le
  unfold whenP
  rw [firstAt_idx, firstAt_idx, if_pos hmem, if_pos hm, hw, List.idxOf_cons]
  have hb : ¬ (a == id) = true := by rw [← ha]; simpa using hne
  simp only [hb, cond_false]
  simp
  omega
end Go.Proofs.YtjopaifbpeojeaaGreat

/-
  WORLDS IN PLAIN DATA: everybody has a turn in time.
-/
set_option maxRecDepth 8000
namespace Go.Proofs.YtjopaifbpeojeaaGreat
variable {w : PWorld}
theorem turn_at (G : Good w) (hq : w.queue ≠ []) (hb : turnsOf w.runs < 9999) {k : Int} (hk : 1 ≤ k ∧ k ≤ w.runs.length) : (runAt (turnP w) k).turns = (runAt w k).turns + if k = headQ w then 1 else 0 := by
  obtain ⟨hl, x⟩ := turn_wk G.inv hq
  obtain ⟨hid, h1⟩ := G.inv.head hq
  have t := (turnsOf_le (rs := w.runs) fun r hr => by
    obtain ⟨i, hi, rfl⟩ := List.mem_iff_getElem.1 hr
    exact (G.inv.each i _ (List.getElem?_eq_getElem hi)).ok.turns.1).2 _ (List.mem_of_getElem? (runAt_in hk))
  have lc : (countP' w (headQ w)).runs.length = w.runs.length := by unfold countP'; exact setRun_len
  obtain ⟨r', h2, q⟩ := x.turns _ _ (runAt_in (w := countP' w (headQ w)) (id := k) (by rw [lc]; exact hk))
  rw [runAt_some h2, q]
  unfold countP'
  rw [runAt_set hid hk.1]
  by_cases e : k = headQ w
  · subst e; simp; omega
  · simp [e]
end Go.Proofs.YtjopaifbpeojeaaGreat

/-
  WORLDS IN PLAIN DATA: counts grow; who ended stays so.
-/
set_option maxRecDepth 8000
namespace Go.Proofs.YtjopaifbpeojeaaGreat
variable {w w' : PWorld} {id : Int}
structure Gr3 (w w' : PWorld) : Prop where
  sent : w.sent ≤ w'.sent
  taken : w.taken ≤ w'.taken
  lost : w.lost ≤ w'.lost
theorem Gr3.refl (w : PWorld) : Gr3 w w := ⟨Int.le_refl _, Int.le_refl _, Int.le_refl _⟩
theorem Gr3.trans {a b c : PWorld} (x : Gr3 a b) (y : Gr3 b c) : Gr3 a c := ⟨Int.le_trans x.sent y.sent, Int.le_trans x.taken y.taken, Int.le_trans x.lost y.lost⟩
theorem RunK.same {r r' : PRun} (q : RunK r r') (h3 : r.state = 3) {c c' : List POp} {n n' : Int} {m m' i i' : Nat} (R : RunI c n m i r) (R' : RunI c' n' m' i' r') : r' = r := by
  have h3' := q.ended h3
  obtain ⟨a1, a2, a3⟩ := R.ok.ended h3
  obtain ⟨b1, b2, b3⟩ := R'.ok.ended h3'
  have d : r'.due = r.due := by
    rcases q.due with h | h
    · exact h
    · exact absurd h3 h.1
  have y : r'.why = r.why := by
    rcases q.why with h | h
    · exact h
    · exact absurd h3 h.1
  obtain ⟨x1, x2, x3, x4, x5, x6, x7, x8, x9, x10, x11, x12⟩ := r
  obtain ⟨z1, z2, z3, z4, z5, z6, z7, z8, z9, z10, z11, z12⟩ := r'
  obtain ⟨q1, q2, q3, q4, q5, q6, _, _, _, _, _⟩ := q
  simp only at *
  subst q1 q2 q3 q4 q5 q6 d y a1 a2 a3 b1 b2 b3 h3 h3'
  rfl
end Go.Proofs.YtjopaifbpeojeaaGreat
