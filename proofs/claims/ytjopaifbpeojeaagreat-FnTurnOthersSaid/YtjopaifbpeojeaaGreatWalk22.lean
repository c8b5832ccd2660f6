/-
  What functions of the seat answer, each proved once; each under the condition that cells bear what it is given, as its statement says.
-/
import Derived.Test.YtjopaifbpeojeaaGreatWalk21
set_option linter.all false
/-
  PLAYS IN PLAIN DATA: time, turns, what is taken.
-/
set_option maxRecDepth 8000
namespace Go.Proofs.YtjopaifbpeojeaaGreat
variable {w w' : PWorld} {code : List POp} {evs : List PEvent}
theorem Good.doNow (G : Good w) (e : PEvent) (hn : w.now < 250) : (doP w e).now = w.now + if e.kind = 2 then 1 else 0 := by
  unfold doP
  by_cases k1 : e.kind = 1
  · rw [if_pos k1, if_neg (by omega), G.turnG.k.now]; omega
  rw [if_neg k1]
  by_cases k2 : e.kind = 2
  · rw [if_pos k2, if_pos k2]
    unfold tickP
    rw [if_neg (by omega), (tickTo_len _ _).2.2]
  rw [if_neg k2, if_neg k2]
  split
  · split
    · rename_i hv; rw [(G.giveG e.a hv).k.now]; omega
    · omega
  · split
    · split
      · rename_i hv; rw [(G.fallG e.a hv.1).k.now]; omega
      · omega
    · omega
def ticksTo (evs : List PEvent) : Nat → Nat
  | 0 => 0
  | i + 1 => ticksTo evs i + if (evs[i]?.getD default).kind = 2 then 1 else 0
theorem ticksTo_le (evs : List PEvent) : ∀ i, ticksTo evs i ≤ i
  | 0 => Nat.le_refl _
  | i + 1 => by have := ticksTo_le evs i; rw [ticksTo]; split <;> omega
theorem playTo_now (S : CodeSafe code) (evs : List PEvent) : ∀ i, i ≤ 200 → (playTo code evs i).now = ticksTo evs i
  | 0, _ => rfl
  | i + 1, h => by
    have ih := playTo_now S evs i (by omega)
    have := ticksTo_le evs i
    rw [playTo, (playTo_good S evs i).1.doNow _ (by omega), ih]
    rw [ticksTo]
    split <;> omega
def turnsOf (rs : List PRun) : Int := (rs.map fun r => r.turns).sum
theorem turnsOf_app (a b : List PRun) : turnsOf (a ++ b) = turnsOf a + turnsOf b := by simp [turnsOf]
theorem turnsOf_zero : ∀ {rs : List PRun}, (∀ r ∈ rs, r.turns = 0) → turnsOf rs = 0
  | [], _ => rfl
  | a :: rs, h => by
    have := turnsOf_zero (rs := rs) fun r hr => h r (by simp [hr])
    have h0 := h a (by simp)
    simp only [turnsOf, List.map_cons, List.sum_cons] at this ⊢
    omega
theorem turnsOf_set : ∀ {rs : List PRun} {i : Nat} {r r' : PRun}, rs[i]? = some r → turnsOf (rs.set i r') = turnsOf rs + r'.turns - r.turns
  | [], i, r, r', h => by simp at h
  | a :: rs, 0, r, r', h => by simp at h; subst h; simp [turnsOf]; omega
  | a :: rs, i + 1, r, r', h => by
    have ih := turnsOf_set (rs := rs) (i := i) (r' := r') (by simpa using h)
    simp only [turnsOf, List.set_cons_succ, List.map_cons, List.sum_cons] at ih ⊢
    omega
theorem turnsOf_le : ∀ {rs : List PRun}, (∀ r ∈ rs, 0 ≤ r.turns) → 0 ≤ turnsOf rs ∧ ∀ r ∈ rs, r.turns ≤ turnsOf rs
  | [], _ => ⟨by simp [turnsOf], by simp⟩
  | a :: rs, h => by
    obtain ⟨h1, h2⟩ := turnsOf_le (rs := rs) fun r hr => h r (by simp [hr])
    have h0 := h a (by simp)
    have e : turnsOf (a :: rs) = a.turns + turnsOf rs := by simp [turnsOf]
    refine ⟨by omega, fun r hr => ?_⟩
    rcases List.mem_cons.1 hr with rfl | hr
    · omega
    · have := h2 r hr; omega
theorem WK.turnsOf {p : Nat → Prop} {n : Nat} {id : Int} (x : WK p n id w w') : turnsOf w'.runs = turnsOf w.runs := by
  have e : w'.runs = w'.runs.take w.runs.length ++ w'.runs.drop w.runs.length := (List.take_append_drop ..).symm
  rw [e, turnsOf_app, turnsOf_zero (rs := w'.runs.drop w.runs.length) fun r hr => ?_]
  · have : (w'.runs.take w.runs.length).map (fun r => r.turns) = w.runs.map (fun r => r.turns) := by
      apply List.ext_getElem?
      intro i
      rw [List.getElem?_map, List.getElem?_map]
      by_cases hi : i < w.runs.length
      · obtain ⟨r', h', q⟩ := x.turns i _ (List.getElem?_eq_getElem hi)
        rw [List.getElem?_take_of_lt hi, h', List.getElem?_eq_getElem hi]
        simp [q]
      · rw [List.getElem?_eq_none (by simp; omega), List.getElem?_eq_none (by omega)]
    unfold Go.Proofs.YtjopaifbpeojeaaGreat.turnsOf
    rw [this]; omega
  · obtain ⟨j, hj, rfl⟩ := List.mem_iff_getElem.1 hr
    rw [List.getElem_drop]
    have hl : w.runs.length + j < w'.runs.length := by simp at hj; omega
    obtain ⟨k, to, q⟩ := x.new (w.runs.length + j) _ (by omega) (List.getElem?_eq_getElem hl)
    rw [q.turns]; rfl
theorem turn_wk (I : Inv w) (hq : w.queue ≠ []) : (headQ w - 1).toNat < w.runs.length ∧ WK (fun i => i = (headQ w - 1).toNat) 3 (headQ w) (countP' w (headQ w)) (turnP w) := by
  obtain ⟨hid, h1⟩ := I.head hq
  have hl : (headQ w - 1).toNat < w.runs.length := by omega
  have hl2 : (headQ w - 1).toNat < (countP' w (headQ w)).runs.length := by unfold countP'; rw [setRun_len]; exact hl
  refine ⟨hl, ?_⟩
  have s := steps_wk 3 (countP' w (headQ w)) hl2
  unfold turnP
  rw [if_neg hq]
  refine (s.trans (m := 0) ?_ fun j e => by omega).le (by omega)
  unfold backP
  split
  · exact WK.eq rfl
  · exact WK.refl _
theorem turnP_turns (G : Good w) (hq : w.queue ≠ []) (hb : turnsOf w.runs < 9999) : turnsOf (turnP w).runs = turnsOf w.runs + 1 := by
  obtain ⟨hl, x⟩ := turn_wk G.inv hq
  have hg : w.runs[(headQ w - 1).toNat]? = some w.runs[(headQ w - 1).toNat] := List.getElem?_eq_getElem hl
  have t := (turnsOf_le (rs := w.runs) fun r hr => by
    obtain ⟨i, hi, rfl⟩ := List.mem_iff_getElem.1 hr
    exact (G.inv.each i _ (List.getElem?_eq_getElem hi)).ok.turns.1).2 _ (List.getElem_mem hl)
  rw [x.turnsOf]
  unfold countP' setRun
  simp only
  rw [turnsOf_set hg, runAt_some hg]
  simp only
  omega
theorem doP_turns (G : Good w) (e : PEvent) (hb : turnsOf w.runs < 9999) : turnsOf (doP w e).runs = turnsOf w.runs + if e.kind = 1 ∧ w.queue ≠ [] then 1 else 0 := by
  unfold doP
  by_cases k1 : e.kind = 1
  · rw [if_pos k1]
    by_cases hq : w.queue = []
    · rw [if_neg (fun h => h.2 hq)]
      unfold turnP
      rw [if_pos hq]; omega
    · rw [if_pos ⟨k1, hq⟩, turnP_turns G hq hb]
  rw [if_neg k1, if_neg (show ¬ (e.kind = 1 ∧ w.queue ≠ []) from fun h => k1 h.1)]
  split
  · rw [(tick_wk (id := 0) w).turnsOf]; omega
  · split
    · split
      · rw [(give_wk (p := fun _ => False) (id := 0) w _ _).turnsOf]; omega
      · omega
    · split
      · split
        · rw [(fall_wk (id := 0) w _ _).turnsOf]; omega
        · omega
      · omega
def turnsTo (code : List POp) (evs : List PEvent) : Nat → Nat
  | 0 => 0
  | i + 1 => turnsTo code evs i + if (evs[i]?.getD default).kind = 1 ∧ (playTo code evs i).queue ≠ [] then 1 else 0
theorem turnsTo_le (code : List POp) (evs : List PEvent) : ∀ i, turnsTo code evs i ≤ i
  | 0 => Nat.le_refl _
  | i + 1 => by have := turnsTo_le code evs i; rw [turnsTo]; split <;> omega
theorem playTo_turns (S : CodeSafe code) (evs : List PEvent) : ∀ i, i ≤ 200 → turnsOf (playTo code evs i).runs = turnsTo code evs i
  | 0, _ => by simp [playTo, newP, turnsOf, newRun, turnsTo]
  | i + 1, h => by
    have ih := playTo_turns S evs i (by omega)
    have := turnsTo_le code evs i
    rw [playTo, doP_turns (playTo_good S evs i).1 _ (by omega), ih]
    rw [turnsTo]
    split <;> omega
theorem nodup_len : ∀ {xs ys : List Int}, xs.Nodup → (∀ x ∈ xs, x ∈ ys) → xs.length ≤ ys.length
  | [], ys, _, _ => Nat.zero_le _
  | a :: t, ys, hn, hs => by
    have ha := hs a (by simp)
    have hn2 := List.nodup_cons.1 hn
    have ih := nodup_len (ys := ys.erase a) hn2.2 fun x hx => by
      have : x ≠ a := fun e => hn2.1 (e ▸ hx)
      exact (List.mem_erase_of_ne this).2 (hs x (by simp [hx]))
    have h0 : 0 < ys.length := List.length_pos_of_mem ha
    rw [List.length_erase_of_mem ha] at ih
    simp only [List.length_cons]
    omega
theorem queue_alive (I : Inv w) : w.queue.length ≤ aliveN w.runs := by
  have h := I.mem
  have e : aliveN w.runs = ((List.range w.runs.length).filter fun i => decide ((w.runs[i]?.getD default).state ≠ 3)).length := by
    have : w.runs = (List.range w.runs.length).map fun i => w.runs[i]?.getD default := by
      apply List.ext_getElem
      · simp
      · intro i h1 h2; simp [h1]
    unfold aliveN
    rw [← List.countP_eq_length_filter]
    conv => lhs; rw [this, List.countP_map]
    rfl
  rw [e, ← List.length_map (f := fun i : Nat => (i : Int) + 1)]
  refine nodup_len I.queue fun q hq => ?_
  obtain ⟨i, rfl, r, hr, h1⟩ := (h q).1 hq
  obtain ⟨hi, rfl⟩ := List.getElem?_eq_some_iff.1 hr
  refine List.mem_map.2 ⟨i, List.mem_filter.2 ⟨List.mem_range.2 hi, ?_⟩, rfl⟩
  simp [hi, h1]
end Go.Proofs.YtjopaifbpeojeaaGreat

/-
  WORLDS IN PLAIN DATA: who is ended; what is given; the first turn.
-/
set_option maxRecDepth 8000
namespace Go.Proofs.YtjopaifbpeojeaaGreat
variable {w w' : PWorld} {id : Int}
theorem runAt_in (hid : 1 ≤ id ∧ id ≤ w.runs.length) : w.runs[(id - 1).toNat]? = some (runAt w id) := by
  obtain ⟨i, e, hi, er, ei⟩ := runAt_eq hid
  rw [ei, er]; exact List.getElem?_eq_getElem hi
theorem WK.at_ {p : Nat → Prop} {n : Nat} {k : Int} (x : WK p n k w w') (hid : 1 ≤ id ∧ id ≤ w.runs.length) (hp : ¬ p (id - 1).toNat) : RunK (runAt w id) (runAt w' id) := by
  obtain ⟨r', h1, q⟩ := x.each _ _ hp (runAt_in hid)
  rw [runAt_some h1]; exact q
theorem end_ended (hid : 1 ≤ id ∧ id ≤ w.runs.length) (why : PVal) : (runAt (endP w id why).1 id).state = 3 := by
  obtain ⟨i, e, hi, er, ei⟩ := runAt_eq hid
  have b : (endBase w id why).runs[(id - 1).toNat]? = some (unwatch id (clearRun (runAt w id) why)) := by
    unfold endBase; simp only; rw [ei]; simp [hi]
  have l : (endBase w id why).runs.length = w.runs.length := by simp [endBase]
  have x : WK (fun _ => False) 0 0 (endBase w id why) (endP w id why).1 := by
    unfold endP
    exact (endLinks_wk id why _ (endBase w id why, [])).trans0 (tell_wk id _ _)
  obtain ⟨r', h1, q⟩ := x.each _ _ (fun h => h) b
  rw [runAt_some h1]; exact q.ended rfl
theorem fall_ended (hid : 1 ≤ id ∧ id ≤ w.runs.length) (why : PVal) : (runAt (fallP w id why) id).state = 3 := by
  unfold fallP
  rw [show (64 : Nat) = 63 + 1 from rfl, fallN]
  split
  · rename_i al
    have x := fallN_wk (id := 0) why 63 (endP w id why).1 ([] ++ (endP w id why).2)
    have l := (endP_wk (id := 0) w al why).len
    exact (x.at_ (id := id) (by omega) (fun h => h)).ended (end_ended hid why)
  · rename_i na
    have e3 : (runAt w id).state = 3 := Classical.byContradiction fun h => na ⟨hid, h⟩
    exact e3
theorem end_why (hid : 1 ≤ id ∧ id ≤ w.runs.length) (why : PVal) : (runAt (endP w id why).1 id).why = why := by
  obtain ⟨i, e, hi, er, ei⟩ := runAt_eq hid
  have b : (endBase w id why).runs[(id - 1).toNat]? = some (unwatch id (clearRun (runAt w id) why)) := by
    unfold endBase; simp only; rw [ei]; simp [hi]
  have x : WK (fun _ => False) 0 0 (endBase w id why) (endP w id why).1 := by
    unfold endP
    exact (endLinks_wk id why _ (endBase w id why, [])).trans0 (tell_wk id _ _)
  obtain ⟨r', h1, q⟩ := x.each _ _ (fun h => h) b
  rw [runAt_some h1]
  rcases q.why with h | h
  · exact h
  · exact absurd rfl h.1
theorem fall_why (ha : Alive w id) (why : PVal) : (runAt (fallP w id why) id).why = why := by
  unfold fallP
  rw [show (64 : Nat) = 63 + 1 from rfl, fallN, if_pos ha]
  have x := fallN_wk (id := 0) why 63 (endP w id why).1 ([] ++ (endP w id why).2)
  have l := (endP_wk (id := 0) w ha why).len
  have q := x.at_ (id := id) (by have := ha.1; omega) (fun h => h)
  rcases q.why with h | h
  · rw [h]; exact end_why ha.1 why
  · exact absurd (end_ended ha.1 why) h.1
def mailTo5 (m : List PVal) : Nat → List PVal
  | 0 => m
  | i + 1 => if (mailTo5 m i).length < 12 then mailTo5 m i ++ [⟨1, i⟩] else mailTo5 m i
theorem give_mail (hid : 1 ≤ id ∧ id ≤ w.runs.length) (h3 : (runAt w id).state ≠ 3) (v : PVal) : (giveP w id v).sent = w.sent + 1 ∧ (giveP w id v).runs.length = w.runs.length ∧ (runAt (giveP w id v) id).state ≠ 3 ∧
    (runAt (giveP w id v) id).mail = if (runAt w id).mail.length < 12 then (runAt w id).mail ++ [v] else (runAt w id).mail := by
  have hl : (id - 1).toNat < w.runs.length := by omega
  unfold giveP
  by_cases t : Takes w id
  · rw [if_pos t, if_pos t.2.2]
    split
    · rw [runAt_some (w := { w with sent := w.sent + 1, runs := w.runs.set (id - 1).toNat { runAt w id with mail := (runAt w id).mail ++ [v], state := 1 }, queue := w.queue ++ [id] }) (List.getElem?_set_self hl)]
      exact ⟨rfl, by simp, by simp, rfl⟩
    · rw [runAt_some (w := { w with sent := w.sent + 1, runs := w.runs.set (id - 1).toNat { runAt w id with mail := (runAt w id).mail ++ [v] } }) (List.getElem?_set_self hl)]
      exact ⟨rfl, by simp, h3, rfl⟩
  · have l : ¬ (runAt w id).mail.length < 12 := fun l => t ⟨hid, h3, l⟩
    rw [if_neg t, if_neg l]
    exact ⟨rfl, rfl, h3, rfl⟩
def givesTo (w : PWorld) (id : Int) : Nat → PWorld
  | 0 => w
  | i + 1 => doP (givesTo w id i) ⟨3, id, ⟨1, i⟩⟩
theorem gives (G : Good w) (hid : 1 ≤ id ∧ id ≤ w.runs.length) (h3 : (runAt w id).state ≠ 3) : ∀ i, i ≤ 5 → Good (givesTo w id i) ∧ (givesTo w id i).sent = w.sent + i ∧ (givesTo w id i).runs.length = w.runs.length ∧ (runAt (givesTo w id i) id).state ≠ 3 ∧
    (runAt (givesTo w id i) id).mail = mailTo5 (runAt w id).mail i
  | 0, _ => ⟨G, by simp [givesTo], rfl, h3, rfl⟩
  | i + 1, h => by
    obtain ⟨a, b, c, d, e⟩ := gives G hid h3 i (by omega)
    have hv : valOk ⟨1, (i : Int)⟩ = true := by unfold valOk; simp; omega
    have eq : givesTo w id (i + 1) = giveP (givesTo w id i) id ⟨1, i⟩ := by
      rw [givesTo]; unfold doP; simp [hv]
    obtain ⟨m1, m2, m3, m4⟩ := give_mail (w := givesTo w id i) (by omega) d ⟨1, i⟩
    rw [eq]
    refine ⟨(a.giveG id hv).g, by rw [m1, b]; omega, by rw [m2, c], m3, ?_⟩
    rw [m4, e, mailTo5]
end Go.Proofs.YtjopaifbpeojeaaGreat

/-
  WORLDS IN PLAIN DATA: how long is waited; whose turn it is.
-/
set_option maxRecDepth 8000
namespace Go.Proofs.YtjopaifbpeojeaaGreat
variable {w w' : PWorld} {id : Int}
def DI (n : Int) (w : PWorld) : Prop := ∀ r ∈ w.runs, r.due ≤ n
theorem DI.le {n m : Int} (d : DI n w) (h : n ≤ m) : DI m w := fun r hr => by have := d r hr; omega
theorem DI.set {n : Int} (d : DI n w) {i : Nat} {r' : PRun} (e : w'.runs = w.runs.set i r') (h : r'.due ≤ n) : DI n w' := fun r hr => by
  rw [e] at hr
  rcases List.mem_or_eq_of_mem_set hr with h1 | h1
  · exact d r h1
  · rw [h1]; exact h
theorem DI.wk {n : Int} (d : DI n w) (h0 : 0 ≤ n) {k : Int} (x : WK (fun _ => False) 0 k w w') : DI n w' := fun r hr => by
  obtain ⟨i, hi, rfl⟩ := List.mem_iff_getElem.1 hr
  have l := x.len2
  have hi' : i < w.runs.length := by omega
  obtain ⟨r', h1, q⟩ := x.each i _ (fun h => h) (List.getElem?_eq_getElem hi')
  have : w'.runs[i] = r' := by have := List.getElem?_eq_getElem hi; rw [h1] at this; simpa using this.symm
  rw [this]
  have := d _ (List.getElem_mem hi')
  rcases q.due with h | h <;> omega
theorem DI.at_ {n : Int} (d : DI n w) (hid : 1 ≤ id ∧ id ≤ w.runs.length) : (runAt w id).due ≤ n := d _ (List.mem_of_getElem? (runAt_in hid))
theorem step_due (G : Good w) (hid : 1 ≤ id ∧ id ≤ w.runs.length) (hg : (runAt w id).state = 1) {n : Int} (d : DI n w) (h0 : w.now + 99 ≤ n) : DI n (stepP w id) := by
  have I := G.inv
  obtain ⟨i, T⟩ := I.turn hid hg
  have now := I.now
  have n0 : 0 ≤ n := by omega
  have da := d.at_ hid
  have own : ∀ {r' : PRun}, r'.due ≤ n → DI n (setRun w id r') := fun h => d.set (i := (id - 1).toNat) rfl h
  have set : ∀ slot v, DI n (setP w id slot v) := fun slot v => own da
  have wait : ∀ {x}, x ≤ n → DI n (waitP w id x) := fun {x} h => d.set (i := (id - 1).toNat) (r' := { runAt w id with state := 2, due := x }) rfl h
  have fall : ∀ v, DI n (fallP w id v) := fun v => d.wk n0 (fall_wk (id := 0) w id v)
  unfold stepP
  simp only
  split
  · exact set _ _
  split
  · exact set _ _
  split
  · split
    · exact fall _
    · exact set _ _
  split
  · exact set _ _
  split
  · unfold beginP
    split
    · exact set _ _
    · have a1 : DI n (addRunP w id (codeAt w (runAt w id).at_)) := fun r hr => by
        simp only [addRunP] at hr
        rcases List.mem_append.1 hr with h | h
        · exact d r h
        · simp at h; subst h; exact n0
      refine a1.set (i := (id - 1).toNat) rfl ?_
      have e : runAt (addRunP w id (codeAt w (runAt w id).at_)) id = runAt w id := by
        unfold runAt addRunP; simp only; rw [List.getElem?_append_left (by omega)]
      show (runAt (addRunP w id (codeAt w (runAt w id).at_)) id).due ≤ n
      rw [e]; exact da
  split
  · rename_i k78
    unfold takeP
    split
    · exact d.set (i := (id - 1).toNat) (r' := takeRun (runAt w id) _ _) rfl n0
    · split
      · exact wait n0
      · rename_i k7
        split
        · exact own n0
        · refine wait ?_
          have ok := T.ok
          rw [← T.op, ← T.at_] at ok
          have := op_after ok (by rcases k78 with h | h; exact absurd h k7; exact h)
          omega
  split
  · exact own da
  split
  · exact own da
  split
  · exact own da
  split
  · exact fall _
  unfold otherP
  simp only
  have nx : DI n (setRun w id (nextRun (runAt w id))) := own da
  have gv : ∀ k v, DI n (giveP (setRun w id (nextRun (runAt w id))) k v) := fun k v => nx.wk n0 (give_wk (id := 0) _ _ _)
  split
  · exact fall _
  split
  · exact gv _ _
  split
  · exact gv _ _
  split
  · exact nx
  rename_i al
  have al' : Alive w (slotAt (runAt w id) (codeAt w (runAt w id).at_).r).n := Classical.byContradiction fun h => al (.inr h)
  have l1 : (setRun w id (nextRun (runAt w id))).runs.length = w.runs.length := setRun_len
  split
  · exact nx.set (i := _) rfl (nx.at_ (by rw [l1]; exact al'.1))
  split
  · unfold linkP
    simp only
    have n2 : DI n (setRun (setRun w id (nextRun (runAt w id))) id { runAt (setRun w id (nextRun (runAt w id))) id with links := (runAt (setRun w id (nextRun (runAt w id))) id).links ++ [(slotAt (runAt w id) (codeAt w (runAt w id).at_).r).n] }) :=
      nx.set (i := (id - 1).toNat) rfl (nx.at_ (by rw [l1]; exact hid))
    exact n2.set (i := _) rfl (n2.at_ (by rw [setRun_len, l1]; exact al'.1))
  exact nx
theorem steps_due {id : Int} {n : Int} : ∀ (m : Nat) {w : PWorld}, Good w → 1 ≤ id ∧ id ≤ w.runs.length → DI n w → w.now + 99 ≤ n → DI n (stepsP m w id)
  | 0, w, _, _, d, _ => d
  | m + 1, w, G, hid, d, h0 => by
    unfold stepsP
    split
    · rename_i hg
      have S := G.stepG hid hg
      exact steps_due m S.g (by have := S.k.len; omega) (step_due G hid hg d h0) (by rw [S.k.now]; exact h0)
    · exact d
theorem turn_due (G : Good w) {n : Int} (d : DI n w) (h0 : w.now + 99 ≤ n) : DI n (turnP w) := by
  unfold turnP
  split
  · exact d
  · rename_i hq
    obtain ⟨hid, h1⟩ := G.inv.head hq
    obtain ⟨C, e⟩ := G.countG hid
    have dc : DI n (countP' w (headQ w)) := d.set (i := (headQ w - 1).toNat) rfl (d.at_ hid)
    have ds := steps_due 3 (id := headQ w) C.g (by have := C.k.len; omega) dc (by rw [C.k.now]; exact h0)
    unfold backP
    split
    · exact ds
    · exact ds
theorem doP_due (G : Good w) (hn : w.now < 250) (d : DI (w.now + 99) w) (e : PEvent) : DI ((doP w e).now + 99) (doP w e) := by
  have nw := G.doNow e hn
  have now := G.inv.now
  have d2 : DI ((doP w e).now + 99) w := d.le (by rw [nw]; split <;> omega)
  have n0 : 0 ≤ (doP w e).now + 99 := by rw [nw]; split <;> omega
  have l0 : w.now + 99 ≤ (doP w e).now + 99 := by rw [nw]; split <;> omega
  generalize (doP w e).now + 99 = n at *
  unfold doP
  split
  · exact turn_due G d2 l0
  split
  · exact d2.wk n0 (tick_wk (id := 0) w)
  split
  · split
    · exact d2.wk n0 (give_wk (id := 0) w _ _)
    · exact d2
  split
  · split
    · exact d2.wk n0 (fall_wk (id := 0) w _ _)
    · exact d2
  exact d2
theorem playTo_due {code : List POp} (S : CodeSafe code) (evs : List PEvent) : ∀ i, i ≤ 100 → DI ((playTo code evs i).now + 99) (playTo code evs i)
  | 0, _ => fun r hr => by simp [playTo, newP] at hr; subst hr; simp [newRun, playTo, newP]
  | i + 1, h => by
    have ih := playTo_due S evs i (by omega)
    have nw := playTo_now S evs i (by omega)
    have := ticksTo_le evs i
    exact doP_due (playTo_good S evs i).1 (by omega) ih _
end Go.Proofs.YtjopaifbpeojeaaGreat

/-
  WHAT IS DRAWN: a world, some spoilt.
-/
set_option maxRecDepth 8000
namespace Go.Proofs.YtjopaifbpeojeaaGreat
open Go.AM
variable {h h' k : H} {p n m lo : Nat} {d : Cell} {bs : List Int} {w : PWorld} {c : WorldC} {st cs : List RunC}
theorem WorldV.recode (hV : WorldV lo h w c cs cs) {q : List POp} {s' : Cell} (o : OwnL lo h s' 6 encO q) (nd : ∀ id ∈ s'.ids, ¬ Owned (part c cs) id) : WorldV lo h { w with code := q } { c with code := s' } cs cs := by
  have hp : ∀ k', k' ≠ Key.code → part { c with code := s' } cs k' = part c cs k' := fun k' hk => by cases k' <;> first | rfl | exact absurd rfl hk
  have hc : part { c with code := s' } cs .code = s' := rfl
  refine ⟨o.sl, hV.runs, hV.stl, hV.len, hV.each, hV.queue, hV.now, hV.sent, hV.taken, hV.lost, ⟨fun K id hid => ?_, fun K => ?_, fun K1 K2 id h1 h2 => ?_, fun K => ?_⟩, hV.lo_le⟩
  · by_cases hk : K = .code
    · subst hk; exact o.ids id hid
    · rw [hp K hk] at hid; exact hV.own.ge K id hid
  · by_cases hk : K = .code
    · subst hk; exact o.wr
    · rw [hp K hk]; exact hV.own.wr K
  · by_cases e1 : K1 = .code
    · by_cases e2 : K2 = .code
      · rw [e1, e2]
      · subst e1; rw [hp K2 e2] at h2; exact absurd ⟨K2, h2⟩ (nd id h1)
    · by_cases e2 : K2 = .code
      · subst e2; rw [hp K1 e1] at h1; exact absurd ⟨K1, h1⟩ (nd id h2)
      · rw [hp K1 e1] at h1; rw [hp K2 e2] at h2; exact hV.own.one K1 K2 id h1 h2
  · by_cases hk : K = .code
    · subst hk; exact o.un
    · rw [hp K hk]; exact hV.own.un K
structure Seen (w : PWorld) : Prop where
  many : 1 ≤ w.runs.length ∧ w.runs.length ≤ 6
  sent : w.sent ≤ 2001
  now : 0 ≤ w.now ∧ w.now ≤ 44
  due : DI (w.now + 99) w
  turns : turnsOf w.runs ≤ 44
  queue : w.queue.length ≤ 7
theorem PlayD.seen {s t : Cell} {code : List POp} {evs : List PEvent} (D : PlayD lo k s t code evs w c cs) : Seen w := by
  have I := D.good.inv
  have few := D.few
  have nw := playTo_now D.safe evs evs.length (by omega)
  have tu := playTo_turns D.safe evs evs.length (by omega)
  have du := playTo_due D.safe evs evs.length (by omega)
  have l1 := ticksTo_le evs evs.length
  have l2 := turnsTo_le code evs evs.length
  rw [← D.eq] at nw tu du
  have q1 := queue_alive I
  have q2 := aliveN_le w.runs
  have many := I.many
  exact ⟨many, by have := D.sent; omega, by omega, du, by omega, by omega⟩
def SeenP (lo : Nat) (v : V) (k : H) : Prop := ∃ w c cs, v = .g (encW c) ∧ WorldV lo k w c cs cs ∧ Seen w
theorem Seen.first (S : Seen w) {r : PRun} (hd : r.due = (w.runs[0]'(by have := S.many; omega)).due) (ht : r.turns = (w.runs[0]'(by have := S.many; omega)).turns) : Seen { w with runs := w.runs.set 0 r } := by
  have h0 : 0 < w.runs.length := by have := S.many; omega
  refine ⟨by simpa using S.many, S.sent, S.now, S.due.set (i := 0) rfl (by rw [hd]; exact S.due _ (List.getElem_mem h0)), ?_, S.queue⟩
  have := turnsOf_set (r' := r) (List.getElem?_eq_getElem h0)
  have := S.turns
  simp only
  omega
set_option maxRecDepth 16000 in
set_option maxHeartbeats 4000000 in
theorem c_l72World (R : Rdr h p d bs n) (hn : n ≤ 90000) : @Wp _ (Dz.den 41 [.c (.ptr p 0 0)] h) ⟨DrawQ h p d bs n 3400 (SeenP h.length)⟩ := by
  refine den_wp rfl Tryz.func41 rfl ?_
  have hp := R.lt
  have hd := R.dlt
  obtain ⟨_, e1, _, k1, q1, rfl, ⟨s, t, code, evs, w, c, cs, rfl, D⟩, R1, hq1, ch1⟩ := c_l72Play R (by omega)
  obtain ⟨N, k2, e2, b2, R2, ch2⟩ := pick1 R1 (by omega) (m := 40) (by omega) (by omega)
  have v := D.world.chgp ch2 hp
  have C2 := ch1.pp ch2
  have S := D.seen
  have h0 : 0 < w.runs.length := by have := S.many; omega
  have h0' : 0 < cs.length := by have := v.len; omega
  have own := v.own.owned_ge
  have q6 : w.queue.length ≤ 6 := by have := queue_alive D.good.inv; have := aliveN_le w.runs; have := S.many; omega
  simp only [encW] at e1
  have fin : ∀ (g : H) (q : Nat) (w' : PWorld) (c' : WorldC) (cs' : List RunC), Rdr g p d bs q → q ≤ n + 3400 → Chg h (fun id => id = p) g → WorldV h.length g w' c' cs' cs' → Seen w' → ∀ r : V × H, r = (.g (encW c'), g) → DrawQ h p d bs n 3400 (SeenP h.length) r :=
    fun g q w' c' cs' Rg hq cg vg sg r hr => ⟨_, g, q, hr, ⟨w', c', cs', rfl, vg, sg⟩, Rg, hq, cg⟩
  have keep : ∀ {g : H} {o : Nat → Prop}, Chg k2 o g → (∀ id, id < k2.length → o id → h.length ≤ id) → Rdr g p d bs (q1 + 1) ∧ Chg h (fun id => id = p) g := fun {g o} cg ho =>
    ⟨R2.keeps (o := fun id => o id ∧ id < k2.length) ⟨cg.len, fun id hid hn => cg.keep id hid fun hh => hn ⟨hh, hid⟩⟩ (fun hh => by have := ho p hh.2 hh.1; omega) fun id hid hh => by have := ho id hh.2 hh.1; have := hd id hid; omega,
      ⟨Nat.le_trans C2.len cg.len, fun id hid hne => by rw [cg.keep id (Nat.lt_of_lt_of_le hid C2.len) (fun hh => by have := ho id (Nat.lt_of_lt_of_le hid C2.len) hh; omega), C2.keep id hid hne]⟩⟩
  by_cases y0 : N = 0
  · subst y0
    simp at e2
    obtain ⟨s', k3, e3, G⟩ := v.queue.append_new (v.own.wr .queue) (v.own.un .queue) (ys := [1]) (by simp [encI]) (by have := S.queue; unfold lenMost; simp; omega)
    obtain ⟨v3, _⟩ := v.newQueue G.chg G.sl G.wr G.un G.ids
    obtain ⟨R3, C3⟩ := keep G.chg fun id _ hid => own id ⟨.queue, hid⟩
    simp [encI] at e3
    simp [Tryz.f41, e1, e2, e3]
    exact fin k3 (q1 + 1) { w with queue := w.queue ++ [1] } { c with queue := s' } cs R3 (by omega) C3 v3 ⟨S.many, S.sent, S.now, S.due, S.turns, by simp; omega⟩ _ rfl
  have y0' : ¬ (N : Int) = 0 := by omega
  by_cases y1 : N = 1
  · subst y1
    simp at e2
    have ws : IntKind.i64.wrap (c.sent + 1) = w.sent + 1 := by rw [v.sent]; exact wrapS (by have := D.good.inv.nn; omega) (by have := S.sent; omega)
    have v3 := v.nums w.now (w.sent + 1) w.taken w.lost
    have so := D.sent
    simp [Tryz.f41, e1, e2, ws]
    exact fin k2 (q1 + 1) { w with sent := w.sent + 1 } _ cs R2 (by omega) C2 v3 ⟨S.many, by simp only; omega, S.now, S.due, S.turns, S.queue⟩ _ (by simp [v.now, v.taken, v.lost])
  have y1' : ¬ (N : Int) = 1 := by omega
  by_cases y2 : N = 2
  · subst y2
    simp at e2
    obtain ⟨x, k3, e3, b3, R3, ch3⟩ := pick1 R2 (by omega) (m := 3) (by omega) (by omega)
    have v3 := v.chgp ch3 hp
    have wx : IntKind.i64.wrap (1 + (x : Int)) = 1 + (x : Int) := wrapS (by omega) (by omega)
    obtain ⟨k4, e4, v4, s4⟩ := v3.put (i := 0) h0 (j := 5) (xs := [.int .i64 (1 + (x : Int))]) (r := { w.runs[0] with state := 1 + (x : Int) }) (r' := { cs[0] with state := 1 + (x : Int) }) (by simp [splice]) (by simp) (fun _ q => ⟨q.id, q.at_, q.slots, q.full, q.mail, rfl, q.due, q.links, q.watched, q.trap, q.why, q.turns⟩) rfl rfl rfl rfl
    simp at e4
    have i0 := ixA_nat v3.runs (T := TTz) (e := 36) (k := .i64) (n := 0) rfl rfl h0'
    simp at i0
    obtain ⟨R4, C4⟩ := (show Rdr k4 p d bs (q1 + 1 + 1) ∧ Chg h (fun id => id = p) k4 from
      ⟨R3.keeps s4.chg (fun hh => by have := v3.own.owned_ge p hh; omega) fun id hid hh => by have := v3.own.owned_ge id hh; have := hd id hid; omega,
        ⟨Nat.le_trans (C2.pp ch3).len s4.chg.len, fun id hid hne => by rw [s4.chg.keep id (Nat.lt_of_lt_of_le hid (C2.pp ch3).len) (fun hh => by have := v3.own.owned_ge id hh; omega), (C2.pp ch3).keep id hid hne]⟩⟩)
    simp [Tryz.f41, e1, e2, e3, wx, i0, e4]
    exact ⟨by kernel_rfl, fin k4 (q1 + 1 + 1) _ _ _ R4 (by omega) C4 v4 (S.first rfl rfl) _ rfl⟩
  have y2' : ¬ (N : Int) = 2 := by omega
  by_cases y3 : N = 3
  · subst y3
    simp at e2
    have F : Fresh k2 1 encI [2] (.sl k2.length 0 1 none) (k2.push ⟨false, 1, [encI 2]⟩) := by
      have o := OwnL.new (enc := encI) (es := 1) k2 [2] (by simp [encI]) (by simp [sMost])
      exact ⟨o.sl, o.wr, o.un, Ext.push _ _, o.ids⟩
    obtain ⟨k4, e4, v4, s4⟩ := v.layLinks (j := 0) h0 F
    simp [encI] at e4
    have S3 := v.runs.ext (Ext.push k2 ⟨false, 1, [encI 2]⟩)
    have i0 := ixA_nat S3 (T := TTz) (e := 36) (k := .i64) (n := 0) rfl rfl h0'
    simp [encI] at i0
    obtain ⟨R4, C4⟩ := keep s4.chg fun id _ hid => own id hid
    simp [Tryz.f41, e1, e2, i0, e4]
    exact fin k4 (q1 + 1) _ _ _ R4 (by omega) C4 v4 (S.first rfl rfl) _ rfl
  have y3' : ¬ (N : Int) = 3 := by omega
  by_cases y4 : N = 4
  · subst y4
    simp at e2
    obtain ⟨_, e3, _, k3, q3, rfl, ⟨s3, code3, rfl, o3, g4, g5⟩, R3, hq3, ch3⟩ := c_l71Random R2 (by omega)
    have v3 := v.chgp ch3 hp
    have v4 := v3.recode (o3.low C2.len) fun id hid ho => by have := o3.ids id hid; have := v.own.owned_lt id ho; omega
    simp [Tryz.f41, e1, e2, e3]
    exact fin k3 q3 { w with code := code3 } { c with code := s3 } cs R3 (by omega) (C2.pp ch3) v4 ⟨S.many, S.sent, S.now, S.due, S.turns, S.queue⟩ _ rfl
  have y4' : ¬ (N : Int) = 4 := by omega
  simp [Tryz.f41, e1, e2, y0, y0', y1, y1', y2, y2', y3, y3', y4, y4']
  exact fin k2 _ w c cs R2 (by omega) C2 v S _ rfl
end Go.Proofs.YtjopaifbpeojeaaGreat
