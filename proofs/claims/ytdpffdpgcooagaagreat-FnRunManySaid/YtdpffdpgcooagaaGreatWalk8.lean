/-
  What functions of the seat answer, each proved once; each under the condition that cells bear what it is given, as its statement says.
-/
import Derived.Test.YtdpffdpgcooagaaGreatWalk7
set_option linter.all false
/-
  WORLDS IN PLAIN DATA: begins, links; a step, a turn.
-/
set_option maxRecDepth 8000
namespace Go.Proofs.YtdpffdpgcooagaaGreat
open Go.AM
variable {w : PWorld}
section
variable {id : Int} {i : Nat} {r : PRun} {o : POp}
theorem aliveN_app (a b : List PRun) : aliveN (a ++ b) = aliveN a + aliveN b := by simp [aliveN]
theorem newRun_ok {code : List POp} (S : CodeSafe code) {now : Int} {n : Nat} (hn : n < 6) {to : Int} (ht : 0 ≤ to ∧ to < code.length) {id : Int} (hid : 1 ≤ id ∧ id ≤ 6) (hf : 0 ≤ (fullR code)[to.toNat]?.getD 0 ∧ both ((fullR code)[to.toNat]?.getD 0) 1 = (fullR code)[to.toNat]?.getD 0) {m : Nat} :
    RunI code now m n (newRun (n + 1) to ⟨3, id⟩) := by
  have h16 := (codeOk_len S.ok).2
  refine ⟨⟨by simp only [newRun]; omega, by simp only [newRun]; omega, rfl, by simp [newRun], by simp [newRun], by simp [newRun], by simp [newRun], by simp [newRun], ?_, by simp [newRun], ⟨by simp [newRun], by simp [newRun]⟩, ⟨by simp [newRun], by simp [newRun]⟩, rfl, by simp [newRun], fun _ => rfl⟩, rfl, ht.2, by simp [newRun], fun _ => hf, by simp [newRun], by simp [newRun]⟩
  intro i hi
  have hi4 : i < 4 := hi
  match i, hi4 with
  | 0, _ => exact ⟨valOk_run hid, fun h => by simp [newRun, has] at h⟩
  | 1, _ => exact ⟨rfl, fun _ => rfl⟩
  | 2, _ => exact ⟨rfl, fun _ => rfl⟩
  | 3, _ => exact ⟨rfl, fun _ => rfl⟩
theorem Turn.addK (T : Turn w id i r o) (I : Inv w) (hk : o.kind = 5) (hn : w.runs.length < 6) : Kept w 12 (addRunP w id o) ∧ Turn (addRunP w id o) id i r o := by
  have R := T.run
  obtain ⟨i1, i2, i3⟩ := T.idr I
  have A := T.to I (fun x => by simp [goesTo, hk]) (by simp [hasT, hk])
  rw [if_pos hk] at A
  have N : ∀ m, RunI w.code w.now m w.runs.length (newRun (w.runs.length + 1) o.to ⟨3, id⟩) := fun m => newRun_ok I.safe hn A.1 ⟨i1, i2⟩ A.2
  have J : Inv (addRunP w id o) := by
    refine ⟨I.safe, by simp [addRunP]; omega, I.now, I.nn, ?_, fun q => ?_, fun j a ha => ?_, ?_⟩
    · refine List.nodup_append.2 ⟨I.queue, by simp, fun a ha b hb e => ?_⟩
      simp at hb; subst hb; subst e
      obtain ⟨j, hj, b, hb, _⟩ := (I.mem _).1 ha
      have := (List.getElem?_eq_some_iff.1 hb).1
      omega
    · simp only [addRunP, List.mem_append, List.mem_singleton, I.mem]
      constructor
      · rintro (⟨j, e, b, hb, h1⟩ | rfl)
        · exact ⟨j, e, b, by rw [List.getElem?_append_left (List.getElem?_eq_some_iff.1 hb).1]; exact hb, h1⟩
        · exact ⟨w.runs.length, rfl, newRun (w.runs.length + 1) o.to ⟨3, id⟩, by simp, rfl⟩
      · rintro ⟨j, e, b, hb, h1⟩
        by_cases hj : j < w.runs.length
        · rw [List.getElem?_append_left hj] at hb
          exact .inl ⟨j, e, b, hb, h1⟩
        · have hj2 := (List.getElem?_eq_some_iff.1 hb).1
          simp at hj2
          right; omega
    · simp only [addRunP, List.length_append, List.length_singleton] at ha ⊢
      by_cases hj : j < w.runs.length
      · rw [List.getElem?_append_left hj] at ha
        exact (I.each j a ha).more (by omega)
      · have hj2 := (List.getElem?_eq_some_iff.1 ha).1
        simp at hj2
        have : j = w.runs.length := by omega
        subst this
        simp at ha; subst ha
        exact N _
    · simp only [addRunP, mailSum_app]
      have := I.sum
      simp [mailSum, newRun] at this ⊢; omega
  have hg : (addRunP w id o).runs[i]? = some r := by simp only [addRunP]; rw [List.getElem?_append_left T.hi]; exact T.get
  refine ⟨⟨J, rfl, rfl, ?_, by simp [addRunP]⟩, ⟨T.e0, T.ei, by simp [addRunP]; have := T.hi; omega, hg, ?_, by have := R.more (m := (addRunP w id o).runs.length) (by simp [addRunP]); exact this, T.going, T.op, T.opg, T.ok⟩⟩
  · unfold Go.Proofs.YtdpffdpgcooagaaGreat.phi
    simp only [addRunP, aliveN_app]
    have : aliveN [newRun (↑w.runs.length + 1) o.to ⟨3, id⟩] = 1 := by simp [aliveN, newRun]
    omega
  · unfold runAt; rw [T.ei, hg]; rfl
/-- A run goes to its next step. -/
theorem Turn.nextK (T : Turn w id i r o) (I : Inv w) (hk : ¬ (o.kind = 9 ∨ o.kind = 14)) (hf : fillsK o.kind = false) : Kept w 0 (setRun w id (nextRun r)) := T.keep I (T.nextI I hk hf) T.going rfl
theorem idsOk_app {xs : List Int} {own k : Int} (h : IdsOk xs own) (hk : 1 ≤ k ∧ k ≤ 6) (hne : k ≠ own) (hn : k ∉ xs) : IdsOk (xs ++ [k]) own :=
  ⟨List.nodup_append.2 ⟨h.1, by simp, fun a ha b hb e => by simp at hb; subst hb; subst e; exact hn ha⟩, fun x hx => by
    rcases List.mem_append.1 hx with hx | hx
    · exact h.2 x hx
    · simp at hx; subst hx; exact ⟨hk.1, hk.2, hne⟩⟩
/-- A run has one more link, or one more that watches it. -/
theorem Inv.linkK (I : Inv w) {k x : Int} (hk : Alive w k) (hx : (1 ≤ x ∧ x ≤ w.runs.length) ∧ x ≠ k ∧ x ∉ (runAt w k).links) : Kept w 0 (setRun w k { runAt w k with links := (runAt w k).links ++ [x] }) := by
  have hal := hk.2
  obtain ⟨i, rfl, ei, hl, hg, R⟩ := I.run hk.1
  have h6 := I.many.2
  unfold setRun
  rw [ei]
  generalize runAt w (↑i + 1) = r at *
  have J := I.upd (r' := { r with links := r.links ++ [x] }) (s := w.sent) (t := w.taken) (l := w.lost) hg
    ⟨⟨R.ok.id, R.ok.at_, R.ok.len, R.ok.full, R.ok.room, R.ok.state, R.ok.due, R.ok.turns, R.ok.slots, R.ok.mail, idsOk_app R.ok.links (by omega) (by rw [R.id]; exact hx.2.1) hx.2.2, R.ok.watched, R.ok.why, fun h => absurd h hal, R.ok.live⟩, R.id, R.at_, R.wait, R.full, fun q hq => by
      rcases List.mem_append.1 hq with hq | hq
      · exact R.links q hq
      · simp at hq; subst hq; exact hx.1.2, R.watched⟩ I.queue (I.q_same hg Iff.rfl) I.nn (by simp only; omega)
  refine ⟨J, rfl, rfl, ?_, by simp⟩
  have := aliveN_set (r' := { r with links := r.links ++ [x] }) hg
  unfold Go.Proofs.YtdpffdpgcooagaaGreat.phi
  simp only at this ⊢
  omega
theorem Inv.watchK (I : Inv w) {k x : Int} (hk : Alive w k) (hx : (1 ≤ x ∧ x ≤ w.runs.length) ∧ x ≠ k ∧ x ∉ (runAt w k).watched) : Kept w 0 (setRun w k { runAt w k with watched := (runAt w k).watched ++ [x] }) := by
  have hal := hk.2
  obtain ⟨i, rfl, ei, hl, hg, R⟩ := I.run hk.1
  have h6 := I.many.2
  unfold setRun
  rw [ei]
  generalize runAt w (↑i + 1) = r at *
  have J := I.upd (r' := { r with watched := r.watched ++ [x] }) (s := w.sent) (t := w.taken) (l := w.lost) hg
    ⟨⟨R.ok.id, R.ok.at_, R.ok.len, R.ok.full, R.ok.room, R.ok.state, R.ok.due, R.ok.turns, R.ok.slots, R.ok.mail, R.ok.links, idsOk_app R.ok.watched (by omega) (by rw [R.id]; exact hx.2.1) hx.2.2, R.ok.why, fun h => absurd h hal, R.ok.live⟩, R.id, R.at_, R.wait, R.full, R.links, fun q hq => by
      rcases List.mem_append.1 hq with hq | hq
      · exact R.watched q hq
      · simp at hq; subst hq; exact hx.1.2⟩ I.queue (I.q_same hg Iff.rfl) I.nn (by simp only; omega)
  refine ⟨J, rfl, rfl, ?_, by simp⟩
  have := aliveN_set (r' := { r with watched := r.watched ++ [x] }) hg
  unfold Go.Proofs.YtdpffdpgcooagaaGreat.phi
  simp only at this ⊢
  omega
theorem runAt_set {k q : Int} {x : PRun} (hk : 1 ≤ k ∧ k ≤ w.runs.length) (hq : 1 ≤ q) : runAt (setRun w k x) q = if q = k then x else runAt w q := by
  unfold runAt setRun
  simp only [List.getElem?_set]
  by_cases e : q = k
  · subst e
    rw [if_pos rfl, if_pos rfl, if_pos (by omega)]; rfl
  · rw [if_neg e, if_neg (by omega)]
theorem alive_set {k q : Int} {x : PRun} (hk : 1 ≤ k ∧ k ≤ w.runs.length) (hx : x.state = 3 ↔ (runAt w k).state = 3) : Alive (setRun w k x) q ↔ Alive w q := by
  unfold Alive
  rw [setRun_len]
  constructor
  · rintro ⟨a, b⟩
    refine ⟨a, ?_⟩
    rw [runAt_set hk a.1] at b
    split at b
    · rename_i e; subst e; exact fun h => b (hx.2 h)
    · exact b
  · rintro ⟨a, b⟩
    refine ⟨a, ?_⟩
    rw [runAt_set hk a.1]
    split
    · rename_i e; subst e; exact fun h => b (hx.1 h)
    · exact b
/-- Links are of both. -/
def Sym (w : PWorld) : Prop := ∀ a b : Int, (1 ≤ a ∧ a ≤ w.runs.length) → (1 ≤ b ∧ b ≤ w.runs.length) → (b ∈ (runAt w a).links ↔ a ∈ (runAt w b).links)
/-- Who watches did not end. -/
def WatchL (w : PWorld) : Prop := ∀ a : Int, (1 ≤ a ∧ a ≤ w.runs.length) → ∀ k ∈ (runAt w a).watched, Alive w k
structure Good (w : PWorld) : Prop where
  inv : Inv w
  sym : Sym w
  watch : WatchL w
/-- A run with other mail, and going or waiting. -/
def Up (r r' : PRun) : Prop := ∃ m s, r' = { r with mail := m, state := s } ∧ (s = 3 ↔ r.state = 3) ∧ (r.state = 3 → r' = r)
theorem Up.refl (r : PRun) : Up r r := ⟨r.mail, r.state, rfl, Iff.rfl, fun _ => rfl⟩
theorem Up.trans {a b c : PRun} (x : Up a b) (y : Up b c) : Up a c := by
  obtain ⟨m, s, rfl, h1, h2⟩ := x
  obtain ⟨m', s', rfl, h3, h4⟩ := y
  simp only at h3 h4
  exact ⟨m', s', rfl, h3.trans h1, fun h => by rw [h4 (h1.2 h), h2 h]⟩
theorem Up.unlink {a b : PRun} (x : Up a b) (id : Int) : Up { a with links := less a.links id } { b with links := less b.links id } := by
  obtain ⟨m, s, rfl, h1, h2⟩ := x
  refine ⟨m, s, rfl, h1, fun h => ?_⟩
  have e := h2 h
  have e1 : m = a.mail := congrArg (·.mail) e
  have e2 : s = a.state := congrArg (·.state) e
  rw [e1, e2]
theorem giveP_up (w : PWorld) (id : Int) (v : PVal) {q : Int} (hq : 1 ≤ q) : Up (runAt w q) (runAt (giveP w id v) q) := by
  unfold giveP
  split
  · rename_i k
    obtain ⟨k1, k2, k3⟩ := k
    split
    · have e := runAt_set (w := w) (x := { runAt w id with mail := (runAt w id).mail ++ [v], state := 1 }) k1 hq
      unfold setRun at e
      show Up _ (runAt { w with runs := w.runs.set (id - 1).toNat { runAt w id with mail := (runAt w id).mail ++ [v], state := 1 } } q)
      rw [e]
      split
      · rename_i e; subst e; exact ⟨_, 1, rfl, by simp [k2], fun h => absurd h k2⟩
      · exact Up.refl _
    · have e := runAt_set (w := w) (x := { runAt w id with mail := (runAt w id).mail ++ [v] }) k1 hq
      unfold setRun at e
      show Up _ (runAt { w with runs := w.runs.set (id - 1).toNat { runAt w id with mail := (runAt w id).mail ++ [v] } } q)
      rw [e]
      split
      · rename_i e; subst e; exact ⟨_, _, rfl, Iff.rfl, fun h => absurd h k2⟩
      · exact Up.refl _
  · exact Up.refl _
theorem tell_up {id : Int} {q : Int} (hq : 1 ≤ q) : ∀ (ks : List Int) (w : PWorld), Up (runAt w q) (runAt (tell id w ks) q)
  | [], w => Up.refl _
  | k :: ks, w => (giveP_up w k ⟨3, id⟩ hq).trans (tell_up hq ks _)
theorem less_less (xs : List Int) (n : Int) : less (less xs n) n = less xs n := by simp [less]
theorem less_none {xs : List Int} {n : Int} (h : n ∉ xs) : less xs n = xs := by
  unfold less; rw [List.filter_eq_self]; intro x hx; simp; intro e; subst e; exact h hx
theorem linkStep_up {id : Int} {why : PVal} {x : PWorld × List Int} {k q : Int} (hk : 1 ≤ k ∧ k ≤ x.1.runs.length) (hq : 1 ≤ q) :
    Up { runAt x.1 q with links := if q = k then less (runAt x.1 q).links id else (runAt x.1 q).links } (runAt (linkStep id why x k).1 q) ∧ (linkStep id why x k).1.runs.length = x.1.runs.length := by
  have e := runAt_set (w := x.1) (x := { runAt x.1 k with links := less (runAt x.1 k).links id }) hk hq
  have e2 : runAt (setRun x.1 k { runAt x.1 k with links := less (runAt x.1 k).links id }) q = { runAt x.1 q with links := if q = k then less (runAt x.1 q).links id else (runAt x.1 q).links } := by
    rw [e]; by_cases h : q = k
    · subst h; simp
    · simp [h]
  unfold linkStep
  rw [← e2]
  split
  · exact ⟨Up.refl _, setRun_len⟩
  · split
    · exact ⟨giveP_up _ _ _ hq, by rw [(giveP_len _ _ _).1]; exact setRun_len⟩
    · exact ⟨Up.refl _, setRun_len⟩
theorem links_up {id : Int} {why : PVal} {q : Int} (hq : 1 ≤ q) : ∀ (ks : List Int) (x : PWorld × List Int), (∀ k ∈ ks, 1 ≤ k ∧ k ≤ x.1.runs.length) →
    Up { runAt x.1 q with links := if q ∈ ks then less (runAt x.1 q).links id else (runAt x.1 q).links } (runAt (ks.foldl (linkStep id why) x).1 q)
  | [], x, _ => by simpa using Up.refl _
  | k :: ks, x, h => by
    obtain ⟨u, l⟩ := linkStep_up (id := id) (why := why) (h k (by simp)) hq
    have ih := links_up (id := id) (why := why) hq ks (linkStep id why x k) fun k' hk' => by rw [l]; exact h k' (by simp [hk'])
    simp only [List.foldl_cons]
    refine Up.trans ?_ ih
    by_cases a : q ∈ ks
    · have u2 := u.unlink id
      simp only [a, List.mem_cons, or_true, ↓reduceIte]
      refine Up.trans ?_ u2
      by_cases b : q = k
      · simp only [b, ↓reduceIte, less_less]; exact Up.refl _
      · simp only [b, ↓reduceIte]; exact Up.refl _
    · simp only [a, List.mem_cons, or_false, ↓reduceIte]
      exact u
theorem endBase_run {id : Int} {why : PVal} {q : Int} (hid : 1 ≤ id ∧ id ≤ w.runs.length) (hq : 1 ≤ q ∧ q ≤ w.runs.length) : runAt (endBase w id why) q = unwatch id (if q = id then clearRun (runAt w id) why else runAt w q) := by
  have e := runAt_set (w := w) (x := clearRun (runAt w id) why) hid hq.1
  unfold runAt setRun at e
  unfold Go.Proofs.YtdpffdpgcooagaaGreat.endBase
  rw [← show _ = (if q = id then clearRun (runAt w id) why else runAt w q) from e]
  unfold runAt
  simp only [List.getElem?_map]
  rw [List.getElem?_eq_getElem (by rw [List.length_set]; omega)]
  rfl
theorem unwatch_clear {r : PRun} {id : Int} {why : PVal} : unwatch id (clearRun r why) = clearRun r why := rfl
/-- What is behind an end. -/
theorem Good.endRun (G : Good w) {id : Int} (ha : Alive w id) (why : PVal) {q : Int} (hq : 1 ≤ q ∧ q ≤ w.runs.length) :
    Up (if q = id then clearRun (runAt w id) why else { runAt w q with links := less (runAt w q).links id, watched := less (runAt w q).watched id }) (runAt (endP w id why).1 q) := by
  obtain ⟨i, e, ei, hl, hg, R⟩ := G.inv.run ha.1
  have hb : (endBase w id why).runs.length = w.runs.length := by simp [endBase]
  have hks : ∀ k ∈ (runAt w id).links, 1 ≤ k ∧ k ≤ w.runs.length := fun k hk => ⟨(R.ok.links.2 k hk).1, R.links k hk⟩
  have u := links_up (id := id) (why := why) hq.1 (runAt w id).links (endBase w id why, []) (by rw [hb]; exact hks)
  have u2 := u.trans (tell_up (id := id) hq.1 (runAt w id).watched _)
  refine Up.trans ?_ u2
  simp only
  rw [endBase_run ha.1 hq]
  by_cases a : q = id
  · subst a
    have : ¬ q ∈ (runAt w q).links := fun h => (R.ok.links.2 q h).2.2 (by rw [R.id, e])
    simp only [this, ↓reduceIte, unwatch_clear]
    exact Up.refl _
  · rw [if_neg a, if_neg a]
    by_cases b : q ∈ (runAt w id).links
    · rw [if_pos b]; exact Up.refl _
    · rw [if_neg b]
      have : id ∉ (runAt w q).links := fun h => b ((G.sym id q ha.1 hq).2 h)
      rw [less_none this]
      exact Up.refl _
theorem Up.state {a b : PRun} (u : Up a b) : (b.state = 3 ↔ a.state = 3) ∧ b.links = a.links ∧ b.watched = a.watched ∧ b.trap = a.trap ∧ b.why = a.why ∧ b.at_ = a.at_ ∧ b.full = a.full ∧ b.slots = a.slots ∧ b.turns = a.turns ∧ b.id = a.id ∧ b.due = a.due := by
  obtain ⟨m, s, rfl, h1, h2⟩ := u
  exact ⟨h1, rfl, rfl, rfl, rfl, rfl, rfl, rfl, rfl, rfl, rfl⟩
theorem Good.give (G : Good w) (id : Int) {v : PVal} (hv : valOk v = true) : Good (giveP w id v) := by
  have hl := (giveP_len w id v).1
  refine ⟨(G.inv.give id hv).1, fun a b ha hb => ?_, fun a ha k hk => ?_⟩
  · rw [hl] at ha hb
    rw [(giveP_up w id v ha.1).state.2.1, (giveP_up w id v hb.1).state.2.1]
    exact G.sym a b ha hb
  · rw [hl] at ha
    rw [(giveP_up w id v ha.1).state.2.2.1] at hk
    obtain ⟨k1, k2⟩ := G.watch a ha k hk
    exact ⟨by rw [hl]; exact k1, by rw [Ne, (giveP_up w id v k1.1).state.1]; exact k2⟩
theorem Good.end (G : Good w) {id : Int} (ha : Alive w id) {why : PVal} (hw : valOk why = true) : Good (endP w id why).1 ∧ ∀ q, Alive (endP w id why).1 q ↔ Alive w q ∧ q ≠ id := by
  obtain ⟨E, h1, h2⟩ := G.inv.endP ha hw
  have hl := E.len
  have up := fun {q : Int} (hq : 1 ≤ q ∧ q ≤ w.runs.length) => (G.endRun ha why hq).state
  have lk : ∀ {q : Int}, (1 ≤ q ∧ q ≤ w.runs.length) → ∀ x, x ∈ (runAt (endP w id why).1 q).links ↔ x ∈ (runAt w q).links ∧ x ≠ id ∧ q ≠ id := fun {q} hq x => by
    rw [(up hq).2.1]
    by_cases a : q = id
    · simp [a, clearRun]
    · simp [a, mem_less]
  have al : ∀ q, Alive (endP w id why).1 q ↔ Alive w q ∧ q ≠ id := fun q => by
    unfold Alive
    rw [hl]
    constructor
    · rintro ⟨a, b⟩
      rw [Ne, (up a).1] at b
      by_cases c : q = id
      · subst c; simp [clearRun] at b
      · simp only [c, ↓reduceIte] at b; exact ⟨⟨a, b⟩, c⟩
    · rintro ⟨⟨a, b⟩, c⟩
      refine ⟨a, ?_⟩
      rw [Ne, (up a).1]
      simp only [c, ↓reduceIte]; exact b
  refine ⟨⟨E.inv, fun a b ha' hb' => ?_, fun a ha' k hk => ?_⟩, al⟩
  · rw [hl] at ha' hb'
    rw [lk ha', lk hb', G.sym a b ha' hb']
    constructor <;> rintro ⟨x, y, z⟩ <;> exact ⟨x, z, y⟩
  · rw [hl] at ha'
    rw [(up ha').2.2.1] at hk
    rw [al]
    by_cases c : a = id
    · simp [c, clearRun] at hk
    · simp only [c, ↓reduceIte, mem_less] at hk
      exact ⟨G.watch a ha' k hk.1, hk.2⟩
theorem Good.fallN {why : PVal} (hw : valOk why = true) : ∀ (n : Nat) {w : PWorld} (ks : List Int), Good w → Good (fallN n w ks why)
  | 0, w, ks, G => G
  | n + 1, w, [], G => G
  | n + 1, w, k :: ks, G => by
    unfold Go.Proofs.YtdpffdpgcooagaaGreat.fallN
    split
    · rename_i ha
      exact (G.end ha hw).1.fallN hw n _
    · exact G.fallN hw n ks
/-- One run is otherwise, not its links. -/
theorem Good.set (G : Good w) {k : Int} (hk : 1 ≤ k ∧ k ≤ w.runs.length) {r' : PRun} {q : List Int} {n s t l : Int} (I : Inv { setRun w k r' with queue := q, now := n, sent := s, taken := t, lost := l }) (h1 : r'.links = (runAt w k).links) (h2 : r'.watched = (runAt w k).watched) (h3 : r'.state = 3 ↔ (runAt w k).state = 3) :
    Good { setRun w k r' with queue := q, now := n, sent := s, taken := t, lost := l } := by
  have hl : (setRun w k r').runs.length = w.runs.length := setRun_len
  refine ⟨I, fun a b ha hb => ?_, fun a ha x hx => ?_⟩
  · change 1 ≤ a ∧ a ≤ (setRun w k r').runs.length at ha
    change 1 ≤ b ∧ b ≤ (setRun w k r').runs.length at hb
    rw [hl] at ha hb
    show b ∈ (runAt (setRun w k r') a).links ↔ a ∈ (runAt (setRun w k r') b).links
    rw [runAt_set hk ha.1, runAt_set hk hb.1]
    have := G.sym a b ha hb
    by_cases c : a = k <;> by_cases d : b = k <;> simp only [c, d, ↓reduceIte, h1] at this ⊢ <;> exact this
  · change 1 ≤ a ∧ a ≤ (setRun w k r').runs.length at ha
    rw [hl] at ha
    change x ∈ (runAt (setRun w k r') a).watched at hx
    rw [runAt_set hk ha.1] at hx
    refine (alive_set hk h3).2 ?_
    by_cases c : a = k
    · subst c; rw [if_pos rfl, h2] at hx; exact G.watch a ha x hx
    · rw [if_neg c] at hx; exact G.watch a ha x hx
end
end Go.Proofs.YtdpffdpgcooagaaGreat

/-
  WORLDS IN PLAIN DATA: a step, a turn, what happens: a good world stays one.
-/
set_option maxRecDepth 8000
namespace Go.Proofs.YtdpffdpgcooagaaGreat
open Go.AM
variable {w : PWorld}
section
variable {id : Int} {i : Nat} {r : PRun} {o : POp}
structure GK (w : PWorld) (d : Int) (w' : PWorld) : Prop where
  k : Kept w d w'
  g : Good w'
theorem GK.le {d e : Int} {w' : PWorld} (x : GK w d w') (h : d ≤ e) : GK w e w' := ⟨x.k.le h, x.g⟩
theorem GK.trans {a b c : PWorld} {d e : Int} (x : GK a d b) (y : GK b e c) : GK a (d + e) c := ⟨x.k.trans y.k, y.g⟩
theorem Good.giveG (G : Good w) (id : Int) {v : PVal} (hv : valOk v = true) : GK w 1 (giveP w id v) := ⟨G.inv.giveK id hv, G.give id hv⟩
theorem Good.fallG (G : Good w) (id : Int) {v : PVal} (hv : valOk v = true) : GK w 0 (fallP w id v) := ⟨fallN_kept hv 64 [id] G.inv, G.fallN hv 64 [id]⟩
theorem Good.setG (G : Good w) {k : Int} (hk : 1 ≤ k ∧ k ≤ w.runs.length) {d : Int} {r' : PRun} (K : Kept w d (setRun w k r')) (h1 : r'.links = (runAt w k).links) (h2 : r'.watched = (runAt w k).watched) (h3 : r'.state = 3 ↔ (runAt w k).state = 3) : GK w d (setRun w k r') :=
  ⟨K, G.set hk (q := w.queue) (n := w.now) (s := w.sent) (t := w.taken) (l := w.lost) K.inv h1 h2 h3⟩
theorem Turn.setG (T : Turn w id i r o) (G : Good w) (hk : ¬ (o.kind = 9 ∨ o.kind = 14)) {v : PVal} (hv : valOk v = true) : GK w 0 (setP w id o.r v) := by
  obtain ⟨i1, i2, i3⟩ := T.idr G.inv
  have K := T.setK G.inv hk hv
  unfold setP at K ⊢
  exact G.setG ⟨i1, i3⟩ K rfl rfl Iff.rfl
theorem Turn.waitG (T : Turn w id i r o) (G : Good w) {due : Int} (K : Kept w 0 (waitP w id due)) : GK w 0 (waitP w id due) := by
  obtain ⟨i1, i2, i3⟩ := T.idr G.inv
  exact ⟨K, G.set ⟨i1, i3⟩ (r' := { runAt w id with state := 2, due := due }) (q := less w.queue id) (n := w.now) (s := w.sent) (t := w.taken) (l := w.lost) K.inv rfl rfl (by rw [T.at_, T.going]; simp)⟩
theorem Turn.takeG (T : Turn w id i r o) (G : Good w) (hk : o.kind = 7 ∨ o.kind = 8) : GK w 0 (takeP w id o) := by
  obtain ⟨i1, i2, i3⟩ := T.idr G.inv
  have K := T.takeK G.inv hk
  unfold takeP at K ⊢
  split at K
  · rename_i h0
    rw [if_pos h0]
    exact ⟨K, G.set ⟨i1, i3⟩ (r' := takeRun (runAt w id) o.r (mailAt (runAt w id) o.s).toNat) (q := w.queue) (n := w.now) (s := w.sent) (t := w.taken + 1) (l := w.lost) K.inv rfl rfl Iff.rfl⟩
  · rename_i h0
    rw [if_neg h0]
    split at K
    · rename_i h7; rw [if_pos h7]; exact T.waitG G K
    · rename_i h7
      rw [if_neg h7]
      split at K
      · rename_i hd; rw [if_pos hd]; exact G.setG ⟨i1, i3⟩ K rfl rfl Iff.rfl
      · rename_i hd; rw [if_neg hd]; exact T.waitG G K
theorem runAt_add {q : Int} (hq : 1 ≤ q ∧ q ≤ w.runs.length) : runAt (addRunP w id o) q = runAt w q := by
  unfold runAt addRunP
  simp only
  rw [List.getElem?_append_left (by omega)]
theorem runAt_new : runAt (addRunP w id o) (w.runs.length + 1) = newRun (w.runs.length + 1) o.to ⟨3, id⟩ := by
  unfold runAt addRunP
  simp only
  rw [show ((w.runs.length : Int) + 1 - 1).toNat = w.runs.length by omega]
  simp
theorem Turn.addG (T : Turn w id i r o) (G : Good w) (hk : o.kind = 5) (hn : w.runs.length < 6) : GK w 12 (addRunP w id o) ∧ Turn (addRunP w id o) id i r o := by
  obtain ⟨K, T2⟩ := T.addK G.inv hk hn
  have hl : (addRunP w id o).runs.length = w.runs.length + 1 := by simp [addRunP]
  have cs : ∀ {q : Int}, (1 ≤ q ∧ q ≤ (addRunP w id o).runs.length) → (1 ≤ q ∧ q ≤ w.runs.length) ∨ q = w.runs.length + 1 := fun h => by rw [hl] at h; omega
  have old : ∀ {q : Int}, (1 ≤ q ∧ q ≤ w.runs.length) → ∀ k ∈ (runAt w q).links, k ≤ w.runs.length := fun {q} h k hk => by
    obtain ⟨j, e, ej, hj, hg, R⟩ := G.inv.run h
    exact R.links k hk
  refine ⟨⟨K, ⟨K.inv, fun a b ha hb => ?_, fun a ha k hk => ?_⟩⟩, T2⟩
  · rcases cs ha with ha | rfl <;> rcases cs hb with hb | rfl
    · rw [runAt_add ha, runAt_add hb]; exact G.sym a b ha hb
    · rw [runAt_add ha, runAt_new]
      simp only [newRun, List.not_mem_nil, iff_false]
      intro h; have := old ha _ h; omega
    · rw [runAt_add hb, runAt_new]
      simp only [newRun, List.not_mem_nil, false_iff]
      intro h; have := old hb _ h; omega
    · simp [runAt_new, newRun]
  · rcases cs ha with ha | rfl
    · rw [runAt_add ha] at hk
      obtain ⟨k1, k2⟩ := G.watch a ha k hk
      exact ⟨by rw [hl]; omega, by rw [runAt_add k1]; exact k2⟩
    · rw [runAt_new] at hk; simp [newRun] at hk
theorem Turn.beginG (T : Turn w id i r o) (G : Good w) (hk : o.kind = 5) : GK w 12 (beginP w id o) := by
  unfold beginP
  obtain ⟨i1, i2, i3⟩ := T.idr G.inv
  have hk9 : ¬ (o.kind = 9 ∨ o.kind = 14) := by omega
  split
  · exact (T.setG G hk9 (v := ⟨0, 0⟩) rfl).le (by omega)
  · have hn : w.runs.length < 6 := by omega
    obtain ⟨K, T2⟩ := T.addG G hk hn
    exact (K.trans (T2.setG K.g hk9 (valOk_run (by omega)))).le (by omega)
theorem Good.linkG (G : Good w) {a b : Int} (ha : Alive w a) (hb : Alive w b) (hne : b ≠ a) (hn : b ∉ (runAt w a).links) : GK w 0 (linkP w a b) := by
  have K1 := G.inv.linkK ha (x := b) ⟨hb.1, hne, hn⟩
  have hn2 : a ∉ (runAt w b).links := fun h => hn ((G.sym b a hb.1 ha.1).1 h)
  have hb2 : Alive (setRun w a { runAt w a with links := (runAt w a).links ++ [b] }) b := (alive_set ha.1 (by exact Iff.rfl)).2 hb
  have e1 : runAt (setRun w a { runAt w a with links := (runAt w a).links ++ [b] }) b = runAt w b := by rw [runAt_set ha.1 hb.1.1, if_neg hne]
  have K2 := K1.inv.linkK hb2 (x := a) ⟨by rw [setRun_len]; exact ha.1, Ne.symm hne, by rw [e1]; exact hn2⟩
  have K := (K1.trans K2).le (e := 0) (by omega)
  have hb1 : 1 ≤ b ∧ b ≤ (setRun w a { runAt w a with links := (runAt w a).links ++ [b] }).runs.length := by rw [setRun_len]; exact hb.1
  have hl : (linkP w a b).runs.length = w.runs.length := by unfold linkP; simp only; rw [setRun_len, setRun_len]
  have at_ : ∀ {q : Int}, (1 ≤ q ∧ q ≤ w.runs.length) → runAt (linkP w a b) q = { runAt w q with links := if q = a then (runAt w q).links ++ [b] else if q = b then (runAt w q).links ++ [a] else (runAt w q).links } := fun {q} hq => by
    unfold linkP
    simp only
    rw [runAt_set hb1 hq.1, e1, runAt_set ha.1 hq.1]
    by_cases c : q = b
    · subst c; simp [hne]
    · by_cases d : q = a
      · subst d; simp [c]
      · simp [c, d]
  refine ⟨K, K.inv, fun x y hx hy => ?_, fun x hx k hk => ?_⟩
  · rw [hl] at hx hy
    rw [at_ hx, at_ hy]
    have := G.sym x y hx hy
    simp only
    by_cases c : x = a <;> by_cases d : y = a <;> by_cases e : x = b <;> by_cases f : y = b <;> simp only [c, d, e, f, ↓reduceIte, List.mem_append, List.mem_singleton] at this ⊢ <;> grind
  · rw [hl] at hx
    rw [at_ hx] at hk
    obtain ⟨k1, k2⟩ := G.watch x hx k hk
    exact ⟨by rw [hl]; exact k1, by rw [at_ k1]; exact k2⟩
theorem Good.watchG (G : Good w) {a k : Int} (ha : Alive w a) (hk : Alive w k) (hne : a ≠ k) (hn : a ∉ (runAt w k).watched) : GK w 0 (watchP w a k) := by
  have K := G.inv.watchK hk (x := a) ⟨ha.1, hne, hn⟩
  unfold watchP
  have hl : (setRun w k { runAt w k with watched := (runAt w k).watched ++ [a] }).runs.length = w.runs.length := setRun_len
  refine ⟨K, K.inv, fun x y hx hy => ?_, fun x hx q hq => ?_⟩
  · rw [hl] at hx hy
    rw [runAt_set hk.1 hx.1, runAt_set hk.1 hy.1]
    have := G.sym x y hx hy
    by_cases c : x = k <;> by_cases d : y = k <;> simp only [c, d, ↓reduceIte] at this ⊢ <;> exact this
  · rw [hl] at hx
    rw [runAt_set hk.1 hx.1] at hq
    refine (alive_set hk.1 (by exact Iff.rfl)).2 ?_
    split at hq
    · rename_i e; subst e
      simp only [List.mem_append, List.mem_singleton] at hq
      rcases hq with hq | rfl
      · exact G.watch x hx q hq
      · exact ha
    · exact G.watch x hx q hq
theorem Turn.otherG (T : Turn w id i r o) (G : Good w) (hk : o.kind = 6 ∨ o.kind = 11 ∨ o.kind = 12) : GK w 1 (otherP w id o) := by
  have R := T.run
  obtain ⟨i1, i2, i3⟩ := T.idr G.inv
  have hk9 : ¬ (o.kind = 9 ∨ o.kind = 14) := by omega
  have K : GK w 0 (setRun w id (nextRun r)) := G.setG ⟨i1, i3⟩ (T.nextK G.inv hk9 (by simp [fillsK]; omega)) (by rw [T.at_]; rfl) (by rw [T.at_]; rfl) (by rw [T.at_]; rfl)
  have hr := op_r T.ok
  have hs := op_s T.ok
  unfold otherP
  rw [T.at_]
  simp only
  split
  · exact (G.fallG id rfl).le (by omega)
  · split
    · exact (K.trans (K.g.giveG _ (slotAt_ok R.ok hs.1 hs.2))).le (by omega)
    · split
      · exact (K.trans (K.g.giveG _ (slotAt_ok R.ok hr.1 hr.2))).le (by omega)
      · split
        · exact K.le (by omega)
        · rename_i hh
          have hne : (slotAt r o.r).n ≠ id := fun e => hh (.inl e)
          have hal : Alive w (slotAt r o.r).n := Classical.byContradiction fun e => hh (.inr e)
          have hal2 : Alive (setRun w id (nextRun r)) (slotAt r o.r).n := (alive_set ⟨i1, i3⟩ (by rw [T.at_]; rfl)).2 hal
          have hid2 : Alive (setRun w id (nextRun r)) id := (alive_set ⟨i1, i3⟩ (by rw [T.at_]; rfl)).2 ⟨⟨i1, i3⟩, by rw [T.at_, T.going]; decide⟩
          have e1 : runAt (setRun w id (nextRun r)) (slotAt r o.r).n = runAt w (slotAt r o.r).n := by rw [runAt_set ⟨i1, i3⟩ hal.1.1, if_neg hne]
          have e2 : runAt (setRun w id (nextRun r)) id = nextRun r := by rw [runAt_set ⟨i1, i3⟩ i1, if_pos rfl]
          split
          · rename_i hw
            exact (K.trans (K.g.watchG hid2 hal2 (Ne.symm hne) (by rw [e1]; exact hw.2))).le (by omega)
          · split
            · rename_i hl
              exact (K.trans (K.g.linkG hid2 hal2 hne (by rw [e2]; exact hl.2))).le (by omega)
            · exact K.le (by omega)
theorem addP_ok {a b v : PVal} (h : addP a b = some v) : valOk v = true := by
  unfold addP at h
  split at h
  · rename_i hh; cases h; simp [valOk]; omega
  · cases h
theorem Turn.stepG (T : Turn w id i r o) (G : Good w) : GK w 12 (stepP w id) := by
  have R := T.run
  obtain ⟨i1, i2, i3⟩ := T.idr G.inv
  have hr := op_r T.ok
  have hs := op_s T.ok
  have hkd := op_kind T.ok
  have why : r.why = ⟨0, 0⟩ := R.ok.live (by rw [T.going]; decide)
  have flat : ∀ {r' : PRun}, RunI w.code w.now w.runs.length i r' → r'.state = 1 → r'.mail = r.mail → r'.links = r.links → r'.watched = r.watched → GK w 12 (setRun w id r') := fun {r'} R' h1 h2 h3 h4 =>
    (G.setG ⟨i1, i3⟩ (T.keep G.inv R' h1 (by rw [h2])) (by rw [T.at_]; exact h3) (by rw [T.at_]; exact h4) (by rw [T.at_, h1, T.going])).le (by omega)
  unfold stepP
  rw [T.at_]
  simp only
  rw [T.op]
  by_cases k1 : o.kind = 1
  · rw [if_pos k1]; exact (T.setG G (by omega) (op_v T.ok)).le (by omega)
  rw [if_neg k1]
  by_cases k2 : o.kind = 2
  · rw [if_pos k2]; exact (T.setG G (by omega) (slotAt_ok R.ok hs.1 hs.2)).le (by omega)
  rw [if_neg k2]
  by_cases k3 : o.kind = 3
  · rw [if_pos k3]
    split
    · exact (G.fallG id rfl).le (by omega)
    · rename_i v hv; exact (T.setG G (by omega) (addP_ok hv)).le (by omega)
  rw [if_neg k3]
  by_cases k4 : o.kind = 4
  · rw [if_pos k4]; exact (T.setG G (by omega) (valOk_run (by omega))).le (by omega)
  rw [if_neg k4]
  by_cases k5 : o.kind = 5
  · rw [if_pos k5]; exact T.beginG G k5
  rw [if_neg k5]
  by_cases k7 : o.kind = 7 ∨ o.kind = 8
  · rw [if_pos k7]; exact (T.takeG G k7).le (by omega)
  rw [if_neg k7]
  by_cases k9 : o.kind = 9
  · rw [if_pos k9]
    have A := T.to G.inv (fun x => by simp [goesTo, k9]) (by simp [hasT, k9])
    rw [if_neg k5] at A
    exact flat (R.goes G.inv.safe rfl T.going R.ok.mail R.ok.room R.ok.due rfl rfl why rfl R.ok.len R.ok.full R.ok.slots A.1 A.2) T.going rfl rfl rfl
  rw [if_neg k9]
  by_cases k10 : o.kind = 10
  · rw [if_pos k10]
    split
    · have A := T.to G.inv (fun x => by simp [goesTo, k10]) (by simp [hasT, k10])
      rw [if_neg k5] at A
      exact flat (R.goes G.inv.safe rfl T.going R.ok.mail R.ok.room R.ok.due rfl rfl why rfl R.ok.len R.ok.full R.ok.slots A.1 A.2) T.going rfl rfl rfl
    · exact flat (T.nextI G.inv (by omega) (by simp [fillsK, k10])) T.going rfl rfl rfl
  rw [if_neg k10]
  by_cases k13 : o.kind = 13
  · rw [if_pos k13]
    have N := T.nextI G.inv (by omega) (by simp [fillsK, k13])
    exact flat (r' := { r with trap := decide (o.v.n = 1), at_ := r.at_ + 1 }) ⟨⟨N.ok.id, N.ok.at_, N.ok.len, N.ok.full, N.ok.room, N.ok.state, N.ok.due, N.ok.turns, N.ok.slots, N.ok.mail, N.ok.links, N.ok.watched, N.ok.why, N.ok.ended, N.ok.live⟩, N.id, N.at_, N.wait, N.full, N.links, N.watched⟩ T.going rfl rfl rfl
  rw [if_neg k13]
  by_cases k14 : o.kind = 14
  · rw [if_pos k14]; exact (G.fallG id (slotAt_ok R.ok hr.1 hr.2)).le (by omega)
  rw [if_neg k14]
  exact (T.otherG G (by omega)).le (by omega)
end
theorem Good.stepG (G : Good w) {id : Int} (hid : 1 ≤ id ∧ id ≤ w.runs.length) (hg : (runAt w id).state = 1) : GK w 12 (stepP w id) := by
  obtain ⟨i, T⟩ := G.inv.turn hid hg
  exact T.stepG G
theorem Good.stepsG : ∀ (n : Nat) {w : PWorld} (_ : Good w) {id : Int} (_ : 1 ≤ id ∧ id ≤ w.runs.length), GK w (12 * n) (stepsP n w id)
  | 0, w, G, id, _ => ⟨Kept.refl G.inv, G⟩
  | n + 1, w, G, id, hid => by
    unfold stepsP
    split
    · rename_i hg
      have S := G.stepG hid hg
      exact (S.trans (Good.stepsG n S.g (by have := S.k.len; omega))).le (by omega)
    · exact (GK.mk (Kept.refl G.inv) G).le (by omega)
end Go.Proofs.YtdpffdpgcooagaaGreat
