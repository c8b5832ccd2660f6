/-
  What functions of the seat answer, each proved once; each under the condition that cells bear what it is given, as its statement says.
-/
import Derived.Test.YtmkiojlebjknlaaGreatWalkA21
set_option linter.all false
/-
 WORLDS IN PLAIN DATA: what a change leaves of a run.
-/
set_option maxRecDepth 8000
namespace Go.Proofs.YtmkiojlebjknlaaGreat
variable {w w' : PWorld}
structure RunK (r r' : PRun) : Prop where
 id : r'.id = r.id
 at_ : r'.at_ = r.at_
 full : r'.full = r.full
 slots : r'.slots = r.slots
 trap : r'.trap = r.trap
 turns : r'.turns = r.turns
 mail : r'.state = 3 ∨ r.mail <+: r'.mail
 ended : r.state = 3 → r'.state = 3
 due : r'.due = r.due ∨ r.state ≠ 3 ∧ r'.due ≤ 0
 going : r'.state = r.state ∨ r'.state = 3 ∨ r.state = 2 ∧ r'.state = 1
 why : r'.why = r.why ∨ r.state ≠ 3 ∧ r'.state = 3
theorem RunK.refl (r : PRun) : RunK r r := ⟨rfl, rfl, rfl, rfl, rfl, rfl, .inr (List.prefix_refl _), fun h => h, .inl rfl, .inl rfl, .inl rfl⟩
theorem RunK.trans {a b c : PRun} (x : RunK a b) (y : RunK b c) : RunK a c :=
 ⟨y.id.trans x.id, y.at_.trans x.at_, y.full.trans x.full, y.slots.trans x.slots, y.trap.trans x.trap, y.turns.trans x.turns, by
  rcases y.mail with h | h
  ·exact .inl h
  ·rcases x.mail with g | g
   ·exact .inl (y.ended g)
   ·exact .inr (g.trans h), fun h => y.ended (x.ended h), by
  rcases y.due with h | h
  ·rcases x.due with g | g
   ·exact .inl (h.trans g)
   ·exact .inr ⟨g.1, by have := g.2; omega⟩
  ·exact .inr ⟨fun e => h.1 (x.ended e), h.2⟩, by
  rcases y.going with h | h | h
  ·rcases x.going with g | g | g
   ·exact .inl (h.trans g)
   ·exact .inr (.inl (h.trans g))
   ·exact .inr (.inr ⟨g.1, h.trans g.2⟩)
  ·exact .inr (.inl h)
  ·rcases x.going with g | g | g
   ·exact .inr (.inr ⟨g ▸ h.1, h.2⟩)
   ·rw [h.1] at g; cases g
   ·rw [g.2] at h; exact absurd h.1 (by decide), by
  rcases y.why with h | h
  ·rcases x.why with g | g
   ·exact .inl (h.trans g)
   ·exact .inr ⟨g.1, y.ended g.2⟩
  ·exact .inr ⟨fun e => h.1 (x.ended e), h.2⟩⟩
structure WK (p : Nat → Prop) (n : Nat) (id : Int) (w w' : PWorld) : Prop where
 len : w.runs.length ≤ w'.runs.length
 len2 : w'.runs.length ≤ w.runs.length + n
 each : ∀ (i : Nat) r, ¬ p i → w.runs[i]? = some r → ∃ r', w'.runs[i]? = some r' ∧ RunK r r'
 turns : ∀ (i : Nat) r, w.runs[i]? = some r → ∃ r', w'.runs[i]? = some r' ∧ r'.turns = r.turns
 new : ∀ (j : Nat) r', w.runs.length ≤ j → w'.runs[j]? = some r' → ∃ k to, RunK (newRun k to ⟨3, id⟩) r'
variable {p : Nat → Prop} {n m : Nat} {id : Int}
theorem WK.eq (e : w'.runs = w.runs) : WK p 0 id w w' :=
 ⟨by rw [e]; exact Nat.le_refl _, by rw [e]; exact Nat.le_refl _, fun i r _ h => ⟨r, by rw [e]; exact h, RunK.refl r⟩, fun i r h => ⟨r, by rw [e]; exact h, rfl⟩, fun j r' hj h => by
  rw [e, List.getElem?_eq_none hj] at h; cases h⟩
theorem WK.refl (w : PWorld) : WK p 0 id w w := WK.eq rfl
theorem WK.trans {a b c : PWorld} (x : WK p n id a b) (y : WK p m id b c) (hp : ∀ j, p j → j < a.runs.length) : WK p (n + m) id a c :=
 ⟨Nat.le_trans x.len y.len, by have := x.len2; have := y.len2; omega, fun i r hi h => by
  obtain ⟨r1, h1, k1⟩ := x.each i r hi h
  obtain ⟨r2, h2, k2⟩ := y.each i r1 hi h1
  exact ⟨r2, h2, k1.trans k2⟩, fun i r h => by
  obtain ⟨r1, h1, k1⟩ := x.turns i r h
  obtain ⟨r2, h2, k2⟩ := y.turns i r1 h1
  exact ⟨r2, h2, k2.trans k1⟩, fun j r2 hj h => by
  by_cases hb : b.runs.length ≤ j
  ·exact y.new j r2 hb h
  ·have hg : b.runs[j]? = some (b.runs[j]'(by omega)) := List.getElem?_eq_getElem (by omega)
   obtain ⟨k, to, q⟩ := x.new j _ hj hg
   obtain ⟨r3, h3, q3⟩ := y.each j _ (fun hh => by have := hp j hh; omega) hg
   rw [h] at h3; cases h3
   exact ⟨k, to, q.trans q3⟩⟩
theorem WK.mono {q : Nat → Prop} (x : WK p n id w w') (h : ∀ i, p i → q i) : WK q n id w w' := ⟨x.len, x.len2, fun i r hi hr => x.each i r (fun hh => hi (h i hh)) hr, x.turns, x.new⟩
theorem WK.le (x : WK p n id w w') (h : n ≤ m) : WK p m id w w' := ⟨x.len, by have := x.len2; omega, x.each, x.turns, x.new⟩
theorem WK.set {i : Nat} {r' : PRun} (e : w'.runs = w.runs.set i r') (h : ∀ r, w.runs[i]? = some r → (p i ∧ r'.turns = r.turns) ∨ RunK r r') : WK p 0 id w w' := by
 refine ⟨by rw [e]; simp, by rw [e]; simp, fun j r hj hr => ?_, fun j r hr => ?_, fun j r2 hj hr => ?_⟩
 ·by_cases hij : i = j
  ·subst hij
   have hl := (List.getElem?_eq_some_iff.1 hr).1
   refine ⟨r', by rw [e]; simp [hl], ?_⟩
   rcases h r hr with ⟨h1, _⟩ | h1
   ·exact absurd h1 hj
   ·exact h1
  ·exact ⟨r, by rw [e, List.getElem?_set_ne hij]; exact hr, RunK.refl r⟩
 ·by_cases hij : i = j
  ·subst hij
   have hl := (List.getElem?_eq_some_iff.1 hr).1
   refine ⟨r', by rw [e]; simp [hl], ?_⟩
   rcases h r hr with ⟨_, h1⟩ | h1
   ·exact h1
   ·exact h1.turns
  ·exact ⟨r, by rw [e, List.getElem?_set_ne hij]; exact hr, rfl⟩
 ·rw [e, List.getElem?_eq_none (by simpa using hj)] at hr; cases hr
theorem WK.map {f : PRun → PRun} (e : w'.runs = w.runs.map f) (h : ∀ r, RunK r (f r)) : WK p 0 id w w' :=
 ⟨by rw [e]; simp, by rw [e]; simp, fun i r _ hr => ⟨f r, by rw [e, List.getElem?_map, hr]; rfl, h r⟩, fun i r hr => ⟨f r, by rw [e, List.getElem?_map, hr]; rfl, (h r).turns⟩, fun j r2 hj hr => by
  rw [e, List.getElem?_eq_none (by simpa using hj)] at hr; cases hr⟩
theorem runAt_some {k : Int} {r : PRun} (h : w.runs[(k - 1).toNat]? = some r) : runAt w k = r := by unfold runAt; rw [h]; rfl
theorem WK.setRun {k : Int} {r' : PRun} (h : ∀ r, runAt w k = r → (p (k - 1).toNat ∧ r'.turns = r.turns) ∨ RunK r r') : WK p 0 id w (setRun w k r') :=
 WK.set (i := (k - 1).toNat) rfl fun r hr => h r (runAt_some hr)
theorem give_wk (w : PWorld) (k : Int) (v : PVal) : WK p 0 id w (giveP w k v) := by
 unfold giveP
 split
 ·rename_i t
  obtain ⟨_, t2, _⟩ := t
  split
  ·rename_i wk
   refine WK.set rfl fun r hr => ?_
   have := runAt_some hr
   rw [this] at t2 wk ⊢
   exact .inr ⟨rfl, rfl, rfl, rfl, rfl, rfl, .inr (List.prefix_append _ _), fun h => absurd h t2, .inl rfl, .inr (.inr ⟨wk.1, rfl⟩), .inl rfl⟩
  ·refine WK.set rfl fun r hr => ?_
   have := runAt_some hr
   rw [this] at t2 ⊢
   exact .inr ⟨rfl, rfl, rfl, rfl, rfl, rfl, .inr (List.prefix_append _ _), fun h => absurd h t2, .inl rfl, .inl rfl, .inl rfl⟩
 ·exact WK.eq rfl
theorem WK.trans0 {a b c : PWorld} (x : WK (fun _ => False) 0 id a b) (y : WK (fun _ => False) m id b c) : WK (fun _ => False) m id a c := (x.trans y (fun _ h => h.elim)).le (by omega)
theorem tell_wk (k : Int) : ∀ (ks : List Int) (w : PWorld), WK (fun _ => False) 0 id w (tell k w ks)
 | [], w => WK.refl w
 | a :: ks, w => by
  unfold tell
  rw [List.foldl_cons]
  exact (give_wk w a _).trans0 (tell_wk k ks _)
theorem linkStep_wk (k : Int) (why : PVal) (x : PWorld × List Int) (a : Int) : WK (fun _ => False) 0 id x.1 (linkStep k why x a).1 := by
 have s : WK (fun _ => False) 0 id x.1 (setRun x.1 a { runAt x.1 a with links := less (runAt x.1 a).links k }) :=
  WK.setRun fun r hr => .inr (by rw [hr]; exact ⟨rfl, rfl, rfl, rfl, rfl, rfl, .inr (List.prefix_refl _), fun h => h, .inl rfl, .inl rfl, .inl rfl⟩)
 unfold linkStep
 split
 ·exact s
 ·split
  ·exact s.trans0 (give_wk _ _ _)
  ·exact s
theorem endLinks_wk (k : Int) (why : PVal) : ∀ (ks : List Int) (x : PWorld × List Int), WK (fun _ => False) 0 id x.1 (ks.foldl (linkStep k why) x).1
 | [], x => WK.refl _
 | a :: ks, x => by
  rw [List.foldl_cons]
  exact (linkStep_wk k why x a).trans0 (endLinks_wk k why ks _)
theorem endP_wk (w : PWorld) {k : Int} (ha : Alive w k) (why : PVal) : WK (fun _ => False) 0 id w (endP w k why).1 := by
 have b : WK (fun _ => False) 0 id w (endBase w k why) := by
  have b1 : WK (fun _ => False) 0 id w (setRun w k (clearRun (runAt w k) why)) := WK.setRun fun r hr => .inr (by
   rw [hr]; exact ⟨rfl, rfl, rfl, rfl, rfl, rfl, .inl rfl, fun _ => rfl, .inr ⟨by rw [← hr]; exact ha.2, Int.le_refl _⟩, .inr (.inl rfl), .inr ⟨by rw [← hr]; exact ha.2, rfl⟩⟩)
  have b2 : WK (fun _ => False) 0 id (setRun w k (clearRun (runAt w k) why)) (endBase w k why) := WK.map (f := unwatch k) rfl fun r => ⟨rfl, rfl, rfl, rfl, rfl, rfl, .inr (List.prefix_refl _), fun h => h, .inl rfl, .inl rfl, .inl rfl⟩
  exact b1.trans0 b2
 unfold endP
 exact (b.trans0 (endLinks_wk k why _ (endBase w k why, []))).trans0 (tell_wk k _ _)
theorem fallN_wk (why : PVal) : ∀ (n : Nat) (w : PWorld) (ks : List Int), WK (fun _ => False) 0 id w (fallN n w ks why)
 | 0, w, ks => WK.refl w
 | n + 1, w, [] => WK.refl w
 | n + 1, w, k :: ks => by
  unfold fallN
  split
  ·rename_i a
   exact (endP_wk w a why).trans0 (fallN_wk why n _ _)
  ·exact fallN_wk why n w ks
theorem fall_wk (w : PWorld) (k : Int) (why : PVal) : WK (fun _ => False) 0 id w (fallP w k why) := fallN_wk why 64 w [k]
theorem tickTo_wk (w : PWorld) : ∀ i, WK (fun _ => False) 0 id w (tickTo w i)
 | 0 => WK.refl w
 | i + 1 => by
  refine (tickTo_wk w i).trans0 ?_
  rw [tickTo]
  unfold tickAt
  generalize tickTo w i = v
  cases hr : v.runs[i]? with
  | none => exact WK.refl _
  | some r =>
   simp only
   split
   ·rename_i c
    refine WK.set rfl fun r2 h2 => .inr ?_
    rw [hr] at h2; cases h2
    exact ⟨rfl, rfl, rfl, rfl, rfl, rfl, .inr (List.prefix_refl _), fun h => (by rw [c.1] at h; cases h), .inr ⟨by rw [c.1]; decide, by simp⟩, .inr (.inr ⟨c.1, rfl⟩), .inl rfl⟩
   ·exact WK.refl _
theorem tick_wk (w : PWorld) : WK (fun _ => False) 0 id w (tickP w) := by
 unfold tickP
 split
 ·exact WK.refl w
 ·exact WK.trans0 (a := w) (b := { w with now := w.now + 1 }) (WK.eq rfl) (tickTo_wk _ _)
theorem WK.any (x : WK (fun _ => False) n id w w') : WK p n id w w' := x.mono fun _ h => h.elim
theorem step_wk (w : PWorld) {id : Int} (hi : (id - 1).toNat < w.runs.length) : WK (fun i => i = (id - 1).toNat) 1 id w (stepP w id) := by
 have hp : ∀ j, j = (id - 1).toNat → j < w.runs.length := fun j e => by omega
 have own : ∀ {r' : PRun}, r'.turns = (runAt w id).turns → WK (fun i => i = (id - 1).toNat) 1 id w (Go.Proofs.YtmkiojlebjknlaaGreat.setRun w id r') := fun h =>
  (WK.setRun (p := fun i => i = (id - 1).toNat) (fun r hr => .inl ⟨rfl, by rw [h, hr]⟩)).le (by omega)
 have own0 : ∀ {w2 : PWorld} {r' : PRun}, w2.runs = w.runs.set (id - 1).toNat r' → r'.turns = (runAt w id).turns → WK (fun i => i = (id - 1).toNat) 0 id w w2 := fun e h =>
  WK.set e fun r hr => .inl ⟨rfl, by rw [h, runAt_some hr]⟩
 have set : ∀ slot v, WK (fun i => i = (id - 1).toNat) 1 id w (setP w id slot v) := fun slot v => own rfl
 have wait : ∀ d, WK (fun i => i = (id - 1).toNat) 1 id w (waitP w id d) := fun d => (own0 (r' := { runAt w id with state := 2, due := d }) rfl rfl).le (by omega)
 unfold stepP
 simp only
 split
 ·exact set _ _
 split
 ·exact set _ _
 split
 ·split
  ·exact ((fall_wk w id _).any).le (by omega)
  ·exact set _ _
 split
 ·exact set _ _
 split
 ·unfold beginP
  split
  ·exact set _ _
  ·have a1 : WK (fun i => i = (id - 1).toNat) 1 id w (addRunP w id (codeAt w (runAt w id).at_)) := by
    refine ⟨by simp [addRunP], by simp [addRunP], fun i r _ hr => ⟨r, ?_, RunK.refl r⟩, fun i r hr => ⟨r, ?_, rfl⟩, fun j r' hj hr => ?_⟩
    ·simp only [addRunP]; rw [List.getElem?_append_left (List.getElem?_eq_some_iff.1 hr).1]; exact hr
    ·simp only [addRunP]; rw [List.getElem?_append_left (List.getElem?_eq_some_iff.1 hr).1]; exact hr
    ·simp only [addRunP] at hr
     rw [List.getElem?_append_right hj] at hr
     cases hd : j - w.runs.length with
     | zero => rw [hd] at hr; simp at hr; subst hr; exact ⟨_, _, RunK.refl _⟩
     | succ q => rw [hd] at hr; simp at hr
   have hr : ∀ x, runAt (addRunP w id (codeAt w (runAt w id).at_)) id = x → x = runAt w id := fun x hx => by
    rw [← hx]; unfold runAt addRunP; simp only; rw [List.getElem?_append_left hi]
   exact (a1.trans (m := 0) (WK.setRun fun x hx => .inl ⟨rfl, by rw [hx]; rfl⟩) hp).le (by omega)
 split
 ·unfold takeP
  split
  ·exact (own0 (r' := takeRun (runAt w id) _ _) rfl rfl).le (by omega)
  ·split
   ·exact wait _
   ·split
    ·exact own rfl
    ·exact wait _
 split
 ·exact own rfl
 split
 ·exact own rfl
 split
 ·exact own rfl
 split
 ·exact ((fall_wk w id _).any).le (by omega)
 unfold otherP
 simp only
 have nx : WK (fun i => i = (id - 1).toNat) 0 id w (Go.Proofs.YtmkiojlebjknlaaGreat.setRun w id (nextRun (runAt w id))) := WK.setRun fun r hr => .inl ⟨rfl, by rw [hr]; rfl⟩
 split
 ·exact ((fall_wk w id _).any).le (by omega)
 split
 ·exact (nx.trans (give_wk _ _ _) hp).le (by omega)
 split
 ·exact (nx.trans (give_wk _ _ _) hp).le (by omega)
 split
 ·exact nx.le (by omega)
 split
 ·unfold watchP
  exact (nx.trans (m := 0) (WK.setRun fun r hr => .inr (by rw [hr]; exact ⟨rfl, rfl, rfl, rfl, rfl, rfl, .inr (List.prefix_refl _), fun h => h, .inl rfl, .inl rfl, .inl rfl⟩)) hp).le (by omega)
 split
 ·unfold linkP
  simp only
  refine ((nx.trans (m := 0) (WK.setRun fun r hr => .inr (by rw [hr]; exact ⟨rfl, rfl, rfl, rfl, rfl, rfl, .inr (List.prefix_refl _), fun h => h, .inl rfl, .inl rfl, .inl rfl⟩)) hp).trans (m := 0) (WK.setRun fun r hr => .inr (by rw [hr]; exact ⟨rfl, rfl, rfl, rfl, rfl, rfl, .inr (List.prefix_refl _), fun h => h, .inl rfl, .inl rfl, .inl rfl⟩)) hp).le (by omega)
 exact nx.le (by omega)
theorem steps_wk {id : Int} : ∀ (n : Nat) (w : PWorld), (id - 1).toNat < w.runs.length → WK (fun i => i = (id - 1).toNat) n id w (stepsP n w id)
 | 0, w, _ => WK.refl w
 | n + 1, w, hi => by
  unfold stepsP
  split
  ·have s := step_wk w hi
   exact (s.trans (steps_wk n _ (Nat.lt_of_lt_of_le hi s.len)) fun j e => by omega).le (by omega)
  ·exact (WK.refl w).le (by omega)
end Go.Proofs.YtmkiojlebjknlaaGreat

/-
 WHAT PlayRun ANSWERS, by the reference and by the program.
-/
set_option maxRecDepth 8000
namespace Go.Proofs.YtmkiojlebjknlaaGreat
open Go.AM
variable {h h' k : H} {lo : Nat} {w : PWorld} {c : WorldC} {st cs : List RunC}
def PlayRQ (h : H) (code : List POp) (evs : List PEvent) (x : V × H) : Prop := ∃ k c' cs', x = (.t [.g (encW c'), .c (.bool (tt (PlayRun1 code evs)))], k) ∧ Ext h k ∧ WorldV h.length k (playRunP code evs) c' cs' cs'
theorem playTo_sent {code : List POp} (S : CodeSafe code) (evs : List PEvent) {i : Nat} (hi : i ≤ 80) : (playTo code evs i).sent < 9000 := by
 obtain ⟨G, hp⟩ := playTo_good S evs i
 have := sent_phi (playTo code evs i); omega
theorem playTo_room {code : List POp} (S : CodeSafe code) (evs : List PEvent) {i : Nat} (hi : i ≤ 80) : Room (playTo code evs i) :=
 ⟨(ok_iff _).2 ⟨(playTo_good S evs i).1, by have := playTo_sent S evs hi; omega⟩, playTo_sent S evs hi⟩
set_option maxRecDepth 16000 in
theorem c_PlayRun {s t : Cell} {code : List POp} {evs : List PEvent} (hS : Sl h s 6 encO code) (hu : Un s) (hl : code.length ≤ lenMost) (hT : Sl h t 4 encE evs) : @Wp _ (Dz.den 21 [.c s, .c t] h) ⟨PlayRQ h code evs⟩ := by
 refine den_wp rfl Tryz.func21 rfl ?_
 obtain ⟨_, e1, h1, c1, cs1, rfl, x1, v1⟩ := c_WorldNew hS hu hl
 have eT := fun e => (hT.ext x1).lenA (e := e)
 unfold PlayRQ playRunP
 unfold worldNewP at v1
 by_cases a : CodeSafe code
 ·have a' : tt (CodeSafe code) = true := by simpa using a
  rw [if_pos a] at v1
  rw [a'] at e1
  simp only [encW] at e1
  by_cases b : evs.length ≤ 80
  ·have ab : tt (PlayRun1 code evs) = true := by simp [PlayRun1, a, b]
   have b' : ¬ (80 : Int) < evs.length := by omega
   rw [ab, if_pos (show PlayRun1 code evs from ⟨a, b⟩)]
   simp [Tryz.f21, e1, eT, b']
   refine count_wpG (σ := H × WorldC × List RunC) evs.length (fun i g => ([.c t, .c (.bool false), .c (ci i)], [zeroW, encW g.2.1], [], g.1))
    (fun i g => WorldV h.length g.1 (playTo code evs i) g.2.1 g.2.2 g.2.2 ∧ Ext h g.1) (h1, c1, cs1) ?_ ⟨v1, x1⟩ ?_ ?_
   ·simp [zeroW]
   ·rintro i ⟨k, c2, cs2⟩ hi ⟨v, x⟩
    simp only at v x ⊢
    obtain ⟨G2, ph⟩ := playTo_good a evs i
    have hT2 := hT.ext x
    obtain ⟨_, e2, k2, c3, cs3, rfl, v2, s2⟩ := c_l22Do v G2 (by have := sent_phi (playTo code evs i); omega) evs[i]
    have wj : IntKind.i64.wrap ((i : Int) + 1) = (i : Int) + 1 := wrapS (by omega) (by omega)
    have eg : evs[i]?.getD default = evs[i] := by simp [hi]
    simp only [encW, encE] at e2
    rw [Wp_body]
    simp [fun e => hT2.lenA (e := e), hi, ixA_nat hT2, hT2.at, e2, wj]
    refine ⟨by kernel_rfl, k2, c3, ⟨⟨rfl, rfl, rfl, rfl, rfl, rfl, rfl⟩, rfl⟩, ⟨cs3, ?_⟩, s2.ext (fun id ho => v.own.owned_ge id ho) x (Nat.le_refl _)⟩
    simp only [playTo, eg]; exact v2
   ·rintro ⟨k, c2, cs2⟩ ⟨v, x⟩
    simp only at v x ⊢
    rw [Wp_body]
    simp [fun e => (hT.ext x).lenA (e := e), zeroW]
    exact ⟨rfl, k, c2, ⟨⟨rfl, rfl, rfl, rfl, rfl, rfl, rfl⟩, rfl⟩, x, cs2, v⟩
  ·have nb : ¬ PlayRun1 code evs := fun hh => b hh.2
   have ab : tt (PlayRun1 code evs) = false := by simpa using nb
   have b' : (80 : Int) < evs.length := by omega
   rw [ab, if_neg nb]
   simp [Tryz.f21, e1, eT, b']
   exact ⟨rfl, h1, ⟨.nils, .nils, .nils, 0, 0, 0, 0⟩, ⟨⟨rfl, rfl, rfl, rfl, rfl, rfl, rfl⟩, rfl⟩, x1, _, (emptyV h).ext x1⟩
 ·have a' : tt (CodeSafe code) = false := by simpa using a
  have nb : ¬ PlayRun1 code evs := fun hh => a hh.1
  have ab : tt (PlayRun1 code evs) = false := by simpa using nb
  rw [a'] at e1
  simp only [encW] at e1
  rw [ab, if_neg nb]
  simp [Tryz.f21, e1]
  exact ⟨rfl, h1, ⟨.nils, .nils, .nils, 0, 0, 0, 0⟩, ⟨⟨rfl, rfl, rfl, rfl, rfl, rfl, rfl⟩, rfl⟩, x1, _, (emptyV h).ext x1⟩
set_option maxRecDepth 16000 in
theorem c_IPlayRun {s t : Cell} {code : List POp} {evs : List PEvent} (hS : Sl h s 6 encO code) (hu : Un s) (hl : code.length ≤ lenMost) (hT : Sl h t 4 encE evs) : @Wp _ (Dz.den 20 [.c s, .c t] h) ⟨PlayRQ h code evs⟩ := by
 refine den_wp rfl Tryz.func20 rfl ?_
 obtain ⟨_, e1, h1, c1, cs1, rfl, x1, v1⟩ := c_IWorldNew hS hu hl
 have eT := fun e => (hT.ext x1).lenA (e := e)
 unfold PlayRQ playRunP
 unfold worldNewP at v1
 by_cases a : CodeSafe code
 ·have a' : tt (CodeSafe code) = true := by simpa using a
  rw [if_pos a] at v1
  rw [a'] at e1
  simp only [encW] at e1
  by_cases b : evs.length ≤ 80
  ·have ab : tt (PlayRun1 code evs) = true := by simp [PlayRun1, a, b]
   have b' : ¬ (80 : Int) < evs.length := by omega
   rw [ab, if_pos (show PlayRun1 code evs from ⟨a, b⟩)]
   simp [Tryz.f20, e1, eT, b']
   refine count_wpG (σ := H × WorldC × List RunC) evs.length (fun i g => ([.c (.bool false), .c t, .c (ci evs.length), .c (ci i)], [zeroW, encW g.2.1], [], g.1))
    (fun i g => WorldV h.length g.1 (playTo code evs i) g.2.1 g.2.2 g.2.2 ∧ Ext h g.1) (h1, c1, cs1) ?_ ⟨v1, x1⟩ ?_ ?_
   ·simp [zeroW]
   ·rintro i ⟨k, c2, cs2⟩ hi ⟨v, x⟩
    simp only at v x ⊢
    have hT2 := hT.ext x
    obtain ⟨_, e2, k2, c3, cs3, rfl, x2, v2⟩ := c_IPlayDo v evs[i]
    have wj : IntKind.i64.wrap ((i : Int) + 1) = (i : Int) + 1 := wrapS (by omega) (by omega)
    have eg : evs[i]?.getD default = evs[i] := by simp [hi]
    have er : playDoP (playTo code evs i) evs[i] = playTo code evs (i + 1) := by
     unfold playDoP
     rw [if_pos (by simpa using playTo_room a evs (by omega))]
     simp only [playTo, eg]
    rw [er] at v2
    simp only [encW, encE] at e2
    rw [Wp_body]
    simp [hi, ixA_nat hT2, hT2.at, e2, wj]
    exact ⟨k2, c3, ⟨⟨rfl, rfl, rfl, rfl, rfl, rfl, rfl⟩, rfl⟩, ⟨cs3, ⟨v2.code, v2.runs, v2.stl, v2.len, v2.each, v2.queue, v2.now, v2.sent, v2.taken, v2.lost, ⟨fun k id hid => Nat.le_trans x.1 (v2.own.ge k id hid), v2.own.wr, v2.own.one, v2.own.un⟩, Nat.le_trans x.1 v2.lo_le⟩⟩, x.trans x2⟩
   ·rintro ⟨k, c2, cs2⟩ ⟨v, x⟩
    simp only at v x ⊢
    rw [Wp_body]
    simp [zeroW]
    exact ⟨rfl, k, c2, ⟨⟨rfl, rfl, rfl, rfl, rfl, rfl, rfl⟩, rfl⟩, x, cs2, v⟩
  ·have nb : ¬ PlayRun1 code evs := fun hh => b hh.2
   have ab : tt (PlayRun1 code evs) = false := by simpa using nb
   have b' : (80 : Int) < evs.length := by omega
   rw [ab, if_neg nb]
   simp [Tryz.f20, e1, eT, b']
   exact ⟨rfl, h1, ⟨.nils, .nils, .nils, 0, 0, 0, 0⟩, ⟨⟨rfl, rfl, rfl, rfl, rfl, rfl, rfl⟩, rfl⟩, x1, _, (emptyV h).ext x1⟩
 ·have a' : tt (CodeSafe code) = false := by simpa using a
  have nb : ¬ PlayRun1 code evs := fun hh => a hh.1
  have ab : tt (PlayRun1 code evs) = false := by simpa using nb
  rw [a'] at e1
  simp only [encW] at e1
  rw [ab, if_neg nb]
  simp [Tryz.f20, e1]
  exact ⟨rfl, h1, ⟨.nils, .nils, .nils, 0, 0, 0, 0⟩, ⟨⟨rfl, rfl, rfl, rfl, rfl, rfl, rfl⟩, rfl⟩, x1, _, (emptyV h).ext x1⟩
end Go.Proofs.YtmkiojlebjknlaaGreat

/-
 PLAYS IN PLAIN DATA: time, turns, what is taken.
-/
set_option maxRecDepth 8000
namespace Go.Proofs.YtmkiojlebjknlaaGreat
variable {w w' : PWorld} {code : List POp} {evs : List PEvent}
theorem playTo_code (S : CodeSafe code) (evs : List PEvent) : ∀ i, (playTo code evs i).code = code
 | 0 => rfl
 | i + 1 => by
  have G := (playTo_good S evs i).1
  rw [playTo, (G.doG _).2.2.1, playTo_code S evs i]
theorem Good.doNow (G : Good w) (e : PEvent) (hn : w.now < 250) : (doP w e).now = w.now + if e.kind = 2 then 1 else 0 := by
 unfold doP
 by_cases k1 : e.kind = 1
 ·rw [if_pos k1, if_neg (by omega), G.turnG.k.now]; omega
 rw [if_neg k1]
 by_cases k2 : e.kind = 2
 ·rw [if_pos k2, if_pos k2]
  unfold tickP
  rw [if_neg (by omega), (tickTo_len _ _).2.2]
 rw [if_neg k2, if_neg k2]
 split
 ·split
  ·rename_i hv; rw [(G.giveG e.a hv).k.now]; omega
  ·omega
 ·split
  ·split
   ·rename_i hv; rw [(G.fallG e.a hv.1).k.now]; omega
   ·omega
  ·omega
def ticksTo (evs : List PEvent) : Nat → Nat
 | 0 => 0
 | i + 1 => ticksTo evs i + if (evs[i]?.getD default).kind = 2 then 1 else 0
theorem ticksTo_le (evs : List PEvent) : ∀ i, ticksTo evs i ≤ i
 | 0 => Nat.le_refl _
 | i + 1 => by have := ticksTo_le evs i; rw [ticksTo]; split <;> omega
theorem playTo_now (S : CodeSafe code) (evs : List PEvent) : ∀ i, i ≤ 200 → (playTo code evs i).now = ticksTo evs i
 | 0, _ => rfl
 | i + 1, h => by
  have ih := playTo_now S evs i (by omega)
  have := ticksTo_le evs i
  rw [playTo, (playTo_good S evs i).1.doNow _ (by omega), ih]
  rw [ticksTo]
  split <;> omega
def turnsOf (rs : List PRun) : Int := (rs.map fun r => r.turns).sum
theorem turnsOf_app (a b : List PRun) : turnsOf (a ++ b) = turnsOf a + turnsOf b := by simp [turnsOf]
theorem turnsOf_zero : ∀ {rs : List PRun}, (∀ r ∈ rs, r.turns = 0) → turnsOf rs = 0
 | [], _ => rfl
 | a :: rs, h => by
  have := turnsOf_zero (rs := rs) fun r hr => h r (by simp [hr])
  have h0 := h a (by simp)
  simp only [turnsOf, List.map_cons, List.sum_cons] at this ⊢
  omega
theorem turnsOf_set : ∀ {rs : List PRun} {i : Nat} {r r' : PRun}, rs[i]? = some r → turnsOf (rs.set i r') = turnsOf rs + r'.turns - r.turns
 | [], i, r, r', h => by simp at h
 | a :: rs, 0, r, r', h => by simp at h; subst h; simp [turnsOf]; omega
 | a :: rs, i + 1, r, r', h => by
  have ih := turnsOf_set (rs := rs) (i := i) (r' := r') (by simpa using h)
  simp only [turnsOf, List.set_cons_succ, List.map_cons, List.sum_cons] at ih ⊢
  omega
theorem turnsOf_le : ∀ {rs : List PRun}, (∀ r ∈ rs, 0 ≤ r.turns) → 0 ≤ turnsOf rs ∧ ∀ r ∈ rs, r.turns ≤ turnsOf rs
 | [], _ => ⟨by simp [turnsOf], by simp⟩
 | a :: rs, h => by
  obtain ⟨h1, h2⟩ := turnsOf_le (rs := rs) fun r hr => h r (by simp [hr])
  have h0 := h a (by simp)
  have e : turnsOf (a :: rs) = a.turns + turnsOf rs := by simp [turnsOf]
  refine ⟨by omega, fun r hr => ?_⟩
  rcases List.mem_cons.1 hr with rfl | hr
  ·omega
  ·have := h2 r hr; omega
theorem WK.turnsOf {p : Nat → Prop} {n : Nat} {id : Int} (x : WK p n id w w') : turnsOf w'.runs = turnsOf w.runs := by
 have e : w'.runs = w'.runs.take w.runs.length ++ w'.runs.drop w.runs.length := (List.take_append_drop ..).symm
 rw [e, turnsOf_app, turnsOf_zero (rs := w'.runs.drop w.runs.length) fun r hr => ?_]
 ·have : (w'.runs.take w.runs.length).map (fun r => r.turns) = w.runs.map (fun r => r.turns) := by
   apply List.ext_getElem?
   intro i
   rw [List.getElem?_map, List.getElem?_map]
   by_cases hi : i < w.runs.length
   ·obtain ⟨r', h', q⟩ := x.turns i _ (List.getElem?_eq_getElem hi)
    rw [List.getElem?_take_of_lt hi, h', List.getElem?_eq_getElem hi]
    simp [q]
   ·rw [List.getElem?_eq_none (by simp; omega), List.getElem?_eq_none (by omega)]
  unfold Go.Proofs.YtmkiojlebjknlaaGreat.turnsOf
  rw [this]; omega
 ·obtain ⟨j, hj, rfl⟩ := List.mem_iff_getElem.1 hr
  rw [List.getElem_drop]
  have hl : w.runs.length + j < w'.runs.length := by simp at hj; omega
  obtain ⟨k, to, q⟩ := x.new (w.runs.length + j) _ (by omega) (List.getElem?_eq_getElem hl)
  rw [q.turns]; rfl
theorem turn_wk (I : Inv w) (hq : w.queue ≠ []) : (headQ w - 1).toNat < w.runs.length ∧ WK (fun i => i = (headQ w - 1).toNat) 3 (headQ w) (countP' w (headQ w)) (turnP w) := by
 obtain ⟨hid, h1⟩ := I.head hq
 have hl : (headQ w - 1).toNat < w.runs.length := by omega
 have hl2 : (headQ w - 1).toNat < (countP' w (headQ w)).runs.length := by unfold countP'; rw [setRun_len]; exact hl
 refine ⟨hl, ?_⟩
 have s := steps_wk 3 (countP' w (headQ w)) hl2
 unfold turnP
 rw [if_neg hq]
 refine (s.trans (m := 0) ?_ fun j e => by omega).le (by omega)
 unfold backP
 split
 ·exact WK.eq rfl
 ·exact WK.refl _
theorem turnP_turns (G : Good w) (hq : w.queue ≠ []) (hb : turnsOf w.runs < 9999) : turnsOf (turnP w).runs = turnsOf w.runs + 1 := by
 obtain ⟨hl, x⟩ := turn_wk G.inv hq
 have hg : w.runs[(headQ w - 1).toNat]? = some w.runs[(headQ w - 1).toNat] := List.getElem?_eq_getElem hl
 have t := (turnsOf_le (rs := w.runs) fun r hr => by
  obtain ⟨i, hi, rfl⟩ := List.mem_iff_getElem.1 hr
  exact (G.inv.each i _ (List.getElem?_eq_getElem hi)).ok.turns.1).2 _ (List.getElem_mem hl)
 rw [x.turnsOf]
 unfold countP' setRun
 simp only
 rw [turnsOf_set hg, runAt_some hg]
 simp only
 omega
theorem doP_turns (G : Good w) (e : PEvent) (hb : turnsOf w.runs < 9999) : turnsOf (doP w e).runs = turnsOf w.runs + if e.kind = 1 ∧ w.queue ≠ [] then 1 else 0 := by
 unfold doP
 by_cases k1 : e.kind = 1
 ·rw [if_pos k1]
  by_cases hq : w.queue = []
  ·rw [if_neg (fun h => h.2 hq)]
   unfold turnP
   rw [if_pos hq]; omega
  ·rw [if_pos ⟨k1, hq⟩, turnP_turns G hq hb]
 rw [if_neg k1, if_neg (show ¬ (e.kind = 1 ∧ w.queue ≠ []) from fun h => k1 h.1)]
 split
 ·rw [(tick_wk (id := 0) w).turnsOf]; omega
 ·split
  ·split
   ·rw [(give_wk (p := fun _ => False) (id := 0) w _ _).turnsOf]; omega
   ·omega
  ·split
   ·split
    ·rw [(fall_wk (id := 0) w _ _).turnsOf]; omega
    ·omega
   ·omega
def turnsTo (code : List POp) (evs : List PEvent) : Nat → Nat
 | 0 => 0
 | i + 1 => turnsTo code evs i + if (evs[i]?.getD default).kind = 1 ∧ (playTo code evs i).queue ≠ [] then 1 else 0
theorem turnsTo_le (code : List POp) (evs : List PEvent) : ∀ i, turnsTo code evs i ≤ i
 | 0 => Nat.le_refl _
 | i + 1 => by have := turnsTo_le code evs i; rw [turnsTo]; split <;> omega
theorem playTo_turns (S : CodeSafe code) (evs : List PEvent) : ∀ i, i ≤ 200 → turnsOf (playTo code evs i).runs = turnsTo code evs i
 | 0, _ => by simp [playTo, newP, turnsOf, newRun, turnsTo]
 | i + 1, h => by
  have ih := playTo_turns S evs i (by omega)
  have := turnsTo_le code evs i
  rw [playTo, doP_turns (playTo_good S evs i).1 _ (by omega), ih]
  rw [turnsTo]
  split <;> omega
theorem nodup_len : ∀ {xs ys : List Int}, xs.Nodup → (∀ x ∈ xs, x ∈ ys) → xs.length ≤ ys.length
 | [], ys, _, _ => Nat.zero_le _
 | a :: t, ys, hn, hs => by
  have ha := hs a (by simp)
  have hn2 := List.nodup_cons.1 hn
  have ih := nodup_len (ys := ys.erase a) hn2.2 fun x hx => by
   have : x ≠ a := fun e => hn2.1 (e ▸ hx)
   exact (List.mem_erase_of_ne this).2 (hs x (by simp [hx]))
  have h0 : 0 < ys.length := List.length_pos_of_mem ha
  rw [List.length_erase_of_mem ha] at ih
  simp only [List.length_cons]
  omega
theorem queue_alive (I : Inv w) : w.queue.length ≤ aliveN w.runs := by
 have h := I.mem
 have e : aliveN w.runs = ((List.range w.runs.length).filter fun i => decide ((w.runs[i]?.getD default).state ≠ 3)).length := by
  have : w.runs = (List.range w.runs.length).map fun i => w.runs[i]?.getD default := by
   apply List.ext_getElem
   ·simp
   ·intro i h1 h2; simp [h1]
  unfold aliveN
  rw [← List.countP_eq_length_filter]
  conv => lhs; rw [this, List.countP_map]
  rfl
 rw [e, ← List.length_map (f := fun i : Nat => (i : Int) + 1)]
 refine nodup_len I.queue fun q hq => ?_
 obtain ⟨i, rfl, r, hr, h1⟩ := (h q).1 hq
 obtain ⟨hi, rfl⟩ := List.getElem?_eq_some_iff.1 hr
 refine List.mem_map.2 ⟨i, List.mem_filter.2 ⟨List.mem_range.2 hi, ?_⟩, rfl⟩
 simp [hi, h1]
theorem Good.linked (G : Good w) {i : Nat} (hi : i < w.runs.length) {o : Int} (ho : o ∈ w.runs[i].links) : (1 ≤ o ∧ o ≤ w.runs.length) ∧ (runAt w o).state ≠ 3 ∧ (i : Int) + 1 ∈ (runAt w o).links := by
 have I := G.inv
 have R := I.each i _ (List.getElem?_eq_getElem hi)
 have o1 : 1 ≤ o ∧ o ≤ w.runs.length := ⟨(R.ok.links.2 o ho).1, R.links o ho⟩
 have s : (i : Int) + 1 ∈ (runAt w o).links := (G.sym (i + 1) o (by omega) o1).1 (by rw [runAt_nat hi]; exact ho)
 refine ⟨o1, fun he => ?_, s⟩
 obtain ⟨j, ej, ej2, hj, hgj, Rj⟩ := I.run o1
 have : (runAt w o).links = [] := (Rj.ok.ended he).2.1
 rw [this] at s; simp at s
end Go.Proofs.YtmkiojlebjknlaaGreat

/-
 WORLDS IN PLAIN DATA: who is ended; what is given; the first turn.
-/
set_option maxRecDepth 8000
namespace Go.Proofs.YtmkiojlebjknlaaGreat
variable {w w' : PWorld} {id : Int}
theorem runAt_in (hid : 1 ≤ id ∧ id ≤ w.runs.length) : w.runs[(id - 1).toNat]? = some (runAt w id) := by
 obtain ⟨i, e, hi, er, ei⟩ := runAt_eq hid
 rw [ei, er]; exact List.getElem?_eq_getElem hi
theorem WK.at_ {p : Nat → Prop} {n : Nat} {k : Int} (x : WK p n k w w') (hid : 1 ≤ id ∧ id ≤ w.runs.length) (hp : ¬ p (id - 1).toNat) : RunK (runAt w id) (runAt w' id) := by
 obtain ⟨r', h1, q⟩ := x.each _ _ hp (runAt_in hid)
 rw [runAt_some h1]; exact q
theorem end_ended (hid : 1 ≤ id ∧ id ≤ w.runs.length) (why : PVal) : (runAt (endP w id why).1 id).state = 3 := by
 obtain ⟨i, e, hi, er, ei⟩ := runAt_eq hid
 have b : (endBase w id why).runs[(id - 1).toNat]? = some (unwatch id (clearRun (runAt w id) why)) := by
  unfold endBase; simp only; rw [ei]; simp [hi]
 have l : (endBase w id why).runs.length = w.runs.length := by simp [endBase]
 have x : WK (fun _ => False) 0 0 (endBase w id why) (endP w id why).1 := by
  unfold endP
  exact (endLinks_wk id why _ (endBase w id why, [])).trans0 (tell_wk id _ _)
 obtain ⟨r', h1, q⟩ := x.each _ _ (fun h => h) b
 rw [runAt_some h1]; exact q.ended rfl
theorem fall_ended (hid : 1 ≤ id ∧ id ≤ w.runs.length) (why : PVal) : (runAt (fallP w id why) id).state = 3 := by
 unfold fallP
 rw [show (64 : Nat) = 63 + 1 from rfl, fallN]
 split
 ·rename_i al
  have x := fallN_wk (id := 0) why 63 (endP w id why).1 ([] ++ (endP w id why).2)
  have l := (endP_wk (id := 0) w al why).len
  exact (x.at_ (id := id) (by omega) (fun h => h)).ended (end_ended hid why)
 ·rename_i na
  have e3 : (runAt w id).state = 3 := Classical.byContradiction fun h => na ⟨hid, h⟩
  exact e3
theorem end_why (hid : 1 ≤ id ∧ id ≤ w.runs.length) (why : PVal) : (runAt (endP w id why).1 id).why = why := by
 obtain ⟨i, e, hi, er, ei⟩ := runAt_eq hid
 have b : (endBase w id why).runs[(id - 1).toNat]? = some (unwatch id (clearRun (runAt w id) why)) := by
  unfold endBase; simp only; rw [ei]; simp [hi]
 have x : WK (fun _ => False) 0 0 (endBase w id why) (endP w id why).1 := by
  unfold endP
  exact (endLinks_wk id why _ (endBase w id why, [])).trans0 (tell_wk id _ _)
 obtain ⟨r', h1, q⟩ := x.each _ _ (fun h => h) b
 rw [runAt_some h1]
 rcases q.why with h | h
 ·exact h
 ·exact absurd rfl h.1
theorem fall_why (ha : Alive w id) (why : PVal) : (runAt (fallP w id why) id).why = why := by
 unfold fallP
 rw [show (64 : Nat) = 63 + 1 from rfl, fallN, if_pos ha]
 have x := fallN_wk (id := 0) why 63 (endP w id why).1 ([] ++ (endP w id why).2)
 have l := (endP_wk (id := 0) w ha why).len
 have q := x.at_ (id := id) (by have := ha.1; omega) (fun h => h)
 rcases q.why with h | h
 ·rw [h]; exact end_why ha.1 why
 ·exact absurd (end_ended ha.1 why) h.1
def mailTo5 (m : List PVal) : Nat → List PVal
 | 0 => m
 | i + 1 => if (mailTo5 m i).length < 12 then mailTo5 m i ++ [⟨1, i⟩] else mailTo5 m i
theorem give_mail (hid : 1 ≤ id ∧ id ≤ w.runs.length) (h3 : (runAt w id).state ≠ 3) (v : PVal) : (giveP w id v).sent = w.sent + 1 ∧ (giveP w id v).runs.length = w.runs.length ∧ (runAt (giveP w id v) id).state ≠ 3 ∧
  (runAt (giveP w id v) id).mail = if (runAt w id).mail.length < 12 then (runAt w id).mail ++ [v] else (runAt w id).mail := by
 have hl : (id - 1).toNat < w.runs.length := by omega
 unfold giveP
 by_cases t : Takes w id
 ·rw [if_pos t, if_pos t.2.2]
  split
  ·rw [runAt_some (w := { w with sent := w.sent + 1, runs := w.runs.set (id - 1).toNat { runAt w id with mail := (runAt w id).mail ++ [v], state := 1 }, queue := w.queue ++ [id] }) (List.getElem?_set_self hl)]
   exact ⟨rfl, by simp, by simp, rfl⟩
  ·rw [runAt_some (w := { w with sent := w.sent + 1, runs := w.runs.set (id - 1).toNat { runAt w id with mail := (runAt w id).mail ++ [v] } }) (List.getElem?_set_self hl)]
   exact ⟨rfl, by simp, h3, rfl⟩
 ·have l : ¬ (runAt w id).mail.length < 12 := fun l => t ⟨hid, h3, l⟩
  rw [if_neg t, if_neg l]
  exact ⟨rfl, rfl, h3, rfl⟩
def givesTo (w : PWorld) (id : Int) : Nat → PWorld
 | 0 => w
 | i + 1 => doP (givesTo w id i) ⟨3, id, ⟨1, i⟩⟩
theorem gives (G : Good w) (hid : 1 ≤ id ∧ id ≤ w.runs.length) (h3 : (runAt w id).state ≠ 3) : ∀ i, i ≤ 5 → Good (givesTo w id i) ∧ (givesTo w id i).sent = w.sent + i ∧ (givesTo w id i).runs.length = w.runs.length ∧ (runAt (givesTo w id i) id).state ≠ 3 ∧
  (runAt (givesTo w id i) id).mail = mailTo5 (runAt w id).mail i
 | 0, _ => ⟨G, by simp [givesTo], rfl, h3, rfl⟩
 | i + 1, h => by
  obtain ⟨a, b, c, d, e⟩ := gives G hid h3 i (by omega)
  have hv : valOk ⟨1, (i : Int)⟩ = true := by unfold valOk; simp; omega
  have eq : givesTo w id (i + 1) = giveP (givesTo w id i) id ⟨1, i⟩ := by
   rw [givesTo]; unfold doP; simp [hv]
  obtain ⟨m1, m2, m3, m4⟩ := give_mail (w := givesTo w id i) (by omega) d ⟨1, i⟩
  rw [eq]
  refine ⟨(a.giveG id hv).g, by rw [m1, b]; omega, by rw [m2, c], m3, ?_⟩
  rw [m4, e, mailTo5]
end Go.Proofs.YtmkiojlebjknlaaGreat
