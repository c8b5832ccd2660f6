/-
  What functions of the seat answer, each proved once; each under the condition that cells bear what it is given, as its statement says.
-/
import Derived.Test.YthnmkpocjgnjeaaGreatWalkA24
import Derived.Test.YthnmkpocjgnjeaaGreatWalkA20
import Derived.Test.YthnmkpocjgnjeaaGreatWalkA23
set_option linter.all false
/-
 WORLDS IN PLAIN DATA: how many turns were had matters to no step.
-/
set_option maxRecDepth 8000
namespace Go.Proofs.YthnmkpocjgnjeaaGreat
variable {w : PWorld} {id : Int}
end Go.Proofs.YthnmkpocjgnjeaaGreat

/-
 WORLDS IN PLAIN DATA: everybody has a turn in time.
-/
set_option maxRecDepth 8000
namespace Go.Proofs.YthnmkpocjgnjeaaGreat
variable {w : PWorld}
theorem turn_at (G : Good w) (hq : w.queue ≠ []) (hb : turnsOf w.runs < 9999) {k : Int} (hk : 1 ≤ k ∧ k ≤ w.runs.length) : (runAt (turnP w) k).turns = (runAt w k).turns + if k = headQ w then 1 else 0 := by
 obtain ⟨hl, x⟩ := turn_wk G.inv hq
 obtain ⟨hid, h1⟩ := G.inv.head hq
 have t := (turnsOf_le (rs := w.runs) fun r hr => by
  obtain ⟨i, hi, rfl⟩ := List.mem_iff_getElem.1 hr
  exact (G.inv.each i _ (List.getElem?_eq_getElem hi)).ok.turns.1).2 _ (List.mem_of_getElem? (runAt_in hk))
 have lc : (countP' w (headQ w)).runs.length = w.runs.length := by unfold countP'; exact setRun_len
 obtain ⟨r', h2, q⟩ := x.turns _ _ (runAt_in (w := countP' w (headQ w)) (id := k) (by rw [lc]; exact hk))
 rw [runAt_some h2, q]
 unfold countP'
 rw [runAt_set hid hk.1]
 by_cases e : k = headQ w
 ·subst e; simp; omega
 ·simp [e]
theorem turnsP_all (G : Good w) : ∀ n, Good (turnsP n w) ∧ phi (turnsP n w) ≤ phi w + 36 * n ∧ w.runs.length ≤ (turnsP n w).runs.length ∧ turnsOf (turnsP n w).runs ≤ turnsOf w.runs + n
 | 0 => ⟨G, by simp [turnsP], Nat.le_refl _, by simp [turnsP]⟩
 | n + 1 => by
  obtain ⟨a, b, c, d⟩ := turnsP_all G n
  have K := a.turnG
  refine ⟨K.g, by have := K.k.phi; rw [turnsP]; omega, by have := K.k.len; rw [turnsP]; omega, ?_⟩
  rw [turnsP]
  by_cases hq : (turnsP n w).queue = []
  ·unfold turnP; rw [if_pos hq]; omega
  ·obtain ⟨hl, x⟩ := turn_wk a.inv hq
   rw [x.turnsOf]
   have hg : (turnsP n w).runs[(headQ (turnsP n w) - 1).toNat]? = some (turnsP n w).runs[(headQ (turnsP n w) - 1).toNat] := List.getElem?_eq_getElem hl
   unfold countP' setRun
   simp only
   rw [turnsOf_set hg, runAt_some hg]
   simp only
   omega
theorem turns_mono (G : Good w) (hb : turnsOf w.runs ≤ 1000) {k : Int} : ∀ n, n ≤ 100 → 1 ≤ k ∧ k ≤ w.runs.length → (runAt w k).turns ≤ (runAt (turnsP n w) k).turns
 | 0, _, _ => Int.le_refl _
 | n + 1, h, hk => by
  have ih := turns_mono G hb n (by omega) hk
  obtain ⟨Gn, _, ln, tn⟩ := turnsP_all G n
  rw [turnsP]
  by_cases hq : (turnsP n w).queue = []
  ·unfold turnP; rw [if_pos hq]; exact ih
  ·rw [turn_at Gn hq (by omega) (k := k) (by omega)]
   split <;> omega
theorem fair (G : Good w) (hb : turnsOf w.runs ≤ 1000) : ∀ n, n ≤ 100 → ∃ F t, (turnsP n w).queue = F ++ t ∧ F.length ≤ w.queue.length - n ∧ ∀ k ∈ w.queue, (runAt (turnsP n w) k).state = 3 ∨ k ∈ F ∨ (runAt w k).turns < (runAt (turnsP n w) k).turns
 | 0, _ => ⟨w.queue, [], by simp [turnsP], by simp, fun k hk => .inr (.inl hk)⟩
 | n + 1, h => by
  obtain ⟨F, t, e, l, ih⟩ := fair G hb n (by omega)
  obtain ⟨Gn, _, ln, tn⟩ := turnsP_all G n
  have rng : ∀ k ∈ w.queue, 1 ≤ k ∧ k ≤ (turnsP n w).runs.length := fun k hk => by
   obtain ⟨i, ei, r2, hr2, _⟩ := (G.inv.mem k).1 hk
   have := (List.getElem?_eq_some_iff.1 hr2).1; omega
  by_cases hq : (turnsP n w).queue = []
  ·have es : turnsP (n + 1) w = turnsP n w := by rw [turnsP]; unfold turnP; rw [if_pos hq]
   rw [hq] at e
   obtain ⟨rfl, rfl⟩ := List.append_eq_nil_iff.1 e.symm
   exact ⟨[], [], by rw [es, hq]; rfl, by simp, fun k hk => by rw [es]; exact ih k hk⟩
  ·have tu := fun {k : Int} (hk : k ∈ w.queue) => turn_at Gn hq (by omega) (rng k hk)
   have dd : ∀ k ∈ w.queue, (runAt (turnsP n w) k).state = 3 → (runAt (turnsP (n + 1) w) k).state = 3 := fun k hk h3 => by
    obtain ⟨hid, h1⟩ := Gn.inv.head hq
    obtain ⟨hl, x⟩ := turn_wk Gn.inv hq
    have ne : k ≠ headQ (turnsP n w) := fun q => by rw [q, h1] at h3; cases h3
    have kr := rng k hk
    have lc : (countP' (turnsP n w) (headQ (turnsP n w))).runs.length = (turnsP n w).runs.length := by unfold countP'; exact setRun_len
    have q := x.at_ (id := k) (by rw [lc]; exact kr) (by omega)
    have e3 : (runAt (countP' (turnsP n w) (headQ (turnsP n w))) k).state = 3 := by
     unfold countP'
     rw [runAt_set hid kr.1, if_neg ne]; exact h3
    exact q.ended e3
   obtain ⟨t2, e2⟩ := turn_q Gn hq
   rw [e, List.filter_append, List.append_assoc] at e2
   cases F with
   | nil =>
    refine ⟨[], _, by rw [turnsP, e2]; rfl, by simp, fun k hk => ?_⟩
    rcases ih k hk with h1 | h1 | h1
    ·exact .inl (dd k hk h1)
    ·simp at h1
    ·right; right; rw [turnsP, tu hk]; split <;> omega
   | cons a F' =>
    have ha : headQ (turnsP n w) = a := by unfold headQ; rw [e]; rfl
    have nd : a ∉ F' := by
     have := Gn.inv.queue
     rw [e] at this
     have := (List.nodup_append.1 this).1
     exact (List.nodup_cons.1 this).1
    rw [List.filter_cons, if_neg (by simp [ha])] at e2
    refine ⟨_, _, by rw [turnsP, e2], ?_, fun k hk => ?_⟩
    ·have := List.length_filter_le (fun k => decide (k ≠ headQ (turnsP n w)) && !decide ((runAt (turnP (turnsP n w)) k).state = 3)) F'
     simp only [List.length_cons] at l
     omega
    ·rcases ih k hk with h1 | h1 | h1
     ·exact .inl (dd k hk h1)
     ·rcases List.mem_cons.1 h1 with h2 | h2
      ·right; right
       rw [turnsP, tu hk, if_pos (by rw [h2, ha])]
       have base : (runAt w k).turns ≤ (runAt (turnsP n w) k).turns := turns_mono G hb n (by omega) (by have := rng k hk; obtain ⟨i, ei, r2, hr2, _⟩ := (G.inv.mem k).1 hk; have := (List.getElem?_eq_some_iff.1 hr2).1; omega)
       omega
      ·by_cases h3 : (runAt (turnsP (n + 1) w) k).state = 3
       ·exact .inl h3
       ·right; left
        refine List.mem_filter.2 ⟨h2, ?_⟩
        have : k ≠ headQ (turnsP n w) := fun q => nd (by rw [← ha, ← q]; exact h2)
        rw [turnsP] at h3
        simp [this, h3]
     ·right; right; rw [turnsP, tu hk]; split <;> omega
end Go.Proofs.YthnmkpocjgnjeaaGreat

/-
 WORLDS IN PLAIN DATA: a turn is some steps.
-/
set_option maxRecDepth 8000
namespace Go.Proofs.YthnmkpocjgnjeaaGreat
variable {w : PWorld} {id : Int}
theorem turnsP_add (w : PWorld) (a : Nat) : ∀ b, turnsP b (turnsP a w) = turnsP (a + b) w
 | 0 => rfl
 | b + 1 => by rw [turnsP, turnsP_add w a b]; rfl
end Go.Proofs.YthnmkpocjgnjeaaGreat

/-
 WORLDS IN PLAIN DATA: all are ended.
-/
set_option maxRecDepth 8000
namespace Go.Proofs.YthnmkpocjgnjeaaGreat
variable {w : PWorld}
end Go.Proofs.YthnmkpocjgnjeaaGreat

/-
 WORLDS IN PLAIN DATA: steps that send, link, watch, end.
-/
set_option maxRecDepth 8000
namespace Go.Proofs.YthnmkpocjgnjeaaGreat
variable {w w' : PWorld} {id : Int} {i : Nat} {r b : PRun} {o : POp}
theorem Turn.step_other (T : Turn w id i r o) (k : o.kind = 6 ∨ o.kind = 11 ∨ o.kind = 12) : stepP w id = otherP w id o := by
 unfold stepP
 simp only [T.at_, T.op]
 rw [if_neg (by omega), if_neg (by omega), if_neg (by omega), if_neg (by omega), if_neg (by omega), if_neg (by omega), if_neg (by omega), if_neg (by omega), if_neg (by omega), if_neg (by omega)]
theorem Turn.step_end (T : Turn w id i r o) (k : o.kind = 14) : stepP w id = fallP w id (slotAt r o.r) := by
 unfold stepP
 simp only [T.at_, T.op]
 rw [if_neg (by omega), if_neg (by omega), if_neg (by omega), if_neg (by omega), if_neg (by omega), if_neg (by omega), if_neg (by omega), if_neg (by omega), if_neg (by omega), if_pos k]
theorem Turn.rng (T : Turn w id i r o) : 1 ≤ id ∧ id ≤ w.runs.length := by have := T.e0; have := T.hi; omega
theorem Turn.step_send (T : Turn w id i r o) (k : o.kind = 6) (t : (slotAt r o.r).k = 3) : stepP w id = setAt (giveP w (slotAt r o.r).n (slotAt r o.s)) id (r.at_ + 1) := by
 have e := setAt_give (w := w) T.rng (by rw [T.at_]; exact T.going) (slotAt r o.r).n (slotAt r o.s)
 rw [T.at_] at e
 rw [T.step_other (.inl k), e]
 unfold otherP
 simp only [T.at_]
 rw [if_neg (by simp [t]), if_pos k]
def St3 (u : PWorld) (i : Nat) : Prop := ∀ b, u.runs[i]? = some b → b.state ≠ 3
theorem St3.set {u u2 : PWorld} (s : St3 u i) {j : Nat} {r' : PRun} (e : u2.runs = u.runs.set j r') (h : ∀ q, u.runs[j]? = some q → q.state ≠ 3 → r'.state ≠ 3) : St3 u2 i := fun b hb => by
 rw [e] at hb
 by_cases hj : j = i
 ·subst hj
  have hl : j < u.runs.length := by
   have := (List.getElem?_eq_some_iff.1 hb).1
   simpa using this
  rw [List.getElem?_set_self hl] at hb
  cases hb
  exact h _ (List.getElem?_eq_getElem hl) (s _ (List.getElem?_eq_getElem hl))
 ·rw [List.getElem?_set_ne hj] at hb
  exact s b hb
theorem St3.give {u : PWorld} (s : St3 u i) (k : Int) (v : PVal) : St3 (giveP u k v) i := by
 unfold giveP
 split
 ·split
  ·exact s.set rfl fun q _ _ => by simp
  ·exact s.set (j := (k - 1).toNat) rfl fun q hq h3 => by rw [runAt_some hq]; exact h3
 ·exact s
theorem Turn.other_lives (T : Turn w id i r o) (k : o.kind = 6 ∨ o.kind = 11 ∨ o.kind = 12) (t : (slotAt r o.r).k = 3) : St3 (stepP w id) i := by
 have hi := T.hi
 have nx : St3 (setRun w id (nextRun r)) i := fun b hb => by
  unfold setRun at hb
  simp only at hb
  rw [T.ei, List.getElem?_set_self hi] at hb
  cases hb
  show r.state ≠ 3
  rw [T.going]; decide
 have same : ∀ (u : PWorld) (k : Int) (r' : PRun), St3 u i → r'.state = (runAt u k).state → St3 (setRun u k r') i := fun u k r' s e => s.set (j := (k - 1).toNat) rfl fun q hq h3 => by rw [e, runAt_some hq]; exact h3
 rw [T.step_other k]
 unfold otherP
 simp only [T.at_]
 rw [if_neg (by simp [t])]
 split
 ·exact nx.give _ _
 split
 ·exact nx.give _ _
 split
 ·exact nx
 split
 ·unfold watchP; exact same _ _ _ nx rfl
 split
 ·unfold linkP; simp only; exact same _ _ _ (same _ _ _ nx rfl) rfl
 exact nx
theorem Turn.end_name (T : Turn w id i r o) (k : o.kind ≠ 14) (hb : (stepP w id).runs[i]? = some b) (S : OwnS w id r o b) : b.state = 3 → b.why.k = 2 := by
 intro h3
 have g := T.going
 cases S with
 | fall _ v k2 q e y =>
  rcases k2 with k2 | k2 | k2
  ·rw [y, k2.2.2]
  ·exact absurd k2.1 k
  ·rw [y, k2.2.2]
 | other _ k2 t q => exact absurd h3 (T.other_lives k2 t b hb)
 | wait d k2 m => simp at h3
 | _ =>
  have : r.state = 3 := h3
  rw [g] at this; cases this
theorem OwnS.addr (S : OwnS w id r o b) (k : o.kind = 6 ∨ o.kind = 11 ∨ o.kind = 12) (t : (slotAt r o.r).k ≠ 3) : b.state = 3 ∧ b.why = ⟨2, 2⟩ := by
 cases S with
 | fall _ v k2 q e y =>
  rcases k2 with k2 | k2 | k2
  ·omega
  ·omega
  ·exact ⟨e, by rw [y, k2.2.2]⟩
 | other _ k2 t2 q => exact absurd t2 t
 | _ => omega
theorem OwnS.on (S : OwnS w id r o b) (k : o.kind = 6 ∨ o.kind = 11 ∨ o.kind = 12) (t : (slotAt r o.r).k = 3) : b.at_ = r.at_ + 1 := by
 cases S with
 | fall _ v k2 q e y =>
  rcases k2 with k2 | k2 | k2
  ·omega
  ·omega
  ·exact absurd t k2.2.1
 | other _ k2 t2 q => exact q.at_
 | _ => omega
end Go.Proofs.YthnmkpocjgnjeaaGreat

/-
 A LAW OF WORLDS BEGINS: what happens, many turns.
-/
set_option maxRecDepth 8000
namespace Go.Proofs.YthnmkpocjgnjeaaGreat
open Go.AM
variable {h k : H} {bs : List Int} {s : Cell}
theorem playDo_ok {w : PWorld} (r : Room w) (e : PEvent) : playDoP w e = doP w e := by unfold playDoP; rw [if_pos (by simpa using r)]
theorem doing (hS : BytesA h s bs) : ∃ w c cs, ∃ y : PEvent, ∃ k1 k2 k3 k4 c1 cs1 c2 c3, Dz.den 29 [.c s] h = some (.t [.g (encW c), .g (encE y)], k1) ∧ Dz.den 30 [.g (encW c), .g (encE y)] k1 = some (.g (encW c1), k2) ∧
  Dz.den 31 [.g (encW c), .g (encE y)] k2 = some (.g (encW c2), k3) ∧ Dz.den 15 [.g (encW c1), .g (encW c2)] k3 = some (.c (.bool true), k3) ∧ Dz.den 17 [.g (encW c)] k3 = some (.c (.bool (tt (WorldOk w))), k3) ∧
  Dz.den 31 [.g (encW c), .g (encE y)] k3 = some (.g (encW c3), k4) ∧ Dz.den 15 [.g (encW c1), .g (encW c3)] k4 = some (.c (.bool true), k4) ∧ Done h k1 k3 k4 w c cs (playDoP w y) c1 cs1 := by
 obtain ⟨_, e1, k1, w, c, cs, y, rfl, x1, v1, sn⟩ := c_DrawPlayDo hS
 obtain ⟨_, e2, k2, c1, cs1, rfl, x2, v2⟩ := c_IPlayDo v1 y
 have v3 := v1.ext x2
 obtain ⟨_, e3, k3, c2, cs2, rfl, x3, v4⟩ := c_PlayDo v3 y
 have v5 := v3.ext x3
 have e4 := c_lvWorld (v2.ext x3).rd v4.rd
 rw [decide_eq_true rfl] at e4
 obtain ⟨_, e6, k4, c3, cs3, rfl, x4, v6⟩ := c_PlayDo v5 y
 have e7 := c_lvWorld ((v2.ext x3).ext x4).rd v6.rd
 rw [decide_eq_true rfl] at e7
 exact ⟨w, c, cs, y, k1, k2, k3, k4, c1, cs1, c2, c3, e1, e2, e3, e4, c_WorldOk v5.rd, e6, e7, ⟨v5, sn, v2.ext x3, (x1.trans x2).trans x3, x4⟩⟩
theorem cutting (hS : BytesA h s bs) : ∃ w c cs, ∃ y : Int, ∃ k1 k2 k3 k4 c1 cs1 c2 c3, Dz.den 26 [.c s] h = some (.t [.g (encW c), .c (.int .i64 y)], k1) ∧ Dz.den 27 [.g (encW c), .c (.int .i64 y)] k1 = some (.g (encW c1), k2) ∧
  Dz.den 28 [.g (encW c), .c (.int .i64 y)] k2 = some (.g (encW c2), k3) ∧ Dz.den 15 [.g (encW c1), .g (encW c2)] k3 = some (.c (.bool true), k3) ∧ Dz.den 17 [.g (encW c)] k3 = some (.c (.bool (tt (WorldOk w))), k3) ∧
  Dz.den 28 [.g (encW c), .c (.int .i64 y)] k3 = some (.g (encW c3), k4) ∧ Dz.den 15 [.g (encW c1), .g (encW c3)] k4 = some (.c (.bool true), k4) ∧ Done h k1 k3 k4 w c cs (playTurnsP w y) c1 cs1 ∧ -12 ≤ y ∧ y ≤ 11 := by
 obtain ⟨_, e1, k1, w, c, cs, y, rfl, x1, v1, sn, b1, b2⟩ := c_DrawPlayTurns hS
 obtain ⟨_, e2, k2, c1, cs1, rfl, x2, v2⟩ := c_IPlayTurns v1 y
 have v3 := v1.ext x2
 obtain ⟨_, e3, k3, c2, cs2, rfl, x3, v4⟩ := c_PlayTurns v3 y
 have v5 := v3.ext x3
 have e4 := c_lvWorld (v2.ext x3).rd v4.rd
 rw [decide_eq_true rfl] at e4
 obtain ⟨_, e6, k4, c3, cs3, rfl, x4, v6⟩ := c_PlayTurns v5 y
 have e7 := c_lvWorld ((v2.ext x3).ext x4).rd v6.rd
 rw [decide_eq_true rfl] at e7
 exact ⟨w, c, cs, y, k1, k2, k3, k4, c1, cs1, c2, c3, e1, e2, e3, e4, c_WorldOk v5.rd, e6, e7, ⟨v5, sn, v2.ext x3, (x1.trans x2).trans x3, x4⟩, b1, b2⟩
end Go.Proofs.YthnmkpocjgnjeaaGreat

/-
 WORLDS IN PLAIN DATA: counts grow; who ended stays so.
-/
set_option maxRecDepth 8000
namespace Go.Proofs.YthnmkpocjgnjeaaGreat
variable {w w' : PWorld} {id : Int}
structure Gr3 (w w' : PWorld) : Prop where
 sent : w.sent ≤ w'.sent
 taken : w.taken ≤ w'.taken
 lost : w.lost ≤ w'.lost
theorem Gr3.refl (w : PWorld) : Gr3 w w := ⟨Int.le_refl _, Int.le_refl _, Int.le_refl _⟩
theorem Gr3.trans {a b c : PWorld} (x : Gr3 a b) (y : Gr3 b c) : Gr3 a c := ⟨Int.le_trans x.sent y.sent, Int.le_trans x.taken y.taken, Int.le_trans x.lost y.lost⟩
theorem give_gr (w : PWorld) (k : Int) (v : PVal) : Gr3 w (giveP w k v) := by
 unfold giveP
 split
 ·split <;> exact ⟨by simp only; omega, Int.le_refl _, Int.le_refl _⟩
 ·exact ⟨by simp only; omega, Int.le_refl _, by simp only; omega⟩
theorem tell_gr (k : Int) : ∀ (ks : List Int) (w : PWorld), Gr3 w (tell k w ks)
 | [], w => Gr3.refl w
 | a :: ks, w => by
  unfold tell
  rw [List.foldl_cons]
  exact (give_gr w a _).trans (tell_gr k ks _)
theorem linkStep_gr (k : Int) (why : PVal) (x : PWorld × List Int) (a : Int) : Gr3 x.1 (linkStep k why x a).1 := by
 have s : ∀ r, Gr3 x.1 (setRun x.1 a r) := fun r => ⟨Int.le_refl _, Int.le_refl _, Int.le_refl _⟩
 unfold linkStep
 split
 ·exact s _
 ·split
  ·exact (s _).trans (give_gr _ _ _)
  ·exact s _
theorem endLinks_gr (k : Int) (why : PVal) : ∀ (ks : List Int) (x : PWorld × List Int), Gr3 x.1 (ks.foldl (linkStep k why) x).1
 | [], x => Gr3.refl _
 | a :: ks, x => by
  rw [List.foldl_cons]
  exact (linkStep_gr k why x a).trans (endLinks_gr k why ks _)
theorem fallN_gr (why : PVal) : ∀ (n : Nat) (w : PWorld) (ks : List Int), Gr3 w (fallN n w ks why)
 | 0, w, ks => Gr3.refl w
 | n + 1, w, [] => Gr3.refl w
 | n + 1, w, k :: ks => by
  unfold fallN
  split
  ·have b : Gr3 w (endBase w k why) := ⟨Int.le_refl _, Int.le_refl _, by unfold endBase; simp only; omega⟩
   unfold endP
   simp only
   exact ((b.trans (endLinks_gr k why _ (endBase w k why, []))).trans (tell_gr k _ _)).trans (fallN_gr why n _ _)
  ·exact fallN_gr why n w ks
theorem fall_gr (w : PWorld) (k : Int) (why : PVal) : Gr3 w (fallP w k why) := fallN_gr why 64 w [k]
theorem set_gr (w : PWorld) (k : Int) (r : PRun) : Gr3 w (setRun w k r) := ⟨Int.le_refl _, Int.le_refl _, Int.le_refl _⟩
theorem step_gr (w : PWorld) (id : Int) : Gr3 w (stepP w id) := by
 unfold stepP
 simp only
 split
 ·exact set_gr _ _ _
 split
 ·exact set_gr _ _ _
 split
 ·split
  ·exact fall_gr _ _ _
  ·exact set_gr _ _ _
 split
 ·exact set_gr _ _ _
 split
 ·unfold beginP
  split
  ·exact set_gr _ _ _
  ·exact (show Gr3 w (addRunP w id (codeAt w (runAt w id).at_)) from ⟨Int.le_refl _, Int.le_refl _, Int.le_refl _⟩).trans (set_gr _ _ _)
 split
 ·unfold takeP
  split
  ·exact ⟨Int.le_refl _, by simp only; omega, Int.le_refl _⟩
  ·split
   ·exact ⟨Int.le_refl _, Int.le_refl _, Int.le_refl _⟩
   ·split
    ·exact set_gr _ _ _
    ·exact ⟨Int.le_refl _, Int.le_refl _, Int.le_refl _⟩
 split
 ·exact set_gr _ _ _
 split
 ·exact set_gr _ _ _
 split
 ·exact set_gr _ _ _
 split
 ·exact fall_gr _ _ _
 unfold otherP
 simp only
 split
 ·exact fall_gr _ _ _
 split
 ·exact (set_gr _ _ _).trans (give_gr _ _ _)
 split
 ·exact (set_gr _ _ _).trans (give_gr _ _ _)
 split
 ·exact set_gr _ _ _
 split
 ·exact (set_gr _ _ _).trans (set_gr _ _ _)
 split
 ·exact ((set_gr _ _ _).trans (set_gr _ _ _)).trans (set_gr _ _ _)
 exact set_gr _ _ _
theorem steps_gr (id : Int) : ∀ (n : Nat) (w : PWorld), Gr3 w (stepsP n w id)
 | 0, w => Gr3.refl w
 | n + 1, w => by
  unfold stepsP
  split
  ·exact (step_gr w id).trans (steps_gr id n _)
  ·exact Gr3.refl w
theorem turn_gr (w : PWorld) : Gr3 w (turnP w) := by
 unfold turnP
 split
 ·exact Gr3.refl w
 ·refine ((set_gr w (headQ w) _).trans (steps_gr (headQ w) 3 (countP' w (headQ w)))).trans ?_
  unfold backP
  split
  ·exact ⟨Int.le_refl _, Int.le_refl _, Int.le_refl _⟩
  ·exact Gr3.refl _
theorem tick_gr (w : PWorld) : Gr3 w (tickP w) := by
 have t : ∀ (v : PWorld) i, Gr3 v (tickTo v i) := fun v i => by
  induction i with
  | zero => exact Gr3.refl v
  | succ i ih =>
   refine ih.trans ?_
   rw [tickTo]
   unfold tickAt
   split
   ·split
    ·exact ⟨Int.le_refl _, Int.le_refl _, Int.le_refl _⟩
    ·exact Gr3.refl _
   ·exact Gr3.refl _
 unfold tickP
 split
 ·exact Gr3.refl w
 ·exact (show Gr3 w { w with now := w.now + 1 } from ⟨Int.le_refl _, Int.le_refl _, Int.le_refl _⟩).trans (t _ _)
theorem doP_gr (w : PWorld) (e : PEvent) : Gr3 w (doP w e) := by
 unfold doP
 split
 ·exact turn_gr w
 split
 ·exact tick_gr w
 split
 ·split
  ·exact give_gr w _ _
  ·exact Gr3.refl w
 split
 ·split
  ·exact fall_gr w _ _
  ·exact Gr3.refl w
 exact Gr3.refl w
theorem RunK.same {r r' : PRun} (q : RunK r r') (h3 : r.state = 3) {c c' : List POp} {n n' : Int} {m m' i i' : Nat} (R : RunI c n m i r) (R' : RunI c' n' m' i' r') : r' = r := by
 have h3' := q.ended h3
 obtain ⟨a1, a2, a3⟩ := R.ok.ended h3
 obtain ⟨b1, b2, b3⟩ := R'.ok.ended h3'
 have d : r'.due = r.due := by
  rcases q.due with h | h
  ·exact h
  ·exact absurd h3 h.1
 have y : r'.why = r.why := by
  rcases q.why with h | h
  ·exact h
  ·exact absurd h3 h.1
 obtain ⟨x1, x2, x3, x4, x5, x6, x7, x8, x9, x10, x11, x12⟩ := r
 obtain ⟨z1, z2, z3, z4, z5, z6, z7, z8, z9, z10, z11, z12⟩ := r'
 obtain ⟨q1, q2, q3, q4, q5, q6, _, _, _, _, _⟩ := q
 simp only at *
 subst q1 q2 q3 q4 q5 q6 d y a1 a2 a3 b1 b2 b3 h3 h3'
 rfl
theorem ended_same (G : Good w) (e : PEvent) {k : Nat} {r : PRun} (hr : w.runs[k]? = some r) (h3 : r.state = 3) : (doP w e).runs[k]? = some r := by
 have G' := (G.doG e).1
 have R := G.inv.each k r hr
 have fin : ∀ r', (doP w e).runs[k]? = some r' → RunK r r' → (doP w e).runs[k]? = some r := fun r' h q => by
  rw [h, q.same h3 R (G'.inv.each k r' h)]
 have z : WK (fun _ => False) 0 0 w (doP w e) → (doP w e).runs[k]? = some r := fun x => by
  obtain ⟨r', h, q⟩ := x.each k r (fun h => h) hr
  exact fin r' h q
 by_cases k1 : e.kind = 1
 ·have es : doP w e = turnP w := by unfold doP; rw [if_pos k1]
  by_cases hq : w.queue = []
  ·rw [es]; unfold turnP; rw [if_pos hq]; exact hr
  ·obtain ⟨hl, x⟩ := turn_wk G.inv hq
   obtain ⟨hid, h1⟩ := G.inv.head hq
   have ne : k ≠ (headQ w - 1).toNat := fun q => by
    have := runAt_some (w := w) (k := headQ w) (by rw [← q]; exact hr)
    rw [this, h3] at h1; cases h1
   have hc : (countP' w (headQ w)).runs[k]? = some r := by
    unfold countP' setRun; simp only; rw [List.getElem?_set_ne (fun q => ne q.symm)]; exact hr
   obtain ⟨r', h, q⟩ := x.each k r ne hc
   rw [← es] at h
   exact fin r' h q
 ·exact z (doP_quiet w e k1).1
end Go.Proofs.YthnmkpocjgnjeaaGreat
