/-
  What functions of the seat answer, each proved once; each under the condition that cells bear what it is given, as its statement says.
-/
import Derived.Test.YtmkiojlebjknlaaGreatWalkA9
import Derived.Test.YtmkiojlebjknlaaGreatWalkA8
set_option linter.all false
/-
 WORLDS IN PLAIN DATA: a step, a turn, what happens: a good world stays one.
-/
set_option maxRecDepth 8000
namespace Go.Proofs.YtmkiojlebjknlaaGreat
open Go.AM
variable {w : PWorld}
section
variable {id : Int} {i : Nat} {r : PRun} {o : POp}
structure GK (w : PWorld) (d : Int) (w' : PWorld) : Prop where
 k : Kept w d w'
 g : Good w'
theorem GK.le {d e : Int} {w' : PWorld} (x : GK w d w') (h : d ≤ e) : GK w e w' := ⟨x.k.le h, x.g⟩
theorem GK.trans {a b c : PWorld} {d e : Int} (x : GK a d b) (y : GK b e c) : GK a (d + e) c := ⟨x.k.trans y.k, y.g⟩
theorem Good.giveG (G : Good w) (id : Int) {v : PVal} (hv : valOk v = true) : GK w 1 (giveP w id v) := ⟨G.inv.giveK id hv, G.give id hv⟩
theorem Good.fallG (G : Good w) (id : Int) {v : PVal} (hv : valOk v = true) : GK w 0 (fallP w id v) := ⟨fallN_kept hv 64 [id] G.inv, G.fallN hv 64 [id]⟩
theorem Good.setG (G : Good w) {k : Int} (hk : 1 ≤ k ∧ k ≤ w.runs.length) {d : Int} {r' : PRun} (K : Kept w d (setRun w k r')) (h1 : r'.links = (runAt w k).links) (h2 : r'.watched = (runAt w k).watched) (h3 : r'.state = 3 ↔ (runAt w k).state = 3) : GK w d (setRun w k r') :=
 ⟨K, G.set hk (q := w.queue) (n := w.now) (s := w.sent) (t := w.taken) (l := w.lost) K.inv h1 h2 h3⟩
theorem Turn.setG (T : Turn w id i r o) (G : Good w) (hk : ¬ (o.kind = 9 ∨ o.kind = 14)) {v : PVal} (hv : valOk v = true) : GK w 0 (setP w id o.r v) := by
 obtain ⟨i1, i2, i3⟩ := T.idr G.inv
 have K := T.setK G.inv hk hv
 unfold setP at K ⊢
 exact G.setG ⟨i1, i3⟩ K rfl rfl Iff.rfl
theorem Turn.waitG (T : Turn w id i r o) (G : Good w) {due : Int} (K : Kept w 0 (waitP w id due)) : GK w 0 (waitP w id due) := by
 obtain ⟨i1, i2, i3⟩ := T.idr G.inv
 exact ⟨K, G.set ⟨i1, i3⟩ (r' := { runAt w id with state := 2, due := due }) (q := less w.queue id) (n := w.now) (s := w.sent) (t := w.taken) (l := w.lost) K.inv rfl rfl (by rw [T.at_, T.going]; simp)⟩
theorem Turn.takeG (T : Turn w id i r o) (G : Good w) (hk : o.kind = 7 ∨ o.kind = 8) : GK w 0 (takeP w id o) := by
 obtain ⟨i1, i2, i3⟩ := T.idr G.inv
 have K := T.takeK G.inv hk
 unfold takeP at K ⊢
 split at K
 ·rename_i h0
  rw [if_pos h0]
  exact ⟨K, G.set ⟨i1, i3⟩ (r' := takeRun (runAt w id) o.r (mailAt (runAt w id) o.s).toNat) (q := w.queue) (n := w.now) (s := w.sent) (t := w.taken + 1) (l := w.lost) K.inv rfl rfl Iff.rfl⟩
 ·rename_i h0
  rw [if_neg h0]
  split at K
  ·rename_i h7; rw [if_pos h7]; exact T.waitG G K
  ·rename_i h7
   rw [if_neg h7]
   split at K
   ·rename_i hd; rw [if_pos hd]; exact G.setG ⟨i1, i3⟩ K rfl rfl Iff.rfl
   ·rename_i hd; rw [if_neg hd]; exact T.waitG G K
theorem runAt_add {q : Int} (hq : 1 ≤ q ∧ q ≤ w.runs.length) : runAt (addRunP w id o) q = runAt w q := by
 unfold runAt addRunP
 simp only
 rw [List.getElem?_append_left (by omega)]
theorem runAt_new : runAt (addRunP w id o) (w.runs.length + 1) = newRun (w.runs.length + 1) o.to ⟨3, id⟩ := by
 unfold runAt addRunP
 simp only
 rw [show ((w.runs.length : Int) + 1 - 1).toNat = w.runs.length by omega]
 simp
theorem Turn.addG (T : Turn w id i r o) (G : Good w) (hk : o.kind = 5) (hn : w.runs.length < 6) : GK w 12 (addRunP w id o) ∧ Turn (addRunP w id o) id i r o := by
 obtain ⟨K, T2⟩ := T.addK G.inv hk hn
 have hl : (addRunP w id o).runs.length = w.runs.length + 1 := by simp [addRunP]
 have cs : ∀ {q : Int}, (1 ≤ q ∧ q ≤ (addRunP w id o).runs.length) → (1 ≤ q ∧ q ≤ w.runs.length) ∨ q = w.runs.length + 1 := fun h => by rw [hl] at h; omega
 have old : ∀ {q : Int}, (1 ≤ q ∧ q ≤ w.runs.length) → ∀ k ∈ (runAt w q).links, k ≤ w.runs.length := fun {q} h k hk => by
  obtain ⟨j, e, ej, hj, hg, R⟩ := G.inv.run h
  exact R.links k hk
 refine ⟨⟨K, ⟨K.inv, fun a b ha hb => ?_, fun a ha k hk => ?_⟩⟩, T2⟩
 ·rcases cs ha with ha | rfl <;> rcases cs hb with hb | rfl
  ·rw [runAt_add ha, runAt_add hb]; exact G.sym a b ha hb
  ·rw [runAt_add ha, runAt_new]
   simp only [newRun, List.not_mem_nil, iff_false]
   intro h; have := old ha _ h; omega
  ·rw [runAt_add hb, runAt_new]
   simp only [newRun, List.not_mem_nil, false_iff]
   intro h; have := old hb _ h; omega
  ·simp [runAt_new, newRun]
 ·rcases cs ha with ha | rfl
  ·rw [runAt_add ha] at hk
   obtain ⟨k1, k2⟩ := G.watch a ha k hk
   exact ⟨by rw [hl]; omega, by rw [runAt_add k1]; exact k2⟩
  ·rw [runAt_new] at hk; simp [newRun] at hk
theorem Turn.beginG (T : Turn w id i r o) (G : Good w) (hk : o.kind = 5) : GK w 12 (beginP w id o) := by
 unfold beginP
 obtain ⟨i1, i2, i3⟩ := T.idr G.inv
 have hk9 : ¬ (o.kind = 9 ∨ o.kind = 14) := by omega
 split
 ·exact (T.setG G hk9 (v := ⟨0, 0⟩) rfl).le (by omega)
 ·have hn : w.runs.length < 6 := by omega
  obtain ⟨K, T2⟩ := T.addG G hk hn
  exact (K.trans (T2.setG K.g hk9 (valOk_run (by omega)))).le (by omega)
theorem Good.linkG (G : Good w) {a b : Int} (ha : Alive w a) (hb : Alive w b) (hne : b ≠ a) (hn : b ∉ (runAt w a).links) : GK w 0 (linkP w a b) := by
 have K1 := G.inv.linkK ha (x := b) ⟨hb.1, hne, hn⟩
 have hn2 : a ∉ (runAt w b).links := fun h => hn ((G.sym b a hb.1 ha.1).1 h)
 have hb2 : Alive (setRun w a { runAt w a with links := (runAt w a).links ++ [b] }) b := (alive_set ha.1 (by exact Iff.rfl)).2 hb
 have e1 : runAt (setRun w a { runAt w a with links := (runAt w a).links ++ [b] }) b = runAt w b := by rw [runAt_set ha.1 hb.1.1, if_neg hne]
 have K2 := K1.inv.linkK hb2 (x := a) ⟨by rw [setRun_len]; exact ha.1, Ne.symm hne, by rw [e1]; exact hn2⟩
 have K := (K1.trans K2).le (e := 0) (by omega)
 have hb1 : 1 ≤ b ∧ b ≤ (setRun w a { runAt w a with links := (runAt w a).links ++ [b] }).runs.length := by rw [setRun_len]; exact hb.1
 have hl : (linkP w a b).runs.length = w.runs.length := by unfold linkP; simp only; rw [setRun_len, setRun_len]
 have at_ : ∀ {q : Int}, (1 ≤ q ∧ q ≤ w.runs.length) → runAt (linkP w a b) q = { runAt w q with links := if q = a then (runAt w q).links ++ [b] else if q = b then (runAt w q).links ++ [a] else (runAt w q).links } := fun {q} hq => by
  unfold linkP
  simp only
  rw [runAt_set hb1 hq.1, e1, runAt_set ha.1 hq.1]
  by_cases c : q = b
  ·subst c; simp [hne]
  ·by_cases d : q = a
   ·subst d; simp [c]
   ·simp [c, d]
 refine ⟨K, K.inv, fun x y hx hy => ?_, fun x hx k hk => ?_⟩
 ·rw [hl] at hx hy
  rw [at_ hx, at_ hy]
  have := G.sym x y hx hy
  simp only
  by_cases c : x = a <;> by_cases d : y = a <;> by_cases e : x = b <;> by_cases f : y = b <;> simp only [c, d, e, f, ↓reduceIte, List.mem_append, List.mem_singleton] at this ⊢ <;> grind
 ·rw [hl] at hx
  rw [at_ hx] at hk
  obtain ⟨k1, k2⟩ := G.watch x hx k hk
  exact ⟨by rw [hl]; exact k1, by rw [at_ k1]; exact k2⟩
theorem Good.watchG (G : Good w) {a k : Int} (ha : Alive w a) (hk : Alive w k) (hne : a ≠ k) (hn : a ∉ (runAt w k).watched) : GK w 0 (watchP w a k) := by
 have K := G.inv.watchK hk (x := a) ⟨ha.1, hne, hn⟩
 unfold watchP
 have hl : (setRun w k { runAt w k with watched := (runAt w k).watched ++ [a] }).runs.length = w.runs.length := setRun_len
 refine ⟨K, K.inv, fun x y hx hy => ?_, fun x hx q hq => ?_⟩
 ·rw [hl] at hx hy
  rw [runAt_set hk.1 hx.1, runAt_set hk.1 hy.1]
  have := G.sym x y hx hy
  by_cases c : x = k <;> by_cases d : y = k <;> simp only [c, d, ↓reduceIte] at this ⊢ <;> exact this
 ·rw [hl] at hx
  rw [runAt_set hk.1 hx.1] at hq
  refine (alive_set hk.1 (by exact Iff.rfl)).2 ?_
  split at hq
  ·rename_i e; subst e
   simp only [List.mem_append, List.mem_singleton] at hq
   rcases hq with hq | rfl
   ·exact G.watch x hx q hq
   ·exact ha
  ·exact G.watch x hx q hq
theorem Turn.otherG (T : Turn w id i r o) (G : Good w) (hk : o.kind = 6 ∨ o.kind = 11 ∨ o.kind = 12) : GK w 1 (otherP w id o) := by
 have R := T.run
 obtain ⟨i1, i2, i3⟩ := T.idr G.inv
 have hk9 : ¬ (o.kind = 9 ∨ o.kind = 14) := by omega
 have K : GK w 0 (setRun w id (nextRun r)) := G.setG ⟨i1, i3⟩ (T.nextK G.inv hk9 (by simp [fillsK]; omega)) (by rw [T.at_]; rfl) (by rw [T.at_]; rfl) (by rw [T.at_]; rfl)
 have hr := op_r T.ok
 have hs := op_s T.ok
 unfold otherP
 rw [T.at_]
 simp only
 split
 ·exact (G.fallG id rfl).le (by omega)
 ·split
  ·exact (K.trans (K.g.giveG _ (slotAt_ok R.ok hs.1 hs.2))).le (by omega)
  ·split
   ·exact (K.trans (K.g.giveG _ (slotAt_ok R.ok hr.1 hr.2))).le (by omega)
   ·split
    ·exact K.le (by omega)
    ·rename_i hh
     have hne : (slotAt r o.r).n ≠ id := fun e => hh (.inl e)
     have hal : Alive w (slotAt r o.r).n := Classical.byContradiction fun e => hh (.inr e)
     have hal2 : Alive (setRun w id (nextRun r)) (slotAt r o.r).n := (alive_set ⟨i1, i3⟩ (by rw [T.at_]; rfl)).2 hal
     have hid2 : Alive (setRun w id (nextRun r)) id := (alive_set ⟨i1, i3⟩ (by rw [T.at_]; rfl)).2 ⟨⟨i1, i3⟩, by rw [T.at_, T.going]; decide⟩
     have e1 : runAt (setRun w id (nextRun r)) (slotAt r o.r).n = runAt w (slotAt r o.r).n := by rw [runAt_set ⟨i1, i3⟩ hal.1.1, if_neg hne]
     have e2 : runAt (setRun w id (nextRun r)) id = nextRun r := by rw [runAt_set ⟨i1, i3⟩ i1, if_pos rfl]
     split
     ·rename_i hw
      exact (K.trans (K.g.watchG hid2 hal2 (Ne.symm hne) (by rw [e1]; exact hw.2))).le (by omega)
     ·split
      ·rename_i hl
       exact (K.trans (K.g.linkG hid2 hal2 hne (by rw [e2]; exact hl.2))).le (by omega)
      ·exact K.le (by omega)
theorem addP_ok {a b v : PVal} (h : addP a b = some v) : valOk v = true := by
 unfold addP at h
 split at h
 ·rename_i hh; cases h; simp [valOk]; omega
 ·cases h
theorem Turn.stepG (T : Turn w id i r o) (G : Good w) : GK w 12 (stepP w id) := by
 have R := T.run
 obtain ⟨i1, i2, i3⟩ := T.idr G.inv
 have hr := op_r T.ok
 have hs := op_s T.ok
 have hkd := op_kind T.ok
 have why : r.why = ⟨0, 0⟩ := R.ok.live (by rw [T.going]; decide)
 have flat : ∀ {r' : PRun}, RunI w.code w.now w.runs.length i r' → r'.state = 1 → r'.mail = r.mail → r'.links = r.links → r'.watched = r.watched → GK w 12 (setRun w id r') := fun {r'} R' h1 h2 h3 h4 =>
  (G.setG ⟨i1, i3⟩ (T.keep G.inv R' h1 (by rw [h2])) (by rw [T.at_]; exact h3) (by rw [T.at_]; exact h4) (by rw [T.at_, h1, T.going])).le (by omega)
 unfold stepP
 rw [T.at_]
 simp only
 rw [T.op]
 by_cases k1 : o.kind = 1
 ·rw [if_pos k1]; exact (T.setG G (by omega) (op_v T.ok)).le (by omega)
 rw [if_neg k1]
 by_cases k2 : o.kind = 2
 ·rw [if_pos k2]; exact (T.setG G (by omega) (slotAt_ok R.ok hs.1 hs.2)).le (by omega)
 rw [if_neg k2]
 by_cases k3 : o.kind = 3
 ·rw [if_pos k3]
  split
  ·exact (G.fallG id rfl).le (by omega)
  ·rename_i v hv; exact (T.setG G (by omega) (addP_ok hv)).le (by omega)
 rw [if_neg k3]
 by_cases k4 : o.kind = 4
 ·rw [if_pos k4]; exact (T.setG G (by omega) (valOk_run (by omega))).le (by omega)
 rw [if_neg k4]
 by_cases k5 : o.kind = 5
 ·rw [if_pos k5]; exact T.beginG G k5
 rw [if_neg k5]
 by_cases k7 : o.kind = 7 ∨ o.kind = 8
 ·rw [if_pos k7]; exact (T.takeG G k7).le (by omega)
 rw [if_neg k7]
 by_cases k9 : o.kind = 9
 ·rw [if_pos k9]
  have A := T.to G.inv (fun x => by simp [goesTo, k9]) (by simp [hasT, k9])
  rw [if_neg k5] at A
  exact flat (R.goes G.inv.safe rfl T.going R.ok.mail R.ok.room R.ok.due rfl rfl why rfl R.ok.len R.ok.full R.ok.slots A.1 A.2) T.going rfl rfl rfl
 rw [if_neg k9]
 by_cases k10 : o.kind = 10
 ·rw [if_pos k10]
  split
  ·have A := T.to G.inv (fun x => by simp [goesTo, k10]) (by simp [hasT, k10])
   rw [if_neg k5] at A
   exact flat (R.goes G.inv.safe rfl T.going R.ok.mail R.ok.room R.ok.due rfl rfl why rfl R.ok.len R.ok.full R.ok.slots A.1 A.2) T.going rfl rfl rfl
  ·exact flat (T.nextI G.inv (by omega) (by simp [fillsK, k10])) T.going rfl rfl rfl
 rw [if_neg k10]
 by_cases k13 : o.kind = 13
 ·rw [if_pos k13]
  have N := T.nextI G.inv (by omega) (by simp [fillsK, k13])
  exact flat (r' := { r with trap := decide (o.v.n = 1), at_ := r.at_ + 1 }) ⟨⟨N.ok.id, N.ok.at_, N.ok.len, N.ok.full, N.ok.room, N.ok.state, N.ok.due, N.ok.turns, N.ok.slots, N.ok.mail, N.ok.links, N.ok.watched, N.ok.why, N.ok.ended, N.ok.live⟩, N.id, N.at_, N.wait, N.full, N.links, N.watched⟩ T.going rfl rfl rfl
 rw [if_neg k13]
 by_cases k14 : o.kind = 14
 ·rw [if_pos k14]; exact (G.fallG id (slotAt_ok R.ok hr.1 hr.2)).le (by omega)
 rw [if_neg k14]
 exact (T.otherG G (by omega)).le (by omega)
end
theorem Good.stepG (G : Good w) {id : Int} (hid : 1 ≤ id ∧ id ≤ w.runs.length) (hg : (runAt w id).state = 1) : GK w 12 (stepP w id) := by
 obtain ⟨i, T⟩ := G.inv.turn hid hg
 exact T.stepG G
theorem Good.stepsG : ∀ (n : Nat) {w : PWorld} (_ : Good w) {id : Int} (_ : 1 ≤ id ∧ id ≤ w.runs.length), GK w (12 * n) (stepsP n w id)
 | 0, w, G, id, _ => ⟨Kept.refl G.inv, G⟩
 | n + 1, w, G, id, hid => by
  unfold stepsP
  split
  ·rename_i hg
   have S := G.stepG hid hg
   exact (S.trans (Good.stepsG n S.g (by have := S.k.len; omega))).le (by omega)
  ·exact (GK.mk (Kept.refl G.inv) G).le (by omega)
end Go.Proofs.YtmkiojlebjknlaaGreat

/-
 WORLDS IN PLAIN DATA: a world is ok, just if it is good, and not too much was sent; turns, ticks, what happens.
-/
set_option maxRecDepth 8000
namespace Go.Proofs.YtmkiojlebjknlaaGreat
open Go.AM
variable {w : PWorld}
theorem runAt_nat {i : Nat} (hi : i < w.runs.length) : runAt w (i + 1) = w.runs[i] := by
 unfold runAt
 rw [show ((i : Int) + 1 - 1).toNat = i by omega, List.getElem?_eq_getElem hi]; rfl
theorem WorldOk.good (W : WorldOk w) : Good w ∧ w.sent ≤ 9999 := by
 have small : ∀ {r : PRun} {i : Nat}, w.runs[i]? = some r → ∀ k ∈ r.links ++ r.watched, k ≤ w.runs.length := fun {r i} hr k hk => by
  obtain ⟨hi, rfl⟩ := List.getElem?_eq_some_iff.1 hr
  have R := W.each i hi
  by_cases h3 : w.runs[i].state = 3
  ·obtain ⟨_, e1, e2⟩ := R.ok.ended h3
   rw [e1, e2] at hk; simp at hk
  ·exact (R.others h3 k hk).1
 refine ⟨⟨⟨W.safe, W.many, W.now, ⟨W.sent.1, W.taken.1, W.lost.1⟩, W.queue.1, fun q => ?_, fun i r hr => ?_, ?_⟩, fun a b ha hb => ?_, fun a ha k hk => ?_⟩, W.sent.2⟩
 ·constructor
  ·intro hq
   have h1 := W.queue.2 q hq
   have h2 := W.queueTo q hq
   have hi : (q - 1).toNat < w.runs.length := by omega
   have R := W.each _ hi
   refine ⟨(q - 1).toNat, by omega, _, List.getElem?_eq_getElem hi, R.queue.1 ?_⟩
   rw [R.id, show (((q - 1).toNat : Int) + 1) = q by omega]; exact hq
  ·rintro ⟨i, rfl, r, hr, h1⟩
   obtain ⟨hi, rfl⟩ := List.getElem?_eq_some_iff.1 hr
   have R := W.each i hi
   rw [← R.id]; exact R.queue.2 h1
 ·obtain ⟨hi, rfl⟩ := List.getElem?_eq_some_iff.1 hr
  have R := W.each i hi
  exact ⟨R.ok, R.id, R.at_, R.wait, R.full, fun k hk => small hr k (List.mem_append_left _ hk), fun k hk => small hr k (List.mem_append_right _ hk)⟩
 ·have h1 := mailTo_sum w w.runs.length (Nat.le_refl _)
  rw [List.take_length] at h1
  have := W.sum; omega
 ·obtain ⟨i, rfl⟩ : ∃ i : Nat, a = i + 1 := ⟨(a - 1).toNat, by omega⟩
  obtain ⟨j, rfl⟩ : ∃ j : Nat, b = j + 1 := ⟨(b - 1).toNat, by omega⟩
  have hi : i < w.runs.length := by omega
  have hj : j < w.runs.length := by omega
  rw [runAt_nat hi, runAt_nat hj]
  rcases Nat.lt_trichotomy i j with h | h | h
  ·exact (W.links j i hj h).symm
  ·subst h; exact Iff.rfl
  ·exact W.links i j hi h
 ·obtain ⟨i, rfl⟩ : ∃ i : Nat, a = i + 1 := ⟨(a - 1).toNat, by omega⟩
  have hi : i < w.runs.length := by omega
  rw [runAt_nat hi] at hk
  have R := W.each i hi
  by_cases h3 : w.runs[i].state = 3
  ·obtain ⟨_, e1, e2⟩ := R.ok.ended h3
   rw [e2] at hk; simp at hk
  ·have q := R.others h3 k (List.mem_append_right _ hk)
   exact ⟨⟨(R.ok.watched.2 k hk).1, q.1⟩, q.2⟩
theorem Good.ok (G : Good w) (hs : w.sent ≤ 9999) : WorldOk w := by
 have I := G.inv
 have hm := mailSum_nn w.runs
 have hS := I.sum
 obtain ⟨n1, n2, n3⟩ := I.nn
 have h6 := I.many.2
 have hmem : ∀ q ∈ w.queue, 1 ≤ q ∧ q ≤ w.runs.length := fun q hq => by
  obtain ⟨i, rfl, r, hr, _⟩ := (I.mem q).1 hq
  have := (List.getElem?_eq_some_iff.1 hr).1; omega
 refine ⟨I.safe, I.many, I.now, ⟨n1, hs⟩, ⟨n2, by omega⟩, ⟨n3, by omega⟩, ⟨I.queue, fun q hq => by have := hmem q hq; omega⟩, fun i hi => ?_, fun q hq => (hmem q hq).2, fun a b ha hb => ?_, ?_⟩
 ·have hg : w.runs[i]? = some w.runs[i] := List.getElem?_eq_getElem hi
  have R := I.each i _ hg
  refine ⟨R.ok, R.id, R.at_, by rw [R.id]; exact I.run_mem hg, R.wait, fun h3 k hk => ?_, R.full⟩
  have hin : 1 ≤ (i : Int) + 1 ∧ (i : Int) + 1 ≤ w.runs.length := by omega
  rcases List.mem_append.1 hk with hk | hk
  ·have k1 : 1 ≤ k ∧ k ≤ w.runs.length := ⟨(R.ok.links.2 k hk).1, R.links k hk⟩
   refine ⟨k1.2, fun he => ?_⟩
   have h1 := (G.sym (i + 1) k hin k1).1 (by rw [runAt_nat hi]; exact hk)
   obtain ⟨j, ej, ej2, hj, hgj, Rj⟩ := I.run k1
   have : (runAt w k).links = [] := (Rj.ok.ended he).2.1
   rw [this] at h1; simp at h1
  ·have q := G.watch (i + 1) hin k (by rw [runAt_nat hi]; exact hk)
   exact ⟨q.1.2, q.2⟩
 ·have hb' : b < w.runs.length := by omega
  have := G.sym (a + 1) (b + 1) (by omega) (by omega)
  rw [runAt_nat ha, runAt_nat hb'] at this
  exact this
 ·have h1 := mailTo_sum w w.runs.length (Nat.le_refl _)
  rw [List.take_length] at h1
  omega
theorem ok_iff (w : PWorld) : WorldOk w ↔ Good w ∧ w.sent ≤ 9999 := ⟨WorldOk.good, fun h => h.1.ok h.2⟩
theorem Inv.head (I : Inv w) (hq : w.queue ≠ []) : (1 ≤ headQ w ∧ headQ w ≤ w.runs.length) ∧ (runAt w (headQ w)).state = 1 := by
 have hm : headQ w ∈ w.queue := by
  unfold headQ
  cases h : w.queue with
  | nil => exact absurd h hq
  | cons a t => simp
 obtain ⟨i, e, r, hr, h1⟩ := (I.mem _).1 hm
 obtain ⟨hi, rfl⟩ := List.getElem?_eq_some_iff.1 hr
 rw [e, runAt_nat hi]
 exact ⟨by omega, h1⟩
theorem Good.countG (G : Good w) {id : Int} (hid : 1 ≤ id ∧ id ≤ w.runs.length) : GK w 0 (countP' w id) ∧ (runAt (countP' w id) id).state = (runAt w id).state := by
 have I := G.inv
 obtain ⟨i, e, ei, hl, hg, R⟩ := I.run hid
 have R' : RunI w.code w.now w.runs.length i { runAt w id with turns := min ((runAt w id).turns + 1) 9999 } := by
  have := R.ok.turns
  exact ⟨⟨R.ok.id, R.ok.at_, R.ok.len, R.ok.full, R.ok.room, R.ok.state, R.ok.due, by simp only; omega, R.ok.slots, R.ok.mail, R.ok.links, R.ok.watched, R.ok.why, R.ok.ended, R.ok.live⟩, R.id, R.at_, R.wait, R.full, R.links, R.watched⟩
 have J := I.upd (r' := { runAt w id with turns := min ((runAt w id).turns + 1) 9999 }) (s := w.sent) (t := w.taken) (l := w.lost) hg R' I.queue (I.q_same hg Iff.rfl) I.nn (by simp only; omega)
 have e2 : countP' w id = { w with runs := w.runs.set i { runAt w id with turns := min ((runAt w id).turns + 1) 9999 } } := by unfold countP' setRun; rw [ei]
 have K : Kept w 0 (countP' w id) := by
  rw [e2]
  refine ⟨J, rfl, rfl, ?_, by simp⟩
  have := aliveN_set (r' := { runAt w id with turns := min ((runAt w id).turns + 1) 9999 }) hg
  unfold Go.Proofs.YtmkiojlebjknlaaGreat.phi
  simp only at this ⊢
  omega
 refine ⟨G.setG hid K rfl rfl Iff.rfl, ?_⟩
 unfold countP'
 rw [runAt_set hid hid.1, if_pos rfl]
theorem Good.backG (G : Good w) {id : Int} (hid : 1 ≤ id ∧ id ≤ w.runs.length) : GK w 0 (backP w id) := by
 unfold backP
 split
 ·rename_i h1
  have I := G.inv
  have hn : id ∉ less w.queue id := by simp [mem_less]
  have J : Inv { w with queue := less w.queue id ++ [id] } := by
   refine ⟨I.safe, I.many, I.now, I.nn, List.nodup_append.2 ⟨less_nodup I.queue, by simp, fun a ha b hb e => by simp at hb; subst hb; subst e; exact hn ha⟩, fun q => ?_, I.each, I.sum⟩
   rw [← I.mem]
   simp only [List.mem_append, List.mem_singleton, mem_less]
   constructor
   ·rintro (h | rfl)
    ·exact h.1
    ·obtain ⟨i, e, ei, hl, hg, R⟩ := I.run hid
     rw [e]; exact (I.run_mem hg).2 h1
   ·intro h
    by_cases e : q = id
    ·exact .inr e
    ·exact .inl ⟨h, e⟩
  exact ⟨⟨J, rfl, rfl, by unfold Go.Proofs.YtmkiojlebjknlaaGreat.phi; simp only; omega, Nat.le_refl _⟩, J, G.sym, G.watch⟩
 ·exact ⟨Kept.refl G.inv, G⟩
theorem Good.turnG (G : Good w) : GK w 36 (turnP w) := by
 unfold turnP
 split
 ·exact (GK.mk (Kept.refl G.inv) G).le (by omega)
 ·rename_i hq
  obtain ⟨hid, h1⟩ := G.inv.head hq
  obtain ⟨C, e⟩ := G.countG hid
  have S := C.g.stepsG 3 (id := headQ w) (by have := C.k.len; omega)
  have B := S.g.backG (id := headQ w) (by have := C.k.len; have := S.k.len; omega)
  exact ((C.trans S).trans B).le (by omega)
def tickAtT (t : Int) (w : PWorld) (i : Nat) : PWorld :=
 match w.runs[i]? with
 | some r => if r.state = 2 ∧ r.due = t then { w with runs := w.runs.set i { r with state := 1, due := -1 }, queue := w.queue ++ [(i : Int) + 1] } else w
 | none => w
def tickToT (t : Int) (w : PWorld) : Nat → PWorld
 | 0 => w
 | i + 1 => tickAtT t (tickToT t w i) i
theorem tickTo_T (w : PWorld) (t : Int) : ∀ i, tickTo { w with now := t } i = { tickToT t w i with now := t }
 | 0 => rfl
 | i + 1 => by
  rw [tickTo, tickToT, tickTo_T w t i]
  unfold tickAt tickAtT
  simp only
  cases (tickToT t w i).runs[i]? with
  | none => rfl
  | some r => simp only; split <;> rfl
theorem Good.tickAtG (G : Good w) (t : Int) (i : Nat) : GK w 0 (tickAtT t w i) ∧ (tickAtT t w i).runs.length = w.runs.length := by
 have I := G.inv
 unfold tickAtT
 cases hg : w.runs[i]? with
 | none => exact ⟨⟨Kept.refl I, G⟩, rfl⟩
 | some r =>
  simp only
  split
  ·rename_i h
   obtain ⟨h2, hd⟩ := h
   obtain ⟨hi, rfl⟩ := List.getElem?_eq_some_iff.1 hg
   have R := I.each i _ hg
   have Q := I.q_app (r' := { w.runs[i] with state := 1, due := -1 }) hg (by rw [h2]; decide) rfl
   have J := I.upd (r' := { w.runs[i] with state := 1, due := -1 }) (s := w.sent) (t := w.taken) (l := w.lost) hg
    ⟨⟨R.ok.id, R.ok.at_, R.ok.len, R.ok.full, R.ok.room, by simp, by simp, R.ok.turns, R.ok.slots, R.ok.mail, R.ok.links, R.ok.watched, R.ok.why, by simp, fun _ => R.ok.live (by rw [h2]; decide)⟩, R.id, R.at_, by simp, fun _ => R.full (by rw [h2]; decide), R.links, R.watched⟩ Q.1 Q.2 I.nn (by simp only; omega)
   have hr := runAt_nat hi
   have hk : 1 ≤ (i : Int) + 1 ∧ (i : Int) + 1 ≤ w.runs.length := by omega
   have es : setRun w (i + 1) { w.runs[i] with state := 1, due := -1 } = { w with runs := w.runs.set i { w.runs[i] with state := 1, due := -1 } } := by
    unfold setRun; rw [show ((i : Int) + 1 - 1).toNat = i by omega]
   have S := G.set hk (r' := { w.runs[i] with state := 1, due := -1 }) (q := w.queue ++ [(i : Int) + 1]) (n := w.now) (s := w.sent) (t := w.taken) (l := w.lost) (by rw [es]; exact J) (by rw [hr]) (by rw [hr]) (by rw [hr, h2]; simp)
   rw [es] at S
   refine ⟨⟨⟨J, rfl, rfl, ?_, by simp⟩, S⟩, by simp⟩
   have := aliveN_set (r' := { w.runs[i] with state := 1, due := -1 }) hg
   unfold Go.Proofs.YtmkiojlebjknlaaGreat.phi
   rw [if_pos (by rw [h2]; decide), if_pos (by simp)] at this
   simp only at this ⊢
   omega
  ·exact ⟨⟨Kept.refl I, G⟩, rfl⟩
theorem tickToT_none (t : Int) (w : PWorld) : ∀ i, (tickToT t w i).runs.length = w.runs.length ∧ ∀ j r, (tickToT t w i).runs[j]? = some r → j < i → ¬ (r.state = 2 ∧ r.due = t)
 | 0 => ⟨rfl, fun j r _ h => by omega⟩
 | i + 1 => by
  obtain ⟨l, ih⟩ := tickToT_none t w i
  rw [tickToT]
  unfold tickAtT
  cases hg : (tickToT t w i).runs[i]? with
  | none =>
   refine ⟨l, fun j r hr hj => ?_⟩
   by_cases e : j = i
   ·subst e; rw [hg] at hr; cases hr
   ·exact ih j r hr (by omega)
  | some x =>
   simp only
   split
   ·refine ⟨by simp [l], fun j r hr hj => ?_⟩
    by_cases e : i = j
    ·subst e
     have hi := (List.getElem?_eq_some_iff.1 hg).1
     simp [hi] at hr; subst hr; simp
    ·simp only [List.getElem?_set_ne e] at hr
     exact ih j r hr (by omega)
   ·rename_i h
    refine ⟨l, fun j r hr hj => ?_⟩
    by_cases e : j = i
    ·subst e; rw [hg] at hr; cases hr; exact h
    ·exact ih j r hr (by omega)
theorem Good.tickToG (G : Good w) (t : Int) : ∀ i, GK w 0 (tickToT t w i)
 | 0 => ⟨Kept.refl G.inv, G⟩
 | i + 1 => by
  have ih := G.tickToG t i
  exact (ih.trans (ih.g.tickAtG t i).1).le (by omega)
theorem Good.tickG (G : Good w) : Good (tickP w) ∧ phi (tickP w) ≤ phi w ∧ (tickP w).code = w.code ∧ w.runs.length ≤ (tickP w).runs.length := by
 unfold tickP
 split
 ·exact ⟨G, Int.le_refl _, rfl, Nat.le_refl _⟩
 ·rename_i h
  have K := G.tickToG (w.now + 1) w.runs.length
  obtain ⟨l, N⟩ := tickToT_none (w.now + 1) w w.runs.length
  have hn := G.inv.now
  have kn := K.k.now
  have I := K.g.inv
  rw [tickTo_T]
  refine ⟨⟨⟨I.safe, I.many, by simp only; omega, I.nn, I.queue, I.mem, fun i r hi => ?_, I.sum⟩, K.g.sym, K.g.watch⟩, by have := K.k.phi; unfold Go.Proofs.YtmkiojlebjknlaaGreat.phi at this ⊢; simp only; omega, K.k.code, by simp only; omega⟩
  have R := I.each i r hi
  refine ⟨R.ok, R.id, R.at_, fun h2 => ?_, R.full, R.links, R.watched⟩
  obtain ⟨a, b⟩ := R.wait h2
  have hl := (List.getElem?_eq_some_iff.1 hi).1
  have hl2 : i < w.runs.length := by rw [← l]; exact hl
  have nn := N i r hi hl2
  refine ⟨?_, b⟩
  simp only
  rcases a with a | a
  ·exact .inl a
  ·refine .inr ⟨a.1, ?_⟩
   have : r.due ≠ w.now + 1 := fun e => nn ⟨h2, e⟩
   omega
end Go.Proofs.YtmkiojlebjknlaaGreat

/-
 THE REFERENCE's l13One: what it answers.
-/
set_option maxRecDepth 8000
namespace Go.Proofs.YtmkiojlebjknlaaGreat
open Go.AM
variable {h h' : H} {lo : Nat} {w : PWorld} {c : WorldC} {st cs : List RunC}
structure Apart (o : Nat → Prop) (k : H) (xs : List Int) (s : Cell) : Prop where
 sl : Sl k s 1 encI xs
 out : ∀ id ∈ s.ids, ¬ o id
 cap : ∀ id i n c, s ≠ .sl id i n (some c)
theorem Apart.lt {o : Nat → Prop} {k : H} {xs : List Int} {s : Cell} (a : Apart o k xs s) : ∀ id ∈ s.ids, id < k.length := a.sl.ids_lt
theorem Apart.chg {o o' : Nat → Prop} {k k' : H} {xs : List Int} {s : Cell} (a : Apart o k xs s) (x : Chg k o k') (hn : ∀ id, o' id → o id ∨ k.length ≤ id) : Apart o' k' xs s :=
 ⟨a.sl.same fun id hid => x.keep id (a.lt id hid) (a.out id hid), fun id hid ho => by
  rcases hn id ho with h | h
  ·exact a.out id hid h
  ·have := a.lt id hid; omega, a.cap⟩
theorem Apart.step {p p' : Key → Cell} {k k' : H} {xs : List Int} {s : Cell} (a : Apart (Owned p) k xs s) (x : StepV k p k' p') : Apart (Owned p') k' xs s := a.chg x.chg x.sub
theorem Apart.ext {o : Nat → Prop} {k k' : H} {xs : List Int} {s : Cell} (a : Apart o k xs s) (x : Ext k k') : Apart o k' xs s := ⟨a.sl.ext x, a.out, a.cap⟩
theorem Apart.other {o r : Nat → Prop} {k k' : H} {xs : List Int} {s : Cell} (a : Apart o k xs s) (x : Chg k r k') (hd : ∀ id ∈ s.ids, ¬ r id) : Apart o k' xs s :=
 ⟨a.sl.same fun id hid => x.keep id (a.lt id hid) (hd id hid), a.out, a.cap⟩
theorem StepV.then {h k k' : H} {p p' : Key → Cell} {r : Nat → Prop} (s : StepV h p k p') (x : Chg k r k') (hr : ∀ id, r id → h.length ≤ id) : StepV h p k' p' :=
 ⟨s.chg.trans x fun id hid h => by have := hr id h; omega, s.sub⟩
structure Mine (lo : Nat) (o : Nat → Prop) (k : H) (xs : List Int) (s : Cell) : Prop where
 a : Apart o k xs s
 wr : Wr k s
 ge : ∀ id ∈ s.ids, lo ≤ id
theorem Mine.chg {o o' : Nat → Prop} {k k' : H} {xs : List Int} {s : Cell} (m : Mine lo o k xs s) (x : Chg k o k') (hn : ∀ id, o' id → o id ∨ k.length ≤ id) : Mine lo o' k' xs s :=
 ⟨m.a.chg x hn, m.wr.same fun id hid => x.keep id (m.a.lt id hid) (m.a.out id hid), m.ge⟩
theorem Mine.step {p p' : Key → Cell} {k k' : H} {xs : List Int} {s : Cell} (a : Mine lo (Owned p) k xs s) (x : StepV k p k' p') : Mine lo (Owned p') k' xs s := a.chg x.chg x.sub
theorem Mine.ext {o : Nat → Prop} {k k' : H} {xs : List Int} {s : Cell} (a : Mine lo o k xs s) (x : Ext k k') : Mine lo o k' xs s :=
 ⟨a.a.ext x, a.wr.same fun id hid => x.2 id (a.a.lt id hid), a.ge⟩
theorem Mine.nils {o : Nat → Prop} {k : H} : Mine lo o k [] .nils := ⟨⟨⟨by simp, rfl⟩, by simp [Cell.ids], by simp⟩, fun id hid => by simp [Cell.ids] at hid, by simp [Cell.ids]⟩
structure MineApp (lo : Nat) (k : H) (s : Cell) (zs : List Int) (s' : Cell) (k' : H) : Prop where
 chg : Chg k (fun id => id ∈ s.ids) k'
 sl : Sl k' s' 1 encI zs
 wr : Wr k' s'
 ids : ∀ id ∈ s'.ids, id ∈ s.ids ∨ k.length ≤ id
 cap : ∀ id i n c, s' ≠ .sl id i n (some c)
theorem appendA_cap {k : H} {s : Cell} {es : Nat} {x : V} {s' : Cell} {k' : H} (hs : ∀ id i n c, s ≠ .sl id i n (some c)) (h : appendA es k (.c s) x = some (.c s', k')) : ∀ id i n c, s' ≠ .sl id i n (some c) := by
 unfold appendA at h
 split at h
 ·cases h
 ·split at h
  ·cases s with
   | nils => simp only at h; split at h <;> cases h <;> simp
   | sl id i len cap =>
    cases cap with
    | some c => exact absurd rfl (hs _ _ _ _)
    | none =>
     simp only at h
     split at h
     ·cases h
     ·split at h
      ·split at h
       ·cases h
       ·split at h <;> cases h <;> simp
      ·cases h
   | sle id i l =>
    simp only at h
    split at h
    ·cases h
    ·split at h
     ·cases h
     ·split at h
      ·split at h <;> cases h <;> simp
      ·cases h
   | _ => simp only at h; cases h
  ·cases h
theorem Mine.app {o : Nat → Prop} {k : H} {xs ys : List Int} {s t : Cell} (m : Mine lo o k xs s) (hT : Sl k t 1 encI ys) (ht : ∀ id i n c, t ≠ .sl id i n (some c)) (hl : xs.length + ys.length ≤ lenMost) :
  ∃ s' k', appendA 1 k (.c s) (.c t) = some (.c s', k') ∧ MineApp lo k s (xs ++ ys) s' k' := by
 obtain ⟨s', k', e, a⟩ := appendS_ok m.a.sl m.wr m.a.cap (hT.elemsOf ht) hT.1 hl
 exact ⟨s', k', e, ⟨a.len, fun id hid hn => a.keep id hid hn⟩, a.sl, a.wr, a.ids, appendA_cap m.a.cap e⟩
theorem MineApp.mine {o : Nat → Prop} {k k' : H} {xs zs : List Int} {s s' : Cell} (a : MineApp lo k s zs s' k') (m : Mine lo o k xs s) (ho : ∀ id, o id → id < k.length) (hl : lo ≤ k.length) : Mine lo o k' zs s' :=
 ⟨⟨a.sl, fun id hid h => by
  rcases a.ids id hid with h2 | h2
  ·exact m.a.out id h2 h
  ·have := ho id h; omega, a.cap⟩, a.wr, fun id hid => by
  rcases a.ids id hid with h2 | h2
  ·exact m.ge id h2
  ·omega⟩
theorem OwnK.owned_lt {p : Key → Cell} (o : OwnK lo h p) : ∀ id, Owned p id → id < h.length := fun id ⟨k, hid⟩ => o.lt (k := k) id hid
theorem Mine.app1 (hV : WorldV lo h w c cs cs) {xs : List Int} {s : Cell} {m : Nat} (a : Mine m (Owned (part c cs)) h xs s) (x : Int) (hl : xs.length + 1 ≤ lenMost) (hm : m ≤ h.length) :
  ∃ s' k', appendA 1 (h.push ⟨false, 1, [encI x]⟩) (.c s) (.c (.sl h.length 0 1 none)) = some (.c s', k') ∧ Mine m (Owned (part c cs)) k' (xs ++ [x]) s' ∧ WorldV lo k' w c cs cs ∧ Chg h (fun id => id ∈ s.ids) k' := by
 have e := Ext.push h ⟨false, 1, [x].map encI⟩
 have a1 := a.ext e
 have hT : Sl (h.push ⟨false, 1, [x].map encI⟩) (.sl h.length 0 [x].length none) 1 encI [x] := Sl.new (by simp) (by simp [sMost])
 obtain ⟨s', k', e1, b⟩ := a1.app (lo := m) hT (by simp) (by simpa using hl)
 have v1 := hV.ext e
 refine ⟨s', k', e1, b.mine a1 (fun id h => v1.own.owned_lt id h) (by simp; omega), v1.chg b.chg fun id ho hid => a1.a.out id hid ho, ?_⟩
 exact ⟨Nat.le_trans e.1 b.chg.len, fun id hid hn => by rw [b.chg.keep id (Nat.lt_of_lt_of_le hid e.1) hn, e.2 id hid]⟩
def unwatchTo (w : PWorld) (id : Int) (i : Nat) : PWorld := { w with runs := (w.runs.take i).map (unwatch id) ++ w.runs.drop i }
theorem unwatchTo_len {id : Int} {i : Nat} : (unwatchTo w id i).runs.length = w.runs.length := by simp [unwatchTo]; omega
theorem unwatchTo_get {id : Int} {i : Nat} (hi : i < w.runs.length) : (unwatchTo w id i).runs[i]? = some w.runs[i] := by
 simp only [unwatchTo]
 rw [List.getElem?_append_right (by simp; omega)]
 simp [hi, Nat.min_eq_left (Nat.le_of_lt hi)]
theorem unwatchTo_succ {id : Int} {i : Nat} (hi : i < w.runs.length) : { unwatchTo w id i with runs := (unwatchTo w id i).runs.set i (unwatch id w.runs[i]) } = unwatchTo w id (i + 1) := by
 have h1 : (w.runs.take i).length = i := by simp; omega
 simp only [unwatchTo]
 congr 1
 rw [List.set_append_right _ _ (by rw [List.length_map, h1]; exact Nat.le_refl _), List.length_map, h1, Nat.sub_self, List.drop_eq_getElem_cons hi, List.set_cons_zero, List.take_succ_eq_append_getElem hi, List.map_append, List.append_assoc]
 rfl
def OneQ (lo : Nat) (h : H) (p : Key → Cell) (w' : PWorld) (next : List Int) (x : V × H) : Prop :=
 ∃ k c' cs' s, x = (.t [.g (encW c'), .c s], k) ∧ WorldV lo k w' c' cs' cs' ∧ StepV h p k (part c' cs') ∧ Apart (Owned (part c' cs')) k next s
theorem _root_.Go.AM.Fresh.mine {zs : List Int} {s : Cell} {k : H} (f : Fresh h 1 encI zs s k) {o : Nat → Prop} (ho : ∀ id, o id → id < h.length) : Mine h.length o k zs s :=
 ⟨⟨f.sl, fun id hid h2 => by have := f.ids id hid; have := ho id h2; omega, f.un.1⟩, f.wr, f.ids⟩
theorem write_keep {h h' : H} {id i k : Nat} {cs : List Cell} (e : h.write id i k cs = some h') {q : Nat} (hq : q ≠ id) : h'.get q = h.get q := by
 unfold H.write at e
 split at e
 ·split at e
  ·split at e
   ·cases e; exact get_set_ne hq
   ·cases e
  ·cases e
 ·cases e
theorem WorldV.clear (hV : WorldV lo h w c cs cs) {i : Nat} (hi : i < w.runs.length) (why : PVal) {b1 b2 b3 : Blk} (e1 : b1 = ⟨false, 2, []⟩) (e2 : b2 = ⟨false, 1, []⟩) (e3 : b3 = ⟨false, 1, []⟩) :
    ∃ h', H.write (((h.push b1).push b2).push b3) (sid c.runs) (soff c.runs + i) 0 (encR { (cs[i]'(by have := hV.len; omega)) with mail := .sl h.length 0 0 none, links := .sl (h.length + 1) 0 0 none, watched := .sl (h.length + 1 + 1) 0 0 none, state := 3, due := 0, why := why }) = some h' ∧
      WorldV lo h' { w with runs := w.runs.set i (clearRun w.runs[i] why) } c (cs.set i { (cs[i]'(by have := hV.len; omega)) with mail := .sl h.length 0 0 none, links := .sl (h.length + 1) 0 0 none, watched := .sl (h.length + 1 + 1) 0 0 none, state := 3, due := 0, why := why }) (cs.set i { (cs[i]'(by have := hV.len; omega)) with mail := .sl h.length 0 0 none, links := .sl (h.length + 1) 0 0 none, watched := .sl (h.length + 1 + 1) 0 0 none, state := 3, due := 0, why := why }) ∧
      StepV h (part c cs) h' (part c (cs.set i { (cs[i]'(by have := hV.len; omega)) with mail := .sl h.length 0 0 none, links := .sl (h.length + 1) 0 0 none, watched := .sl (h.length + 1 + 1) 0 0 none, state := 3, due := 0, why := why })) ∧
      Chg h (Owned (part c cs)) h' ∧ (∀ id, Owned (part c (cs.set i { (cs[i]'(by have := hV.len; omega)) with mail := .sl h.length 0 0 none, links := .sl (h.length + 1) 0 0 none, watched := .sl (h.length + 1 + 1) 0 0 none, state := 3, due := 0, why := why })) id → (id ∉ (cs[i]'(by have := hV.len; omega)).links.ids ∧ id ∉ (cs[i]'(by have := hV.len; omega)).watched.ids)) ∧
      (∀ id, id ∈ (cs[i]'(by have := hV.len; omega)).links.ids ∨ id ∈ (cs[i]'(by have := hV.len; omega)).watched.ids → h'.get id = h.get id) := by
  subst e1 e2 e3
  have hi' : i < cs.length := by have := hV.len; omega
  have f1 := Fresh.empty h 2 encV
  obtain ⟨v1, g1⟩ := hV.newMail hi (s' := .sl h.length 0 0 none) (Chg.of_ext f1.ext _) f1.sl f1.wr f1.un (fun id hid => .inr (f1.ids id hid))
  have f2 := Fresh.empty (h.push ⟨false, 2, []⟩) 1 encI
  obtain ⟨v2, g2⟩ := v1.newLinks (i := i) (by simpa using hi) (s' := .sl (h.length + 1) 0 0 none) (Chg.of_ext f2.ext _) (by simpa using f2.sl) (by simpa using f2.wr) (by simpa using f2.un) (fun id hid => .inr (f2.ids id (by simpa using hid)))
  have f3 := Fresh.empty ((h.push ⟨false, 2, []⟩).push ⟨false, 1, []⟩) 1 encI
  obtain ⟨v3, g3⟩ := v2.newWatched (i := i) (by simpa using hi) (s' := .sl (h.length + 1 + 1) 0 0 none) (Chg.of_ext f3.ext _) (by simpa using f3.sl) (by simpa using f3.wr) (by simpa using f3.un) (fun id hid => .inr (f3.ids id (by simpa using hid)))
  simp only [List.set_set, List.getElem_set_self] at v1 v2 v3 g1 g2 g3
  have q := v3.each i (by simpa using hi)
  simp only [List.getElem_set_self] at q
  obtain ⟨v4, p4⟩ := v3.flat (i := i) (by simpa using hi) (r := clearRun w.runs[i] why) (r' := { cs[i] with mail := .sl h.length 0 0 none, links := .sl (h.length + 1) 0 0 none, watched := .sl (h.length + 1 + 1) 0 0 none, state := 3, due := 0, why := why })
    ⟨q.id, q.at_, q.slots, q.full, q.mail, rfl, rfl, q.links, q.watched, q.trap, rfl, q.turns⟩ (by simp) (by simp) (by simp) (by simp)
  simp only [List.set_set] at v4 p4
  obtain ⟨h5, e5, v5, g5⟩ := v4.lay (i := i) (by simpa using hi) (j := 0) (xs := encR { cs[i] with mail := .sl h.length 0 0 none, links := .sl (h.length + 1) 0 0 none, watched := .sl (h.length + 1 + 1) 0 0 none, state := 3, due := 0, why := why }) (r' := { cs[i] with mail := .sl h.length 0 0 none, links := .sl (h.length + 1) 0 0 none, watched := .sl (h.length + 1 + 1) 0 0 none, state := 3, due := 0, why := why }) (by simp [splice]) (by simp)
  have S : StepV h (part c cs) h5 (part c (cs.set i { cs[i] with mail := .sl h.length 0 0 none, links := .sl (h.length + 1) 0 0 none, watched := .sl (h.length + 1 + 1) 0 0 none, state := 3, due := 0, why := why })) := by
    rw [← p4] at g3
    exact g1.trans (g2.trans (g3.trans g5))
  have kept : ∀ id, id ∈ cs[i].links.ids ∨ id ∈ cs[i].watched.ids → h5.get id = h.get id := fun id hid => by
    have hk : ∃ key : Key, (key = .links i ∨ key = .watched i) ∧ id ∈ (part c cs key).ids := by
      rcases hid with h | h
      · exact ⟨.links i, .inl rfl, by simpa [part, fld_at hi'] using h⟩
      · exact ⟨.watched i, .inr rfl, by simpa [part, fld_at hi'] using h⟩
    obtain ⟨key, hkey, hin⟩ := hk
    have hlt := hV.own.lt id hin
    have hne : id ≠ sid c.runs := fun e => by
      have hr : id ∈ (part c cs .runs).ids := by
        show id ∈ c.runs.ids
        rw [hV.runs.ids_ne hi', e]; simp
      have := hV.own.one _ _ _ hin hr
      rcases hkey with rfl | rfl <;> cases this
    rw [write_keep e5 hne, get_push_lt (by simp; omega), get_push_lt (by simp; omega), get_push_lt hlt]
  refine ⟨h5, e5, v5, S, S.chg, fun id ho => ?_, kept⟩
  obtain ⟨k, hk⟩ := ho
  have ol := hV.own
  have key : ∀ {f : RunC → Cell} {key : Key}, part c cs key = f cs[i] → (key = .links i ∨ key = .watched i) → id ∉ (f cs[i]).ids := fun {f key} e hc hid => by
    have hlt : id < h.length := by have := ol.lt (k := key) id (by rw [e]; exact hid); exact this
    have h0 : id ∈ (part c cs key).ids := by rw [e]; exact hid
    have : k = key := by
      by_cases hm : k = .mail i ∨ k = .links i ∨ k = .watched i
      · rcases hm with rfl | rfl | rfl <;> simp [part, fld, hi', Cell.ids] at hk <;> omega
      · refine ol.one _ _ _ ?_ h0
        cases k with
        | code => exact hk
        | runs => exact hk
        | queue => exact hk
        | slots q => simp only [part, fld_set] at hk ⊢; split at hk
                     · rename_i e; obtain ⟨rfl, _⟩ := e; rw [fld_at hi']; exact hk
                     · exact hk
        | mail q => simp only [part, fld_set] at hk ⊢; split at hk
                    · rename_i e; obtain ⟨rfl, _⟩ := e; exact absurd (.inl rfl) hm
                    · exact hk
        | links q => simp only [part, fld_set] at hk ⊢; split at hk
                     · rename_i e; obtain ⟨rfl, _⟩ := e; exact absurd (.inr (.inl rfl)) hm
                     · exact hk
        | watched q => simp only [part, fld_set] at hk ⊢; split at hk
                       · rename_i e; obtain ⟨rfl, _⟩ := e; exact absurd (.inr (.inr rfl)) hm
                       · exact hk
    subst this
    rcases hc with rfl | rfl <;> simp [part, fld, hi', Cell.ids] at hk <;> omega
  exact ⟨key (f := (·.links)) (key := .links i) (fld_at hi') (.inl rfl), key (f := (·.watched)) (key := .watched i) (fld_at hi') (.inr rfl)⟩
theorem WorldV.layWatched (hV : WorldV lo h w c cs cs) {j : Nat} (hj : j < w.runs.length) {zs : List Int} {s : Cell} {k : H} (f : Fresh h 1 encI zs s k) :
  ∃ k', H.write k (sid c.runs) (soff c.runs + j) 8 [s] = some k' ∧ WorldV lo k' { w with runs := w.runs.set j { w.runs[j] with watched := zs } } c (cs.set j { (cs[j]'(by have := hV.len; omega)) with watched := s }) (cs.set j { (cs[j]'(by have := hV.len; omega)) with watched := s }) ∧
   StepV h (part c cs) k' (part c (cs.set j { (cs[j]'(by have := hV.len; omega)) with watched := s })) := by
 have hi' : j < cs.length := by have := hV.len; omega
 obtain ⟨v1, g1⟩ := hV.newWatched hj (Chg.of_ext f.ext _) f.sl f.wr f.un (fun id hid => .inr (f.ids id hid))
 obtain ⟨h5, e5, v5, g5⟩ := v1.lay (i := j) (by simpa using hj) (j := 8) (xs := [s]) (r' := { cs[j] with watched := s }) (by simp [splice]) (by simp)
 exact ⟨h5, e5, v5, g1.trans g5⟩
theorem WorldV.layLinks (hV : WorldV lo h w c cs cs) {j : Nat} (hj : j < w.runs.length) {zs : List Int} {s : Cell} {k : H} (f : Fresh h 1 encI zs s k) :
  ∃ k', H.write k (sid c.runs) (soff c.runs + j) 7 [s] = some k' ∧ WorldV lo k' { w with runs := w.runs.set j { w.runs[j] with links := zs } } c (cs.set j { (cs[j]'(by have := hV.len; omega)) with links := s }) (cs.set j { (cs[j]'(by have := hV.len; omega)) with links := s }) ∧
   StepV h (part c cs) k' (part c (cs.set j { (cs[j]'(by have := hV.len; omega)) with links := s })) := by
 have hi' : j < cs.length := by have := hV.len; omega
 obtain ⟨v1, g1⟩ := hV.newLinks hj (Chg.of_ext f.ext _) f.sl f.wr f.un (fun id hid => .inr (f.ids id hid))
 obtain ⟨h5, e5, v5, g5⟩ := v1.lay (i := j) (by simpa using hj) (j := 7) (xs := [s]) (r' := { cs[j] with links := s }) (by simp [splice]) (by simp)
 exact ⟨h5, e5, v5, g1.trans g5⟩
theorem WorldV.layMail (hV : WorldV lo h w c cs cs) {j : Nat} (hj : j < w.runs.length) {zs : List PVal} {s : Cell} {k : H} (f : Fresh h 2 encV zs s k) :
  ∃ k', H.write k (sid c.runs) (soff c.runs + j) 4 [s] = some k' ∧ WorldV lo k' { w with runs := w.runs.set j { w.runs[j] with mail := zs } } c (cs.set j { (cs[j]'(by have := hV.len; omega)) with mail := s }) (cs.set j { (cs[j]'(by have := hV.len; omega)) with mail := s }) ∧
   StepV h (part c cs) k' (part c (cs.set j { (cs[j]'(by have := hV.len; omega)) with mail := s })) := by
 have hi' : j < cs.length := by have := hV.len; omega
 obtain ⟨v1, g1⟩ := hV.newMail hj (Chg.of_ext f.ext _) f.sl f.wr f.un (fun id hid => .inr (f.ids id hid))
 obtain ⟨h5, e5, v5, g5⟩ := v1.lay (i := j) (by simpa using hj) (j := 4) (xs := [s]) (r' := { cs[j] with mail := s }) (by simp [splice]) (by simp)
 exact ⟨h5, e5, v5, g1.trans g5⟩
end Go.Proofs.YtmkiojlebjknlaaGreat
