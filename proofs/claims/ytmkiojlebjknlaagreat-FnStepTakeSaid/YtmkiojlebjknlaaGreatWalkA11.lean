/-
  What functions of the seat answer, each proved once; each under the condition that cells bear what it is given, as its statement says.
-/
import Derived.Test.YtmkiojlebjknlaaGreatWalkA8
import Derived.Test.YtmkiojlebjknlaaGreatWalkA7
set_option linter.all false
/-
 TurnTick, by the program: what it answers.
-/
set_option maxRecDepth 8000
namespace Go.Proofs.YtmkiojlebjknlaaGreat
open Go.AM
variable {h h' : H} {lo p : Nat} {w : PWorld} {c : WorldC} {st cs : List RunC}
theorem c_turnOk (hw : WorldR h w c cs) : Dz.den 61 [.g (encW c)] h = some (.c (.bool (tt (Room w))), h) := by
 refine den_plain rfl Tryz.func61 rfl rfl ?_
 have e := c_IWorldOk' hw
 simp only [encW, hw.sent] at e
 by_cases a : WorldOk w
 ·have a' : tt (WorldOk w) = true := by simpa using a
  rw [a'] at e
  simp [Tryz.f61, e, hw.sent, tt_eq, Room, a]
 ·have a' : tt (WorldOk w) = false := by simpa using a
  rw [a'] at e
  simp [Tryz.f61, e, hw.sent, tt_eq, Room, a]
def itickAt (w : PWorld) (i : Nat) : PWorld :=
 match w.runs[i]? with
 | some r => if r.state = 2 ∧ r.due = w.now then { w with runs := w.runs.set i { r with state := 1, due := -1 }, queue := w.queue ++ [r.id] } else w
 | none => w
def itickTo (w : PWorld) : Nat → PWorld
 | 0 => w
 | i + 1 => itickAt (itickTo w i) i
def itickP (w : PWorld) : PWorld := itickTo (if w.now < 250 then { w with now := w.now + 1 } else w) w.runs.length
theorem itickAt_len (w : PWorld) (i : Nat) : (itickAt w i).runs.length = w.runs.length ∧ (itickAt w i).queue.length ≤ w.queue.length + 1 ∧ (itickAt w i).now = w.now := by
 unfold itickAt
 split
 ·split <;> simp
 ·simp
theorem itickTo_len (w : PWorld) : ∀ i, (itickTo w i).runs.length = w.runs.length ∧ (itickTo w i).queue.length ≤ w.queue.length + i ∧ (itickTo w i).now = w.now
 | 0 => ⟨rfl, by simp [itickTo], rfl⟩
 | i + 1 => by
  obtain ⟨a, b, d⟩ := itickTo_len w i
  obtain ⟨a2, b2, d2⟩ := itickAt_len (itickTo w i) i
  exact ⟨by rw [itickTo, a2, a], by rw [itickTo]; omega, by rw [itickTo, d2, d]⟩
def IdsIn (w : PWorld) : Prop := ∀ (j : Nat) (r : PRun), w.runs[j]? = some r → r.id = (j : Int) + 1
theorem IdsIn.set {w : PWorld} (h : IdsIn w) {i : Nat} {r : PRun} (hr : w.runs[i]? = some r) {r' : PRun} (e : r'.id = r.id) {q : List Int} {n s t l : Int} {code : List POp} : IdsIn ⟨code, w.runs.set i r', q, n, s, t, l⟩ := fun j x hx => by
 simp only [List.getElem?_set] at hx
 split at hx
 ·rename_i e2; subst e2
  split at hx
  ·cases hx; rw [e]; exact h _ _ hr
  ·cases hx
 ·exact h _ _ hx
theorem tickTo_same {w : PWorld} (hid : IdsIn w) : ∀ i, itickTo w i = tickTo w i ∧ IdsIn (tickTo w i)
 | 0 => ⟨rfl, hid⟩
 | i + 1 => by
  obtain ⟨a, b⟩ := tickTo_same hid i
  rw [itickTo, tickTo, a]
  unfold itickAt tickAt
  cases hg : (tickTo w i).runs[i]? with
  | none => exact ⟨rfl, b⟩
  | some r =>
   simp only [b i r hg]
   refine ⟨trivial, ?_⟩
   split
   ·exact b.set hg (b i r hg).symm
   ·exact b
theorem itickTo_none {w : PWorld} (hn : ∀ i (hi : i < w.runs.length), ¬ (w.runs[i].state = 2 ∧ w.runs[i].due = w.now)) : ∀ i, itickTo w i = w
 | 0 => rfl
 | i + 1 => by
  rw [itickTo, itickTo_none hn i]
  unfold itickAt
  cases hg : w.runs[i]? with
  | none => rfl
  | some r =>
   obtain ⟨hi, rfl⟩ := List.getElem?_eq_some_iff.1 hg
   simp only [if_neg (hn i hi)]
theorem itick_same {w : PWorld} (hw : WorldOk w) : itickP w = tickP w := by
 unfold itickP tickP
 have hid : IdsIn w := fun i r hr => by
  obtain ⟨hi, rfl⟩ := List.getElem?_eq_some_iff.1 hr
  exact (hw.each i hi).id
 by_cases a : w.now < 250
 ·rw [if_pos a, if_neg (by omega)]
  exact (tickTo_same (w := { w with now := w.now + 1 }) hid _).1
 ·rw [if_neg a, if_pos (by omega)]
  refine itickTo_none (fun i hi hc => ?_) _
  have h1 := (hw.each i hi).wait hc.1
  have h0 := hw.now
  unfold WaitsOk at h1
  omega
set_option maxRecDepth 8000 in
set_option maxHeartbeats 1000000 in
theorem c_ITurnTick (hV : WorldV lo h w c cs cs) : @Wp _ (Dz.den 63 [.g (encW c)] h) ⟨CopyWQ h (turnTickP w)⟩ := by
 refine den_wp rfl Tryz.func63 rfl ?_
 have e := c_turnOk hV.rd
 simp only [encW] at e
 unfold turnTickP
 by_cases a : Room w
 ·have a' : tt (Room w) = true := by simpa using a
  rw [a'] at e ⊢
  rw [if_pos rfl, ← itick_same a.1]
  obtain ⟨_, e1, h1, c1, cs1, rfl, x1, v1⟩ := c_IWCopied hV a.1.le
  have v1p := v1.push ⟨false, 7, [encW c1]⟩
  have P1 : WorldP h.length (h1.push ⟨false, 7, [encW c1]⟩) h1.length w c1 cs1 := ⟨v1p, get_push_self, fun ⟨k, ho⟩ => by have := v1.own.lt _ ho; omega, v1.lo_le⟩
  have xp := x1.trans (Ext.push h1 ⟨false, 7, [encW c1]⟩)
  have es := alloc_store (h := h1) (z := zeroW) (cs := encW c1) (es := 7) rfl
  generalize hp : h1.length = p at P1 es
  generalize hK : h1.push ⟨false, 7, [encW c1]⟩ = K at *
  have hgp := P1.at_
  simp only [encW, zeroW] at e1 hK es
  simp [Tryz.f63, e, e1, hp, es, at_blk hgp]
  have hlen := v1p.len
  have hS := v1p.runs
  have hnw := v1.now
  have hw0 := a.1.now
  by_cases b : w.now < 250
  ·have b' : c1.now < 250 := by rw [hnw]; exact b
   have b2 : ¬ (250 : Int) ≤ c1.now := by omega
   have hw1 : IntKind.i64.wrap (c1.now + 1) = w.now + 1 := by rw [hnw]; exact wrap_i64 (by omega) (by omega)
   have vn := v1p.nums (w.now + 1) w.sent w.taken w.lost
   have hpc : part { c1 with now := w.now + 1, sent := w.sent, taken := w.taken, lost := w.lost } cs1 = part c1 cs1 := by funext k; cases k <;> rfl
   obtain ⟨K0, ew, P0, ch⟩ := vn.home (c0 := c1) hgp (by rw [hpc]; exact P1.out) P1.ge (j := 3) (xs := [.int .i64 (w.now + 1)]) (by simp [splice, v1.sent, v1.taken, v1.lost]) (by simp)
   have x0 : Ext h K0 := ⟨Nat.le_trans xp.1 ch.len, fun id hid => by rw [ch.keep id (Nat.lt_of_lt_of_le hid xp.1) (fun hh => by have := P1.ge; omega), xp.2 id hid]⟩
   generalize hc0 : ({ c1 with now := w.now + 1, sent := w.sent, taken := w.taken, lost := w.lost } : WorldC) = c0 at *
   unfold itickP
   rw [if_pos b]
   generalize hw0 : ({ w with now := w.now + 1 } : PWorld) = w0
   have P0 : WorldP h.length K0 p w0 c0 cs1 := by subst hw0; exact P0
   have hr0 : w.runs.length = w0.runs.length := by subst hw0; rfl
   have hq0 : w0.queue.length + w0.runs.length ≤ lenMost := by subst hw0; have := a.1.queue.len; have := a.1.many; unfold lenMost; simp only; omega
   rw [hr0]
   have hgp0 := P0.at_
   have hS0 := P0.v.runs
   have hl0 := P0.v.len
   simp [b', b2, hw1, ew, at_blk hgp0, hS0.lenA, hl0]
   refine count_wpG (σ := H × WorldC × List RunC) w0.runs.length (fun i g => ([.c (.ptr p 0 0), .c (ci w0.runs.length), .c (ci i)], [zeroW], [], g.1))
    (fun i g => WorldP h.length g.1 p (itickTo w0 i) g.2.1 g.2.2 ∧ Ext h g.1) (K0, c0, cs1) ?_ ⟨P0, x0⟩ ?_ ?_
   ·simp [zeroW]
   ·rintro i ⟨k, c2, cs2⟩ hi ⟨P, x⟩
    simp only at P x ⊢
    obtain ⟨tl, tq, tn⟩ := itickTo_len w0 i
    have hS1 := P.v.runs
    have hl1 := P.v.len
    have hi' : i < cs2.length := by omega
    have hiw : i < (itickTo w0 i).runs.length := by omega
    have hr := P.v.each i hiw
    have eAt : itickTo w0 (i + 1) = itickAt (itickTo w0 i) i := rfl
    generalize hwi : itickTo w0 i = wi at *
    have hg : wi.runs[i]? = some wi.runs[i] := List.getElem?_eq_getElem hiw
    have hst := hr.state
    have hdu := hr.due
    have hnw2 := P.v.now
    have hgp2 := P.at_
    rw [Wp_body]
    by_cases s2 : wi.runs[i].state = 2
    ·by_cases d2 : wi.runs[i].due = wi.now
     ·have s2' : cs2[i].state = 2 := by rw [hst, s2]
      have d2' : cs2[i].due = c2.now := by rw [hdu, d2, hnw2]
      obtain ⟨_, e3, k3, q3, rfl, P3, st3⟩ := c_wake P hiw (by omega)
      have eg : (wakeP wi i).runs = wi.runs.set i { wi.runs[i] with state := 1 } := by unfold wakeP; simp only [hg]
      obtain ⟨k4, e4, v4, st4⟩ := P3.v.put (i := i) (by rw [eg]; simpa using hiw) (j := 6) (xs := [.int .i64 (-1)]) (r := { wi.runs[i] with state := 1, due := -1 }) (r' := { cs2[i] with state := 1, due := -1 }) (by simp [splice, List.getElem?_eq_getElem hi']) (by simp) (fun _ q => by simp [eg, List.getElem?_eq_getElem hi'] at q; exact ⟨q.id, q.at_, q.slots, q.full, q.mail, q.state, rfl, q.links, q.watched, q.trap, q.why, q.turns⟩) (by simp [List.getElem?_eq_getElem hi']) (by simp [List.getElem?_eq_getElem hi']) (by simp [List.getElem?_eq_getElem hi']) (by simp [List.getElem?_eq_getElem hi'])
      simp [at_blk hgp2, hi, ixA_nat hS1, hi', hS1.at, s2', d2', e3, e4, wrap_succ (hS1.lt hi')]
      have P4 := P3.move v4 st4
      have S4 := st3.trans st4.toP
      have x4 : Ext h k4 := S4.ext (fun id ho => P.v.own.owned_ge id ho) P.ge x (Nat.le_refl _)
      have ew : wakeP wi i = { wi with runs := wi.runs.set i { wi.runs[i] with state := 1 }, queue := wi.queue ++ [wi.runs[i].id] } := by unfold wakeP; simp only [hg]
      have ei : itickTo w0 (i + 1) = { wi with runs := wi.runs.set i { wi.runs[i] with state := 1, due := -1 }, queue := wi.queue ++ [wi.runs[i].id] } := by
       rw [eAt]; unfold itickAt; simp only [hg, s2, d2, and_self, ↓reduceIte]
      rw [ew] at P4
      simp only [List.set_set] at P4
      rw [ei]
      exact ⟨by unfold LexOk; kernel_rfl, ⟨_, _, P4⟩, x4⟩
     ·have s2' : cs2[i].state = 2 := by rw [hst, s2]
      have d2' : ¬ cs2[i].due = c2.now := by rw [hdu, hnw2]; exact d2
      simp [at_blk hgp2, hi, ixA_nat hS1, hi', hS1.at, s2', d2', wrap_succ (hS1.lt hi')]
      refine ⟨by unfold LexOk; kernel_rfl, ⟨c2, cs2, ?_⟩, x⟩
      rw [eAt]
      unfold itickAt
      simp only [hg, d2, and_false, ↓reduceIte]
      exact P
    ·have s2' : ¬ cs2[i].state = 2 := by rw [hst]; exact s2
     simp [at_blk hgp2, hi, ixA_nat hS1, hi', hS1.at, s2', wrap_succ (hS1.lt hi')]
     refine ⟨by unfold LexOk; kernel_rfl, ⟨c2, cs2, ?_⟩, x⟩
     rw [eAt]
     unfold itickAt
     simp only [hg, s2, false_and, ↓reduceIte]
     exact P
   ·rintro ⟨k, c2, cs2⟩ ⟨P, x⟩
    simp only at P x ⊢
    have hgp2 := P.at_
    rw [Wp_body]
    simp [at_blk hgp2, zeroW]
    exact ⟨k, _, _, rfl, x, P.v⟩
  ·have b' : ¬ c1.now < 250 := by rw [hnw]; exact b
   have b2 : (250 : Int) ≤ c1.now := by omega
   unfold itickP
   rw [if_neg b]
   obtain ⟨w0, hw0⟩ : ∃ x, x = w := ⟨_, rfl⟩
   obtain ⟨c0, hc0⟩ : ∃ x, x = c1 := ⟨_, rfl⟩
   obtain ⟨K0, hK0⟩ : ∃ x, x = K := ⟨_, rfl⟩
   have P0 : WorldP h.length K0 p w0 c0 cs1 := by subst hw0; subst hc0; subst hK0; exact P1
   have x0 : Ext h K0 := by rw [hK0]; exact xp
   have hr0 : w.runs.length = w0.runs.length := by rw [hw0]
   have hq0 : w0.queue.length + w0.runs.length ≤ lenMost := by rw [hw0]; have := a.1.queue.len; have := a.1.many; unfold lenMost; omega
   have hS0 := P1.v.runs
   simp [b', b2, hS0.lenA, hlen]
   rw [hr0]
   rw [← hw0, ← hK0]
   refine count_wpG (σ := H × WorldC × List RunC) w0.runs.length (fun i g => ([.c (.ptr p 0 0), .c (ci w0.runs.length), .c (ci i)], [zeroW], [], g.1))
    (fun i g => WorldP h.length g.1 p (itickTo w0 i) g.2.1 g.2.2 ∧ Ext h g.1) (K0, c0, cs1) ?_ ⟨P0, x0⟩ ?_ ?_
   ·simp [zeroW]
   ·rintro i ⟨k, c2, cs2⟩ hi ⟨P, x⟩
    simp only at P x ⊢
    obtain ⟨tl, tq, tn⟩ := itickTo_len w0 i
    have hS1 := P.v.runs
    have hl1 := P.v.len
    have hi' : i < cs2.length := by omega
    have hiw : i < (itickTo w0 i).runs.length := by omega
    have hr := P.v.each i hiw
    have eAt : itickTo w0 (i + 1) = itickAt (itickTo w0 i) i := rfl
    generalize hwi : itickTo w0 i = wi at *
    have hg : wi.runs[i]? = some wi.runs[i] := List.getElem?_eq_getElem hiw
    have hst := hr.state
    have hdu := hr.due
    have hnw2 := P.v.now
    have hgp2 := P.at_
    rw [Wp_body]
    by_cases s2 : wi.runs[i].state = 2
    ·by_cases d2 : wi.runs[i].due = wi.now
     ·have s2' : cs2[i].state = 2 := by rw [hst, s2]
      have d2' : cs2[i].due = c2.now := by rw [hdu, d2, hnw2]
      obtain ⟨_, e3, k3, q3, rfl, P3, st3⟩ := c_wake P hiw (by omega)
      have eg : (wakeP wi i).runs = wi.runs.set i { wi.runs[i] with state := 1 } := by unfold wakeP; simp only [hg]
      obtain ⟨k4, e4, v4, st4⟩ := P3.v.put (i := i) (by rw [eg]; simpa using hiw) (j := 6) (xs := [.int .i64 (-1)]) (r := { wi.runs[i] with state := 1, due := -1 }) (r' := { cs2[i] with state := 1, due := -1 }) (by simp [splice, List.getElem?_eq_getElem hi']) (by simp) (fun _ q => by simp [eg, List.getElem?_eq_getElem hi'] at q; exact ⟨q.id, q.at_, q.slots, q.full, q.mail, q.state, rfl, q.links, q.watched, q.trap, q.why, q.turns⟩) (by simp [List.getElem?_eq_getElem hi']) (by simp [List.getElem?_eq_getElem hi']) (by simp [List.getElem?_eq_getElem hi']) (by simp [List.getElem?_eq_getElem hi'])
      simp [at_blk hgp2, hi, ixA_nat hS1, hi', hS1.at, s2', d2', e3, e4, wrap_succ (hS1.lt hi')]
      have P4 := P3.move v4 st4
      have S4 := st3.trans st4.toP
      have x4 : Ext h k4 := S4.ext (fun id ho => P.v.own.owned_ge id ho) P.ge x (Nat.le_refl _)
      have ew : wakeP wi i = { wi with runs := wi.runs.set i { wi.runs[i] with state := 1 }, queue := wi.queue ++ [wi.runs[i].id] } := by unfold wakeP; simp only [hg]
      have ei : itickTo w0 (i + 1) = { wi with runs := wi.runs.set i { wi.runs[i] with state := 1, due := -1 }, queue := wi.queue ++ [wi.runs[i].id] } := by
       rw [eAt]; unfold itickAt; simp only [hg, s2, d2, and_self, ↓reduceIte]
      rw [ew] at P4
      simp only [List.set_set] at P4
      rw [ei]
      exact ⟨by unfold LexOk; kernel_rfl, ⟨_, _, P4⟩, x4⟩
     ·have s2' : cs2[i].state = 2 := by rw [hst, s2]
      have d2' : ¬ cs2[i].due = c2.now := by rw [hdu, hnw2]; exact d2
      simp [at_blk hgp2, hi, ixA_nat hS1, hi', hS1.at, s2', d2', wrap_succ (hS1.lt hi')]
      refine ⟨by unfold LexOk; kernel_rfl, ⟨c2, cs2, ?_⟩, x⟩
      rw [eAt]
      unfold itickAt
      simp only [hg, d2, and_false, ↓reduceIte]
      exact P
    ·have s2' : ¬ cs2[i].state = 2 := by rw [hst]; exact s2
     simp [at_blk hgp2, hi, ixA_nat hS1, hi', hS1.at, s2', wrap_succ (hS1.lt hi')]
     refine ⟨by unfold LexOk; kernel_rfl, ⟨c2, cs2, ?_⟩, x⟩
     rw [eAt]
     unfold itickAt
     simp only [hg, s2, false_and, ↓reduceIte]
     exact P
   ·rintro ⟨k, c2, cs2⟩ ⟨P, x⟩
    simp only at P x ⊢
    have hgp2 := P.at_
    rw [Wp_body]
    simp [at_blk hgp2, zeroW]
    exact ⟨k, _, _, rfl, x, P.v⟩
 ·have a' : tt (Room w) = false := by simpa using a
  rw [a'] at e ⊢
  simp [Tryz.f63, e]
  exact ⟨h, _, _, rfl, Ext.refl _, emptyV h⟩
end Go.Proofs.YtmkiojlebjknlaaGreat

/-
 THE PROGRAM'S give: what it answers.
-/
set_option maxRecDepth 8000
namespace Go.Proofs.YtmkiojlebjknlaaGreat
open Go.AM
variable {h h' : H} {lo p : Nat} {w : PWorld} {c : WorldC} {st cs : List RunC}
def DoneQ (lo : Nat) (h : H) (p : Nat) (w' : PWorld) (c : WorldC) (cs : List RunC) (x : V × H) : Prop :=
 ∃ k c' cs', x = (.t [], k) ∧ WorldP lo k p w' c' cs' ∧ StepP h p (part c cs) k (part c' cs') ∧ c'.runs = c.runs
theorem Chg.stepP {q : Key → Cell} (ch : Chg h (fun id => id = p) h') : StepP h p q h' q := StepP.of_chg ch
structure SaneI (w : PWorld) : Prop where
 sane : Sane w
 ids : IdsIn w
 mail : ∀ r ∈ w.runs, r.mail.length ≤ 12
theorem numsPart (a b d e : Int) : part { c with now := a, sent := b, taken := d, lost := e } cs = part c cs := by funext k; cases k <;> rfl
set_option maxRecDepth 8000 in
set_option maxHeartbeats 1000000 in
theorem c_give (hP : WorldP lo h p w c cs) (hs : SaneI w) (id : Int) (v : PVal) (hv : valOk v = true) : @Wp _ (Dz.den 64 [.c (.ptr p 0 0), .c (.int .i64 id), .g (encV v)] h) ⟨DoneQ lo h p (giveP w id v) c cs⟩ := by
 refine den_wp rfl Tryz.func64 rfl ?_
 have hV := hP.v
 have hlen := hV.len
 obtain ⟨s1, s2⟩ := hs.sane.sent
 obtain ⟨l1, l2⟩ := hs.sane.lost
 have ws : IntKind.i64.wrap (c.sent + 1) = w.sent + 1 := by rw [hV.sent]; exact wrap_i64 (by omega) (by omega)
 have wl : IntKind.i64.wrap (w.lost + 1) = w.lost + 1 := wrap_i64 (by omega) (by omega)
 have hgp := hP.at_
 have v1 := hV.nums w.now (w.sent + 1) w.taken w.lost
 obtain ⟨h1, e1, P1, ch1⟩ := v1.home (c0 := c) hgp (by rw [numsPart]; exact hP.out) hP.ge (j := 4) (xs := [.int .i64 (w.sent + 1)]) (by simp [splice, hV.now, hV.taken, hV.lost]) (by simp)
 have s1' : StepP h p (part c cs) h1 (part c cs) := StepP.of_chg ch1
 generalize hc1 : ({ c with now := w.now, sent := w.sent + 1, taken := w.taken, lost := w.lost } : WorldC) = c1 at *
 have hp1 : part c1 cs = part c cs := by subst hc1; exact numsPart _ _ _ _
 have hr1 : c1.runs = c.runs := by subst hc1; rfl
 have hl1 : c1.lost = w.lost := by subst hc1; rfl
 have ea := c_alive (ro := false) P1.at_ P1.v.rd.runs id
 have hgp1 := P1.at_
 have ea' : Dz.den 47 [.c (.ptr p 0 0), .c (.int .i64 id)] h1 = some (.c (if aliveC w.runs id then .ptr (sid c1.runs) (soff c1.runs + (id - 1).toNat) 0 else .nilp), h1) := ea
 have lost : giveP w id v = { w with sent := w.sent + 1, lost := w.lost + 1 } → @Wp _ (h1.write p 0 6 [.int .i64 (w.lost + 1)]) ⟨fun h2 => DoneQ lo h p (giveP w id v) c cs (.t [], h2)⟩ := fun eg => by
  have v2 := P1.v.nums w.now (w.sent + 1) w.taken (w.lost + 1)
  obtain ⟨h2, e2, P2, ch2⟩ := v2.home (c0 := c1) hgp1 (by rw [numsPart]; exact P1.out) P1.ge (j := 6) (xs := [.int .i64 (w.lost + 1)]) (by subst hc1; simp [splice]) (by simp)
  refine ⟨h2, e2, h2, { c1 with now := w.now, sent := w.sent + 1, taken := w.taken, lost := w.lost + 1 }, cs, rfl, ?_, ?_, ?_⟩
  ·rw [eg]; exact P2
  ·have hp2 : part { c1 with now := w.now, sent := w.sent + 1, taken := w.taken, lost := w.lost + 1 } cs = part c cs := (numsPart _ _ _ _).trans hp1
   rw [hp2]
   exact s1'.trans (StepP.of_chg ch2)
  ·exact hr1
 by_cases al : aliveC w.runs id = true
 case neg =>
  have al' : aliveC w.runs id = false := by simpa using al
  rw [al'] at ea'
  have kk : ¬ Takes w id := fun k => al (by
   have := k.1; have := k.2.1
   simp only [aliveC, Bool.and_eq_true, decide_eq_true_eq]
   exact ⟨k.1, k.2.1⟩)
  have L := lost (by unfold giveP; rw [if_neg kk])
  obtain ⟨h2, e2, D⟩ := L
  simp [Tryz.f64, at_blk hgp, ws, e1, ea', at_blk hgp1, hl1, wl, e2]
  exact ⟨rfl, D⟩
 have al2 := al
 simp only [aliveC, Bool.and_eq_true, decide_eq_true_eq] at al2
 obtain ⟨ha, hst3⟩ := al2
 obtain ⟨i, rfl, hi, er, ei⟩ := runAt_eq ha
 rw [if_pos al, ei] at ea'
 have hi' : i < cs.length := by omega
 have hr := P1.v.each i hi
 have hS1 := P1.v.runs
 have hmail := hs.mail _ (List.getElem_mem hi)
 by_cases d : w.runs[i].mail.length < 12
 case neg =>
  have kk : ¬ Takes w (i + 1) := fun k => d (by have := k.2.2; rw [er] at this; exact this)
  obtain ⟨h2, e2, D⟩ := lost (by unfold giveP; rw [if_neg kk])
  have d' : w.runs[i].mail.length = 12 := by omega
  simp [Tryz.f64, at_blk hgp, ws, e1, ea', at_blk hgp1, hl1, wl, e2, hS1.at, hi', hr.mail.lenA, d']
  exact ⟨rfl, D⟩
 have kk : Takes w (i + 1) := ⟨ha, hst3, by rw [er]; exact d⟩
 have d' : ¬ (w.runs[i].mail.length : Int) = 12 := by omega
 have hst : cs[i].state = w.runs[i].state := hr.state
 have hid3 : w.runs[i].id = i + 1 := hs.ids i _ (List.getElem?_eq_getElem hi)
 obtain ⟨at0, at1⟩ := hs.sane.at_ _ (List.getElem_mem hi)
 obtain ⟨n, hn⟩ : ∃ n : Nat, w.runs[i].at_ = n := ⟨w.runs[i].at_.toNat, by omega⟩
 have hn1 : n < w.code.length := by omega
 have hat : cs[i].at_ = n := by rw [← hn]; exact hr.at_
 have hfit : (codeAt w w.runs[i].at_) = w.code[n] := by unfold codeAt; rw [hn]; simp [hn1]
 obtain ⟨m1, h2, e2, v2, g2⟩ := P1.v.mailApp (i := i) hi (ys := [v]) (by simp only [List.length_singleton]; show w.runs[i].mail.length + 1 ≤ _; unfold lenMost; omega)
 obtain ⟨h3, e3, v3, g3⟩ := v2.lay (i := i) (by simpa using hi) (j := 4) (xs := [m1]) (r' := { cs[i] with mail := m1 }) (by simp [splice]) (by simp)
 have P3 := P1.move v3 (g2.trans g3)
 have hgp3 := P3.at_
 have hS2 := v2.runs
 have hS3 := v3.runs
 have hcd3 := v3.code
 have s3 : StepP h p (part c cs) h3 (part c1 (cs.set i { cs[i] with mail := m1 })) := by
  have := (g2.trans g3).toP (p := p)
  rw [hp1] at this
  exact s1'.trans this
 have ap : ∀ b j m, j + m ≤ 7 → (h1.push b).cellsAt p 0 j m = some (((encW c1).drop j).take m) := fun b j m hk => at_blk (get_push_some hgp1) (by simpa using hk)
 have ap1 : ∀ b j m, j + m ≤ 13 → (h1.push b).cellsAt (sid c1.runs) (soff c1.runs + i) j m = some (((encR cs[i]).drop j).take m) := fun b j m hk => by
  have := (hS1.push b).at (n := i) hi' hk
  rwa [List.getElem?_eq_getElem hi', Option.getD_some] at this
 simp only [encR, List.map_cons, List.map_nil, encI, encV, List.length_cons, List.length_nil] at e2 e3
 by_cases f : Wakes w w.runs[i] v
 case pos =>
  obtain ⟨f1, f2⟩ := f
  rw [hfit] at f2
  have f1' : cs[i].state = 2 := by rw [hst, f1]
  have f3 : w.code[n].s = 0 ∨ v.k = w.code[n].s := by simpa [fits] using f2
  obtain ⟨_, e4, k4, q4, rfl, P4, s4⟩ := c_wake P3 (i := i) (by simpa using hi) (by have := hs.sane.queue; show w.queue.length + 1 ≤ _; unfold lenMost; omega)
  simp [Tryz.f64, at_blk hgp, ws, e1, ea', at_blk hgp1, hS1.at, hi', hr.mail.lenA, d', ap1, e2, e3, at_blk hgp3, hS3.at, hS2.at, f1', hat, hn1, ixA_nat hcd3, hcd3.at, f3, c_ValFits, hv, fits, e4]
  have eg : giveP w (i + 1) v = wakeP { w with now := w.now, sent := w.sent + 1, taken := w.taken, lost := w.lost, runs := w.runs.set i { w.runs[i] with mail := w.runs[i].mail ++ [v] } } i := by
   unfold giveP wakeP
   rw [if_pos kk, if_pos (by rw [er]; exact ⟨f1, by rw [hfit]; exact f2⟩), er, ei]
   simp [List.getElem?_set, hi, hid3]
  refine ⟨by kernel_rfl, by unfold LexOk; kernel_rfl, rfl, k4, { c1 with queue := q4 }, _, rfl, ?_, s3.trans s4, hr1⟩
  rw [eg]; exact P4
 case neg =>
  have eg : giveP w (i + 1) v = { w with now := w.now, sent := w.sent + 1, taken := w.taken, lost := w.lost, runs := w.runs.set i { w.runs[i] with mail := w.runs[i].mail ++ [v] } } := by
   unfold giveP
   rw [if_pos kk, if_neg (by rw [er]; exact f), er, ei]
  by_cases f1 : w.runs[i].state = 2
  ·have f1' : cs[i].state = 2 := by rw [hst, f1]
   have f3 : ¬ (w.code[n].s = 0 ∨ v.k = w.code[n].s) := fun hh => f ⟨f1, by rw [hfit]; simpa [fits] using hh⟩
   simp [Tryz.f64, at_blk hgp, ws, e1, ea', at_blk hgp1, hS1.at, hi', hr.mail.lenA, d', ap1, e2, e3, at_blk hgp3, hS3.at, hS2.at, f1', hat, hn1, ixA_nat hcd3, hcd3.at, f3, c_ValFits, hv, fits]
   refine ⟨by kernel_rfl, by unfold LexOk; kernel_rfl, rfl, h3, c1, _, rfl, ?_, s3, hr1⟩
   rw [eg]; exact P3
  ·have f1' : ¬ cs[i].state = 2 := by rw [hst]; exact f1
   simp [Tryz.f64, at_blk hgp, ws, e1, ea', at_blk hgp1, hS1.at, hi', hr.mail.lenA, d', ap1, e2, e3, at_blk hgp3, hS3.at, hS2.at, f1']
   refine ⟨by kernel_rfl, by unfold LexOk; kernel_rfl, rfl, h3, c1, _, rfl, ?_, s3, hr1⟩
   rw [eg]; exact P3
end Go.Proofs.YtmkiojlebjknlaaGreat
