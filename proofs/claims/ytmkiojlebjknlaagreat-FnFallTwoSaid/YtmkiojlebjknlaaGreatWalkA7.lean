/-
  What functions of the seat answer, each proved once; each under the condition that cells bear what it is given, as its statement says.
-/
import Derived.Test.YtmkiojlebjknlaaGreatWalkA6
set_option linter.all false
/-
 A COPY OF A WORLD, BY THE REFERENCE: what it answers.
-/
set_option maxRecDepth 8000
namespace Go.Proofs.YtmkiojlebjknlaaGreat
open Go.AM
variable {h h' : H} {lo : Nat} {w : PWorld} {c : WorldC} {st cs : List RunC}
structure WorldLe (w : PWorld) : Prop where
 code : w.code.length ≤ lenMost
 runs : w.runs.length + 1 ≤ lenMost
 queue : w.queue.length ≤ lenMost
 each : ∀ r ∈ w.runs, RunLe r
def CopyWQ (h : H) (w : PWorld) (x : V × H) : Prop := ∃ k c' cs', x = (.g (encW c'), k) ∧ Ext h k ∧ WorldV h.length k w c' cs' cs'
theorem WorldV.run_un (hV : WorldV lo h w c st cs) {i : Nat} (hi : i < cs.length) : ∀ f, Un (rpart cs[i] f)
 | 0 => by have := hV.own.un (.slots i); simpa [part, fld_at hi, rpart] using this
 | 1 => by have := hV.own.un (.mail i); simpa [part, fld_at hi, rpart] using this
 | 2 => by have := hV.own.un (.links i); simpa [part, fld_at hi, rpart] using this
 | 3 => by have := hV.own.un (.watched i); simpa [part, fld_at hi, rpart] using this
def onlyR (w : PWorld) (rs : List PRun) : PWorld := { w with code := [], runs := rs, queue := [] }
theorem WorldV.start (s : Cell) (hs : Fresh h 13 encR [] s h') : WorldV h.length h' (onlyR w []) ⟨.nils, s, .nils, w.now, w.sent, w.taken, w.lost⟩ [] [] := by
 have e : ∀ (f : RunC → Cell) i, fld [] i f = .nils := fun f i => by simp [fld]
 refine ⟨⟨by simp [onlyR], rfl⟩, hs.sl, rfl, rfl, fun i hi => by simp [onlyR] at hi, ⟨by simp [onlyR], rfl⟩, rfl, rfl, rfl, rfl, ⟨fun k id hid => ?_, fun k => ?_, fun k1 k2 id h1 h2 => ?_, fun k => ?_⟩, hs.ext.1⟩
 ·cases k <;> simp [part, e, Cell.ids] at hid
  exact hs.ids id hid
 ·cases k <;> first | exact hs.wr | (simp only [part, e]; exact fun id hid => by simp [Cell.ids] at hid)
 ·cases k1 <;> simp [part, e, Cell.ids] at h1
  cases k2 <;> simp [part, e, Cell.ids] at h2
  rfl
 ·cases k <;> first | exact hs.un | (simp only [part, e]; exact Un.nils)
def zeroW : List Cell := [.nils, .nils, .nils, .int .i64 0, .int .i64 0, .int .i64 0, .int .i64 0]
theorem onlyR_len {rs : List PRun} : (onlyR w rs).runs = rs := id rfl
set_option maxRecDepth 8000 in
set_option maxHeartbeats 1000000 in
theorem c_l12Copy (hV : WorldV lo h w c cs cs) (hl : WorldLe w) : @Wp _ (Dz.den 40 [.g (encW c)] h) ⟨CopyWQ h w⟩ := by
 refine den_wp rfl Tryz.func40 rfl ?_
 have hlen := hV.len
 have hS := hV.runs
 simp [Tryz.f40]
 refine count_wpG (σ := H × Cell × List RunC) w.runs.length (fun i g => ([.c g.2.1, .c (ci i)], [encW c, zeroW], [], g.1))
  (fun i g => WorldV h.length g.1 (onlyR w (w.runs.take i)) ⟨.nils, g.2.1, .nils, w.now, w.sent, w.taken, w.lost⟩ g.2.2 g.2.2 ∧ Ext h g.1)
  (h.push ⟨false, 13, []⟩, .sl h.length 0 0 none, []) rfl ⟨?_, Ext.push _ _⟩ ?_ ?_
 ·refine WorldV.start _ ⟨⟨by simp, rfl, by simp, _, get_push_self, rfl, by simp, rfl⟩, fun id hid => ?_, Un.new, Ext.push _ _, fun id hid => ?_⟩
  ·simp [Cell.ids] at hid; subst hid; exact ⟨_, get_push_self, rfl⟩
  ·simp [Cell.ids] at hid; omega
 ·rintro i ⟨k, s, csl⟩ hi ⟨v, x⟩
  simp only at v x ⊢
  have hi' : i < cs.length := by omega
  have hS' := hS.ext x
  obtain ⟨_, e, k1, c1, rfl, x1, q1, n1⟩ := c_l11Copy ((hV.each i hi).ext x) (hV.run_un hi') (hl.each _ (List.getElem_mem hi))
  have v1 := v.ext x1
  obtain ⟨s', k2, e2, v2, g2, d2⟩ := v1.addRun q1 ⟨fun f id hid => by have := n1.ge f id hid; have := x.1; omega, n1.wr, n1.one, n1.un⟩ (fun f id hid ⟨kk, ho⟩ => by have := n1.ge f id hid; have := v.own.lt id ho; omega) (by have := hl.runs; rw [onlyR_len, List.length_take]; omega)
  have x2 : Ext k1 k2 ∨ True := .inr trivial
  simp only [encR] at e e2
  rw [Wp_body]
  simp [hS'.lenA, hi', ixA_nat hS', hS'.at, e, e2, wrap_succ (hS.lt hi')]
  refine ⟨k2, s', ⟨rfl, rfl⟩, ⟨csl ++ [c1], ?_⟩, ?_⟩
  ·rw [List.take_succ_eq_append_getElem hi]; exact v2
  ·have y := x.trans x1
   exact ⟨Nat.le_trans y.1 g2.len, fun id hid => by rw [g2.keep id (Nat.lt_of_lt_of_le hid y.1) (fun ⟨kk, ho⟩ => by have := v1.own.ge kk id ho; omega), y.2 id hid]⟩
 ·rintro ⟨k, s, csl⟩ ⟨v, x⟩
  simp only at v x ⊢
  rw [List.take_length] at v
  have hS' := hS.ext x
  obtain ⟨s1, k1, e1, f1⟩ := (hV.code.ext x).cloneF (hV.own.un .code) hl.code
  obtain ⟨v1, g1⟩ := v.newCode f1
  have y1 := x.trans f1.ext
  obtain ⟨s2, k2, e2, f2⟩ := (hV.queue.ext y1).cloneF (hV.own.un .queue) hl.queue
  obtain ⟨v2, g2⟩ := v1.freshQueue f2
  rw [Wp_body]
  simp [hS'.lenA, hlen, e1, e2, zeroW]
  rw [hV.now, hV.sent, hV.taken, hV.lost]
  exact ⟨k2, ⟨s1, s, s2, w.now, w.sent, w.taken, w.lost⟩, csl, rfl, y1.trans f2.ext, v2⟩
end Go.Proofs.YtmkiojlebjknlaaGreat

/-
 A TICK OF TIME, BY THE REFERENCE: what it answers.
-/
set_option maxRecDepth 8000
namespace Go.Proofs.YtmkiojlebjknlaaGreat
open Go.AM
variable {h h' : H} {lo : Nat} {w : PWorld} {c : WorldC} {st cs : List RunC}
theorem WorldV.put (hV : WorldV lo h w c cs cs) {i : Nat} (hi : i < w.runs.length) {j : Nat} {xs : List Cell} {r : PRun} {r' : RunC} (hx : encR r' = splice (encR (cs[i]'(by have := hV.len; omega))) j xs) (hj : j + xs.length ≤ 13)
  (hr : ∀ k, RunR k w.runs[i] (cs[i]'(by have := hV.len; omega)) → RunR k r r') (h1 : r'.slots = (cs[i]'(by have := hV.len; omega)).slots) (h2 : r'.mail = (cs[i]'(by have := hV.len; omega)).mail) (h3 : r'.links = (cs[i]'(by have := hV.len; omega)).links) (h4 : r'.watched = (cs[i]'(by have := hV.len; omega)).watched) :
  ∃ h', h.write (sid c.runs) (soff c.runs + i) j xs = some h' ∧ WorldV lo h' { w with runs := w.runs.set i r } c (cs.set i r') (cs.set i r') ∧ StepV h (part c cs) h' (part c (cs.set i r')) := by
 obtain ⟨h', e, v, s⟩ := hV.lay hi hx hj
 obtain ⟨v2, hp⟩ := v.flat hi (hr _ (v.each i hi)) h1 h2 h3 h4
 exact ⟨h', e, v2, by rw [hp]; exact s⟩
def tickAt (w : PWorld) (i : Nat) : PWorld :=
 match w.runs[i]? with
 | some r => if r.state = 2 ∧ r.due = w.now then { w with runs := w.runs.set i { r with state := 1, due := -1 }, queue := w.queue ++ [(i : Int) + 1] } else w
 | none => w
def tickTo (w : PWorld) : Nat → PWorld
 | 0 => w
 | i + 1 => tickAt (tickTo w i) i
def tickP (w : PWorld) : PWorld := if 250 ≤ w.now then w else tickTo { w with now := w.now + 1 } w.runs.length
theorem tickAt_len (w : PWorld) (i : Nat) : (tickAt w i).runs.length = w.runs.length ∧ (tickAt w i).queue.length ≤ w.queue.length + 1 ∧ (tickAt w i).now = w.now := by
 unfold tickAt
 split
 ·split <;> simp
 ·simp
theorem tickTo_len (w : PWorld) : ∀ i, (tickTo w i).runs.length = w.runs.length ∧ (tickTo w i).queue.length ≤ w.queue.length + i ∧ (tickTo w i).now = w.now
 | 0 => ⟨rfl, by simp [tickTo], rfl⟩
 | i + 1 => by
  obtain ⟨a, b, d⟩ := tickTo_len w i
  obtain ⟨a2, b2, d2⟩ := tickAt_len (tickTo w i) i
  exact ⟨by rw [tickTo, a2, a], by rw [tickTo]; omega, by rw [tickTo, d2, d]⟩
def StepQ (lo : Nat) (h : H) (p : Key → Cell) (w' : PWorld) (x : V × H) : Prop := ∃ k c' cs', x = (.g (encW c'), k) ∧ WorldV lo k w' c' cs' cs' ∧ StepV h p k (part c' cs')
set_option maxRecDepth 8000 in
set_option maxHeartbeats 1000000 in
theorem c_l21Tick (hV : WorldV lo h w c cs cs) (hn : 0 ≤ w.now ∧ w.now ≤ 300) (hq : w.queue.length + w.runs.length ≤ lenMost) : @Wp _ (Dz.den 102 [.g (encW c)] h) ⟨StepQ lo h (part c cs) (tickP w)⟩ := by
 refine den_wp rfl Tryz.func102 rfl ?_
 have hnow := hV.now
 by_cases h250 : (250 : Int) ≤ w.now
 ·have h250' : (250 : Int) ≤ c.now := by rw [hnow]; exact h250
  simp [Tryz.f102, h250']
  refine ⟨h, c, cs, rfl, ?_, StepV.refl _ _⟩
  unfold tickP; rw [if_pos h250]; exact hV
 have h250' : ¬ (250 : Int) ≤ c.now := by rw [hnow]; exact h250
 have hw1 : IntKind.i64.wrap (c.now + 1) = w.now + 1 := by rw [hnow]; exact wrap_i64 (by omega) (by omega)
 unfold tickP
 rw [if_neg h250]
 simp [Tryz.f102, h250', hw1]
 have v0 := hV.nums (w.now + 1) w.sent w.taken w.lost
 have hpc : part { c with now := w.now + 1, sent := w.sent, taken := w.taken, lost := w.lost } cs = part c cs := by funext k; cases k <;> rfl
 generalize hw0 : ({ w with now := w.now + 1 } : PWorld) = w0
 have v0' : WorldV lo h w0 { c with now := w.now + 1, sent := w.sent, taken := w.taken, lost := w.lost } cs cs := by subst hw0; exact v0
 have hr0 : w.runs.length = w0.runs.length := by subst hw0; rfl
 have hq0 : w0.queue.length + w0.runs.length ≤ lenMost := by subst hw0; exact hq
 rw [hr0]
 refine count_wpG (σ := H × WorldC × List RunC) w0.runs.length (fun i g => ([.c (ci i)], [encW g.2.1, zeroW], [], g.1))
  (fun i g => WorldV lo g.1 (tickTo w0 i) g.2.1 g.2.2 g.2.2 ∧ StepV h (part c cs) g.1 (part g.2.1 g.2.2))
  (h, { c with now := w.now + 1, sent := w.sent, taken := w.taken, lost := w.lost }, cs) ?_ ⟨v0', by rw [hpc]; exact StepV.refl _ _⟩ ?_ ?_
 ·simp [zeroW, hV.sent, hV.taken, hV.lost]
 ·rintro i ⟨k, c1, cs1⟩ hi ⟨v, s⟩
  simp only at v s ⊢
  obtain ⟨tl, tq, tn⟩ := tickTo_len w0 i
  have hlen := v.len
  have hS := v.runs
  have hi' : i < cs1.length := by omega
  have hiw : i < (tickTo w0 i).runs.length := by omega
  have hr := v.each i hiw
  have eAt : tickTo w0 (i + 1) = tickAt (tickTo w0 i) i := rfl
  generalize hwi : tickTo w0 i = wi at *
  have hg : wi.runs[i]? = some wi.runs[i] := List.getElem?_eq_getElem hiw
  have hst := hr.state
  have hdu := hr.due
  have hnw := v.now
  rw [Wp_body]
  by_cases a : wi.runs[i].state = 2
  ·by_cases b : wi.runs[i].due = wi.now
   ·obtain ⟨k1, e1, v1, s1⟩ := v.put hiw (j := 5) (xs := [.int .i64 1]) (r := { wi.runs[i] with state := 1 }) (r' := { cs1[i] with state := 1 }) (by simp [splice]) (by simp) (fun _ q => ⟨q.id, q.at_, q.slots, q.full, q.mail, rfl, q.due, q.links, q.watched, q.trap, q.why, q.turns⟩) rfl rfl rfl rfl
    obtain ⟨k2, e2, v2, s2⟩ := v1.put (i := i) (by simpa using hiw) (j := 6) (xs := [.int .i64 (-1)]) (r := { wi.runs[i] with state := 1, due := -1 }) (r' := { cs1[i] with state := 1, due := -1 }) (by simp [splice]) (by simp) (fun _ q => by simp at q; exact ⟨q.id, q.at_, q.slots, q.full, q.mail, q.state, rfl, q.links, q.watched, q.trap, q.why, q.turns⟩) (by simp) (by simp) (by simp) (by simp)
    simp only [List.set_set] at v2 s2
    obtain ⟨q3, k3, e3, v3, s3⟩ := v2.queueApp (ys := [(i : Int) + 1]) (by simp only [List.length_singleton]; omega)
    have hS1 := v1.runs
    have hS2 := v2.runs
    have a' : cs1[i].state = 2 := by rw [hst, a]
    have b' : cs1[i].due = c1.now := by rw [hdu, b, hnw]
    simp only [List.map_cons, List.map_nil, encI, List.length_cons, List.length_nil] at e3
    simp [hS.lenA, hi', ixA_nat hS, hS.at, a', b', e1, ixA_nat hS1, e2, e3, wrap_succ (hS.lt hi')]
    refine ⟨by unfold LexOk; kernel_rfl, k3, { c1 with queue := q3 }, ⟨⟨rfl, rfl, rfl, rfl, rfl, rfl, rfl⟩, rfl⟩, _, ?_, s.trans (s1.trans (s2.trans s3))⟩
    rw [eAt]
    unfold tickAt
    simp only [hg, a, b, and_self, ↓reduceIte]
    exact v3
   ·have a' : cs1[i].state = 2 := by rw [hst, a]
    have b' : ¬ cs1[i].due = c1.now := by rw [hdu, hnw]; exact b
    simp [hS.lenA, hi', ixA_nat hS, hS.at, a', b', wrap_succ (hS.lt hi')]
    refine ⟨by unfold LexOk; kernel_rfl, k, c1, ⟨⟨rfl, rfl, rfl, rfl, rfl, rfl, rfl⟩, rfl⟩, cs1, ?_, s⟩
    rw [eAt]
    unfold tickAt
    simp only [hg, b, and_false, ↓reduceIte]
    exact v
  ·have a' : ¬ cs1[i].state = 2 := by rw [hst]; exact a
   simp [hS.lenA, hi', ixA_nat hS, hS.at, a', wrap_succ (hS.lt hi')]
   refine ⟨by unfold LexOk; kernel_rfl, k, c1, ⟨⟨rfl, rfl, rfl, rfl, rfl, rfl, rfl⟩, rfl⟩, cs1, ?_, s⟩
   rw [eAt]
   unfold tickAt
   simp only [hg, a, false_and, ↓reduceIte]
   exact v
 ·rintro ⟨k, c1, cs1⟩ ⟨v, s⟩
  simp only at v s ⊢
  obtain ⟨tl, tq, tn⟩ := tickTo_len w0 w0.runs.length
  have hlen := v.len
  have hS := v.runs
  rw [Wp_body]
  simp [hS.lenA, hlen, tl, zeroW]
  exact ⟨k, _, _, rfl, v, s⟩
end Go.Proofs.YtmkiojlebjknlaaGreat

/-
 TurnTick, by the reference: what it answers.
-/
set_option maxRecDepth 8000
namespace Go.Proofs.YtmkiojlebjknlaaGreat
open Go.AM
variable {h h' : H} {lo : Nat} {w : PWorld} {c : WorldC} {st cs : List RunC}
theorem WorldOk.le (hw : WorldOk w) : WorldLe w := by
 have h1 := hw.safe.ok
 simp only [codeOk, Bool.and_eq_true, decide_eq_true_eq] at h1
 have h2 := hw.many
 have h3 := hw.queue.len
 refine ⟨by unfold lenMost; omega, by unfold lenMost; omega, by unfold lenMost; omega, fun r hr => ?_⟩
 obtain ⟨i, hi, rfl⟩ := List.getElem_of_mem hr
 have q := (hw.each i hi).ok
 have l1 := q.links.len
 have l2 := q.watched.len
 have l3 := q.len
 have l4 := q.room
 exact ⟨by unfold lenMost; omega, by unfold lenMost; omega, by unfold lenMost; omega, by unfold lenMost; omega⟩
def Room (w : PWorld) : Prop := WorldOk w ∧ w.sent < 9000
def emptyW : PWorld := ⟨[], [], [], 0, 0, 0, 0⟩
theorem emptyV (h : H) : WorldV h.length h emptyW ⟨.nils, .nils, .nils, 0, 0, 0, 0⟩ [] [] := by
 have e : ∀ k, part ⟨.nils, .nils, .nils, 0, 0, 0, 0⟩ [] k = .nils := fun k => by cases k <;> simp [part, fld]
 refine ⟨⟨by simp [emptyW], rfl⟩, ⟨by simp, rfl⟩, rfl, rfl, fun i hi => by simp [emptyW] at hi, ⟨by simp [emptyW], rfl⟩, rfl, rfl, rfl, rfl, ⟨fun k id hid => ?_, fun k id hid => ?_, fun k1 k2 id h1 h2 => ?_, fun k => ?_⟩, Nat.le_refl _⟩
 ·rw [e] at hid; simp [Cell.ids] at hid
 ·rw [e] at hid; simp [Cell.ids] at hid
 ·rw [e] at h1; simp [Cell.ids] at h1
 ·rw [e]; exact Un.nils
theorem c_l21Room (hw : WorldR h w c cs) : Dz.den 67 [.g (encW c)] h = some (.c (.bool (tt (Room w))), h) := by
 refine den_plain rfl Tryz.func67 rfl rfl ?_
 have e := c_WorldOk hw
 simp only [encW, hw.sent] at e
 by_cases a : WorldOk w
 ·have a' : tt (WorldOk w) = true := by simpa using a
  rw [a'] at e
  simp [Tryz.f67, e, hw.sent, tt_eq, Room, a]
 ·have a' : tt (WorldOk w) = false := by simpa using a
  rw [a'] at e
  simp [Tryz.f67, e, hw.sent, tt_eq, Room, a]
noncomputable def turnTickP (w : PWorld) : PWorld := if tt (Room w) then tickP w else emptyW
theorem copy_step {h1 h2 : H} {c1 c2 : WorldC} {cs1 cs2 : List RunC} (x : Ext h h1) (v1 : WorldV h.length h1 w c1 cs1 cs1) (s : StepV h1 (part c1 cs1) h2 (part c2 cs2)) : Ext h h2 :=
 s.ext (fun id ho => v1.own.owned_ge id ho) x (Nat.le_refl _)
end Go.Proofs.YtmkiojlebjknlaaGreat

/-
 GIVING, ENDING, IN PLAIN DATA; what the reference's l12Give answers.
-/
set_option maxRecDepth 8000
namespace Go.Proofs.YtmkiojlebjknlaaGreat
open Go.AM
variable {h h' : H} {lo : Nat} {w : PWorld} {c : WorldC} {st cs : List RunC}
def runAt (w : PWorld) (id : Int) : PRun := w.runs[(id - 1).toNat]?.getD default
def setRun (w : PWorld) (id : Int) (r : PRun) : PWorld := { w with runs := w.runs.set (id - 1).toNat r }
def codeAt (w : PWorld) (at_ : Int) : POp := w.code[at_.toNat]?.getD default
def less (xs : List Int) (n : Int) : List Int := xs.filter (fun x => x ≠ n)
def Takes (w : PWorld) (id : Int) : Prop := (1 ≤ id ∧ id ≤ w.runs.length) ∧ (runAt w id).state ≠ 3 ∧ (runAt w id).mail.length < 12
instance (w : PWorld) (id : Int) : Decidable (Takes w id) := inferInstanceAs (Decidable (_ ∧ _))
def Wakes (w : PWorld) (r : PRun) (v : PVal) : Prop := r.state = 2 ∧ fits (codeAt w r.at_).s v = true
instance (w : PWorld) (r : PRun) (v : PVal) : Decidable (Wakes w r v) := inferInstanceAs (Decidable (_ ∧ _))
def giveP (w : PWorld) (id : Int) (v : PVal) : PWorld :=
 if Takes w id then
  if Wakes w (runAt w id) v then { w with sent := w.sent + 1, runs := w.runs.set (id - 1).toNat { runAt w id with mail := (runAt w id).mail ++ [v], state := 1 }, queue := w.queue ++ [id] }
  else { w with sent := w.sent + 1, runs := w.runs.set (id - 1).toNat { runAt w id with mail := (runAt w id).mail ++ [v] } }
 else { w with sent := w.sent + 1, lost := w.lost + 1 }
structure Sane (w : PWorld) : Prop where
 at_ : ∀ r ∈ w.runs, 0 ≤ r.at_ ∧ r.at_ < w.code.length
 sent : -4611686018427387904 ≤ w.sent ∧ w.sent ≤ 4611686018427387904
 lost : -4611686018427387904 ≤ w.lost ∧ w.lost ≤ 4611686018427387904
 queue : w.queue.length + 1 ≤ 2097152
 code : w.code.length ≤ 2097152
 runs : w.runs.length ≤ 2097152
theorem runAt_eq {id : Int} (h : 1 ≤ id ∧ id ≤ w.runs.length) : ∃ i : Nat, id = i + 1 ∧ ∃ hi : i < w.runs.length, runAt w id = w.runs[i] ∧ (id - 1).toNat = i := by
 obtain ⟨i, hi⟩ : ∃ i : Nat, id = i + 1 := ⟨(id - 1).toNat, by omega⟩
 have hl : i < w.runs.length := by omega
 refine ⟨i, hi, hl, ?_, by omega⟩
 unfold runAt
 rw [show (id - 1).toNat = i by omega, List.getElem?_eq_getElem hl, Option.getD_some]
set_option maxRecDepth 8000 in
set_option maxHeartbeats 1000000 in
theorem c_l12Give (hV : WorldV lo h w c cs cs) (hs : Sane w) (id : Int) (v : PVal) : @Wp _ (Dz.den 103 [.g (encW c), .c (.int .i64 id), .g (encV v)] h) ⟨StepQ lo h (part c cs) (giveP w id v)⟩ := by
 refine den_wp rfl Tryz.func103 rfl ?_
 have hS := hV.runs
 have hlen := hV.len
 have hcd := hV.code
 obtain ⟨s1, s2⟩ := hs.sent
 obtain ⟨l1, l2⟩ := hs.lost
 have ws : IntKind.i64.wrap (c.sent + 1) = w.sent + 1 := by rw [hV.sent]; exact wrap_i64 (by omega) (by omega)
 have wl : IntKind.i64.wrap (c.lost + 1) = w.lost + 1 := by rw [hV.lost]; exact wrap_i64 (by omega) (by omega)
 have hpc : ∀ (a b d e : Int), part { c with now := a, sent := b, taken := d, lost := e } cs = part c cs := fun a b d e => by funext k; cases k <;> rfl
 by_cases a : 1 ≤ id ∧ id ≤ w.runs.length
 case neg =>
  have kk : ¬ Takes w id := fun k => a k.1
  have v1 := hV.nums w.now (w.sent + 1) w.taken (w.lost + 1)
  unfold giveP; rw [if_neg kk]
  simp [Tryz.f103, ws, wl, hS.lenA, hlen, a]
  exact ⟨h, _, cs, by rw [hV.now, hV.taken]; rfl, v1, by rw [hpc]; exact StepV.refl _ _⟩
 obtain ⟨i, rfl, hi, er, ei⟩ := runAt_eq a
 have hi' : i < cs.length := by omega
 have hr := hV.each i hi
 have wi' : IntKind.i64.wrap (i : Int) = i := wrap_i64 (by omega) (by have := hs.runs; omega)
 have a1 : (1 : Int) ≤ i + 1 := a.1
 have a2 : (i : Int) + 1 ≤ w.runs.length := a.2
 have a3 : ¬ ((i : Int) + 1 < 1) := by omega
 have a4 : ¬ ((w.runs.length : Int) < i + 1) := by omega
 have hst := hr.state
 by_cases b : w.runs[i].state = 3
 case pos =>
  have kk : ¬ Takes w (i + 1) := fun k => k.2.1 (by rw [er]; exact b)
  have v1 := hV.nums w.now (w.sent + 1) w.taken (w.lost + 1)
  have b' : cs[i].state = 3 := by rw [hst, b]
  unfold giveP; rw [if_neg kk]
  simp [Tryz.f103, ws, wl, hS.lenA, hlen, a1, a2, a3, a4, hi, wi', hi', ixA_nat hS, hS.at, b']
  exact ⟨h, _, cs, by rw [hV.now, hV.taken]; rfl, v1, by rw [hpc]; exact StepV.refl _ _⟩
 have b' : ¬ cs[i].state = 3 := by rw [hst]; exact b
 by_cases d : w.runs[i].mail.length < 12
 case neg =>
  have kk : ¬ Takes w (i + 1) := fun k => d (by have := k.2.2; rw [er] at this; exact this)
  have v1 := hV.nums w.now (w.sent + 1) w.taken (w.lost + 1)
  have d' : (12 : Int) ≤ w.runs[i].mail.length := by omega
  unfold giveP; rw [if_neg kk]
  simp [Tryz.f103, ws, wl, hS.lenA, hlen, a1, a2, a3, a4, hi, wi', hi', ixA_nat hS, hS.at, b', hr.mail.lenA, d']
  exact ⟨h, _, cs, by rw [hV.now, hV.taken]; rfl, v1, by rw [hpc]; exact StepV.refl _ _⟩
 have d' : ¬ (12 : Int) ≤ w.runs[i].mail.length := by omega
 have kk : Takes w (i + 1) := ⟨a, by rw [er]; exact b, by rw [er]; exact d⟩
 obtain ⟨at0, at1⟩ := hs.at_ _ (List.getElem_mem hi)
 obtain ⟨n, hn⟩ : ∃ n : Nat, w.runs[i].at_ = n := ⟨w.runs[i].at_.toNat, by omega⟩
 have hn1 : n < w.code.length := by omega
 have hat : cs[i].at_ = n := by rw [hr.at_, hn]
 have hfit : (codeAt w w.runs[i].at_) = w.code[n] := by unfold codeAt; rw [hn]; simp [hn1]
 have v0 := hV.nums w.now (w.sent + 1) w.taken w.lost
 obtain ⟨m1, h1, e1, v1, g1⟩ := v0.mailApp (i := i) hi (ys := [v]) (by simp only [List.length_singleton]; show w.runs[i].mail.length + 1 ≤ _; unfold lenMost; omega)
 have hcd1 := v1.code
 by_cases f : Wakes w w.runs[i] v
 case pos =>
  obtain ⟨f1, f2⟩ := f
  rw [hfit] at f2
  have f1' : cs[i].state = 2 := by rw [hst, f1]
  have f3 : w.code[n].s = 0 ∨ v.k = w.code[n].s := by simpa [fits] using f2
  obtain ⟨v2, p2⟩ := v1.flat (i := i) (by simpa using hi) (r := { w.runs[i] with mail := w.runs[i].mail ++ [v], state := 1 }) (r' := { cs[i] with mail := m1, state := 1 }) (by have q := v1.each i (by simpa using hi); simp at q; exact ⟨q.id, q.at_, q.slots, q.full, q.mail, rfl, q.due, q.links, q.watched, q.trap, q.why, q.turns⟩) (by simp) (by simp) (by simp) (by simp)
  simp only [List.set_set] at v2 p2
  obtain ⟨q3, h3, e3, v3, g3⟩ := v2.queueApp (ys := [(i : Int) + 1]) (by have := hs.queue; simp only [List.length_singleton]; show w.queue.length + 1 ≤ _; unfold lenMost; omega)
  obtain ⟨h4, e4, v4, g4⟩ := v3.lay (i := i) (by simpa using hi) (j := 0) (xs := encR { cs[i] with mail := m1, state := 1 }) (r' := { cs[i] with mail := m1, state := 1 }) (by simp [splice]) (by simp)
  have hS3 := v3.runs
  simp only [encR, List.map_cons, List.map_nil, encI, encV, List.length_cons, List.length_nil, hat] at e1 e3 e4
  unfold giveP; rw [if_pos kk, if_pos (by rw [er]; exact ⟨f1, by rw [hfit]; exact f2⟩)]
  simp [Tryz.f103, ws, wl, hS.lenA, hlen, a1, a2, a3, a4, hi, wi', hi', ixA_nat hS, hS.at, b', hr.mail.lenA, d', e1, f1', hat, hn1, ixA_nat hcd1, hcd1.at, f3, e3, ixA_nat hS3, e4]
  rw [er, hV.now, hV.taken, hV.lost]
  rw [hpc] at g1
  rw [← p2] at g1
  exact ⟨by unfold LexOk; kernel_rfl, h4, ⟨c.code, c.runs, q3, w.now, w.sent + 1, w.taken, w.lost⟩, _, rfl, v4, g1.trans (g3.trans g4)⟩
 case neg =>
  obtain ⟨v2, p2⟩ := v1.flat (i := i) (by simpa using hi) (r := { w.runs[i] with mail := w.runs[i].mail ++ [v] }) (r' := { cs[i] with mail := m1 }) (by have q := v1.each i (by simpa using hi); simp at q; exact ⟨q.id, q.at_, q.slots, q.full, q.mail, q.state, q.due, q.links, q.watched, q.trap, q.why, q.turns⟩) (by simp) (by simp) (by simp) (by simp)
  simp only [List.set_set] at v2 p2
  obtain ⟨h4, e4, v4, g4⟩ := v2.lay (i := i) (by simpa using hi) (j := 0) (xs := encR { cs[i] with mail := m1 }) (r' := { cs[i] with mail := m1 }) (by simp [splice]) (by simp)
  have hS1 := v1.runs
  unfold giveP; rw [if_pos kk, if_neg (by rw [er]; exact f)]
  simp only [encR, List.map_cons, List.map_nil, encI, encV, List.length_cons, List.length_nil, hat] at e1 e4
  rw [er, ei]
  by_cases f1 : w.runs[i].state = 2
  ·have f1' : cs[i].state = 2 := by rw [hst, f1]
   have f3 : ¬ (w.code[n].s = 0 ∨ v.k = w.code[n].s) := fun hh => f ⟨f1, by rw [hfit]; simpa [fits] using hh⟩
   simp only [f1'] at e4
   simp [Tryz.f103, ws, wl, hS.lenA, hlen, a1, a2, a3, a4, hi, wi', hi', ixA_nat hS, hS.at, b', hr.mail.lenA, d', e1, f1', hat, hn1, ixA_nat hcd1, hcd1.at, f3, ixA_nat hS1, e4]
   rw [hpc] at g1
   rw [hV.now, hV.taken, hV.lost]
   exact ⟨by unfold LexOk; kernel_rfl, h4, ⟨c.code, c.runs, c.queue, w.now, w.sent + 1, w.taken, w.lost⟩, _, rfl, v4, g1.trans g4⟩
  ·have f1' : ¬ cs[i].state = 2 := by rw [hst]; exact f1
   simp [Tryz.f103, ws, wl, hS.lenA, hlen, a1, a2, a3, a4, hi, wi', hi', ixA_nat hS, hS.at, b', hr.mail.lenA, d', e1, f1', hat, ixA_nat hS1, e4]
   rw [hpc] at g1
   rw [hV.now, hV.taken, hV.lost]
   exact ⟨by unfold LexOk; kernel_rfl, h4, ⟨c.code, c.runs, c.queue, w.now, w.sent + 1, w.taken, w.lost⟩, _, rfl, v4, g1.trans g4⟩
end Go.Proofs.YtmkiojlebjknlaaGreat

/-
 WORLDS IN PLAIN DATA: what holds of a world between any two changes; giving keeps it.
-/
set_option maxRecDepth 8000
namespace Go.Proofs.YtmkiojlebjknlaaGreat
open Go.AM
variable {w : PWorld}
structure RunI (code : List POp) (now : Int) (n : Nat) (i : Nat) (r : PRun) : Prop where
 ok : RunOk r
 id : r.id = i + 1
 at_ : r.at_ < code.length
 wait : r.state = 2 → ((code[r.at_.toNat]?.getD default).kind = 7 ∧ r.due = 0 ∨ (code[r.at_.toNat]?.getD default).kind = 8 ∧ now < r.due) ∧ firstAt (fits (code[r.at_.toNat]?.getD default).s) r.mail < 0
 full : r.state ≠ 3 → 0 ≤ (fullR code)[r.at_.toNat]?.getD 0 ∧ both ((fullR code)[r.at_.toNat]?.getD 0) r.full = (fullR code)[r.at_.toNat]?.getD 0
 links : ∀ k ∈ r.links, k ≤ n
 watched : ∀ k ∈ r.watched, k ≤ n
def mailSum (rs : List PRun) : Int := (rs.map fun r => (r.mail.length : Int)).sum
def Going (rs : List PRun) (q : Int) : Prop := ∃ i : Nat, q = i + 1 ∧ ∃ r, rs[i]? = some r ∧ r.state = 1
structure Inv (w : PWorld) : Prop where
 safe : CodeSafe w.code
 many : 1 ≤ w.runs.length ∧ w.runs.length ≤ 6
 now : 0 ≤ w.now ∧ w.now ≤ 300
 nn : 0 ≤ w.sent ∧ 0 ≤ w.taken ∧ 0 ≤ w.lost
 queue : w.queue.Nodup
 mem : ∀ q, q ∈ w.queue ↔ Going w.runs q
 each : ∀ i r, w.runs[i]? = some r → RunI w.code w.now w.runs.length i r
 sum : w.sent = w.taken + w.lost + mailSum w.runs
theorem mailSum_set : ∀ {rs : List PRun} {i : Nat} {r r' : PRun}, rs[i]? = some r → mailSum (rs.set i r') = mailSum rs + r'.mail.length - r.mail.length
 | [], i, r, r', h => by simp at h
 | a :: rs, 0, r, r', h => by simp at h; subst h; simp [mailSum]; omega
 | a :: rs, i + 1, r, r', h => by
  have ih := mailSum_set (rs := rs) (i := i) (r' := r') (by simpa using h)
  simp only [mailSum, List.set_cons_succ, List.map_cons, List.sum_cons] at ih ⊢
  omega
theorem mailSum_nn : ∀ (rs : List PRun), 0 ≤ mailSum rs
 | [] => by simp [mailSum]
 | a :: rs => by have := mailSum_nn rs; simp only [mailSum, List.map_cons, List.sum_cons] at this ⊢; omega
theorem mailSum_app (a b : List PRun) : mailSum (a ++ b) = mailSum a + mailSum b := by simp [mailSum]
theorem mailTo_sum (w : PWorld) : ∀ i, i ≤ w.runs.length → (mailTo w i : Int) = mailSum (w.runs.take i)
 | 0, _ => by simp [mailTo, mailSum]
 | i + 1, h => by
  have ih := mailTo_sum w i (by omega)
  rw [List.take_succ_eq_append_getElem (by omega), mailSum_app]
  simp only [mailTo, mailSum, List.map_cons, List.map_nil, List.sum_cons, List.sum_nil] at ih ⊢
  rw [List.getElem?_eq_getElem (by omega), Option.getD_some]
  omega
theorem RunI.more {code : List POp} {now : Int} {n m i : Nat} {r : PRun} (h : RunI code now n i r) (hn : n ≤ m) : RunI code now m i r :=
 ⟨h.ok, h.id, h.at_, h.wait, h.full, fun k hk => by have := h.links k hk; omega, fun k hk => by have := h.watched k hk; omega⟩
theorem Inv.upd (I : Inv w) {i : Nat} {r r' : PRun} (hi : w.runs[i]? = some r) {q' : List Int} {s t l : Int} (hr : RunI w.code w.now w.runs.length i r') (hq : q'.Nodup)
  (hm : ∀ x, x ∈ q' ↔ (x ∈ w.queue ∧ x ≠ i + 1) ∨ (x = i + 1 ∧ r'.state = 1)) (hnn : 0 ≤ s ∧ 0 ≤ t ∧ 0 ≤ l) (hs : s - t - l = w.sent - w.taken - w.lost + r'.mail.length - r.mail.length) :
  Inv { w with runs := w.runs.set i r', queue := q', sent := s, taken := t, lost := l } := by
 have hl : i < w.runs.length := (List.getElem?_eq_some_iff.1 hi).1
 refine ⟨I.safe, by simpa using I.many, I.now, hnn, hq, fun x => ?_, fun j a ha => ?_, ?_⟩
 ·rw [hm, I.mem]
  constructor
  ·rintro (⟨⟨j, rfl, b, hb, hb1⟩, hne⟩ | ⟨rfl, h1⟩)
   ·exact ⟨j, rfl, b, by rw [List.getElem?_set_ne (by omega)]; exact hb, hb1⟩
   ·exact ⟨i, rfl, r', by simp [hl], h1⟩
  ·rintro ⟨j, rfl, b, hb, hb1⟩
   by_cases hj : i = j
   ·subst hj
    simp [hl] at hb; subst hb
    exact .inr ⟨rfl, hb1⟩
   ·rw [List.getElem?_set_ne hj] at hb
    exact .inl ⟨⟨j, rfl, b, hb, hb1⟩, by omega⟩
 ·simp only [List.length_set] at ha ⊢
  by_cases hj : i = j
  ·subst hj
   simp [hl] at ha; subst ha; exact hr
  ·rw [List.getElem?_set_ne hj] at ha
   exact I.each j a ha
 ·have := mailSum_set (r' := r') hi
  have hS := I.sum
  simp only
  omega
theorem Inv.run_mem (I : Inv w) {i : Nat} {r : PRun} (hi : w.runs[i]? = some r) : (i : Int) + 1 ∈ w.queue ↔ r.state = 1 := by
 rw [I.mem]
 constructor
 ·rintro ⟨j, hj, b, hb, h1⟩
  have : i = j := by omega
  subst this; rw [hi] at hb; cases hb; exact h1
 ·intro h; exact ⟨i, rfl, r, hi, h⟩
theorem Inv.q_same (I : Inv w) {i : Nat} {r r' : PRun} (hi : w.runs[i]? = some r) (h : r'.state = 1 ↔ r.state = 1) : ∀ x, x ∈ w.queue ↔ (x ∈ w.queue ∧ x ≠ i + 1) ∨ (x = i + 1 ∧ r'.state = 1) := fun x => by
 by_cases hx : x = i + 1
 ·subst hx; rw [I.run_mem hi, h]; simp
 ·simp [hx]
theorem Inv.q_app (I : Inv w) {i : Nat} {r r' : PRun} (hi : w.runs[i]? = some r) (h : r.state ≠ 1) (h' : r'.state = 1) : (w.queue ++ [(i : Int) + 1]).Nodup ∧ ∀ x, x ∈ w.queue ++ [(i : Int) + 1] ↔ (x ∈ w.queue ∧ x ≠ i + 1) ∨ (x = i + 1 ∧ r'.state = 1) := by
 have hn : ¬ (i : Int) + 1 ∈ w.queue := by rw [I.run_mem hi]; exact h
 refine ⟨List.nodup_append.2 ⟨I.queue, by simp, fun a ha b hb => by simp at hb; subst hb; intro e; subst e; exact hn ha⟩, fun x => ?_⟩
 simp only [List.mem_append, List.mem_singleton, h', and_true]
 constructor
 ·rintro (hx | hx)
  ·exact .inl ⟨hx, fun e => by subst e; exact hn hx⟩
  ·exact .inr hx
 ·rintro (hx | hx)
  ·exact .inl hx.1
  ·exact .inr hx
theorem mem_less {xs : List Int} {n x : Int} : x ∈ less xs n ↔ x ∈ xs ∧ x ≠ n := by simp [less]
theorem less_nodup {xs : List Int} {n : Int} (h : xs.Nodup) : (less xs n).Nodup := h.filter _
theorem Inv.q_less (I : Inv w) {i : Nat} {r' : PRun} (h' : r'.state ≠ 1) : (less w.queue (i + 1)).Nodup ∧ ∀ x, x ∈ less w.queue ((i : Int) + 1) ↔ (x ∈ w.queue ∧ x ≠ i + 1) ∨ (x = i + 1 ∧ r'.state = 1) :=
 ⟨less_nodup I.queue, fun x => by simp [mem_less, h']⟩
theorem Inv.run (I : Inv w) {id : Int} (h : 1 ≤ id ∧ id ≤ w.runs.length) : ∃ i : Nat, id = i + 1 ∧ (id - 1).toNat = i ∧ i < w.runs.length ∧ w.runs[i]? = some (runAt w id) ∧ RunI w.code w.now w.runs.length i (runAt w id) := by
 obtain ⟨i, e, hi, er, ei⟩ := runAt_eq h
 have hg : w.runs[i]? = some (runAt w id) := by rw [er]; exact List.getElem?_eq_getElem hi
 exact ⟨i, e, ei, hi, hg, I.each i _ hg⟩
theorem firstAt_app {α : Type} {p : α → Bool} {xs : List α} {v : α} (h : firstAt p xs < 0) (hv : p v = false) : firstAt p (xs ++ [v]) < 0 := by
 rw [firstAt_none]
 ·omega
 ·intro x hx
  have h0 : ∀ x ∈ xs, p x = false := by
   intro y hy
   unfold firstAt at h
   cases hf : xs.findIdx? p with
   | none => exact List.findIdx?_eq_none_iff.1 hf y hy
   | some i => rw [hf] at h; simp only at h; omega
  rcases List.mem_append.1 hx with hx | hx
  ·exact h0 x hx
  ·simp at hx; subst hx; exact hv
theorem Inv.give (I : Inv w) (id : Int) {v : PVal} (hv : valOk v = true) : Inv (giveP w id v) ∧ (giveP w id v).sent = w.sent + 1 := by
 obtain ⟨n1, n2, n3⟩ := I.nn
 unfold giveP
 split
 ·rename_i k
  obtain ⟨i, rfl, ei, hl, hg, R⟩ := I.run k.1
  obtain ⟨_, k2, k3⟩ := k
  generalize runAt w (↑i + 1) = r at *
  rw [ei]
  split
  ·rename_i f
   obtain ⟨f1, f2⟩ := f
   have Q := I.q_app (r' := { r with mail := r.mail ++ [v], state := 1 }) hg (by rw [f1]; decide) rfl
   refine ⟨I.upd (s := w.sent + 1) (t := w.taken) (l := w.lost) hg ⟨⟨R.ok.id, R.ok.at_, R.ok.len, R.ok.full, ?_, ?_, R.ok.due, R.ok.turns, R.ok.slots, ?_, R.ok.links, R.ok.watched, R.ok.why, ?_, ?_⟩, R.id, R.at_, ?_, ?_, R.links, R.watched⟩ Q.1 Q.2 ⟨by omega, n2, n3⟩ ?_, rfl⟩
   ·simp; omega
   ·simp
   ·intro x hx
    rcases List.mem_append.1 hx with hx | hx
    ·exact R.ok.mail x hx
    ·simp at hx; subst hx; exact hv
   ·intro h; simp at h
   ·intro _; exact R.ok.live k2
   ·intro h; simp at h
   ·intro _; exact R.full k2
   ·simp only [List.length_append, List.length_singleton]; omega
  ·rename_i f
   refine ⟨I.upd (s := w.sent + 1) (t := w.taken) (l := w.lost) hg ⟨⟨R.ok.id, R.ok.at_, R.ok.len, R.ok.full, ?_, R.ok.state, R.ok.due, R.ok.turns, R.ok.slots, ?_, R.ok.links, R.ok.watched, R.ok.why, ?_, R.ok.live⟩, R.id, R.at_, ?_, R.full, R.links, R.watched⟩ I.queue (I.q_same hg Iff.rfl) ⟨by omega, n2, n3⟩ ?_, rfl⟩
   ·simp; omega
   ·intro x hx
    rcases List.mem_append.1 hx with hx | hx
    ·exact R.ok.mail x hx
    ·simp at hx; subst hx; exact hv
   ·intro h; exact absurd h k2
   ·intro h
    have q := R.wait h
    refine ⟨q.1, firstAt_app q.2 ?_⟩
    cases hf : fits (w.code[r.at_.toNat]?.getD default).s v with
    | false => rfl
    | true => exact absurd ⟨h, hf⟩ f
   ·simp only [List.length_append, List.length_singleton]; omega
 ·refine ⟨⟨I.safe, I.many, I.now, ⟨by simp only; omega, n2, by simp only; omega⟩, I.queue, I.mem, I.each, ?_⟩, rfl⟩
  have := I.sum
  simp only
  omega
theorem giveP_len (w : PWorld) (id : Int) (v : PVal) : (giveP w id v).runs.length = w.runs.length ∧ (giveP w id v).code = w.code := by
 unfold giveP; split
 ·split <;> simp
 ·simp
end Go.Proofs.YtmkiojlebjknlaaGreat

/-
 COPIES, BY THE PROGRAM: what they answer.
-/
set_option maxRecDepth 8000
namespace Go.Proofs.YtmkiojlebjknlaaGreat
open Go.AM
variable {h h' : H} {lo : Nat} {w : PWorld} {c : WorldC} {st cs : List RunC}
theorem Fresh.of_nils {α : Type} {enc : α → List Cell} {ys : List α} {es : Nat} (hT : Sl h .nils es enc ys) : Fresh h es enc ys .nils h := by
 have : ys = [] := hT.2
 subst this; exact Fresh.nils _ _ _
theorem c_CloneI {t : Cell} {ys : List Int} (hT : Sl h t 1 encI ys) (hu : Un t) (hl : ys.length ≤ lenMost) : ∃ s' h', Dz.den 74 [.c t] h = some (.c s', h') ∧ Fresh h 1 encI ys s' h' := by
 have eq := hT.eqNil hu (T := TTz) (t := 25) ⟨_, rfl⟩
 by_cases ht : t = .nils
 ·subst ht
  refine ⟨.nils, h, ?_, Fresh.of_nils hT⟩
  rw [← Wp_eq]
  refine den_wp rfl Tryz.func74 rfl ?_
  simp [Tryz.f74, eq]
 ·obtain ⟨s', h', e, f⟩ := hT.cloneF hu hl
  refine ⟨s', h', ?_, f⟩
  rw [← Wp_eq]
  refine den_wp rfl Tryz.func74 rfl ?_
  simp [Tryz.f74, eq, ht, e]
theorem c_CloneO {t : Cell} {ys : List POp} (hT : Sl h t 6 encO ys) (hu : Un t) (hl : ys.length ≤ lenMost) : ∃ s' h', Dz.den 73 [.c t] h = some (.c s', h') ∧ Fresh h 6 encO ys s' h' := by
 have eq := hT.eqNil hu (T := TTz) (t := 23) ⟨_, rfl⟩
 by_cases ht : t = .nils
 ·subst ht
  refine ⟨.nils, h, ?_, Fresh.of_nils hT⟩
  rw [← Wp_eq]
  refine den_wp rfl Tryz.func73 rfl ?_
  simp [Tryz.f73, eq]
 ·obtain ⟨s', h', e, f⟩ := hT.cloneF hu hl
  refine ⟨s', h', ?_, f⟩
  rw [← Wp_eq]
  refine den_wp rfl Tryz.func73 rfl ?_
  simp [Tryz.f73, eq, ht, e]
theorem c_CloneV {t : Cell} {ys : List PVal} (hT : Sl h t 2 encV ys) (hu : Un t) (hl : ys.length ≤ lenMost) : ∃ s' h', Dz.den 122 [.c t] h = some (.c s', h') ∧ Fresh h 2 encV ys s' h' := by
 have eq := hT.eqNil hu (T := TTz) (t := 40) ⟨_, rfl⟩
 by_cases ht : t = .nils
 ·subst ht
  refine ⟨.nils, h, ?_, Fresh.of_nils hT⟩
  rw [← Wp_eq]
  refine den_wp rfl Tryz.func122 rfl ?_
  simp [Tryz.f122, eq]
 ·obtain ⟨s', h', e, f⟩ := hT.cloneF hu hl
  refine ⟨s', h', ?_, f⟩
  rw [← Wp_eq]
  refine den_wp rfl Tryz.func122 rfl ?_
  simp [Tryz.f122, eq, ht, e]
end Go.Proofs.YtmkiojlebjknlaaGreat

/-
 COPIES OF RUNS AND WORLDS, BY THE PROGRAM: what they answer.
-/
set_option maxRecDepth 8000
namespace Go.Proofs.YtmkiojlebjknlaaGreat
open Go.AM
variable {h h' : H} {lo : Nat} {w : PWorld} {c : WorldC} {st cs : List RunC}
set_option maxRecDepth 8000 in
theorem c_ICopied {r : PRun} {cr : RunC} (hr : RunR h r cr) (hu : ∀ f, Un (rpart cr f)) (hl : RunLe r) : @Wp _ (Dz.den 71 [.g (encR cr)] h) ⟨CopyQ h r⟩ := by
 refine den_wp rfl Tryz.func71 rfl ?_
 obtain ⟨s1, h1, e1, f1⟩ := c_CloneV hr.slots (hu 0) hl.1
 obtain ⟨s2, h2, e2, f2⟩ := c_CloneV (hr.mail.ext f1.ext) (hu 1) hl.2.1
 have x2 := f1.ext.trans f2.ext
 obtain ⟨s3, h3, e3, f3⟩ := c_CloneI (hr.links.ext x2) (hu 2) hl.2.2.1
 have x3 := x2.trans f3.ext
 obtain ⟨s4, h4, e4, f4⟩ := c_CloneI (hr.watched.ext x3) (hu 3) hl.2.2.2
 obtain ⟨x, q, n⟩ := run_of_fresh hr f1 f2 f3 f4
 simp [Tryz.f71, e1, e2, e3, e4]
 exact ⟨by kernel_rfl, by kernel_rfl, h4, _, rfl, x, q, n⟩
set_option maxRecDepth 8000 in
set_option maxHeartbeats 1000000 in
theorem c_IWCopied (hV : WorldV lo h w c cs cs) (hl : WorldLe w) : @Wp _ (Dz.den 35 [.g (encW c)] h) ⟨CopyWQ h w⟩ := by
 refine den_wp rfl Tryz.func35 rfl ?_
 have hlen := hV.len
 have hS := hV.runs
 simp [Tryz.f35, hS.lenA, hlen]
 refine count_wpG (σ := H × Cell × List RunC) w.runs.length (fun i g => ([.c g.2.1, .c c.runs, .c (ci w.runs.length), .c (ci i)], [encW c, zeroW], [], g.1))
  (fun i g => WorldV h.length g.1 (onlyR w (w.runs.take i)) ⟨.nils, g.2.1, .nils, w.now, w.sent, w.taken, w.lost⟩ g.2.2 g.2.2 ∧ Ext h g.1)
  (h, .nils, []) ?_ ⟨WorldV.start _ (Fresh.nils _ _ _), Ext.refl _⟩ ?_ ?_
 ·rfl
 ·rintro i ⟨k, s, csl⟩ hi ⟨v, x⟩
  simp only at v x ⊢
  have hi' : i < cs.length := by omega
  have hS' := hS.ext x
  obtain ⟨_, e, k1, c1, rfl, x1, q1, n1⟩ := c_ICopied ((hV.each i hi).ext x) (hV.run_un hi') (hl.each _ (List.getElem_mem hi))
  have v1 := v.ext x1
  obtain ⟨s', k2, e2, v2, g2, d2⟩ := v1.addRun q1 ⟨fun f id hid => by have := n1.ge f id hid; have := x.1; omega, n1.wr, n1.one, n1.un⟩ (fun f id hid ⟨kk, ho⟩ => by have := n1.ge f id hid; have := v.own.lt id ho; omega) (by have := hl.runs; rw [onlyR_len, List.length_take]; omega)
  simp only [encR] at e e2
  rw [Wp_body]
  simp [hS'.lenA, hi, hi', ixA_nat hS', hS'.at, e, e2, wrap_succ (hS.lt hi')]
  refine ⟨k2, s', ⟨rfl, rfl⟩, ⟨csl ++ [c1], ?_⟩, ?_⟩
  ·rw [List.take_succ_eq_append_getElem hi]; exact v2
  ·have y := x.trans x1
   exact ⟨Nat.le_trans y.1 g2.len, fun id hid => by rw [g2.keep id (Nat.lt_of_lt_of_le hid y.1) (fun ⟨kk, ho⟩ => by have := v1.own.ge kk id ho; omega), y.2 id hid]⟩
 ·rintro ⟨k, s, csl⟩ ⟨v, x⟩
  simp only at v x ⊢
  rw [List.take_length] at v
  have hS' := hS.ext x
  obtain ⟨s1, k1, e1, f1⟩ := c_CloneO (hV.code.ext x) (hV.own.un .code) hl.code
  obtain ⟨v1, g1⟩ := v.newCode f1
  have y1 := x.trans f1.ext
  obtain ⟨s2, k2, e2, f2⟩ := c_CloneI (hV.queue.ext y1) (hV.own.un .queue) hl.queue
  obtain ⟨v2, g2⟩ := v1.freshQueue f2
  rw [Wp_body]
  simp [hS'.lenA, hlen, e1, e2, zeroW]
  rw [hV.now, hV.sent, hV.taken, hV.lost]
  exact ⟨by kernel_rfl, k2, ⟨s1, s, s2, w.now, w.sent, w.taken, w.lost⟩, csl, rfl, y1.trans f2.ext, v2⟩
end Go.Proofs.YtmkiojlebjknlaaGreat
