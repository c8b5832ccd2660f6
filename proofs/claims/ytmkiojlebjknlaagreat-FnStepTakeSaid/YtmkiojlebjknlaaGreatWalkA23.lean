/-
  What functions of the seat answer, each proved once; each under the condition that cells bear what it is given, as its statement says.
-/
import Derived.Test.YtmkiojlebjknlaaGreatWalkA22
import Derived.Test.YtmkiojlebjknlaaGreatWalkA21
import Derived.Test.YtmkiojlebjknlaaGreatWalkA5
import Derived.Test.YtmkiojlebjknlaaGreatWalkA7
import Derived.Test.YtmkiojlebjknlaaGreatWalkA12
set_option linter.all false
/-
 WORLDS IN PLAIN DATA: how long is waited; whose turn it is.
-/
set_option maxRecDepth 8000
namespace Go.Proofs.YtmkiojlebjknlaaGreat
variable {w w' : PWorld} {id : Int}
def DI (n : Int) (w : PWorld) : Prop := ∀ r ∈ w.runs, r.due ≤ n
theorem DI.le {n m : Int} (d : DI n w) (h : n ≤ m) : DI m w := fun r hr => by have := d r hr; omega
theorem DI.set {n : Int} (d : DI n w) {i : Nat} {r' : PRun} (e : w'.runs = w.runs.set i r') (h : r'.due ≤ n) : DI n w' := fun r hr => by
 rw [e] at hr
 rcases List.mem_or_eq_of_mem_set hr with h1 | h1
 ·exact d r h1
 ·rw [h1]; exact h
theorem DI.wk {n : Int} (d : DI n w) (h0 : 0 ≤ n) {k : Int} (x : WK (fun _ => False) 0 k w w') : DI n w' := fun r hr => by
 obtain ⟨i, hi, rfl⟩ := List.mem_iff_getElem.1 hr
 have l := x.len2
 have hi' : i < w.runs.length := by omega
 obtain ⟨r', h1, q⟩ := x.each i _ (fun h => h) (List.getElem?_eq_getElem hi')
 have : w'.runs[i] = r' := by have := List.getElem?_eq_getElem hi; rw [h1] at this; simpa using this.symm
 rw [this]
 have := d _ (List.getElem_mem hi')
 rcases q.due with h | h <;> omega
theorem DI.at_ {n : Int} (d : DI n w) (hid : 1 ≤ id ∧ id ≤ w.runs.length) : (runAt w id).due ≤ n := d _ (List.mem_of_getElem? (runAt_in hid))
theorem step_due (G : Good w) (hid : 1 ≤ id ∧ id ≤ w.runs.length) (hg : (runAt w id).state = 1) {n : Int} (d : DI n w) (h0 : w.now + 99 ≤ n) : DI n (stepP w id) := by
 have I := G.inv
 obtain ⟨i, T⟩ := I.turn hid hg
 have now := I.now
 have n0 : 0 ≤ n := by omega
 have da := d.at_ hid
 have own : ∀ {r' : PRun}, r'.due ≤ n → DI n (setRun w id r') := fun h => d.set (i := (id - 1).toNat) rfl h
 have set : ∀ slot v, DI n (setP w id slot v) := fun slot v => own da
 have wait : ∀ {x}, x ≤ n → DI n (waitP w id x) := fun {x} h => d.set (i := (id - 1).toNat) (r' := { runAt w id with state := 2, due := x }) rfl h
 have fall : ∀ v, DI n (fallP w id v) := fun v => d.wk n0 (fall_wk (id := 0) w id v)
 unfold stepP
 simp only
 split
 ·exact set _ _
 split
 ·exact set _ _
 split
 ·split
  ·exact fall _
  ·exact set _ _
 split
 ·exact set _ _
 split
 ·unfold beginP
  split
  ·exact set _ _
  ·have a1 : DI n (addRunP w id (codeAt w (runAt w id).at_)) := fun r hr => by
    simp only [addRunP] at hr
    rcases List.mem_append.1 hr with h | h
    ·exact d r h
    ·simp at h; subst h; exact n0
   refine a1.set (i := (id - 1).toNat) rfl ?_
   have e : runAt (addRunP w id (codeAt w (runAt w id).at_)) id = runAt w id := by
    unfold runAt addRunP; simp only; rw [List.getElem?_append_left (by omega)]
   show (runAt (addRunP w id (codeAt w (runAt w id).at_)) id).due ≤ n
   rw [e]; exact da
 split
 ·rename_i k78
  unfold takeP
  split
  ·exact d.set (i := (id - 1).toNat) (r' := takeRun (runAt w id) _ _) rfl n0
  ·split
   ·exact wait n0
   ·rename_i k7
    split
    ·exact own n0
    ·refine wait ?_
     have ok := T.ok
     rw [← T.op, ← T.at_] at ok
     have := op_after ok (by rcases k78 with h | h; exact absurd h k7; exact h)
     omega
 split
 ·exact own da
 split
 ·exact own da
 split
 ·exact own da
 split
 ·exact fall _
 unfold otherP
 simp only
 have nx : DI n (setRun w id (nextRun (runAt w id))) := own da
 have gv : ∀ k v, DI n (giveP (setRun w id (nextRun (runAt w id))) k v) := fun k v => nx.wk n0 (give_wk (id := 0) _ _ _)
 split
 ·exact fall _
 split
 ·exact gv _ _
 split
 ·exact gv _ _
 split
 ·exact nx
 rename_i al
 have al' : Alive w (slotAt (runAt w id) (codeAt w (runAt w id).at_).r).n := Classical.byContradiction fun h => al (.inr h)
 have l1 : (setRun w id (nextRun (runAt w id))).runs.length = w.runs.length := setRun_len
 split
 ·exact nx.set (i := _) rfl (nx.at_ (by rw [l1]; exact al'.1))
 split
 ·unfold linkP
  simp only
  have n2 : DI n (setRun (setRun w id (nextRun (runAt w id))) id { runAt (setRun w id (nextRun (runAt w id))) id with links := (runAt (setRun w id (nextRun (runAt w id))) id).links ++ [(slotAt (runAt w id) (codeAt w (runAt w id).at_).r).n] }) :=
   nx.set (i := (id - 1).toNat) rfl (nx.at_ (by rw [l1]; exact hid))
  exact n2.set (i := _) rfl (n2.at_ (by rw [setRun_len, l1]; exact al'.1))
 exact nx
theorem steps_due {id : Int} {n : Int} : ∀ (m : Nat) {w : PWorld}, Good w → 1 ≤ id ∧ id ≤ w.runs.length → DI n w → w.now + 99 ≤ n → DI n (stepsP m w id)
 | 0, w, _, _, d, _ => d
 | m + 1, w, G, hid, d, h0 => by
  unfold stepsP
  split
  ·rename_i hg
   have S := G.stepG hid hg
   exact steps_due m S.g (by have := S.k.len; omega) (step_due G hid hg d h0) (by rw [S.k.now]; exact h0)
  ·exact d
theorem turn_due (G : Good w) {n : Int} (d : DI n w) (h0 : w.now + 99 ≤ n) : DI n (turnP w) := by
 unfold turnP
 split
 ·exact d
 ·rename_i hq
  obtain ⟨hid, h1⟩ := G.inv.head hq
  obtain ⟨C, e⟩ := G.countG hid
  have dc : DI n (countP' w (headQ w)) := d.set (i := (headQ w - 1).toNat) rfl (d.at_ hid)
  have ds := steps_due 3 (id := headQ w) C.g (by have := C.k.len; omega) dc (by rw [C.k.now]; exact h0)
  unfold backP
  split
  ·exact ds
  ·exact ds
theorem doP_due (G : Good w) (hn : w.now < 250) (d : DI (w.now + 99) w) (e : PEvent) : DI ((doP w e).now + 99) (doP w e) := by
 have nw := G.doNow e hn
 have now := G.inv.now
 have d2 : DI ((doP w e).now + 99) w := d.le (by rw [nw]; split <;> omega)
 have n0 : 0 ≤ (doP w e).now + 99 := by rw [nw]; split <;> omega
 have l0 : w.now + 99 ≤ (doP w e).now + 99 := by rw [nw]; split <;> omega
 generalize (doP w e).now + 99 = n at *
 unfold doP
 split
 ·exact turn_due G d2 l0
 split
 ·exact d2.wk n0 (tick_wk (id := 0) w)
 split
 ·split
  ·exact d2.wk n0 (give_wk (id := 0) w _ _)
  ·exact d2
 split
 ·split
  ·exact d2.wk n0 (fall_wk (id := 0) w _ _)
  ·exact d2
 exact d2
theorem playTo_due {code : List POp} (S : CodeSafe code) (evs : List PEvent) : ∀ i, i ≤ 100 → DI ((playTo code evs i).now + 99) (playTo code evs i)
 | 0, _ => fun r hr => by simp [playTo, newP] at hr; subst hr; simp [newRun, playTo, newP]
 | i + 1, h => by
  have ih := playTo_due S evs i (by omega)
  have nw := playTo_now S evs i (by omega)
  have := ticksTo_le evs i
  exact doP_due (playTo_good S evs i).1 (by omega) ih _
end Go.Proofs.YtmkiojlebjknlaaGreat

/-
 WHAT IS DRAWN: a world, some spoilt.
-/
set_option maxRecDepth 8000
namespace Go.Proofs.YtmkiojlebjknlaaGreat
open Go.AM
variable {h h' k : H} {p n m lo : Nat} {d : Cell} {bs : List Int} {w : PWorld} {c : WorldC} {st cs : List RunC}
theorem WorldV.recode (hV : WorldV lo h w c cs cs) {q : List POp} {s' : Cell} (o : OwnL lo h s' 6 encO q) (nd : ∀ id ∈ s'.ids, ¬ Owned (part c cs) id) : WorldV lo h { w with code := q } { c with code := s' } cs cs := by
 have hp : ∀ k', k' ≠ Key.code → part { c with code := s' } cs k' = part c cs k' := fun k' hk => by cases k' <;> first | rfl | exact absurd rfl hk
 have hc : part { c with code := s' } cs .code = s' := rfl
 refine ⟨o.sl, hV.runs, hV.stl, hV.len, hV.each, hV.queue, hV.now, hV.sent, hV.taken, hV.lost, ⟨fun K id hid => ?_, fun K => ?_, fun K1 K2 id h1 h2 => ?_, fun K => ?_⟩, hV.lo_le⟩
 ·by_cases hk : K = .code
  ·subst hk; exact o.ids id hid
  ·rw [hp K hk] at hid; exact hV.own.ge K id hid
 ·by_cases hk : K = .code
  ·subst hk; exact o.wr
  ·rw [hp K hk]; exact hV.own.wr K
 ·by_cases e1 : K1 = .code
  ·by_cases e2 : K2 = .code
   ·rw [e1, e2]
   ·subst e1; rw [hp K2 e2] at h2; exact absurd ⟨K2, h2⟩ (nd id h1)
  ·by_cases e2 : K2 = .code
   ·subst e2; rw [hp K1 e1] at h1; exact absurd ⟨K1, h1⟩ (nd id h2)
   ·rw [hp K1 e1] at h1; rw [hp K2 e2] at h2; exact hV.own.one K1 K2 id h1 h2
 ·by_cases hk : K = .code
  ·subst hk; exact o.un
  ·rw [hp K hk]; exact hV.own.un K
structure Seen (w : PWorld) : Prop where
 many : 1 ≤ w.runs.length ∧ w.runs.length ≤ 6
 sent : w.sent ≤ 2001
 now : 0 ≤ w.now ∧ w.now ≤ 44
 due : DI (w.now + 99) w
 turns : turnsOf w.runs ≤ 44
 queue : w.queue.length ≤ 7
theorem PlayD.seen {s t : Cell} {code : List POp} {evs : List PEvent} (D : PlayD lo k s t code evs w c cs) : Seen w := by
 have I := D.good.inv
 have few := D.few
 have nw := playTo_now D.safe evs evs.length (by omega)
 have tu := playTo_turns D.safe evs evs.length (by omega)
 have du := playTo_due D.safe evs evs.length (by omega)
 have l1 := ticksTo_le evs evs.length
 have l2 := turnsTo_le code evs evs.length
 rw [← D.eq] at nw tu du
 have q1 := queue_alive I
 have q2 := aliveN_le w.runs
 have many := I.many
 exact ⟨many, by have := D.sent; omega, by omega, du, by omega, by omega⟩
def SeenP (lo : Nat) (v : V) (k : H) : Prop := ∃ w c cs, v = .g (encW c) ∧ WorldV lo k w c cs cs ∧ Seen w
theorem Seen.first (S : Seen w) {r : PRun} (hd : r.due = (w.runs[0]'(by have := S.many; omega)).due) (ht : r.turns = (w.runs[0]'(by have := S.many; omega)).turns) : Seen { w with runs := w.runs.set 0 r } := by
 have h0 : 0 < w.runs.length := by have := S.many; omega
 refine ⟨by simpa using S.many, S.sent, S.now, S.due.set (i := 0) rfl (by rw [hd]; exact S.due _ (List.getElem_mem h0)), ?_, S.queue⟩
 have := turnsOf_set (r' := r) (List.getElem?_eq_getElem h0)
 have := S.turns
 simp only
 omega
set_option maxRecDepth 16000 in
set_option maxHeartbeats 4000000 in
theorem c_l72World (R : Rdr h p d bs n) (hn : n ≤ 90000) : @Wp _ (Dz.den 65 [.c (.ptr p 0 0)] h) ⟨DrawQ h p d bs n 3400 (SeenP h.length)⟩ := by
 refine den_wp rfl Tryz.func65 rfl ?_
 have hp := R.lt
 have hd := R.dlt
 obtain ⟨_, e1, _, k1, q1, rfl, ⟨s, t, code, evs, w, c, cs, rfl, D⟩, R1, hq1, ch1⟩ := c_l72Play R (by omega)
 obtain ⟨N, k2, e2, b2, R2, ch2⟩ := pick1 R1 (by omega) (m := 40) (by omega) (by omega)
 have v := D.world.chgp ch2 hp
 have C2 := ch1.pp ch2
 have S := D.seen
 have h0 : 0 < w.runs.length := by have := S.many; omega
 have h0' : 0 < cs.length := by have := v.len; omega
 have own := v.own.owned_ge
 have q6 : w.queue.length ≤ 6 := by have := queue_alive D.good.inv; have := aliveN_le w.runs; have := S.many; omega
 simp only [encW] at e1
 have fin : ∀ (g : H) (q : Nat) (w' : PWorld) (c' : WorldC) (cs' : List RunC), Rdr g p d bs q → q ≤ n + 3400 → Chg h (fun id => id = p) g → WorldV h.length g w' c' cs' cs' → Seen w' → ∀ r : V × H, r = (.g (encW c'), g) → DrawQ h p d bs n 3400 (SeenP h.length) r :=
  fun g q w' c' cs' Rg hq cg vg sg r hr => ⟨_, g, q, hr, ⟨w', c', cs', rfl, vg, sg⟩, Rg, hq, cg⟩
 have keep : ∀ {g : H} {o : Nat → Prop}, Chg k2 o g → (∀ id, id < k2.length → o id → h.length ≤ id) → Rdr g p d bs (q1 + 1) ∧ Chg h (fun id => id = p) g := fun {g o} cg ho =>
  ⟨R2.keeps (o := fun id => o id ∧ id < k2.length) ⟨cg.len, fun id hid hn => cg.keep id hid fun hh => hn ⟨hh, hid⟩⟩ (fun hh => by have := ho p hh.2 hh.1; omega) fun id hid hh => by have := ho id hh.2 hh.1; have := hd id hid; omega,
   ⟨Nat.le_trans C2.len cg.len, fun id hid hne => by rw [cg.keep id (Nat.lt_of_lt_of_le hid C2.len) (fun hh => by have := ho id (Nat.lt_of_lt_of_le hid C2.len) hh; omega), C2.keep id hid hne]⟩⟩
 by_cases y0 : N = 0
 ·subst y0
  simp at e2
  obtain ⟨s', k3, e3, G⟩ := v.queue.append_new (v.own.wr .queue) (v.own.un .queue) (ys := [1]) (by simp [encI]) (by have := S.queue; unfold lenMost; simp; omega)
  obtain ⟨v3, _⟩ := v.newQueue G.chg G.sl G.wr G.un G.ids
  obtain ⟨R3, C3⟩ := keep G.chg fun id _ hid => own id ⟨.queue, hid⟩
  simp [encI] at e3
  simp [Tryz.f65, e1, e2, e3]
  exact fin k3 (q1 + 1) { w with queue := w.queue ++ [1] } { c with queue := s' } cs R3 (by omega) C3 v3 ⟨S.many, S.sent, S.now, S.due, S.turns, by simp; omega⟩ _ rfl
 have y0' : ¬ (N : Int) = 0 := by omega
 by_cases y1 : N = 1
 ·subst y1
  simp at e2
  have ws : IntKind.i64.wrap (c.sent + 1) = w.sent + 1 := by rw [v.sent]; exact wrapS (by have := D.good.inv.nn; omega) (by have := S.sent; omega)
  have v3 := v.nums w.now (w.sent + 1) w.taken w.lost
  have so := D.sent
  simp [Tryz.f65, e1, e2, ws]
  exact fin k2 (q1 + 1) { w with sent := w.sent + 1 } _ cs R2 (by omega) C2 v3 ⟨S.many, by simp only; omega, S.now, S.due, S.turns, S.queue⟩ _ (by simp [v.now, v.taken, v.lost])
 have y1' : ¬ (N : Int) = 1 := by omega
 by_cases y2 : N = 2
 ·subst y2
  simp at e2
  obtain ⟨x, k3, e3, b3, R3, ch3⟩ := pick1 R2 (by omega) (m := 3) (by omega) (by omega)
  have v3 := v.chgp ch3 hp
  have wx : IntKind.i64.wrap (1 + (x : Int)) = 1 + (x : Int) := wrapS (by omega) (by omega)
  obtain ⟨k4, e4, v4, s4⟩ := v3.put (i := 0) h0 (j := 5) (xs := [.int .i64 (1 + (x : Int))]) (r := { w.runs[0] with state := 1 + (x : Int) }) (r' := { cs[0] with state := 1 + (x : Int) }) (by simp [splice]) (by simp) (fun _ q => ⟨q.id, q.at_, q.slots, q.full, q.mail, rfl, q.due, q.links, q.watched, q.trap, q.why, q.turns⟩) rfl rfl rfl rfl
  simp at e4
  have i0 := ixA_nat v3.runs (T := TTz) (e := 42) (k := .i64) (n := 0) rfl rfl h0'
  simp at i0
  obtain ⟨R4, C4⟩ := (show Rdr k4 p d bs (q1 + 1 + 1) ∧ Chg h (fun id => id = p) k4 from
   ⟨R3.keeps s4.chg (fun hh => by have := v3.own.owned_ge p hh; omega) fun id hid hh => by have := v3.own.owned_ge id hh; have := hd id hid; omega,
    ⟨Nat.le_trans (C2.pp ch3).len s4.chg.len, fun id hid hne => by rw [s4.chg.keep id (Nat.lt_of_lt_of_le hid (C2.pp ch3).len) (fun hh => by have := v3.own.owned_ge id hh; omega), (C2.pp ch3).keep id hid hne]⟩⟩)
  simp [Tryz.f65, e1, e2, e3, wx, i0, e4]
  exact ⟨by kernel_rfl, fin k4 (q1 + 1 + 1) _ _ _ R4 (by omega) C4 v4 (S.first rfl rfl) _ rfl⟩
 have y2' : ¬ (N : Int) = 2 := by omega
 by_cases y3 : N = 3
 ·subst y3
  simp at e2
  have F : Fresh k2 1 encI [2] (.sl k2.length 0 1 none) (k2.push ⟨false, 1, [encI 2]⟩) := by
   have o := OwnL.new (enc := encI) (es := 1) k2 [2] (by simp [encI]) (by simp [sMost])
   exact ⟨o.sl, o.wr, o.un, Ext.push _ _, o.ids⟩
  obtain ⟨k4, e4, v4, s4⟩ := v.layLinks (j := 0) h0 F
  simp [encI] at e4
  have S3 := v.runs.ext (Ext.push k2 ⟨false, 1, [encI 2]⟩)
  have i0 := ixA_nat S3 (T := TTz) (e := 42) (k := .i64) (n := 0) rfl rfl h0'
  simp [encI] at i0
  obtain ⟨R4, C4⟩ := keep s4.chg fun id _ hid => own id hid
  simp [Tryz.f65, e1, e2, i0, e4]
  exact fin k4 (q1 + 1) _ _ _ R4 (by omega) C4 v4 (S.first rfl rfl) _ rfl
 have y3' : ¬ (N : Int) = 3 := by omega
 by_cases y4 : N = 4
 ·subst y4
  simp at e2
  obtain ⟨_, e3, _, k3, q3, rfl, ⟨s3, code3, rfl, o3, g4, g5⟩, R3, hq3, ch3⟩ := c_l71Random R2 (by omega)
  have v3 := v.chgp ch3 hp
  have v4 := v3.recode (o3.low C2.len) fun id hid ho => by have := o3.ids id hid; have := v.own.owned_lt id ho; omega
  simp [Tryz.f65, e1, e2, e3]
  exact fin k3 q3 { w with code := code3 } { c with code := s3 } cs R3 (by omega) (C2.pp ch3) v4 ⟨S.many, S.sent, S.now, S.due, S.turns, S.queue⟩ _ rfl
 have y4' : ¬ (N : Int) = 4 := by omega
 simp [Tryz.f65, e1, e2, y0, y0', y1, y1', y2, y2', y3, y3', y4, y4']
 exact fin k2 _ w c cs R2 (by omega) C2 v S _ rfl
end Go.Proofs.YtmkiojlebjknlaaGreat

/-
 WHAT IS DRAWN: worlds for steps, turns, ticks.
-/
set_option maxRecDepth 8000
namespace Go.Proofs.YtmkiojlebjknlaaGreat
open Go.AM
variable {h h' k : H} {p n m lo : Nat} {d : Cell} {bs : List Int} {w : PWorld} {c : WorldC} {cs : List RunC} {s : Cell}
def DrawnW (h : H) (x : V × H) : Prop := ∃ k w c cs, x = (.g (encW c), k) ∧ Ext h k ∧ WorldV h.length k w c cs cs ∧ Seen w
theorem world1 (R : Rdr h p d bs n) (hn : n ≤ 90000) : ∃ w c cs k m, Dz.den 65 [.c (.ptr p 0 0)] h = some (.g (encW c), k) ∧ WorldV h.length k w c cs cs ∧ Seen w ∧ Rdr k p d bs m ∧ m ≤ n + 3400 ∧ Chg h (fun id => id = p) k := by
 obtain ⟨_, e, _, k, m, rfl, ⟨w, c, cs, rfl, v, S⟩, R1, hm, c1⟩ := c_l72World R hn
 exact ⟨w, c, cs, k, m, e, v, S, R1, hm, c1⟩
theorem open_ext {k1 k2 : H} (x : Ext h k1) (hp : h.length < k1.length) (c : Chg k1 (fun id => id = h.length) k2) : Ext h k2 :=
 ⟨Nat.le_trans x.1 c.len, fun id hid => by rw [c.keep id (by omega) (by omega), x.2 id hid]⟩
set_option maxRecDepth 16000 in
set_option maxHeartbeats 2000000 in
theorem c_DrawTurnStep (hS : BytesA h s bs) : @Wp _ (Dz.den 24 [.c s] h) ⟨DrawnW h⟩ := by
 refine den_wp rfl Tryz.func24 rfl ?_
 obtain ⟨_, e1, k1, d, bs1, rfl, x1, R1⟩ := c_l6Open hS
 obtain ⟨w, c, cs, k2, q2, e2, v2, S2, R2, hq2, ch2⟩ := world1 R1 (by omega)
 have hp := R1.lt
 have l1 := x1.1
 simp only [encW] at e2
 simp [Tryz.f24, e1, e2]
 refine count_wpG (σ := H × WorldC × List RunC × PWorld × Nat) 4 (fun i g => ([.c (.ptr h.length 0 0), .c (ci i)], [zeroW, encW g.2.1], [], g.1))
  (fun i g => WorldV k1.length g.1 g.2.2.2.1 g.2.1 g.2.2.1 g.2.2.1 ∧ Seen g.2.2.2.1 ∧ Rdr g.1 h.length d bs1 g.2.2.2.2 ∧ g.2.2.2.2 ≤ 3400 + 3500 * i ∧ Chg k1 (fun id => id = h.length) g.1) (k2, c, cs, w, q2) (by simp [zeroW])
  ⟨v2, S2, R2, by simp only; omega, ch2⟩ ?_ ?_
 ·rintro i ⟨g, c, cs, w, q⟩ hi ⟨v, S, R, hq, cg⟩
  simp only at v S R hq cg ⊢
  have hi' : (i : Int) < 4 := by omega
  have wj : IntKind.i64.wrap ((i : Int) + 1) = (i : Int) + 1 := wrapS (by omega) (by omega)
  obtain ⟨N, k3, e3, b3, R3, ch3⟩ := pick1 R (by omega) (m := 8) (by omega) (by omega)
  have v4 := v.chgp ch3 hp
  have l3 : k1.length ≤ k3.length := Nat.le_trans cg.len ch3.len
  obtain ⟨w5, c5, cs5, k5, q5, e5, v5, S5, R5, hq5, ch5⟩ := world1 R3 (by omega)
  have qL := v4.rd.queue.lenA (e := 3)
  simp only [encW] at e5
  rw [Wp_body]
  by_cases z : N = 0
  ·subst z
   simp at e3
   simp [hi', e3]
   exact ⟨by simp [zeroW], k3, w, c, cs, rfl, open_ext x1 hp (cg.pp ch3), v4.low l1, S⟩
  ·have z' : 0 < N := by omega
   by_cases y : w.queue = []
   ·rw [y] at qL
    simp [hi', e3, z', qL, e5, wj]
    exact ⟨k5, c5, ⟨⟨rfl, rfl, rfl, rfl, rfl, rfl, rfl⟩, rfl⟩, cs5, w5, v5.low l3, S5, q5, R5, by omega, (cg.pp ch3).trans ch5 fun _ _ hh => hh⟩
   ·have y' : ¬ w.queue.length = 0 := by intro hh; exact y (List.length_eq_zero_iff.1 hh)
    simp [hi', e3, z', qL, y, y']
    exact ⟨by simp [zeroW], k3, w, c, cs, rfl, open_ext x1 hp (cg.pp ch3), v4.low l1, S⟩
 ·rintro ⟨g, c, cs, w, q⟩ ⟨v, S, R, hq, cg⟩
  simp only at v S R hq cg ⊢
  rw [Wp_body]
  simp [zeroW]
  exact ⟨g, w, c, cs, rfl, open_ext x1 hp cg, v.low l1, S⟩
end Go.Proofs.YtmkiojlebjknlaaGreat

/-
 THE LAWS' FUNCTIONS THAT LOOK AT WORLDS: what they answer.
-/
set_option maxRecDepth 8000
namespace Go.Proofs.YtmkiojlebjknlaaGreat
open Go.AM
variable {h : H}
theorem c_lvInts {s t : Cell} {xs ys : List Int} (hS : Sl h s 1 encI xs) (hT : Sl h t 1 encI ys) : Dz.den 27 [.c s, .c t] h = some (.c (.bool (decide (xs = ys))), h) := by
 refine den_plain rfl Tryz.func27 rfl rfl ?_
 by_cases hl : xs.length = ys.length
 rotate_left
 ·have hl' : ¬ ((xs.length : Int) = ys.length) := by omega
  have hne : ¬ xs = ys := fun e => hl (by rw [e])
  simp [Tryz.f27, hS.lenA, hT.lenA, hl', hne]
 simp [Tryz.f27, hS.lenA, hT.lenA, hl]
 refine count_wp ys.length (fun i => ([.c s, .c t, .c (.bool false), .c (ci i)], [], [], h)) (fun i => xs.take i = ys.take i) rfl (by simp) ?_ ?_
 ·intro i hi hP
  have hi' : i < xs.length := by omega
  rw [Wp_body]
  simp [hS.lenA, hi, hi', ixA_nat hS, hS.at, ixA_nat hT, hT.at, wrap_succ (hS.lt hi'), eq_take_succ hi' hi, hP, hl]
  exact ⟨by unfold LexOk; kernel_rfl, fun e => ne_of_get hi' hi e⟩
 ·intro hP
  rw [← hl, List.take_length] at hP
  rw [Wp_body]
  simp [hS.lenA, hl]
  rw [hP, hl, List.take_length]
theorem c_lvVals {s t : Cell} {xs ys : List PVal} (hS : Sl h s 2 encV xs) (hT : Sl h t 2 encV ys) : Dz.den 30 [.c s, .c t] h = some (.c (.bool (decide (xs = ys))), h) := by
 refine den_plain rfl Tryz.func30 rfl rfl ?_
 by_cases hl : xs.length = ys.length
 rotate_left
 ·have hl' : ¬ ((xs.length : Int) = ys.length) := by omega
  have hne : ¬ xs = ys := fun e => hl (by rw [e])
  simp [Tryz.f30, hS.lenA, hT.lenA, hl', hne]
 simp [Tryz.f30, hS.lenA, hT.lenA, hl]
 refine count_wp ys.length (fun i => ([.c s, .c t, .c (.bool false), .c (ci i)], [], [], h)) (fun i => xs.take i = ys.take i) rfl (by simp) ?_ ?_
 ·intro i hi hP
  have hi' : i < xs.length := by omega
  rw [Wp_body]
  simp [hS.lenA, hi, hi', ixA_nat hS, hS.at, ixA_nat hT, hT.at, wrap_succ (hS.lt hi'), eq_take_succ hi' hi, hP, hl]
  refine ⟨by unfold LexOk; kernel_rfl, fun e => ne_of_get hi' hi fun q => by rw [q] at e; simp at e, fun e1 e2 => ?_⟩
  cases hx : xs[i]; cases hy : ys[i]; rw [hx, hy] at e1 e2; simp at e1 e2; rw [e1, e2]
 ·intro hP
  rw [← hl, List.take_length] at hP
  rw [Wp_body]
  simp [hS.lenA, hl]
  rw [hP, hl, List.take_length]
theorem c_lvOps {s t : Cell} {xs ys : List POp} (hS : Sl h s 6 encO xs) (hT : Sl h t 6 encO ys) : Dz.den 37 [.c s, .c t] h = some (.c (.bool (decide (xs = ys))), h) := by
 refine den_plain rfl Tryz.func37 rfl rfl ?_
 by_cases hl : xs.length = ys.length
 rotate_left
 ·have hl' : ¬ ((xs.length : Int) = ys.length) := by omega
  have hne : ¬ xs = ys := fun e => hl (by rw [e])
  simp [Tryz.f37, hS.lenA, hT.lenA, hl', hne]
 simp [Tryz.f37, hS.lenA, hT.lenA, hl]
 refine count_wp ys.length (fun i => ([.c s, .c t, .c (.bool false), .c (ci i)], [], [], h)) (fun i => xs.take i = ys.take i) rfl (by simp) ?_ ?_
 ·intro i hi hP
  have hi' : i < xs.length := by omega
  have ip : intPair TTz 29 = true := by kernel_rfl
  have ip2 : isIntT TTz 3 = true := by kernel_rfl
  rw [Wp_body]
  simp [hS.lenA, hi, hi', ixA_nat hS, hS.at, ixA_nat hT, hT.at, wrap_succ (hS.lt hi'), eq_take_succ hi' hi, hP, hl, ip, ip2]
  have op : ∀ {a b : POp}, a.kind = b.kind → a.r = b.r → a.s = b.s → a.to = b.to → a.v.k = b.v.k → a.v.n = b.v.n → a = b := by
   rintro ⟨_, _, _, _, ⟨_, _⟩⟩ ⟨_, _, _, _, ⟨_, _⟩⟩ rfl rfl rfl rfl rfl rfl; rfl
  exact ⟨by unfold LexOk; kernel_rfl, ⟨fun e => ne_of_get hi' hi fun q => by rw [q] at e; simp at e, fun e1 e2 e3 e4 e5 e6 => op e1 e2 e3 e4 e5 e6⟩⟩
 ·intro hP
  rw [← hl, List.take_length] at hP
  rw [Wp_body]
  simp [hS.lenA, hl]
  rw [hP, hl, List.take_length]
set_option maxRecDepth 8000 in
theorem c_lvRun {a b : PRun} {c d : RunC} (ha : RunR h a c) (hb : RunR h b d) : Dz.den 38 [.g (encR c), .g (encR d)] h = some (.c (.bool (decide (a = b))), h) := by
 refine den_plain rfl Tryz.func38 rfl rfl ?_
 have e1 := c_lvVals ha.slots hb.slots
 have e2 := c_lvVals ha.mail hb.mail
 have e3 := c_lvInts ha.links hb.links
 have e4 := c_lvInts ha.watched hb.watched
 obtain ⟨c1, c2, c3, c4, c5, c6, c7, c8, c9, c10, ⟨c11, c12⟩, c13⟩ := c
 obtain ⟨d1, d2, d3, d4, d5, d6, d7, d8, d9, d10, ⟨d11, d12⟩, d13⟩ := d
 obtain ⟨a1, a2, a3, a4, a5, a6, a7, a8, a9, a10, ⟨a11, a12⟩, a13⟩ := a
 obtain ⟨b1, b2, b3, b4, b5, b6, b7, b8, b9, b10, ⟨b11, b12⟩, b13⟩ := b
 obtain ⟨rfl, rfl, q1, rfl, q2, rfl, rfl, q3, q4, rfl, ew, rfl⟩ := ha
 obtain ⟨rfl, rfl, q5, rfl, q6, rfl, rfl, q7, q8, rfl, ew2, rfl⟩ := hb
 clear q1 q2 q3 q4 q5 q6 q7 q8
 simp only [PVal.mk.injEq] at ew ew2
 obtain ⟨rfl, rfl⟩ := ew
 obtain ⟨rfl, rfl⟩ := ew2
 simp only at e1 e2 e3 e4
 simp +contextual [Tryz.f38, e1, e2, e3, e4]
 grind
set_option maxRecDepth 8000 in
theorem c_lvWorld {a b : PWorld} {c d : WorldC} {cs ds : List RunC} (ha : WorldR h a c cs) (hb : WorldR h b d ds) : Dz.den 10 [.g (encW c), .g (encW d)] h = some (.c (.bool (decide (a = b))), h) := by
 refine den_plain rfl Tryz.func10 rfl rfl ?_
 have e1 := c_lvOps ha.code hb.code
 have e3 := c_lvInts ha.queue hb.queue
 have hS := ha.runs.sl
 have hT := hb.runs.sl
 have l1 := ha.runs.len
 have l2 := hb.runs.len
 have hx : (a = b) ↔ a.code = b.code ∧ a.runs = b.runs ∧ a.queue = b.queue ∧ c.now = d.now ∧ c.sent = d.sent ∧ c.taken = d.taken ∧ c.lost = d.lost := by
  rw [ha.now, hb.now, ha.sent, hb.sent, ha.taken, hb.taken, ha.lost, hb.lost]
  cases a; cases b; simp
 by_cases y1 : a.code = b.code
 rotate_left
 ·simp [Tryz.f10, hx, e1, y1]
 by_cases y2 : a.runs.length = b.runs.length
 rotate_left
 ·have z : ¬ a.runs = b.runs := fun e => y2 (by rw [e])
  have z' : ¬ (cs.length : Int) = ds.length := by omega
  simp [Tryz.f10, hx, e1, y1, hS.lenA, hT.lenA, z, z']
 have y2' : cs.length = ds.length := by omega
 by_cases y3 : a.queue = b.queue
 rotate_left
 ·simp [Tryz.f10, hx, e1, y1, hS.lenA, hT.lenA, y2', e3, y3]
 by_cases y4 : c.now = d.now
 rotate_left
 ·simp [Tryz.f10, hx, e1, y1, hS.lenA, hT.lenA, y2', e3, y3, y4]
 by_cases y5 : c.sent = d.sent
 rotate_left
 ·simp [Tryz.f10, hx, e1, y1, hS.lenA, hT.lenA, y2', e3, y3, y4, y5]
 by_cases y6 : c.taken = d.taken
 rotate_left
 ·simp [Tryz.f10, hx, e1, y1, hS.lenA, hT.lenA, y2', e3, y3, y4, y5, y6]
 by_cases y7 : c.lost = d.lost
 rotate_left
 ·simp [Tryz.f10, hx, e1, y1, hS.lenA, hT.lenA, y2', e3, y3, y4, y5, y6, y7]
 simp [Tryz.f10, hx, e1, y1, hS.lenA, hT.lenA, y2', e3, y3, y4, y5, y6, y7]
 refine count_wp ds.length (fun i => ([.c (.bool false), .c (ci i)], [[c.code, c.runs, c.queue, .int .i64 d.now, .int .i64 d.sent, .int .i64 d.taken, .int .i64 d.lost], encW d], [], h)) (fun i => a.runs.take i = b.runs.take i) rfl (by simp) ?_ ?_
 ·intro i hi hP
  have hi' : i < cs.length := by omega
  have hx' : i < a.runs.length := by omega
  have hy : i < b.runs.length := by omega
  have e := c_lvRun (ha.runs.each i hx') (hb.runs.each i hy)
  simp only [encR] at e
  rw [Wp_body]
  simp [hS.lenA, hi, hi', ixA_nat hS, hS.at, ixA_nat hT, hT.at, wrap_succ (hS.lt hi'), eq_take_succ hx' hy, hP, y2', e]
  exact ⟨by unfold LexOk; kernel_rfl, fun e q => ne_of_get hx' hy e (by rw [q])⟩
 ·intro hP
  rw [List.take_of_length_le (by omega), List.take_of_length_le (by omega)] at hP
  rw [Wp_body]
  simp [hS.lenA, y2']
  exact hx.2 ⟨y1, hP, y3, y4, y5, y6, y7⟩
theorem mailSum_take_le (rs : List PRun) (i : Nat) : mailSum (rs.take i) ≤ mailSum rs := by
 have h := mailSum_app (rs.take i) (rs.drop i)
 rw [List.take_append_drop] at h
 have := mailSum_nn (rs.drop i)
 omega
theorem c_lvSum {w : PWorld} {c : WorldC} {cs : List RunC} (ha : WorldR h w c cs) (hm : mailSum w.runs ≤ 1000000) (ht : 0 ≤ w.taken ∧ w.taken ≤ 1000000) (hl : 0 ≤ w.lost ∧ w.lost ≤ 1000000) :
  Dz.den 18 [.g (encW c)] h = some (.c (.bool (decide (w.sent = w.taken + w.lost + mailSum w.runs))), h) := by
 refine den_plain rfl Tryz.func18 rfl rfl ?_
 have hS := ha.runs.sl
 have hlen := ha.runs.len
 simp [Tryz.f18]
 refine count_wp cs.length (fun i => ([.c (.bool false), .c (.int .i64 (mailSum (w.runs.take i))), .c (ci i)], [encW c], [], h)) (fun _ => True) (by simp [mailSum]) trivial ?_ ?_
 ·intro i hi _
  have hi' : i < w.runs.length := by omega
  have e := (ha.runs.each i hi').mail
  have n1 := mailSum_take_le w.runs (i + 1)
  have n2 := mailSum_nn (w.runs.take i)
  have n3 : mailSum (w.runs.take (i + 1)) = mailSum (w.runs.take i) + w.runs[i].mail.length := by
   rw [List.take_succ_eq_append_getElem hi', mailSum_app]; simp [mailSum]
  have w1 : IntKind.i64.wrap (mailSum (w.runs.take i) + w.runs[i].mail.length) = mailSum (w.runs.take (i + 1)) := by rw [n3]; exact wrapS (by omega) (by omega)
  rw [Wp_body]
  simp [hS.lenA, hi, hi', ixA_nat hS, hS.at, e.lenA, w1, wrap_succ (hS.lt hi)]
 ·intro _
  have e1 : w.runs.take cs.length = w.runs := List.take_of_length_le (by omega)
  have n2 := mailSum_nn w.runs
  have w1 : IntKind.i64.wrap (w.taken + w.lost) = w.taken + w.lost := wrapS (by omega) (by omega)
  have w2 : IntKind.i64.wrap (w.taken + w.lost + mailSum w.runs) = w.taken + w.lost + mailSum w.runs := wrapS (by omega) (by omega)
  rw [Wp_body]
  simp [hS.lenA, e1, ha.taken, ha.lost, ha.sent, w1, w2]
theorem c_lvState {w : PWorld} {c : WorldC} {cs : List RunC} (ha : WorldR h w c cs) (id : Int) :
  Dz.den 14 [.g (encW c), .c (.int .i64 id)] h = some (.c (.int .i64 (if 1 ≤ id ∧ id ≤ w.runs.length then (runAt w id).state else 0)), h) := by
 refine den_plain rfl Tryz.func14 rfl rfl ?_
 have hS := ha.runs.sl
 have hlen := ha.runs.len
 by_cases h1 : id < 1
 ·rw [if_neg (by omega)]
  simp [Tryz.f14, h1]
 by_cases h2 : (cs.length : Int) < id
 ·rw [if_neg (by omega)]
  simp [Tryz.f14, h1, hS.lenA, h2]
 rw [if_pos (by omega)]
 obtain ⟨i, e, hi, er, ei⟩ := runAt_eq (w := w) (id := id) (by omega)
 have hi' : i < cs.length := by omega
 have lt := hS.lt hi'
 have w1 : IntKind.i64.wrap (id - 1) = (i : Int) := by unfold sMost at lt; rw [wrap_i64 (by omega) (by omega)]; omega
 have e2 := (ha.runs.each i hi).state
 rw [er]
 simp [Tryz.f14, h1, hS.lenA, h2, w1, ixA_nat hS, hi', hS.at, e2]
theorem c_lvAmong {s : Cell} {xs : List Int} (hS : Sl h s 1 encI xs) (n : Int) : Dz.den 15 [.c s, .c (.int .i64 n)] h = some (.c (.bool (decide (n ∈ xs))), h) := by
 refine den_plain rfl Tryz.func15 rfl rfl ?_
 simp [Tryz.f15]
 refine count_wp xs.length (fun i => ([.c s, .c (.int .i64 n), .c (.bool false), .c (ci i)], [], [], h)) (fun i => n ∉ xs.take i) (by simp) (by simp) ?_ ?_
 ·intro i hi hP
  have e : n ∉ xs.take (i + 1) ↔ ¬ xs[i] = n := by
   rw [List.take_succ_eq_append_getElem hi, List.mem_append, List.mem_singleton]
   exact ⟨fun q1 q2 => q1 (.inr q2.symm), fun q1 q2 => q2.elim hP fun q3 => q1 q3.symm⟩
  rw [Wp_body]
  simp [hS.lenA, hi, ixA_nat hS, hS.at, wrap_succ (hS.lt hi), e]
  exact fun q => q ▸ List.getElem_mem _
 ·intro hP
  rw [List.take_length] at hP
  rw [Wp_body]
  simp [hS.lenA, hP]
end Go.Proofs.YtmkiojlebjknlaaGreat

/-
 A LAW OF PLAYS BEGINS: what is drawn, and what both make of it.
-/
set_option maxRecDepth 8000
namespace Go.Proofs.YtmkiojlebjknlaaGreat
open Go.AM
variable {h k : H} {bs : List Int} {s : Cell}
structure Played (h k1 k3 : H) (sc tc : Cell) (code : List POp) (evs : List PEvent) (c1 : WorldC) (cs1 : List RunC) : Prop where
 oc : OwnL h.length k3 sc 6 encO code
 short : code.length ≤ 20
 oe : OwnL h.length k3 tc 4 encE evs
 few : evs.length ≤ 81
 ext : Ext h k3
 v : WorldV k1.length k3 (playRunP code evs) c1 cs1 cs1
 lc : ∀ id ∈ sc.ids, id < k1.length
 le : ∀ id ∈ tc.ids, id < k1.length
 l1 : h.length ≤ k1.length
theorem played (hS : BytesA h s bs) : ∃ code evs sc tc k1 k2 k3 c1 cs1 c2, Dz.den 19 [.c s] h = some (.t [.c sc, .c tc], k1) ∧
  Dz.den 20 [.c sc, .c tc] k1 = some (.t [.g (encW c1), .c (.bool (tt (PlayRun1 code evs)))], k2) ∧
  Dz.den 21 [.c sc, .c tc] k2 = some (.t [.g (encW c2), .c (.bool (tt (PlayRun1 code evs)))], k3) ∧
  Dz.den 10 [.g (encW c1), .g (encW c2)] k3 = some (.c (.bool true), k3) ∧ Played h k1 k3 sc tc code evs c1 cs1 := by
 obtain ⟨_, e1, k1, sc, tc, code, evs, rfl, D⟩ := c_DrawPlayRun hS
 obtain ⟨_, e2, k2, c1, cs1, rfl, x2, v2⟩ := c_IPlayRun D.oc.sl D.oc.un (by have := D.short; unfold lenMost; omega) D.oe.sl
 obtain ⟨_, e3, k3, c2, cs2, rfl, x3, v3⟩ := c_PlayRun (D.oc.sl.ext x2) D.oc.un (by have := D.short; unfold lenMost; omega) (D.oe.sl.ext x2)
 have v4 := v2.ext x3
 have e4 := c_lvWorld v4.rd v3.rd
 rw [decide_eq_true rfl] at e4
 exact ⟨code, evs, sc, tc, k1, k2, k3, c1, cs1, c2, e1, e2, e3, e4, D.oc.ext (x2.trans x3), D.short, D.oe.ext (x2.trans x3), D.few, D.ext.trans (x2.trans x3), v4, D.oc.sl.ids_lt, D.oe.sl.ids_lt, D.ext.1⟩
structure Plays (code : List POp) (evs : List PEvent) (w : PWorld) : Prop where
 safe : CodeSafe code
 few : evs.length ≤ 80
 eq : w = playTo code evs evs.length
 good : Good w
 sent : w.sent ≤ 3000
 code : w.code = code
theorem plays {code : List POp} {evs : List PEvent} (a : PlayRun1 code evs) : Plays code evs (playRunP code evs) := by
 have e : playRunP code evs = playTo code evs evs.length := by unfold playRunP; rw [if_pos a]
 obtain ⟨G, ph⟩ := playTo_good a.1 evs evs.length
 have := sent_phi (playTo code evs evs.length)
 have := a.2
 exact ⟨a.1, a.2, e, by rw [e]; exact G, by rw [e]; omega, by rw [e]; exact playTo_code a.1 evs _⟩
theorem Plays.ok {code : List POp} {evs : List PEvent} {w : PWorld} (P : Plays code evs w) : WorldOk w := P.good.ok (by have := P.sent; omega)
theorem Plays.room {code : List POp} {evs : List PEvent} {w : PWorld} (P : Plays code evs w) : Room w := ⟨P.ok, by have := P.sent; omega⟩
end Go.Proofs.YtmkiojlebjknlaaGreat

/-
 WHAT WorldWaits AND WorldAlive ANSWER, by the program.
-/
set_option maxRecDepth 8000
namespace Go.Proofs.YtmkiojlebjknlaaGreat
open Go.AM
variable {h k : H} {w : PWorld} {c : WorldC} {cs : List RunC}
theorem tt_fits (W : WorldOk w) : tt (WorldFits w) = true := by simpa using (fits_iff w).2 W
theorem c_lvPlay (hw : WorldR h w c cs) (G : Good w) (hs : w.sent ≤ 9999) : Dz.den 23 [.g (encW c)] h = some (.c (.bool true), h) := by
 refine den_plain rfl Tryz.func23 rfl rfl ?_
 have e1 := c_IWorldOk hw
 rw [tt_fits (G.ok hs)] at e1
 have nn := G.inv.nn
 have sm := G.inv.sum
 have mn := mailSum_nn w.runs
 have e2 := c_lvSum hw (by omega) (by omega) (by omega)
 rw [decide_eq_true sm] at e2
 simp only [encW] at e1 e2
 simp [Tryz.f23, e1, e2]
theorem OwnL.nil {α : Type} {enc : α → List Cell} {es : Nat} (lo : Nat) (k : H) : OwnL lo k .nils es enc ([] : List α) := ⟨⟨by simp, rfl⟩, fun id hid => by simp [Cell.ids] at hid, Un.nils, fun id hid => by simp [Cell.ids] at hid⟩
end Go.Proofs.YtmkiojlebjknlaaGreat

/-
 A LAW OF WORLDS BEGINS: what is drawn, and what both make of it.
-/
set_option maxRecDepth 8000
namespace Go.Proofs.YtmkiojlebjknlaaGreat
open Go.AM
variable {h k : H} {bs : List Int} {s : Cell}
structure Done (h k1 k3 k4 : H) (w : PWorld) (c : WorldC) (cs : List RunC) (x : PWorld) (c1 : WorldC) (cs1 : List RunC) : Prop where
 v : WorldV h.length k3 w c cs cs
 seen : Seen w
 x : WorldV k1.length k3 x c1 cs1 cs1
 ext : Ext h k3
 ext4 : Ext k3 k4
theorem Seen.room {w : PWorld} (S : Seen w) (a : WorldOk w) : Room w := ⟨a, by have := S.sent; omega⟩
theorem step_ok {w : PWorld} (r : Room w) : turnStepP w = if w.queue = [] then w else stepP w (headQ w) := by unfold turnStepP; rw [if_pos (by simpa using r)]
theorem stepped (hS : BytesA h s bs) : ∃ w c cs k1 k2 k3 k4 c1 cs1 c2 c3, Dz.den 24 [.c s] h = some (.g (encW c), k1) ∧ Dz.den 25 [.g (encW c)] k1 = some (.g (encW c1), k2) ∧
  Dz.den 26 [.g (encW c)] k2 = some (.g (encW c2), k3) ∧ Dz.den 10 [.g (encW c1), .g (encW c2)] k3 = some (.c (.bool true), k3) ∧ Dz.den 12 [.g (encW c)] k3 = some (.c (.bool (tt (WorldOk w))), k3) ∧
  Dz.den 26 [.g (encW c)] k3 = some (.g (encW c3), k4) ∧ Dz.den 10 [.g (encW c1), .g (encW c3)] k4 = some (.c (.bool true), k4) ∧ Done h k1 k3 k4 w c cs (turnStepP w) c1 cs1 := by
 obtain ⟨_, e1, k1, w, c, cs, rfl, x1, v1, sn⟩ := c_DrawTurnStep hS
 obtain ⟨_, e2, k2, c1, cs1, rfl, x2, v2⟩ := c_ITurnStep v1
 have v3 := v1.ext x2
 obtain ⟨_, e3, k3, c2, cs2, rfl, x3, v4⟩ := c_TurnStep v3
 have v5 := v3.ext x3
 have e4 := c_lvWorld (v2.ext x3).rd v4.rd
 rw [decide_eq_true rfl] at e4
 obtain ⟨_, e6, k4, c3, cs3, rfl, x4, v6⟩ := c_TurnStep v5
 have e7 := c_lvWorld ((v2.ext x3).ext x4).rd v6.rd
 rw [decide_eq_true rfl] at e7
 exact ⟨w, c, cs, k1, k2, k3, k4, c1, cs1, c2, c3, e1, e2, e3, e4, c_WorldOk v5.rd, e6, e7, v5, sn, v2.ext x3, (x1.trans x2).trans x3, x4⟩
end Go.Proofs.YtmkiojlebjknlaaGreat

/-
 WHAT IS DRAWN: worlds with turns, with what happens, idle ones.
-/
set_option maxRecDepth 8000
namespace Go.Proofs.YtmkiojlebjknlaaGreat
open Go.AM
variable {h h' k : H} {p n m lo : Nat} {d : Cell} {bs : List Int} {w : PWorld} {c : WorldC} {cs : List RunC} {s : Cell}
end Go.Proofs.YtmkiojlebjknlaaGreat

/-
 WHAT WorldGive, FallEnd, WorldIdle ANSWER.
-/
set_option maxRecDepth 8000
namespace Go.Proofs.YtmkiojlebjknlaaGreat
open Go.AM
variable {h k : H} {lo : Nat} {w : PWorld} {c : WorldC} {cs : List RunC}
end Go.Proofs.YtmkiojlebjknlaaGreat
