/-
  What functions of the seat answer, each proved once; each under the condition that cells bear what it is given, as its statement says.
-/
import Derived.Test.YtmkiojlebjknlaaGreatWalkA7
set_option linter.all false
/-
 WORLDS BEHIND POINTERS; a run that goes on.
-/
set_option maxRecDepth 8000
namespace Go.Proofs.YtmkiojlebjknlaaGreat
open Go.AM
variable {h h' : H} {lo p : Nat} {w : PWorld} {c : WorldC} {st cs : List RunC}
@[simp] theorem encW_length (c : WorldC) : (encW c).length = 7 := id rfl
theorem at_blk {ro : Bool} {es : Nat} {xs : List Cell} (hg : h.get p = some ⟨ro, es, [xs]⟩) {j m : Nat} (hk : j + m ≤ xs.length) : h.cellsAt p 0 j m = some ((xs.drop j).take m) := by
 simp [H.cellsAt, hg, hk]
structure WorldP (lo : Nat) (h : H) (p : Nat) (w : PWorld) (c : WorldC) (cs : List RunC) : Prop where
 v : WorldV lo h w c cs cs
 at_ : h.get p = some ⟨false, 7, [encW c]⟩
 out : ¬ Owned (part c cs) p
 ge : lo ≤ p
theorem StepV.away {q q' : Key → Cell} (s : StepV h q h' q') (hp : p < h.length) (ho : ¬ Owned q p) : h'.get p = h.get p ∧ ¬ Owned q' p := by
 refine ⟨s.chg.keep p hp ho, fun hh => ?_⟩
 rcases s.sub p hh with h1 | h1
 ·exact ho h1
 ·omega
theorem wr_blk {es : Nat} {ys zs : List Cell} (hg : h.get p = some ⟨false, es, [ys]⟩) {j : Nat} {xs : List Cell} (hx : zs = splice ys j xs) (hj : j + xs.length ≤ ys.length) :
  ∃ h', h.write p 0 j xs = some h' ∧ h'.get p = some ⟨false, es, [zs]⟩ ∧ Chg h (fun id => id = p) h' ∧ h'.length = h.length := by
 have hl := H.get_lt hg
 refine ⟨List.set h p (some ⟨false, es, [zs]⟩), ?_, get_set_self hl, ⟨by simp, fun id _ hn => get_set_ne hn⟩, by simp⟩
 simp [H.write, hg, hj, hx]
structure StepP (h : H) (p : Nat) (q : Key → Cell) (h' : H) (q' : Key → Cell) : Prop where
 chg : Chg h (fun id => Owned q id ∨ id = p) h'
 sub : ∀ id, Owned q' id → Owned q id ∨ h.length ≤ id
theorem StepP.refl (h : H) (p : Nat) (q : Key → Cell) : StepP h p q h q := ⟨Chg.refl _ _, fun _ h => .inl h⟩
theorem StepV.toP {q q' : Key → Cell} (s : StepV h q h' q') : StepP h p q h' q' := ⟨s.chg.mono fun _ _ h => .inl h, s.sub⟩
theorem StepP.trans {h1 h2 h3 : H} {q1 q2 q3 : Key → Cell} (a : StepP h1 p q1 h2 q2) (b : StepP h2 p q2 h3 q3) : StepP h1 p q1 h3 q3 := by
 refine ⟨a.chg.trans b.chg fun id hid ho => ?_, fun id ho => ?_⟩
 ·rcases ho with ho | ho
  ·rcases a.sub id ho with h | h
   ·exact .inl h
   ·omega
  ·exact .inr ho
 ·rcases b.sub id ho with h | h
  ·exact a.sub id h
  ·right; have := a.chg.len; omega
theorem StepP.of_chg {q : Key → Cell} (x : Chg h (fun id => id = p) h') : StepP h p q h' q := ⟨x.mono fun _ _ h => .inr h, fun _ h => .inl h⟩
theorem StepP.ext {q q' : Key → Cell} (a : StepP h p q h' q') {lo : Nat} (o : ∀ id, Owned q id → lo ≤ id) (hp : lo ≤ p) {h0 : H} (x : Ext h0 h) (hl : h0.length ≤ lo) : Ext h0 h' := by
 refine ⟨Nat.le_trans x.1 a.chg.len, fun id hid => ?_⟩
 rw [a.chg.keep id (Nat.lt_of_lt_of_le hid x.1) (fun h => ?_), x.2 id hid]
 rcases h with h | h
 ·have := o id h; omega
 ·omega
theorem WorldP.lt (hP : WorldP lo h p w c cs) : p < h.length := H.get_lt hP.at_
theorem WorldV.home {c0 : WorldC} (hV : WorldV lo h w c cs cs) (hg : h.get p = some ⟨false, 7, [encW c0]⟩) (ho : ¬ Owned (part c cs) p) (hp : lo ≤ p) {j : Nat} {xs : List Cell} (hx : encW c = splice (encW c0) j xs) (hj : j + xs.length ≤ 7) :
  ∃ h', h.write p 0 j xs = some h' ∧ WorldP lo h' p w c cs ∧ Chg h (fun id => id = p) h' := by
 obtain ⟨h', e, g, ch, _⟩ := wr_blk hg hx (by simpa using hj)
 exact ⟨h', e, ⟨hV.chg ch fun id h1 h2 => ho (by rw [← h2]; exact h1), g, ho, hp⟩, ch⟩
theorem WorldP.move {w' : PWorld} {cs' : List RunC} (hP : WorldP lo h p w c cs) (v : WorldV lo h' w' c cs' cs') (s : StepV h (part c cs) h' (part c cs')) : WorldP lo h' p w' c cs' := by
 obtain ⟨a, b⟩ := s.away hP.lt hP.out
 exact ⟨v, by rw [a]; exact hP.at_, b, hP.ge⟩
def wakeP (w : PWorld) (i : Nat) : PWorld :=
 match w.runs[i]? with
 | some r => { w with runs := w.runs.set i { r with state := 1 }, queue := w.queue ++ [r.id] }
 | none => w
def WakeQ (lo : Nat) (h : H) (p : Nat) (w : PWorld) (c : WorldC) (cs : List RunC) (i : Nat) (x : V × H) : Prop :=
 ∃ k q, x = (.t [], k) ∧ WorldP lo k p (wakeP w i) { c with queue := q } (cs.set i { (cs[i]?.getD default) with state := 1 }) ∧ StepP h p (part c cs) k (part { c with queue := q } (cs.set i { (cs[i]?.getD default) with state := 1 }))
theorem c_wake (hP : WorldP lo h p w c cs) {i : Nat} (hi : i < w.runs.length) (hl : w.queue.length + 1 ≤ lenMost) :
  @Wp _ (Dz.den 105 [.c (.ptr p 0 0), .c (.ptr (sid c.runs) (soff c.runs + i) 0)] h) ⟨WakeQ lo h p w c cs i⟩ := by
 refine den_wp rfl Tryz.func105 rfl ?_
 have hlen := hP.v.len
 have hi' : i < cs.length := by omega
 have hr := hP.v.each i hi
 obtain ⟨k1, e1, v1, s1⟩ := hP.v.put hi (j := 5) (xs := [.int .i64 1]) (r := { w.runs[i] with state := 1 }) (r' := { cs[i] with state := 1 }) (by simp [splice]) (by simp) (fun _ q => ⟨q.id, q.at_, q.slots, q.full, q.mail, rfl, q.due, q.links, q.watched, q.trap, q.why, q.turns⟩) rfl rfl rfl rfl
 have P1 := hP.move v1 s1
 obtain ⟨q3, k3, e3, v3, s3⟩ := v1.queueApp (ys := [w.runs[i].id]) (by simp only [List.length_singleton]; exact hl)
 obtain ⟨a3, b3⟩ := s3.away P1.lt P1.out
 rw [P1.at_] at a3
 obtain ⟨k4, e4, P4, ch4⟩ := v3.home a3 b3 hP.ge (j := 2) (xs := [q3]) (by simp [splice]) (by simp)
 have hS1 := v1.runs
 have hgp := P1.at_
 simp only [List.map_cons, List.map_nil, encI, List.length_cons, List.length_nil] at e3
 have ap : ∀ b j m, j + m ≤ 7 → (k1.push b).cellsAt p 0 j m = some (((encW c).drop j).take m) := fun b j m hk => at_blk (get_push_some hgp) (by simpa using hk)
 simp [Tryz.f105, e1, at_blk hgp, ap, hS1.at, hi', hr.id, e3, e4]
 refine ⟨by kernel_rfl, rfl, k4, q3, rfl, ?_, ?_⟩
 ·rw [List.getElem?_eq_getElem hi', Option.getD_some]
  unfold wakeP
  rw [List.getElem?_eq_getElem hi]
  exact P4
 ·rw [List.getElem?_eq_getElem hi', Option.getD_some]
  exact (s1.trans s3).toP.trans (StepP.of_chg ch4)
end Go.Proofs.YtmkiojlebjknlaaGreat

/-
 THE REFERENCE's l13Less, l13Normal: what they answer.
-/
set_option maxRecDepth 8000
namespace Go.Proofs.YtmkiojlebjknlaaGreat
open Go.AM
variable {h h' : H} {lo : Nat} {w : PWorld} {c : WorldC} {st cs : List RunC}
theorem _root_.Go.AM.Fresh.app {α : Type} {enc : α → List Cell} {zs ys : List α} {es : Nat} {s : Cell} {k : H} (f : Fresh h es enc zs s k) (hy : ∀ y ∈ ys, (enc y).length = es) (hl : zs.length + ys.length ≤ lenMost) :
  ∃ s' k', appendA es (k.push ⟨false, es, ys.map enc⟩) (.c s) (.c (.sl k.length 0 ys.length none)) = some (.c s', k') ∧ Fresh h es enc (zs ++ ys) s' k' := by
 obtain ⟨s', k', e, g⟩ := f.sl.append_new f.wr f.un hy hl
 have l := f.ext.1
 refine ⟨s', k', e, g.sl, g.wr, g.un, ⟨Nat.le_trans l g.chg.len, fun id hid => ?_⟩, fun id hid => ?_⟩
 ·rw [g.chg.keep id (by omega) (fun hh => by have := f.ids id hh; omega), f.ext.2 id hid]
 ·rcases g.ids id hid with hh | hh
  ·exact f.ids id hh
  ·omega
theorem _root_.Go.AM.Fresh.empty (h : H) (es : Nat) {α : Type} (enc : α → List Cell) : Fresh h es enc [] (.sl h.length 0 0 none) (h.push ⟨false, es, []⟩) :=
 ⟨⟨by simp, rfl, by simp, _, get_push_self, rfl, by simp, rfl⟩, fun id hid => by simp only [Cell.ids, List.mem_singleton] at hid; subst hid; exact ⟨_, get_push_self, rfl⟩, Un.new, Ext.push _ _, fun id hid => by simp only [Cell.ids, List.mem_singleton] at hid; omega⟩
theorem less_len (xs : List Int) (n : Int) : (less xs n).length ≤ xs.length := List.length_filter_le _ _
def FreshQ {α : Type} (h : H) (es : Nat) (enc : α → List Cell) (zs : List α) (x : V × H) : Prop := ∃ k s, x = (.c s, k) ∧ Fresh h es enc zs s k
theorem c_l13Less {s : Cell} {xs : List Int} (hS : Sl h s 1 encI xs) (n : Int) (hl : xs.length ≤ 2097152) : @Wp _ (Dz.den 125 [.c s, .c (.int .i64 n)] h) ⟨FreshQ h 1 encI (less xs n)⟩ := by
 refine den_wp rfl Tryz.func125 rfl ?_
 simp [Tryz.f125]
 refine count_wpG (σ := H × Cell) xs.length (fun i g => ([.c s, .c (.int .i64 n), .c .nils, .c g.2, .c (ci i)], [], [], g.1)) (fun i g => Fresh h 1 encI (less (xs.take i) n) g.2 g.1)
  (h.push ⟨false, 1, []⟩, .sl h.length 0 0 none) ?_ (by simpa [less] using Fresh.empty h 1 encI) ?_ ?_
 ·rfl
 ·rintro i ⟨k, a⟩ hi f
  simp only at f ⊢
  have hS' := hS.ext f.ext
  have e2 : xs.take (i + 1) = xs.take i ++ [xs[i]] := List.take_succ_eq_append_getElem hi
  rw [Wp_body]
  by_cases d : xs[i] = n
  ·simp [hS'.lenA, hi, ixA_nat hS', hS'.at, d, wrap_succ (hS.lt hi)]
   have q : less (xs.take (i + 1)) n = less (xs.take i) n := by rw [e2]; simp [less, d]
   exact ⟨k, a, ⟨rfl, rfl⟩, by rw [q]; exact f⟩
  ·obtain ⟨a', k', e, f'⟩ := f.app (ys := [xs[i]]) (by simp) (by have := less_len (xs.take i) n; have h3 := List.length_take_le i xs; simp only [List.length_singleton]; unfold lenMost; omega)
   simp only [List.map_cons, List.map_nil, encI, List.length_cons, List.length_nil] at e
   simp [hS'.lenA, hi, ixA_nat hS', hS'.at, d, e, wrap_succ (hS.lt hi)]
   have q : less (xs.take (i + 1)) n = less (xs.take i) n ++ [xs[i]] := by
    rw [e2]; unfold less; rw [List.filter_append]; congr 1; simp [d]
   exact ⟨k', a', ⟨rfl, rfl⟩, by rw [q]; exact f'⟩
 ·rintro ⟨k, a⟩ f
  simp only at f ⊢
  rw [List.take_length] at f
  have hS' := hS.ext f.ext
  rw [Wp_body]
  simp [hS'.lenA]
  exact ⟨k, a, rfl, f⟩
@[simp] theorem c_l13Normal (k n : Int) : Dz.den 126 [.g [.int .i64 k, .int .i64 n]] h = some (.c (.bool (decide (k = 2 ∧ n = 0))), h) := by
 refine den_plain rfl Tryz.func126 rfl rfl ?_
 simp [Tryz.f126]
 try grind
end Go.Proofs.YtmkiojlebjknlaaGreat

/-
 WORLDS IN PLAIN DATA: ending a run, and all that fall with it.
-/
set_option maxRecDepth 8000
namespace Go.Proofs.YtmkiojlebjknlaaGreat
open Go.AM
variable {w : PWorld}
def linkStep (id : Int) (why : PVal) (a : PWorld × List Int) (k : Int) : PWorld × List Int :=
 if why = ⟨2, 0⟩ then (setRun a.1 k { runAt a.1 k with links := less (runAt a.1 k).links id }, a.2)
 else if (runAt a.1 k).trap = true then (giveP (setRun a.1 k { runAt a.1 k with links := less (runAt a.1 k).links id }) k ⟨3, id⟩, a.2)
 else (setRun a.1 k { runAt a.1 k with links := less (runAt a.1 k).links id }, a.2 ++ [k])
def clearRun (r : PRun) (why : PVal) : PRun := { r with mail := [], links := [], watched := [], state := 3, due := 0, why := why }
def unwatch (id : Int) (r : PRun) : PRun := { r with watched := less r.watched id }
def endBase (w : PWorld) (id : Int) (why : PVal) : PWorld :=
 { w with lost := w.lost + (runAt w id).mail.length, queue := less w.queue id, runs := (w.runs.set (id - 1).toNat (clearRun (runAt w id) why)).map (unwatch id) }
def endLinks (w : PWorld) (id : Int) (why : PVal) (ks : List Int) : PWorld × List Int := ks.foldl (linkStep id why) (endBase w id why, [])
def tell (id : Int) (w : PWorld) (ks : List Int) : PWorld := ks.foldl (fun w k => giveP w k ⟨3, id⟩) w
def endP (w : PWorld) (id : Int) (why : PVal) : PWorld × List Int :=
 (tell id (endLinks w id why (runAt w id).links).1 (runAt w id).watched, (endLinks w id why (runAt w id).links).2)
def Alive (w : PWorld) (id : Int) : Prop := (1 ≤ id ∧ id ≤ w.runs.length) ∧ (runAt w id).state ≠ 3
instance (w : PWorld) (id : Int) : Decidable (Alive w id) := inferInstanceAs (Decidable (_ ∧ _))
def fallN : Nat → PWorld → List Int → PVal → PWorld
 | 0, w, _, _ => w
 | _ + 1, w, [], _ => w
 | n + 1, w, id :: rest, why => if Alive w id then fallN n (endP w id why).1 (rest ++ (endP w id why).2) why else fallN n w rest why
def fallP (w : PWorld) (id : Int) (why : PVal) : PWorld := fallN 64 w [id] why
def aliveN (rs : List PRun) : Nat := rs.countP fun r => decide (r.state ≠ 3)
theorem aliveN_set : ∀ {rs : List PRun} {i : Nat} {r r' : PRun}, rs[i]? = some r → aliveN (rs.set i r') + (if r.state ≠ 3 then 1 else 0) = aliveN rs + (if r'.state ≠ 3 then 1 else 0)
 | [], i, r, r', h => by simp at h
 | a :: rs, 0, r, r', h => by simp at h; subst h; simp only [aliveN, List.set_cons_zero, List.countP_cons, decide_eq_true_eq]; omega
 | a :: rs, i + 1, r, r', h => by
  have ih := aliveN_set (rs := rs) (i := i) (r' := r') (by simpa using h)
  simp only [aliveN, List.set_cons_succ, List.countP_cons, decide_eq_true_eq] at ih ⊢
  omega
theorem aliveN_le (rs : List PRun) : aliveN rs ≤ rs.length := List.countP_le_length
theorem aliveN_map (id : Int) : ∀ (rs : List PRun), aliveN (rs.map (unwatch id)) = aliveN rs
 | [] => rfl
 | a :: rs => by simp only [aliveN, List.map_cons, List.countP_cons] at *; rw [show List.countP _ (List.map (unwatch id) rs) = _ from aliveN_map id rs]; rfl
theorem mailSum_map (id : Int) : ∀ (rs : List PRun), mailSum (rs.map (unwatch id)) = mailSum rs
 | [] => rfl
 | a :: rs => by have := mailSum_map id rs; simp only [mailSum, List.map_cons, List.sum_cons] at this ⊢; rw [this]; rfl
theorem less_ids {xs : List Int} {own n : Int} (h : IdsOk xs own) : IdsOk (less xs n) own := ⟨h.1.filter _, fun x hx => h.2 x (mem_less.1 hx).1⟩
theorem RunI.unwatch {code : List POp} {now : Int} {n i : Nat} {r : PRun} (R : RunI code now n i r) (id : Int) : RunI code now n i (unwatch id r) :=
 ⟨⟨R.ok.id, R.ok.at_, R.ok.len, R.ok.full, R.ok.room, R.ok.state, R.ok.due, R.ok.turns, R.ok.slots, R.ok.mail, R.ok.links, less_ids R.ok.watched, R.ok.why, fun h => ⟨(R.ok.ended h).1, (R.ok.ended h).2.1, by show less r.watched id = []; rw [(R.ok.ended h).2.2]; rfl⟩, R.ok.live⟩, R.id, R.at_, R.wait, R.full, R.links, fun k hk => R.watched k (mem_less.1 hk).1⟩
theorem RunI.unlink {code : List POp} {now : Int} {n i : Nat} {r : PRun} (R : RunI code now n i r) (id : Int) : RunI code now n i { r with links := less r.links id } :=
 ⟨⟨R.ok.id, R.ok.at_, R.ok.len, R.ok.full, R.ok.room, R.ok.state, R.ok.due, R.ok.turns, R.ok.slots, R.ok.mail, less_ids R.ok.links, R.ok.watched, R.ok.why, fun h => ⟨(R.ok.ended h).1, by show less r.links id = []; rw [(R.ok.ended h).2.1]; rfl, (R.ok.ended h).2.2⟩, R.ok.live⟩, R.id, R.at_, R.wait, R.full, fun k hk => R.links k (mem_less.1 hk).1, R.watched⟩
theorem Inv.map (I : Inv w) (id : Int) : Inv { w with runs := w.runs.map (unwatch id) } := by
 refine ⟨I.safe, by simpa using I.many, I.now, I.nn, I.queue, fun q => ?_, fun i r hi => ?_, by simp only [mailSum_map]; exact I.sum⟩
 ·rw [I.mem]
  constructor
  ·rintro ⟨i, e, r, hr, h1⟩
   exact ⟨i, e, unwatch id r, by simp [hr], h1⟩
  ·rintro ⟨i, e, r, hr, h1⟩
   simp only [List.getElem?_map] at hr
   cases hb : w.runs[i]? with
   | none => rw [hb] at hr; simp at hr
   | some b => rw [hb] at hr; simp at hr; subst hr; exact ⟨i, e, b, hb, h1⟩
 ·simp only [List.getElem?_map, List.length_map] at hi ⊢
  cases hb : w.runs[i]? with
  | none => rw [hb] at hi; simp at hi
  | some b => rw [hb] at hi; simp at hi; subst hi; exact (I.each i b hb).unwatch id
theorem valOk_run {id : Int} (h : 1 ≤ id ∧ id ≤ 6) : valOk ⟨3, id⟩ = true := by simp [valOk]; omega
theorem Inv.unlink (I : Inv w) {k : Int} (hk : 1 ≤ k ∧ k ≤ w.runs.length) (id : Int) : Inv (setRun w k { runAt w k with links := less (runAt w k).links id }) := by
 obtain ⟨i, rfl, ei, hl, hg, R⟩ := I.run hk
 have := I.upd (r' := { runAt w (↑i + 1) with links := less (runAt w (↑i + 1)).links id }) (s := w.sent) (t := w.taken) (l := w.lost) hg (R.unlink id) I.queue (I.q_same hg Iff.rfl) I.nn (by simp only; omega)
 unfold setRun; rw [ei]; exact this
theorem Inv.endBase (I : Inv w) {id : Int} (hid : 1 ≤ id ∧ id ≤ w.runs.length) {why : PVal} (hw : valOk why = true) : Inv (endBase w id why) := by
 obtain ⟨i, rfl, ei, hl, hg, R⟩ := I.run hid
 obtain ⟨n1, n2, n3⟩ := I.nn
 have Q := I.q_less (r' := clearRun (runAt w (↑i + 1)) why) (i := i) (by simp [clearRun])
 have J := I.upd (r' := clearRun (runAt w (↑i + 1)) why) (s := w.sent) (t := w.taken) (l := w.lost + (runAt w (↑i + 1)).mail.length) hg
  ⟨⟨R.ok.id, R.ok.at_, R.ok.len, R.ok.full, by simp [clearRun], by simp [clearRun], by simp [clearRun], R.ok.turns, R.ok.slots, by simp [clearRun], ⟨by simp [clearRun], by simp [clearRun]⟩, ⟨by simp [clearRun], by simp [clearRun]⟩, hw, fun _ => ⟨rfl, rfl, rfl⟩, fun h => by simp [clearRun] at h⟩, R.id, R.at_, fun h => by simp [clearRun] at h, fun h => by simp [clearRun] at h, by simp [clearRun], by simp [clearRun]⟩
  Q.1 Q.2 ⟨n1, n2, by omega⟩ (by simp [clearRun]; omega)
 unfold Go.Proofs.YtmkiojlebjknlaaGreat.endBase
 rw [ei]
 exact J.map _
structure EndTo (w : PWorld) (b : Int) (n a : Nat) (x : PWorld × List Int) : Prop where
 inv : Inv x.1
 sent : x.1.sent ≤ b
 len : x.1.runs.length = n
 code : x.1.code = w.code
 now : x.1.now = w.now
 alive : aliveN x.1.runs = a
 next : ∀ k ∈ x.2, 1 ≤ k ∧ k ≤ n
theorem aliveN_give (w : PWorld) (id : Int) (v : PVal) : aliveN (giveP w id v).runs = aliveN w.runs := by
 unfold giveP
 split
 ·rename_i k
  obtain ⟨k1, k2, k3⟩ := k
  obtain ⟨i, rfl, hi, er, ei⟩ := runAt_eq k1
  have hg : w.runs[i]? = some (runAt w (↑i + 1)) := by rw [er]; exact List.getElem?_eq_getElem hi
  split
  ·have := aliveN_set (r' := { runAt w (↑i + 1) with mail := (runAt w (↑i + 1)).mail ++ [v], state := 1 }) hg
   simp only [ei]
   simp [k2] at this ⊢
   omega
  ·have := aliveN_set (r' := { runAt w (↑i + 1) with mail := (runAt w (↑i + 1)).mail ++ [v] }) hg
   simp only [ei]
   simp [k2] at this ⊢
   omega
 ·rfl
theorem giveP_now (w : PWorld) (id : Int) (v : PVal) : (giveP w id v).now = w.now := by
 unfold giveP; split
 ·split <;> rfl
 ·rfl
theorem EndTo.give {b : Int} {n a : Nat} {x : PWorld × List Int} (E : EndTo w b n a x) (k : Int) {v : PVal} (hv : valOk v = true) : EndTo w (b + 1) n a (giveP x.1 k v, x.2) := by
 obtain ⟨I, hs⟩ := E.inv.give k hv
 exact ⟨I, by have := E.sent; rw [hs]; omega, by rw [(giveP_len _ _ _).1]; exact E.len, by rw [(giveP_len _ _ _).2]; exact E.code, by rw [giveP_now]; exact E.now, by rw [aliveN_give]; exact E.alive, E.next⟩
theorem aliveN_unlink {k id : Int} (hk : 1 ≤ k ∧ k ≤ w.runs.length) : aliveN (setRun w k { runAt w k with links := less (runAt w k).links id }).runs = aliveN w.runs := by
 obtain ⟨i, rfl, hi, er, ei⟩ := runAt_eq hk
 have hg : w.runs[i]? = some (runAt w (↑i + 1)) := by rw [er]; exact List.getElem?_eq_getElem hi
 have := aliveN_set (r' := { runAt w (↑i + 1) with links := less (runAt w (↑i + 1)).links id }) hg
 unfold setRun
 rw [ei]
 simp only at this ⊢
 omega
theorem setRun_len {k : Int} {r : PRun} : (setRun w k r).runs.length = w.runs.length := by simp [setRun]
theorem EndTo.link {b : Int} {n a : Nat} {x : PWorld × List Int} (E : EndTo w b n a x) {k id : Int} {why : PVal} (hk : 1 ≤ k ∧ k ≤ n) (hid : 1 ≤ id ∧ id ≤ 6) : EndTo w (b + 1) n a (linkStep id why x k) := by
 have hk' : 1 ≤ k ∧ k ≤ x.1.runs.length := by rw [E.len]; exact hk
 have U : EndTo w b n a (setRun x.1 k { runAt x.1 k with links := less (runAt x.1 k).links id }, x.2) :=
  ⟨E.inv.unlink hk' id, E.sent, by rw [setRun_len]; exact E.len, E.code, E.now, by rw [aliveN_unlink hk']; exact E.alive, E.next⟩
 have hs : (setRun x.1 k { runAt x.1 k with links := less (runAt x.1 k).links id }).sent ≤ b + 1 := by have := E.sent; show x.1.sent ≤ b + 1; omega
 unfold linkStep
 split
 ·exact ⟨U.inv, hs, U.len, U.code, U.now, U.alive, U.next⟩
 ·split
  ·exact U.give k (valOk_run hid)
  ·refine ⟨U.inv, hs, U.len, U.code, U.now, U.alive, fun q hq => ?_⟩
   rcases List.mem_append.1 hq with hq | hq
   ·exact E.next q hq
   ·simp at hq; subst hq; exact hk
theorem EndTo.links {b : Int} {n a : Nat} {id : Int} {why : PVal} (hid : 1 ≤ id ∧ id ≤ 6) : ∀ (ks : List Int) {x : PWorld × List Int}, EndTo w b n a x → (∀ k ∈ ks, 1 ≤ k ∧ k ≤ n) → EndTo w (b + ks.length) n a (ks.foldl (linkStep id why) x)
 | [], x, E, _ => by simpa using E
 | k :: ks, x, E, h => by
  have := EndTo.links (why := why) hid ks (E.link (why := why) (h k (by simp)) hid) fun q hq => h q (by simp [hq])
  simp only [List.foldl_cons, List.length_cons]
  exact ⟨this.inv, by have := this.sent; omega, this.len, this.code, this.now, this.alive, this.next⟩
theorem EndTo.tell {b : Int} {n a : Nat} {id : Int} (hid : 1 ≤ id ∧ id ≤ 6) : ∀ (ks : List Int) {x : PWorld × List Int}, EndTo w b n a x → EndTo w (b + ks.length) n a (tell id x.1 ks, x.2)
 | [], x, E => by simpa [Go.Proofs.YtmkiojlebjknlaaGreat.tell] using E
 | k :: ks, x, E => by
  have := (E.give k (valOk_run hid)).tell hid ks
  simp only [Go.Proofs.YtmkiojlebjknlaaGreat.tell, List.foldl_cons, List.length_cons] at this ⊢
  exact ⟨this.inv, by have := this.sent; omega, this.len, this.code, this.now, this.alive, this.next⟩
theorem Inv.endBaseTo (I : Inv w) {id : Int} (ha : Alive w id) {why : PVal} (hw : valOk why = true) : EndTo w w.sent w.runs.length (aliveN w.runs - 1) (Go.Proofs.YtmkiojlebjknlaaGreat.endBase w id why, []) ∧ 1 ≤ aliveN w.runs := by
 have h2 := ha.2
 obtain ⟨i, rfl, ei, hl, hg, R⟩ := I.run ha.1
 have := aliveN_set (r' := clearRun (runAt w (↑i + 1)) why) hg
 have e3 : (clearRun (runAt w (↑i + 1)) why).state = 3 := rfl
 rw [if_pos h2, if_neg (by rw [e3]; simp)] at this
 refine ⟨⟨I.endBase ha.1 hw, Int.le_refl _, ?_, rfl, rfl, ?_, by simp⟩, by omega⟩
 ·simp [Go.Proofs.YtmkiojlebjknlaaGreat.endBase]
 ·simp only [Go.Proofs.YtmkiojlebjknlaaGreat.endBase, aliveN_map, ei]; omega
theorem linkStep_next_len {id : Int} {why : PVal} {x : PWorld × List Int} {k : Int} : (linkStep id why x k).2.length ≤ x.2.length + 1 := by
 unfold linkStep; split
 ·simp
 ·split <;> simp
theorem links_next_len {id : Int} {why : PVal} : ∀ (ks : List Int) (x : PWorld × List Int), (ks.foldl (linkStep id why) x).2.length ≤ x.2.length + ks.length
 | [], x => by simp
 | k :: ks, x => by
  have := links_next_len (id := id) (why := why) ks (linkStep id why x k)
  have h2 := linkStep_next_len (id := id) (why := why) (x := x) (k := k)
  simp only [List.foldl_cons, List.length_cons]; omega
theorem Inv.endP (I : Inv w) {id : Int} (ha : Alive w id) {why : PVal} (hw : valOk why = true) :
  EndTo w (w.sent + 12) w.runs.length (aliveN w.runs - 1) (Go.Proofs.YtmkiojlebjknlaaGreat.endP w id why) ∧ 1 ≤ aliveN w.runs ∧ (Go.Proofs.YtmkiojlebjknlaaGreat.endP w id why).2.length ≤ 6 := by
 obtain ⟨E, h1⟩ := I.endBaseTo ha hw
 obtain ⟨i, e, ei, hl, hg, R⟩ := I.run ha.1
 have l1 := R.ok.links.len
 have l2 := R.ok.watched.len
 have hid : 1 ≤ id ∧ id ≤ 6 := by have := I.many; have := ha.1; omega
 have E2 := (E.links (why := why) hid (runAt w id).links fun k hk => ⟨(R.ok.links.2 k hk).1, R.links k hk⟩)
 have E3 := E2.tell hid (runAt w id).watched
 refine ⟨⟨E3.inv, ?_, E3.len, E3.code, E3.now, E3.alive, E3.next⟩, h1, ?_⟩
 ·have := E3.sent
  refine Int.le_trans this ?_
  omega
 ·have := links_next_len (id := id) (why := why) (runAt w id).links (Go.Proofs.YtmkiojlebjknlaaGreat.endBase w id why, [])
  simp only [List.length_nil] at this
  show (endLinks w id why _).2.length ≤ 6
  unfold endLinks; omega
end Go.Proofs.YtmkiojlebjknlaaGreat

/-
 WORLDS IN PLAIN DATA: what is full behind a step.
-/
set_option maxRecDepth 8000
namespace Go.Proofs.YtmkiojlebjknlaaGreat
open Go.AM
theorem mergeF_fix {f : List Int} {n : Nat} {b : Int} (h : mergeF f n b = f) (hn : n < f.length) : both (f[n]?.getD 0) b = f[n]?.getD 0 := by
 have h2 : (mergeF f n b)[n]? = f[n]? := by rw [h]
 unfold mergeF at h2
 rw [List.getElem?_set_self hn] at h2
 have e : f[n]?.getD 0 = both (f[n]?.getD 0) b := congrArg (·.getD 0) h2.symm
 exact e.symm
theorem both_nn {a b : Int} (h : both a b = a) (hb : 0 ≤ b) : 0 ≤ a := by
 by_cases ha : a < 0
 ·unfold both at h; rw [if_pos ha] at h; omega
 ·omega
theorem full_arrows {code : List POp} (S : CodeSafe code) {i : Nat} (hi : i < code.length) (h0 : 0 ≤ (fullR code)[i]?.getD 0) :
  let x := (fullR code)[i]?.getD 0
  x ≤ 15 ∧ (∀ b, goesTo code[i] x = some b → 0 ≤ (fullR code)[code[i].to.toNat]?.getD 0 ∧ both ((fullR code)[code[i].to.toNat]?.getD 0) b = (fullR code)[code[i].to.toNat]?.getD 0) ∧
  (¬ (code[i].kind = 9 ∨ code[i].kind = 14) → i + 1 < code.length ∧ 0 ≤ (fullR code)[i + 1]?.getD 0 ∧ both ((fullR code)[i + 1]?.getD 0) (onward code[i] x) = (fullR code)[i + 1]?.getD 0) := by
 intro x
 have hc := codeOk_op S.ok
 obtain ⟨hB, hL, hP⟩ := fullR_props hc
 have hiL : i < (fullR code).length := by omega
 have hx15 : x ≤ 15 := by
  show (fullR code)[i]?.getD 0 ≤ 15
  rw [List.getElem?_eq_getElem hiL, Option.getD_some]; exact (hB _ (List.getElem_mem hiL)).2
 have ho : opOk code[i] = true := hc _ (List.getElem_mem hi)
 have e1 := passTo_fix hc hB hL hP i (by omega)
 have e2 := passTo_fix hc hB hL hP (i + 1) (by omega)
 simp only [passTo, e1] at e2
 rw [if_pos h0, List.getElem?_eq_getElem hi, Option.getD_some] at e2
 have a := goF_props (o := code[i]) hB h0 hx15
 have b := fromF_props (i := i) hB ho h0 hx15
 have ne := a.2.2.ne b.2.2
 have g1 : goF code[i] (fullR code) x = fullR code := Classical.byContradiction fun hh => (ne.2 (.inl hh)) e2
 refine ⟨hx15, fun v hv => ?_, fun hk => ?_⟩
 ·have hv2 := goesTo_range h0 hx15 hv
  unfold goF at g1
  simp only [hv] at g1
  have ht : code[i].to.toNat < (fullR code).length := by
   have hT : hasT code[i].kind = true := by
    unfold goesTo at hv
    simp only [hasT, decide_eq_true_eq]
    split at hv
    ·omega
    ·split at hv
     ·omega
     ·cases hv
   have := S.ok
   simp only [codeOk, Bool.and_eq_true, List.all_eq_true, Bool.or_eq_true, decide_eq_true_eq, Bool.not_eq_true'] at this
   have q := (this.2 _ (List.getElem_mem hi)).2
   rw [hT] at q
   have q2 : code[i].to < code.length := by simpa using q
   have : 1 ≤ code.length := by omega
   omega
  have f := mergeF_fix g1 ht
  exact ⟨both_nn f hv2.1, f⟩
 ·have sf := S.safe i hi h0
  have hn : i + 1 < code.length := by
   have : ¬ i + 1 = code.length := fun hh => hk (sf.2 hh)
   omega
  simp only [fromF] at e2
  rw [if_neg hk] at e2
  have e3 : mergeF (fullR code) (i + 1) (onward code[i] x) = fullR code := by
   rw [show goF code[i] (fullR code) ((fullR code)[i]?.getD 0) = fullR code from g1] at e2; exact e2
  have f := mergeF_fix e3 (by omega)
  exact ⟨hn, both_nn f (onward_range ho h0 hx15).1, f⟩
theorem bits_fin : ∀ a b : Fin 16, both a.val b.val = a.val → ∀ c : Fin 16, (both b.val c.val = b.val → both a.val c.val = a.val) := by decide +kernel
theorem both_trans {a b c : Int} (ha : 0 ≤ a) (ha' : a ≤ 15) (hb : 0 ≤ b) (hb' : b ≤ 15) (hc : 0 ≤ c) (hc' : c ≤ 15) (h1 : both a b = a) (h2 : both b c = b) : both a c = a := by
 have := bits_fin ⟨a.toNat, by omega⟩ ⟨b.toNat, by omega⟩
 simp only [Int.toNat_of_nonneg ha, Int.toNat_of_nonneg hb] at this
 have := this h1 ⟨c.toNat, by omega⟩
 simp only [Int.toNat_of_nonneg hc] at this
 exact this h2
theorem withB_fin : ∀ a b : Fin 16, both a.val b.val = a.val → ∀ s : Fin 4, both (withB a.val s.val) (withB b.val s.val) = withB a.val s.val ∧ both a.val (withB b.val s.val) = a.val := by decide +kernel
theorem withB_mono {a b s : Int} (ha : 0 ≤ a) (ha' : a ≤ 15) (hb : 0 ≤ b) (hb' : b ≤ 15) (hs : 0 ≤ s) (hs' : s ≤ 3) (h : both a b = a) : both (withB a s) (withB b s) = withB a s ∧ both a (withB b s) = a := by
 have := withB_fin ⟨a.toNat, by omega⟩ ⟨b.toNat, by omega⟩
 simp only [Int.toNat_of_nonneg ha, Int.toNat_of_nonneg hb] at this
 have := this h ⟨s.toNat, by omega⟩
 simp only [Int.toNat_of_nonneg hs] at this
 exact this
theorem withB_has : ∀ b : Fin 16, ∀ s t : Fin 4, has (withB b.val s.val) t.val = (decide (s = t) || has b.val t.val) := by decide +kernel
theorem hasW {b s t : Int} (hb : 0 ≤ b) (hb' : b ≤ 15) (hs : 0 ≤ s) (hs' : s ≤ 3) (ht : 0 ≤ t) (ht' : t ≤ 3) : has (withB b s) t = (decide (s = t) || has b t) := by
 have := withB_has ⟨b.toNat, by omega⟩ ⟨s.toNat, by omega⟩ ⟨t.toNat, by omega⟩
 simp only [Int.toNat_of_nonneg hb, Int.toNat_of_nonneg hs, Int.toNat_of_nonneg ht, Fin.mk.injEq] at this
 rw [this]
 congr 1
 exact decide_eq_decide.2 (by omega)
end Go.Proofs.YtmkiojlebjknlaaGreat

/-
 WORLDS IN PLAIN DATA: steps, turns, what happens.
-/
set_option maxRecDepth 8000
namespace Go.Proofs.YtmkiojlebjknlaaGreat
open Go.AM
variable {w : PWorld}
def slotAt (r : PRun) (k : Int) : PVal := r.slots[k.toNat]?.getD default
def nextRun (r : PRun) : PRun := { r with at_ := r.at_ + 1 }
def putRun (r : PRun) (slot : Int) (v : PVal) : PRun := { r with slots := r.slots.set slot.toNat v, full := withB r.full slot }
def setP (w : PWorld) (id slot : Int) (v : PVal) : PWorld := setRun w id (nextRun (putRun (runAt w id) slot v))
def waitP (w : PWorld) (id due : Int) : PWorld := { setRun w id { runAt w id with state := 2, due := due } with queue := less w.queue id }
def addP (a b : PVal) : Option PVal := if a.k = 1 ∧ b.k = 1 ∧ -99 ≤ a.n + b.n ∧ a.n + b.n ≤ 99 then some ⟨1, a.n + b.n⟩ else none
def newRun (id at_ : Int) (v : PVal) : PRun := ⟨id, at_, [v, ⟨0, 0⟩, ⟨0, 0⟩, ⟨0, 0⟩], 1, [], 1, 0, [], [], false, ⟨0, 0⟩, 0⟩
def mailAt (r : PRun) (kind : Int) : Int := firstAt (fits kind) r.mail
def takeRun (r : PRun) (slot : Int) (n : Nat) : PRun := { nextRun (putRun r slot (r.mail[n]?.getD default)) with mail := r.mail.eraseIdx n, due := 0 }
def takeP (w : PWorld) (id : Int) (o : POp) : PWorld :=
 if 0 ≤ mailAt (runAt w id) o.s then { setRun w id (takeRun (runAt w id) o.r (mailAt (runAt w id) o.s).toNat) with taken := w.taken + 1 }
 else if o.kind = 7 then waitP w id 0
 else if (runAt w id).due < 0 then setRun w id { runAt w id with due := 0, at_ := o.to }
 else waitP w id (w.now + o.v.n)
def addRunP (w : PWorld) (id : Int) (o : POp) : PWorld := { w with runs := w.runs ++ [newRun (w.runs.length + 1) o.to ⟨3, id⟩], queue := w.queue ++ [(w.runs.length : Int) + 1] }
def beginP (w : PWorld) (id : Int) (o : POp) : PWorld :=
 if 6 < w.runs.length + 1 then setP w id o.r ⟨0, 0⟩ else setP (addRunP w id o) id o.r ⟨3, w.runs.length + 1⟩
def linkP (w : PWorld) (id k : Int) : PWorld :=
 let w1 := setRun w id { runAt w id with links := (runAt w id).links ++ [k] }
 setRun w1 k { runAt w1 k with links := (runAt w1 k).links ++ [id] }
def watchP (w : PWorld) (id k : Int) : PWorld := setRun w k { runAt w k with watched := (runAt w k).watched ++ [id] }
def otherP (w : PWorld) (id : Int) (o : POp) : PWorld :=
 let r := runAt w id
 let to := slotAt r o.r
 let w1 := setRun w id (nextRun r)
 if to.k ≠ 3 then fallP w id ⟨2, 2⟩
 else if o.kind = 6 then giveP w1 to.n (slotAt r o.s)
 else if o.kind = 12 ∧ ¬ Alive w to.n then giveP w1 id to
 else if to.n = id ∨ ¬ Alive w to.n then w1
 else if o.kind = 12 ∧ id ∉ (runAt w to.n).watched then watchP w1 id to.n
 else if o.kind = 11 ∧ to.n ∉ r.links then linkP w1 id to.n
 else w1
def stepP (w : PWorld) (id : Int) : PWorld :=
 let r := runAt w id
 let o := codeAt w r.at_
 if o.kind = 1 then setP w id o.r o.v
 else if o.kind = 2 then setP w id o.r (slotAt r o.s)
 else if o.kind = 3 then (match addP (slotAt r o.r) (slotAt r o.s) with | none => fallP w id ⟨2, 1⟩ | some v => setP w id o.r v)
 else if o.kind = 4 then setP w id o.r ⟨3, id⟩
 else if o.kind = 5 then beginP w id o
 else if o.kind = 7 ∨ o.kind = 8 then takeP w id o
 else if o.kind = 9 then setRun w id { r with at_ := o.to }
 else if o.kind = 10 then setRun w id { r with at_ := if slotAt r o.r = o.v then o.to else r.at_ + 1 }
 else if o.kind = 13 then setRun w id { r with trap := decide (o.v.n = 1), at_ := r.at_ + 1 }
 else if o.kind = 14 then fallP w id (slotAt r o.r)
 else otherP w id o
def headQ (w : PWorld) : Int := w.queue.headD 0
def stepsP : Nat → PWorld → Int → PWorld
 | 0, w, _ => w
 | n + 1, w, id => if (runAt w id).state = 1 then stepsP n (stepP w id) id else w
def backP (w : PWorld) (id : Int) : PWorld := if (runAt w id).state = 1 then { w with queue := less w.queue id ++ [id] } else w
def countP' (w : PWorld) (id : Int) : PWorld := setRun w id { runAt w id with turns := min ((runAt w id).turns + 1) 9999 }
def turnP (w : PWorld) : PWorld := if w.queue = [] then w else backP (stepsP 3 (countP' w (headQ w)) (headQ w)) (headQ w)
structure PEvent where
 kind : Int
 a : Int
 v : PVal
 deriving DecidableEq, Inhabited
def doP (w : PWorld) (e : PEvent) : PWorld :=
 if e.kind = 1 then turnP w
 else if e.kind = 2 then tickP w
 else if e.kind = 3 then (if valOk e.v = true then giveP w e.a e.v else w)
 else if e.kind = 4 then (if valOk e.v = true ∧ Alive w e.a then fallP w e.a e.v else w)
 else w
def newP (code : List POp) : PWorld := ⟨code, [newRun 1 0 ⟨3, 1⟩], [1], 0, 0, 0, 0⟩
end Go.Proofs.YtmkiojlebjknlaaGreat
