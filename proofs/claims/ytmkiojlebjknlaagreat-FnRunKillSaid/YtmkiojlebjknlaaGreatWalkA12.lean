/-
  What functions of the seat answer, each proved once; each under the condition that cells bear what it is given, as its statement says.
-/
import Derived.Test.YtmkiojlebjknlaaGreatWalkA10
import Derived.Test.YtmkiojlebjknlaaGreatWalkA11
import Derived.Test.YtmkiojlebjknlaaGreatWalkA7
import Derived.Test.YtmkiojlebjknlaaGreatWalkA8
set_option linter.all false
/-
 THE REFERENCE's l13One, l13End: what they answer.
-/
set_option maxRecDepth 8000
namespace Go.Proofs.YtmkiojlebjknlaaGreat
open Go.AM
variable {h h' : H} {lo : Nat} {w : PWorld} {c : WorldC} {st cs : List RunC}
theorem Inv.qlen (I : Inv w) : w.queue.length ≤ 6 := by
 have : IdsOk w.queue 0 := ⟨I.queue, fun q hq => by
  obtain ⟨i, rfl, r, hr, _⟩ := (I.mem q).1 hq
  have := (List.getElem?_eq_some_iff.1 hr).1
  have := I.many.2
  omega⟩
 exact this.len
theorem Inv.lostle (I : Inv w) : w.lost ≤ w.sent := by have := I.sum; have := mailSum_nn w.runs; have := I.nn; omega
theorem Inv.clen (I : Inv w) : 1 ≤ w.code.length ∧ w.code.length ≤ 16 := codeOk_len I.safe.ok
theorem Inv.sane (I : Inv w) (hs : w.sent ≤ 1000000000000) : Sane w := by
 have h1 := I.qlen
 have h2 := I.lostle
 have h3 := I.nn
 have h4 := I.clen
 have h5 := I.many
 refine ⟨fun r hr => ?_, by omega, by omega, by omega, by omega, by omega⟩
 obtain ⟨i, hi, rfl⟩ := List.getElem_of_mem hr
 have R := I.each i _ (List.getElem?_eq_getElem hi)
 exact ⟨R.ok.at_.1, R.at_⟩
theorem Inv.saneI (I : Inv w) (hs : w.sent ≤ 1000000000000) : SaneI w := by
 refine ⟨I.sane hs, fun j r hr => (I.each j r hr).id, fun r hr => ?_⟩
 obtain ⟨i, hi, rfl⟩ := List.getElem_of_mem hr
 exact (I.each i _ (List.getElem?_eq_getElem hi)).ok.room
theorem wrapS {x : Int} (h0 : 0 ≤ x) (h1 : x ≤ 100000000000000) : IntKind.i64.wrap x = x := wrap_i64 (by omega) (by omega)
theorem linkStep_at {id : Int} {why : PVal} {x : PWorld × List Int} {m : Nat} (hm : m < x.1.runs.length) : linkStep id why x ((m : Int) + 1) =
  if why = ⟨2, 0⟩ then ({ x.1 with runs := x.1.runs.set m { x.1.runs[m] with links := less x.1.runs[m].links id } }, x.2)
  else if x.1.runs[m].trap = true then (giveP { x.1 with runs := x.1.runs.set m { x.1.runs[m] with links := less x.1.runs[m].links id } } ((m : Int) + 1) ⟨3, id⟩, x.2)
  else ({ x.1 with runs := x.1.runs.set m { x.1.runs[m] with links := less x.1.runs[m].links id } }, x.2 ++ [(m : Int) + 1]) := by
 unfold linkStep setRun
 rw [runAt_nat hm, show ((m : Int) + 1 - 1).toNat = m by omega]
set_option maxRecDepth 16000 in
set_option maxHeartbeats 2000000 in
theorem c_l13One (hV : WorldV lo h w c cs cs) (I : Inv w) (hs : w.sent ≤ 100000000000) {id : Int} (ha : Alive w id) {why : PVal} (hw : valOk why = true) :
  @Wp _ (Dz.den 77 [.g (encW c), .c (.int .i64 id), .g (encV why)] h) ⟨OneQ lo h (part c cs) (endP w id why).1 (endP w id why).2⟩ := by
 refine den_wp rfl Tryz.func77 rfl ?_
 have hS := hV.runs
 have hlen := hV.len
 obtain ⟨n1, n2, n3⟩ := I.nn
 have hll := I.lostle
 have hid6 : 1 ≤ id ∧ id ≤ 6 := by have := I.many; have := ha.1; omega
 obtain ⟨i, ei1, ei, hi, hg, R⟩ := I.run ha.1
 have hr : runAt w id = w.runs[i] := by have := List.getElem?_eq_getElem hi; rw [hg] at this; simpa using this
 rw [hr] at R
 have hi' : i < cs.length := by omega
 have hq := hV.each i hi
 have hroom := R.ok.room
 have wi : IntKind.i64.wrap (id - 1) = (i : Int) := by rw [wrap_i64 (by omega) (by omega)]; omega
 have wl : IntKind.i64.wrap (c.lost + w.runs[i].mail.length) = w.lost + w.runs[i].mail.length := by rw [hV.lost]; exact wrapS (by omega) (by omega)
 have v0 := hV.nums w.now w.sent w.taken (w.lost + w.runs[i].mail.length)
 obtain ⟨h1, e1, v1, g1, ch1, out1, kp1⟩ := v0.clear (i := i) hi why rfl rfl rfl
 rw [numsPart] at g1 ch1
 have wi2 : (id - 1) = (i : Int) := by omega
 have wi' : IntKind.i64.wrap (i : Int) = i := wrap_i64 (by omega) (by omega)
 have hV0 := hV.ext (Ext.push h ⟨false, 2, []⟩)
 have hV00 := (hV0.ext (Ext.push _ ⟨false, 1, []⟩)).ext (Ext.push _ ⟨false, 1, []⟩)
 have hS3 := hV00.runs
 simp only [encR] at e1
 generalize hcs1 : (cs.set i { cs[i] with mail := .sl h.length 0 0 none, links := .sl (h.length + 1) 0 0 none, watched := .sl (h.length + 1 + 1) 0 0 none, state := 3, due := 0, why := why }) = cs1 at *
 generalize hc1 : ({ c with now := w.now, sent := w.sent, taken := w.taken, lost := w.lost + w.runs[i].mail.length } : WorldC) = c1 at *
 have hqueue := v1.queue
 obtain ⟨_, e2, k2, s2, rfl, f2⟩ := c_l13Less hqueue id (by have := I.qlen; show w.queue.length ≤ _; omega)
 have hc1r : c1.runs = c.runs := by subst hc1; rfl
 have hc1q : c1.queue = c.queue := by subst hc1; rfl
 rw [hc1q] at e2
 obtain ⟨v2, g2⟩ := v1.freshQueue f2
 have S2 := g1.trans g2
 have cap : ∀ f, Un (rpart cs[i] f) := hV.run_un hi'
 have apl : Apart (Owned (part { c1 with queue := s2 } cs1)) k2 w.runs[i].links cs[i].links := Apart.step ⟨hq.links.same fun q hq' => kp1 q (.inl hq'), fun q hq' ho => (out1 q ho).1 hq', (cap 2).1⟩ g2
 have apw : Apart (Owned (part { c1 with queue := s2 } cs1)) k2 w.runs[i].watched cs[i].watched := Apart.step ⟨hq.watched.same fun q hq' => kp1 q (.inr hq'), fun q hq' ho => (out1 q ho).2 hq', (cap 3).1⟩ g2
 have elinks : (runAt w id).links = w.runs[i].links := by rw [hr]
 have ewatch : (runAt w id).watched = w.runs[i].watched := by rw [hr]
 obtain ⟨W0, hW0⟩ : ∃ W0 : PWorld, W0 = { w with lost := w.lost + w.runs[i].mail.length, runs := w.runs.set i (clearRun w.runs[i] why), queue := less w.queue id } := ⟨_, rfl⟩
 have v2' : WorldV lo k2 W0 { c1 with queue := s2 } cs1 cs1 := by rw [hW0]; exact v2
 have hWn : W0.runs.length = w.runs.length := by rw [hW0]; simp
 have hbase : unwatchTo W0 id W0.runs.length = endBase w id why := by
  unfold unwatchTo endBase
  rw [List.take_length, List.drop_length, List.append_nil, hW0, hr, ei]
 have hwl : ∀ r ∈ W0.runs, r.watched.length ≤ 6 := fun r hrm => by
  obtain ⟨j, hj, rfl⟩ := List.getElem_of_mem hrm
  have hj' : j < w.runs.length := by omega
  have e : W0.runs[j] = if i = j then clearRun w.runs[i] why else w.runs[j] := by simp only [hW0, List.getElem_set]
  rw [e]
  split
  ·simp [clearRun]
  ·exact (I.each j _ (List.getElem?_eq_getElem hj')).ok.watched.len
 simp [Tryz.f77, wi', wi2, hi, hi', ixA_nat hS, hS.at, hq.mail.lenA, wl, ixA_nat hS3, e1, e2]
 refine count_wpG (σ := H × List RunC) W0.runs.length (fun j g => ([.c (ci id), .c .nils, .c cs[i].links, .c cs[i].watched, .c (ci j)], [encW { c1 with queue := s2 }, encV why, zeroW], [], g.1))
  (fun j g => WorldV lo g.1 (unwatchTo W0 id j) { c1 with queue := s2 } g.2 g.2 ∧ StepV h (part c cs) g.1 (part { c1 with queue := s2 } g.2) ∧ Apart (Owned (part { c1 with queue := s2 } g.2)) g.1 w.runs[i].links cs[i].links ∧ Apart (Owned (part { c1 with queue := s2 } g.2)) g.1 w.runs[i].watched cs[i].watched)
  (k2, cs1) ?_ ⟨v2', S2, apl, apw⟩ ?_ ?_
 ·simp [zeroW, ← hc1, hV.now, hV.sent, hV.taken]
 ·rintro j ⟨k, cs2⟩ hj ⟨v, s, al, aw⟩
  simp only at v s al aw ⊢
  have hl2 := v.len
  rw [unwatchTo_len] at hl2
  have hj2 : j < cs2.length := by omega
  have hjw : j < (unwatchTo W0 id j).runs.length := by rw [unwatchTo_len]; exact hj
  have hgj := unwatchTo_get (id := id) hj
  have hgj2 : (unwatchTo W0 id j).runs[j] = W0.runs[j] := by rw [List.getElem?_eq_getElem hjw] at hgj; simpa using hgj
  have hrj := v.each j hjw
  have hSj := v.runs
  obtain ⟨_, e3, k3, s3, rfl, f3⟩ := c_l13Less hrj.watched id (by rw [hgj2]; have := hwl _ (List.getElem_mem hj); omega)
  obtain ⟨k4, e4, v4, g4⟩ := v.layWatched hjw f3
  have hSj3 := hSj.ext f3.ext
  rw [Wp_body]
  simp [hSj.lenA, hj, hj2, ixA_nat hSj, hSj.at, e3, ixA_nat hSj3, e4]
  refine ⟨by kernel_rfl, ?_⟩
  have hn6 : W0.runs.length ≤ 6 := by rw [hWn]; exact I.many.2
  simp only [hgj2] at v4 g4
  refine ⟨k4, ⟨wrapS (by omega) (by omega), rfl⟩, _, ?_, s.trans g4, al.step g4, aw.step g4⟩
  rw [← unwatchTo_succ hj]
  exact v4
 ·rintro ⟨k, cs2⟩ ⟨v, s, al, aw⟩
  simp only at v s al aw ⊢
  have hl2 := v.len
  have hS2 := v.runs
  rw [hbase] at v hl2
  have hbl : (endBase w id why).runs.length = w.runs.length := by simp [endBase]
  obtain ⟨E0, al1⟩ := I.endBaseTo ha hw
  have hks : ∀ q ∈ w.runs[i].links, 1 ≤ q ∧ q ≤ w.runs.length := fun q hq => ⟨(R.ok.links.2 q hq).1, R.links q hq⟩
  have hk6 := R.ok.links.len
  rw [Wp_body]
  simp [hS2.lenA, hl2, hbl, hWn]
  refine count_wpG (σ := H × WorldC × List RunC × Cell) w.runs[i].links.length (fun j g => ([.c (ci id), .c .nils, .c cs[i].links, .c cs[i].watched, .c g.2.2.2, .c (ci j)], [encW g.2.1, encV why, zeroW], [], g.1))
   (fun j g => WorldV lo g.1 ((w.runs[i].links.take j).foldl (linkStep id why) (endBase w id why, [])).1 g.2.1 g.2.2.1 g.2.2.1 ∧ StepV h (part c cs) g.1 (part g.2.1 g.2.2.1) ∧
    Apart (Owned (part g.2.1 g.2.2.1)) g.1 w.runs[i].links cs[i].links ∧ Apart (Owned (part g.2.1 g.2.2.1)) g.1 w.runs[i].watched cs[i].watched ∧
    Mine h.length (Owned (part g.2.1 g.2.2.1)) g.1 ((w.runs[i].links.take j).foldl (linkStep id why) (endBase w id why, [])).2 g.2.2.2)
   (k.push ⟨false, 1, []⟩, { c1 with queue := s2 }, cs2, .sl k.length 0 0 none) ?_ ?_ ?_ ?_
  ·simp [zeroW]
  ·have e := Ext.push k ⟨false, 1, []⟩
   have fr := Fresh.empty k 1 encI
   have s' : StepV k (part { c1 with queue := s2 } cs2) (k.push ⟨false, 1, []⟩) (part { c1 with queue := s2 } cs2) := StepV.of_ext e
   have mm := fr.mine (o := Owned (part { c1 with queue := s2 } cs2)) fun id h => v.own.owned_lt id h
   exact ⟨v.ext e, s.trans s', al.ext e, aw.ext e, mm.a, mm.wr, fun q hq => Nat.le_trans s.chg.len (mm.ge q hq)⟩
  ·rintro j ⟨k, c2, cs2, sn⟩ hj ⟨v, s, al, aw, mn⟩
   simp only at v s al aw mn ⊢
   have E := EndTo.links (why := why) hid6 (w.runs[i].links.take j) E0 (fun q hq => hks q (List.mem_of_mem_take hq))
   have et : w.runs[i].links.take (j + 1) = w.runs[i].links.take j ++ [w.runs[i].links[j]] := List.take_succ_eq_append_getElem hj
   rw [et, List.foldl_append, List.foldl_cons, List.foldl_nil]
   have hxl := links_next_len (id := id) (why := why) (w.runs[i].links.take j) (endBase w id why, [])
   generalize (w.runs[i].links.take j).foldl (linkStep id why) (endBase w id why, []) = x at *
   have hkk := hks _ (List.getElem_mem hj)
   obtain ⟨m, em, em2, hm, hgm, Rm⟩ := E.inv.run (id := w.runs[i].links[j]) ⟨hkk.1, by rw [E.len]; exact hkk.2⟩
   have hgm2 : runAt x.1 w.runs[i].links[j] = x.1.runs[m] := by have := List.getElem?_eq_getElem hm; rw [hgm] at this; simpa using this
   have hm6 : m < 6 := by have := E.len; have := I.many.2; omega
   have wm : IntKind.i64.wrap (m : Int) = m := wrapS (by omega) (by have := E.len; have := I.many.2; omega)
   have hl2 := v.len
   have hm' : m < cs2.length := by omega
   have hS2 := v.runs
   have hrm := v.each m hm
   rw [hgm2] at Rm
   obtain ⟨_, e3, k3, s3, rfl, f3⟩ := c_l13Less hrm.links id (by have := Rm.ok.links.len; omega)
   obtain ⟨k4, e4, v4, g4⟩ := v.layLinks hm f3
   have hS3 := hS2.ext f3.ext
   have hS4 := v4.runs
   have hset : setRun x.1 w.runs[i].links[j] { runAt x.1 w.runs[i].links[j] with links := less (runAt x.1 w.runs[i].links[j]).links id } = { x.1 with runs := x.1.runs.set m { x.1.runs[m] with links := less x.1.runs[m].links id } } := by
    unfold setRun; rw [em2, hgm2]
   have I4 : EndTo w (w.sent + j) w.runs.length (aliveN w.runs - 1) ({ x.1 with runs := x.1.runs.set m { x.1.runs[m] with links := less x.1.runs[m].links id } }, x.2) := by
    rw [← hset]
    have hk2 : 1 ≤ w.runs[i].links[j] ∧ w.runs[i].links[j] ≤ x.1.runs.length := ⟨hkk.1, by rw [E.len]; exact hkk.2⟩
    exact ⟨E.inv.unlink hk2 id, by have := E.sent; rw [List.length_take] at this; show x.1.sent ≤ _; omega, by rw [setRun_len]; exact E.len, E.code, E.now, by rw [aliveN_unlink hk2]; exact E.alive, E.next⟩
   have htr := hrm.trap
   have hsl := al.sl
   have hlt : w.runs[i].links.length ≤ 6 := hk6
   have wj : IntKind.i64.wrap ((j : Int) + 1) = (j : Int) + 1 := wrapS (by omega) (by omega)
   by_cases hn : why = ⟨2, 0⟩
   ·subst hn
    rw [Wp_body]
    simp [hsl.lenA, hj, ixA_nat hsl, hsl.at, em, wm, ixA_nat hS2, hm', hS2.at, e3, ixA_nat hS3, e4]
    rw [linkStep_at hm, if_pos rfl]
    exact ⟨by kernel_rfl, k4, c2, _, sn, ⟨⟨rfl, wj⟩, ⟨rfl, rfl, rfl, rfl, rfl, rfl, rfl⟩, rfl⟩, v4, s.trans g4, al.step g4, aw.step g4, mn.step g4⟩
   ·have hn' : ¬ (why.k = 2 ∧ why.n = 0) := fun hh => hn (by cases why; simp at hh; simp [hh])
    by_cases ht : x.1.runs[m].trap = true
    ·have ht' : cs2[m].trap = true := by rw [htr]; exact ht
     obtain ⟨_, e5, k5, c5, cs5, rfl, v5, g5⟩ := c_l12Give v4 (I4.inv.sane (by have := I4.sent; simp only at this ⊢; omega)) ((m : Int) + 1) ⟨3, id⟩
     simp only [encW, encV] at e5
     rw [Wp_body]
     simp [hsl.lenA, hj, ixA_nat hsl, hsl.at, em, wm, ixA_nat hS2, hm', hS2.at, e3, ixA_nat hS3, e4, hn', ixA_nat hS4, hS4.at, ht', e5]
     rw [linkStep_at hm, if_neg hn, if_pos ht]
     have g45 := g4.trans g5
     exact ⟨by kernel_rfl, k5, c5, _, sn, ⟨⟨rfl, wj⟩, ⟨rfl, rfl, rfl, rfl, rfl, rfl, rfl⟩, rfl⟩, v5, s.trans g45, al.step g45, aw.step g45, mn.step g45⟩
    ·have ht' : cs2[m].trap = false := by rw [htr]; simpa using ht
     have m4 := mn.step g4
     have hnl : x.2.length ≤ 6 := by rw [List.length_take] at hxl; simp only [List.length_nil] at hxl; omega
     obtain ⟨s6, k6, e6, m6, v6, ch6⟩ := m4.app1 v4 ((m : Int) + 1) (by unfold lenMost; omega) (Nat.le_trans s.chg.len g4.chg.len)
     rw [Wp_body]
     simp [hsl.lenA, hj, ixA_nat hsl, hsl.at, em, wm, ixA_nat hS2, hm', hS2.at, e3, ixA_nat hS3, e4, hn', ixA_nat hS4, hS4.at, ht', e6]
     rw [linkStep_at hm, if_neg hn, if_neg ht]
     have S6 := (s.trans g4).then ch6 fun q hq' => m4.ge q hq'
     have old : ∀ q, q ∈ cs[i].links.ids ∨ q ∈ cs[i].watched.ids → q ∉ sn.ids := fun q h1 h2 => by
      have h3 := m4.ge q h2
      rcases h1 with h1 | h1
      ·have := hq.links.ids_lt q h1; omega
      ·have := hq.watched.ids_lt q h1; omega
     exact ⟨by kernel_rfl, k6, c2, _, s6, ⟨⟨rfl, wj⟩, ⟨rfl, rfl, rfl, rfl, rfl, rfl, rfl⟩, rfl⟩, v6, S6, (al.step g4).other ch6 fun q h1 => old q (.inl h1), (aw.step g4).other ch6 fun q h1 => old q (.inr h1), m6⟩
  ·rintro ⟨k, c2, cs2, sn⟩ ⟨v, s, al, aw, mn⟩
   simp only at v s al aw mn ⊢
   rw [List.take_length] at v mn
   have E := EndTo.links (why := why) hid6 w.runs[i].links E0 hks
   have eE : w.runs[i].links.foldl (linkStep id why) (endBase w id why, []) = endLinks w id why (runAt w id).links := by rw [elinks]; rfl
   rw [eE] at v mn E
   have hsl := al.sl
   rw [Wp_body]
   simp [hsl.lenA]
   have hw6 : w.runs[i].watched.length ≤ 6 := R.ok.watched.len
   have hwk : ∀ q ∈ w.runs[i].watched, 1 ≤ q ∧ q ≤ 6 := fun q hq => ⟨(R.ok.watched.2 q hq).1, (R.ok.watched.2 q hq).2.1⟩
   generalize hx : endLinks w id why (runAt w id).links = x at *
   refine count_wpG (σ := H × WorldC × List RunC) w.runs[i].watched.length (fun j g => ([.c (ci id), .c .nils, .c cs[i].watched, .c sn, .c (ci j)], [encW g.2.1, zeroW], [], g.1))
    (fun j g => WorldV lo g.1 (tell id x.1 (w.runs[i].watched.take j)) g.2.1 g.2.2 g.2.2 ∧ StepV h (part c cs) g.1 (part g.2.1 g.2.2) ∧
     Apart (Owned (part g.2.1 g.2.2)) g.1 w.runs[i].watched cs[i].watched ∧ Mine h.length (Owned (part g.2.1 g.2.2)) g.1 x.2 sn)
    (k, c2, cs2) ?_ ?_ ?_ ?_
   ·simp [zeroW]
   ·exact ⟨v, s, aw, mn⟩
   ·rintro j ⟨k, c3, cs3⟩ hj ⟨v, s, aw, mn⟩
    simp only at v s aw mn ⊢
    have hsw := aw.sl
    have ET := E.tell hid6 (w.runs[i].watched.take j)
    have et : w.runs[i].watched.take (j + 1) = w.runs[i].watched.take j ++ [w.runs[i].watched[j]] := List.take_succ_eq_append_getElem hj
    have etl : tell id x.1 (w.runs[i].watched.take (j + 1)) = giveP (tell id x.1 (w.runs[i].watched.take j)) w.runs[i].watched[j] ⟨3, id⟩ := by
     rw [et]; unfold tell; rw [List.foldl_append]; rfl
    rw [etl]
    have hsn : (tell id x.1 (w.runs[i].watched.take j)).sent ≤ 1000000000000 := by have := ET.sent; rw [List.length_take] at this; simp only at this; omega
    have hkw := hwk _ (List.getElem_mem hj)
    obtain ⟨_, e5, k5, c5, cs5, rfl, v5, g5⟩ := c_l12Give v (ET.inv.sane hsn) w.runs[i].watched[j] ⟨3, id⟩
    have wj : IntKind.i64.wrap ((j : Int) + 1) = (j : Int) + 1 := wrapS (by omega) (by omega)
    simp only [encW, encV] at e5
    rw [Wp_body]
    simp [hsw.lenA, hj, ixA_nat hsw, hsw.at, e5]
    exact ⟨by kernel_rfl, k5, c5, ⟨wj, ⟨rfl, rfl, rfl, rfl, rfl, rfl, rfl⟩, rfl⟩, cs5, v5, s.trans g5, aw.step g5, mn.step g5⟩
   ·rintro ⟨k, c3, cs3⟩ ⟨v, s, aw, mn⟩
    simp only at v s aw mn ⊢
    rw [List.take_length] at v
    have hsw := aw.sl
    rw [Wp_body]
    simp [hsw.lenA, zeroW]
    refine ⟨rfl, k, c3, cs3, sn, rfl, ?_, s, ?_⟩
    ·unfold endP; rw [hx, ewatch]; exact v
    ·unfold endP; rw [hx]; exact mn.a
theorem sliceA_rest {k : H} {s : Cell} {es : Nat} {α : Type} {enc : α → List Cell} {x : α} {xs : List α} (hS : Sl k s es enc (x :: xs)) {T : TT} {t e : TypeId} {kk : IntKind} (ht : T.td t = .slice e) (ho : isOther T e = false) (he : T.size e = es) :
  ∃ s', sliceA T k t (.c s) (some (.c (.int kk 1))) none none = some (.c s') ∧ Sl k s' es enc xs ∧ s'.ids = s.ids ∧ ∀ id i n c, s' ≠ .sl id i n (some c) := by
 obtain ⟨id, i, b, rfl, hg, hes, hle, hel⟩ := hS.cons (n := 0) (by simp)
 have hlen := hS.len
 simp only [List.length_cons] at hle hel hlen
 have hcap : capOk k id i (xs.length + 1) none = true := by simp [capOk, hg]; omega
 have hx : ∀ y ∈ xs, (enc y).length = es := fun y hy => hS.1 y (List.mem_cons_of_mem _ hy)
 by_cases h1 : 1 < b.el.length - i
 ·refine ⟨.sl id (i + 1) xs.length none, ?_, ⟨hx, rfl, by omega, b, hg, hes, by omega, ?_⟩, rfl, by simp⟩
  ·have hb : (1 : Int) ≤ (xs.length : Int) + 1 := by omega
   simp [sliceA, ht, ho, hcap, lowOf, bound, cutA, hg, hes, he, h1, hb]
  ·have := congrArg List.tail hel
   rw [List.map_cons, List.tail_cons] at this
   rw [← this, ← List.drop_one, List.drop_take, List.drop_drop, show xs.length + 1 - 1 = xs.length by omega]
 ·have h0 : xs = [] := by
   have : xs.length = 0 := by omega
   exact List.length_eq_zero_iff.1 this
  subst h0
  refine ⟨.sle id i 1, ?_, ⟨by simp, rfl, b, hg, hes, by simp at hle; omega⟩, rfl, by simp⟩
  have h1' : ¬ 1 < b.el.length - i := h1
  have hcap' : capOk k id i 1 none = true := hcap
  simp [sliceA, ht, ho, hcap', lowOf, bound, cutA, hg, hes, he, h1']
theorem Mine.rest {o : Nat → Prop} {k : H} {x : Int} {xs : List Int} {s : Cell} (m : Mine lo o k (x :: xs) s) {T : TT} {t e : TypeId} {kk : IntKind} (ht : T.td t = .slice e) (ho : isOther T e = false) (he : T.size e = 1) :
  ∃ s', sliceA T k t (.c s) (some (.c (.int kk 1))) none none = some (.c s') ∧ Mine lo o k xs s' := by
 obtain ⟨s', e1, h1, h2, h3⟩ := sliceA_rest m.a.sl (kk := kk) ht ho he
 exact ⟨s', e1, ⟨h1, by rw [h2]; exact m.a.out, h3⟩, fun id hid => m.wr id (by rw [← h2]; exact hid), by rw [h2]; exact m.ge⟩
set_option maxRecDepth 16000 in
set_option maxHeartbeats 2000000 in
theorem c_l13End (hV : WorldV lo h w c cs cs) (I : Inv w) (hs : w.sent ≤ 10000000000) {id : Int} (hid : 1 ≤ id ∧ id ≤ w.runs.length) {why : PVal} (hw : valOk why = true) :
  @Wp _ (Dz.den 41 [.g (encW c), .c (.int .i64 id), .g (encV why)] h) ⟨StepQ lo h (part c cs) (fallP w id why)⟩ := by
 refine den_wp rfl Tryz.func41 rfl ?_
 simp [Tryz.f41]
 have hr6 := I.many.2
 have hal := aliveN_le w.runs
 refine loop_wp (σ := (H × WorldC × List RunC × Cell) × PWorld × List Int × Nat) (fun s => ([.c s.1.2.2.2], [encW s.1.2.1, encV why, zeroW], [], s.1.1))
  (fun s => WorldV lo s.1.1 s.2.1 s.1.2.1 s.1.2.2.1 s.1.2.2.1 ∧ StepV h (part c cs) s.1.1 (part s.1.2.1 s.1.2.2.1) ∧ Mine h.length (Owned (part s.1.2.1 s.1.2.2.1)) s.1.1 s.2.2.1 s.1.2.2.2 ∧ Inv s.2.1 ∧ s.2.1.runs.length = w.runs.length ∧
   s.2.1.sent + 12 * s.2.2.2 ≤ 20000000000 ∧ fallN s.2.2.2 s.2.1 s.2.2.1 why = fallP w id why ∧ s.2.2.1.length + 7 * aliveN s.2.1.runs ≤ s.2.2.2 ∧ s.2.2.2 ≤ 64 ∧ ∀ k ∈ s.2.2.1, 1 ≤ k ∧ k ≤ w.runs.length)
  (fun s => s.2.2.2) ((h.push ⟨false, 1, [encI id]⟩, c, cs, .sl h.length 0 1 none), w, [id], 64) ?_ ⟨?_, ?_, ?_, I, rfl, by simp only; omega, rfl, by simp only [List.length_singleton]; omega, by simp, by simpa using hid⟩ ?_
 ·simp [zeroW]
 ·exact hV.ext (Ext.push _ _)
 ·exact StepV.of_ext (Ext.push _ _)
 ·refine ⟨⟨⟨by simp, by simp, by simp [sMost], _, get_push_self, rfl, by simp, by simp⟩, fun q hq ho => ?_, by simp⟩, fun q hq => ?_, fun q hq => ?_⟩
  ·simp only [Cell.ids, List.mem_singleton] at hq
   have := hV.own.owned_lt q ho; omega
  ·simp only [Cell.ids, List.mem_singleton] at hq; subst hq; exact ⟨_, get_push_self, rfl⟩
  ·simp only [Cell.ids, List.mem_singleton] at hq; omega
 ·rintro ⟨⟨k, c1, cs1, s1⟩, w1, ks, n⟩ ⟨v, s, mm, I1, l1, b1, f1, m1, n1, r1⟩
  simp only at v s mm I1 l1 b1 f1 m1 n1 r1 ⊢
  cases ks with
  | nil =>
   have e0 : fallN n w1 [] why = w1 := by cases n <;> rfl
   rw [e0] at f1
   rw [Wp_body]
   simp [mm.a.sl.lenA, zeroW]
   exact ⟨k, c1, cs1, rfl, by rw [← f1]; exact v, s⟩
  | cons q rest =>
   obtain ⟨n, rfl⟩ : ∃ n', n = n' + 1 := ⟨n - 1, by simp only [List.length_cons] at m1; omega⟩
   have hq := r1 q (by simp)
   have hrest : ∀ k ∈ rest, 1 ≤ k ∧ k ≤ w.runs.length := fun k hk => r1 k (List.mem_cons_of_mem _ hk)
   obtain ⟨i, e, ei, hi, hg, R⟩ := I1.run (id := q) ⟨hq.1, by rw [l1]; exact hq.2⟩
   have hri : runAt w1 q = w1.runs[i] := by have := List.getElem?_eq_getElem hi; rw [hg] at this; simpa using this
   have hlen := v.len
   have hi' : i < cs1.length := by omega
   have hS := v.runs
   have hst := (v.each i hi).state
   obtain ⟨s2, es, m2⟩ := mm.rest (T := TTz) (t := 25) (e := 3) (kk := .i64) rfl rfl rfl
   have wi : IntKind.i64.wrap (i : Int) = i := wrapS (by omega) (by omega)
   simp only [fallN] at f1
   have hsl := mm.a.sl
   have hx1 : ixA TTz k (.slice 3) (.c s1) (.c (.int .i64 0)) = some (.c (.ptr (sid s1) (soff s1) 0)) := ixA_nat hsl (n := 0) rfl rfl (by simp)
   have hx2 : k.cellsAt (sid s1) (soff s1) 0 1 = some [.int .i64 q] := by have := hsl.at (n := 0) (k := 0) (m := 1) (by simp) (by omega); simpa using this
   simp only [List.length_cons] at m1
   by_cases a3 : w1.runs[i].state = 3
   ·have na : ¬ Alive w1 q := fun h => h.2 (by rw [hri]; exact a3)
    rw [if_neg na] at f1
    have a3' : cs1[i].state = 3 := by rw [hst, a3]
    rw [Wp_body]
    simp [hsl.lenA, hx1, hx2, es, e, wi, ixA_nat hS, hi', hS.at, a3']
    exact ⟨k, c1, cs1, s2, ⟨rfl, ⟨rfl, rfl, rfl, rfl, rfl, rfl, rfl⟩, rfl⟩, w1, rest, n, ⟨v, s, m2, I1, l1, by omega, f1, by omega, by omega, hrest⟩, by omega⟩
   ·have na : Alive w1 q := ⟨⟨hq.1, by rw [l1]; exact hq.2⟩, by rw [hri]; exact a3⟩
    rw [if_pos na] at f1
    have a3' : ¬ cs1[i].state = 3 := by rw [hst]; exact a3
    obtain ⟨E, al1, nl⟩ := I1.endP na hw
    obtain ⟨_, e3, k3, c3, cs3, s3, rfl, v3, g3, ap3⟩ := c_l13One v I1 (by omega) na hw
    have m3 := m2.step g3
    obtain ⟨s4, k4, e4, ma⟩ := m3.app (lo := h.length) ap3.sl ap3.cap (by unfold lenMost; omega)
    have hl3 := Nat.le_trans s.chg.len g3.chg.len
    have m4 := ma.mine m3 (fun id h => v3.own.owned_lt id h) hl3
    have v4 := v3.chg ma.chg fun id ho hid => m3.a.out id hid ho
    have S4 := (s.trans g3).then ma.chg fun q hq => m3.ge q hq
    simp only [encW, encV] at e3
    rw [e] at e3
    rw [Wp_body]
    simp [hsl.lenA, hx1, hx2, es, e, wi, ixA_nat hS, hi', hS.at, a3', e3, e4]
    rw [e] at v4 m4 f1 E nl
    refine ⟨k4, c3, cs3, s4, ⟨rfl, ⟨rfl, rfl, rfl, rfl, rfl, rfl, rfl⟩, rfl⟩, _, _, n, ⟨v4, S4, m4, E.inv, by rw [E.len, l1], by have := E.sent; omega, f1, ?_, by omega, fun k hk => ?_⟩, by omega⟩
    ·have := E.alive; simp only [List.length_append]; omega
    ·rcases List.mem_append.1 hk with hk | hk
     ·exact hrest k hk
     ·have := E.next k hk; rw [l1] at this; exact this
end Go.Proofs.YtmkiojlebjknlaaGreat

/-
 WHAT IS DRAWN: the reader of bytes; what one pick answers.
-/
set_option maxRecDepth 8000
namespace Go.Proofs.YtmkiojlebjknlaaGreat
open Go.AM
variable {h : H}
def encU (n : Int) : List Cell := [.int .u8 n]
@[simp] theorem encU_len (n : Int) : (encU n).length = 1 := rfl
structure Rdr (h : H) (p : Nat) (d : Cell) (bs : List Int) (n : Nat) : Prop where
 at_ : h.get p = some ⟨false, 2, [[d, .int .i64 n]]⟩
 data : SlA h d 1 encU bs
 rng : ∀ b ∈ bs, 0 ≤ b ∧ b ≤ 255
 out : p ∉ d.ids
def rdrTo (h : H) (p : Nat) (d : Cell) (n : Nat) : H := h.set p (some ⟨false, 2, [[d, .int .i64 n]]⟩)
def PickQ (h : H) (p : Nat) (d : Cell) (bs : List Int) (n : Nat) (m : Int) (x : V × H) : Prop :=
 ∃ v : Int, x = (.c (.int .i64 v), rdrTo h p d (n + 1)) ∧ Rdr (rdrTo h p d (n + 1)) p d bs (n + 1) ∧ 0 ≤ v ∧ (1 ≤ m → v < m) ∧ (m < 1 → v = 0)
theorem SlA.same {α : Type} {enc : α → List Cell} {es : Nat} {xs : List α} {d : Cell} {k : H} (hS : SlA h d es enc xs) (hk : ∀ id ∈ d.ids, k.get id = h.get id) : SlA k d es enc xs := by
 rcases hS with h1 | h1
 ·exact .inl (h1.same hk)
 ·exact .inr h1
theorem Rdr.lt {p : Nat} {d : Cell} {bs : List Int} {n : Nat} (R : Rdr h p d bs n) : p < h.length := H.get_lt R.at_
theorem Rdr.to {p : Nat} {d : Cell} {bs : List Int} {n : Nat} (R : Rdr h p d bs n) (m : Nat) : Rdr (rdrTo h p d m) p d bs m := by
 refine ⟨by unfold rdrTo; rw [H.get_set _ _ _ _ R.lt, if_pos rfl], SlA.same R.data fun id hid => ?_, R.rng, R.out⟩
 unfold rdrTo
 rw [H.get_set _ _ _ _ R.lt, if_neg (fun e => by rw [e] at hid; exact R.out hid)]
theorem xor_nn {a b : Int} (ha : 0 ≤ a) (ha' : a < 9223372036854775808) (hb : 0 ≤ b) (hb' : b < 9223372036854775808) :
  0 ≤ IntKind.i64.wrap ((BitVec.ofInt IntKind.i64.bits a ^^^ BitVec.ofInt IntKind.i64.bits b).toNat) := by
 have e1 : (BitVec.ofInt IntKind.i64.bits a).toNat = a.toNat := by
  simp [IntKind.bits]; omega
 have e2 : (BitVec.ofInt IntKind.i64.bits b).toNat = b.toNat := by
  simp [IntKind.bits]; omega
 rw [BitVec.toNat_xor, e1, e2]
 have h1 : a.toNat < 2 ^ 63 := by omega
 have h2 : b.toNat < 2 ^ 63 := by omega
 have := Nat.xor_lt_two_pow h1 h2
 rw [wrap_i64 (by omega) (by omega)]
 omega
set_option maxRecDepth 16000 in
set_option maxHeartbeats 1000000 in
theorem c_pick {p : Nat} {d : Cell} {bs : List Int} {n : Nat} (R : Rdr h p d bs n) (hn : n ≤ 1000000000) {m : Int} (hm : m ≤ 1000000000) : @Wp _ (Dz.den 33 [.c (.ptr p 0 0), .c (.int .i64 m)] h) ⟨PickQ h p d bs n m⟩ := by
 refine den_wp rfl Tryz.func33 rfl ?_
 have hp := R.at_
 have R2 := R.to (n + 1)
 have hp2 := R2.at_
 have w1 : IntKind.i64.wrap ((n : Int) + 1) = (n : Int) + 1 := wrapS (by omega) (by omega)
 have w2 : IntKind.i64.wrap (n : Int) = n := wrapS (by omega) (by omega)
 have e1 : h.write p 0 1 [.int .i64 ((n : Int) + 1)] = some (rdrTo h p d (n + 1)) := by
  simp [H.write, hp, splice, rdrTo]
 unfold PickQ
 by_cases m1 : m < 1
 ·simp [Tryz.f33, at_blk hp, w1, e1, m1]
  exact ⟨R2, by omega⟩
 by_cases b0 : bs.length = 0
 ·have eL := fun e => R2.data.lenA (e := e)
  rw [b0] at eL
  simp [Tryz.f33, at_blk hp, w1, e1, m1, at_blk hp2, eL]
  exact ⟨R2, by omega⟩
 have eL := fun e => R2.data.lenA (e := e)
 have hlen := R.data.len
 have bne : ¬ ((bs.length : Int) = 0) := by omega
 have hD := R2.data
 have fin : ∀ {x : Int}, 0 ≤ x → 0 ≤ x.tmod m ∧ x.tmod m < m := fun hx => ⟨Int.tmod_nonneg _ hx, Int.tmod_lt_of_pos _ (by omega)⟩
 have m0 : ¬ m = 0 := by omega
 by_cases c : n < bs.length
 ·have c' : (n : Int) < bs.length := by omega
  have hb := R.rng bs[n] (List.getElem_mem c)
  have wb : IntKind.i64.wrap bs[n] = bs[n] := wrapS (by omega) (by omega)
  simp [Tryz.f33, at_blk hp, w1, w2, e1, m1, m0, b0, at_blk hp2, eL, bne, c, c', ixA_natA hD, hD.at, encU, wb]
  exact ⟨R2, (fin hb.1).1, fun _ => (fin hb.1).2⟩
 ·have c' : ¬ (n : Int) < bs.length := by omega
  have l0 : 0 < bs.length := by omega
  have d1 : (n : Int).tmod bs.length = ((n % bs.length : Nat) : Int) := (Int.ofNat_tmod _ _).symm
  have d2 : ((n : Int) * 7 + 3).tmod bs.length = (((n * 7 + 3) % bs.length : Nat) : Int) := by
   rw [show ((n : Int) * 7 + 3) = ((n * 7 + 3 : Nat) : Int) by omega]; exact (Int.ofNat_tmod _ _).symm
  have d3 : (n : Int).tdiv bs.length = ((n / bs.length : Nat) : Int) := (Int.ofNat_tdiv _ _).symm
  have i1 : n % bs.length < bs.length := Nat.mod_lt _ l0
  have i2 : (n * 7 + 3) % bs.length < bs.length := Nat.mod_lt _ l0
  have q1 : n / bs.length ≤ n := Nat.div_le_self _ _
  have hb1 := R.rng bs[n % bs.length] (List.getElem_mem i1)
  have hb2 := R.rng bs[(n * 7 + 3) % bs.length] (List.getElem_mem i2)
  generalize n % bs.length = j1 at *
  generalize (n * 7 + 3) % bs.length = j2 at *
  generalize n / bs.length = q at *
  generalize hx1 : bs[j1] = x1 at *
  generalize hx2 : bs[j2] = x2 at *
  have a1 : IntKind.i64.wrap x1 = x1 := wrapS (by omega) (by omega)
  have a2 : IntKind.i64.wrap x2 = x2 := wrapS (by omega) (by omega)
  have a3 : IntKind.i64.wrap (x1 * 131) = x1 * 131 := wrapS (by omega) (by omega)
  have a4 : IntKind.i64.wrap ((n : Int) * 7) = (n : Int) * 7 := wrapS (by omega) (by omega)
  have a5 : IntKind.i64.wrap ((n : Int) * 7 + 3) = (n : Int) * 7 + 3 := wrapS (by omega) (by omega)
  have a6 : IntKind.i64.wrap (x2 * 1117) = x2 * 1117 := wrapS (by omega) (by omega)
  have a7 : IntKind.i64.wrap (x1 * 131 + x2 * 1117) = x1 * 131 + x2 * 1117 := wrapS (by omega) (by omega)
  have a8 : IntKind.i64.wrap ((n : Int) * 29) = (n : Int) * 29 := wrapS (by omega) (by omega)
  have a9 : IntKind.i64.wrap (x1 * 131 + x2 * 1117 + (n : Int) * 29) = x1 * 131 + x2 * 1117 + (n : Int) * 29 := wrapS (by omega) (by omega)
  have a10 : IntKind.i64.wrap (q : Int) = q := wrapS (by omega) (by omega)
  have a11 : IntKind.i64.wrap ((q : Int) * 53) = (q : Int) * 53 := wrapS (by omega) (by omega)
  have a12 : IntKind.i64.wrap (x1 * 131 + x2 * 1117 + (n : Int) * 29 + (q : Int) * 53) = x1 * 131 + x2 * 1117 + (n : Int) * 29 + (q : Int) * 53 := wrapS (by omega) (by omega)
  have gX : 0 ≤ x1 * 131 + x2 * 1117 + (n : Int) * 29 + (q : Int) * 53 ∧ x1 * 131 + x2 * 1117 + (n : Int) * 29 + (q : Int) * 53 ≤ 100000000000 := by omega
  have gY : 0 ≤ (x1 * 131 + x2 * 1117 + (n : Int) * 29 + (q : Int) * 53).tdiv 64 ∧ (x1 * 131 + x2 * 1117 + (n : Int) * 29 + (q : Int) * 53).tdiv 64 ≤ 100000000000 := by
   rw [Int.tdiv_eq_ediv_of_nonneg gX.1]; omega
  have a13 := wrapS gY.1 (by omega)
  have gZ := xor_nn gX.1 (by omega) gY.1 (by omega)
  simp [Tryz.f33, at_blk hp, w1, w2, e1, m1, m0, b0, at_blk hp2, eL, bne, c', ixA_natA hD, hD.at, encU, d1, d2, d3, i1, i2, hx1, hx2, a1, a2, a3, a4, a5, a6, a7, a8, a9, a10, a11, a12, a13]
  simp at gZ
  exact ⟨by kernel_rfl, R2, (fin gZ).1, fun _ => (fin gZ).2⟩
end Go.Proofs.YtmkiojlebjknlaaGreat

/-
 WHAT IS DRAWN: values.
-/
set_option maxRecDepth 8000
namespace Go.Proofs.YtmkiojlebjknlaaGreat
open Go.AM
variable {h k : H} {p n m : Nat} {d : Cell} {bs : List Int}
theorem rdrTo_chg (R : Rdr h p d bs n) : Chg h (fun id => id = p) (rdrTo h p d m) := by
 refine ⟨by simp [rdrTo], fun id hid hne => ?_⟩
 unfold rdrTo
 rw [H.get_set _ _ _ _ R.lt, if_neg hne]
theorem Rdr.ext (R : Rdr h p d bs n) (x : Ext h k) : Rdr k p d bs n := ⟨by rw [x.2 _ R.lt]; exact R.at_, R.data.ext x, R.rng, R.out⟩
theorem Sl.chgp {α : Type} {enc : α → List Cell} {es : Nat} {xs : List α} {s : Cell} (hS : Sl h s es enc xs) (c : Chg h (fun id => id = p) k) (hp : p ∉ s.ids) : Sl k s es enc xs :=
 hS.same fun id hid => c.keep id (hS.ids_lt id hid) fun e => by rw [e] at hid; exact hp hid
def DrawQ (h : H) (p : Nat) (d : Cell) (bs : List Int) (n K : Nat) (P : V → H → Prop) (x : V × H) : Prop :=
 ∃ v k m, x = (v, k) ∧ P v k ∧ Rdr k p d bs m ∧ m ≤ n + K ∧ Chg h (fun id => id = p) k
theorem pick1 (R : Rdr h p d bs n) (hn : n ≤ 1000000000) {m : Int} (h1 : 1 ≤ m) (hm : m ≤ 1000000000) :
  ∃ v : Nat, ∃ k, Dz.den 33 [.c (.ptr p 0 0), .c (.int .i64 m)] h = some (.c (.int .i64 v), k) ∧ (v : Int) < m ∧ Rdr k p d bs (n + 1) ∧ Chg h (fun id => id = p) k := by
 obtain ⟨_, e, v, rfl, R1, g0, g1, _⟩ := c_pick R hn hm
 obtain ⟨j, rfl⟩ := Int.eq_ofNat_of_zero_le g0
 exact ⟨j, _, e, g1 h1, R1, rdrTo_chg R⟩
theorem _root_.Go.AM.Chg.pp {h1 h2 h3 : H} (a : Chg h1 (fun id => id = p) h2) (b : Chg h2 (fun id => id = p) h3) : Chg h1 (fun id => id = p) h3 := a.trans b fun _ _ h => h
theorem pickRow (R : Rdr h p d bs n) (hn : n ≤ 1000000000) (xs : List Int) (h0 : xs ≠ []) (hl : xs.length ≤ 1000) :
  ∃ j : Nat, ∃ k, ∃ hj : j < xs.length, Dz.den 33 [.c (.ptr p 0 0), .c (.int .i64 xs.length)] (h.push ⟨false, 1, xs.map encI⟩) = some (.c (.int .i64 j), k) ∧ Rdr k p d bs (n + 1) ∧ Chg h (fun id => id = p) k ∧
   ixA TTz k (.slice 3) (.c (.sl h.length 0 xs.length none)) (.c (.int .i64 j)) = some (.c (.ptr h.length j 0)) ∧ k.cellsAt h.length j 0 1 = some [.int .i64 xs[j]] := by
 have hx : 0 < xs.length := by cases xs with | nil => exact absurd rfl h0 | cons a t => simp
 obtain ⟨j, k, e, g1, R1, c1⟩ := pick1 (R.ext (Ext.push h ⟨false, 1, xs.map encI⟩)) hn (m := xs.length) (by omega) (by omega)
 have hj : j < xs.length := by omega
 have S0 : Sl (h.push ⟨false, 1, xs.map encI⟩) (.sl h.length 0 xs.length none) 1 encI xs := Sl.new (by simp) (by unfold sMost; omega)
 have S := Sl.chgp S0 c1 (by simp only [Cell.ids, List.mem_singleton]; have := R.lt; omega)
 refine ⟨j, k, hj, e, R1, (Chg.of_ext (Ext.push _ _) _).pp c1, ?_, ?_⟩
 ·have := ixA_nat S (T := TTz) (e := 3) (k := .i64) rfl rfl hj
  simpa [sid, soff] using this
 ·have := S.at (n := j) (k := 0) (m := 1) hj (by omega)
  simpa [sid, soff, hj] using this
set_option maxRecDepth 16000 in
set_option maxHeartbeats 4000000 in
theorem c_l71Val (R : Rdr h p d bs n) (hn : n ≤ 100000000) : @Wp _ (Dz.den 183 [.c (.ptr p 0 0)] h) ⟨DrawQ h p d bs n 10 (fun v _ => ∃ x : PVal, v = .g (encV x))⟩ := by
 refine den_wp rfl Tryz.func183 rfl ?_
 obtain ⟨v1, k1, e1, b1, R1, c1⟩ := pick1 R (by omega) (m := 4) (by omega) (by omega)
 have rest : ∀ (g : H) (q : Nat) (_ : Rdr g p d bs q) (_ : q ≤ n + 2) (_ : Chg h (fun id => id = p) g), ∃ v2 k2, Dz.den 33 [.c (.ptr p 0 0), .c (.int .i64 30)] g = some (.c (.int .i64 (v2 : Nat)), k2) ∧ Rdr k2 p d bs (q + 1) ∧ Chg h (fun id => id = p) k2 ∧
   (∃ j k3, ∃ hj : j < [(-100 : Int), 100, 10].length, Dz.den 33 [.c (.ptr p 0 0), .c (.int .i64 3)] (k2.push ⟨false, 1, [[.int .i64 (-100)], [.int .i64 100], [.int .i64 10]]⟩) = some (.c (.int .i64 (j : Nat)), k3) ∧ Rdr k3 p d bs (q + 2) ∧ Chg h (fun id => id = p) k3 ∧
    ixA TTz k3 (.slice 3) (.c (.sl k2.length 0 3 none)) (.c (.int .i64 (j : Nat))) = some (.c (.ptr k2.length j 0)) ∧ k3.cellsAt k2.length j 0 1 = some [.int .i64 [(-100 : Int), 100, 10][j]]) ∧
   (∃ j k3, Dz.den 33 [.c (.ptr p 0 0), .c (.int .i64 6)] k2 = some (.c (.int .i64 (j : Nat)), k3) ∧ Rdr k3 p d bs (q + 2) ∧ Chg h (fun id => id = p) k3) := by
  intro g q Rg hq cg
  obtain ⟨v2, k2, e2, _, R2, c2⟩ := pick1 Rg (by omega) (m := 30) (by omega) (by omega)
  obtain ⟨j, k3, hj, e3, R3, c3, i3, a3⟩ := pickRow R2 (by omega) [(-100 : Int), 100, 10] (by simp) (by simp)
  obtain ⟨j4, k4, e4, _, R4, c4⟩ := pick1 R2 (by omega) (m := 6) (by omega) (by omega)
  exact ⟨v2, k2, e2, R2, cg.pp c2, ⟨j, k3, hj, by simpa using e3, R3, (cg.pp c2).pp c3, by simpa using i3, a3⟩, j4, k4, e4, R4, (cg.pp c2).pp c4⟩
 have fin : ∀ (g : H) (q : Nat) (x : PVal), Rdr g p d bs q → q ≤ n + 10 → Chg h (fun id => id = p) g → ∀ r : V × H, r = (.g (encV x), g) → DrawQ h p d bs n 10 (fun v _ => ∃ x : PVal, v = .g (encV x)) r := fun g q x Rg hq cg r hr => ⟨_, g, q, hr, ⟨x, rfl⟩, Rg, hq, cg⟩
 by_cases y1 : v1 = 1
 ·subst y1
  obtain ⟨j, k3, hj, e3, R3, c3, i3, a3⟩ := pickRow R1 (by omega) [(0 : Int), 1, 2, 3, -1, 7, 50, 99, -99] (by simp) (by simp)
  simp at e1 e3 i3 a3
  obtain ⟨v2, k4, e4, R4, c4, ⟨j5, k5, hj5, e5, R5, c5, i5, a5⟩, j6, k6, e6, R6, c6⟩ := rest k3 _ R3 (by omega) (c1.pp c3)
  by_cases z0 : v2 = 0
  ·subst z0
   simp at e4
   simp [Tryz.f183, e1, e3, i3, a3, e4, e5, i5, a5]
   exact fin k5 _ ⟨_, _⟩ R5 (by omega) c5 _ rfl
  have z0' : ¬ (v2 : Int) = 0 := by omega
  by_cases z1 : v2 = 1
  ·subst z1
   simp at e4
   simp [Tryz.f183, e1, e3, i3, a3, e4, e6]
   exact fin k6 _ ⟨_, _⟩ R6 (by omega) c6 _ rfl
  have z1' : ¬ (v2 : Int) = 1 := by omega
  simp [Tryz.f183, e1, e3, i3, a3, e4, z0, z0', z1, z1']
  exact fin k4 _ ⟨_, _⟩ R4 (by omega) c4 _ rfl
 have y1' : ¬ (v1 : Int) = 1 := by omega
 by_cases y2 : v1 = 2
 ·subst y2
  obtain ⟨j, k3, e3, _, R3, c3⟩ := pick1 R1 (by omega) (m := 5) (by omega) (by omega)
  simp at e1
  obtain ⟨v2, k4, e4, R4, c4, ⟨j5, k5, hj5, e5, R5, c5, i5, a5⟩, j6, k6, e6, R6, c6⟩ := rest k3 _ R3 (by omega) (c1.pp c3)
  by_cases z0 : v2 = 0
  ·subst z0
   simp at e4
   simp [Tryz.f183, e1, e3, e4, e5, i5, a5]
   exact fin k5 _ ⟨_, _⟩ R5 (by omega) c5 _ rfl
  have z0' : ¬ (v2 : Int) = 0 := by omega
  by_cases z1 : v2 = 1
  ·subst z1
   simp at e4
   simp [Tryz.f183, e1, e3, e4, e6]
   exact fin k6 _ ⟨_, _⟩ R6 (by omega) c6 _ rfl
  have z1' : ¬ (v2 : Int) = 1 := by omega
  simp [Tryz.f183, e1, e3, e4, z0, z0', z1, z1']
  exact fin k4 _ ⟨_, _⟩ R4 (by omega) c4 _ rfl
 have y2' : ¬ (v1 : Int) = 2 := by omega
 by_cases y3 : v1 = 3
 ·subst y3
  obtain ⟨j, k3, e3, hj3, R3, c3⟩ := pick1 R1 (by omega) (m := 4) (by omega) (by omega)
  have wj : IntKind.i64.wrap (1 + (j : Int)) = 1 + j := wrapS (by omega) (by omega)
  simp at e1
  obtain ⟨v2, k4, e4, R4, c4, ⟨j5, k5, hj5, e5, R5, c5, i5, a5⟩, j6, k6, e6, R6, c6⟩ := rest k3 _ R3 (by omega) (c1.pp c3)
  by_cases z0 : v2 = 0
  ·subst z0
   simp at e4
   simp [Tryz.f183, e1, e3, wj, e4, e5, i5, a5]
   exact fin k5 _ ⟨_, _⟩ R5 (by omega) c5 _ rfl
  have z0' : ¬ (v2 : Int) = 0 := by omega
  by_cases z1 : v2 = 1
  ·subst z1
   simp at e4
   simp [Tryz.f183, e1, e3, wj, e4, e6]
   exact fin k6 _ ⟨_, _⟩ R6 (by omega) c6 _ rfl
  have z1' : ¬ (v2 : Int) = 1 := by omega
  simp [Tryz.f183, e1, e3, wj, e4, z0, z0', z1, z1']
  exact fin k4 _ ⟨_, _⟩ R4 (by omega) c4 _ rfl
 have y3' : ¬ (v1 : Int) = 3 := by omega
 obtain ⟨v2, k4, e4, R4, c4, ⟨j5, k5, hj5, e5, R5, c5, i5, a5⟩, j6, k6, e6, R6, c6⟩ := rest k1 _ R1 (by omega) c1
 by_cases z0 : v2 = 0
 ·subst z0
  simp at e4
  simp [Tryz.f183, e1, y1, y1', y2, y2', y3, y3', e4, e5, i5, a5]
  exact fin k5 _ ⟨_, _⟩ R5 (by omega) c5 _ rfl
 have z0' : ¬ (v2 : Int) = 0 := by omega
 by_cases z1 : v2 = 1
 ·subst z1
  simp at e4
  simp [Tryz.f183, e1, y1, y1', y2, y2', y3, y3', e4, e6]
  exact fin k6 _ ⟨_, _⟩ R6 (by omega) c6 _ rfl
 have z1' : ¬ (v2 : Int) = 1 := by omega
 simp [Tryz.f183, e1, y1, y1', y2, y2', y3, y3', e4, z0, z0', z1, z1']
 exact fin k4 _ ⟨_, _⟩ R4 (by omega) c4 _ rfl
end Go.Proofs.YtmkiojlebjknlaaGreat
