/-
  What functions of the seat answer, each proved once; each under the condition that cells bear what it is given, as its statement says.
-/
import Derived.Test.YtmkiojlebjknlaaGreatWalkA18
import Derived.Test.YtmkiojlebjknlaaGreatWalkA15
import Derived.Test.YtmkiojlebjknlaaGreatWalkA16
set_option linter.all false
/-
 THE PROGRAM's fall: what it answers.
-/
set_option maxRecDepth 8000
namespace Go.Proofs.YtmkiojlebjknlaaGreat
open Go.AM
variable {h h' : H} {lo p : Nat} {w : PWorld} {c : WorldC} {st cs : List RunC}
theorem aliveC_iff {id : Int} : aliveC w.runs id = true ↔ Alive w id := by
 simp only [aliveC, Bool.and_eq_true, decide_eq_true_eq]
 exact Iff.rfl
theorem aliveC_not {id : Int} (h : ¬ Alive w id) : aliveC w.runs id = false := by
 cases e : aliveC w.runs id
 ·rfl
 ·exact absurd (aliveC_iff.1 e) h
set_option maxRecDepth 16000 in
set_option maxHeartbeats 2000000 in
theorem c_fall (hP : WorldP lo h p w c cs) (I : Inv w) (hs : w.sent ≤ 10000000000) (id : Int) {why : PVal} (hw : valOk why = true) :
  @Wp _ (Dz.den 36 [.c (.ptr p 0 0), .c (.int .i64 id), .g (encV why)] h) ⟨DoneQ lo h p (fallP w id why) c cs⟩ := by
 refine den_wp rfl Tryz.func36 rfl ?_
 simp [Tryz.f36]
 have hr6 := I.many.2
 have hal := aliveN_le w.runs
 refine loop_wp (σ := (H × WorldC × List RunC × Cell) × PWorld × List Int × Nat) (fun s => ([.c (.ptr p 0 0), .c s.1.2.2.2], [encV why], [], s.1.1))
  (fun s => WorldP lo s.1.1 p s.2.1 s.1.2.1 s.1.2.2.1 ∧ StepP h p (part c cs) s.1.1 (part s.1.2.1 s.1.2.2.1) ∧ Mine h.length (OwnP p (part s.1.2.1 s.1.2.2.1)) s.1.1 s.2.2.1 s.1.2.2.2 ∧ Inv s.2.1 ∧ s.2.1.runs.length = w.runs.length ∧
   s.2.1.sent + 12 * s.2.2.2 ≤ 20000000000 ∧ fallN s.2.2.2 s.2.1 s.2.2.1 why = fallP w id why ∧ s.2.2.1.length + 7 * aliveN s.2.1.runs ≤ s.2.2.2 ∧ s.2.2.2 ≤ 64 ∧ s.1.2.1.runs = c.runs)
  (fun s => s.2.2.2) ((h.push ⟨false, 1, [encI id]⟩, c, cs, .sl h.length 0 1 none), w, [id], 64) rfl ⟨?_, ?_, ?_, I, rfl, by simp only; omega, rfl, by simp only [List.length_singleton]; omega, by simp, rfl⟩ ?_
 ·exact hP.ext (Ext.push _ _)
 ·exact (StepV.of_ext (Ext.push _ _)).toP
 ·refine ⟨⟨⟨by simp, by simp, by simp [sMost], _, get_push_self, rfl, by simp, by simp⟩, fun q hq ho => ?_, by simp⟩, fun q hq => ?_, fun q hq => ?_⟩
  ·simp only [Cell.ids, List.mem_singleton] at hq
   have := hP.own_lt q ho; omega
  ·simp only [Cell.ids, List.mem_singleton] at hq; subst hq; exact ⟨_, get_push_self, rfl⟩
  ·simp only [Cell.ids, List.mem_singleton] at hq; omega
 ·rintro ⟨⟨k, c1, cs1, s1⟩, w1, ks, n⟩ ⟨P, s, mm, I1, l1, b1, f1, m1, n1, cr⟩
  simp only at P s mm I1 l1 b1 f1 m1 n1 cr ⊢
  cases ks with
  | nil =>
   have e0 : fallN n w1 [] why = w1 := by cases n <;> rfl
   rw [e0] at f1
   rw [Wp_body]
   simp [mm.a.sl.lenA]
   exact ⟨rfl, k, c1, cs1, rfl, by rw [← f1]; exact P, s, cr⟩
  | cons q rest =>
   obtain ⟨n, rfl⟩ : ∃ n', n = n' + 1 := ⟨n - 1, by simp only [List.length_cons] at m1; omega⟩
   have v := P.v
   have hS := v.runs
   simp only [fallN] at f1
   have hsl := mm.a.sl
   have hx1 : ixA TTz k (.slice 3) (.c s1) (.c (.int .i64 0)) = some (.c (.ptr (sid s1) (soff s1) 0)) := ixA_nat hsl (n := 0) rfl rfl (by simp)
   have hx2 : k.cellsAt (sid s1) (soff s1) 0 1 = some [.int .i64 q] := by have := hsl.at (n := 0) (k := 0) (m := 1) (by simp) (by omega); simpa using this
   simp only [List.length_cons] at m1
   have ea := c_alive (ro := false) P.at_ v.rd.runs q
   by_cases na : Alive w1 q
   ·rw [if_pos na] at f1
    rw [if_pos (aliveC_iff.2 na)] at ea
    obtain ⟨E, al1, nl⟩ := I1.endP na hw
    obtain ⟨_, e3, k3, c3, cs3, s3, rfl, P3, g3, r3, ap3⟩ := c_end P I1 (by omega) na hw
    have m3 := mm.stepP g3
    obtain ⟨s4, k4, e4, ma⟩ := m3.app (lo := h.length) ap3.sl ap3.cap (by simp only [List.length_cons]; unfold lenMost; omega)
    have hl3 := Nat.le_trans s.chg.len g3.chg.len
    have m4 := ma.mine m3 (fun id h => P3.own_lt id h) hl3
    have P4 := P3.chg ma.chg fun id ho hid => m3.a.out id hid ho
    have S4 := (s.trans g3).then ma.chg fun q hq => m3.ge q hq
    obtain ⟨s5, e5, m5⟩ := Mine.rest (x := q) (xs := rest ++ (endP w1 q why).2) m4 (T := TTz) (t := 25) (e := 3) (kk := .i64) rfl rfl rfl
    simp only [encV] at e3
    rw [Wp_body]
    simp [hsl.lenA, hx1, hx2, ea, e3, e4, e5]
    refine ⟨by kernel_rfl, k4, c3, cs3, s5, ⟨rfl, rfl⟩, _, _, n, ⟨P4, S4, m5, E.inv, by rw [E.len, l1], by have := E.sent; omega, f1, ?_, by omega, r3.trans cr⟩, by omega⟩
    have := E.alive; simp only [List.length_append]; omega
   ·rw [if_neg na] at f1
    have nc := aliveC_not na
    rw [nc] at ea
    obtain ⟨s2, es, m2⟩ := mm.rest (T := TTz) (t := 25) (e := 3) (kk := .i64) rfl rfl rfl
    rw [Wp_body]
    simp [hsl.lenA, hx1, hx2, ea, es]
    exact ⟨k, c1, cs1, s2, ⟨rfl, rfl⟩, w1, rest, n, ⟨P, s, m2, I1, l1, by omega, f1, by omega, by omega, cr⟩, by omega⟩
end Go.Proofs.YtmkiojlebjknlaaGreat

/-
 THE PROGRAM'S parts of steps: deleting from a list, filling a slot, sums, new runs: what they answer.
-/
set_option maxRecDepth 8000
namespace Go.Proofs.YtmkiojlebjknlaaGreat
open Go.AM
variable {h h' : H} {lo p : Nat} {w : PWorld} {c : WorldC} {st cs : List RunC}
structure CutV (h : H) (s : Cell) (zs : List PVal) (s' : Cell) (h' : H) : Prop where
 sl : Sl h' s' 2 encV zs
 wr : Wr h' s'
 un : Un s'
 chg : Chg h (fun id => id ∈ s.ids) h'
 ids : ∀ id ∈ s'.ids, id ∈ s.ids
set_option maxHeartbeats 1000000 in
theorem c_DeleteV {s : Cell} {xs : List PVal} (hS : Sl h s 2 encV xs) (hw : Wr h s) {n : Nat} (hn : n < xs.length) (hl : xs.length ≤ 1000) :
  ∃ s' k, Dz.den 123 [.c s, .c (.int .i64 n), .c (.int .i64 ((n : Int) + 1))] h = some (.c s', k) ∧ CutV h s (xs.eraseIdx n) s' k := by
 have hel0 := fun e => hS.lenA (e := e)
 obtain ⟨s2, e2, S2, i2, c2⟩ := sliceA_from hS (T := TTz) (t := 40) (e := 29) (kk := .i64) (n := n + 1) rfl rfl rfl (by omega) (by omega)
 have e1 := sliceA_to (k := .i64) (n := n) (T := TTz) (t := 40) (e := 29) hS rfl rfl (Nat.le_of_lt hn)
 have eE := S2.elemsOf c2
 obtain ⟨id, o, b, rfl, hg, hes, hle, hel⟩ := hS.cons hn
 obtain ⟨b', hg', hro⟩ := hw id (by simp [Cell.ids])
 rw [hg] at hg'; cases hg'
 have hlt := H.get_lt hg
 have hlen := hS.len
 obtain ⟨ys, hys⟩ : ∃ ys, ys = xs.drop (n + 1) := ⟨_, rfl⟩
 have hyl : ys.length = xs.length - (n + 1) := by rw [hys]; simp
 rw [← hys] at eE
 obtain ⟨b1, b1d⟩ : ∃ b1 : Blk, b1 = { b with el := b.el.take (o + n) ++ ys.map encV ++ b.el.drop (o + n + ys.length) } := ⟨_, rfl⟩
 have hb1 : b1.el.length = b.el.length := by simp [b1d]; omega
 obtain ⟨b2, b2d⟩ : ∃ b2 : Blk, b2 = { b with el := b1.el.take (o + (xs.length - 1)) ++ List.replicate 1 [.int .i64 0, .int .i64 0] ++ b1.el.drop (o + (xs.length - 1) + 1) } := ⟨_, rfl⟩
 have hb2 : b2.el.length = b.el.length := by simp [b2d]; omega
 have ee : xs.eraseIdx n = xs.take n ++ ys := by rw [hys, List.eraseIdx_eq_take_drop_succ]
 have eel : (xs.eraseIdx n).length = xs.length - 1 := by rw [List.length_eraseIdx_of_lt hn]
 have hfin : (b2.el.drop o).take (xs.length - 1) = (xs.eraseIdx n).map encV := by
  have h1 : (b2.el.drop o).take (xs.length - 1) = (b1.el.drop o).take (xs.length - 1) := by
   apply List.ext_getElem?
   intro q
   by_cases hq : q < xs.length - 1
   ·rw [List.getElem?_take_of_lt hq, List.getElem?_take_of_lt hq, List.getElem?_drop, List.getElem?_drop]
    simp only [b2d]
    rw [List.append_assoc, List.getElem?_append_left (by simp; omega), List.getElem?_take_of_lt (by omega)]
   ·rw [List.getElem?_eq_none (by simp; omega), List.getElem?_eq_none (by simp; omega)]
  rw [h1, ee, List.map_append]
  have h2 : (xs.take n).map encV = (b.el.drop o).take n := by rw [List.map_take, ← hel, List.take_take, Nat.min_eq_left (by omega)]
  rw [h2]
  apply List.ext_getElem?
  intro q
  by_cases hq : q < xs.length - 1
  ·rw [List.getElem?_take_of_lt hq, List.getElem?_drop]
   simp only [b1d]
   by_cases hqn : q < n
   ·rw [List.append_assoc, List.getElem?_append_left (by simp; omega), List.getElem?_take_of_lt (by omega), List.getElem?_append_left (by simp; omega), List.getElem?_take_of_lt hqn, List.getElem?_drop]
   ·rw [List.append_assoc, List.getElem?_append_right (by simp; omega), List.getElem?_append_left (by simp; omega), List.getElem?_append_right (by simp; omega)]
    congr 1
    simp; omega
  ·rw [List.getElem?_eq_none (by simp; omega), List.getElem?_eq_none (by simp; omega)]
 refine ⟨.sl id o (xs.length - 1) none, List.set h id (some b2), ?_, ⟨⟨fun x _ => rfl, by rw [eel], by omega, b2, get_set_self hlt, by rw [b2d]; exact hes, by rw [hb2]; omega, hfin⟩, fun q hq => ?_, Un.new, ⟨by simp, fun q _ hn => get_set_ne (by simpa [Cell.ids] using hn)⟩, fun q hq => hq⟩⟩
 ·have n1 : ((n + 1 : Nat) : Int) = (n : Int) + 1 := by omega
  rw [n1] at e2
  have n2 : (n : Int) + 1 ≤ xs.length := by omega
  have n3 : (0 : Int) ≤ (n : Int) + 1 := by omega
  have n4 : (n : Int) ≤ (n : Int) + 1 := by omega
  have n5 : ((n : Int) + 1).toNat = n + 1 := by omega
  have hcap : capOk h id o xs.length none = true := by simp [capOk, hg]; omega
  have e13 : sliceA TTz h 40 (.c (.sl id o xs.length none)) (some (.c (.int .i64 n))) (some (.c (.int .i64 ((n : Int) + 1)))) (some (.c (.int .i64 xs.length))) = some (.c (.sl id (o + n) (n + 1 - n) (some (xs.length - n)))) := by
   simp [sliceA, hcap, threeA, bound, hg, hes, n2, n3, n4, n5, hn]
  have e1' : sliceA TTz h 40 (.c (.sl id o xs.length none)) none (some (.c (.int .i64 n))) none = some (.c (.sl id o n none)) := e1
  have ea : appendA 2 h (.c (.sl id o n none)) (.c s2) = some (.c (.sl id o (xs.length - 1) none), List.set h id (some b1)) := by
   unfold appendA
   rw [eE]
   have q1 : ((ys.map encV).all fun e => e.length == 2) = true := by simp
   have q2 : o + n ≤ b.el.length := by omega
   have q3 : n + ys.length ≤ lenMost := by unfold lenMost; omega
   have q4 : ys.length ≤ lenMost := by unfold lenMost; omega
   have q5 : o + n + ys.length ≤ b.el.length := by omega
   have q6 : n + ys.length = xs.length - 1 := by omega
   simp [q1, q4, hg, q2, hes, q3, hro, q5, q6, b1d]
   omega
  have hg1 : H.get (List.set h id (some b1)) id = some b1 := get_set_self hlt
  have hcap1 : capOk (List.set h id (some b1)) id o (xs.length - 1) none = true := by simp [capOk, hg1, hb1]; omega
  have m1 : ¬ (xs.length : Int) ≤ ((xs.length - 1 : Nat) : Int) := by omega
  have m2 : (xs.length : Int) ≤ ((b1.el.length - o : Nat) : Int) := by rw [hb1]; omega
  have m3 : ((xs.length - 1 : Nat) : Int) ≤ (xs.length : Int) := by omega
  have m4 : xs.length - 1 < b1.el.length - o := by rw [hb1]; omega
  have hes1 : b1.es = 2 := by rw [b1d]; exact hes
  have e31 : sliceA TTz (List.set h id (some b1)) 40 (.c (.sl id o (xs.length - 1) none)) (some (.c (.int .i64 ((xs.length - 1 : Nat) : Int)))) (some (.c (.int .i64 xs.length))) none = some (.c (.sl id (o + (xs.length - 1)) (xs.length - (xs.length - 1)) none)) := by
   simp [sliceA, hcap1, bound, m1, beyondA, hg1, m2, m3, lowOf, hes1, m4]
  have ecl : clearA TTz 29 (List.set h id (some b1)) (.c (.sl id (o + (xs.length - 1)) (xs.length - (xs.length - 1)) none)) = some (List.set h id (some b2)) := by
   have w1 : xs.length - (xs.length - 1) = 1 := by omega
   have w2 : o + (xs.length - 1) + 1 ≤ b1.el.length := by rw [hb1]; omega
   have hro1 : b1.ro = false := by rw [b1d]; exact hro
   rw [w1]
   have w3 : b1.es = b.es := by rw [b1d]
   have w4 : b1.ro = b.ro := by rw [b1d]
   simp [clearA, hg1, hro1, w2, hes1, b2d]
   simp [← w3, hes1, hro]
  have eqn : ¬ (n : Int) = (n : Int) + 1 := by omega
  rw [← Wp_eq]
  refine den_wp rfl Tryz.func123 rfl ?_
  simp [Tryz.f123, lenA, e13, e1', e2, ea, eqn, e31, ecl]
  kernel_rfl
 ·simp only [Cell.ids, List.mem_singleton] at hq
  subst hq
  exact ⟨b2, get_set_self hlt, by rw [b2d]; exact hro⟩
theorem WorldV.cutMail (hV : WorldV lo h w c cs cs) {j : Nat} (hj : j < w.runs.length) {zs : List PVal} {s : Cell} {k : H} (f : CutV h (cs[j]'(by have := hV.len; omega)).mail zs s k) :
  ∃ k', H.write k (sid c.runs) (soff c.runs + j) 4 [s] = some k' ∧ WorldV lo k' { w with runs := w.runs.set j { w.runs[j] with mail := zs } } c (cs.set j { (cs[j]'(by have := hV.len; omega)) with mail := s }) (cs.set j { (cs[j]'(by have := hV.len; omega)) with mail := s }) ∧
   StepV h (part c cs) k' (part c (cs.set j { (cs[j]'(by have := hV.len; omega)) with mail := s })) := by
 have hi' : j < cs.length := by have := hV.len; omega
 obtain ⟨v1, g1⟩ := hV.newMail hj f.chg f.sl f.wr f.un (fun id hid => .inl (f.ids id hid))
 obtain ⟨h5, e5, v5, g5⟩ := v1.lay (i := j) (by simpa using hj) (j := 4) (xs := [s]) (r' := { cs[j] with mail := s }) (by simp [splice]) (by simp)
 exact ⟨h5, e5, v5, g1.trans g5⟩
set_option maxRecDepth 16000 in
theorem c_fill (hV : WorldV lo h w c cs cs) {i : Nat} (hi : i < w.runs.length) (h4 : w.runs[i].slots.length = 4) (hf : 0 ≤ w.runs[i].full ∧ w.runs[i].full ≤ 15) {slot : Int} (h0 : 0 ≤ slot ∧ slot ≤ 3) (v : PVal) :
  ∃ h', Dz.den 107 [.c (.ptr (sid c.runs) (soff c.runs + i) 0), .c (.int .i64 slot), .g (encV v)] h = some (.t [], h') ∧
   WorldV lo h' { w with runs := w.runs.set i (putRun w.runs[i] slot v) } c (cs.set i { (cs[i]'(by have := hV.len; omega)) with full := withB w.runs[i].full slot }) (cs.set i { (cs[i]'(by have := hV.len; omega)) with full := withB w.runs[i].full slot }) ∧
   StepV h (part c cs) h' (part c (cs.set i { (cs[i]'(by have := hV.len; omega)) with full := withB w.runs[i].full slot })) := by
 have hi' : i < cs.length := by have := hV.len; omega
 obtain ⟨n, hn⟩ : ∃ n : Nat, slot = n := ⟨slot.toNat, by omega⟩
 have hn4 : n < w.runs[i].slots.length := by omega
 obtain ⟨h1, e1, v1, g1⟩ := hV.slotPut hi hn4 v
 have hr := hV.each i hi
 have hS := hr.slots
 have hR := hV.runs
 have hR1 := v1.runs
 obtain ⟨h2, e2, v2, g2⟩ := v1.put (i := i) (by simpa using hi) (j := 3) (xs := [.int .i64 (withB w.runs[i].full slot)]) (r := putRun w.runs[i] slot v) (r' := { cs[i] with full := withB w.runs[i].full slot }) (by simp [splice]) (by simp)
  (fun _ q => by simp only [List.getElem_set_self] at q; refine ⟨q.id, q.at_, ?_, rfl, q.mail, q.state, q.due, q.links, q.watched, q.trap, q.why, q.turns⟩; have := q.slots; simp only [putRun, hn, Int.toNat_natCast]; exact this) rfl rfl rfl rfl
 simp only [List.set_set] at v2
 have ew := orW hf.1 hf.2 h0.1 h0.2
 refine ⟨h2, ?_, v2, g1.trans g2⟩
 rw [← Wp_eq]
 refine den_wp rfl Tryz.func107 rfl ?_
 have hfl := hr.full
 subst hn
 simp only [Int.toNat_natCast] at ew
 simp [Tryz.f107, hR.at, hi', ixA_nat hS, hn4, e1, hR1.at, hfl, e2, ew]
 exact ⟨by kernel_rfl, by kernel_rfl, rfl, rfl⟩
set_option maxRecDepth 16000 in
theorem c_take (hV : WorldV lo h w c cs cs) {i : Nat} (hi : i < w.runs.length) {n : Nat} (hn : n < w.runs[i].mail.length) (h12 : w.runs[i].mail.length ≤ 12) :
  ∃ h' s', Dz.den 72 [.c (.ptr (sid c.runs) (soff c.runs + i) 0), .c (.int .i64 n)] h = some (.g (encV w.runs[i].mail[n]), h') ∧
   WorldV lo h' { w with runs := w.runs.set i { w.runs[i] with mail := w.runs[i].mail.eraseIdx n } } c (cs.set i { (cs[i]'(by have := hV.len; omega)) with mail := s' }) (cs.set i { (cs[i]'(by have := hV.len; omega)) with mail := s' }) ∧
   StepV h (part c cs) h' (part c (cs.set i { (cs[i]'(by have := hV.len; omega)) with mail := s' })) := by
 have hi' : i < cs.length := by have := hV.len; omega
 have hr := hV.each i hi
 have hR := hV.runs
 have hm := hr.mail
 have wr : Wr h cs[i].mail := by have := hV.own.wr (.mail i); simpa [part, fld_at hi'] using this
 obtain ⟨s', h1, e1, f1⟩ := c_DeleteV hm wr hn (by omega)
 obtain ⟨h2, e2, v2, g2⟩ := hV.cutMail hi f1
 refine ⟨h2, s', ?_, v2, g2⟩
 have wn : IntKind.i64.wrap ((n : Int) + 1) = (n : Int) + 1 := wrapS (by omega) (by omega)
 rw [← Wp_eq]
 refine den_wp rfl Tryz.func72 rfl ?_
 simp [Tryz.f72, hR.at, hi', ixA_nat hm, hm.at, hn, wn, e1, e2]
theorem c_ValAdd {a b : PVal} (ha : valOk a = true) (hb : valOk b = true) : Dz.den 108 [.g (encV a), .g (encV b)] h = some (.t [.g (encV ((addP a b).getD ⟨0, 0⟩)), .c (.bool (addP a b).isSome)], h) := by
 have h1 := valOk_n ha
 have h2 := valOk_n hb
 have w1 : IntKind.i64.wrap (a.n + b.n) = a.n + b.n := wrap_i64 (by omega) (by omega)
 have hv : valOk ⟨1, a.n + b.n⟩ = decide (-99 ≤ a.n + b.n ∧ a.n + b.n ≤ 99) := by simp [valOk]
 have ha' : valOk ⟨a.k, a.n⟩ = true := ha
 have hb' : valOk ⟨b.k, b.n⟩ = true := hb
 by_cases d : a.k = 1 ∧ b.k = 1 ∧ -99 ≤ a.n + b.n ∧ a.n + b.n ≤ 99
 ·refine den_plain rfl Tryz.func108 rfl (by simp [V.plain, V.plain1]) ?_
  unfold addP
  rw [if_pos d]
  obtain ⟨d1, d2, d3⟩ := d
  rw [d1] at ha'
  rw [d2] at hb'
  simp [Tryz.f108, w1, d1, d2, d3, hv, ha', hb']
  rfl
 ·refine den_plain rfl Tryz.func108 rfl (by simp [V.plain, V.plain1]) ?_
  unfold addP
  rw [if_neg d]
  by_cases d1 : a.k = 1
  ·rw [d1] at ha'
   by_cases d2 : b.k = 1
   ·have d3 : ¬ (-99 ≤ a.n + b.n ∧ a.n + b.n ≤ 99) := fun hh => d ⟨d1, d2, hh⟩
    rw [d2] at hb'
    simp [Tryz.f108, w1, d1, d2, d3, hv, ha', hb']
    rfl
   ·simp [Tryz.f108, w1, d1, d2, hv, ha', hb']
    rfl
  ·simp [Tryz.f108, w1, d1, hv, ha', hb']
   rfl
def NewIQ (h : H) (r : PRun) (x : V × H) : Prop := ∃ k cr, x = (.t [.g (encR cr), .c (.bool true)], k) ∧ Ext h k ∧ RunR k r cr ∧ RunN h.length k cr
theorem c_RunNew {id at_ : Int} {v : PVal} (hid : 1 ≤ id ∧ id ≤ 6) (ha : 0 ≤ at_ ∧ at_ ≤ 15) (hv : valOk v = true) : @Wp _ (Dz.den 99 [.c (.int .i64 id), .c (.int .i64 at_), .g (encV v)] h) ⟨NewIQ h (newRun id at_ v)⟩ := by
 refine den_wp rfl Tryz.func99 rfl ?_
 have hv' : valOk ⟨v.k, v.n⟩ = true := hv
 have S0 : Sl (h.push ⟨false, 2, [[.int .i64 0, .int .i64 0], [.int .i64 0, .int .i64 0], [.int .i64 0, .int .i64 0], [.int .i64 0, .int .i64 0]]⟩) (.sl h.length 0 4 none) 2 encV [⟨0, 0⟩, ⟨0, 0⟩, ⟨0, 0⟩, ⟨0, 0⟩] :=
  ⟨by simp, rfl, by simp [sMost], _, get_push_self, rfl, by simp, by simp⟩
 have W0 : Wr (h.push ⟨false, 2, [[.int .i64 0, .int .i64 0], [.int .i64 0, .int .i64 0], [.int .i64 0, .int .i64 0], [.int .i64 0, .int .i64 0]]⟩) (.sl h.length 0 4 none) := fun q hq => by
  simp only [Cell.ids, List.mem_singleton] at hq; subst hq; exact ⟨_, get_push_self, rfl⟩
 obtain ⟨k1, e1, S1, W1, l1, C1⟩ := S0.write W0 (i := 0) (by simp) (j := 0) (cs := [.int .i64 v.k, .int .i64 v.n]) (x := v) (by simp [splice]) (by simp)
 have f1 : Fresh h 2 encV [v, ⟨0, 0⟩, ⟨0, 0⟩, ⟨0, 0⟩] (.sl h.length 0 4 none) k1 := by
  refine ⟨by simpa using S1, W1, Un.new, ⟨by rw [l1]; simp, fun q hq => ?_⟩, fun q hq => by simp only [Cell.ids, List.mem_singleton] at hq; omega⟩
  rw [C1.keep q (by simp; omega) (by simp [Cell.ids]; omega), get_push_lt hq]
 obtain ⟨x, q, n⟩ := run_new (r := newRun id at_ v) (cr := ⟨id, at_, .nils, 1, .nils, 1, 0, .nils, .nils, false, ⟨0, 0⟩, 0⟩) f1 (Fresh.nils k1 2 encV) (Fresh.nils k1 1 encI) (Fresh.nils k1 1 encI) rfl rfl rfl rfl rfl rfl rfl rfl
 simp only [sid, soff] at e1
 simp [Tryz.f99, hid, ha, hv', e1]
 exact ⟨rfl, k1, _, rfl, x, q, n⟩
end Go.Proofs.YtmkiojlebjknlaaGreat

/-
 THE PROGRAM's begin, rest, address: what they answer.
-/
set_option maxRecDepth 8000
namespace Go.Proofs.YtmkiojlebjknlaaGreat
open Go.AM
variable {h h' : H} {lo p : Nat} {w : PWorld} {c : WorldC} {st cs : List RunC}
def DoQ (lo : Nat) (h : H) (p : Nat) (q : Key → Cell) (w' : PWorld) (x : V × H) : Prop := ∃ k c' cs', x = (.t [], k) ∧ WorldP lo k p w' c' cs' ∧ StepP h p q k (part c' cs')
theorem WorldP.queueMore (hP : WorldP lo h p w c cs) (x : Int) (hl : w.queue.length + 1 ≤ lenMost) :
  ∃ s' k1 k2, appendA 1 (h.push ⟨false, 1, [encI x]⟩) (.c c.queue) (.c (.sl h.length 0 1 none)) = some (.c s', k1) ∧ k1.write p 0 2 [s'] = some k2 ∧ k1.get p = some ⟨false, 7, [encW c]⟩ ∧ WorldP lo k2 p { w with queue := w.queue ++ [x] } { c with queue := s' } cs ∧ StepP h p (part c cs) k2 (part { c with queue := s' } cs) := by
 obtain ⟨s', k1, e1, v1, g1⟩ := hP.v.queueApp (ys := [x]) (by simpa using hl)
 obtain ⟨a3, b3⟩ := g1.away hP.lt hP.out
 rw [hP.at_] at a3
 obtain ⟨k2, e2, P2, ch2⟩ := v1.home a3 b3 hP.ge (j := 2) (xs := [s']) (by simp [splice]) (by simp)
 exact ⟨s', k1, k2, e1, e2, a3, P2, g1.toP.trans (StepP.of_chg ch2)⟩
theorem WorldP.runMore (hP : WorldP lo h p w c cs) {r : PRun} {cr : RunC} {k : H} (x : Ext h k) (hr : RunR k r cr) (hn : RunN h.length k cr) (hl : w.runs.length + 1 ≤ lenMost) :
  ∃ s' k1 k2, appendA 13 (k.push ⟨false, 13, [encR cr]⟩) (.c c.runs) (.c (.sl k.length 0 1 none)) = some (.c s', k1) ∧ k1.write p 0 1 [s'] = some k2 ∧ WorldP lo k2 p { w with runs := w.runs ++ [r] } { c with runs := s' } (cs ++ [cr]) ∧ StepP h p (part c cs) k2 (part { c with runs := s' } (cs ++ [cr])) := by
 obtain ⟨s', k1, e1, v1, g1⟩ := hP.v.oneMore x hr hn hl
 obtain ⟨a3, b3⟩ := g1.away hP.lt hP.out
 rw [hP.at_] at a3
 obtain ⟨k2, e2, P2, ch2⟩ := v1.home a3 b3 hP.ge (j := 1) (xs := [s']) (by simp [splice]) (by simp)
 exact ⟨s', k1, k2, e1, e2, P2, g1.toP.trans (StepP.of_chg ch2)⟩
def beginI (w : PWorld) (id : Int) (o : POp) : PWorld :=
 if 6 < w.runs.length + 1 then setRun w id (putRun (runAt w id) o.r ⟨0, 0⟩) else setRun (addRunP w id o) id (putRun (runAt (addRunP w id o) id) o.r ⟨3, w.runs.length + 1⟩)
set_option maxRecDepth 16000 in
set_option maxHeartbeats 1000000 in
theorem c_begin (hP : WorldP lo h p w c cs) {id : Int} {i : Nat} {r : PRun} {o : POp} (T : Turn w id i r o) (I : Inv w) (hk : o.kind = 5) :
  @Wp _ (Dz.den 109 [.c (.ptr p 0 0), .c (.int .i64 id), .g (encO o)] h) ⟨DoQ lo h p (part c cs) (beginI w id o)⟩ := by
 refine den_wp rfl Tryz.func109 rfl ?_
 obtain ⟨hi, hri⟩ := T.runs
 have e0 := T.e0
 subst e0
 subst hri
 have hV := hP.v
 have hlen := hV.len
 have hi' : i < cs.length := by omega
 have hS := hV.runs
 have R := T.run.ok
 obtain ⟨i1, i2, i3⟩ := T.idr I
 have h6 : i < 6 := by omega
 have hm := I.many
 have hop := op_r T.ok
 have hgp := hP.at_
 have wn : IntKind.i64.wrap ((w.runs.length : Int) + 1) = (w.runs.length : Int) + 1 := wrapS (by omega) (by omega)
 by_cases hn : 6 < w.runs.length + 1
 ·have hn' : ¬ (w.runs.length : Int) < 6 := by omega
  obtain ⟨h2, e2, v2, g2⟩ := c_fill hV hi R.len R.full hop ⟨0, 0⟩
  have er := c_run hgp hS ((i : Int) + 1)
  rw [if_pos (by omega), show ((i : Int) + 1 - 1).toNat = i by omega] at er
  have P2 := hP.move v2 g2
  simp only [encV] at e2
  unfold beginI
  rw [if_pos hn, setRun_at, runAt_nat hi]
  simp [Tryz.f109, at_blk hgp, hS.lenA, hlen, hn', er, e2]
  exact ⟨by kernel_rfl, rfl, h2, c, _, rfl, P2, g2.toP⟩
 ·have hn' : (w.runs.length : Int) < 6 := by omega
  have hto : 0 ≤ o.to ∧ o.to ≤ 15 := by
   have A := T.to I (fun x => by simp [goesTo, hk]) (by simp [hasT, hk])
   have := I.clen; omega
  obtain ⟨_, e1, h1, cr, rfl, x1, q1, n1⟩ := c_RunNew (h := h) (id := (w.runs.length : Int) + 1) (at_ := o.to) (v := ⟨3, (i : Int) + 1⟩) (by omega) hto (valOk_run (by omega))
  obtain ⟨s2, k2, h2, e2, e2', P2, g2⟩ := hP.runMore x1 q1 n1 (by unfold lenMost; omega)
  obtain ⟨s3, k3, h3, e3, e3', a3, P3, g3⟩ := P2.queueMore ((w.runs.length : Int) + 1) (by have := I.qlen; show w.queue.length + 1 ≤ _; unfold lenMost; omega)
  have hi2 : i < (addRunP w ((i : Int) + 1) o).runs.length := by simp [addRunP]; omega
  have hri2 : (addRunP w ((i : Int) + 1) o).runs[i] = w.runs[i] := by simp only [addRunP]; rw [List.getElem_append_left hi]
  have P3' : WorldP lo h3 p (addRunP w ((i : Int) + 1) o) { c with runs := s2, queue := s3 } (cs ++ [cr]) := P3
  obtain ⟨h4, e4, v4, g4⟩ := c_fill P3'.v hi2 (by rw [hri2]; exact R.len) (by rw [hri2]; exact R.full) hop ⟨3, (w.runs.length : Int) + 1⟩
  have P4 := P3'.move v4 g4
  have er := c_run P3'.at_ P3'.v.runs ((i : Int) + 1)
  rw [if_pos (by simp; omega), show ((i : Int) + 1 - 1).toNat = i by omega] at er
  have hgp1 : h1.get p = some ⟨false, 7, [encW c]⟩ := by rw [x1.2 p hP.lt]; exact hgp
  have hgp2 := P2.at_
  have ap1 : ∀ b j m, j + m ≤ 7 → (h1.push b).cellsAt p 0 j m = some (((encW c).drop j).take m) := fun b j m hk => at_blk (get_push_some hgp1) (by simpa using hk)
  have ap2 : ∀ b j m, j + m ≤ 7 → (h2.push b).cellsAt p 0 j m = some (((encW { c with runs := s2 }).drop j).take m) := fun b j m hk => at_blk (get_push_some hgp2) (by simpa using hk)
  simp only [encV, encR, encI] at e1 e2 e3 e4
  unfold beginI
  rw [if_neg hn, setRun_at, runAt_nat hi2]
  simp [Tryz.f109, at_blk hgp, hS.lenA, hlen, hn', wn, e1, at_blk hgp1, ap1, e2, e2', at_blk hgp2, ap2, e3, e3', er, e4]
  exact ⟨by kernel_rfl, by kernel_rfl, by kernel_rfl, rfl, h4, _, _, rfl, P4, g2.trans (g3.trans g4.toP)⟩
set_option maxRecDepth 16000 in
set_option maxHeartbeats 1000000 in
theorem c_rest (hP : WorldP lo h p w c cs) {id : Int} {i : Nat} {r : PRun} {o : POp} (T : Turn w id i r o) (I : Inv w) (hk : o.kind = 7 ∨ o.kind = 8) (hf : ¬ 0 ≤ mailAt r o.s) :
  @Wp _ (Dz.den 111 [.c (.ptr p 0 0), .c (.ptr (sid c.runs) (soff c.runs + i) 0), .g (encO o)] h) ⟨DoQ lo h p (part c cs) (takeP w id o)⟩ := by
 refine den_wp rfl Tryz.func111 rfl ?_
 obtain ⟨hi, hri⟩ := T.runs
 have e0 := T.e0
 subst e0
 subst hri
 have hV := hP.v
 have hlen := hV.len
 have hi' : i < cs.length := by omega
 have hr := hV.each i hi
 have hS := hV.runs
 have R := T.run.ok
 obtain ⟨i1, i2, i3⟩ := T.idr I
 have hgp := hP.at_
 have hdue := hr.due
 have hid := hr.id
 have hidr : w.runs[i].id = (i : Int) + 1 := T.run.id
 unfold takeP
 rw [runAt_nat hi, if_neg hf]
 have wait : ∀ {due : Int} {h2 : H}, WorldP lo h2 p { w with runs := w.runs.set i { w.runs[i] with state := 2, due := due } } c (cs.set i { cs[i] with state := 2, due := due }) → StepP h p (part c cs) h2 (part c (cs.set i { cs[i] with state := 2, due := due })) →
   ∃ s7 k7 k8, Dz.den 124 [.c c.queue, .c (.int .i64 ((i : Int) + 1))] h2 = some (.c s7, k7) ∧ k7.write p 0 2 [s7] = some k8 ∧ DoQ lo h p (part c cs) (waitP w ((i : Int) + 1) due) (.t [], k8) := fun {due} {h2} P2 g2 => by
  obtain ⟨_, e7, s7, k7, rfl, f7⟩ := c_without P2.v.queue (P2.v.own.wr .queue) (P2.v.own.un .queue) ((i : Int) + 1) (by have := I.qlen; show w.queue.length ≤ _; omega)
  obtain ⟨k8, e8, P8, g8⟩ := P2.cutQueue f7
  refine ⟨s7, k7, k8, e7, e8, k8, _, _, rfl, ?_, g2.trans g8⟩
  rw [waitP_at hi]; exact P8
 by_cases h7 : o.kind = 7
 ·obtain ⟨h1, e1, v1, g1⟩ := hV.put (i := i) hi (j := 5) (xs := [.int .i64 2]) (r := { w.runs[i] with state := 2 }) (r' := { cs[i] with state := 2 }) (by simp [splice]) (by simp) (fun _ q => ⟨q.id, q.at_, q.slots, q.full, q.mail, rfl, q.due, q.links, q.watched, q.trap, q.why, q.turns⟩) rfl rfl rfl rfl
  obtain ⟨h2, e2, v2, g2⟩ := v1.put (i := i) (by simpa using hi) (j := 6) (xs := [.int .i64 0]) (r := { w.runs[i] with state := 2, due := 0 }) (r' := { cs[i] with state := 2, due := 0 }) (by simp [splice]) (by simp) (fun _ q => by simp only [List.getElem_set_self] at q; exact ⟨q.id, q.at_, q.slots, q.full, q.mail, q.state, rfl, q.links, q.watched, q.trap, q.why, q.turns⟩) (by simp) (by simp) (by simp) (by simp)
  simp only [List.set_set] at v2 g2
  have P2 := (hP.move v1 g1).move v2 g2
  obtain ⟨s7, k7, k8, e7, e8, D⟩ := wait P2 (g1.trans g2).toP
  have hgp2 := P2.at_
  have hS2 := v2.runs
  rw [if_pos h7]
  simp [Tryz.f111, h7, e1, e2, at_blk hgp2, hS2.at, hi', hid, hidr, e7, e8]
  exact ⟨by kernel_rfl, rfl, D⟩
 ·have h8 : o.kind = 8 := by omega
  rw [if_neg h7]
  by_cases hd : w.runs[i].due < 0
  ·have hd1 : w.runs[i].due = -1 := by have := R.due; omega
   have hd' : cs[i].due = -1 := by rw [hdue, hd1]
   obtain ⟨h1, e1, v1, g1⟩ := hV.put (i := i) hi (j := 1) (xs := [.int .i64 o.to]) (r := { w.runs[i] with at_ := o.to }) (r' := { cs[i] with at_ := o.to }) (by simp [splice]) (by simp) (fun _ q => ⟨q.id, rfl, q.slots, q.full, q.mail, q.state, q.due, q.links, q.watched, q.trap, q.why, q.turns⟩) rfl rfl rfl rfl
   obtain ⟨h2, e2, v2, g2⟩ := v1.put (i := i) (by simpa using hi) (j := 6) (xs := [.int .i64 0]) (r := { w.runs[i] with due := 0, at_ := o.to }) (r' := { cs[i] with due := 0, at_ := o.to }) (by simp [splice]) (by simp) (fun _ q => by simp only [List.getElem_set_self] at q; exact ⟨q.id, q.at_, q.slots, q.full, q.mail, q.state, rfl, q.links, q.watched, q.trap, q.why, q.turns⟩) (by simp) (by simp) (by simp) (by simp)
   simp only [List.set_set] at v2 g2
   have P2 := (hP.move v1 g1).move v2 g2
   rw [if_pos hd, setRun_at]
   simp [Tryz.f111, h8, hS.at, hi', hd', e1, e2]
   exact ⟨rfl, h2, c, _, rfl, P2, (g1.trans g2).toP⟩
  ·have hd' : ¬ cs[i].due = -1 := by rw [hdue]; omega
   obtain ⟨h1, e1, v1, g1⟩ := hV.put (i := i) hi (j := 5) (xs := [.int .i64 2]) (r := { w.runs[i] with state := 2 }) (r' := { cs[i] with state := 2 }) (by simp [splice]) (by simp) (fun _ q => ⟨q.id, q.at_, q.slots, q.full, q.mail, rfl, q.due, q.links, q.watched, q.trap, q.why, q.turns⟩) rfl rfl rfl rfl
   obtain ⟨h2, e2, v2, g2⟩ := v1.put (i := i) (by simpa using hi) (j := 6) (xs := [.int .i64 0]) (r := { w.runs[i] with state := 2, due := 0 }) (r' := { cs[i] with state := 2, due := 0 }) (by simp [splice]) (by simp) (fun _ q => by simp only [List.getElem_set_self] at q; exact ⟨q.id, q.at_, q.slots, q.full, q.mail, q.state, rfl, q.links, q.watched, q.trap, q.why, q.turns⟩) (by simp) (by simp) (by simp) (by simp)
   simp only [List.set_set] at v2 g2
   obtain ⟨h3, e3, v3, g3⟩ := v2.put (i := i) (by simpa using hi) (j := 6) (xs := [.int .i64 (w.now + o.v.n)]) (r := { w.runs[i] with state := 2, due := w.now + o.v.n }) (r' := { cs[i] with state := 2, due := w.now + o.v.n }) (by simp [splice]) (by simp) (fun _ q => by simp only [List.getElem_set_self] at q; exact ⟨q.id, q.at_, q.slots, q.full, q.mail, q.state, rfl, q.links, q.watched, q.trap, q.why, q.turns⟩) (by simp) (by simp) (by simp) (by simp)
   simp only [List.set_set] at v3 g3
   have P2 := (hP.move v1 g1).move v2 g2
   have P3 := P2.move v3 g3
   have ha := op_after T.ok h8
   have hnow := I.now
   have wn : IntKind.i64.wrap (c.now + o.v.n) = w.now + o.v.n := by rw [hV.now]; exact wrapS (by omega) (by omega)
   obtain ⟨s7, k7, k8, e7, e8, D⟩ := wait P3 (g1.trans (g2.trans g3)).toP
   have hgp2 := P2.at_
   have hgp3 := P3.at_
   have hS3 := v3.runs
   rw [if_neg hd]
   simp [Tryz.f111, h8, hS.at, hi', hd', e1, e2, at_blk hgp2, wn, e3, at_blk hgp3, hS3.at, hid, hidr, e7, e8]
   exact ⟨by kernel_rfl, by kernel_rfl, rfl, D⟩
end Go.Proofs.YtmkiojlebjknlaaGreat

/-
 THE PROGRAM's address: what it answers.
-/
set_option maxRecDepth 8000
namespace Go.Proofs.YtmkiojlebjknlaaGreat
open Go.AM
variable {h h' : H} {lo p : Nat} {w : PWorld} {c : WorldC} {st cs : List RunC}
def addressI (w : PWorld) (id : Int) (o : POp) (to sv : PVal) : PWorld :=
 if o.kind = 6 then giveP w to.n sv
 else if o.kind = 11 then (if Alive w to.n ∧ to.n ≠ id ∧ to.n ∉ (runAt w id).links then linkP w id to.n else w)
 else if ¬ Alive w to.n then giveP w id to
 else if to.n ≠ id ∧ id ∉ (runAt w to.n).watched then watchP w id to.n else w
theorem linkP_at {i m : Nat} (hi : i < w.runs.length) (hm : m < w.runs.length) (hne : m ≠ i) : linkP w ((i : Int) + 1) ((m : Int) + 1) =
  { w with runs := (w.runs.set i { w.runs[i] with links := w.runs[i].links ++ [(m : Int) + 1] }).set m { w.runs[m] with links := w.runs[m].links ++ [(i : Int) + 1] } } := by
 unfold linkP
 simp only [setRun_at, runAt_nat hi]
 rw [runAt_nat (w := { w with runs := w.runs.set i { w.runs[i] with links := w.runs[i].links ++ [(m : Int) + 1] } }) (by simpa using hm)]
 simp only [List.getElem_set_ne (Ne.symm hne)]
theorem watchP_at {i m : Nat} (hm : m < w.runs.length) : watchP w ((i : Int) + 1) ((m : Int) + 1) = { w with runs := w.runs.set m { w.runs[m] with watched := w.runs[m].watched ++ [(i : Int) + 1] } } := by
 unfold watchP; rw [setRun_at, runAt_nat hm]
set_option maxRecDepth 16000 in
set_option maxHeartbeats 2000000 in
theorem c_address (hP : WorldP lo h p w c cs) {id : Int} {i : Nat} {r : PRun} {o : POp} (T : Turn w id i r o) (I : Inv w) (hs : w.sent ≤ 1000000000) (hk : o.kind = 6 ∨ o.kind = 11 ∨ o.kind = 12) {to : PVal} (okto : valOk to = true) (k3 : to.k = 3) :
  @Wp _ (Dz.den 110 [.c (.ptr p 0 0), .c (.ptr (sid c.runs) (soff c.runs + i) 0), .g (encO o), .g (encV to)] h) ⟨DoQ lo h p (part c cs) (addressI w id o to (slotAt r o.s))⟩ := by
 refine den_wp rfl Tryz.func110 rfl ?_
 obtain ⟨hi, hri⟩ := T.runs
 have e0 := T.e0
 subst e0
 subst hri
 have hV := hP.v
 have hlen := hV.len
 have hi' : i < cs.length := by omega
 have hr := hV.each i hi
 have hS := hV.runs
 have hSl := hr.slots
 have R := T.run.ok
 obtain ⟨i1, i2, i3⟩ := T.idr I
 have h6 : i < 6 := by omega
 have hos := op_s T.ok
 have hgp := hP.at_
 have hidr : w.runs[i].id = (i : Int) + 1 := T.run.id
 have hid : cs[i].id = (i : Int) + 1 := by rw [hr.id, hidr]
 have hton := valOk_3 okto k3
 obtain ⟨m, em⟩ : ∃ m : Nat, to.n = (m : Int) + 1 := ⟨(to.n - 1).toNat, by omega⟩
 have em2 : (to.n - 1).toNat = m := by omega
 have ea := c_alive (ro := false) hgp hV.rd.runs to.n
 have eto : to = ⟨3, (m : Int) + 1⟩ := by cases to; simp at k3 em; simp [k3, em]
 have SI := I.saneI (by omega)
 obtain ⟨sa, hsa⟩ : ∃ n : Nat, o.s = n := ⟨o.s.toNat, by omega⟩
 have hsa4 : sa < w.runs[i].slots.length := by rw [R.len]; omega
 have hsv : slotAt w.runs[i] o.s = w.runs[i].slots[sa] := by unfold slotAt; rw [hsa, Int.toNat_natCast, List.getElem?_eq_getElem hsa4]; rfl
 have oksv := slotAt_ok R hos.1 hos.2
 rw [hsv] at oksv ⊢
 have hsr : ∃ b, h.get (sid c.runs) = some b := by obtain ⟨id, j, b, e, hb, _⟩ := hS.cons hi'; rw [e]; exact ⟨b, hb⟩
 obtain ⟨br, hbr⟩ := hsr
 have liveIn : Alive w to.n → ∃ hm : m < w.runs.length, m < cs.length ∧ w.runs[m].watched = (runAt w to.n).watched := fun al => by
  have := al.1
  have hm : m < w.runs.length := by omega
  exact ⟨hm, by omega, by rw [em, runAt_nat hm]⟩
 by_cases k6 : o.kind = 6
 ·obtain ⟨_, e2, h2, c2, cs2, rfl, P2, g2, r2⟩ := c_give hP SI to.n w.runs[i].slots[sa] oksv
  unfold addressI
  rw [if_pos k6]
  simp only [encV, em] at e2
  by_cases al : Alive w to.n
  ·rw [if_pos (aliveC_iff.2 al), em2, em] at ea
   simp [Tryz.f110, em, ea, k6, hS.at, hi', hsa, ixA_nat hSl, hSl.at, hsa4, e2]
   rw [← em]
   exact ⟨by kernel_rfl, rfl, h2, c2, cs2, rfl, P2, g2⟩
  ·rw [aliveC_not al, em] at ea
   simp [Tryz.f110, em, ea, k6, hS.at, hi', hsa, ixA_nat hSl, hSl.at, hsa4, e2]
   rw [← em]
   exact ⟨by kernel_rfl, rfl, h2, c2, cs2, rfl, P2, g2⟩
 by_cases k11 : o.kind = 11
 ·unfold addressI
  rw [if_neg k6, if_pos k11, runAt_nat hi]
  by_cases al : Alive w to.n
  ·obtain ⟨hm, hm', _⟩ := liveIn al
   rw [if_pos (aliveC_iff.2 al), em2, em] at ea
   by_cases emi : m = i
   ·subst emi
    rw [if_neg (fun hh => hh.2.1 em)]
    simp [Tryz.f110, em, ea, k11, hbr, Cell.eqA]
    exact ⟨by unfold LexOk; kernel_rfl, rfl, h, c, cs, rfl, hP, StepP.refl _ _ _⟩
   ·have hne : ¬ (soff c.runs + m = soff c.runs + i) := by omega
    have hl := c_ContainsI (h := h) hr.links ((m : Int) + 1)
    by_cases ham : (m : Int) + 1 ∈ w.runs[i].links
    ·rw [if_neg (fun hh => hh.2.2 (by rw [em]; exact ham))]
     simp [Tryz.f110, em, ea, k11, hbr, Cell.eqA, emi, hS.at, hi', hl, ham]
     exact ⟨by unfold LexOk; kernel_rfl, rfl, h, c, cs, rfl, hP, StepP.refl _ _ _⟩
    ·rw [if_pos ⟨al, by rw [em]; omega, by rw [em]; exact ham⟩]
     obtain ⟨s4, k4, h4, e4, e5, S4, v4, g4, _⟩ := hV.linksAdd hi ((m : Int) + 1) (by have := R.links.len; unfold lenMost; omega)
     generalize hcs4 : cs.set i { cs[i] with links := s4 } = cs4 at v4 g4
     have hm4 : m < cs4.length := by rw [← hcs4]; simp; omega
     have hi4 : i < cs4.length := by rw [← hcs4]; simp; omega
     have hm5 : m < (w.runs.set i { w.runs[i] with links := w.runs[i].links ++ [(m : Int) + 1] }).length := by simp; omega
     have hmr : (w.runs.set i { w.runs[i] with links := w.runs[i].links ++ [(m : Int) + 1] })[m] = w.runs[m] := by rw [List.getElem_set_ne (by omega)]
     have hmc : cs4[m] = cs[m] := by subst hcs4; rw [List.getElem_set_ne (by omega)]
     have hci : cs4[i].id = (i : Int) + 1 := by subst hcs4; simpa using hid
     have P4 := hP.move v4 g4
     obtain ⟨s6, k6', h6', e6, e7, S6, v6, g6, _⟩ := v4.linksAdd (i := m) hm5 ((i : Int) + 1) (by simp only [hmr]; have := (I.each m _ (List.getElem?_eq_getElem hm)).ok.links.len; unfold lenMost; omega)
     have P6 := P4.move v6 g6
     simp only [hmc] at e6
     have hS4 := v4.runs
     have hP1 := hS.push ⟨false, 1, [[.int .i64 ((m : Int) + 1)]]⟩
     have hP4 := hS4.push ⟨false, 1, [[.int .i64 ((i : Int) + 1)]]⟩
     simp only [encI] at e4 e6
     simp [Tryz.f110, em, ea, k11, hbr, Cell.eqA, emi, hS.at, hi', hl, ham, e4, e5, hP1.at, hS4.at, hm4, hi4, hmc, hci, e6, e7, hP4.at, hm']
     rw [linkP_at hi hm emi]
     simp only [hmr] at P6
     exact ⟨by unfold LexOk; kernel_rfl, by kernel_rfl, by kernel_rfl, rfl, h6', c, _, rfl, P6, (g4.trans g6).toP⟩
  ·rw [if_neg (fun hh => al hh.1)]
   rw [aliveC_not al, em] at ea
   simp [Tryz.f110, em, ea, k11]
   exact ⟨by unfold LexOk; kernel_rfl, rfl, h, c, cs, rfl, hP, StepP.refl _ _ _⟩
 have k12 : o.kind = 12 := by omega
 unfold addressI
 rw [if_neg k6, if_neg k11]
 by_cases al : Alive w to.n
 ·rw [if_neg (fun hh => hh al)]
  obtain ⟨hm, hm', hwm⟩ := liveIn al
  rw [if_pos (aliveC_iff.2 al), em2, em] at ea
  have hrm := hV.each m hm
  by_cases emi : m = i
  ·subst emi
   rw [if_neg (fun hh => hh.1 em)]
   simp [Tryz.f110, em, ea, k12, hbr, Cell.eqA]
   exact ⟨by unfold LexOk; kernel_rfl, rfl, h, c, cs, rfl, hP, StepP.refl _ _ _⟩
  ·have hl := c_ContainsI (h := h) hrm.watched ((i : Int) + 1)
   rw [hwm] at hl
   by_cases ham : (i : Int) + 1 ∈ (runAt w to.n).watched
   ·rw [if_neg (fun hh => hh.2 ham)]
    simp only [ham] at hl
    simp [Tryz.f110, em, ea, k12, hbr, Cell.eqA, emi, hS.at, hi', hm', hid, hl]
    exact ⟨by unfold LexOk; kernel_rfl, rfl, h, c, cs, rfl, hP, StepP.refl _ _ _⟩
   ·rw [if_pos ⟨by rw [em]; omega, ham⟩]
    obtain ⟨s4, k4, h4, e4, e5, S4, v4, g4, _⟩ := hV.watchedAdd hm ((i : Int) + 1) (by have := (I.each m _ (List.getElem?_eq_getElem hm)).ok.watched.len; unfold lenMost; omega)
    have P4 := hP.move v4 g4
    have hP1 := hS.push ⟨false, 1, [[.int .i64 ((i : Int) + 1)]]⟩
    have hl' := hl
    simp only [ham] at hl
    simp only [encI] at e4
    simp [Tryz.f110, em, ea, k12, hbr, Cell.eqA, emi, hS.at, hi', hm', hid, hl, e4, e5, hP1.at]
    rw [watchP_at hm]
    exact ⟨by unfold LexOk; kernel_rfl, by kernel_rfl, rfl, h4, c, _, rfl, P4, g4.toP⟩
 ·rw [if_pos al]
  obtain ⟨_, e2, h2, c2, cs2, rfl, P2, g2, r2⟩ := c_give hP SI ((i : Int) + 1) to okto
  rw [aliveC_not al, em] at ea
  simp only [encV, em, k3] at e2
  simp [Tryz.f110, em, k3, ea, k12, hS.at, hi', hid, e2]
  exact ⟨by kernel_rfl, rfl, h2, c2, cs2, rfl, P2, g2⟩
end Go.Proofs.YtmkiojlebjknlaaGreat
