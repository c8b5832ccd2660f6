/-
  What functions of the seat answer, each proved once; each under the condition that cells bear what it is given, as its statement says.
-/
import Derived.Test.YtmkiojlebjknlaaGreatWalkA12
set_option linter.all false
/-
 THE PROGRAM's without: what it answers.
-/
set_option maxRecDepth 8000
namespace Go.Proofs.YtmkiojlebjknlaaGreat
open Go.AM
variable {h h' : H} {lo : Nat} {w : PWorld} {c : WorldC} {st cs : List RunC}
structure CutIn (h : H) (s : Cell) (zs : List Int) (s' : Cell) (h' : H) : Prop where
 sl : Sl h' s' 1 encI zs
 wr : Wr h' s'
 un : Un s'
 chg : Chg h (fun id => id ∈ s.ids) h'
 ids : ∀ id ∈ s'.ids, id ∈ s.ids
theorem c_withoutF {pb : Nat} {n : Int} (hb : h.get pb = some ⟨false, 1, [[.int .i64 n]]⟩) (x : Int) : Dz.den 168 [.c (.int .i64 x), .c (.ptr pb 0 0)] h = some (.c (.bool (decide (x = n))), h) := by
 refine den_plain rfl Tryz.func168 rfl rfl ?_
 simp [Tryz.f168, H.cellsAt, hb]
structure Mid (xs : List Int) (n : Int) (j : Nat) (cur : List Int) : Prop where
 len : cur.length = xs.length
 front : cur.take (less (xs.take j) n).length = less (xs.take j) n
 back : cur.drop j = xs.drop j
 lt : (less (xs.take j) n).length < j
theorem Mid.cur {xs : List Int} {n : Int} {j : Nat} {cur : List Int} (m : Mid xs n j cur) (hj : j < xs.length) : cur[j]? = some xs[j] := by
 have := congrArg (·[0]?) m.back
 simp only [List.getElem?_drop, Nat.add_zero] at this
 rw [this, List.getElem?_eq_getElem hj]
theorem less_snoc {xs : List Int} {n : Int} {j : Nat} (hj : j < xs.length) : less (xs.take (j + 1)) n = if xs[j] = n then less (xs.take j) n else less (xs.take j) n ++ [xs[j]] := by
 rw [List.take_succ_eq_append_getElem hj]
 unfold less
 rw [List.filter_append]
 by_cases d : xs[j] = n <;> simp [d]
theorem Mid.skip {xs : List Int} {n : Int} {j : Nat} {cur : List Int} (m : Mid xs n j cur) (hj : j < xs.length) (h : xs[j] = n) : Mid xs n (j + 1) cur := by
 have e := less_snoc (n := n) hj
 rw [if_pos h] at e
 refine ⟨m.len, by rw [e]; exact m.front, ?_, by rw [e]; have := m.lt; omega⟩
 have := congrArg (List.drop 1) m.back
 simpa [List.drop_drop, Nat.add_comm] using this
theorem Mid.move {xs : List Int} {n : Int} {j : Nat} {cur : List Int} (m : Mid xs n j cur) (hj : j < xs.length) (h : xs[j] ≠ n) : Mid xs n (j + 1) (cur.set (less (xs.take j) n).length xs[j]) := by
 have e := less_snoc (n := n) hj
 rw [if_neg h] at e
 have hlt := m.lt
 have hlen := m.len
 refine ⟨by simp [m.len], ?_, ?_, by rw [e]; simp; omega⟩
 ·rw [e, List.length_append, List.length_singleton, List.take_succ_eq_append_getElem (by simp; omega)]
  rw [List.take_set_of_le (Nat.le_refl _), m.front]
  simp
 ·rw [List.drop_set_of_lt (by omega)]
  have := congrArg (List.drop 1) m.back
  simpa [List.drop_drop, Nat.add_comm] using this
theorem Mid.first {xs : List Int} {n : Int} {i : Nat} (hi : i < xs.length) (h : xs[i] = n) (hb : ∀ x ∈ xs.take i, x ≠ n) : Mid xs n (i + 1) xs ∧ less (xs.take (i + 1)) n = xs.take i := by
 have e := less_snoc (n := n) hi
 rw [if_pos h] at e
 have e2 : less (xs.take i) n = xs.take i := by
  unfold less; rw [List.filter_eq_self]; intro x hx; simp [hb x hx]
 rw [e2] at e
 have hm : (xs.take i).length = i := by rw [List.length_take]; omega
 refine ⟨⟨rfl, ?_, rfl, ?_⟩, e⟩
 ·rw [e, hm]
 ·rw [e, hm]; omega
theorem clear_rest {k : H} {s : Cell} {cur : List Int} (hS : Sl k s 1 encI cur) (hw : Wr k s) {T : TT} {t e : TypeId} (ht : T.td t = .slice e) (ho : isOther T e = false) (he : T.size e = 1) (hz : (T.zero e).length = 1) {i : Nat} (hi : i < cur.length) {kk : IntKind} :
  ∃ s2 k', sliceA T k t (.c s) (some (.c (.int kk i))) none none = some (.c s2) ∧ clearA T e k (.c s2) = some k' ∧ Sl k' (cutTo s i) 1 encI (cur.take i) ∧ Wr k' (cutTo s i) ∧ Un (cutTo s i) ∧ Chg k (fun id => id ∈ s.ids) k' ∧ (cutTo s i).ids = s.ids ∧ sliceA T k' t (.c s) none (some (.c (.int kk i))) none = some (.c (cutTo s i)) := by
 obtain ⟨id, o, b, rfl, hg, hes, hle, hel⟩ := hS.cons hi
 obtain ⟨b', hg', hro⟩ := hw id (by simp [Cell.ids])
 rw [hg] at hg'; cases hg'
 have hlen := hS.len
 have hcap : capOk k id o cur.length none = true := by simp [capOk, hg]; omega
 have hb : (0 : Int) ≤ i ∧ (i : Int) ≤ cur.length := by omega
 have hl2 : ¬ i = 0 → i < b.el.length - o := fun _ => by omega
 let b2 : Blk := { b with el := b.el.take (o + i) ++ List.replicate (cur.length - i) (T.zero e) ++ b.el.drop (o + i + (cur.length - i)) }
 have hbl : b2.el.length = b.el.length := by simp [b2]; omega
 have hel2 : (b2.el.drop o).take i = (cur.take i).map encI := by
  have h1 : (b2.el.drop o).take i = (b.el.drop o).take i := by
   apply List.ext_getElem?
   intro q
   by_cases hq : q < i
   ·rw [List.getElem?_take_of_lt hq, List.getElem?_take_of_lt hq, List.getElem?_drop, List.getElem?_drop]
    simp only [b2]
    rw [List.append_assoc, List.getElem?_append_left (by simp; omega), List.getElem?_take_of_lt (by omega)]
   ·rw [List.getElem?_eq_none (by simp; omega), List.getElem?_eq_none (by simp; omega)]
  rw [h1, List.map_take, ← hel, List.take_take, Nat.min_eq_left (by omega)]
 have hlt := H.get_lt hg
 refine ⟨.sl id (o + i) (cur.length - i) none, List.set k id (some b2), ?_, ?_, ⟨fun x _ => rfl, by simp [cutTo]; omega, by show i ≤ sMost; omega, b2, get_set_self hlt, hes, by rw [hbl]; omega, hel2⟩, ?_, Un.new, ⟨by simp, fun q _ hn => get_set_ne (by simpa [Cell.ids] using hn)⟩, rfl, ?_⟩
 ·by_cases h0 : i = 0
  ·subst h0; simp [sliceA, ht, ho, hcap, lowOf, bound, cutA]
  ·have hi2 : (i : Int) ≤ cur.length := by omega
   simp [sliceA, ht, ho, hcap, lowOf, bound, cutA, hg, hes, he, h0, hl2 h0, hi2]
 ·have hle2 : o + i + (cur.length - i) ≤ b.el.length := by omega
  simp [clearA, hg, hro, hes, hz, ho, b2, hle2]
 ·intro q hq
  simp only [cutTo, Cell.ids, List.mem_singleton] at hq
  subst hq
  exact ⟨b2, get_set_self hlt, hro⟩
 ·have hcap2 : capOk (List.set k id (some b2)) id o cur.length none = true := by simp [capOk, get_set_self hlt, hbl]; omega
  have hi2 : (i : Int) ≤ cur.length := by omega
  simp [sliceA, ht, ho, hcap2, lowOf, bound, cutA, cutTo, hi2]
set_option maxHeartbeats 1000000 in
theorem c_DeleteFunc {s : Cell} {xs : List Int} (hS : Sl h s 1 encI xs) (hw : Wr h s) (hu : Un s) {pb : Nat} {n : Int} (hb : h.get pb = some ⟨false, 1, [[.int .i64 n]]⟩) (hp : pb ∉ s.ids) (hl : xs.length ≤ 2097152) :
  @Wp _ (Dz.den 167 [.c s, .c (.fn 168 [(pb, 0, 0)])] h) ⟨fun x => ∃ s' k, x = (.c s', k) ∧ CutIn h s (less xs n) s' k⟩ := by
 refine den_wp rfl Tryz.func167 rfl ?_
 have ei := c_IndexFuncI (f := 168) (caps := [(pb, 0, 0)]) (p := fun x => decide (x = n)) hS fun x _ => c_withoutF hb x
 by_cases hn : n ∈ xs
 ·obtain ⟨i, hi, hxi, hbe⟩ : ∃ (i : Nat) (hi : i < xs.length), xs[i] = n ∧ ∀ x ∈ xs.take i, x ≠ n := by
   have hex : xs.findIdx? (fun x => decide (x = n)) ≠ none := by
    intro h0; rw [List.findIdx?_eq_none_iff] at h0
    have := h0 n hn; simp at this
   obtain ⟨i, hi⟩ := Option.ne_none_iff_exists'.1 hex
   rw [List.findIdx?_eq_some_iff_getElem] at hi
   obtain ⟨h1, h2, h3⟩ := hi
   refine ⟨i, h1, by simpa using h2, fun x hx => ?_⟩
   obtain ⟨j, hj, rfl⟩ := List.getElem_of_mem hx
   have hj' : j < i := by simp at hj; omega
   have := h3 j hj'
   simpa using this
  have hbt : AllTo xs i fun x => (fun x => decide (x = n)) x = false := fun x hx => by simpa using hbe x hx
  have ef : firstAt (fun x => decide (x = n)) xs = i := firstAt_some hi hbt (by simp [hxi])
  rw [ef] at ei
  obtain ⟨M0, eL⟩ := Mid.first hi hxi hbe
  have ni : ¬ (i : Int) = -1 := by omega
  have wi : IntKind.i64.wrap ((i : Int) + 1) = ((i + 1 : Nat) : Int) := by rw [wrapS (by omega) (by omega)]; omega
  simp [Tryz.f167, ei, ni, wi]
  refine loop_wp (σ := Nat × H × List Int) (fun g => ([.c s, .c (.fn 168 [(pb, 0, 0)]), .c .nils, .c (ci (less (xs.take g.1) n).length), .c (ci g.1)], [], [], g.2.1))
   (fun g => g.1 ≤ xs.length ∧ Mid xs n g.1 g.2.2 ∧ Sl g.2.1 s 1 encI g.2.2 ∧ Wr g.2.1 s ∧ Chg h (fun id => id ∈ s.ids) g.2.1 ∧ g.2.1.get pb = some ⟨false, 1, [[.int .i64 n]]⟩)
   (fun g => xs.length - g.1) (i + 1, h, xs) ?_ ⟨hi, M0, hS, hw, Chg.refl _ _, hb⟩ ?_
  ·simp [eL]; omega
  ·rintro ⟨j, k, cur⟩ ⟨hj, M, S, W, C, B⟩
   simp only at hj M S W C B ⊢
   have hlen := M.len
   by_cases hjl : j < xs.length
   ·have ec := c_withoutF B xs[j]
    have hcur := M.cur hjl
    have hjc : j < cur.length := by omega
    have hcj : cur[j] = xs[j] := by rw [List.getElem?_eq_getElem hjc] at hcur; simpa using hcur
    have wj : IntKind.i64.wrap ((j : Int) + 1) = (j : Int) + 1 := wrapS (by omega) (by omega)
    by_cases d : xs[j] = n
    ·have e := less_snoc (n := n) hjl
     rw [if_pos d] at e
     have dd : decide (xs[j] = n) = true := by simpa using d
     rw [dd] at ec
     rw [Wp_body]
     simp [S.lenA, hlen, hjl, ixA_nat S, S.at, hjc, hcj, ec, wj]
     refine ⟨j + 1, k, ⟨⟨by rw [e], by omega⟩, rfl⟩, ⟨by omega, cur, M.skip hjl d, S, W, C, B⟩, by omega⟩
    ·have e := less_snoc (n := n) hjl
     rw [if_neg d] at e
     have dd : decide (xs[j] = n) = false := by simpa using d
     rw [dd] at ec
     have hL : (less (xs.take j) n).length < cur.length := by have := M.lt; omega
     obtain ⟨k2, e2, S2, W2, l2, C2⟩ := S.write W hL (j := 0) (cs := [.int .i64 xs[j]]) (x := xs[j]) (by simp [splice]) (by simp)
     have wL : IntKind.i64.wrap (((less (xs.take j) n).length : Int) + 1) = ((less (xs.take j) n).length : Int) + 1 := wrapS (by omega) (by have := M.lt; omega)
     rw [Wp_body]
     have hL2 : (less (xs.take j) n).length < xs.length := by omega
     simp [S.lenA, hlen, hjl, ixA_nat S, S.at, hjc, hcj, ec, hL, hL2, e2, wj, wL]
     refine ⟨j + 1, k2, ⟨⟨by rw [e]; simp, by omega⟩, rfl⟩, ⟨by omega, _, M.move hjl d, S2, W2, C.trans C2 fun _ _ h => h, ?_⟩, by omega⟩
     rw [C2.keep pb (H.get_lt B) hp]; exact B
   ·have hje : j = xs.length := by omega
    subst hje
    have hL : (less xs n).length < cur.length := by have := M.lt; rw [List.take_length] at this; omega
    obtain ⟨s2, k2, e1, e2, S2, W2, U2, C2, I2, e3⟩ := clear_rest S W (T := TTz) (t := 25) (e := 3) (kk := .i64) rfl rfl rfl rfl hL
    have hf := M.front
    rw [List.take_length] at hf
    rw [hf] at S2
    rw [Wp_body]
    simp [S.lenA, hlen, e1, e2, e3]
    exact ⟨_, k2, ⟨rfl, rfl⟩, ⟨S2, W2, U2, C.trans C2 fun _ _ h => h, fun id h => by rw [I2] at h; exact h⟩⟩
 ·have ef : firstAt (fun x => decide (x = n)) xs = -1 := firstAt_none fun x hx => by
   simp; intro e; subst e; exact hn hx
  rw [ef] at ei
  simp [Tryz.f167, ei]
  refine ⟨s, h, ⟨rfl, rfl⟩, ⟨?_, hw, hu, Chg.refl _ _, fun _ h => h⟩⟩
  rw [less_none hn]; exact hS
theorem c_without {s : Cell} {xs : List Int} (hS : Sl h s 1 encI xs) (hw : Wr h s) (hu : Un s) (n : Int) (hl : xs.length ≤ 2097152) :
  @Wp _ (Dz.den 124 [.c s, .c (.int .i64 n)] h) ⟨fun x => ∃ s' k, x = (.c s', k) ∧ CutIn h s (less xs n) s' k⟩ := by
 refine den_wp rfl Tryz.func124 rfl ?_
 have x := Ext.push h ⟨false, 1, [[.int .i64 n]]⟩
 obtain ⟨_, e, s', k, rfl, c⟩ := c_DeleteFunc (hS.ext x) (hw.same fun id hid => x.2 id (hS.ids_lt id hid)) hu (pb := h.length) (n := n) get_push_self (fun h2 => by have := hS.ids_lt _ h2; omega) hl
 simp [Tryz.f124, e]
 exact ⟨s', k, ⟨rfl, rfl⟩, c.sl, c.wr, c.un, ⟨Nat.le_trans x.1 c.chg.len, fun id hid hn => by rw [c.chg.keep id (Nat.lt_of_lt_of_le hid x.1) hn, x.2 id hid]⟩, c.ids⟩
theorem WorldV.cutWatched (hV : WorldV lo h w c cs cs) {j : Nat} (hj : j < w.runs.length) {zs : List Int} {s : Cell} {k : H} (f : CutIn h (cs[j]'(by have := hV.len; omega)).watched zs s k) :
  ∃ k', H.write k (sid c.runs) (soff c.runs + j) 8 [s] = some k' ∧ WorldV lo k' { w with runs := w.runs.set j { w.runs[j] with watched := zs } } c (cs.set j { (cs[j]'(by have := hV.len; omega)) with watched := s }) (cs.set j { (cs[j]'(by have := hV.len; omega)) with watched := s }) ∧
   StepV h (part c cs) k' (part c (cs.set j { (cs[j]'(by have := hV.len; omega)) with watched := s })) := by
 have hi' : j < cs.length := by have := hV.len; omega
 obtain ⟨v1, g1⟩ := hV.newWatched hj f.chg f.sl f.wr f.un (fun id hid => .inl (f.ids id hid))
 obtain ⟨h5, e5, v5, g5⟩ := v1.lay (i := j) (by simpa using hj) (j := 8) (xs := [s]) (r' := { cs[j] with watched := s }) (by simp [splice]) (by simp)
 exact ⟨h5, e5, v5, g1.trans g5⟩
theorem WorldV.cutLinks (hV : WorldV lo h w c cs cs) {j : Nat} (hj : j < w.runs.length) {zs : List Int} {s : Cell} {k : H} (f : CutIn h (cs[j]'(by have := hV.len; omega)).links zs s k) :
  ∃ k', H.write k (sid c.runs) (soff c.runs + j) 7 [s] = some k' ∧ WorldV lo k' { w with runs := w.runs.set j { w.runs[j] with links := zs } } c (cs.set j { (cs[j]'(by have := hV.len; omega)) with links := s }) (cs.set j { (cs[j]'(by have := hV.len; omega)) with links := s }) ∧
   StepV h (part c cs) k' (part c (cs.set j { (cs[j]'(by have := hV.len; omega)) with links := s })) := by
 have hi' : j < cs.length := by have := hV.len; omega
 obtain ⟨v1, g1⟩ := hV.newLinks hj f.chg f.sl f.wr f.un (fun id hid => .inl (f.ids id hid))
 obtain ⟨h5, e5, v5, g5⟩ := v1.lay (i := j) (by simpa using hj) (j := 7) (xs := [s]) (r' := { cs[j] with links := s }) (by simp [splice]) (by simp)
 exact ⟨h5, e5, v5, g1.trans g5⟩
theorem WorldV.clearI (hV : WorldV lo h w c cs cs) {i : Nat} (hi : i < w.runs.length) (why : PVal) :
    ∃ h1 h2 h3 h4 h5 h6 cF, h.write (sid c.runs) (soff c.runs + i) 4 [.nils] = some h1 ∧ h1.write (sid c.runs) (soff c.runs + i) 7 [.nils] = some h2 ∧ h2.write (sid c.runs) (soff c.runs + i) 8 [.nils] = some h3 ∧ h3.write (sid c.runs) (soff c.runs + i) 5 [.int .i64 3] = some h4 ∧
      h4.write (sid c.runs) (soff c.runs + i) 10 [.int .i64 why.k, .int .i64 why.n] = some h5 ∧ h5.write (sid c.runs) (soff c.runs + i) 6 [.int .i64 0] = some h6 ∧
      WorldV lo h6 { w with runs := w.runs.set i (clearRun w.runs[i] why) } c (cs.set i cF) (cs.set i cF) ∧ StepV h (part c cs) h6 (part c (cs.set i cF)) ∧
      (∀ id, Owned (part c (cs.set i cF)) id → (id ∉ (cs[i]'(by have := hV.len; omega)).links.ids ∧ id ∉ (cs[i]'(by have := hV.len; omega)).watched.ids)) ∧
      (∀ id, id ∈ (cs[i]'(by have := hV.len; omega)).links.ids ∨ id ∈ (cs[i]'(by have := hV.len; omega)).watched.ids → h6.get id = h.get id) := by
  have hi' : i < cs.length := by have := hV.len; omega
  obtain ⟨h1, e1, v1, g1⟩ := hV.layMail hi (Fresh.nils h 2 encV)
  obtain ⟨h2, e2, v2, g2⟩ := v1.layLinks (j := i) (by simpa using hi) (Fresh.nils h1 1 encI)
  obtain ⟨h3, e3, v3, g3⟩ := v2.layWatched (j := i) (by simpa using hi) (Fresh.nils h2 1 encI)
  simp only [List.set_set, List.getElem_set_self] at v1 v2 v3 g1 g2 g3
  obtain ⟨h4, e4, v4, g4⟩ := v3.put (i := i) (by simpa using hi) (j := 5) (xs := [.int .i64 3]) (r := { w.runs[i] with mail := [], links := [], watched := [], state := 3 }) (r' := { cs[i] with mail := .nils, links := .nils, watched := .nils, state := 3 }) (by simp [splice]) (by simp) (fun _ q => by simp only [List.getElem_set_self] at q; exact ⟨q.id, q.at_, q.slots, q.full, q.mail, rfl, q.due, q.links, q.watched, q.trap, q.why, q.turns⟩) (by simp) (by simp) (by simp) (by simp)
  simp only [List.set_set] at v4 g4
  obtain ⟨h5, e5, v5, g5⟩ := v4.put (i := i) (by simpa using hi) (j := 10) (xs := [.int .i64 why.k, .int .i64 why.n]) (r := { w.runs[i] with mail := [], links := [], watched := [], state := 3, why := why }) (r' := { cs[i] with mail := .nils, links := .nils, watched := .nils, state := 3, why := why }) (by simp [splice]) (by simp) (fun _ q => by simp only [List.getElem_set_self] at q; exact ⟨q.id, q.at_, q.slots, q.full, q.mail, q.state, q.due, q.links, q.watched, q.trap, rfl, q.turns⟩) (by simp) (by simp) (by simp) (by simp)
  simp only [List.set_set] at v5 g5
  obtain ⟨h6, e6, v6, g6⟩ := v5.put (i := i) (by simpa using hi) (j := 6) (xs := [.int .i64 0]) (r := clearRun w.runs[i] why) (r' := { cs[i] with mail := .nils, links := .nils, watched := .nils, state := 3, why := why, due := 0 }) (by simp [splice]) (by simp) (fun _ q => by simp only [List.getElem_set_self] at q; exact ⟨q.id, q.at_, q.slots, q.full, q.mail, q.state, rfl, q.links, q.watched, q.trap, q.why, q.turns⟩) (by simp) (by simp) (by simp) (by simp)
  simp only [List.set_set] at v6 g6
  refine ⟨h1, h2, h3, h4, h5, h6, _, e1, e2, e3, e4, e5, e6, v6, g1.trans (g2.trans (g3.trans (g4.trans (g5.trans g6)))), fun id ho => ?_, fun id hid => ?_⟩
  · obtain ⟨k, hk⟩ := ho
    have ol := hV.own
    have key : ∀ {f : RunC → Cell} {key : Key}, part c cs key = f cs[i] → (key = .links i ∨ key = .watched i) → id ∉ (f cs[i]).ids := fun {f key} e hc hid => by
      have h0 : id ∈ (part c cs key).ids := by rw [e]; exact hid
      have : k = key := by
        by_cases hm : k = .mail i ∨ k = .links i ∨ k = .watched i
        · rcases hm with rfl | rfl | rfl <;> simp [part, fld, hi', Cell.ids] at hk
        · refine ol.one _ _ _ ?_ h0
          cases k with
          | code => exact hk
          | runs => exact hk
          | queue => exact hk
          | slots q => simp only [part, fld_set] at hk ⊢; split at hk
                       · rename_i e; obtain ⟨rfl, _⟩ := e; rw [fld_at hi']; exact hk
                       · exact hk
          | mail q => simp only [part, fld_set] at hk ⊢; split at hk
                      · rename_i e; obtain ⟨rfl, _⟩ := e; exact absurd (.inl rfl) hm
                      · exact hk
          | links q => simp only [part, fld_set] at hk ⊢; split at hk
                       · rename_i e; obtain ⟨rfl, _⟩ := e; exact absurd (.inr (.inl rfl)) hm
                       · exact hk
          | watched q => simp only [part, fld_set] at hk ⊢; split at hk
                         · rename_i e; obtain ⟨rfl, _⟩ := e; exact absurd (.inr (.inr rfl)) hm
                         · exact hk
      subst this
      rcases hc with rfl | rfl <;> simp [part, fld, hi', Cell.ids] at hk
    exact ⟨key (f := (·.links)) (key := .links i) (fld_at hi') (.inl rfl), key (f := (·.watched)) (key := .watched i) (fld_at hi') (.inr rfl)⟩
  · have hk : ∃ key : Key, (key = .links i ∨ key = .watched i) ∧ id ∈ (part c cs key).ids := by
      rcases hid with h | h
      · exact ⟨.links i, .inl rfl, by simpa [part, fld_at hi'] using h⟩
      · exact ⟨.watched i, .inr rfl, by simpa [part, fld_at hi'] using h⟩
    obtain ⟨key, hkey, hin⟩ := hk
    have hne : id ≠ sid c.runs := fun e => by
      have hr : id ∈ (part c cs .runs).ids := by
        show id ∈ c.runs.ids
        rw [hV.runs.ids_ne hi', e]; simp
      have := hV.own.one _ _ _ hin hr
      rcases hkey with rfl | rfl <;> cases this
    rw [write_keep e6 hne, write_keep e5 hne, write_keep e4 hne, write_keep e3 hne, write_keep e2 hne, write_keep e1 hne]
end Go.Proofs.YtmkiojlebjknlaaGreat

/-
 THE PROGRAM's end: what it answers.
-/
set_option maxRecDepth 8000
namespace Go.Proofs.YtmkiojlebjknlaaGreat
open Go.AM
variable {h h' : H} {lo p : Nat} {w : PWorld} {c : WorldC} {st cs : List RunC}
def OwnP (p : Nat) (q : Key → Cell) (id : Nat) : Prop := Owned q id ∨ id = p
theorem Apart.stepP {q q' : Key → Cell} {k k' : H} {xs : List Int} {s : Cell} (a : Apart (OwnP p q) k xs s) (x : StepP k p q k' q') : Apart (OwnP p q') k' xs s :=
 a.chg x.chg fun id ho => by
  rcases ho with ho | ho
  ·rcases x.sub id ho with h | h
   ·exact .inl (.inl h)
   ·exact .inr h
  ·exact .inl (.inr ho)
theorem Mine.stepP {q q' : Key → Cell} {k k' : H} {xs : List Int} {s : Cell} (a : Mine lo (OwnP p q) k xs s) (x : StepP k p q k' q') : Mine lo (OwnP p q') k' xs s :=
 a.chg x.chg fun id ho => by
  rcases ho with ho | ho
  ·rcases x.sub id ho with h | h
   ·exact .inl (.inl h)
   ·exact .inr h
  ·exact .inl (.inr ho)
theorem StepP.then {h k k' : H} {q q' : Key → Cell} {r : Nat → Prop} (s : StepP h p q k q') (x : Chg k r k') (hr : ∀ id, r id → h.length ≤ id) : StepP h p q k' q' :=
 ⟨s.chg.trans x fun id hid h => by have := hr id h; omega, s.sub⟩
theorem WorldP.chg (hP : WorldP lo h p w c cs) {o : Nat → Prop} (x : Chg h o h') (hn : ∀ id, OwnP p (part c cs) id → ¬ o id) : WorldP lo h' p w c cs :=
 ⟨hP.v.chg x fun id ho => hn id (.inl ho), by rw [x.keep p hP.lt (hn p (.inr rfl))]; exact hP.at_, hP.out, hP.ge⟩
theorem WorldP.ext (hP : WorldP lo h p w c cs) (x : Ext h h') : WorldP lo h' p w c cs := ⟨hP.v.ext x, by rw [x.2 p hP.lt]; exact hP.at_, hP.out, hP.ge⟩
theorem WorldP.own_lt (hP : WorldP lo h p w c cs) : ∀ id, OwnP p (part c cs) id → id < h.length := fun id ho => by
 rcases ho with ho | rfl
 ·exact hP.v.own.owned_lt id ho
 ·exact hP.lt
theorem Mine.app1P (hP : WorldP lo h p w c cs) {xs : List Int} {s : Cell} {m : Nat} (a : Mine m (OwnP p (part c cs)) h xs s) (x : Int) (hl : xs.length + 1 ≤ lenMost) (hm : m ≤ h.length) :
  ∃ s' k', appendA 1 (h.push ⟨false, 1, [encI x]⟩) (.c s) (.c (.sl h.length 0 1 none)) = some (.c s', k') ∧ Mine m (OwnP p (part c cs)) k' (xs ++ [x]) s' ∧ WorldP lo k' p w c cs ∧ Chg h (fun id => id ∈ s.ids) k' := by
 have e := Ext.push h ⟨false, 1, [x].map encI⟩
 have a1 := a.ext e
 have hT : Sl (h.push ⟨false, 1, [x].map encI⟩) (.sl h.length 0 [x].length none) 1 encI [x] := Sl.new (by simp) (by simp [sMost])
 obtain ⟨s', k', e1, b⟩ := a1.app (lo := m) hT (by simp) (by simpa using hl)
 have v1 := hP.ext e
 refine ⟨s', k', e1, b.mine a1 (fun id h => v1.own_lt id h) (by simp; omega), v1.chg b.chg fun id ho hid => a1.a.out id hid ho, ?_⟩
 exact ⟨Nat.le_trans e.1 b.chg.len, fun id hid hn => by rw [b.chg.keep id (Nat.lt_of_lt_of_le hid e.1) hn, e.2 id hid]⟩
def EndQ (lo : Nat) (h : H) (p : Nat) (q : Key → Cell) (r : Cell) (w' : PWorld) (next : List Int) (x : V × H) : Prop :=
 ∃ k c' cs' s, x = (.c s, k) ∧ WorldP lo k p w' c' cs' ∧ StepP h p q k (part c' cs') ∧ c'.runs = r ∧ Apart (OwnP p (part c' cs')) k next s
theorem WorldP.cutQueue (hP : WorldP lo h p w c cs) {zs : List Int} {s : Cell} {k : H} (f : CutIn h c.queue zs s k) :
  ∃ k', k.write p 0 2 [s] = some k' ∧ WorldP lo k' p { w with queue := zs } { c with queue := s } cs ∧ StepP h p (part c cs) k' (part { c with queue := s } cs) := by
 obtain ⟨v, g⟩ := hP.v.newQueue f.chg f.sl f.wr f.un fun id hid => .inl (f.ids id hid)
 obtain ⟨a3, b3⟩ := g.away hP.lt hP.out
 rw [hP.at_] at a3
 obtain ⟨k4, e4, P4, ch4⟩ := v.home a3 b3 hP.ge (j := 2) (xs := [s]) (by simp [splice]) (by simp)
 exact ⟨k4, e4, P4, g.toP.trans (StepP.of_chg ch4)⟩
set_option maxRecDepth 16000 in
set_option maxHeartbeats 4000000 in
theorem c_end (hP : WorldP lo h p w c cs) (I : Inv w) (hs : w.sent ≤ 100000000000) {id : Int} (ha : Alive w id) {why : PVal} (hw : valOk why = true) :
  @Wp _ (Dz.den 75 [.c (.ptr p 0 0), .c (.int .i64 id), .g (encV why)] h) ⟨EndQ lo h p (part c cs) c.runs (endP w id why).1 (endP w id why).2⟩ := by
 refine den_wp rfl Tryz.func75 rfl ?_
 have hV := hP.v
 have hS := hV.runs
 have hlen := hV.len
 obtain ⟨n1, n2, n3⟩ := I.nn
 have hll := I.lostle
 have hid6 : 1 ≤ id ∧ id ≤ 6 := by have := I.many; have := ha.1; omega
 obtain ⟨i, ei1, ei, hi, hg, R⟩ := I.run ha.1
 have hr : runAt w id = w.runs[i] := by have := List.getElem?_eq_getElem hi; rw [hg] at this; simpa using this
 rw [hr] at R
 have hi' : i < cs.length := by omega
 have hq := hV.each i hi
 have hroom := R.ok.room
 have er := c_run hP.at_ hS id
 rw [if_pos (by omega), ei] at er
 have wl : IntKind.i64.wrap (c.lost + w.runs[i].mail.length) = w.lost + w.runs[i].mail.length := by rw [hV.lost]; exact wrapS (by omega) (by omega)
 have v0 := hV.nums w.now w.sent w.taken (w.lost + w.runs[i].mail.length)
 obtain ⟨h0, e0, P0, ch0⟩ := v0.home (c0 := c) hP.at_ (by rw [numsPart]; exact hP.out) hP.ge (j := 6) (xs := [.int .i64 (w.lost + w.runs[i].mail.length)]) (by simp [splice, hV.now, hV.sent, hV.taken]) (by simp)
 have s0 : StepP h p (part c cs) h0 (part c cs) := StepP.of_chg ch0
 obtain ⟨h1, h2, h3, h4, h5, h6, cF, e1, e2, e3, e4, e5, e6, v6, g6, out6, kp6⟩ := P0.v.clearI (i := i) hi why
 have P6 := P0.move v6 g6
 have g6' := g6
 rw [numsPart] at g6'
 have s6 := s0.trans g6'.toP
 obtain ⟨_, e7, s7, k7, rfl, f7⟩ := c_without P6.v.queue (P6.v.own.wr .queue) (P6.v.own.un .queue) id (by have := I.qlen; show w.queue.length ≤ _; omega)
 obtain ⟨k8, e8, P8, g8⟩ := P6.cutQueue f7
 have s8 := s6.trans g8
 have hgp0 := P0.at_
 have hgp6 := P6.at_
 have hgp := hP.at_
 have hS0 := P0.v.runs
 obtain ⟨a7, b7⟩ : k7.get p = some ⟨false, 7, [encW ({ c with now := w.now, sent := w.sent, taken := w.taken, lost := w.lost + w.runs[i].mail.length } : WorldC)]⟩ ∧ True := ⟨by rw [f7.chg.keep p P6.lt (fun hh => P6.out ⟨.queue, hh⟩)]; exact P6.at_, trivial⟩
 have hgp8 := P8.at_
 have hS8 : Sl k8 c.runs 13 encR (cs.set i cF) := P8.v.runs
 have elinks : (runAt w id).links = w.runs[i].links := by rw [hr]
 have ewatch : (runAt w id).watched = w.runs[i].watched := by rw [hr]
 obtain ⟨W0, hW0⟩ : ∃ W0 : PWorld, W0 = { w with lost := w.lost + w.runs[i].mail.length, runs := w.runs.set i (clearRun w.runs[i] why), queue := less w.queue id } := ⟨_, rfl⟩
 have P8' : WorldP lo k8 p W0 ({ c with queue := s7, now := w.now, sent := w.sent, taken := w.taken, lost := w.lost + w.runs[i].mail.length } : WorldC) (cs.set i cF) := by rw [hW0]; exact P8
 have hWn : W0.runs.length = w.runs.length := by rw [hW0]; simp
 have hn6 : W0.runs.length ≤ 6 := by rw [hWn]; exact I.many.2
 have hbase : unwatchTo W0 id W0.runs.length = endBase w id why := by
  unfold unwatchTo endBase
  rw [List.take_length, List.drop_length, List.append_nil, hW0, hr, ei]
 have hwl : ∀ r ∈ W0.runs, r.watched.length ≤ 6 := fun r hrm => by
  obtain ⟨j, hj, rfl⟩ := List.getElem_of_mem hrm
  have hj' : j < w.runs.length := by omega
  have e : W0.runs[j] = if i = j then clearRun w.runs[i] why else w.runs[j] := by simp only [hW0, List.getElem_set]
  rw [e]
  split
  ·simp [clearRun]
  ·exact (I.each j _ (List.getElem?_eq_getElem hj')).ok.watched.len
 have cap : ∀ f, Un (rpart cs[i] f) := hV.run_un hi'
 have lt0 : ∀ q, q ∈ cs[i].links.ids ∨ q ∈ cs[i].watched.ids → q < h.length ∧ q ≠ p := fun q hq' => by
  rcases hq' with h' | h'
  ·exact ⟨hq.links.ids_lt q h', fun e => hP.out ⟨.links i, by rw [← e]; simpa [part, fld_at hi'] using h'⟩⟩
  ·exact ⟨hq.watched.ids_lt q h', fun e => hP.out ⟨.watched i, by rw [← e]; simpa [part, fld_at hi'] using h'⟩⟩
 have kp0 : ∀ q, q ∈ cs[i].links.ids ∨ q ∈ cs[i].watched.ids → h6.get q = h.get q := fun q hq' => by
  rw [kp6 q hq', ch0.keep q (lt0 q hq').1 (lt0 q hq').2]
 have apl6 : Apart (OwnP p (part ({ c with now := w.now, sent := w.sent, taken := w.taken, lost := w.lost + w.runs[i].mail.length } : WorldC) (cs.set i cF))) h6 w.runs[i].links cs[i].links := ⟨hq.links.same fun q hq' => kp0 q (.inl hq'), fun q hq' ho => by
  rcases ho with ho | ho
  ·exact (out6 q ho).1 hq'
  ·exact (lt0 q (.inl hq')).2 ho, (cap 2).1⟩
 have apw6 : Apart (OwnP p (part ({ c with now := w.now, sent := w.sent, taken := w.taken, lost := w.lost + w.runs[i].mail.length } : WorldC) (cs.set i cF))) h6 w.runs[i].watched cs[i].watched := ⟨hq.watched.same fun q hq' => kp0 q (.inr hq'), fun q hq' ho => by
  rcases ho with ho | ho
  ·exact (out6 q ho).2 hq'
  ·exact (lt0 q (.inr hq')).2 ho, (cap 3).1⟩
 have apl := apl6.stepP g8
 have apw := apw6.stepP g8
 have hl8 := P8.v.len
 simp [Tryz.f75, er, hS.at, hi', hgp, at_blk hgp, hq.mail.lenA, wl, e0, e1, e2, e3, e4, e5, e6, at_blk hgp6, e7, e8, at_blk hgp8, hS8.lenA]
 refine ⟨by unfold LexOk; kernel_rfl, by kernel_rfl, by kernel_rfl, ?_⟩
 have hcl : cs.length = W0.runs.length := by omega
 rw [hcl]
 refine count_wpG (σ := H × List RunC) W0.runs.length (fun j g => ([.c (.ptr p 0 0), .c (ci id), .c .nils, .c cs[i].links, .c cs[i].watched, .c (ci W0.runs.length), .c (ci j)], [encV why], [], g.1))
  (fun j g => WorldP lo g.1 p (unwatchTo W0 id j) ({ c with queue := s7, now := w.now, sent := w.sent, taken := w.taken, lost := w.lost + w.runs[i].mail.length } : WorldC) g.2 ∧ StepP h p (part c cs) g.1 (part ({ c with queue := s7, now := w.now, sent := w.sent, taken := w.taken, lost := w.lost + w.runs[i].mail.length } : WorldC) g.2) ∧ Apart (OwnP p (part ({ c with queue := s7, now := w.now, sent := w.sent, taken := w.taken, lost := w.lost + w.runs[i].mail.length } : WorldC) g.2)) g.1 w.runs[i].links cs[i].links ∧ Apart (OwnP p (part ({ c with queue := s7, now := w.now, sent := w.sent, taken := w.taken, lost := w.lost + w.runs[i].mail.length } : WorldC) g.2)) g.1 w.runs[i].watched cs[i].watched)
  (k8, cs.set i cF) rfl ⟨P8', s8, apl, apw⟩ ?_ ?_
 ·rintro j ⟨k, cs2⟩ hj ⟨P, s, al, aw⟩
  simp only at P s al aw ⊢
  have v := P.v
  have hl2 := v.len
  rw [unwatchTo_len] at hl2
  have hj2 : j < cs2.length := by omega
  have hjw : j < (unwatchTo W0 id j).runs.length := by rw [unwatchTo_len]; exact hj
  have hgj := unwatchTo_get (id := id) hj
  have hgj2 : (unwatchTo W0 id j).runs[j] = W0.runs[j] := by rw [List.getElem?_eq_getElem hjw] at hgj; simpa using hgj
  have hrj := v.each j hjw
  have hSj : Sl k c.runs 13 encR cs2 := v.runs
  have wrj : Wr k cs2[j].watched := by have := v.own.wr (.watched j); simpa [part, fld_at hj2] using this
  have unj : Un cs2[j].watched := by have := v.own.un (.watched j); simpa [part, fld_at hj2] using this
  obtain ⟨_, e3, s3, k3, rfl, f3⟩ := c_without hrj.watched wrj unj id (by rw [hgj2]; have := hwl _ (List.getElem_mem hj); omega)
  obtain ⟨k4, e4, v4, g4⟩ := v.cutWatched hjw f3
  have P4 := P.move v4 g4
  have hgp2 := P.at_
  have hSj3 : Sl k3 c.runs 13 encR cs2 := hSj.same fun q hq' => f3.chg.keep q (hSj.ids_lt q hq') fun hh => by
   have : Key.runs = .watched j := v.own.one _ _ q hq' (by simpa [part, fld_at hj2] using hh)
   cases this
  rw [Wp_body]
  have hgp3 : k3.get p = some ⟨false, 7, [encW ({ c with queue := s7, now := w.now, sent := w.sent, taken := w.taken, lost := w.lost + w.runs[i].mail.length } : WorldC)]⟩ := by
   rw [f3.chg.keep p P.lt (fun hh => P.out ⟨.watched j, by simpa [part, fld_at hj2] using hh⟩)]; exact hgp2
  simp [hj, hj2, at_blk hgp2, ixA_nat hSj, hSj.at, e3, ixA_nat hSj3, e4, at_blk hgp3]
  simp only [hgj2] at P4 g4
  refine ⟨by kernel_rfl, k4, ⟨wrapS (by omega) (by omega), rfl⟩, _, ?_, s.trans g4.toP, al.stepP g4.toP, aw.stepP g4.toP⟩
  rw [← unwatchTo_succ hj]
  exact P4
 ·rintro ⟨k, cs2⟩ ⟨P, s, al, aw⟩
  simp only at P s al aw ⊢
  rw [hbase] at P
  obtain ⟨E0, al1⟩ := I.endBaseTo ha hw
  have hks : ∀ q ∈ w.runs[i].links, 1 ≤ q ∧ q ≤ w.runs.length := fun q hq => ⟨(R.ok.links.2 q hq).1, R.links q hq⟩
  have hk6 := R.ok.links.len
  have hsl0 := al.sl
  rw [Wp_body]
  simp [hsl0.lenA]
  refine count_wpG (σ := H × WorldC × List RunC × Cell) w.runs[i].links.length (fun j g => ([.c (.ptr p 0 0), .c (ci id), .c .nils, .c cs[i].watched, .c g.2.2.2, .c cs[i].links, .c (ci w.runs[i].links.length), .c (ci j)], [encV why], [], g.1))
   (fun j g => WorldP lo g.1 p ((w.runs[i].links.take j).foldl (linkStep id why) (endBase w id why, [])).1 g.2.1 g.2.2.1 ∧ StepP h p (part c cs) g.1 (part g.2.1 g.2.2.1) ∧
    Apart (OwnP p (part g.2.1 g.2.2.1)) g.1 w.runs[i].links cs[i].links ∧ Apart (OwnP p (part g.2.1 g.2.2.1)) g.1 w.runs[i].watched cs[i].watched ∧
    Mine h.length (OwnP p (part g.2.1 g.2.2.1)) g.1 ((w.runs[i].links.take j).foldl (linkStep id why) (endBase w id why, [])).2 g.2.2.2 ∧ g.2.1.runs = c.runs)
   (k, { c with queue := s7, now := w.now, sent := w.sent, taken := w.taken, lost := w.lost + w.runs[i].mail.length }, cs2, .nils) rfl ⟨P, s, al, aw, Mine.nils, rfl⟩ ?_ ?_
  ·rintro j ⟨k, c2, cs2, sn⟩ hj ⟨P, s, al, aw, mn, cr⟩
   simp only at P s al aw mn cr ⊢
   have E := EndTo.links (why := why) hid6 (w.runs[i].links.take j) E0 (fun q hq => hks q (List.mem_of_mem_take hq))
   have et : w.runs[i].links.take (j + 1) = w.runs[i].links.take j ++ [w.runs[i].links[j]] := List.take_succ_eq_append_getElem hj
   rw [et, List.foldl_append, List.foldl_cons, List.foldl_nil]
   have hxl := links_next_len (id := id) (why := why) (w.runs[i].links.take j) (endBase w id why, [])
   generalize (w.runs[i].links.take j).foldl (linkStep id why) (endBase w id why, []) = x at *
   have hkk := hks _ (List.getElem_mem hj)
   obtain ⟨m, em, em2, hm, hgm, Rm⟩ := E.inv.run (id := w.runs[i].links[j]) ⟨hkk.1, by rw [E.len]; exact hkk.2⟩
   have hgm2 : runAt x.1 w.runs[i].links[j] = x.1.runs[m] := by have := List.getElem?_eq_getElem hm; rw [hgm] at this; simpa using this
   have hm6 : m < 6 := by have := E.len; have := I.many.2; omega
   have v := P.v
   have hl2 := v.len
   have hm' : m < cs2.length := by omega
   have hS2 := v.runs
   have hrm := v.each m hm
   rw [hgm2] at Rm
   have ec := c_run P.at_ hS2 w.runs[i].links[j]
   rw [if_pos (by omega), em2] at ec
   have wrj : Wr k cs2[m].links := by have := v.own.wr (.links m); simpa [part, fld_at hm'] using this
   have unj : Un cs2[m].links := by have := v.own.un (.links m); simpa [part, fld_at hm'] using this
   obtain ⟨_, e3, s3, k3, rfl, f3⟩ := c_without hrm.links wrj unj id (by have := Rm.ok.links.len; omega)
   obtain ⟨k4, e4, v4, g4⟩ := v.cutLinks hm f3
   have P4 := P.move v4 g4
   have hgp2 := P.at_
   have hgp4 := P4.at_
   have hS4 := v4.runs
   have I4 : EndTo w (w.sent + j) w.runs.length (aliveN w.runs - 1) ({ x.1 with runs := x.1.runs.set m { x.1.runs[m] with links := less x.1.runs[m].links id } }, x.2) := by
    have hset : setRun x.1 w.runs[i].links[j] { runAt x.1 w.runs[i].links[j] with links := less (runAt x.1 w.runs[i].links[j]).links id } = { x.1 with runs := x.1.runs.set m { x.1.runs[m] with links := less x.1.runs[m].links id } } := by
     unfold setRun; rw [em2, hgm2]
    rw [← hset]
    have hk2 : 1 ≤ w.runs[i].links[j] ∧ w.runs[i].links[j] ≤ x.1.runs.length := ⟨hkk.1, by rw [E.len]; exact hkk.2⟩
    exact ⟨E.inv.unlink hk2 id, by have := E.sent; rw [List.length_take] at this; show x.1.sent ≤ _; omega, by rw [setRun_len]; exact E.len, E.code, E.now, by rw [aliveN_unlink hk2]; exact E.alive, E.next⟩
   have htr := hrm.trap
   have hsl := al.sl
   have wj : IntKind.i64.wrap ((j : Int) + 1) = (j : Int) + 1 := wrapS (by omega) (by omega)
   have hv3 : valOk ⟨3, id⟩ = true := valOk_run hid6
   rw [em] at ec
   by_cases hn : why = ⟨2, 0⟩
   ·subst hn
    rw [Wp_body]
    simp [hj, ixA_nat hsl, hsl.at, em, ec, hS2.at, hm', e3, e4]
    rw [linkStep_at hm, if_pos rfl]
    exact ⟨k4, c2, _, sn, ⟨⟨rfl, wj⟩, rfl⟩, P4, s.trans g4.toP, al.stepP g4.toP, aw.stepP g4.toP, mn.stepP g4.toP, cr⟩
   ·have hn' : ¬ (why.k = 2 ∧ why.n = 0) := fun hh => hn (by cases why; simp at hh; simp [hh])
    by_cases ht : x.1.runs[m].trap = true
    ·have ht' : cs2[m].trap = true := by rw [htr]; exact ht
     obtain ⟨_, e5, k5, c5, cs5, rfl, P5, g5, r5⟩ := c_give P4 (I4.inv.saneI (by have := I4.sent; simp only at this ⊢; omega)) ((m : Int) + 1) ⟨3, id⟩ hv3
     simp only [encV] at e5
     rw [Wp_body]
     simp [hj, ixA_nat hsl, hsl.at, em, ec, hS2.at, hm', e3, e4, hn', hS4.at, ht', e5]
     rw [linkStep_at hm, if_neg hn, if_pos ht]
     have g45 := g4.toP.trans g5
     exact ⟨k5, c5, _, sn, ⟨⟨rfl, wj⟩, rfl⟩, P5, s.trans g45, al.stepP g45, aw.stepP g45, mn.stepP g45, r5.trans cr⟩
    ·have ht' : cs2[m].trap = false := by rw [htr]; simpa using ht
     have m4 := mn.stepP g4.toP
     have hnl : x.2.length ≤ 6 := by rw [List.length_take] at hxl; simp only [List.length_nil] at hxl; omega
     obtain ⟨s6, k6, e6, m6, P6, ch6⟩ := m4.app1P P4 ((m : Int) + 1) (by unfold lenMost; omega) (Nat.le_trans s.chg.len g4.chg.len)
     rw [Wp_body]
     simp [hj, ixA_nat hsl, hsl.at, em, ec, hS2.at, hm', e3, e4, hn', hS4.at, ht', e6]
     rw [linkStep_at hm, if_neg hn, if_neg ht]
     have S6 := (s.trans g4.toP).then ch6 fun q hq => m4.ge q hq
     have old : ∀ q, q ∈ cs[i].links.ids ∨ q ∈ cs[i].watched.ids → q ∉ sn.ids := fun q h1 h2 => by
      have h3 := m4.ge q h2
      have := (lt0 q h1).1; omega
     exact ⟨k6, c2, _, s6, ⟨⟨rfl, wj⟩, rfl⟩, P6, S6, (al.stepP g4.toP).other ch6 fun q h1 => old q (.inl h1), (aw.stepP g4.toP).other ch6 fun q h1 => old q (.inr h1), m6, cr⟩
  ·rintro ⟨k, c2, cs2, sn⟩ ⟨P, s, al, aw, mn, cr⟩
   simp only at P s al aw mn cr ⊢
   rw [List.take_length] at P mn
   have E := EndTo.links (why := why) hid6 w.runs[i].links E0 hks
   have eE : w.runs[i].links.foldl (linkStep id why) (endBase w id why, []) = endLinks w id why (runAt w id).links := by rw [elinks]; rfl
   rw [eE] at P mn E
   have hsl := al.sl
   have hsw0 := aw.sl
   rw [Wp_body]
   simp [hsw0.lenA]
   have hw6 : w.runs[i].watched.length ≤ 6 := R.ok.watched.len
   have hwk : ∀ q ∈ w.runs[i].watched, 1 ≤ q ∧ q ≤ 6 := fun q hq => ⟨(R.ok.watched.2 q hq).1, (R.ok.watched.2 q hq).2.1⟩
   have hv3 : valOk ⟨3, id⟩ = true := valOk_run hid6
   generalize hx : endLinks w id why (runAt w id).links = x at *
   refine count_wpG (σ := H × WorldC × List RunC) w.runs[i].watched.length (fun j g => ([.c (.ptr p 0 0), .c (ci id), .c .nils, .c sn, .c cs[i].watched, .c (ci w.runs[i].watched.length), .c (ci j)], [], [], g.1))
    (fun j g => WorldP lo g.1 p (tell id x.1 (w.runs[i].watched.take j)) g.2.1 g.2.2 ∧ StepP h p (part c cs) g.1 (part g.2.1 g.2.2) ∧
     Apart (OwnP p (part g.2.1 g.2.2)) g.1 w.runs[i].watched cs[i].watched ∧ Mine h.length (OwnP p (part g.2.1 g.2.2)) g.1 x.2 sn ∧ g.2.1.runs = c.runs)
    (k, c2, cs2) rfl ⟨P, s, aw, mn, cr⟩ ?_ ?_
   ·rintro j ⟨k, c3, cs3⟩ hj ⟨P, s, aw, mn, cr⟩
    simp only at P s aw mn cr ⊢
    have hsw := aw.sl
    have ET := E.tell hid6 (w.runs[i].watched.take j)
    have et : w.runs[i].watched.take (j + 1) = w.runs[i].watched.take j ++ [w.runs[i].watched[j]] := List.take_succ_eq_append_getElem hj
    have etl : tell id x.1 (w.runs[i].watched.take (j + 1)) = giveP (tell id x.1 (w.runs[i].watched.take j)) w.runs[i].watched[j] ⟨3, id⟩ := by
     rw [et]; unfold tell; rw [List.foldl_append]; rfl
    rw [etl]
    have hsn : (tell id x.1 (w.runs[i].watched.take j)).sent ≤ 1000000000000 := by have := ET.sent; rw [List.length_take] at this; simp only at this; omega
    have hkw := hwk _ (List.getElem_mem hj)
    obtain ⟨_, e5, k5, c5, cs5, rfl, P5, g5, r5⟩ := c_give P (ET.inv.saneI hsn) w.runs[i].watched[j] ⟨3, id⟩ hv3
    have wj : IntKind.i64.wrap ((j : Int) + 1) = (j : Int) + 1 := wrapS (by omega) (by omega)
    simp only [encV] at e5
    rw [Wp_body]
    simp [hj, ixA_nat hsw, hsw.at, e5]
    exact ⟨k5, ⟨wj, rfl⟩, c5, cs5, P5, s.trans g5, aw.stepP g5, mn.stepP g5, r5.trans cr⟩
   ·rintro ⟨k, c3, cs3⟩ ⟨P, s, aw, mn, cr⟩
    simp only at P s aw mn cr ⊢
    rw [List.take_length] at P
    rw [Wp_body]
    simp
    refine ⟨k, c3, cs3, sn, rfl, ?_, s, cr, ?_⟩
    ·unfold endP; rw [hx, ewatch]; exact P
    ·unfold endP; rw [hx]; exact mn.a
end Go.Proofs.YtmkiojlebjknlaaGreat
