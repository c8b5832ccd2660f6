/-
  What functions of the seat answer, each proved once; each under the condition that cells bear what it is given, as its statement says.
-/
import Derived.Test.YtjopaifbpeojeaaGreatWalk10
import Derived.Test.YtjopaifbpeojeaaGreatWalk16
import Derived.Test.YtjopaifbpeojeaaGreatWalk20
import Derived.Test.YtjopaifbpeojeaaGreatWalk15
import Derived.Test.YtjopaifbpeojeaaGreatWalk17
import Derived.Test.YtjopaifbpeojeaaGreatWalk1
import Derived.WalkKit
import Derived.Lib.Walk
import Derived.Test.YtjopaifbpeojeaaGreatAm7
import Derived.Test.YtjopaifbpeojeaaGreatWalk12
import Derived.WideShapes
import Derived.Below
import Derived.Carry
set_option linter.all false
/-
  WORLDS IN PLAIN DATA: a new world is a good one; what comes of things that happen.
-/
set_option maxRecDepth 8000
namespace Go.Proofs.YtjopaifbpeojeaaGreat
open Go.AM
variable {w : PWorld}
theorem both_01 {a : Int} (h : a = 0 ∨ a = 1) (b : Int) : both a b = 0 ∨ both a b = 1 := by
  have z : ∀ i : Int, 0 ≤ i → i ≤ 3 → has 0 i = false := by
    intro i h0 h1
    obtain rfl | rfl | rfl | rfl : i = 0 ∨ i = 1 ∨ i = 2 ∨ i = 3 := by omega
    all_goals decide
  have o : ∀ i : Int, 1 ≤ i → i ≤ 3 → has 1 i = false := by
    intro i h0 h1
    obtain rfl | rfl | rfl : i = 1 ∨ i = 2 ∨ i = 3 := by omega
    all_goals decide
  rcases h with rfl | rfl
  · left
    simp [both, bothTo, z]
  · by_cases hb : has b 0 = true
    · right
      have : has 1 0 = true := by decide
      simp [both, bothTo, o, hb, this]
    · left
      simp [both, bothTo, o, hb]
def Z01 (f : List Int) : Prop := f[0]?.getD 0 = 0 ∨ f[0]?.getD 0 = 1
theorem mergeF_Z {f : List Int} (h : Z01 f) (n : Nat) (b : Int) : Z01 (mergeF f n b) := by
  unfold Z01 mergeF
  rw [List.getElem?_set]
  split
  · rename_i e; subst e
    split
    · exact both_01 h b
    · exact .inl rfl
  · exact h
theorem goF_Z {f : List Int} (h : Z01 f) (o : POp) (x : Int) : Z01 (goF o f x) := by
  unfold goF
  split
  · exact mergeF_Z h _ _
  · exact h
theorem fromF_Z {f : List Int} (h : Z01 f) (o : POp) (i : Nat) : Z01 (fromF o f i) := by
  simp only [fromF]
  split
  · exact goF_Z h _ _
  · exact mergeF_Z (goF_Z h _ _) _ _
theorem passTo_Z {code : List POp} {f : List Int} (h : Z01 f) : ∀ i, Z01 (passTo code f i)
  | 0 => h
  | i + 1 => by
    simp only [passTo]
    split
    · exact fromF_Z (passTo_Z h i) _ _
    · exact passTo_Z h i
theorem fullF_Z {code : List POp} : ∀ (n : Nat) (f : List Int), wts f < n → Z01 f → Z01 (fullF code f) := by
  intro n
  induction n with
  | zero => intro f h; omega
  | succ n ih =>
    intro f hn hz
    by_cases h : wts (pass code f) < wts f
    · rw [fullF_step h]; exact ih _ (by omega) (passTo_Z hz _)
    · rw [fullF, if_neg h]; exact hz
theorem fullR_Z {code : List POp} : Z01 (fullR code) := by
  refine fullF_Z _ _ (Nat.lt_succ_self _) ?_
  unfold Z01 full0
  rw [List.getElem?_set]
  split
  · split
    · exact .inr rfl
    · exact .inl rfl
  · rename_i h; exact absurd rfl h
theorem newP_good {code : List POp} (S : CodeSafe code) : Good (newP code) := by
  have hl := (codeOk_len S.ok).1
  have hz : 0 ≤ (fullR code)[(0 : Int).toNat]?.getD 0 ∧ both ((fullR code)[(0 : Int).toNat]?.getD 0) 1 = (fullR code)[(0 : Int).toNat]?.getD 0 := by
    have := fullR_Z (code := code)
    unfold Z01 at this
    simp only [Int.toNat_zero]
    rcases this with h | h <;> rw [h] <;> decide
  have R : ∀ m, RunI code 0 m 0 (newRun 1 0 ⟨3, 1⟩) := fun m => by
    have := newRun_ok S (now := 0) (n := 0) (by omega) (to := 0) (by omega) (id := 1) (by omega) hz (m := m)
    simpa using this
  refine ⟨⟨S, by simp [newP], by simp [newP], by simp [newP], by simp [newP], fun q => ?_, fun i r hr => ?_, by simp [newP, mailSum, newRun]⟩, fun a b ha hb => ?_, fun a ha k hk => ?_⟩
  · simp only [newP, List.mem_singleton]
    constructor
    · rintro rfl
      exact ⟨0, rfl, _, rfl, rfl⟩
    · rintro ⟨i, rfl, r, hr, _⟩
      cases i with
      | zero => rfl
      | succ i => simp at hr
  · cases i with
    | zero => simp [newP] at hr; subst hr; exact R _
    | succ i => simp [newP] at hr
  · have e1 : a = 1 := by simp [newP] at ha; omega
    have e2 : b = 1 := by simp [newP] at hb; omega
    subst e1; subst e2; exact Iff.rfl
  · have e1 : a = 1 := by simp [newP] at ha; omega
    subst e1
    simp [newP, runAt, newRun] at hk
def playTo (code : List POp) (evs : List PEvent) : Nat → PWorld
  | 0 => newP code
  | i + 1 => doP (playTo code evs i) (evs[i]?.getD default)
theorem playTo_good {code : List POp} (S : CodeSafe code) (evs : List PEvent) : ∀ i, Good (playTo code evs i) ∧ phi (playTo code evs i) ≤ 12 + 36 * i
  | 0 => ⟨newP_good S, by simp [playTo, newP, phi, aliveN, newRun]⟩
  | i + 1 => by
    obtain ⟨a, b⟩ := playTo_good S evs i
    obtain ⟨c, d, _⟩ := a.doG (evs[i]?.getD default)
    exact ⟨c, by simp only [playTo]; omega⟩
end Go.Proofs.YtjopaifbpeojeaaGreat

/-
  NEW WORLDS: what WorldNew answers, by the reference and by the program.
-/
set_option maxRecDepth 8000
namespace Go.Proofs.YtjopaifbpeojeaaGreat
open Go.AM
variable {h h' k : H} {lo : Nat} {w : PWorld} {c : WorldC} {st cs : List RunC}
open Classical in
noncomputable def worldNewP (code : List POp) : PWorld := if CodeSafe code then newP code else emptyW
theorem newV {code : List POp} {r : PRun} {cr : RunC} {sc : Cell} (hc : Sl k sc 6 encO code) (wc : Wr k sc) (uc : Un sc) (gc : ∀ id ∈ sc.ids, h.length ≤ id) (hr : RunR k r cr) (nr : RunN h.length k cr)
    (dj : ∀ f, ∀ id ∈ (rpart cr f).ids, id ∉ sc.ids) (x : Ext h k) :
    WorldV h.length ((k.push ⟨false, 13, [encR cr]⟩).push ⟨false, 1, [encI 1]⟩) ⟨code, [r], [1], 0, 0, 0, 0⟩ ⟨sc, .sl k.length 0 1 none, .sl (k.length + 1) 0 1 none, 0, 0, 0, 0⟩ [cr] [cr] := by
  have x1 : Ext k (k.push ⟨false, 13, [encR cr]⟩) := Ext.push _ _
  have x2 : Ext k ((k.push ⟨false, 13, [encR cr]⟩).push ⟨false, 1, [encI 1]⟩) := x1.trans (Ext.push _ _)
  have lt := wc.lt
  have ltr : ∀ f, ∀ id ∈ (rpart cr f).ids, id < k.length := fun f => (nr.wr f).lt
  have hx := x.1
  have l1 : (k.push ⟨false, 13, [encR cr]⟩).length = k.length + 1 := by simp
  have ids : ∀ K id, id ∈ (part ⟨sc, .sl k.length 0 1 none, .sl (k.length + 1) 0 1 none, 0, 0, 0, 0⟩ [cr] K).ids →
      (K = .code ∧ id ∈ sc.ids) ∨ (K = .runs ∧ id = k.length) ∨ (K = .queue ∧ id = k.length + 1) ∨ ∃ f, keyOf K = some (0, f) ∧ id ∈ (rpart cr f).ids := by
    intro K id hid
    cases hk : keyOf K with
    | none =>
      rcases key_none hk with rfl | rfl | rfl
      · exact .inl ⟨rfl, hid⟩
      · exact .inr (.inl ⟨rfl, by simpa [part, Cell.ids] using hid⟩)
      · exact .inr (.inr (.inl ⟨rfl, by simpa [part, Cell.ids] using hid⟩))
    | some y =>
      obtain ⟨i, f⟩ := y
      rw [part_key hk] at hid
      cases i with
      | zero => exact .inr (.inr (.inr ⟨f, rfl, by simpa using hid⟩))
      | succ i => simp [Cell.ids] at hid
  have sr := Sl.new (ro := false) (h := k) (enc := encR) (xs := [cr]) (es := 13) (by simp) (by simp [sMost])
  have sq := Sl.new (ro := false) (h := k.push ⟨false, 13, [encR cr]⟩) (enc := encI) (xs := [1]) (es := 1) (by simp) (by simp [sMost])
  simp only [List.map_cons, List.map_nil, List.length_cons, List.length_nil, l1] at sr sq
  refine ⟨hc.ext x2, sr.ext (Ext.push _ _), rfl, rfl, fun i hi => ?_, sq, rfl, rfl, rfl, rfl, ⟨fun K id hid => ?_, fun K => ?_, fun K1 K2 id h1 h2 => ?_, fun K => ?_⟩, by have := x2.1; omega⟩
  · have : i = 0 := by simpa using hi
    subst this
    exact hr.ext x2
  · rcases ids K id hid with ⟨_, h1⟩ | ⟨_, h1⟩ | ⟨_, h1⟩ | ⟨f, _, h1⟩
    · exact gc id h1
    · omega
    · omega
    · exact nr.ge f id h1
  · cases hk : keyOf K with
    | none =>
      rcases key_none hk with rfl | rfl | rfl
      · exact wc.same fun id hid => x2.2 id (lt id hid)
      · intro id hid
        have : id = k.length := by simpa [part, Cell.ids] using hid
        subst this
        exact ⟨⟨false, 13, [encR cr]⟩, by rw [get_push_lt (by rw [l1]; omega), get_push_self], rfl⟩
      · intro id hid
        have : id = (k.push ⟨false, 13, [encR cr]⟩).length := by rw [l1]; simpa [part, Cell.ids] using hid
        subst this
        exact ⟨⟨false, 1, [encI 1]⟩, get_push_self, rfl⟩
    | some y =>
      obtain ⟨i, f⟩ := y
      rw [part_key hk]
      cases i with
      | zero => exact (nr.wr f).same fun id hid => x2.2 id (ltr f id hid)
      | succ i => exact fun id hid => by simp [Cell.ids] at hid
  · have big : ∀ f, id ∈ (rpart cr f).ids → id < k.length := fun f hh => ltr f id hh
    rcases ids K1 id h1 with ⟨e1, g1⟩ | ⟨e1, g1⟩ | ⟨e1, g1⟩ | ⟨f, e1, g1⟩ <;> rcases ids K2 id h2 with ⟨e2, g2⟩ | ⟨e2, g2⟩ | ⟨e2, g2⟩ | ⟨f2, e2, g2⟩
    · rw [e1, e2]
    · have := lt id g1; omega
    · have := lt id g1; omega
    · exact absurd g1 (dj f2 id g2)
    · have := lt id g2; omega
    · rw [e1, e2]
    · omega
    · have := ltr f2 id g2; omega
    · have := lt id g2; omega
    · omega
    · rw [e1, e2]
    · have := ltr f2 id g2; omega
    · exact absurd g2 (dj f id g1)
    · have := ltr f id g1; omega
    · have := ltr f id g1; omega
    · have := nr.one f f2 id g1 g2
      subst this
      exact key_inj e1 e2
  · cases hk : keyOf K with
    | none =>
      rcases key_none hk with rfl | rfl | rfl
      · exact uc
      · exact Un.new
      · exact Un.new
    | some y =>
      obtain ⟨i, f⟩ := y
      rw [part_key hk]
      cases i with
      | zero => exact nr.un f
      | succ i => exact Un.nils
def NewWQ (h : H) (code : List POp) (x : V × H) : Prop := ∃ k c' cs', x = (.t [.g (encW c'), .c (.bool (tt (CodeSafe code)))], k) ∧ Ext h k ∧ WorldV h.length k (worldNewP code) c' cs' cs'
set_option maxRecDepth 16000 in
theorem c_WorldNew {s : Cell} {code : List POp} (hS : Sl h s 6 encO code) (hu : Un s) (hl : code.length ≤ lenMost) : @Wp _ (Dz.den 107 [.c s] h) ⟨NewWQ h code⟩ := by
  refine den_wp rfl Tryz.func107 rfl ?_
  have e := c_CodeSafe hS
  unfold NewWQ worldNewP
  by_cases a : CodeSafe code
  · have a' : tt (CodeSafe code) = true := by simpa using a
    rw [a'] at e ⊢
    obtain ⟨s1, h1, e1, f1⟩ := hS.cloneF hu hl
    obtain ⟨_, e2, h2, cr, rfl, x2, q2, n2⟩ := c_l11New (h := h1) 1 0 ⟨3, 1⟩
    have v := newV (h := h) (f1.sl.ext x2) (f1.wr.same fun id hid => x2.2 id (f1.wr.lt id hid)) f1.un f1.ids q2 ⟨fun f id hid => by have := n2.ge f id hid; have := f1.ext.1; omega, n2.wr, n2.one, n2.un⟩
      (fun f id hid hh => by have := n2.ge f id hid; have := f1.wr.lt id hh; omega) (f1.ext.trans x2)
    simp only [encV] at e2
    rw [if_pos a]
    simp [Tryz.f107, e, e1, e2]
    exact ⟨by kernel_rfl, _, ⟨s1, .sl h2.length 0 1 none, .sl (h2.length + 1) 0 1 none, 0, 0, 0, 0⟩, ⟨⟨rfl, rfl, rfl, rfl, rfl, rfl, rfl⟩, rfl⟩, (f1.ext.trans x2).trans ((Ext.push _ _).trans (Ext.push _ _)), _, v⟩
  · have a' : tt (CodeSafe code) = false := by simpa using a
    rw [a'] at e ⊢
    rw [if_neg a]
    simp [Tryz.f107, e]
    exact ⟨rfl, h, ⟨.nils, .nils, .nils, 0, 0, 0, 0⟩, ⟨⟨rfl, rfl, rfl, rfl, rfl, rfl, rfl⟩, rfl⟩, Ext.refl _, _, emptyV h⟩
end Go.Proofs.YtjopaifbpeojeaaGreat

/-
  WHAT IS DRAWN: a play.
-/
set_option maxRecDepth 8000
namespace Go.Proofs.YtjopaifbpeojeaaGreat
open Go.AM
variable {h k : H} {p n m lo : Nat} {d : Cell} {bs : List Int}
theorem WorldV.chgp {w : PWorld} {c : WorldC} {cs : List RunC} (v : WorldV lo h w c cs cs) (x : Chg h (fun id => id = p) k) (hp : p < lo) : WorldV lo k w c cs cs :=
  v.chg x fun id ⟨K, hid⟩ e => by have := v.own.ge K id hid; omega
theorem WorldV.low {w : PWorld} {c : WorldC} {cs : List RunC} (v : WorldV lo h w c cs cs) {lo' : Nat} (hl : lo' ≤ lo) : WorldV lo' h w c cs cs :=
  ⟨v.code, v.runs, v.stl, v.len, v.each, v.queue, v.now, v.sent, v.taken, v.lost, ⟨fun K id hid => Nat.le_trans hl (v.own.ge K id hid), v.own.wr, v.own.one, v.own.un⟩, Nat.le_trans hl v.lo_le⟩
variable {α : Type} {enc : α → List Cell} {es : Nat} {xs : List α} {s : Cell}
theorem OwnL.same (o : OwnL lo k s es enc xs) {k' : H} (hk : ∀ id ∈ s.ids, k'.get id = k.get id) : OwnL lo k' s es enc xs := ⟨o.sl.same hk, o.wr.same hk, o.un, o.ids⟩
theorem OwnL.app2 (o : OwnL lo k s es enc xs) (hlo : lo ≤ k.length) (x : α) (hx : (enc x).length = es) (hl : xs.length + 1 ≤ lenMost) :
    ∃ s' k', appendA es (k.push ⟨false, es, [enc x]⟩) (.c s) (.c (.sl k.length 0 1 none)) = some (.c s', k') ∧ OwnL lo k' s' es enc (xs ++ [x]) ∧ Chg k (fun id => id ∈ s.ids) k' ∧ ∀ id ∈ s'.ids, id ∈ s.ids ∨ k.length ≤ id := by
  obtain ⟨s', k', e, G⟩ := o.sl.append_new o.wr o.un (ys := [x]) (by simpa using hx) (by simpa using hl)
  exact ⟨s', k', by simpa using e, ⟨G.sl, G.wr, G.un, fun id hid => by
    rcases G.ids id hid with h | h
    · exact o.ids id h
    · omega⟩, G.chg, G.ids⟩
theorem Rdr.keeps (R : Rdr h p d bs n) {o : Nat → Prop} (c : Chg h o k) (hp : ¬ o p) (hd : ∀ id ∈ d.ids, ¬ o id) : Rdr k p d bs n :=
  ⟨by rw [c.keep p R.lt hp]; exact R.at_, SlA.same R.data fun id hid => c.keep id (R.dlt id hid) (hd id hid), R.rng, R.out⟩
theorem playTo_pre (code : List POp) (evs : List PEvent) (x : PEvent) : ∀ i, i ≤ evs.length → playTo code (evs ++ [x]) i = playTo code evs i
  | 0, _ => rfl
  | i + 1, h => by rw [playTo, playTo, playTo_pre code evs x i (by omega), List.getElem?_append_left (by omega)]
theorem playTo_app (code : List POp) (evs : List PEvent) (x : PEvent) : playTo code (evs ++ [x]) (evs ++ [x]).length = doP (playTo code evs evs.length) x := by
  rw [List.length_append, List.length_singleton, playTo, playTo_pre code evs x _ (Nat.le_refl _)]
  simp
structure PlayD (lo : Nat) (k : H) (s t : Cell) (code : List POp) (evs : List PEvent) (w : PWorld) (c : WorldC) (cs : List RunC) : Prop where
  oc : OwnL lo k s 6 encO code
  safe : CodeSafe code
  oe : OwnL lo k t 4 encE evs
  few : evs.length ≤ 44
  dj : ∀ id ∈ s.ids, id ∉ t.ids
  world : WorldV lo k w c cs cs
  good : Good w
  sent : w.sent ≤ 2000
  eq : w = playTo code evs evs.length
def PlayP (lo : Nat) (v : V) (k : H) : Prop := ∃ s t code evs w c cs, v = .t [.c s, .c t, .g (encW c)] ∧ PlayD lo k s t code evs w c cs
set_option maxRecDepth 16000 in
set_option maxHeartbeats 4000000 in
theorem c_l72Play (R : Rdr h p d bs n) (hn : n ≤ 100000) : @Wp _ (Dz.den 67 [.c (.ptr p 0 0)] h) ⟨DrawQ h p d bs n 3000 (PlayP h.length)⟩ := by
  refine den_wp rfl Tryz.func67 rfl ?_
  have hp := R.lt
  have hd := R.dlt
  obtain ⟨_, e1, _, k1, q1, rfl, ⟨s, code, rfl, o1, sf⟩, R1, hq1, ch1⟩ := c_l71Safe R hn
  have h16 := (codeOk_len sf.ok)
  obtain ⟨_, e2, k2, c2, cs2, rfl, x2, v2⟩ := c_WorldNew o1.sl o1.un (by unfold lenMost; omega)
  have a' : tt (CodeSafe code) = true := by simpa using sf
  rw [a'] at e2
  unfold worldNewP at v2
  rw [if_pos sf] at v2
  have l1 := ch1.len
  have hp1 := R1.lt
  have hd1 := R1.dlt
  have x3 : Ext k2 (k2.push ⟨false, 4, []⟩) := Ext.push _ _
  have o3 : OwnL k2.length (k2.push ⟨false, 4, []⟩) (.sl k2.length 0 0 none) 4 encE [] := OwnL.new (enc := encE) (es := 4) k2 [] (by simp) (by simp)
  have R3 := R1.ext (x2.trans x3)
  obtain ⟨N, k4, e4, b4, R4, ch4⟩ := pick1 R3 (by omega) (m := 45) (by omega) (by omega)
  have l4 := ch4.len
  have hN : N ≤ 44 := by omega
  simp only [encW] at e2
  simp [Tryz.f67, e1, e2, e4]
  refine count_wpG (σ := H × Cell × List PEvent × PWorld × WorldC × List RunC × Nat) N
    (fun i g => ([.c (.ptr p 0 0), .c .nils, .c .nils, .c s, .c g.2.1, .c (ci ((N - i : Nat)))], [zeroW, encW g.2.2.2.2.1], [], g.1))
    (fun i g => OwnL k1.length g.1 g.2.1 4 encE g.2.2.1 ∧ g.2.2.1.length = i ∧ g.2.2.2.1 = playTo code g.2.2.1 g.2.2.1.length ∧ WorldV k1.length g.1 g.2.2.2.1 g.2.2.2.2.1 g.2.2.2.2.2.1 g.2.2.2.2.2.1 ∧ Good g.2.2.2.1 ∧ phi g.2.2.2.1 ≤ 12 + 36 * i ∧ (∀ id ∈ g.2.1.ids, ¬ Owned (part g.2.2.2.2.1 g.2.2.2.2.2.1) id) ∧
      Rdr g.1 p d bs g.2.2.2.2.2.2 ∧ g.2.2.2.2.2.2 ≤ n + 2001 + 20 * i ∧ Chg k1 (fun id => id = p) g.1)
    (k4, .sl k2.length 0 0 none, [], newP code, c2, cs2, q1 + 1) (by simp [zeroW]) ⟨(o3.chgp ch4 (by have := x2.1; omega)).low (x2.1), rfl, rfl, ((v2.ext x3).chgp ch4 hp1), newP_good sf, by simp [newP, phi, aliveN, newRun], fun id hid ho => by
      simp only [Cell.ids, List.mem_singleton] at hid
      have := v2.own.owned_lt id ho
      omega, R4, by simp only; omega, (Chg.of_ext (x2.trans x3) _).pp ch4⟩ ?_ ?_
  · rintro i ⟨g, t, evs, w, c, cs, q⟩ hi ⟨o, hl, weq, v, G, ph, dj, Rg, hq, cg⟩
    simp only at o hl weq v G ph dj Rg hq cg ⊢
    have I := G.inv
    have hlen := v.len
    have many := I.many
    have lg := cg.len
    obtain ⟨_, e5, _, k5, q5, rfl, ⟨x, rfl⟩, R5, hq5, ch5⟩ := c_l72Event Rg (by omega) v.runs (by omega)
    have o5 := o.chgp ch5 hp1
    have v5 := v.chgp ch5 hp1
    have l5 := ch5.len
    obtain ⟨t', k6, e6, o6, ch6, sub6⟩ := o5.app2 (Nat.le_trans lg l5) x (by simp) (by unfold lenMost; omega)
    have v6 := v5.chg ch6 fun id ho hid => dj id hid ho
    have R6 := R5.keeps ch6 (fun hh => by have := o.ids p hh; omega) fun id hid hh => by have := o.ids id hh; have := hd1 id hid; omega
    have sp := sent_phi w
    obtain ⟨_, e7, k7, c7, cs7, rfl, v7, s7⟩ := c_l22Do v6 G (by omega) x
    have ge6 := v6.own.owned_ge
    have o7 := o6.same fun id hid => s7.chg.keep id (o6.sl.ids_lt id hid) fun ho => by
      rcases sub6 id hid with hh | hh
      · exact dj id hh ho
      · have := v5.own.owned_lt id ho; omega
    have R7 := R6.keeps s7.chg (fun hh => by have := ge6 p hh; omega) fun id hid hh => by have := ge6 id hh; have := hd1 id hid; omega
    obtain ⟨G7, ph7, _⟩ := G.doG x
    have wj : IntKind.i64.wrap (((N - i : Nat) : Int) - 1) = ((N - (i + 1) : Nat) : Int) := by rw [wrapS (by omega) (by omega)]; omega
    have hpos : 0 < N - i := by omega
    have hpos' : ¬ N - i = 0 := by omega
    have c6 : Chg k1 (fun id => id = p) k6 := ⟨Nat.le_trans lg (Nat.le_trans l5 ch6.len), fun id hid hne => by
      rw [ch6.keep id (by omega) (fun hh => by have := o.ids id hh; omega), ch5.keep id (by omega) hne, cg.keep id hid hne]⟩
    have c8 : Chg k1 (fun id => id = p) k7 := ⟨Nat.le_trans c6.len s7.chg.len, fun id hid hne => by
      rw [s7.chg.keep id (by have := c6.len; omega) (fun hh => by have := ge6 id hh; omega), c6.keep id hid hne]⟩
    simp only [encW, encE] at e5 e6 e7
    rw [Wp_body]
    simp [hpos, hpos', e5, e6, e7, wj]
    exact ⟨k7, t', evs ++ [x], doP w x, c7, ⟨rfl, ⟨rfl, rfl, rfl, rfl, rfl, rfl, rfl⟩, rfl⟩, o7, by simp [hl], by rw [playTo_app, ← weq], cs7, v7, G7, by omega, fun id hid ho => by
      rcases s7.sub id ho with hh | hh
      · rcases sub6 id hid with h2 | h2
        · exact dj id h2 hh
        · have := v5.own.owned_lt id hh; omega
      · have := o6.sl.ids_lt id hid; omega, q5, R7, by omega, c8⟩
  · rintro ⟨g, t, evs, w, c, cs, q⟩ ⟨o, hl, weq, v, G, ph, dj, Rg, hq, cg⟩
    simp only at o hl weq v G ph dj Rg hq cg ⊢
    have sp := sent_phi w
    rw [Wp_body]
    simp [zeroW]
    have oc : OwnL h.length g s 6 encO code := by
      have hk : ∀ id ∈ s.ids, g.get id = k1.get id := fun id hid => cg.keep id (o1.sl.ids_lt id hid) fun e => by have := o1.ids id hid; omega
      exact o1.same hk
    exact ⟨by kernel_rfl, by kernel_rfl, _, g, q, rfl, ⟨s, t, code, evs, w, c, cs, rfl, oc, sf, o.low l1, by omega, fun id hid hh => by have := o1.sl.ids_lt id hid; have := o.ids id hh; omega, v.low l1, G, by omega, weq⟩, Rg, by omega, ch1.pp cg⟩
end Go.Proofs.YtjopaifbpeojeaaGreat

/-
  THE PROGRAM OF THE ABSTRACT MACHINE IS SOUND: the one function told by its answer alone answers so.
-/
set_option maxRecDepth 8000
namespace Go.Proofs.YtjopaifbpeojeaaGreat
open Go.AM Go.RowKit
set_option maxHeartbeats 1000000 in
set_option maxRecDepth 100000 in
theorem indexByte_calls (s : ByteArray) (c : Int) (w : World) :
    Calls Tryz.prog 174 #[.string s, .int .u8 c] w fun e w' => e = .returned (.int .i64 (Lib.indexByte s.data.toList c.toNat.toUInt8)) ∧ w' = w := by
  go_enter Tryz.func174, Tryz.ntmps174
  go_wp2
  rw [run_callFunc_extern Tryz.func178 (by kernel_rfl) (by kernel_rfl) (by kernel_rfl) (e := Extern.BytealgIndexByte.indexByte) (by kernel_rfl), Lib.run_indexByteString]
  simp only [Result.andThen]
  rw [Oper.upon_value]
  go_wp2
  go_ret
  exact ⟨rfl, rfl⟩
theorem prims_ok : Dz.PrimOk := by
  intro f args r h
  unfold Dz primF at h
  simp only at h
  split at h
  · cases h
  · rename_i hf
    split at h
    · rename_i s c
      cases h
      have hf : f = 174 := by simpa using hf
      subst hf
      refine ⟨fun hp B ι w cargs hr hl hargs => ?_, _, Tryz.func174, by kernel_rfl⟩
      match cargs, hl with
      | [a, b], _ =>
        have h0 := hargs 0 _ a rfl rfl
        have h1 := hargs 1 _ b rfl rfl
        simp [V.rel] at h0 h1
        obtain ⟨rfl, _⟩ := h0; obtain ⟨rfl, _⟩ := h1
        refine (indexByte_calls s c w).mono fun e w' ⟨he, hw⟩ => ?_
        subst hw
        exact ⟨_, ι, he, hr, FR.refl _ _ _, rfl, trivial⟩
    · cases h
theorem dz_ok : Dz.Ok := ⟨types_ok, mixed_ok, names_ok, prims_ok⟩
end Go.Proofs.YtjopaifbpeojeaaGreat

/-
  WHAT COMES IN, OPENED: bytes; and from the abstract machine to a row.
-/
set_option maxRecDepth 8000
namespace Go.Proofs.YtjopaifbpeojeaaGreat
open Go.AM
section
variable {H0 : Type} {enc : TypeId × Value → H0} {W : World} {held : Bool}
theorem Opn.nil (W : World) : Opn W [] (fun _ => default) :=
  ⟨⟨Nat.zero_le _, fun id b hg => by simp [H.get] at hg, fun id id' b b' _ hg => by simp [H.get] at hg⟩, fun id b hg => by simp [H.get] at hg⟩
theorem light_of {P : Program} {ts : List TypeId} {ds : List (DataW H0)} {i : Nat} {t : TypeId} {d : DataW H0} (h : (DataW.weightsEach P ts ds).all (· ≤ reachBytes) = true) (ht : ts[i]? = some t) (hd : ds[i]? = some d) : Light P t d := fun n hn => by
  have := List.all_eq_true.1 h n (weightsEach_mem ht hd n hn)
  simpa using this
theorem law_calls {h : H} {ι : Plan} (ho : Opn W h ι) {f : FuncId} {args : List V} {h' : H} (hd : Dz.den f args h = some (.c (.bool true), h')) (cargs : List Value) (hl : cargs.length = args.length)
    (ha : ∀ (j : Nat) (v : V) (u : Value), args[j]? = some v → cargs[j]? = some u → v.rel ι h.length u) :
    Calls Tryz.prog f cargs.toArray W fun e W' => e = .returned (.bool true) ∧ Go.RowKit.Below W.heap.size W W' := by
  refine (den_ok dz_ok hd 0 ι W cargs ho.hr hl ha).mono fun e W' ⟨x, ι', he, _, hf, hx⟩ => ?_
  have hx1 := (V.rel_known hx rfl).1
  subst he; subst hx1
  exact ⟨rfl, hf.os, hf.tape, hf.output, hf.size, fun k hk => hf.keep k hk fun id bl hg hro => absurd (ho.ro id bl hg) (by rw [hro]; simp)⟩
theorem laidOut : Go.laidOutB Tryz.prog = true := by kernel_rfl
theorem ownKnob_none : ownKnob Tryz.prog.godebug = none := by kernel_rfl
theorem cells_byte : Tryz.prog.cellsOf 5 = 1 := by kernel_rfl
theorem bytes_byte : 0 < Tryz.prog.bytesOf 5 := of_decide_eq_true (by kernel_rfl)
structure BytesA (h : H) (s : Cell) (bs : List Int) : Prop where
  sl : SlA h s 1 encU bs
  rng : ∀ b ∈ bs, 0 ≤ b ∧ b ≤ 255
theorem BytesA.ext {h h' : H} {s : Cell} {bs : List Int} (b : BytesA h s bs) (x : Ext h h') : BytesA h' s bs := ⟨b.sl.ext x, b.rng⟩
abbrev U8 := { n : Int // 0 ≤ n ∧ n ≤ 255 }
theorem er_byte : ElemRead enc Tryz.prog W (fun _ => true) held 5 (fun x : U8 => encU x.1) := fun fuel cs x hd => by
  obtain ⟨n, rfl, _, hw⟩ := DataW.trod_int Tryz.underlying5 hd
  refine ⟨⟨n, ?_⟩, fun ι => rfl⟩
  simp only [Lit.wf, Bool.and_eq_true, decide_eq_true_eq] at hw
  have h1 : IntKind.u8.min = 0 := rfl
  have h2 : IntKind.u8.max = 255 := by decide
  omega
theorem open_B {h : H} {ι : Plan} {fuel : Nat} {v : Value} {x : DataW H0 × List MemPlace} (ho : Opn W h ι) (hd : DataW.trod enc Tryz.prog W 0 (fun _ => true) held fuel 22 [v] = some x) (hL : Light Tryz.prog 22 x.1) :
    ∃ (c : Cell) (bs : List Int) (h' : H) (ι' : Plan), Gr h ι h' ι' ∧ Opn W h' ι' ∧ BytesA h' c bs ∧ v = c.conc ι' ∧ c.below h'.length := by
  obtain ⟨c, xs, h', ι', g, o, s, e, w⟩ := open_flat Tryz.underlying22 cells_byte (by omega) (encA := fun x : U8 => encU x.1) (fun _ => rfl) (fun a c hc => by simp [encU] at hc; subst hc; rfl) er_byte ho hd hL bytes_byte
  refine ⟨c, xs.map (·.1), h', ι', g, o, ⟨?_, fun b hb => ?_⟩, e, w⟩
  · rcases s with ⟨h1, h2⟩ | ⟨h1, h2⟩
    · refine .inl ⟨fun x hx => by simp, ?_⟩
      have ee : xs.map (·.1) = [] ↔ xs = [] := by cases xs <;> simp
      cases c with
      | nils => exact ee.2 h2
      | sle id i l => exact ⟨ee.2 h2.1, h2.2⟩
      | sl id i len o =>
        cases o with
        | none => simpa [List.map_map, Function.comp_def] using h2
        | some c => exact ⟨h2.1, h2.2.1, ee.2 h2.2.2⟩
      | _ => exact h2.elim
    · exact .inr ⟨by simp [h1], h2⟩
  · obtain ⟨y, _, rfl⟩ := List.mem_map.1 hb
    exact y.2
theorem bytes_arg {r : Reach} {b0 : Nat} {v : Value} {d : DataW H0} {ps : List MemPlace} (hv : Value.okWide Tryz.prog W r b0 22 v) (hd : DataW.Trod enc Tryz.prog W 0 (fun _ => true) held 22 v d ps) (hL : Light Tryz.prog 22 d) :
    ∃ (s : Cell) (bs : List Int) (h : H) (ι : Plan), Opn W h ι ∧ BytesA h s bs ∧ (V.c s).rel ι h.length v := by
  obtain ⟨a, n, c, rfl⟩ := Go.WideShapes.okWide_slice Tryz.underlying22 hv
  obtain ⟨f0, hf⟩ := hd
  obtain ⟨s, code, k0, i0, g0, o0, s0, e0, w0⟩ := open_B (Opn.nil W) hf hL
  exact ⟨s, code, k0, i0, o0, s0, V.rel_mk e0 w0⟩
end
end Go.Proofs.YtjopaifbpeojeaaGreat

/-
  WHAT IS DRAWN: the reader opened; code and what happens, to be played.
-/
set_option maxRecDepth 8000
namespace Go.Proofs.YtjopaifbpeojeaaGreat
open Go.AM
variable {h k : H} {p n m lo : Nat} {d : Cell} {bs : List Int}
def OpenQ (h : H) (x : V × H) : Prop := ∃ k d bs, x = (.c (.ptr h.length 0 0), k) ∧ Ext h k ∧ Rdr k h.length d bs 0
theorem c_l6Open {s : Cell} (hS : BytesA h s bs) : @Wp _ (Dz.den 40 [.c s] h) ⟨OpenQ h⟩ := by
  refine den_wp rfl Tryz.func40 rfl ?_
  have eL := fun e => hS.sl.lenA (e := e)
  unfold OpenQ
  by_cases a : bs.length ≤ 2000
  · have a' : ¬ (2000 : Int) < bs.length := by omega
    simp [Tryz.f40, eL, a']
    exact ⟨Ext.push _ _, s, bs, get_push_self, hS.sl.ext (Ext.push _ _), hS.rng, fun hid => by
      rcases hS.sl with hh | ⟨_, q, rfl⟩
      · have := hh.ids_lt _ hid; omega
      · simp [Cell.ids] at hid⟩
  · have a' : (2000 : Int) < bs.length := by omega
    have S : Sl h s 1 encU bs := by
      rcases hS.sl with hh | ⟨hh, _⟩
      · exact hh
      · rw [hh] at a; simp at a
    have e1 := sliceA_to S (T := TTz) (t := 22) (k := .i64) (n := 2000) rfl rfl (by omega)
    have S2 := S.cutTo (n := 2000) (by omega)
    simp at e1
    simp [Tryz.f40, eL, a', e1]
    exact ⟨Ext.push _ _, cutTo s 2000, bs.take 2000, get_push_self, .inl (S2.ext (Ext.push _ _)), fun b hb => hS.rng b (List.mem_of_mem_take hb), fun hid => by have := S2.ids_lt _ hid; omega⟩
end Go.Proofs.YtjopaifbpeojeaaGreat

/-
  WORLDS IN PLAIN DATA: what a change leaves of a run.
-/
set_option maxRecDepth 8000
namespace Go.Proofs.YtjopaifbpeojeaaGreat
variable {w w' : PWorld}
structure RunK (r r' : PRun) : Prop where
  id : r'.id = r.id
  at_ : r'.at_ = r.at_
  full : r'.full = r.full
  slots : r'.slots = r.slots
  trap : r'.trap = r.trap
  turns : r'.turns = r.turns
  mail : r'.state = 3 ∨ r.mail <+: r'.mail
  ended : r.state = 3 → r'.state = 3
  due : r'.due = r.due ∨ r.state ≠ 3 ∧ r'.due ≤ 0
  going : r'.state = r.state ∨ r'.state = 3 ∨ r.state = 2 ∧ r'.state = 1
  why : r'.why = r.why ∨ r.state ≠ 3 ∧ r'.state = 3
theorem RunK.refl (r : PRun) : RunK r r := ⟨rfl, rfl, rfl, rfl, rfl, rfl, .inr (List.prefix_refl _), fun h => h, .inl rfl, .inl rfl, .inl rfl⟩
theorem RunK.trans {a b c : PRun} (x : RunK a b) (y : RunK b c) : RunK a c :=
  ⟨y.id.trans x.id, y.at_.trans x.at_, y.full.trans x.full, y.slots.trans x.slots, y.trap.trans x.trap, y.turns.trans x.turns, by
    rcases y.mail with h | h
    · exact .inl h
    · rcases x.mail with g | g
      · exact .inl (y.ended g)
      · exact .inr (g.trans h), fun h => y.ended (x.ended h), by
    rcases y.due with h | h
    · rcases x.due with g | g
      · exact .inl (h.trans g)
      · exact .inr ⟨g.1, by have := g.2; omega⟩
    · exact .inr ⟨fun e => h.1 (x.ended e), h.2⟩, by
    rcases y.going with h | h | h
    · rcases x.going with g | g | g
      · exact .inl (h.trans g)
      · exact .inr (.inl (h.trans g))
      · exact .inr (.inr ⟨g.1, h.trans g.2⟩)
    · exact .inr (.inl h)
    · rcases x.going with g | g | g
      · exact .inr (.inr ⟨g ▸ h.1, h.2⟩)
      · rw [h.1] at g; cases g
      · rw [g.2] at h; exact absurd h.1 (by decide), by
    rcases y.why with h | h
    · rcases x.why with g | g
      · exact .inl (h.trans g)
      · exact .inr ⟨g.1, y.ended g.2⟩
    · exact .inr ⟨fun e => h.1 (x.ended e), h.2⟩⟩
structure WK (p : Nat → Prop) (n : Nat) (id : Int) (w w' : PWorld) : Prop where
  len : w.runs.length ≤ w'.runs.length
  len2 : w'.runs.length ≤ w.runs.length + n
  each : ∀ (i : Nat) r, ¬ p i → w.runs[i]? = some r → ∃ r', w'.runs[i]? = some r' ∧ RunK r r'
  turns : ∀ (i : Nat) r, w.runs[i]? = some r → ∃ r', w'.runs[i]? = some r' ∧ r'.turns = r.turns
  new : ∀ (j : Nat) r', w.runs.length ≤ j → w'.runs[j]? = some r' → ∃ k to, RunK (newRun k to ⟨3, id⟩) r'
variable {p : Nat → Prop} {n m : Nat} {id : Int}
theorem WK.eq (e : w'.runs = w.runs) : WK p 0 id w w' :=
  ⟨by rw [e]; exact Nat.le_refl _, by rw [e]; exact Nat.le_refl _, fun i r _ h => ⟨r, by rw [e]; exact h, RunK.refl r⟩, fun i r h => ⟨r, by rw [e]; exact h, rfl⟩, fun j r' hj h => by
    rw [e, List.getElem?_eq_none hj] at h; cases h⟩
theorem WK.refl (w : PWorld) : WK p 0 id w w := WK.eq rfl
theorem WK.trans {a b c : PWorld} (x : WK p n id a b) (y : WK p m id b c) (hp : ∀ j, p j → j < a.runs.length) : WK p (n + m) id a c :=
  ⟨Nat.le_trans x.len y.len, by have := x.len2; have := y.len2; omega, fun i r hi h => by
    obtain ⟨r1, h1, k1⟩ := x.each i r hi h
    obtain ⟨r2, h2, k2⟩ := y.each i r1 hi h1
    exact ⟨r2, h2, k1.trans k2⟩, fun i r h => by
    obtain ⟨r1, h1, k1⟩ := x.turns i r h
    obtain ⟨r2, h2, k2⟩ := y.turns i r1 h1
    exact ⟨r2, h2, k2.trans k1⟩, fun j r2 hj h => by
    by_cases hb : b.runs.length ≤ j
    · exact y.new j r2 hb h
    · have hg : b.runs[j]? = some (b.runs[j]'(by omega)) := List.getElem?_eq_getElem (by omega)
      obtain ⟨k, to, q⟩ := x.new j _ hj hg
      obtain ⟨r3, h3, q3⟩ := y.each j _ (fun hh => by have := hp j hh; omega) hg
      rw [h] at h3; cases h3
      exact ⟨k, to, q.trans q3⟩⟩
theorem WK.mono {q : Nat → Prop} (x : WK p n id w w') (h : ∀ i, p i → q i) : WK q n id w w' := ⟨x.len, x.len2, fun i r hi hr => x.each i r (fun hh => hi (h i hh)) hr, x.turns, x.new⟩
theorem WK.le (x : WK p n id w w') (h : n ≤ m) : WK p m id w w' := ⟨x.len, by have := x.len2; omega, x.each, x.turns, x.new⟩
theorem WK.set {i : Nat} {r' : PRun} (e : w'.runs = w.runs.set i r') (h : ∀ r, w.runs[i]? = some r → (p i ∧ r'.turns = r.turns) ∨ RunK r r') : WK p 0 id w w' := by
  refine ⟨by rw [e]; simp, by rw [e]; simp, fun j r hj hr => ?_, fun j r hr => ?_, fun j r2 hj hr => ?_⟩
  · by_cases hij : i = j
    · subst hij
      have hl := (List.getElem?_eq_some_iff.1 hr).1
      refine ⟨r', by rw [e]; simp [hl], ?_⟩
      rcases h r hr with ⟨h1, _⟩ | h1
      · exact absurd h1 hj
      · exact h1
    · exact ⟨r, by rw [e, List.getElem?_set_ne hij]; exact hr, RunK.refl r⟩
  · by_cases hij : i = j
    · subst hij
      have hl := (List.getElem?_eq_some_iff.1 hr).1
      refine ⟨r', by rw [e]; simp [hl], ?_⟩
      rcases h r hr with ⟨_, h1⟩ | h1
      · exact h1
      · exact h1.turns
    · exact ⟨r, by rw [e, List.getElem?_set_ne hij]; exact hr, rfl⟩
  · rw [e, List.getElem?_eq_none (by simpa using hj)] at hr; cases hr
theorem WK.map {f : PRun → PRun} (e : w'.runs = w.runs.map f) (h : ∀ r, RunK r (f r)) : WK p 0 id w w' :=
  ⟨by rw [e]; simp, by rw [e]; simp, fun i r _ hr => ⟨f r, by rw [e, List.getElem?_map, hr]; rfl, h r⟩, fun i r hr => ⟨f r, by rw [e, List.getElem?_map, hr]; rfl, (h r).turns⟩, fun j r2 hj hr => by
    rw [e, List.getElem?_eq_none (by simpa using hj)] at hr; cases hr⟩
theorem runAt_some {k : Int} {r : PRun} (h : w.runs[(k - 1).toNat]? = some r) : runAt w k = r := by unfold runAt; rw [h]; rfl
theorem WK.setRun {k : Int} {r' : PRun} (h : ∀ r, runAt w k = r → (p (k - 1).toNat ∧ r'.turns = r.turns) ∨ RunK r r') : WK p 0 id w (setRun w k r') :=
  WK.set (i := (k - 1).toNat) rfl fun r hr => h r (runAt_some hr)
theorem give_wk (w : PWorld) (k : Int) (v : PVal) : WK p 0 id w (giveP w k v) := by
  unfold giveP
  split
  · rename_i t
    obtain ⟨_, t2, _⟩ := t
    split
    · rename_i wk
      refine WK.set rfl fun r hr => ?_
      have := runAt_some hr
      rw [this] at t2 wk ⊢
      exact .inr ⟨rfl, rfl, rfl, rfl, rfl, rfl, .inr (List.prefix_append _ _), fun h => absurd h t2, .inl rfl, .inr (.inr ⟨wk.1, rfl⟩), .inl rfl⟩
    · refine WK.set rfl fun r hr => ?_
      have := runAt_some hr
      rw [this] at t2 ⊢
      exact .inr ⟨rfl, rfl, rfl, rfl, rfl, rfl, .inr (List.prefix_append _ _), fun h => absurd h t2, .inl rfl, .inl rfl, .inl rfl⟩
  · exact WK.eq rfl
theorem WK.trans0 {a b c : PWorld} (x : WK (fun _ => False) 0 id a b) (y : WK (fun _ => False) m id b c) : WK (fun _ => False) m id a c := (x.trans y (fun _ h => h.elim)).le (by omega)
theorem tell_wk (k : Int) : ∀ (ks : List Int) (w : PWorld), WK (fun _ => False) 0 id w (tell k w ks)
  | [], w => WK.refl w
  | a :: ks, w => by
    unfold tell
    rw [List.foldl_cons]
    exact (give_wk w a _).trans0 (tell_wk k ks _)
theorem linkStep_wk (k : Int) (why : PVal) (x : PWorld × List Int) (a : Int) : WK (fun _ => False) 0 id x.1 (linkStep k why x a).1 := by
  have s : WK (fun _ => False) 0 id x.1 (setRun x.1 a { runAt x.1 a with links := less (runAt x.1 a).links k }) :=
    WK.setRun fun r hr => .inr (by rw [hr]; exact ⟨rfl, rfl, rfl, rfl, rfl, rfl, .inr (List.prefix_refl _), fun h => h, .inl rfl, .inl rfl, .inl rfl⟩)
  unfold linkStep
  split
  · exact s
  · split
    · exact s.trans0 (give_wk _ _ _)
    · exact s
theorem endLinks_wk (k : Int) (why : PVal) : ∀ (ks : List Int) (x : PWorld × List Int), WK (fun _ => False) 0 id x.1 (ks.foldl (linkStep k why) x).1
  | [], x => WK.refl _
  | a :: ks, x => by
    rw [List.foldl_cons]
    exact (linkStep_wk k why x a).trans0 (endLinks_wk k why ks _)
theorem endP_wk (w : PWorld) {k : Int} (ha : Alive w k) (why : PVal) : WK (fun _ => False) 0 id w (endP w k why).1 := by
  have b : WK (fun _ => False) 0 id w (endBase w k why) := by
    have b1 : WK (fun _ => False) 0 id w (setRun w k (clearRun (runAt w k) why)) := WK.setRun fun r hr => .inr (by
      rw [hr]; exact ⟨rfl, rfl, rfl, rfl, rfl, rfl, .inl rfl, fun _ => rfl, .inr ⟨by rw [← hr]; exact ha.2, Int.le_refl _⟩, .inr (.inl rfl), .inr ⟨by rw [← hr]; exact ha.2, rfl⟩⟩)
    have b2 : WK (fun _ => False) 0 id (setRun w k (clearRun (runAt w k) why)) (endBase w k why) := WK.map (f := unwatch k) rfl fun r => ⟨rfl, rfl, rfl, rfl, rfl, rfl, .inr (List.prefix_refl _), fun h => h, .inl rfl, .inl rfl, .inl rfl⟩
    exact b1.trans0 b2
  unfold endP
  exact (b.trans0 (endLinks_wk k why _ (endBase w k why, []))).trans0 (tell_wk k _ _)
theorem fallN_wk (why : PVal) : ∀ (n : Nat) (w : PWorld) (ks : List Int), WK (fun _ => False) 0 id w (fallN n w ks why)
  | 0, w, ks => WK.refl w
  | n + 1, w, [] => WK.refl w
  | n + 1, w, k :: ks => by
    unfold fallN
    split
    · rename_i a
      exact (endP_wk w a why).trans0 (fallN_wk why n _ _)
    · exact fallN_wk why n w ks
theorem fall_wk (w : PWorld) (k : Int) (why : PVal) : WK (fun _ => False) 0 id w (fallP w k why) := fallN_wk why 64 w [k]
theorem tickTo_wk (w : PWorld) : ∀ i, WK (fun _ => False) 0 id w (tickTo w i)
  | 0 => WK.refl w
  | i + 1 => by
    refine (tickTo_wk w i).trans0 ?_
    rw [tickTo]
    unfold tickAt
    generalize tickTo w i = v
    cases hr : v.runs[i]? with
    | none => exact WK.refl _
    | some r =>
      simp only
      split
      · rename_i c
        refine WK.set rfl fun r2 h2 => .inr ?_
        rw [hr] at h2; cases h2
        exact ⟨rfl, rfl, rfl, rfl, rfl, rfl, .inr (List.prefix_refl _), fun h => (by rw [c.1] at h; cases h), .inr ⟨by rw [c.1]; decide, by simp⟩, .inr (.inr ⟨c.1, rfl⟩), .inl rfl⟩
      · exact WK.refl _
theorem tick_wk (w : PWorld) : WK (fun _ => False) 0 id w (tickP w) := by
  unfold tickP
  split
  · exact WK.refl w
  · exact WK.trans0 (a := w) (b := { w with now := w.now + 1 }) (WK.eq rfl) (tickTo_wk _ _)
theorem WK.any (x : WK (fun _ => False) n id w w') : WK p n id w w' := x.mono fun _ h => h.elim
theorem step_wk (w : PWorld) {id : Int} (hi : (id - 1).toNat < w.runs.length) : WK (fun i => i = (id - 1).toNat) 1 id w (stepP w id) := by
  have hp : ∀ j, j = (id - 1).toNat → j < w.runs.length := fun j e => by omega
  have own : ∀ {r' : PRun}, r'.turns = (runAt w id).turns → WK (fun i => i = (id - 1).toNat) 1 id w (Go.Proofs.YtjopaifbpeojeaaGreat.setRun w id r') := fun h =>
    (WK.setRun (p := fun i => i = (id - 1).toNat) (fun r hr => .inl ⟨rfl, by rw [h, hr]⟩)).le (by omega)
  have own0 : ∀ {w2 : PWorld} {r' : PRun}, w2.runs = w.runs.set (id - 1).toNat r' → r'.turns = (runAt w id).turns → WK (fun i => i = (id - 1).toNat) 0 id w w2 := fun e h =>
    WK.set e fun r hr => .inl ⟨rfl, by rw [h, runAt_some hr]⟩
  have set : ∀ slot v, WK (fun i => i = (id - 1).toNat) 1 id w (setP w id slot v) := fun slot v => own rfl
  have wait : ∀ d, WK (fun i => i = (id - 1).toNat) 1 id w (waitP w id d) := fun d => (own0 (r' := { runAt w id with state := 2, due := d }) rfl rfl).le (by omega)
  unfold stepP
  simp only
  split
  · exact set _ _
  split
  · exact set _ _
  split
  · split
    · exact ((fall_wk w id _).any).le (by omega)
    · exact set _ _
  split
  · exact set _ _
  split
  · unfold beginP
    split
    · exact set _ _
    · have a1 : WK (fun i => i = (id - 1).toNat) 1 id w (addRunP w id (codeAt w (runAt w id).at_)) := by
        refine ⟨by simp [addRunP], by simp [addRunP], fun i r _ hr => ⟨r, ?_, RunK.refl r⟩, fun i r hr => ⟨r, ?_, rfl⟩, fun j r' hj hr => ?_⟩
        · simp only [addRunP]; rw [List.getElem?_append_left (List.getElem?_eq_some_iff.1 hr).1]; exact hr
        · simp only [addRunP]; rw [List.getElem?_append_left (List.getElem?_eq_some_iff.1 hr).1]; exact hr
        · simp only [addRunP] at hr
          rw [List.getElem?_append_right hj] at hr
          cases hd : j - w.runs.length with
          | zero => rw [hd] at hr; simp at hr; subst hr; exact ⟨_, _, RunK.refl _⟩
          | succ q => rw [hd] at hr; simp at hr
      have hr : ∀ x, runAt (addRunP w id (codeAt w (runAt w id).at_)) id = x → x = runAt w id := fun x hx => by
        rw [← hx]; unfold runAt addRunP; simp only; rw [List.getElem?_append_left hi]
      exact (a1.trans (m := 0) (WK.setRun fun x hx => .inl ⟨rfl, by rw [hx]; rfl⟩) hp).le (by omega)
  split
  · unfold takeP
    split
    · exact (own0 (r' := takeRun (runAt w id) _ _) rfl rfl).le (by omega)
    · split
      · exact wait _
      · split
        · exact own rfl
        · exact wait _
  split
  · exact own rfl
  split
  · exact own rfl
  split
  · exact own rfl
  split
  · exact ((fall_wk w id _).any).le (by omega)
  unfold otherP
  simp only
  have nx : WK (fun i => i = (id - 1).toNat) 0 id w (Go.Proofs.YtjopaifbpeojeaaGreat.setRun w id (nextRun (runAt w id))) := WK.setRun fun r hr => .inl ⟨rfl, by rw [hr]; rfl⟩
  split
  · exact ((fall_wk w id _).any).le (by omega)
  split
  · exact (nx.trans (give_wk _ _ _) hp).le (by omega)
  split
  · exact (nx.trans (give_wk _ _ _) hp).le (by omega)
  split
  · exact nx.le (by omega)
  split
  · unfold watchP
    exact (nx.trans (m := 0) (WK.setRun fun r hr => .inr (by rw [hr]; exact ⟨rfl, rfl, rfl, rfl, rfl, rfl, .inr (List.prefix_refl _), fun h => h, .inl rfl, .inl rfl, .inl rfl⟩)) hp).le (by omega)
  split
  · unfold linkP
    simp only
    refine ((nx.trans (m := 0) (WK.setRun fun r hr => .inr (by rw [hr]; exact ⟨rfl, rfl, rfl, rfl, rfl, rfl, .inr (List.prefix_refl _), fun h => h, .inl rfl, .inl rfl, .inl rfl⟩)) hp).trans (m := 0) (WK.setRun fun r hr => .inr (by rw [hr]; exact ⟨rfl, rfl, rfl, rfl, rfl, rfl, .inr (List.prefix_refl _), fun h => h, .inl rfl, .inl rfl, .inl rfl⟩)) hp).le (by omega)
  exact nx.le (by omega)
theorem steps_wk {id : Int} : ∀ (n : Nat) (w : PWorld), (id - 1).toNat < w.runs.length → WK (fun i => i = (id - 1).toNat) n id w (stepsP n w id)
  | 0, w, _ => WK.refl w
  | n + 1, w, hi => by
    unfold stepsP
    split
    · have s := step_wk w hi
      exact (s.trans (steps_wk n _ (Nat.lt_of_lt_of_le hi s.len)) fun j e => by omega).le (by omega)
    · exact (WK.refl w).le (by omega)
end Go.Proofs.YtjopaifbpeojeaaGreat

/-
  WHAT PlayRun ANSWERS, by the reference and by the program.
-/
set_option maxRecDepth 8000
namespace Go.Proofs.YtjopaifbpeojeaaGreat
open Go.AM
variable {h h' k : H} {lo : Nat} {w : PWorld} {c : WorldC} {st cs : List RunC}
end Go.Proofs.YtjopaifbpeojeaaGreat
