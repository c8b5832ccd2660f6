/-
  What functions of the seat answer, each proved once; each under the condition that cells bear what it is given, as its statement says.
-/
import Derived.Test.YtmkiojlebjknlaaGreatWalkA20
import Derived.Test.YtmkiojlebjknlaaGreatWalkA16
import Derived.Test.YtmkiojlebjknlaaGreatWalkA17
import Derived.Test.YtmkiojlebjknlaaGreatWalkA10
import Derived.Test.YtmkiojlebjknlaaGreatWalkA15
import Derived.Test.YtmkiojlebjknlaaGreatWalkA1
import Derived.WalkKit
import Derived.Lib.Walk
import Derived.Test.YtmkiojlebjknlaaGreatAm7
import Derived.Test.YtmkiojlebjknlaaGreatWalkA12
import Derived.WideShapes
import Derived.Below
import Derived.Carry
set_option linter.all false
/-
 THE PROGRAM's TurnStep, TurnDo, PlayDo, PlayTurns: what they answer.
-/
set_option maxRecDepth 8000
namespace Go.Proofs.YtmkiojlebjknlaaGreat
open Go.AM
variable {h h' : H} {lo p : Nat} {w : PWorld} {c : WorldC} {st cs : List RunC}
theorem WorldV.inBlock {h1 : H} (v : WorldV h.length h1 w c cs cs) (x : Ext h h1) : WorldP h.length (h1.push ⟨false, 7, [encW c]⟩) h1.length w c cs :=
 ⟨v.ext (Ext.push _ _), get_push_self, fun ho => by have := v.own.owned_lt _ ho; omega, x.1⟩
theorem StepP.fromBlock {h1 k : H} {q q' : Key → Cell} {b : Blk} (s : StepP (h1.push b) h1.length q k q') (x : Ext h h1) (ho : ∀ id, Owned q id → h.length ≤ id) : Ext h k :=
 s.ext ho x.1 (x.trans (Ext.push _ _)) (Nat.le_refl _)
set_option maxRecDepth 16000 in
theorem c_ITurnStep (hV : WorldV lo h w c cs cs) : @Wp _ (Dz.den 25 [.g (encW c)] h) ⟨CopyWQ h (turnStepP w)⟩ := by
 refine den_wp rfl Tryz.func25 rfl ?_
 have e := c_turnOk hV.rd
 simp only [encW] at e
 unfold turnStepP
 by_cases a : Room w
 ·have a' : tt (Room w) = true := by simpa using a
  rw [a'] at e ⊢
  obtain ⟨G, hs⟩ := a.good
  obtain ⟨_, e1, h1, c1, cs1, rfl, x1, v1⟩ := c_IWCopied hV a.1.le
  have P1 := v1.inBlock x1
  have hgp := P1.at_
  have hQ := P1.v.queue
  simp only [encW] at e1
  by_cases hq : w.queue = []
  ·have el := fun e => hQ.lenA (e := e)
   rw [hq] at el
   simp only [List.length_nil] at el
   rw [if_pos rfl, if_pos hq]
   simp [Tryz.f25, e, e1, at_blk hgp, el]
   exact ⟨_, c1, cs1, rfl, x1.trans (Ext.push _ _), P1.v⟩
  ·obtain ⟨hid, hg⟩ := G.inv.head hq
   obtain ⟨i, T⟩ := G.inv.turn hid hg
   have hln : (0 : Int) < w.queue.length := by cases hh : w.queue with | nil => exact absurd hh hq | cons a t => simp
   have hln2 : 0 < w.queue.length := by omega
   obtain ⟨_, e2, h2, c2, cs2, rfl, P2, s2⟩ := c_step P1 G.inv (by omega) hq T
   have hgp2 := P2.at_
   simp only [encW] at e2
   rw [if_pos rfl, if_neg hq]
   simp [Tryz.f25, e, e1, at_blk hgp, hQ.lenA, hln, hln2, e2, at_blk hgp2]
   exact ⟨h2, c2, cs2, rfl, s2.fromBlock x1 (fun id ho => P1.v.own.owned_ge id ho), P2.v⟩
 ·have a' : tt (Room w) = false := by simpa using a
  rw [a'] at e ⊢
  simp [Tryz.f25, e]
  exact ⟨h, _, _, rfl, Ext.refl _, emptyV h⟩
set_option maxRecDepth 16000 in
theorem c_ITurnDo (hV : WorldV lo h w c cs cs) : @Wp _ (Dz.den 62 [.g (encW c)] h) ⟨CopyWQ h (turnDoP w)⟩ := by
 refine den_wp rfl Tryz.func62 rfl ?_
 have e := c_turnOk hV.rd
 simp only [encW] at e
 unfold turnDoP
 by_cases a : Room w
 ·have a' : tt (Room w) = true := by simpa using a
  rw [a'] at e ⊢
  obtain ⟨G, hs⟩ := a.good
  obtain ⟨_, e1, h1, c1, cs1, rfl, x1, v1⟩ := c_IWCopied hV a.1.le
  have P1 := v1.inBlock x1
  obtain ⟨_, e2, h2, c2, cs2, rfl, P2, s2⟩ := c_turn P1 G (by omega)
  have hgp2 := P2.at_
  simp only [encW] at e1 e2
  simp [Tryz.f62, e, e1, e2, at_blk hgp2]
  exact ⟨h2, c2, cs2, rfl, s2.fromBlock x1 (fun id ho => P1.v.own.owned_ge id ho), P2.v⟩
 ·have a' : tt (Room w) = false := by simpa using a
  rw [a'] at e ⊢
  simp [Tryz.f62, e]
  exact ⟨h, _, _, rfl, Ext.refl _, emptyV h⟩
set_option maxRecDepth 16000 in
theorem c_IPlayDo (hV : WorldV lo h w c cs cs) (ev : PEvent) : @Wp _ (Dz.den 22 [.g (encW c), .g (encE ev)] h) ⟨CopyWQ h (playDoP w ev)⟩ := by
 refine den_wp rfl Tryz.func22 rfl ?_
 have e := c_turnOk hV.rd
 simp only [encW] at e
 unfold playDoP
 by_cases a : Room w
 ·have a' : tt (Room w) = true := by simpa using a
  rw [a'] at e ⊢
  obtain ⟨G, hs⟩ := a.good
  obtain ⟨_, e1, h1, c1, cs1, rfl, x1, v1⟩ := c_IWCopied hV a.1.le
  have P1 := v1.inBlock x1
  have hgp := P1.at_
  have x2 : Ext h (h1.push ⟨false, 7, [encW c1]⟩) := x1.trans (Ext.push _ _)
  have own := fun id ho => P1.v.own.owned_ge id ho
  simp only [encW] at e1
  rw [if_pos rfl]
  unfold doP
  by_cases k1 : ev.kind = 1
  ·obtain ⟨_, e2, h2, c2, cs2, rfl, x3, v3⟩ := c_ITurnDo P1.v
   have et : turnDoP w = turnP w := by unfold turnDoP; rw [a']; rfl
   rw [et] at v3
   simp only [encW] at e2
   rw [if_pos k1]
   simp [Tryz.f22, e, e1, k1, at_blk hgp, e2]
   exact ⟨h2, c2, cs2, rfl, x2.trans x3, ⟨v3.code, v3.runs, v3.stl, v3.len, v3.each, v3.queue, v3.now, v3.sent, v3.taken, v3.lost, ⟨fun k id hid => Nat.le_trans x2.1 (v3.own.ge k id hid), v3.own.wr, v3.own.one, v3.own.un⟩, Nat.le_trans x2.1 v3.lo_le⟩⟩
  rw [if_neg k1]
  by_cases k2 : ev.kind = 2
  ·obtain ⟨_, e2, h2, c2, cs2, rfl, x3, v3⟩ := c_ITurnTick P1.v
   have et : turnTickP w = tickP w := by unfold turnTickP; rw [a']; rfl
   rw [et] at v3
   simp only [encW] at e2
   rw [if_pos k2]
   simp [Tryz.f22, e, e1, k2, at_blk hgp, e2]
   exact ⟨h2, c2, cs2, rfl, x2.trans x3, ⟨v3.code, v3.runs, v3.stl, v3.len, v3.each, v3.queue, v3.now, v3.sent, v3.taken, v3.lost, ⟨fun k id hid => Nat.le_trans x2.1 (v3.own.ge k id hid), v3.own.wr, v3.own.one, v3.own.un⟩, Nat.le_trans x2.1 v3.lo_le⟩⟩
  rw [if_neg k2]
  by_cases k3 : ev.kind = 3
  ·rw [if_pos k3]
   by_cases hv : valOk ev.v = true
   ·obtain ⟨_, e2, h2, c2, cs2, rfl, P2, s2, _⟩ := c_give P1 (G.inv.saneI (by omega)) ev.a ev.v hv
    have hv' : valOk ⟨ev.v.k, ev.v.n⟩ = true := hv
    have hgp2 := P2.at_
    simp only [encW, encV] at e2
    rw [if_pos hv]
    simp [Tryz.f22, e, e1, k3, at_blk hgp, hv', e2, at_blk hgp2]
    exact ⟨h2, c2, cs2, rfl, s2.fromBlock x1 own, P2.v⟩
   ·have hv' : valOk ⟨ev.v.k, ev.v.n⟩ = false := by simpa using hv
    rw [if_neg hv]
    simp [Tryz.f22, e, e1, k3, at_blk hgp, hv']
    exact ⟨_, c1, cs1, rfl, x2, P1.v⟩
  rw [if_neg k3]
  by_cases k4 : ev.kind = 4
  ·rw [if_pos k4]
   by_cases hv : valOk ev.v = true
   ·obtain ⟨_, e2, h2, c2, cs2, rfl, P2, s2, _⟩ := c_fall P1 G.inv (by omega) ev.a (why := ev.v) hv
    have hv' : valOk ⟨ev.v.k, ev.v.n⟩ = true := hv
    have hgp2 := P2.at_
    simp only [encW, encV] at e2
    have eF : (if valOk ev.v = true ∧ Alive w ev.a then fallP w ev.a ev.v else w) = fallP w ev.a ev.v := by
     by_cases al : Alive w ev.a
     ·rw [if_pos ⟨hv, al⟩]
     ·rw [if_neg (fun hh => al hh.2)]
      unfold fallP fallN
      rw [if_neg al]
      rfl
    rw [eF]
    simp [Tryz.f22, e, e1, k4, at_blk hgp, hv', e2, at_blk hgp2]
    exact ⟨h2, c2, cs2, rfl, s2.fromBlock x1 own, P2.v⟩
   ·have hv' : valOk ⟨ev.v.k, ev.v.n⟩ = false := by simpa using hv
    rw [if_neg (fun hh => hv hh.1)]
    simp [Tryz.f22, e, e1, k4, at_blk hgp, hv']
    exact ⟨_, c1, cs1, rfl, x2, P1.v⟩
  rw [if_neg k4]
  simp [Tryz.f22, e, e1, k1, k2, k3, k4, at_blk hgp]
  exact ⟨_, c1, cs1, rfl, x2, P1.v⟩
 ·have a' : tt (Room w) = false := by simpa using a
  rw [a'] at e ⊢
  simp [Tryz.f22, e]
  exact ⟨h, _, _, rfl, Ext.refl _, emptyV h⟩
end Go.Proofs.YtmkiojlebjknlaaGreat

/-
 THE LAWS' FUNCTIONS OVER WHAT HAPPENS: what they answer.
-/
set_option maxRecDepth 8000
namespace Go.Proofs.YtmkiojlebjknlaaGreat
open Go.AM
variable {h : H} {s t : Cell}
set_option maxRecDepth 8000
end Go.Proofs.YtmkiojlebjknlaaGreat

/-
 WORLDS BEHIND STEPS ARE SMALL.
-/
set_option maxRecDepth 8000
namespace Go.Proofs.YtmkiojlebjknlaaGreat
open Go.AM
variable {h : H}
end Go.Proofs.YtmkiojlebjknlaaGreat

/-
 WORLDS IN PLAIN DATA: a new world is a good one; what comes of things that happen.
-/
set_option maxRecDepth 8000
namespace Go.Proofs.YtmkiojlebjknlaaGreat
open Go.AM
variable {w : PWorld}
theorem both_01 {a : Int} (h : a = 0 ∨ a = 1) (b : Int) : both a b = 0 ∨ both a b = 1 := by
 have z : ∀ i : Int, 0 ≤ i → i ≤ 3 → has 0 i = false := by
  intro i h0 h1
  obtain rfl | rfl | rfl | rfl : i = 0 ∨ i = 1 ∨ i = 2 ∨ i = 3 := by omega
  all_goals decide
 have o : ∀ i : Int, 1 ≤ i → i ≤ 3 → has 1 i = false := by
  intro i h0 h1
  obtain rfl | rfl | rfl : i = 1 ∨ i = 2 ∨ i = 3 := by omega
  all_goals decide
 rcases h with rfl | rfl
 ·left
  simp [both, bothTo, z]
 ·by_cases hb : has b 0 = true
  ·right
   have : has 1 0 = true := by decide
   simp [both, bothTo, o, hb, this]
  ·left
   simp [both, bothTo, o, hb]
def Z01 (f : List Int) : Prop := f[0]?.getD 0 = 0 ∨ f[0]?.getD 0 = 1
theorem mergeF_Z {f : List Int} (h : Z01 f) (n : Nat) (b : Int) : Z01 (mergeF f n b) := by
 unfold Z01 mergeF
 rw [List.getElem?_set]
 split
 ·rename_i e; subst e
  split
  ·exact both_01 h b
  ·exact .inl rfl
 ·exact h
theorem goF_Z {f : List Int} (h : Z01 f) (o : POp) (x : Int) : Z01 (goF o f x) := by
 unfold goF
 split
 ·exact mergeF_Z h _ _
 ·exact h
theorem fromF_Z {f : List Int} (h : Z01 f) (o : POp) (i : Nat) : Z01 (fromF o f i) := by
 simp only [fromF]
 split
 ·exact goF_Z h _ _
 ·exact mergeF_Z (goF_Z h _ _) _ _
theorem passTo_Z {code : List POp} {f : List Int} (h : Z01 f) : ∀ i, Z01 (passTo code f i)
 | 0 => h
 | i + 1 => by
  simp only [passTo]
  split
  ·exact fromF_Z (passTo_Z h i) _ _
  ·exact passTo_Z h i
theorem fullF_Z {code : List POp} : ∀ (n : Nat) (f : List Int), wts f < n → Z01 f → Z01 (fullF code f) := by
 intro n
 induction n with
 | zero => intro f h; omega
 | succ n ih =>
  intro f hn hz
  by_cases h : wts (pass code f) < wts f
  ·rw [fullF_step h]; exact ih _ (by omega) (passTo_Z hz _)
  ·rw [fullF, if_neg h]; exact hz
theorem fullR_Z {code : List POp} : Z01 (fullR code) := by
 refine fullF_Z _ _ (Nat.lt_succ_self _) ?_
 unfold Z01 full0
 rw [List.getElem?_set]
 split
 ·split
  ·exact .inr rfl
  ·exact .inl rfl
 ·rename_i h; exact absurd rfl h
theorem newP_good {code : List POp} (S : CodeSafe code) : Good (newP code) := by
 have hl := (codeOk_len S.ok).1
 have hz : 0 ≤ (fullR code)[(0 : Int).toNat]?.getD 0 ∧ both ((fullR code)[(0 : Int).toNat]?.getD 0) 1 = (fullR code)[(0 : Int).toNat]?.getD 0 := by
  have := fullR_Z (code := code)
  unfold Z01 at this
  simp only [Int.toNat_zero]
  rcases this with h | h <;> rw [h] <;> decide
 have R : ∀ m, RunI code 0 m 0 (newRun 1 0 ⟨3, 1⟩) := fun m => by
  have := newRun_ok S (now := 0) (n := 0) (by omega) (to := 0) (by omega) (id := 1) (by omega) hz (m := m)
  simpa using this
 refine ⟨⟨S, by simp [newP], by simp [newP], by simp [newP], by simp [newP], fun q => ?_, fun i r hr => ?_, by simp [newP, mailSum, newRun]⟩, fun a b ha hb => ?_, fun a ha k hk => ?_⟩
 ·simp only [newP, List.mem_singleton]
  constructor
  ·rintro rfl
   exact ⟨0, rfl, _, rfl, rfl⟩
  ·rintro ⟨i, rfl, r, hr, _⟩
   cases i with
   | zero => rfl
   | succ i => simp at hr
 ·cases i with
  | zero => simp [newP] at hr; subst hr; exact R _
  | succ i => simp [newP] at hr
 ·have e1 : a = 1 := by simp [newP] at ha; omega
  have e2 : b = 1 := by simp [newP] at hb; omega
  subst e1; subst e2; exact Iff.rfl
 ·have e1 : a = 1 := by simp [newP] at ha; omega
  subst e1
  simp [newP, runAt, newRun] at hk
def playTo (code : List POp) (evs : List PEvent) : Nat → PWorld
 | 0 => newP code
 | i + 1 => doP (playTo code evs i) (evs[i]?.getD default)
theorem playTo_good {code : List POp} (S : CodeSafe code) (evs : List PEvent) : ∀ i, Good (playTo code evs i) ∧ phi (playTo code evs i) ≤ 12 + 36 * i
 | 0 => ⟨newP_good S, by simp [playTo, newP, phi, aliveN, newRun]⟩
 | i + 1 => by
  obtain ⟨a, b⟩ := playTo_good S evs i
  obtain ⟨c, d, _⟩ := a.doG (evs[i]?.getD default)
  exact ⟨c, by simp only [playTo]; omega⟩
def PlayRun1 (code : List POp) (evs : List PEvent) : Prop := CodeSafe code ∧ evs.length ≤ 80
open Classical in
noncomputable def playRunP (code : List POp) (evs : List PEvent) : PWorld := if PlayRun1 code evs then playTo code evs evs.length else emptyW
end Go.Proofs.YtmkiojlebjknlaaGreat

/-
 NEW WORLDS: what WorldNew answers, by the reference and by the program.
-/
set_option maxRecDepth 8000
namespace Go.Proofs.YtmkiojlebjknlaaGreat
open Go.AM
variable {h h' k : H} {lo : Nat} {w : PWorld} {c : WorldC} {st cs : List RunC}
open Classical in
noncomputable def worldNewP (code : List POp) : PWorld := if CodeSafe code then newP code else emptyW
theorem newV {code : List POp} {r : PRun} {cr : RunC} {sc : Cell} (hc : Sl k sc 6 encO code) (wc : Wr k sc) (uc : Un sc) (gc : ∀ id ∈ sc.ids, h.length ≤ id) (hr : RunR k r cr) (nr : RunN h.length k cr)
  (dj : ∀ f, ∀ id ∈ (rpart cr f).ids, id ∉ sc.ids) (x : Ext h k) :
  WorldV h.length ((k.push ⟨false, 13, [encR cr]⟩).push ⟨false, 1, [encI 1]⟩) ⟨code, [r], [1], 0, 0, 0, 0⟩ ⟨sc, .sl k.length 0 1 none, .sl (k.length + 1) 0 1 none, 0, 0, 0, 0⟩ [cr] [cr] := by
 have x1 : Ext k (k.push ⟨false, 13, [encR cr]⟩) := Ext.push _ _
 have x2 : Ext k ((k.push ⟨false, 13, [encR cr]⟩).push ⟨false, 1, [encI 1]⟩) := x1.trans (Ext.push _ _)
 have lt := wc.lt
 have ltr : ∀ f, ∀ id ∈ (rpart cr f).ids, id < k.length := fun f => (nr.wr f).lt
 have hx := x.1
 have l1 : (k.push ⟨false, 13, [encR cr]⟩).length = k.length + 1 := by simp
 have ids : ∀ K id, id ∈ (part ⟨sc, .sl k.length 0 1 none, .sl (k.length + 1) 0 1 none, 0, 0, 0, 0⟩ [cr] K).ids →
   (K = .code ∧ id ∈ sc.ids) ∨ (K = .runs ∧ id = k.length) ∨ (K = .queue ∧ id = k.length + 1) ∨ ∃ f, keyOf K = some (0, f) ∧ id ∈ (rpart cr f).ids := by
  intro K id hid
  cases hk : keyOf K with
  | none =>
   rcases key_none hk with rfl | rfl | rfl
   ·exact .inl ⟨rfl, hid⟩
   ·exact .inr (.inl ⟨rfl, by simpa [part, Cell.ids] using hid⟩)
   ·exact .inr (.inr (.inl ⟨rfl, by simpa [part, Cell.ids] using hid⟩))
  | some y =>
   obtain ⟨i, f⟩ := y
   rw [part_key hk] at hid
   cases i with
   | zero => exact .inr (.inr (.inr ⟨f, rfl, by simpa using hid⟩))
   | succ i => simp [Cell.ids] at hid
 have sr := Sl.new (ro := false) (h := k) (enc := encR) (xs := [cr]) (es := 13) (by simp) (by simp [sMost])
 have sq := Sl.new (ro := false) (h := k.push ⟨false, 13, [encR cr]⟩) (enc := encI) (xs := [1]) (es := 1) (by simp) (by simp [sMost])
 simp only [List.map_cons, List.map_nil, List.length_cons, List.length_nil, l1] at sr sq
 refine ⟨hc.ext x2, sr.ext (Ext.push _ _), rfl, rfl, fun i hi => ?_, sq, rfl, rfl, rfl, rfl, ⟨fun K id hid => ?_, fun K => ?_, fun K1 K2 id h1 h2 => ?_, fun K => ?_⟩, by have := x2.1; omega⟩
 ·have : i = 0 := by simpa using hi
  subst this
  exact hr.ext x2
 ·rcases ids K id hid with ⟨_, h1⟩ | ⟨_, h1⟩ | ⟨_, h1⟩ | ⟨f, _, h1⟩
  ·exact gc id h1
  ·omega
  ·omega
  ·exact nr.ge f id h1
 ·cases hk : keyOf K with
  | none =>
   rcases key_none hk with rfl | rfl | rfl
   ·exact wc.same fun id hid => x2.2 id (lt id hid)
   ·intro id hid
    have : id = k.length := by simpa [part, Cell.ids] using hid
    subst this
    exact ⟨⟨false, 13, [encR cr]⟩, by rw [get_push_lt (by rw [l1]; omega), get_push_self], rfl⟩
   ·intro id hid
    have : id = (k.push ⟨false, 13, [encR cr]⟩).length := by rw [l1]; simpa [part, Cell.ids] using hid
    subst this
    exact ⟨⟨false, 1, [encI 1]⟩, get_push_self, rfl⟩
  | some y =>
   obtain ⟨i, f⟩ := y
   rw [part_key hk]
   cases i with
   | zero => exact (nr.wr f).same fun id hid => x2.2 id (ltr f id hid)
   | succ i => exact fun id hid => by simp [Cell.ids] at hid
 ·have big : ∀ f, id ∈ (rpart cr f).ids → id < k.length := fun f hh => ltr f id hh
  rcases ids K1 id h1 with ⟨e1, g1⟩ | ⟨e1, g1⟩ | ⟨e1, g1⟩ | ⟨f, e1, g1⟩ <;> rcases ids K2 id h2 with ⟨e2, g2⟩ | ⟨e2, g2⟩ | ⟨e2, g2⟩ | ⟨f2, e2, g2⟩
  ·rw [e1, e2]
  ·have := lt id g1; omega
  ·have := lt id g1; omega
  ·exact absurd g1 (dj f2 id g2)
  ·have := lt id g2; omega
  ·rw [e1, e2]
  ·omega
  ·have := ltr f2 id g2; omega
  ·have := lt id g2; omega
  ·omega
  ·rw [e1, e2]
  ·have := ltr f2 id g2; omega
  ·exact absurd g2 (dj f id g1)
  ·have := ltr f id g1; omega
  ·have := ltr f id g1; omega
  ·have := nr.one f f2 id g1 g2
   subst this
   exact key_inj e1 e2
 ·cases hk : keyOf K with
  | none =>
   rcases key_none hk with rfl | rfl | rfl
   ·exact uc
   ·exact Un.new
   ·exact Un.new
  | some y =>
   obtain ⟨i, f⟩ := y
   rw [part_key hk]
   cases i with
   | zero => exact nr.un f
   | succ i => exact Un.nils
def NewWQ (h : H) (code : List POp) (x : V × H) : Prop := ∃ k c' cs', x = (.t [.g (encW c'), .c (.bool (tt (CodeSafe code)))], k) ∧ Ext h k ∧ WorldV h.length k (worldNewP code) c' cs' cs'
set_option maxRecDepth 16000 in
theorem c_WorldNew {s : Cell} {code : List POp} (hS : Sl h s 6 encO code) (hu : Un s) (hl : code.length ≤ lenMost) : @Wp _ (Dz.den 59 [.c s] h) ⟨NewWQ h code⟩ := by
 refine den_wp rfl Tryz.func59 rfl ?_
 have e := c_CodeSafe hS
 unfold NewWQ worldNewP
 by_cases a : CodeSafe code
 ·have a' : tt (CodeSafe code) = true := by simpa using a
  rw [a'] at e ⊢
  obtain ⟨s1, h1, e1, f1⟩ := hS.cloneF hu hl
  obtain ⟨_, e2, h2, cr, rfl, x2, q2, n2⟩ := c_l11New (h := h1) 1 0 ⟨3, 1⟩
  have v := newV (h := h) (f1.sl.ext x2) (f1.wr.same fun id hid => x2.2 id (f1.wr.lt id hid)) f1.un f1.ids q2 ⟨fun f id hid => by have := n2.ge f id hid; have := f1.ext.1; omega, n2.wr, n2.one, n2.un⟩
   (fun f id hid hh => by have := n2.ge f id hid; have := f1.wr.lt id hh; omega) (f1.ext.trans x2)
  simp only [encV] at e2
  rw [if_pos a]
  simp [Tryz.f59, e, e1, e2]
  exact ⟨by kernel_rfl, _, ⟨s1, .sl h2.length 0 1 none, .sl (h2.length + 1) 0 1 none, 0, 0, 0, 0⟩, ⟨⟨rfl, rfl, rfl, rfl, rfl, rfl, rfl⟩, rfl⟩, (f1.ext.trans x2).trans ((Ext.push _ _).trans (Ext.push _ _)), _, v⟩
 ·have a' : tt (CodeSafe code) = false := by simpa using a
  rw [a'] at e ⊢
  rw [if_neg a]
  simp [Tryz.f59, e]
  exact ⟨rfl, h, ⟨.nils, .nils, .nils, 0, 0, 0, 0⟩, ⟨⟨rfl, rfl, rfl, rfl, rfl, rfl, rfl⟩, rfl⟩, Ext.refl _, _, emptyV h⟩
set_option maxRecDepth 16000 in
theorem c_IWorldNew {s : Cell} {code : List POp} (hS : Sl h s 6 encO code) (hu : Un s) (hl : code.length ≤ lenMost) : @Wp _ (Dz.den 58 [.c s] h) ⟨NewWQ h code⟩ := by
 refine den_wp rfl Tryz.func58 rfl ?_
 have e := c_ICodeSafe hS
 unfold NewWQ worldNewP
 by_cases a : CodeSafe code
 ·have a' : tt (CodeSafe code) = true := by simpa using a
  rw [a'] at e ⊢
  obtain ⟨_, e2, h2, cr, rfl, x2, q2, n2⟩ := c_RunNew (h := h) (id := 1) (at_ := 0) (v := ⟨3, 1⟩) (by omega) (by omega) (by decide)
  obtain ⟨s1, h1, e1, f1⟩ := c_CloneO (hS.ext x2) hu hl
  have v := newV (h := h) f1.sl f1.wr f1.un (fun id hid => by have := f1.ids id hid; have := x2.1; omega) (q2.ext f1.ext) ⟨n2.ge, fun f => (n2.wr f).same fun id hid => f1.ext.2 id ((n2.wr f).lt id hid), n2.one, n2.un⟩
   (fun f id hid hh => by have := (n2.wr f).lt id hid; have := f1.ids id hh; omega) (x2.trans f1.ext)
  simp only [encV] at e2
  rw [if_pos a]
  simp [Tryz.f58, e, e1, e2]
  exact ⟨by kernel_rfl, rfl, _, ⟨s1, .sl h1.length 0 1 none, .sl (h1.length + 1) 0 1 none, 0, 0, 0, 0⟩, ⟨⟨rfl, rfl, rfl, rfl, rfl, rfl, rfl⟩, rfl⟩, (x2.trans f1.ext).trans ((Ext.push _ _).trans (Ext.push _ _)), _, v⟩
 ·have a' : tt (CodeSafe code) = false := by simpa using a
  rw [a'] at e ⊢
  rw [if_neg a]
  simp [Tryz.f58, e]
  exact ⟨rfl, h, ⟨.nils, .nils, .nils, 0, 0, 0, 0⟩, ⟨⟨rfl, rfl, rfl, rfl, rfl, rfl, rfl⟩, rfl⟩, Ext.refl _, _, emptyV h⟩
end Go.Proofs.YtmkiojlebjknlaaGreat

/-
 WHAT IS DRAWN: a play.
-/
set_option maxRecDepth 8000
namespace Go.Proofs.YtmkiojlebjknlaaGreat
open Go.AM
variable {h k : H} {p n m lo : Nat} {d : Cell} {bs : List Int}
theorem WorldV.chgp {w : PWorld} {c : WorldC} {cs : List RunC} (v : WorldV lo h w c cs cs) (x : Chg h (fun id => id = p) k) (hp : p < lo) : WorldV lo k w c cs cs :=
 v.chg x fun id ⟨K, hid⟩ e => by have := v.own.ge K id hid; omega
theorem WorldV.low {w : PWorld} {c : WorldC} {cs : List RunC} (v : WorldV lo h w c cs cs) {lo' : Nat} (hl : lo' ≤ lo) : WorldV lo' h w c cs cs :=
 ⟨v.code, v.runs, v.stl, v.len, v.each, v.queue, v.now, v.sent, v.taken, v.lost, ⟨fun K id hid => Nat.le_trans hl (v.own.ge K id hid), v.own.wr, v.own.one, v.own.un⟩, Nat.le_trans hl v.lo_le⟩
variable {α : Type} {enc : α → List Cell} {es : Nat} {xs : List α} {s : Cell}
theorem OwnL.same (o : OwnL lo k s es enc xs) {k' : H} (hk : ∀ id ∈ s.ids, k'.get id = k.get id) : OwnL lo k' s es enc xs := ⟨o.sl.same hk, o.wr.same hk, o.un, o.ids⟩
theorem OwnL.app2 (o : OwnL lo k s es enc xs) (hlo : lo ≤ k.length) (x : α) (hx : (enc x).length = es) (hl : xs.length + 1 ≤ lenMost) :
  ∃ s' k', appendA es (k.push ⟨false, es, [enc x]⟩) (.c s) (.c (.sl k.length 0 1 none)) = some (.c s', k') ∧ OwnL lo k' s' es enc (xs ++ [x]) ∧ Chg k (fun id => id ∈ s.ids) k' ∧ ∀ id ∈ s'.ids, id ∈ s.ids ∨ k.length ≤ id := by
 obtain ⟨s', k', e, G⟩ := o.sl.append_new o.wr o.un (ys := [x]) (by simpa using hx) (by simpa using hl)
 exact ⟨s', k', by simpa using e, ⟨G.sl, G.wr, G.un, fun id hid => by
  rcases G.ids id hid with h | h
  ·exact o.ids id h
  ·omega⟩, G.chg, G.ids⟩
theorem Rdr.keeps (R : Rdr h p d bs n) {o : Nat → Prop} (c : Chg h o k) (hp : ¬ o p) (hd : ∀ id ∈ d.ids, ¬ o id) : Rdr k p d bs n :=
 ⟨by rw [c.keep p R.lt hp]; exact R.at_, SlA.same R.data fun id hid => c.keep id (R.dlt id hid) (hd id hid), R.rng, R.out⟩
theorem playTo_pre (code : List POp) (evs : List PEvent) (x : PEvent) : ∀ i, i ≤ evs.length → playTo code (evs ++ [x]) i = playTo code evs i
 | 0, _ => rfl
 | i + 1, h => by rw [playTo, playTo, playTo_pre code evs x i (by omega), List.getElem?_append_left (by omega)]
theorem playTo_app (code : List POp) (evs : List PEvent) (x : PEvent) : playTo code (evs ++ [x]) (evs ++ [x]).length = doP (playTo code evs evs.length) x := by
 rw [List.length_append, List.length_singleton, playTo, playTo_pre code evs x _ (Nat.le_refl _)]
 simp
structure PlayD (lo : Nat) (k : H) (s t : Cell) (code : List POp) (evs : List PEvent) (w : PWorld) (c : WorldC) (cs : List RunC) : Prop where
 oc : OwnL lo k s 6 encO code
 safe : CodeSafe code
 oe : OwnL lo k t 4 encE evs
 few : evs.length ≤ 44
 dj : ∀ id ∈ s.ids, id ∉ t.ids
 world : WorldV lo k w c cs cs
 good : Good w
 sent : w.sent ≤ 2000
 eq : w = playTo code evs evs.length
def PlayP (lo : Nat) (v : V) (k : H) : Prop := ∃ s t code evs w c cs, v = .t [.c s, .c t, .g (encW c)] ∧ PlayD lo k s t code evs w c cs
set_option maxRecDepth 16000 in
set_option maxHeartbeats 4000000 in
theorem c_l72Play (R : Rdr h p d bs n) (hn : n ≤ 100000) : @Wp _ (Dz.den 56 [.c (.ptr p 0 0)] h) ⟨DrawQ h p d bs n 3000 (PlayP h.length)⟩ := by
 refine den_wp rfl Tryz.func56 rfl ?_
 have hp := R.lt
 have hd := R.dlt
 obtain ⟨_, e1, _, k1, q1, rfl, ⟨s, code, rfl, o1, sf⟩, R1, hq1, ch1⟩ := c_l71Safe R hn
 have h16 := (codeOk_len sf.ok)
 obtain ⟨_, e2, k2, c2, cs2, rfl, x2, v2⟩ := c_WorldNew o1.sl o1.un (by unfold lenMost; omega)
 have a' : tt (CodeSafe code) = true := by simpa using sf
 rw [a'] at e2
 unfold worldNewP at v2
 rw [if_pos sf] at v2
 have l1 := ch1.len
 have hp1 := R1.lt
 have hd1 := R1.dlt
 have x3 : Ext k2 (k2.push ⟨false, 4, []⟩) := Ext.push _ _
 have o3 : OwnL k2.length (k2.push ⟨false, 4, []⟩) (.sl k2.length 0 0 none) 4 encE [] := OwnL.new (enc := encE) (es := 4) k2 [] (by simp) (by simp)
 have R3 := R1.ext (x2.trans x3)
 obtain ⟨N, k4, e4, b4, R4, ch4⟩ := pick1 R3 (by omega) (m := 45) (by omega) (by omega)
 have l4 := ch4.len
 have hN : N ≤ 44 := by omega
 simp only [encW] at e2
 simp [Tryz.f56, e1, e2, e4]
 refine count_wpG (σ := H × Cell × List PEvent × PWorld × WorldC × List RunC × Nat) N
  (fun i g => ([.c (.ptr p 0 0), .c .nils, .c .nils, .c s, .c g.2.1, .c (ci ((N - i : Nat)))], [zeroW, encW g.2.2.2.2.1], [], g.1))
  (fun i g => OwnL k1.length g.1 g.2.1 4 encE g.2.2.1 ∧ g.2.2.1.length = i ∧ g.2.2.2.1 = playTo code g.2.2.1 g.2.2.1.length ∧ WorldV k1.length g.1 g.2.2.2.1 g.2.2.2.2.1 g.2.2.2.2.2.1 g.2.2.2.2.2.1 ∧ Good g.2.2.2.1 ∧ phi g.2.2.2.1 ≤ 12 + 36 * i ∧ (∀ id ∈ g.2.1.ids, ¬ Owned (part g.2.2.2.2.1 g.2.2.2.2.2.1) id) ∧
   Rdr g.1 p d bs g.2.2.2.2.2.2 ∧ g.2.2.2.2.2.2 ≤ n + 2001 + 20 * i ∧ Chg k1 (fun id => id = p) g.1)
  (k4, .sl k2.length 0 0 none, [], newP code, c2, cs2, q1 + 1) (by simp [zeroW]) ⟨(o3.chgp ch4 (by have := x2.1; omega)).low (x2.1), rfl, rfl, ((v2.ext x3).chgp ch4 hp1), newP_good sf, by simp [newP, phi, aliveN, newRun], fun id hid ho => by
   simp only [Cell.ids, List.mem_singleton] at hid
   have := v2.own.owned_lt id ho
   omega, R4, by simp only; omega, (Chg.of_ext (x2.trans x3) _).pp ch4⟩ ?_ ?_
 ·rintro i ⟨g, t, evs, w, c, cs, q⟩ hi ⟨o, hl, weq, v, G, ph, dj, Rg, hq, cg⟩
  simp only at o hl weq v G ph dj Rg hq cg ⊢
  have I := G.inv
  have hlen := v.len
  have many := I.many
  have lg := cg.len
  obtain ⟨_, e5, _, k5, q5, rfl, ⟨x, rfl⟩, R5, hq5, ch5⟩ := c_l72Event Rg (by omega) v.runs (by omega)
  have o5 := o.chgp ch5 hp1
  have v5 := v.chgp ch5 hp1
  have l5 := ch5.len
  obtain ⟨t', k6, e6, o6, ch6, sub6⟩ := o5.app2 (Nat.le_trans lg l5) x (by simp) (by unfold lenMost; omega)
  have v6 := v5.chg ch6 fun id ho hid => dj id hid ho
  have R6 := R5.keeps ch6 (fun hh => by have := o.ids p hh; omega) fun id hid hh => by have := o.ids id hh; have := hd1 id hid; omega
  have sp := sent_phi w
  obtain ⟨_, e7, k7, c7, cs7, rfl, v7, s7⟩ := c_l22Do v6 G (by omega) x
  have ge6 := v6.own.owned_ge
  have o7 := o6.same fun id hid => s7.chg.keep id (o6.sl.ids_lt id hid) fun ho => by
   rcases sub6 id hid with hh | hh
   ·exact dj id hh ho
   ·have := v5.own.owned_lt id ho; omega
  have R7 := R6.keeps s7.chg (fun hh => by have := ge6 p hh; omega) fun id hid hh => by have := ge6 id hh; have := hd1 id hid; omega
  obtain ⟨G7, ph7, _⟩ := G.doG x
  have wj : IntKind.i64.wrap (((N - i : Nat) : Int) - 1) = ((N - (i + 1) : Nat) : Int) := by rw [wrapS (by omega) (by omega)]; omega
  have hpos : 0 < N - i := by omega
  have hpos' : ¬ N - i = 0 := by omega
  have c6 : Chg k1 (fun id => id = p) k6 := ⟨Nat.le_trans lg (Nat.le_trans l5 ch6.len), fun id hid hne => by
   rw [ch6.keep id (by omega) (fun hh => by have := o.ids id hh; omega), ch5.keep id (by omega) hne, cg.keep id hid hne]⟩
  have c8 : Chg k1 (fun id => id = p) k7 := ⟨Nat.le_trans c6.len s7.chg.len, fun id hid hne => by
   rw [s7.chg.keep id (by have := c6.len; omega) (fun hh => by have := ge6 id hh; omega), c6.keep id hid hne]⟩
  simp only [encW, encE] at e5 e6 e7
  rw [Wp_body]
  simp [hpos, hpos', e5, e6, e7, wj]
  exact ⟨k7, t', evs ++ [x], doP w x, c7, ⟨rfl, ⟨rfl, rfl, rfl, rfl, rfl, rfl, rfl⟩, rfl⟩, o7, by simp [hl], by rw [playTo_app, ← weq], cs7, v7, G7, by omega, fun id hid ho => by
   rcases s7.sub id ho with hh | hh
   ·rcases sub6 id hid with h2 | h2
    ·exact dj id h2 hh
    ·have := v5.own.owned_lt id hh; omega
   ·have := o6.sl.ids_lt id hid; omega, q5, R7, by omega, c8⟩
 ·rintro ⟨g, t, evs, w, c, cs, q⟩ ⟨o, hl, weq, v, G, ph, dj, Rg, hq, cg⟩
  simp only at o hl weq v G ph dj Rg hq cg ⊢
  have sp := sent_phi w
  rw [Wp_body]
  simp [zeroW]
  have oc : OwnL h.length g s 6 encO code := by
   have hk : ∀ id ∈ s.ids, g.get id = k1.get id := fun id hid => cg.keep id (o1.sl.ids_lt id hid) fun e => by have := o1.ids id hid; omega
   exact o1.same hk
  exact ⟨by kernel_rfl, by kernel_rfl, _, g, q, rfl, ⟨s, t, code, evs, w, c, cs, rfl, oc, sf, o.low l1, by omega, fun id hid hh => by have := o1.sl.ids_lt id hid; have := o.ids id hh; omega, v.low l1, G, by omega, weq⟩, Rg, by omega, ch1.pp cg⟩
end Go.Proofs.YtmkiojlebjknlaaGreat

/-
 THE PROGRAM OF THE ABSTRACT MACHINE IS SOUND: the one function told by its answer alone answers so.
-/
set_option maxRecDepth 8000
namespace Go.Proofs.YtmkiojlebjknlaaGreat
open Go.AM Go.RowKit
set_option maxHeartbeats 1000000 in
set_option maxRecDepth 100000 in
theorem indexByte_calls (s : ByteArray) (c : Int) (w : World) :
  Calls Tryz.prog 193 #[.string s, .int .u8 c] w fun e w' => e = .returned (.int .i64 (Lib.indexByte s.data.toList c.toNat.toUInt8)) ∧ w' = w := by
 go_enter Tryz.func193, Tryz.ntmps193
 go_wp2
 rw [run_callFunc_extern Tryz.func197 (by kernel_rfl) (by kernel_rfl) (by kernel_rfl) (e := Extern.BytealgIndexByte.indexByte) (by kernel_rfl), Lib.run_indexByteString]
 simp only [Result.andThen]
 rw [Oper.upon_value]
 go_wp2
 go_ret
 exact ⟨rfl, rfl⟩
theorem prims_ok : Dz.PrimOk := by
 intro f args r h
 unfold Dz primF at h
 simp only at h
 split at h
 ·cases h
 ·rename_i hf
  split at h
  ·rename_i s c
   cases h
   have hf : f = 193 := by simpa using hf
   subst hf
   refine ⟨fun hp B ι w cargs hr hl hargs => ?_, _, Tryz.func193, by kernel_rfl⟩
   match cargs, hl with
   | [a, b], _ =>
    have h0 := hargs 0 _ a rfl rfl
    have h1 := hargs 1 _ b rfl rfl
    simp [V.rel] at h0 h1
    obtain ⟨rfl, _⟩ := h0; obtain ⟨rfl, _⟩ := h1
    refine (indexByte_calls s c w).mono fun e w' ⟨he, hw⟩ => ?_
    subst hw
    exact ⟨_, ι, he, hr, FR.refl _ _ _, rfl, trivial⟩
  ·cases h
theorem dz_ok : Dz.Ok := ⟨types_ok, mixed_ok, names_ok, prims_ok⟩
end Go.Proofs.YtmkiojlebjknlaaGreat

/-
 WHAT COMES IN, OPENED: bytes; and from the abstract machine to a row.
-/
set_option maxRecDepth 8000
namespace Go.Proofs.YtmkiojlebjknlaaGreat
open Go.AM
section
variable {H0 : Type} {enc : TypeId × Value → H0} {W : World} {held : Bool}
theorem Opn.nil (W : World) : Opn W [] (fun _ => default) :=
 ⟨⟨Nat.zero_le _, fun id b hg => by simp [H.get] at hg, fun id id' b b' _ hg => by simp [H.get] at hg⟩, fun id b hg => by simp [H.get] at hg⟩
theorem light_of {P : Program} {ts : List TypeId} {ds : List (DataW H0)} {i : Nat} {t : TypeId} {d : DataW H0} (h : (DataW.weightsEach P ts ds).all (· ≤ reachBytes) = true) (ht : ts[i]? = some t) (hd : ds[i]? = some d) : Light P t d := fun n hn => by
 have := List.all_eq_true.1 h n (weightsEach_mem ht hd n hn)
 simpa using this
theorem law_calls {h : H} {ι : Plan} (ho : Opn W h ι) {f : FuncId} {args : List V} {h' : H} (hd : Dz.den f args h = some (.c (.bool true), h')) (cargs : List Value) (hl : cargs.length = args.length)
  (ha : ∀ (j : Nat) (v : V) (u : Value), args[j]? = some v → cargs[j]? = some u → v.rel ι h.length u) :
  Calls Tryz.prog f cargs.toArray W fun e W' => e = .returned (.bool true) ∧ Go.RowKit.Below W.heap.size W W' := by
 refine (den_ok dz_ok hd 0 ι W cargs ho.hr hl ha).mono fun e W' ⟨x, ι', he, _, hf, hx⟩ => ?_
 have hx1 := (V.rel_known hx rfl).1
 subst he; subst hx1
 exact ⟨rfl, hf.os, hf.tape, hf.output, hf.size, fun k hk => hf.keep k hk fun id bl hg hro => absurd (ho.ro id bl hg) (by rw [hro]; simp)⟩
theorem laidOut : Go.laidOutB Tryz.prog = true := by kernel_rfl
theorem ownKnob_none : ownKnob Tryz.prog.godebug = none := by kernel_rfl
theorem cells_byte : Tryz.prog.cellsOf 5 = 1 := by kernel_rfl
theorem bytes_byte : 0 < Tryz.prog.bytesOf 5 := of_decide_eq_true (by kernel_rfl)
structure BytesA (h : H) (s : Cell) (bs : List Int) : Prop where
 sl : SlA h s 1 encU bs
 rng : ∀ b ∈ bs, 0 ≤ b ∧ b ≤ 255
theorem BytesA.ext {h h' : H} {s : Cell} {bs : List Int} (b : BytesA h s bs) (x : Ext h h') : BytesA h' s bs := ⟨b.sl.ext x, b.rng⟩
abbrev U8 := { n : Int // 0 ≤ n ∧ n ≤ 255 }
theorem er_byte : ElemRead enc Tryz.prog W (fun _ => true) held 5 (fun x : U8 => encU x.1) := fun fuel cs x hd => by
 obtain ⟨n, rfl, _, hw⟩ := DataW.trod_int Tryz.underlying5 hd
 refine ⟨⟨n, ?_⟩, fun ι => rfl⟩
 simp only [Lit.wf, Bool.and_eq_true, decide_eq_true_eq] at hw
 have h1 : IntKind.u8.min = 0 := rfl
 have h2 : IntKind.u8.max = 255 := by decide
 omega
theorem open_B {h : H} {ι : Plan} {fuel : Nat} {v : Value} {x : DataW H0 × List MemPlace} (ho : Opn W h ι) (hd : DataW.trod enc Tryz.prog W 0 (fun _ => true) held fuel 22 [v] = some x) (hL : Light Tryz.prog 22 x.1) :
  ∃ (c : Cell) (bs : List Int) (h' : H) (ι' : Plan), Gr h ι h' ι' ∧ Opn W h' ι' ∧ BytesA h' c bs ∧ v = c.conc ι' ∧ c.below h'.length := by
 obtain ⟨c, xs, h', ι', g, o, s, e, w⟩ := open_flat Tryz.underlying22 cells_byte (by omega) (encA := fun x : U8 => encU x.1) (fun _ => rfl) (fun a c hc => by simp [encU] at hc; subst hc; rfl) er_byte ho hd hL bytes_byte
 refine ⟨c, xs.map (·.1), h', ι', g, o, ⟨?_, fun b hb => ?_⟩, e, w⟩
 ·rcases s with ⟨h1, h2⟩ | ⟨h1, h2⟩
  ·refine .inl ⟨fun x hx => by simp, ?_⟩
   have ee : xs.map (·.1) = [] ↔ xs = [] := by cases xs <;> simp
   cases c with
   | nils => exact ee.2 h2
   | sle id i l => exact ⟨ee.2 h2.1, h2.2⟩
   | sl id i len o =>
    cases o with
    | none => simpa [List.map_map, Function.comp_def] using h2
    | some c => exact ⟨h2.1, h2.2.1, ee.2 h2.2.2⟩
   | _ => exact h2.elim
  ·exact .inr ⟨by simp [h1], h2⟩
 ·obtain ⟨y, _, rfl⟩ := List.mem_map.1 hb
  exact y.2
theorem bytes_arg {r : Reach} {b0 : Nat} {v : Value} {d : DataW H0} {ps : List MemPlace} (hv : Value.okWide Tryz.prog W r b0 22 v) (hd : DataW.Trod enc Tryz.prog W 0 (fun _ => true) held 22 v d ps) (hL : Light Tryz.prog 22 d) :
  ∃ (s : Cell) (bs : List Int) (h : H) (ι : Plan), Opn W h ι ∧ BytesA h s bs ∧ (V.c s).rel ι h.length v := by
 obtain ⟨a, n, c, rfl⟩ := Go.WideShapes.okWide_slice Tryz.underlying22 hv
 obtain ⟨f0, hf⟩ := hd
 obtain ⟨s, code, k0, i0, g0, o0, s0, e0, w0⟩ := open_B (Opn.nil W) hf hL
 exact ⟨s, code, k0, i0, o0, s0, V.rel_mk e0 w0⟩
theorem bytes2_arg {r : Reach} {b0 b1 : Nat} {v v' : Value} {d d' : DataW H0} {ps ps' : List MemPlace} (hv : Value.okWide Tryz.prog W r b0 22 v) (hd : DataW.Trod enc Tryz.prog W 0 (fun _ => true) held 22 v d ps) (hL : Light Tryz.prog 22 d)
  (hv' : Value.okWide Tryz.prog W r b1 22 v') (hd' : DataW.Trod enc Tryz.prog W 0 (fun _ => true) held 22 v' d' ps') (hL' : Light Tryz.prog 22 d') :
  ∃ (s : Cell) (bs : List Int) (t : Cell) (ms : List Int) (h : H) (ι : Plan), Opn W h ι ∧ BytesA h s bs ∧ BytesA h t ms ∧ (V.c s).rel ι h.length v ∧ (V.c t).rel ι h.length v' := by
 obtain ⟨a, n, c, rfl⟩ := Go.WideShapes.okWide_slice Tryz.underlying22 hv
 obtain ⟨a', n', c', rfl⟩ := Go.WideShapes.okWide_slice Tryz.underlying22 hv'
 obtain ⟨f0, hf⟩ := hd
 obtain ⟨f1, hf'⟩ := hd'
 obtain ⟨s, code, k0, i0, g0, o0, s0, e0, w0⟩ := open_B (Opn.nil W) hf hL
 obtain ⟨t, evs, k1, i1, g1, o1, s1, e1, w1⟩ := open_B o0 hf' hL'
 refine ⟨s, code, t, evs, k1, i1, o1, s0.ext g1.ext, s1, V.rel_mk ?_ (g1.below w0), V.rel_mk e1 w1⟩
 rw [e0]
 exact (g1.conc w0).symm
end
end Go.Proofs.YtmkiojlebjknlaaGreat

/-
 WHAT IS DRAWN: the reader opened; code and what happens, to be played.
-/
set_option maxRecDepth 8000
namespace Go.Proofs.YtmkiojlebjknlaaGreat
open Go.AM
variable {h k : H} {p n m lo : Nat} {d : Cell} {bs : List Int}
def OpenQ (h : H) (x : V × H) : Prop := ∃ k d bs, x = (.c (.ptr h.length 0 0), k) ∧ Ext h k ∧ Rdr k h.length d bs 0
theorem c_l6Open {s : Cell} (hS : BytesA h s bs) : @Wp _ (Dz.den 31 [.c s] h) ⟨OpenQ h⟩ := by
 refine den_wp rfl Tryz.func31 rfl ?_
 have eL := fun e => hS.sl.lenA (e := e)
 unfold OpenQ
 by_cases a : bs.length ≤ 2000
 ·have a' : ¬ (2000 : Int) < bs.length := by omega
  simp [Tryz.f31, eL, a']
  exact ⟨Ext.push _ _, s, bs, get_push_self, hS.sl.ext (Ext.push _ _), hS.rng, fun hid => by
   rcases hS.sl with hh | ⟨_, q, rfl⟩
   ·have := hh.ids_lt _ hid; omega
   ·simp [Cell.ids] at hid⟩
 ·have a' : (2000 : Int) < bs.length := by omega
  have S : Sl h s 1 encU bs := by
   rcases hS.sl with hh | ⟨hh, _⟩
   ·exact hh
   ·rw [hh] at a; simp at a
  have e1 := sliceA_to S (T := TTz) (t := 22) (k := .i64) (n := 2000) rfl rfl (by omega)
  have S2 := S.cutTo (n := 2000) (by omega)
  simp at e1
  simp [Tryz.f31, eL, a', e1]
  exact ⟨Ext.push _ _, cutTo s 2000, bs.take 2000, get_push_self, .inl (S2.ext (Ext.push _ _)), fun b hb => hS.rng b (List.mem_of_mem_take hb), fun hid => by have := S2.ids_lt _ hid; omega⟩
structure DrawnP (h k : H) (s t : Cell) (code : List POp) (evs : List PEvent) : Prop where
 oc : OwnL h.length k s 6 encO code
 short : code.length ≤ 20
 oe : OwnL h.length k t 4 encE evs
 few : evs.length ≤ 81
 ext : Ext h k
def DrawnQ (h : H) (x : V × H) : Prop := ∃ k s t code evs, x = (.t [.c s, .c t], k) ∧ DrawnP h k s t code evs
set_option maxRecDepth 16000 in
theorem c_DrawPlayRun {s : Cell} (hS : BytesA h s bs) : @Wp _ (Dz.den 19 [.c s] h) ⟨DrawnQ h⟩ := by
 refine den_wp rfl Tryz.func19 rfl ?_
 obtain ⟨_, e1, k1, d, bs1, rfl, x1, R1⟩ := c_l6Open hS
 obtain ⟨_, e2, _, k2, q2, rfl, ⟨sc, tc, code, evs, w, c, cs, rfl, D⟩, R2, hq2, ch2⟩ := c_l72Play R1 (by omega)
 obtain ⟨N, k3, e3, b3, R3, ch3⟩ := pick1 R2 (by omega) (m := 40) (by omega) (by omega)
 have l1 := x1.1
 have hp := R1.lt
 have C3 := ch2.pp ch3
 have ext : ∀ {k : H}, Chg k1 (fun id => id = h.length) k → Ext h k := fun c => ⟨Nat.le_trans l1 c.len, fun id hid => by rw [c.keep id (by omega) (by omega), x1.2 id hid]⟩
 have oc := D.oc.chgp ch3 hp
 have oe := D.oe.chgp ch3 hp
 simp only [encW] at e2
 unfold DrawnQ
 by_cases y0 : N = 0
 ·subst y0
  obtain ⟨_, e4, _, k4, q4, rfl, ⟨s4, code4, rfl, o4, g4, g5⟩, R4, hq4, ch4⟩ := c_l71Random R3 (by omega)
  simp at e3
  simp [Tryz.f19, e1, e2, e3, e4]
  exact ⟨rfl, k4, s4, tc, ⟨⟨rfl, rfl⟩, rfl⟩, code4, evs, o4.low (by have := C3.len; omega), by omega, (oe.chgp ch4 hp).low l1, by have := D.few; omega, ext (C3.pp ch4)⟩
 have y0' : ¬ (N : Int) = 0 := by omega
 by_cases y1 : N = 1
 ·subst y1
  simp at e3
  simp [Tryz.f19, e1, e2, e3]
  have few := D.few
  refine count_wpG (σ := H × Cell × List PEvent) (81 - evs.length) (fun i g => ([.c .nils, .c .nils, .c sc, .c g.2.1], [], [], g.1))
   (fun i g => OwnL k1.length g.1 g.2.1 4 encE g.2.2 ∧ g.2.2.length = evs.length + i ∧ OwnL k1.length g.1 sc 6 encO code ∧ (∀ id ∈ sc.ids, id ∉ g.2.1.ids) ∧ Chg k1 (fun id => id = h.length) g.1) (k3, tc, evs) (by simp) ⟨oe, by simp, oc, D.dj, C3⟩ ?_ ?_
  ·rintro i ⟨g, t, es⟩ hi ⟨o, hl, o2, dj, cg⟩
   simp only at o hl o2 dj cg ⊢
   have lt : es.length ≤ 80 := by omega
   have lt' : (es.length : Int) ≤ 80 := by omega
   obtain ⟨t', g2, e5, o5, c5, sub⟩ := o.app2 cg.len (⟨2, 0, ⟨0, 0⟩⟩ : PEvent) (by simp) (by unfold lenMost; omega)
   simp only [encE] at e5
   rw [Wp_body]
   simp [o.sl.lenA, lt, lt', e5]
   exact ⟨g2, t', ⟨rfl, rfl⟩, es ++ [⟨2, 0, ⟨0, 0⟩⟩], o5, by simp; omega, o2.same fun id hid => c5.keep id (o2.sl.ids_lt id hid) (dj id hid), fun id hid hh => by
    rcases sub id hh with q | q
    ·exact dj id hid q
    ·have := o2.sl.ids_lt id hid; omega, cg.own o c5 (Nat.le_refl _)⟩
  ·rintro ⟨g, t, es⟩ ⟨o, hl, o2, dj, cg⟩
   simp only at o hl o2 dj cg ⊢
   have lt : ¬ es.length ≤ 80 := by omega
   have lt' : ¬ (es.length : Int) ≤ 80 := by omega
   rw [Wp_body]
   simp [o.sl.lenA, lt, lt']
   exact ⟨rfl, g, sc, t, ⟨⟨rfl, rfl⟩, rfl⟩, code, es, o2.low l1, by have := codeOk_len D.safe.ok; omega, o.low l1, by omega, ext cg⟩
 have y1' : ¬ (N : Int) = 1 := by omega
 simp [Tryz.f19, e1, e2, e3, y0, y0', y1, y1']
 exact ⟨rfl, k3, sc, tc, ⟨⟨rfl, rfl⟩, rfl⟩, code, evs, oc.low l1, by have := codeOk_len D.safe.ok; omega, oe.low l1, by have := D.few; omega, ext C3⟩
end Go.Proofs.YtmkiojlebjknlaaGreat
