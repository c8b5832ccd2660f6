/-
  What functions of the seat answer, each proved once; each under the condition that cells bear what it is given, as its statement says.
-/
import Derived.Test.YthnmkpocjgnjeaaGreatWalkB16
import Derived.Test.YthnmkpocjgnjeaaGreatWalkB13
import Derived.Test.YthnmkpocjgnjeaaGreatWalkB7
import Derived.Test.YthnmkpocjgnjeaaGreatWalkB11
set_option linter.all false
/-
 THE REFERENCE's TurnStep, TurnDo, PlayDo, PlayTurns: what they answer.
-/
set_option maxRecDepth 8000
namespace Go.Proofs.YthnmkpocjgnjeaaGreat
open Go.AM
variable {h h' : H} {lo : Nat} {w : PWorld} {c : WorldC} {st cs : List RunC}
theorem Room.good (R : Room w) : Good w ∧ w.sent < 9000 := ⟨R.1.good.1, R.2⟩
noncomputable def turnStepP (w : PWorld) : PWorld := if tt (Room w) then (if w.queue = [] then w else stepP w (headQ w)) else emptyW
noncomputable def turnDoP (w : PWorld) : PWorld := if tt (Room w) then turnP w else emptyW
noncomputable def playDoP (w : PWorld) (e : PEvent) : PWorld := if tt (Room w) then doP w e else emptyW
def turnsP : Nat → PWorld → PWorld
 | 0, w => w
 | n + 1, w => turnP (turnsP n w)
noncomputable def playTurnsP (w : PWorld) (n : Int) : PWorld := if tt (Room w ∧ 0 ≤ n ∧ n ≤ 80) then turnsP n.toNat w else emptyW
theorem queue_hd (hq : w.queue ≠ []) (hQ : Sl h c.queue 1 encI w.queue) : ixA TTz h (.slice 3) (.c c.queue) (.c (.int .i64 0)) = some (.c (.ptr (sid c.queue) (soff c.queue) 0)) ∧ h.cellsAt (sid c.queue) (soff c.queue) 0 1 = some [.int .i64 (headQ w)] ∧ w.queue.length ≠ 0 := by
 have hln : w.queue.length ≠ 0 := fun hh => hq (List.length_eq_zero_iff.1 hh)
 refine ⟨ixA_nat hQ (n := 0) rfl rfl (by omega), ?_, hln⟩
 have := hQ.at (n := 0) (k := 0) (m := 1) (by omega) (by omega)
 unfold headQ
 cases hh : w.queue with
 | nil => exact absurd hh hq
 | cons a t => rw [hh] at this; simpa using this
theorem c_TurnDo (hV : WorldV lo h w c cs cs) : @Wp _ (Dz.den 16 [.g (encW c)] h) ⟨CopyWQ h (turnDoP w)⟩ := by
 refine den_wp rfl Tryz.func16 rfl ?_
 have e := c_l21Room hV.rd
 simp only [encW] at e
 unfold turnDoP
 by_cases a : Room w
 ·have a' : tt (Room w) = true := by simpa using a
  rw [a'] at e ⊢
  obtain ⟨G, hs⟩ := a.good
  obtain ⟨_, e1, h1, c1, cs1, rfl, x1, v1⟩ := c_l12Copy hV a.1.le
  obtain ⟨_, e2, h2, c2, cs2, rfl, v2, s2⟩ := c_l21Do v1 G (by omega)
  simp only [encW] at e1 e2
  simp [Tryz.f16, e, e1, e2]
  exact ⟨h2, c2, cs2, rfl, copy_step x1 v1 s2, v2⟩
 ·have a' : tt (Room w) = false := by simpa using a
  rw [a'] at e ⊢
  simp [Tryz.f16, e]
  exact ⟨h, _, _, rfl, Ext.refl _, emptyV h⟩
def encE (e : PEvent) : List Cell := [.int .i64 e.kind, .int .i64 e.a, .int .i64 e.v.k, .int .i64 e.v.n]
attribute [simp] encE
theorem Good.doG (G : Good w) (e : PEvent) : Good (doP w e) ∧ phi (doP w e) ≤ phi w + 36 ∧ (doP w e).code = w.code ∧ w.runs.length ≤ (doP w e).runs.length := by
 unfold doP
 split
 ·have K := G.turnG; exact ⟨K.g, K.k.phi, K.k.code, K.k.len⟩
 ·split
  ·obtain ⟨a, b, c, d⟩ := G.tickG; exact ⟨a, by omega, c, d⟩
  ·split
   ·split
    ·rename_i hv
     have K := G.giveG e.a hv; exact ⟨K.g, by have := K.k.phi; omega, K.k.code, K.k.len⟩
    ·exact ⟨G, by omega, rfl, Nat.le_refl _⟩
   ·split
    ·split
     ·rename_i hv
      have K := G.fallG e.a hv.1; exact ⟨K.g, by have := K.k.phi; omega, K.k.code, K.k.len⟩
     ·exact ⟨G, by omega, rfl, Nat.le_refl _⟩
    ·exact ⟨G, by omega, rfl, Nat.le_refl _⟩
set_option maxRecDepth 16000 in
set_option maxHeartbeats 2000000 in
theorem c_l22Do (hV : WorldV lo h w c cs cs) (G : Good w) (hs : w.sent ≤ 100000000) (e : PEvent) : @Wp _ (Dz.den 73 [.g (encW c), .g (encE e)] h) ⟨StepQ lo h (part c cs) (doP w e)⟩ := by
 refine den_wp rfl Tryz.func73 rfl ?_
 have I := G.inv
 unfold doP
 by_cases k1 : e.kind = 1
 ·obtain ⟨_, e2, h2, c2, cs2, rfl, v2, s2⟩ := c_l21Do hV G hs
  simp only [encW] at e2
  rw [if_pos k1]
  simp [Tryz.f73, k1, e2]
  exact ⟨h2, c2, cs2, rfl, v2, s2⟩
 rw [if_neg k1]
 by_cases k2 : e.kind = 2
 ·obtain ⟨_, e2, h2, c2, cs2, rfl, v2, s2⟩ := c_l21Tick hV I.now (by have := I.qlen; have := I.many; unfold lenMost; omega)
  simp only [encW] at e2
  rw [if_pos k2]
  simp [Tryz.f73, k2, e2]
  exact ⟨h2, c2, cs2, rfl, v2, s2⟩
 rw [if_neg k2]
 by_cases k3 : e.kind = 3
 ·rw [if_pos k3]
  by_cases hv : valOk e.v = true
  ·obtain ⟨_, e2, h2, c2, cs2, rfl, v2, s2⟩ := c_l12Give hV (I.sane (by omega)) e.a e.v
   simp only [encW, encV] at e2
   have hv' : valOk ⟨e.v.k, e.v.n⟩ = true := hv
   rw [if_pos hv]
   simp [Tryz.f73, k3, hv', e2]
   exact ⟨h2, c2, cs2, rfl, v2, s2⟩
  ·have hv' : valOk ⟨e.v.k, e.v.n⟩ = false := by simpa using hv
   rw [if_neg hv]
   simp [Tryz.f73, k3, hv']
   exact ⟨h, c, cs, rfl, hV, StepV.refl _ _⟩
 rw [if_neg k3]
 by_cases k4 : e.kind = 4
 ·rw [if_pos k4]
  have hS := hV.runs
  have hlen := hV.len
  by_cases hv : valOk e.v = true
  ·have hv' : valOk ⟨e.v.k, e.v.n⟩ = true := hv
   by_cases hin : 1 ≤ e.a ∧ e.a ≤ w.runs.length
   ·obtain ⟨i, ei, ei2, hi, hg, R⟩ := I.run hin
    have hri : runAt w e.a = w.runs[i] := by have := List.getElem?_eq_getElem hi; rw [hg] at this; simpa using this
    have hi' : i < cs.length := by omega
    have hst := (hV.each i hi).state
    have h6 := I.many
    have wi : IntKind.i64.wrap (i : Int) = i := wrapS (by omega) (by omega)
    have b1 : (1 : Int) ≤ (i : Int) + 1 := by omega
    have b2 : (i : Int) + 1 ≤ w.runs.length := by omega
    by_cases s3 : w.runs[i].state = 3
    ·have s3' : cs[i].state = 3 := by rw [hst, s3]
     rw [if_neg (fun hh => hh.2.2 (by rw [hri]; exact s3))]
     simp [Tryz.f73, k4, hv', hS.lenA, hlen, ei, b1, b2, hi, wi, hi', ixA_nat hS, hS.at, s3']
     exact ⟨h, c, cs, rfl, hV, StepV.refl _ _⟩
    ·have s3' : ¬ cs[i].state = 3 := by rw [hst]; exact s3
     obtain ⟨_, e2, h2, c2, cs2, rfl, v2, s2⟩ := c_l13End hV I (by omega) hin (why := e.v) hv
     rw [if_pos ⟨hv, hin, by rw [hri]; exact s3⟩]
     rw [ei] at e2
     simp only [encW, encV] at e2
     simp [Tryz.f73, k4, hv', hS.lenA, hlen, ei, b1, b2, hi, wi, hi', ixA_nat hS, hS.at, s3', e2]
     rw [← ei]
     exact ⟨h2, c2, cs2, rfl, v2, s2⟩
   ·rw [if_neg (fun hh => hin hh.2.1)]
    simp [Tryz.f73, k4, hv', hS.lenA, hlen, hin]
    exact ⟨h, c, cs, rfl, hV, StepV.refl _ _⟩
  ·have hv' : valOk ⟨e.v.k, e.v.n⟩ = false := by simpa using hv
   rw [if_neg (fun hh => hv hh.1)]
   simp [Tryz.f73, k4, hv']
   exact ⟨h, c, cs, rfl, hV, StepV.refl _ _⟩
 rw [if_neg k4]
 simp [Tryz.f73, k1, k2, k3, k4]
 exact ⟨h, c, cs, rfl, hV, StepV.refl _ _⟩
theorem turnsP_good (G : Good w) : ∀ n, Good (turnsP n w) ∧ phi (turnsP n w) ≤ phi w + 36 * n
 | 0 => ⟨G, by simp [turnsP]⟩
 | n + 1 => by
  obtain ⟨a, b⟩ := turnsP_good G n
  have K := a.turnG
  exact ⟨K.g, by have := K.k.phi; simp only [turnsP]; omega⟩
theorem c_PlayTurns (hV : WorldV lo h w c cs cs) (n : Int) : @Wp _ (Dz.den 28 [.g (encW c), .c (.int .i64 n)] h) ⟨CopyWQ h (playTurnsP w n)⟩ := by
 refine den_wp rfl Tryz.func28 rfl ?_
 have e := c_l21Room hV.rd
 simp only [encW] at e
 unfold playTurnsP
 by_cases a : Room w
 ·have a' : tt (Room w) = true := by simpa using a
  rw [a'] at e
  by_cases b : 0 ≤ n ∧ n ≤ 80
  ·have ab : tt (Room w ∧ 0 ≤ n ∧ n ≤ 80) = true := by simp [a, b]
   rw [if_pos ab]
   obtain ⟨G, hs⟩ := a.good
   obtain ⟨_, e1, h1, c1, cs1, rfl, x1, v1⟩ := c_l12Copy hV a.1.le
   obtain ⟨m, rfl⟩ : ∃ m : Nat, n = m := ⟨n.toNat, by omega⟩
   simp only [encW] at e1
   simp [Tryz.f28, e, b, e1]
   refine count_wpG (σ := H × WorldC × List RunC) m (fun i g => ([.c (.int .i64 m), .c (ci i)], [zeroW, encW g.2.1], [], g.1))
    (fun i g => WorldV h.length g.1 (turnsP i w) g.2.1 g.2.2 g.2.2 ∧ Ext h g.1) (h1, c1, cs1) ?_ ⟨v1, x1⟩ ?_ ?_
   ·simp [zeroW]
   ·rintro i ⟨k, c2, cs2⟩ hi ⟨v, x⟩
    simp only at v x ⊢
    obtain ⟨G2, ph⟩ := turnsP_good G i
    have hp0 := phi_sent G.inv
    have hs2 : (turnsP i w).sent ≤ 100000000 := by have := sent_phi (turnsP i w); omega
    obtain ⟨_, e2, k2, c3, cs3, rfl, v2, s2⟩ := c_l21Do v G2 hs2
    have wj : IntKind.i64.wrap ((i : Int) + 1) = (i : Int) + 1 := wrapS (by omega) (by omega)
    simp only [encW] at e2
    rw [Wp_body]
    simp [hi, e2, wj]
    exact ⟨k2, c3, ⟨⟨rfl, rfl, rfl, rfl, rfl, rfl, rfl⟩, rfl⟩, ⟨cs3, v2⟩, s2.ext (fun id ho => v.own.owned_ge id ho) x (Nat.le_refl _)⟩
   ·rintro ⟨k, c2, cs2⟩ ⟨v, x⟩
    simp only at v x ⊢
    rw [Wp_body]
    simp [zeroW]
    exact ⟨k, c2, cs2, rfl, x, v⟩
  ·have ab : ¬ tt (Room w ∧ 0 ≤ n ∧ n ≤ 80) = true := by simp [a]; omega
   rw [if_neg ab]
   simp [Tryz.f28, e, b]
   exact ⟨h, _, _, rfl, Ext.refl _, emptyV h⟩
 ·have a' : tt (Room w) = false := by simpa using a
  have ab : ¬ tt (Room w ∧ 0 ≤ n ∧ n ≤ 80) = true := by simp [a]
  rw [a'] at e
  rw [if_neg ab]
  simp [Tryz.f28, e]
  exact ⟨h, _, _, rfl, Ext.refl _, emptyV h⟩
end Go.Proofs.YthnmkpocjgnjeaaGreat

/-
 WHAT IS DRAWN: what happens.
-/
set_option maxRecDepth 8000
namespace Go.Proofs.YthnmkpocjgnjeaaGreat
open Go.AM
variable {h k : H} {p n m lo : Nat} {d : Cell} {bs : List Int} {w : PWorld} {c : WorldC} {cs : List RunC}
set_option maxRecDepth 16000 in
set_option maxHeartbeats 2000000 in
theorem c_l72Event (R : Rdr h p d bs n) (hn : n ≤ 10000000) (hS : Sl h c.runs 13 encR cs) (hl : 1 ≤ cs.length ∧ cs.length ≤ 1000) : @Wp _ (Dz.den 71 [.c (.ptr p 0 0), .g (encW c)] h) ⟨DrawQ h p d bs n 20 (fun v _ => ∃ e : PEvent, v = .g (encE e))⟩ := by
 refine den_wp rfl Tryz.func71 rfl ?_
 obtain ⟨v1, k1, e1, b1, R1, c1⟩ := pick1 R (by omega) (m := 14) (by omega) (by omega)
 have eL := fun e => hS.lenA (e := e)
 have fin : ∀ (g : H) (q : Nat) (x : PEvent), Rdr g p d bs q → q ≤ n + 20 → Chg h (fun id => id = p) g → ∀ r : V × H, r = (.g (encE x), g) → DrawQ h p d bs n 20 (fun v _ => ∃ x : PEvent, v = .g (encE x)) r := fun g q x Rg hq cg r hr => ⟨_, g, q, hr, ⟨x, rfl⟩, Rg, hq, cg⟩
 by_cases y0 : v1 = 0
 ·subst y0
  simp at e1
  simp [Tryz.f71, eL, e1]
  exact fin k1 _ ⟨2, 0, ⟨0, 0⟩⟩ R1 (by omega) c1 _ rfl
 have y0' : ¬ (v1 : Int) = 0 := by omega
 by_cases y1 : v1 = 1
 ·subst y1
  simp at e1
  simp [Tryz.f71, eL, e1]
  exact fin k1 _ ⟨2, 0, ⟨0, 0⟩⟩ R1 (by omega) c1 _ rfl
 have y1' : ¬ (v1 : Int) = 1 := by omega
 obtain ⟨v2, k2, e2, b2, R2, c2⟩ := pick1 R1 (by omega) (m := cs.length) (by omega) (by omega)
 obtain ⟨x3, k3, q3, e3, _, R3, h3, c3⟩ := good1 R2 (by omega)
 have w2 : IntKind.i64.wrap (1 + (v2 : Int)) = 1 + (v2 : Int) := wrapS (by omega) (by omega)
 by_cases y2 : v1 = 2
 ·subst y2
  simp at e1
  simp [Tryz.f71, eL, e1, e2, w2, e3]
  exact fin k3 _ ⟨3, _, ⟨_, _⟩⟩ R3 (by omega) ((c1.pp c2).pp c3) _ rfl
 have y2' : ¬ (v1 : Int) = 2 := by omega
 by_cases y3 : v1 = 3
 ·subst y3
  simp at e1
  simp [Tryz.f71, eL, e1, e2, w2, e3]
  exact fin k3 _ ⟨3, _, ⟨_, _⟩⟩ R3 (by omega) ((c1.pp c2).pp c3) _ rfl
 have y3' : ¬ (v1 : Int) = 3 := by omega
 by_cases y4 : v1 = 4
 ·subst y4
  obtain ⟨v4, k4, e4, b4, R4, c4⟩ := pick1 R1 (by omega) (m := 3) (by omega) (by omega)
  simp at e1
  by_cases z : v4 = 0
  ·subst z
   obtain ⟨v5, k5, e5, b5, R5, c5⟩ := pick1 R4 (by omega) (m := cs.length) (by omega) (by omega)
   obtain ⟨v6, k6, e6, b6, R6, c6⟩ := pick1 R5 (by omega) (m := 3) (by omega) (by omega)
   have w5 : IntKind.i64.wrap (1 + (v5 : Int)) = 1 + (v5 : Int) := wrapS (by omega) (by omega)
   simp at e4
   simp [Tryz.f71, eL, e1, e4, e5, w5, e6]
   exact fin k6 _ ⟨4, _, ⟨2, _⟩⟩ R6 (by omega) (((c1.pp c4).pp c5).pp c6) _ rfl
  ·have z' : ¬ (v4 : Int) = 0 := by omega
   simp [Tryz.f71, eL, e1, e4, z, z']
   exact fin k4 _ ⟨1, 0, ⟨0, 0⟩⟩ R4 (by omega) (c1.pp c4) _ rfl
 have y4' : ¬ (v1 : Int) = 4 := by omega
 by_cases y5 : v1 = 5
 ·subst y5
  obtain ⟨v5, k5, e5, b5, R5, c5⟩ := pick1 R1 (by omega) (m := (cs.length : Int) + 1) (by omega) (by omega)
  obtain ⟨v6, k6, e6, b6, R6, c6⟩ := pick1 R5 (by omega) (m := 5) (by omega) (by omega)
  have w5 : IntKind.i64.wrap (1 + (v5 : Int)) = 1 + (v5 : Int) := wrapS (by omega) (by omega)
  have w6 : IntKind.i64.wrap ((cs.length : Int) + 1) = (cs.length : Int) + 1 := wrapS (by omega) (by omega)
  simp at e1
  simp [Tryz.f71, eL, e1, w6, e5, w5, e6]
  exact fin k6 _ ⟨3, _, ⟨1, _⟩⟩ R6 (by omega) ((c1.pp c5).pp c6) _ rfl
 have y5' : ¬ (v1 : Int) = 5 := by omega
 simp [Tryz.f71, eL, e1, y0, y0', y1, y1', y2, y2', y3, y3', y4, y4', y5, y5']
 exact fin k1 _ ⟨1, 0, ⟨0, 0⟩⟩ R1 (by omega) c1 _ rfl
end Go.Proofs.YthnmkpocjgnjeaaGreat

/-
 THE LAWS' FUNCTIONS THAT MARK AND FIND MARKS, in lists: what they answer.
-/
set_option maxRecDepth 8000
namespace Go.Proofs.YthnmkpocjgnjeaaGreat
open Go.AM
variable {h : H} {s : Cell}
set_option maxRecDepth 8000
end Go.Proofs.YthnmkpocjgnjeaaGreat

/-
 THE LAWS' FUNCTIONS THAT MARK AND FIND MARKS, in runs and worlds: what they answer.
-/
set_option maxRecDepth 8000
namespace Go.Proofs.YthnmkpocjgnjeaaGreat
open Go.AM
variable {h : H} {lo : Nat} {w : PWorld} {c : WorldC} {st cs : List RunC}
def sizeR (r : PRun) : Int := 9 + 2 * r.slots.length + 2 * r.mail.length + r.links.length + r.watched.length
def sizeTo (rs : List PRun) : Nat → Int
 | 0 => 0
 | i + 1 => sizeTo rs i + sizeR (rs[i]?.getD default)
theorem sizeTo_succ {rs : List PRun} {i : Nat} (hi : i < rs.length) : sizeTo rs (i + 1) = sizeTo rs i + sizeR rs[i] := by rw [sizeTo, List.getElem?_eq_getElem hi, Option.getD_some]
def Alike (a b : List PRun) : Prop := a.length = b.length ∧ ∀ i (ha : i < a.length) (hb : i < b.length), a[i].slots.length = b[i].slots.length ∧ a[i].mail.length = b[i].mail.length ∧ a[i].links.length = b[i].links.length ∧ a[i].watched.length = b[i].watched.length
theorem Alike.refl (a : List PRun) : Alike a a := ⟨rfl, fun _ _ _ => ⟨rfl, rfl, rfl, rfl⟩⟩
theorem Alike.size {a b : List PRun} (h : Alike a b) : ∀ i, i ≤ a.length → sizeTo a i = sizeTo b i
 | 0, _ => rfl
 | i + 1, hi => by
  have hb : i < b.length := by have := h.1; omega
  obtain ⟨x, y, z, t⟩ := h.2 i hi hb
  rw [sizeTo_succ hi, sizeTo_succ hb, h.size i (by omega), sizeR, sizeR, x, y, z, t]
theorem Alike.set {a b : List PRun} (h : Alike a b) {i : Nat} (hi : i < b.length) {r : PRun} (hr : r.slots.length = b[i].slots.length ∧ r.mail.length = b[i].mail.length ∧ r.links.length = b[i].links.length ∧ r.watched.length = b[i].watched.length) : Alike (a.set i r) b := by
 refine ⟨by simp [h.1], fun j ha hb => ?_⟩
 by_cases e : i = j
 ·subst e; simpa using hr
 ·simpa [List.getElem_set, e] using h.2 j (by simpa using ha) hb
end Go.Proofs.YthnmkpocjgnjeaaGreat

/-
 THE LAWS' markRunS: what it answers.
-/
set_option maxRecDepth 8000
namespace Go.Proofs.YthnmkpocjgnjeaaGreat
open Go.AM
variable {h h' : H} {lo : Nat} {w : PWorld} {c : WorldC} {st cs : List RunC} {rs : List PRun} {r : PRun} {c1 s0 s1 : RunC} {i : Nat}
theorem WorldV.runAt (hV : WorldV lo h { w with runs := rs.set i r } c st (cs.set i c1)) (hi : i < rs.length) : RunR h r c1 := by
 have := hV.each i (by simpa using hi)
 simpa only [List.getElem_set_self] using this
end Go.Proofs.YthnmkpocjgnjeaaGreat

/-
 THE LAWS' heldRunS, markWorld, heldWorld: what they answer.
-/
set_option maxRecDepth 8000
namespace Go.Proofs.YthnmkpocjgnjeaaGreat
open Go.AM
variable {h h' : H} {lo : Nat} {w : PWorld} {c : WorldC} {st cs : List RunC} {rs : List PRun} {s : Cell}
end Go.Proofs.YthnmkpocjgnjeaaGreat

/-
 THE LAWS' markWorld, heldWorld: what they answer.
-/
set_option maxRecDepth 8000
namespace Go.Proofs.YthnmkpocjgnjeaaGreat
open Go.AM
variable {h h' : H} {lo : Nat} {w : PWorld} {c : WorldC} {st cs : List RunC} {rs : List PRun} {s : Cell}
end Go.Proofs.YthnmkpocjgnjeaaGreat

/-
 A WORLD THAT OWNS ITS BLOCKS, part by part.
-/
set_option maxRecDepth 8000
namespace Go.Proofs.YthnmkpocjgnjeaaGreat
open Go.AM
variable {h h' : H} {lo : Nat} {w : PWorld} {c : WorldC} {st cs : List RunC}
theorem part_key {k : Key} {i : Nat} {f : Fin 4} (hk : keyOf k = some (i, f)) : part c cs k = match cs[i]? with | some r => rpart r f | none => .nils := by
 cases k with
 | code => simp [keyOf] at hk
 | runs => simp [keyOf] at hk
 | queue => simp [keyOf] at hk
 | slots a => simp only [keyOf, Option.some.injEq, Prod.mk.injEq] at hk; obtain ⟨rfl, rfl⟩ := hk; simp only [part, fld]; cases cs[a]? <;> rfl
 | mail a => simp only [keyOf, Option.some.injEq, Prod.mk.injEq] at hk; obtain ⟨rfl, rfl⟩ := hk; simp only [part, fld]; cases cs[a]? <;> rfl
 | links a => simp only [keyOf, Option.some.injEq, Prod.mk.injEq] at hk; obtain ⟨rfl, rfl⟩ := hk; simp only [part, fld]; cases cs[a]? <;> rfl
 | watched a => simp only [keyOf, Option.some.injEq, Prod.mk.injEq] at hk; obtain ⟨rfl, rfl⟩ := hk; simp only [part, fld]; cases cs[a]? <;> rfl
theorem key_none {k : Key} (hk : keyOf k = none) : k = .code ∨ k = .runs ∨ k = .queue := by cases k <;> simp [keyOf] at hk ⊢
theorem key_inj {k k' : Key} {x : Nat × Fin 4} (h : keyOf k = some x) (h' : keyOf k' = some x) : k = k' := by
 cases k <;> simp [keyOf] at h <;> subst h <;> cases k' <;> simp [keyOf] at h' ⊢ <;> omega
end Go.Proofs.YthnmkpocjgnjeaaGreat

/-
 THE LAW FnExactTurnTick, in the abstract machine: it answers true.
-/
set_option maxRecDepth 8000
namespace Go.Proofs.YthnmkpocjgnjeaaGreat
open Go.AM
variable {h : H}
theorem Alike.trans {a b c : List PRun} (h : Alike a b) (g : Alike b c) : Alike a c := by
 refine ⟨h.1.trans g.1, fun i ha hc => ?_⟩
 have hb : i < b.length := by have := h.1; omega
 obtain ⟨x, y, z, t⟩ := h.2 i ha hb
 obtain ⟨x2, y2, z2, t2⟩ := g.2 i hb hc
 exact ⟨x.trans x2, y.trans y2, z.trans z2, t.trans t2⟩
theorem StepV.low {p q : Key → Cell} {h1 h2 : H} (s : StepV h1 p h2 q) {lo : Nat} (o : OwnK lo h1 p) {w : PWorld} {c : WorldC} {cs : List RunC} {lo' : Nat} {hh : H} (v : WorldV lo' h1 w c cs cs) (v0 : WorldV lo' hh w c cs cs) (hl : hh.length ≤ lo) : WorldV lo' h2 w c cs cs :=
 v.chg s.chg fun id ⟨k, hid⟩ ho => by have := v0.own.lt id hid; have := o.owned_ge id ho; omega
end Go.Proofs.YthnmkpocjgnjeaaGreat
