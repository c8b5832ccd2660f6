/-
  What functions of the seat answer, each proved once; each under the condition that cells bear what it is given, as its statement says.
-/
import Derived.Test.YtmkiojlebjknlaaGreatWalkA13
import Derived.Test.YtmkiojlebjknlaaGreatWalkA16
import Derived.Test.YtmkiojlebjknlaaGreatWalkA7
import Derived.Test.YtmkiojlebjknlaaGreatWalkA11
set_option linter.all false
/-
 WHAT IS DRAWN: what happens.
-/
set_option maxRecDepth 8000
namespace Go.Proofs.YtmkiojlebjknlaaGreat
open Go.AM
variable {h k : H} {p n m lo : Nat} {d : Cell} {bs : List Int} {w : PWorld} {c : WorldC} {cs : List RunC}
set_option maxRecDepth 16000 in
set_option maxHeartbeats 2000000 in
theorem c_l72Event (R : Rdr h p d bs n) (hn : n ≤ 10000000) (hS : Sl h c.runs 13 encR cs) (hl : 1 ≤ cs.length ∧ cs.length ≤ 1000) : @Wp _ (Dz.den 97 [.c (.ptr p 0 0), .g (encW c)] h) ⟨DrawQ h p d bs n 20 (fun v _ => ∃ e : PEvent, v = .g (encE e))⟩ := by
 refine den_wp rfl Tryz.func97 rfl ?_
 obtain ⟨v1, k1, e1, b1, R1, c1⟩ := pick1 R (by omega) (m := 14) (by omega) (by omega)
 have eL := fun e => hS.lenA (e := e)
 have fin : ∀ (g : H) (q : Nat) (x : PEvent), Rdr g p d bs q → q ≤ n + 20 → Chg h (fun id => id = p) g → ∀ r : V × H, r = (.g (encE x), g) → DrawQ h p d bs n 20 (fun v _ => ∃ x : PEvent, v = .g (encE x)) r := fun g q x Rg hq cg r hr => ⟨_, g, q, hr, ⟨x, rfl⟩, Rg, hq, cg⟩
 by_cases y0 : v1 = 0
 ·subst y0
  simp at e1
  simp [Tryz.f97, eL, e1]
  exact fin k1 _ ⟨2, 0, ⟨0, 0⟩⟩ R1 (by omega) c1 _ rfl
 have y0' : ¬ (v1 : Int) = 0 := by omega
 by_cases y1 : v1 = 1
 ·subst y1
  simp at e1
  simp [Tryz.f97, eL, e1]
  exact fin k1 _ ⟨2, 0, ⟨0, 0⟩⟩ R1 (by omega) c1 _ rfl
 have y1' : ¬ (v1 : Int) = 1 := by omega
 obtain ⟨v2, k2, e2, b2, R2, c2⟩ := pick1 R1 (by omega) (m := cs.length) (by omega) (by omega)
 obtain ⟨x3, k3, q3, e3, _, R3, h3, c3⟩ := good1 R2 (by omega)
 have w2 : IntKind.i64.wrap (1 + (v2 : Int)) = 1 + (v2 : Int) := wrapS (by omega) (by omega)
 by_cases y2 : v1 = 2
 ·subst y2
  simp at e1
  simp [Tryz.f97, eL, e1, e2, w2, e3]
  exact fin k3 _ ⟨3, _, ⟨_, _⟩⟩ R3 (by omega) ((c1.pp c2).pp c3) _ rfl
 have y2' : ¬ (v1 : Int) = 2 := by omega
 by_cases y3 : v1 = 3
 ·subst y3
  simp at e1
  simp [Tryz.f97, eL, e1, e2, w2, e3]
  exact fin k3 _ ⟨3, _, ⟨_, _⟩⟩ R3 (by omega) ((c1.pp c2).pp c3) _ rfl
 have y3' : ¬ (v1 : Int) = 3 := by omega
 by_cases y4 : v1 = 4
 ·subst y4
  obtain ⟨v4, k4, e4, b4, R4, c4⟩ := pick1 R1 (by omega) (m := 3) (by omega) (by omega)
  simp at e1
  by_cases z : v4 = 0
  ·subst z
   obtain ⟨v5, k5, e5, b5, R5, c5⟩ := pick1 R4 (by omega) (m := cs.length) (by omega) (by omega)
   obtain ⟨v6, k6, e6, b6, R6, c6⟩ := pick1 R5 (by omega) (m := 3) (by omega) (by omega)
   have w5 : IntKind.i64.wrap (1 + (v5 : Int)) = 1 + (v5 : Int) := wrapS (by omega) (by omega)
   simp at e4
   simp [Tryz.f97, eL, e1, e4, e5, w5, e6]
   exact fin k6 _ ⟨4, _, ⟨2, _⟩⟩ R6 (by omega) (((c1.pp c4).pp c5).pp c6) _ rfl
  ·have z' : ¬ (v4 : Int) = 0 := by omega
   simp [Tryz.f97, eL, e1, e4, z, z']
   exact fin k4 _ ⟨1, 0, ⟨0, 0⟩⟩ R4 (by omega) (c1.pp c4) _ rfl
 have y4' : ¬ (v1 : Int) = 4 := by omega
 by_cases y5 : v1 = 5
 ·subst y5
  obtain ⟨v5, k5, e5, b5, R5, c5⟩ := pick1 R1 (by omega) (m := (cs.length : Int) + 1) (by omega) (by omega)
  obtain ⟨v6, k6, e6, b6, R6, c6⟩ := pick1 R5 (by omega) (m := 5) (by omega) (by omega)
  have w5 : IntKind.i64.wrap (1 + (v5 : Int)) = 1 + (v5 : Int) := wrapS (by omega) (by omega)
  have w6 : IntKind.i64.wrap ((cs.length : Int) + 1) = (cs.length : Int) + 1 := wrapS (by omega) (by omega)
  simp at e1
  simp [Tryz.f97, eL, e1, w6, e5, w5, e6]
  exact fin k6 _ ⟨3, _, ⟨1, _⟩⟩ R6 (by omega) ((c1.pp c5).pp c6) _ rfl
 have y5' : ¬ (v1 : Int) = 5 := by omega
 simp [Tryz.f97, eL, e1, y0, y0', y1, y1', y2, y2', y3, y3', y4, y4', y5, y5']
 exact fin k1 _ ⟨1, 0, ⟨0, 0⟩⟩ R1 (by omega) c1 _ rfl
end Go.Proofs.YtmkiojlebjknlaaGreat

/-
 THE LAWS' FUNCTIONS THAT MARK AND FIND MARKS, in lists: what they answer.
-/
set_option maxRecDepth 8000
namespace Go.Proofs.YtmkiojlebjknlaaGreat
open Go.AM
variable {h : H} {s : Cell}
set_option maxRecDepth 8000
end Go.Proofs.YtmkiojlebjknlaaGreat

/-
 THE LAWS' FUNCTIONS THAT MARK AND FIND MARKS, in runs and worlds: what they answer.
-/
set_option maxRecDepth 8000
namespace Go.Proofs.YtmkiojlebjknlaaGreat
open Go.AM
variable {h : H} {lo : Nat} {w : PWorld} {c : WorldC} {st cs : List RunC}
def sizeR (r : PRun) : Int := 9 + 2 * r.slots.length + 2 * r.mail.length + r.links.length + r.watched.length
def sizeTo (rs : List PRun) : Nat → Int
 | 0 => 0
 | i + 1 => sizeTo rs i + sizeR (rs[i]?.getD default)
theorem sizeTo_succ {rs : List PRun} {i : Nat} (hi : i < rs.length) : sizeTo rs (i + 1) = sizeTo rs i + sizeR rs[i] := by rw [sizeTo, List.getElem?_eq_getElem hi, Option.getD_some]
def Alike (a b : List PRun) : Prop := a.length = b.length ∧ ∀ i (ha : i < a.length) (hb : i < b.length), a[i].slots.length = b[i].slots.length ∧ a[i].mail.length = b[i].mail.length ∧ a[i].links.length = b[i].links.length ∧ a[i].watched.length = b[i].watched.length
theorem Alike.refl (a : List PRun) : Alike a a := ⟨rfl, fun _ _ _ => ⟨rfl, rfl, rfl, rfl⟩⟩
theorem Alike.size {a b : List PRun} (h : Alike a b) : ∀ i, i ≤ a.length → sizeTo a i = sizeTo b i
 | 0, _ => rfl
 | i + 1, hi => by
  have hb : i < b.length := by have := h.1; omega
  obtain ⟨x, y, z, t⟩ := h.2 i hi hb
  rw [sizeTo_succ hi, sizeTo_succ hb, h.size i (by omega), sizeR, sizeR, x, y, z, t]
theorem Alike.set {a b : List PRun} (h : Alike a b) {i : Nat} (hi : i < b.length) {r : PRun} (hr : r.slots.length = b[i].slots.length ∧ r.mail.length = b[i].mail.length ∧ r.links.length = b[i].links.length ∧ r.watched.length = b[i].watched.length) : Alike (a.set i r) b := by
 refine ⟨by simp [h.1], fun j ha hb => ?_⟩
 by_cases e : i = j
 ·subst e; simpa using hr
 ·simpa [List.getElem_set, e] using h.2 j (by simpa using ha) hb
end Go.Proofs.YtmkiojlebjknlaaGreat

/-
 THE LAWS' markRunS: what it answers.
-/
set_option maxRecDepth 8000
namespace Go.Proofs.YtmkiojlebjknlaaGreat
open Go.AM
variable {h h' : H} {lo : Nat} {w : PWorld} {c : WorldC} {st cs : List RunC} {rs : List PRun} {r : PRun} {c1 s0 s1 : RunC} {i : Nat}
theorem WorldV.runAt (hV : WorldV lo h { w with runs := rs.set i r } c st (cs.set i c1)) (hi : i < rs.length) : RunR h r c1 := by
 have := hV.each i (by simpa using hi)
 simpa only [List.getElem_set_self] using this
end Go.Proofs.YtmkiojlebjknlaaGreat

/-
 THE LAWS' heldRunS, markWorld, heldWorld: what they answer.
-/
set_option maxRecDepth 8000
namespace Go.Proofs.YtmkiojlebjknlaaGreat
open Go.AM
variable {h h' : H} {lo : Nat} {w : PWorld} {c : WorldC} {st cs : List RunC} {rs : List PRun} {s : Cell}
end Go.Proofs.YtmkiojlebjknlaaGreat

/-
 THE LAWS' markWorld, heldWorld: what they answer.
-/
set_option maxRecDepth 8000
namespace Go.Proofs.YtmkiojlebjknlaaGreat
open Go.AM
variable {h h' : H} {lo : Nat} {w : PWorld} {c : WorldC} {st cs : List RunC} {rs : List PRun} {s : Cell}
end Go.Proofs.YtmkiojlebjknlaaGreat

/-
 A WORLD THAT OWNS ITS BLOCKS, part by part.
-/
set_option maxRecDepth 8000
namespace Go.Proofs.YtmkiojlebjknlaaGreat
open Go.AM
variable {h h' : H} {lo : Nat} {w : PWorld} {c : WorldC} {st cs : List RunC}
theorem part_key {k : Key} {i : Nat} {f : Fin 4} (hk : keyOf k = some (i, f)) : part c cs k = match cs[i]? with | some r => rpart r f | none => .nils := by
 cases k with
 | code => simp [keyOf] at hk
 | runs => simp [keyOf] at hk
 | queue => simp [keyOf] at hk
 | slots a => simp only [keyOf, Option.some.injEq, Prod.mk.injEq] at hk; obtain ⟨rfl, rfl⟩ := hk; simp only [part, fld]; cases cs[a]? <;> rfl
 | mail a => simp only [keyOf, Option.some.injEq, Prod.mk.injEq] at hk; obtain ⟨rfl, rfl⟩ := hk; simp only [part, fld]; cases cs[a]? <;> rfl
 | links a => simp only [keyOf, Option.some.injEq, Prod.mk.injEq] at hk; obtain ⟨rfl, rfl⟩ := hk; simp only [part, fld]; cases cs[a]? <;> rfl
 | watched a => simp only [keyOf, Option.some.injEq, Prod.mk.injEq] at hk; obtain ⟨rfl, rfl⟩ := hk; simp only [part, fld]; cases cs[a]? <;> rfl
theorem key_none {k : Key} (hk : keyOf k = none) : k = .code ∨ k = .runs ∨ k = .queue := by cases k <;> simp [keyOf] at hk ⊢
theorem key_inj {k k' : Key} {x : Nat × Fin 4} (h : keyOf k = some x) (h' : keyOf k' = some x) : k = k' := by
 cases k <;> simp [keyOf] at h <;> subst h <;> cases k' <;> simp [keyOf] at h' ⊢ <;> omega
end Go.Proofs.YtmkiojlebjknlaaGreat

/-
 THE LAW FnExactTurnTick, in the abstract machine: it answers true.
-/
set_option maxRecDepth 8000
namespace Go.Proofs.YtmkiojlebjknlaaGreat
open Go.AM
variable {h : H}
theorem Alike.trans {a b c : List PRun} (h : Alike a b) (g : Alike b c) : Alike a c := by
 refine ⟨h.1.trans g.1, fun i ha hc => ?_⟩
 have hb : i < b.length := by have := h.1; omega
 obtain ⟨x, y, z, t⟩ := h.2 i ha hb
 obtain ⟨x2, y2, z2, t2⟩ := g.2 i hb hc
 exact ⟨x.trans x2, y.trans y2, z.trans z2, t.trans t2⟩
theorem StepV.low {p q : Key → Cell} {h1 h2 : H} (s : StepV h1 p h2 q) {lo : Nat} (o : OwnK lo h1 p) {w : PWorld} {c : WorldC} {cs : List RunC} {lo' : Nat} {hh : H} (v : WorldV lo' h1 w c cs cs) (v0 : WorldV lo' hh w c cs cs) (hl : hh.length ≤ lo) : WorldV lo' h2 w c cs cs :=
 v.chg s.chg fun id ⟨k, hid⟩ ho => by have := v0.own.lt id hid; have := o.owned_ge id ho; omega
end Go.Proofs.YtmkiojlebjknlaaGreat
