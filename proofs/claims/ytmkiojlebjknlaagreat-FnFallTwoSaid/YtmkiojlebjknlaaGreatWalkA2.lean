/-
  What functions of the seat answer, each proved once; each under the condition that cells bear what it is given, as its statement says.
-/
import Derived.Test.YtmkiojlebjknlaaGreatWalkA1
set_option linter.all false
/-
 PLAIN: what is full at each step, by passes over all steps until nothing changes.
-/
set_option maxRecDepth 8000
namespace Go.Proofs.YtmkiojlebjknlaaGreat
open Go.AM
def wt (x : Int) : Nat := if x < 0 then 5 else (if has x 0 then 1 else 0) + (if has x 1 then 1 else 0) + (if has x 2 then 1 else 0) + (if has x 3 then 1 else 0)
def wts (f : List Int) : Nat := (f.map wt).sum
theorem both_wt_fin : ∀ x : Fin 17, ∀ b : Fin 16, both ((x.val : Int) - 1) (b.val : Int) = (x.val : Int) - 1 ∨ wt (both ((x.val : Int) - 1) (b.val : Int)) < wt ((x.val : Int) - 1) := by decide +kernel
theorem both_wt {x b : Int} (hx : -1 ≤ x) (hx' : x ≤ 15) (hb : 0 ≤ b) (hb' : b ≤ 15) : both x b = x ∨ wt (both x b) < wt x := by
 have := both_wt_fin ⟨(x + 1).toNat, by omega⟩ ⟨b.toNat, by omega⟩
 have e1 : (((x + 1).toNat : Nat) : Int) - 1 = x := by omega
 have e2 : ((b.toNat : Nat) : Int) = b := by omega
 simpa only [e1, e2] using this
theorem wts_set : ∀ (f : List Int) (i : Nat) (hi : i < f.length) (v : Int), wts (f.set i v) + wt f[i] = wts f + wt v
 | x :: f, 0, _, v => by simp [wts]; omega
 | x :: f, i + 1, hi, v => by
  have := wts_set f i (by simpa using hi) v
  simp [wts] at this ⊢; omega
def Dec (f g : List Int) : Prop := g = f ∨ wts g < wts f
theorem Dec.refl (f : List Int) : Dec f f := .inl rfl
theorem Dec.trans {f g k : List Int} (a : Dec f g) (b : Dec g k) : Dec f k := by
 rcases a with rfl | a
 ·exact b
 ·rcases b with rfl | b
  ·exact .inr a
  ·exact .inr (by omega)
theorem Dec.ne {f g k : List Int} (a : Dec f g) (b : Dec g k) : k ≠ f ↔ g ≠ f ∨ k ≠ g := by
 constructor
 ·intro h
  by_cases e : g = f
  ·exact .inr (e ▸ h)
  ·exact .inl e
 ·intro h e
  subst e
  rcases a with rfl | a
  ·rcases h with h | h <;> exact h rfl
  ·rcases b with rfl | b <;> omega
theorem mergeF_dec {f : List Int} {n : Nat} {b : Int} (hf : BitsOk f) (hb : 0 ≤ b) (hb' : b ≤ 15) : Dec f (mergeF f n b) := by
 by_cases hn : n < f.length
 ·have hx := hf f[n] (List.getElem_mem hn)
  have e := wts_set f n hn (both f[n] b)
  simp only [mergeF, List.getElem?_eq_getElem hn, Option.getD_some]
  rcases both_wt hx.1 hx.2 hb hb' with h | h
  ·left; rw [h]; simp
  ·right; omega
 ·left; unfold mergeF; rw [List.set_eq_of_length_le (by omega)]
theorem goesTo_range {o : POp} {x b : Int} (h0 : 0 ≤ x) (h1 : x ≤ 15) (h : goesTo o x = some b) : 0 ≤ b ∧ b ≤ 15 := by
 unfold goesTo at h
 split at h
 ·cases h; omega
 ·split at h
  ·cases h; exact ⟨h0, h1⟩
  ·cases h
theorem goF_props {o : POp} {f : List Int} {x : Int} (hf : BitsOk f) (h0 : 0 ≤ x) (h1 : x ≤ 15) : BitsOk (goF o f x) ∧ (goF o f x).length = f.length ∧ Dec f (goF o f x) := by
 unfold goF
 split
 ·rename_i b hb
  have := goesTo_range h0 h1 hb
  exact ⟨mergeF_ok hf this.1 this.2, mergeF_length, mergeF_dec hf this.1 this.2⟩
 ·exact ⟨hf, rfl, Dec.refl _⟩
theorem onward_range {o : POp} {x : Int} (ho : opOk o = true) (h0 : 0 ≤ x) (h1 : x ≤ 15) : 0 ≤ onward o x ∧ onward o x ≤ 15 := by
 unfold onward
 split
 ·rename_i hk
  refine withB_range h0 h1 ?_ ?_ <;>
  ·simp only [opOk, fillsK, hasR, Bool.and_eq_true, decide_eq_true_eq] at ho hk
   obtain ⟨⟨⟨⟨_, hr⟩, _⟩, _⟩, _⟩ := ho
   rw [if_pos (by omega)] at hr
   simp only [decide_eq_true_eq] at hr; omega
 ·exact ⟨h0, h1⟩
theorem fromF_props {o : POp} {f : List Int} {i : Nat} (hf : BitsOk f) (ho : opOk o = true) (h0 : 0 ≤ f[i]?.getD 0) (h1 : f[i]?.getD 0 ≤ 15) :
  BitsOk (fromF o f i) ∧ (fromF o f i).length = f.length ∧ Dec (goF o f (f[i]?.getD 0)) (fromF o f i) := by
 have a := goF_props (o := o) hf h0 h1
 simp only [fromF]
 split
 ·exact ⟨a.1, a.2.1, Dec.refl _⟩
 ·have b := onward_range ho h0 h1
  exact ⟨mergeF_ok a.1 b.1 b.2, by rw [mergeF_length, a.2.1], mergeF_dec a.1 b.1 b.2⟩
def passTo (code : List POp) (f : List Int) : Nat → List Int
 | 0 => f
 | i + 1 => if 0 ≤ (passTo code f i)[i]?.getD 0 then fromF (code[i]?.getD default) (passTo code f i) i else passTo code f i
theorem passTo_props {code : List POp} {f : List Int} (hc : ∀ o ∈ code, opOk o = true) (hf : BitsOk f) (hl : f.length = code.length) : ∀ i, i ≤ code.length → BitsOk (passTo code f i) ∧ (passTo code f i).length = f.length ∧ Dec f (passTo code f i)
 | 0, _ => ⟨hf, rfl, Dec.refl _⟩
 | i + 1, hi => by
  have ih := passTo_props hc hf hl i (by omega)
  simp only [passTo]
  split
  ·rename_i h0
   have hi' : i < (passTo code f i).length := by omega
   have h1 : (passTo code f i)[i]?.getD 0 ≤ 15 := by
    rw [List.getElem?_eq_getElem hi', Option.getD_some]; exact (ih.1 _ (List.getElem_mem hi')).2
   have ho : opOk (code[i]?.getD default) = true := by
    rw [List.getElem?_eq_getElem (show i < code.length by omega), Option.getD_some]; exact hc _ (List.getElem_mem _)
   have a := fromF_props ih.1 ho h0 h1
   exact ⟨a.1, by rw [a.2.1, ih.2.1], (ih.2.2.trans (goF_props ih.1 h0 h1).2.2).trans a.2.2⟩
  ·exact ih
def pass (code : List POp) (f : List Int) : List Int := passTo code f code.length
def fullF (code : List POp) (f : List Int) : List Int := if wts (pass code f) < wts f then fullF code (pass code f) else f
termination_by wts f
def full0 (n : Nat) : List Int := (List.replicate n (-1)).set 0 1
def fullR (code : List POp) : List Int := fullF code (full0 code.length)
theorem full0_ok (n : Nat) : BitsOk (full0 n) := by
 intro x hx
 rcases List.mem_or_eq_of_mem_set hx with hx | rfl
 ·rw [List.eq_of_mem_replicate hx]; omega
 ·omega
theorem fullF_step {code : List POp} {f : List Int} (h : wts (pass code f) < wts f) : fullF code f = fullF code (pass code f) := by rw [fullF, if_pos h]
theorem fullF_stop {code : List POp} {f : List Int} (h : pass code f = f) : fullF code f = f := by rw [fullF, if_neg (by rw [h]; omega)]
theorem passTo_fix {code : List POp} {f : List Int} (hc : ∀ o ∈ code, opOk o = true) (hf : BitsOk f) (hl : f.length = code.length) (h : pass code f = f) : ∀ i, i ≤ code.length → passTo code f i = f := by
 intro i hi
 have key : ∀ k, i + k ≤ code.length → Dec (passTo code f i) (passTo code f (i + k)) := by
  intro k
  induction k with
  | zero => intro _; exact Dec.refl _
  | succ k ih =>
   intro hk
   refine (ih (by omega)).trans ?_
   have a := passTo_props hc hf hl (i + k) (by omega)
   rw [← Nat.add_assoc]
   simp only [passTo]
   split
   ·rename_i h0
    have hi' : i + k < (passTo code f (i + k)).length := by omega
    have h1 : (passTo code f (i + k))[i + k]?.getD 0 ≤ 15 := by
     rw [List.getElem?_eq_getElem hi', Option.getD_some]; exact (a.1 _ (List.getElem_mem hi')).2
    have ho : opOk (code[i + k]?.getD default) = true := by
     rw [List.getElem?_eq_getElem (show i + k < code.length by omega), Option.getD_some]; exact hc _ (List.getElem_mem _)
    exact (goF_props a.1 h0 h1).2.2.trans (fromF_props a.1 ho h0 h1).2.2
   ·exact Dec.refl _
 have a := (passTo_props hc hf hl i hi).2.2
 have b := key (code.length - i) (by omega)
 rw [show i + (code.length - i) = code.length by omega] at b
 change Dec _ (pass code f) at b
 rw [h] at b
 rcases a with a | a
 ·exact a
 ·rcases b with b | b
  ·exact b.symm
  ·omega
theorem fullF_props {code : List POp} (hc : ∀ o ∈ code, opOk o = true) : ∀ (n : Nat) (f : List Int), wts f < n → BitsOk f → f.length = code.length → BitsOk (fullF code f) ∧ (fullF code f).length = code.length ∧ pass code (fullF code f) = fullF code f ∧ Dec f (fullF code f) := by
 intro n
 induction n with
 | zero => intro f h; omega
 | succ n ih =>
  intro f hn hf hl
  have a := passTo_props hc hf hl code.length (Nat.le_refl _)
  by_cases h : wts (pass code f) < wts f
  ·rw [fullF_step h]
   have b := ih (pass code f) (by omega) a.1 (by rw [← hl]; exact a.2.1)
   exact ⟨b.1, b.2.1, b.2.2.1, a.2.2.trans b.2.2.2⟩
  ·have e : pass code f = f := by
    rcases a.2.2 with e | e
    ·exact e
    ·exact absurd e h
   rw [fullF_stop e]
   exact ⟨hf, hl, e, Dec.refl _⟩
theorem fullR_props {code : List POp} (hc : ∀ o ∈ code, opOk o = true) : BitsOk (fullR code) ∧ (fullR code).length = code.length ∧ pass code (fullR code) = fullR code := by
 have := fullF_props hc _ (full0 code.length) (Nat.lt_succ_self _) (full0_ok _) (by simp [full0])
 exact ⟨this.1, this.2.1, this.2.2.1⟩
end Go.Proofs.YtmkiojlebjknlaaGreat

/-
 THE REFERENCE'S l3Full: it answers what is full at each step.
-/
set_option maxRecDepth 8000
namespace Go.Proofs.YtmkiojlebjknlaaGreat
open Go.AM
variable {h : H}
theorem c_l3From' {id : Nat} {s : Cell} {code : List POp} {f : List Int} {i : Nat} (hc : Sl h s 6 encO code) (hg : h.get id = some (blkI f)) (hf : BitsOk f) (hi : i < code.length) (hl : f.length = code.length)
  (ho : ∀ o ∈ code, opOk o = true) (h0 : 0 ≤ f[i]'(by omega)) :
  Dz.den 82 [.c s, .c (.sl id 0 f.length none), .c (.int .i64 i)] h = some (.c (.bool (tt (fromF (code[i]?.getD default) f i ≠ f))), h.set id (some (blkI (fromF (code[i]?.getD default) f i)))) := by
 have ho' := ho _ (List.getElem_mem hi)
 obtain ⟨⟨r, h'⟩, e, e1, b, e2, e3, e4⟩ := c_l3From hc hg hf hi hl ho' h0
 simp only at e1 e2
 rw [e, e1, e2]
 have hfi : i < f.length := by omega
 have hfx : f[i]?.getD 0 = f[i] := by simp [hfi]
 have hx := (hf _ (List.getElem_mem hfi)).2
 have d1 := (goF_props (o := code[i]) hf h0 hx).2.2
 have d2 := (fromF_props (o := code[i]) (i := i) hf ho' (by rw [hfx]; exact h0) (by rw [hfx]; exact hx)).2.2
 rw [hfx] at d2
 have ec : code[i]?.getD default = code[i] := by simp [hi]
 have eb : b = tt (fromF code[i] f i ≠ f) := by
  rw [tt_eq]
  constructor
  ·intro hb; exact (d1.ne d2).2 (e4 hb)
  ·intro hb
   cases b
   ·exact absurd (e3 rfl) hb
   ·rfl
 rw [eb, ec]
theorem cells_blkI {id : Nat} {f : List Int} {n : Nat} (hg : h.get id = some (blkI f)) (hn : n < f.length) : h.cellsAt id n 0 1 = some [.int .i64 (f[n]?.getD 0)] := by
 simp [H.cellsAt, hg, hn]
theorem write_blkI {id : Nat} {f : List Int} {n : Nat} {x : Int} (hg : h.get id = some (blkI f)) (hn : n < f.length) : h.write id n 0 [.int .i64 x] = some (h.set id (some (blkI (f.set n x)))) := by
 simp [H.write, hg, hn, blkI, List.map_set]
def row0 (n : Nat) : Nat → List Int
 | 0 => List.replicate n 0
 | i + 1 => (row0 n i).set (i + 1) (-1)
@[simp] theorem row0_length (n : Nat) : ∀ i, (row0 n i).length = n
 | 0 => by simp [row0]
 | i + 1 => by simp [row0, row0_length n i]
theorem row0_get (n : Nat) : ∀ i k, k < n → (row0 n i)[k]? = some (if 0 < k ∧ k ≤ i then -1 else 0)
 | 0, k, hk => by simp [row0, hk]; omega
 | i + 1, k, hk => by
  simp only [row0, List.getElem?_set, row0_length]
  by_cases e : i + 1 = k
  ·subst e; simp [hk]
  ·rw [if_neg e, row0_get n i k hk]; congr 1; split <;> split <;> first | rfl | omega
theorem row0_full (n : Nat) : (row0 n (n - 1)).set 0 1 = full0 n := by
 apply List.ext_getElem?
 intro k
 by_cases hk : k < n
 ·simp only [full0, List.getElem?_set, row0_length, List.length_replicate, row0_get n _ k hk, List.getElem?_replicate, hk, ↓reduceIte]
  split
  ·rfl
  ·rw [if_pos (by omega)]
 ·rw [List.getElem?_eq_none (by simp; omega), List.getElem?_eq_none (by simp [full0]; omega)]
theorem full0_length (n : Nat) : (full0 n).length = n := by simp [full0]
set_option maxHeartbeats 1000000 in
theorem c_l3Full {s : Cell} {code : List POp} (hc : Sl h s 6 encO code) (hok : ∀ o ∈ code, opOk o = true) (h0 : 0 < code.length) (hm : code.length ≤ 16) :
  Dz.den 44 [.c s] h = some (.c (.sl h.length 0 code.length none), h.push (blkI (fullR code))) := by
 rw [← Wp_eq]
 refine den_wp rfl Tryz.func44 rfl ?_
 have hl : (code.length : Int) ≤ 4294967296 := by omega
 simp [Tryz.f44, hc.lenA, hl]
 have hp0 : (h.push ⟨false, 1, List.replicate code.length [.int .i64 0]⟩) = h.push (blkI (row0 code.length 0)) := by simp [blkI, row0]
 rw [hp0]
 have hP : ∀ f, Sl (h.push (blkI f)) s 6 encO code := fun f => hc.push _
 have hG : ∀ f, (h.push (blkI f)).get h.length = some (blkI f) := fun f => get_push_self
 generalize hn : code.length = n at *
 have W : ∀ f m x, m < List.length f → (h.push (blkI f)).write h.length m 0 [.int .i64 x] = some (h.push (blkI (f.set m x))) := fun f m x hm => by rw [write_blkI (hG f) hm, set_push]
 have C : ∀ f m, m < List.length f → (h.push (blkI f)).cellsAt h.length m 0 1 = some [.int .i64 (f[m]?.getD 0)] := fun f m hm => cells_blkI (hG f) hm
 refine count_wp (n - 1) (fun i => ([.c s, .c .nils, .c (.sl h.length 0 n none), .c (ci (i + 1 : Nat))], [], [], h.push (blkI (row0 n i)))) (fun i => True) rfl trivial ?_ ?_
 ·intro i hi _
  have hi' : i + 1 < n := by omega
  have hi2 : (i : Int) + 1 < n := by omega
  have hi3 : 0 ≤ (i : Int) + 1 := by omega
  have hw := wrap_succ (i := i + 1) (by simp [sMost]; omega)
  rw [Wp_body]
  simp at hw
  simp [hi', hi2, hi3, W, hw, row0]
 ·intro _
  have e : ¬ (((n - 1 : Nat) : Int) + 1 < n) := by omega
  rw [Wp_body]
  simp [e, W, h0, row0_full]
  refine loop_wp (σ := List Int × Bool) (fun s1 => ([.c s, .c .nils, .c (.sl h.length 0 n none), .c (.bool s1.2)], [], [], h.push (blkI s1.1)))
   (fun s1 => BitsOk s1.1 ∧ s1.1.length = n ∧ fullF code s1.1 = fullR code ∧ (s1.2 = false → s1.1 = fullR code)) (fun s1 => wts s1.1 + if s1.2 then 1 else 0) (full0 n, true) rfl ⟨full0_ok _, full0_length _, by rw [fullR, hn], by simp⟩ ?_
  rintro ⟨f, mv⟩ ⟨p1, p2, p3, p4⟩
  simp only at p1 p2 p3 p4 ⊢
  rw [Wp_body]
  cases mv
  ·simp [p4]
  have q := fun i hi => passTo_props (code := code) (f := f) hok p1 (by omega) i hi
  simp
  refine count_wp n (fun i => ([.c s, .c .nils, .c (.sl h.length 0 n none), .c (.bool (tt (passTo code f i ≠ f))), .c (ci (i : Nat))], [], [], h.push (blkI (passTo code f i)))) (fun i => True) (by simp [passTo]) trivial ?_ ?_
  ·intro i hi _
   obtain ⟨q1, q2, q3⟩ := q i (by omega)
   have hig : i < (passTo code f i).length := by omega
   have e := fun (h0 : 0 ≤ (passTo code f i)[i]) => c_l3From' (i := i) (hP (passTo code f i)) (hG _) q1 (by omega) (by omega) hok h0
   have q' := q (i + 1) (by omega)
   simp only [passTo] at q'
   rw [Wp_body]
   by_cases h0 : 0 ≤ (passTo code f i)[i]
   ·have e := e h0
    rw [q2, p2, set_push] at e
    simp [(hP (passTo code f i)).lenA, hn, hi, C, hig, h0, e, passTo, wrap_succ (show i < sMost by simp [sMost]; omega)]
    have hx : (passTo code f i)[i]?.getD 0 = (passTo code f i)[i] := by simp [hig]
    have hx' := (q1 _ (List.getElem_mem hig)).2
    have ho' := hok _ (List.getElem_mem (show i < code.length by omega))
    have d1 := (goF_props (o := code[i]) q1 h0 hx').2.2
    have d2 := (fromF_props (o := code[i]) (i := i) q1 ho' (by rw [hx]; exact h0) (by rw [hx]; exact hx')).2.2
    rw [hx] at d2
    have d := q3.ne (d1.trans d2)
    exact ⟨fun a => d.2 (.inr a), fun a => by rw [a]⟩
   ·simp [(hP (passTo code f i)).lenA, hn, hi, C, hig, h0, passTo, wrap_succ (show i < sMost by simp [sMost]; omega)]
  ·intro _
   rw [Wp_body]
   simp [(hP (passTo code f n)).lenA, hn]
   obtain ⟨q1, q2, q3⟩ := q n (by omega)
   have hps : passTo code f n = pass code f := by rw [pass, hn]
   rw [hps] at q1 q2 q3 ⊢
   refine ⟨pass code f, ?_⟩
   by_cases e : pass code f = f
   ·left
    have := fullF_stop e
    refine ⟨⟨e, rfl⟩, ⟨q1, by omega, by rw [e, p3], by rw [e, ← p3, this]⟩, by rw [e]; omega⟩
   ·right
    have hd : wts (pass code f) < wts f := by
     rcases q3 with q3 | q3
     ·exact absurd q3 e
     ·exact q3
    exact ⟨⟨e, rfl⟩, ⟨q1, by omega, by rw [← p3, fullF_step hd]⟩, hd⟩
end Go.Proofs.YtmkiojlebjknlaaGreat

/-
 THE REFERENCE'S CodeSafe: what it answers.
-/
set_option maxRecDepth 8000
namespace Go.Proofs.YtmkiojlebjknlaaGreat
open Go.AM
variable {h : H}
theorem codeOk_len {code : List POp} (h : codeOk code = true) : 1 ≤ code.length ∧ code.length ≤ 16 := by
 simp only [codeOk, Bool.and_eq_true, decide_eq_true_eq] at h; exact h.1
theorem codeOk_op {code : List POp} (h : codeOk code = true) : ∀ o ∈ code, opOk o = true := by
 intro o ho
 simp only [codeOk, Bool.and_eq_true, List.all_eq_true] at h
 exact (h.2 o ho).1
def stepSafe (n : Nat) (x : Int) (i : Nat) (o : POp) : Prop := 0 ≤ x → (∀ u ∈ uses o, has x u = true) ∧ (i + 1 = n → o.kind = 9 ∨ o.kind = 14)
structure CodeSafe (code : List POp) : Prop where
 ok : codeOk code = true
 safe : ∀ i (hi : i < code.length), stepSafe code.length ((fullR code)[i]?.getD 0) i code[i]
theorem uses_range {o : POp} (ho : opOk o = true) : ∀ u ∈ uses o, 0 ≤ u ∧ u ≤ 3 := by
 obtain ⟨k, r, s, t, v⟩ := o
 simp only [opOk, Bool.and_eq_true, decide_eq_true_eq] at ho
 obtain ⟨⟨⟨⟨hk14, hr⟩, hs⟩, _⟩, _⟩ := ho
 rcases kinds k with hk | hk | hk | hk | hk | hk | hk | hk | hk | hk | hk | hk | hk | hk | hk
 all_goals (try subst hk)
 all_goals simp [uses, hasR, hasS] at hr hs ⊢
 all_goals grind
set_option maxHeartbeats 1000000 in
theorem c_CodeSafe {s : Cell} {code : List POp} (hc : Sl h s 6 encO code) : Dz.den 42 [.c s] h = some (.c (.bool (tt (CodeSafe code))), h) := by
 refine den_plain rfl Tryz.func42 rfl rfl ?_
 by_cases hok : codeOk code = true
 rotate_left
 ·have kk : ¬ CodeSafe code := fun k => hok k.ok
  simp [Tryz.f42, c_CodeOk hc, hok, kk]
 have hl := codeOk_len hok
 have hop := codeOk_op hok
 obtain ⟨p1, p2, p3⟩ := fullR_props hop
 simp [Tryz.f42, c_CodeOk hc, hok, c_l3Full hc hop (by omega) hl.2]
 have hn : ∃ n, code.length = n := ⟨_, rfl⟩
 obtain ⟨n, hn⟩ := hn
 rw [hn]
 refine count_wpG (σ := H) n (fun i g => ([.c s, .c (.bool false), .c (.sl h.length 0 n none), .c (ci (i : Nat))], [], [], g)) (fun i g => Ext (h.push (blkI (fullR code))) g ∧ AllIx code i (fun j o => stepSafe n ((fullR code)[j]?.getD 0) j o)) (h.push (blkI (fullR code))) rfl ⟨Ext.refl _, by simp⟩ ?_ ?_
 ·rintro i g hi ⟨hx, hP⟩
  have hc' := (hc.push (blkI (fullR code))).ext hx
  have hg := hx.get get_push_self
  have hi' : i < code.length := by omega
  have hif : i < (fullR code).length := by omega
  have C := cells_blkI hg hif
  have hb := p1 _ (List.getElem_mem hif)
  have hir : (fullR code)[i]?.getD 0 = (fullR code)[i] := by simp [hif]
  rw [Wp_body]
  by_cases hneg : (fullR code)[i] < 0
  ·simp [hc'.lenA, hn, hi, hg, C, hif, hneg, wrap_succ (show i < sMost by simp [sMost]; omega), allIx_succ hi', hP, hx]
   exact fun h0 => by omega
  have eu := c_l2Uses (h := g) code[i]
  simp only [encO] at eu
  have hu := uses_range (hop _ (List.getElem_mem hi'))
  simp [hc'.lenA, hn, hi, hg, C, hif, hneg, ixA_nat hc', hc'.at, hi', eu, hir]
  have hsu : Sl (g.push ⟨false, 1, (uses code[i]).map encI⟩) (.sl g.length 0 (uses code[i]).length none) 1 encI (uses code[i]) := Sl.new (by simp) (by unfold uses; split <;> (try split) <;> (try split) <;> simp [sMost])
  have hc2 := hc'.push ⟨false, 1, (uses code[i]).map encI⟩
  have hg2 : (g.push ⟨false, 1, (uses code[i]).map encI⟩).get h.length = some (blkI (fullR code)) := get_push_some hg
  have C2 := cells_blkI hg2 hif
  generalize hk : g.push ⟨false, 1, (uses code[i]).map encI⟩ = k at *
  have hxk : Ext (h.push (blkI (fullR code))) k := hk ▸ hx.trans (Ext.push _ _)
  generalize hus : uses code[i] = us at *
  refine count_wp us.length (fun j => ([.c s, .c (.bool false), .c (.sl h.length 0 n none), .c (ci (i : Nat)), .c (.sl g.length 0 us.length none), .c (ci (j : Nat))], [], [], k)) (fun j => AllTo us j fun u => has (fullR code)[i] u = true) (by simp) (by simp) ?_ ?_
  ·intro j hj hA
   have hr := hu us[j] (List.getElem_mem hj)
   have hh := c_l3Has (h := k) (fullR code)[i] us[j] (by omega) hb.2 hr.1 hr.2
   rw [Wp_body]
   simp [hsu.lenA, ixA_nat hsu, hsu.at, hj, hn, hi, hg2, C2, hif, hir, hh, wrap_succ (hsu.lt hj), allTo_succ hj, hA]
   refine ⟨by unfold LexOk; kernel_rfl, ?_⟩
   refine fun e => ⟨fun ks => ?_, (Ext.trans (Ext.push h _) hxk).2⟩
   have := (ks.safe i hi' (by rw [hir]; omega)).1 us[j] (by rw [hus]; exact List.getElem_mem hj)
   rw [hir, e] at this; cases this
  ·intro hA
   rw [Wp_body]
   simp [hsu.lenA, hc2.lenA, hn, hi, ixA_nat hc2, hc2.at, hi', wrap_succ (show i < sMost by simp [sMost]; omega)]
   rw [allTo_len] at hA
   have fin : (i + 1 = n → code[i].kind = 9 ∨ code[i].kind = 14) → Ext (h.push (blkI (fullR code))) k ∧ AllIx code (i + 1) fun j o => stepSafe n ((fullR code)[j]?.getD 0) j o := by
    intro hl
    refine ⟨hxk, (allIx_succ hi').2 ⟨hP, fun _ => ⟨?_, hl⟩⟩⟩
    rw [hus, hir]; exact hA
   refine ⟨fun e1 => ⟨fun e2 => fin fun _ => .inl e2, fun e2 => ⟨fun e3 => fin fun _ => .inr e3, fun e3 => ⟨fun ks => ?_, (Ext.trans (Ext.push h _) hxk).2⟩⟩⟩, fun e1 => fin fun e => absurd e (by omega)⟩
   rcases (ks.safe i hi' (by rw [hir]; omega)).2 (by omega) with e | e
   ·exact e2 e
   ·exact e3 e
 ·rintro g ⟨hx, hP⟩
  have hc' := (hc.push (blkI (fullR code))).ext hx
  rw [Wp_body]
  simp [hc'.lenA, hn]
  refine ⟨⟨hok, ?_⟩, (Ext.trans (Ext.push h _) hx).2⟩
  subst hn
  exact allIx_len.1 hP
end Go.Proofs.YtmkiojlebjknlaaGreat

/-
 THE REFERENCE'S RunOk: what it answers.
-/
set_option maxRecDepth 8000
namespace Go.Proofs.YtmkiojlebjknlaaGreat
open Go.AM
variable {h : H}
structure RunOk (r : PRun) : Prop where
 id : 1 ≤ r.id ∧ r.id ≤ 6
 at_ : 0 ≤ r.at_ ∧ r.at_ ≤ 15
 len : r.slots.length = 4
 full : 0 ≤ r.full ∧ r.full ≤ 15
 room : r.mail.length ≤ 12
 state : 1 ≤ r.state ∧ r.state ≤ 3
 due : -1 ≤ r.due ∧ r.due ≤ 400
 turns : 0 ≤ r.turns ∧ r.turns ≤ 9999
 slots : ∀ i (hi : i < r.slots.length), valOk r.slots[i] = true ∧ (has r.full i = false → r.slots[i] = ⟨0, 0⟩)
 mail : ∀ v ∈ r.mail, valOk v = true
 links : IdsOk r.links r.id
 watched : IdsOk r.watched r.id
 why : valOk r.why = true
 ended : r.state = 3 → r.mail = [] ∧ r.links = [] ∧ r.watched = []
 live : r.state ≠ 3 → r.why = ⟨0, 0⟩
set_option maxHeartbeats 1000000 in
set_option maxRecDepth 4000 in
theorem c_RunOk {c : RunC} {r : PRun} (hr : RunR h r c) : Dz.den 83 [.g (encR c)] h = some (.c (.bool (tt (RunOk r))), h) := by
 refine den_plain rfl Tryz.func83 rfl rfl ?_
 have ls := fun e => hr.slots.lenA (e := e)
 have lm := fun e => hr.mail.lenA (e := e)
 have li := fun e => hr.links.lenA (e := e)
 have lw := fun e => hr.watched.lenA (e := e)
 by_cases h1 : 1 ≤ r.id ∧ r.id ≤ 6
 rotate_left
 ·have kk : ¬ RunOk r := fun k => h1 k.id
  simp [Tryz.f83, an83, kk, hr.id, h1]
 by_cases h2 : 0 ≤ r.at_ ∧ r.at_ ≤ 15
 rotate_left
 ·have kk : ¬ RunOk r := fun k => h2 k.at_
  simp [Tryz.f83, an83, kk, hr.id, h1, hr.at_, h2]
 by_cases h3 : r.slots.length = 4
 rotate_left
 ·have kk : ¬ RunOk r := fun k => h3 k.len
  have h3b : ¬ ((r.slots.length : Int) = 4) := by omega
  simp [Tryz.f83, an83, kk, hr.id, h1, hr.at_, h2, ls, h3, h3b]
 have h3b : (r.slots.length : Int) = 4 := by omega
 by_cases h4 : 0 ≤ r.full ∧ r.full ≤ 15
 rotate_left
 ·have kk : ¬ RunOk r := fun k => h4 k.full
  simp [Tryz.f83, an83, kk, hr.id, h1, hr.at_, h2, ls, h3, h3b, hr.full, h4]
 by_cases h5 : r.mail.length ≤ 12
 rotate_left
 ·have kk : ¬ RunOk r := fun k => h5 k.room
  have h5b : 12 < (r.mail.length : Int) := by omega
  simp [Tryz.f83, an83, kk, hr.id, h1, hr.at_, h2, ls, h3, h3b, hr.full, h4, lm, h5, h5b]
 have h5b : ¬ (12 < (r.mail.length : Int)) := by omega
 by_cases h6 : 1 ≤ r.state ∧ r.state ≤ 3
 rotate_left
 ·have kk : ¬ RunOk r := fun k => h6 k.state
  simp [Tryz.f83, an83, kk, hr.id, h1, hr.at_, h2, ls, h3, h3b, hr.full, h4, lm, h5, h5b, hr.state, h6]
 by_cases h7 : -1 ≤ r.due ∧ r.due ≤ 400
 rotate_left
 ·have kk : ¬ RunOk r := fun k => h7 k.due
  simp [Tryz.f83, an83, kk, hr.id, h1, hr.at_, h2, ls, h3, h3b, hr.full, h4, lm, h5, h5b, hr.state, h6, hr.due, h7]
 by_cases h8 : 0 ≤ r.turns ∧ r.turns ≤ 9999
 rotate_left
 ·have kk : ¬ RunOk r := fun k => h8 k.turns
  simp [Tryz.f83, an83, kk, hr.id, h1, hr.at_, h2, ls, h3, h3b, hr.full, h4, lm, h5, h5b, hr.state, h6, hr.due, h7, hr.turns, h8]
 simp [Tryz.f83, an83, hr.id, h1, hr.at_, h2, ls, h3, h3b, hr.full, h4, lm, h5, h5b, hr.state, h6, hr.due, h7, hr.turns, h8]
 have hS := hr.slots
 have hM := hr.mail
 refine count_wp r.slots.length (fun i => ([.c (.bool false), .c (ci i)], [encR c], [], h)) (fun i => AllIx r.slots i fun j v => valOk v = true ∧ (has r.full j = false → v = ⟨0, 0⟩)) (by simp [hr.id, hr.at_, hr.full, hr.state, hr.due, hr.turns]) (by simp) ?_ ?_
 ·intro i hi hP
  have hh := c_l3Has (h := h) r.full i h4.1 h4.2 (by omega) (by omega)
  rw [Wp_body]
  simp [ls, ixA_nat hS, hS.at, hi, wrap_succ (hS.lt hi), allIx_succ hi, hP, hr.full, hh]
  refine ⟨fun h1 => ⟨fun h2 => ⟨h1, fun h3 => by rw [h2] at h3; cases h3⟩, fun h2 => ⟨fun h3 k => ?_, fun h3 h4 => ⟨h1, fun _ => ?_⟩⟩⟩, fun h1 k => ?_⟩
  ·have := (k.slots i hi).2 h2
   rw [this] at h3; simp at h3
  ·rw [← eta_val r.slots[i], h3, h4]
  ·rw [(k.slots i hi).1] at h1; cases h1
 ·intro hP
  rw [Wp_body]
  simp [ls]
  refine count_wp r.mail.length (fun i => ([.c (.bool false), .c (ci i)], [encR c], [], h)) (fun i => AllTo r.mail i fun v => valOk v = true) (by simp) (by simp) ?_ ?_
  ·intro i hi hP
   rw [Wp_body]
   simp [lm, ixA_nat hM, hM.at, hi, wrap_succ (hM.lt hi), allTo_succ hi, hP]
   exact fun h1 k => by rw [k.mail _ (List.getElem_mem hi)] at h1; cases h1
  ·intro hP2
   rw [Wp_body]
   simp [lm, li, lw, c_l11Ids hr.links, c_l11Ids hr.watched, hr.id, hr.state, hr.why]
   rw [allTo_len] at hP2
   rw [allIx_len] at hP
   refine ⟨fun k1 => ⟨fun k2 => ⟨fun k3 => ⟨fun k4 => ?_, fun k4 => ?_⟩, fun k3 k => ?_⟩, fun k2 k => k2 k.watched⟩, fun k1 k => k1 k.links⟩
   ·have e1 := k1.len
    have e2 := k2.len
    rw [wrap_i64 (x := (r.mail.length : Int) + r.links.length) (by omega) (by omega), wrap_i64 (by omega) (by omega)]
    rw [tt_eq, decide_eq_true_iff]
    constructor
    ·intro e
     have a1 : r.mail = [] := List.length_eq_zero_iff.1 (by omega)
     have a2 : r.links = [] := List.length_eq_zero_iff.1 (by omega)
     have a3 : r.watched = [] := List.length_eq_zero_iff.1 (by omega)
     exact ⟨h1, h2, h3, h4, h5, h6, h7, h8, hP, hP2, k1, k2, k3, fun _ => ⟨a1, a2, a3⟩, fun ne => absurd k4 ne⟩
    ·intro k
     obtain ⟨a1, a2, a3⟩ := k.ended k4
     simp [a1, a2, a3]
   ·rw [tt_eq]
    simp only [Bool.and_eq_true, decide_eq_true_eq]
    constructor
    ·rintro ⟨a1, a2⟩
     exact ⟨h1, h2, h3, h4, h5, h6, h7, h8, hP, hP2, k1, k2, k3, fun e => absurd e k4, fun _ => by rw [← eta_val r.why, a1, a2]⟩
    ·intro k
     have := k.live k4
     simp [this]
   ·rw [k.why] at k3; cases k3
end Go.Proofs.YtmkiojlebjknlaaGreat

/-
 THE REFERENCE'S l12Waiting, l12Linked, l12Run: what they answer.
-/
set_option maxRecDepth 8000
namespace Go.Proofs.YtmkiojlebjknlaaGreat
open Go.AM
variable {h : H}
def WaitsOk (w : PWorld) (r : PRun) : Prop :=
 ((w.code[r.at_.toNat]?.getD default).kind = 7 ∧ r.due = 0 ∨ (w.code[r.at_.toNat]?.getD default).kind = 8 ∧ w.now < r.due) ∧ firstAt (fits (w.code[r.at_.toNat]?.getD default).s) r.mail < 0
theorem c_l12Waiting {c : WorldC} {w : PWorld} {cs : List RunC} {rc : RunC} {r : PRun} (hw : WorldR h w c cs) (hr : RunR h r rc) (h0 : 0 ≤ r.at_) (h1 : r.at_ < w.code.length) :
  Dz.den 84 [.g (encW c), .g (encR rc)] h = some (.c (.bool (tt (WaitsOk w r))), h) := by
 refine den_plain rfl Tryz.func84 rfl rfl ?_
 have hc := hw.code
 obtain ⟨n, hn⟩ : ∃ n : Nat, r.at_ = n := ⟨r.at_.toNat, by omega⟩
 have hn1 : n < w.code.length := by omega
 have e := c_l11First (h := h) (r := r) hr.mail (w.code[n]?.getD default).s
 simp [hn1, hr.at_, hn, hr.due] at e
 simp [Tryz.f84, hr.at_, hn, hn1, ixA_nat hc, hc.at, hr.due, hw.now, e, WaitsOk]
 simp only [tt_eq, decide_eq_true_eq]
 grind
theorem c_l12Linked {c : WorldC} {w : PWorld} {cs : List RunC} {a b : Nat} {ma mb : Int} (hma : ma = a) (hmb : mb = b) (hw : WorldR h w c cs) (ha : a < w.runs.length) (hb : b < w.runs.length) (hl : w.runs.length ≤ 6) :
  Dz.den 46 [.g (encW c), .c (.int .i64 ma), .c (.int .i64 mb)] h = some (.c (.bool (tt (((b : Int) + 1 ∈ w.runs[a].links) ↔ ((a : Int) + 1 ∈ w.runs[b].links)))), h) := by
 refine den_plain rfl Tryz.func46 rfl rfl ?_
 subst hma hmb
 have hS := hw.runs.sl
 have hcl := hw.runs.len
 have ha' : a < cs.length := by omega
 have hb' : b < cs.length := by omega
 have la := c_l11Among (hw.runs.each a ha).links
 have lb := c_l11Among (hw.runs.each b hb).links
 simp [Tryz.f46, ha, hb, ha', hb', ixA_nat hS, hS.at, la, lb, wrap_succ (show a < sMost by simp [sMost]; omega), wrap_succ (show b < sMost by simp [sMost]; omega)]
 refine ⟨by unfold LexOk; kernel_rfl, ?_⟩
 simp only [tt_eq, decide_eq_true_eq]
 grind
def Here (w : PWorld) (k : Int) : Prop := k ≤ w.runs.length ∧ (w.runs[(k - 1).toNat]?.getD default).state ≠ 3
structure RunIn (w : PWorld) (full : List Int) (i : Nat) (r : PRun) : Prop where
 ok : RunOk r
 id : r.id = i + 1
 at_ : r.at_ < w.code.length
 queue : r.id ∈ w.queue ↔ r.state = 1
 wait : r.state = 2 → WaitsOk w r
 others : r.state ≠ 3 → ∀ k ∈ r.links ++ r.watched, Here w k
 full : r.state ≠ 3 → 0 ≤ full[r.at_.toNat]?.getD 0 ∧ both (full[r.at_.toNat]?.getD 0) r.full = full[r.at_.toNat]?.getD 0
set_option maxHeartbeats 2000000 in
set_option maxRecDepth 8000 in
theorem c_l12Run {c : WorldC} {w : PWorld} {cs : List RunC} {i : Nat} {m : Int} {id : Nat} {f : List Int} (hm : m = i) (hw : WorldR h w c cs) (hi : i < w.runs.length) (hl : w.runs.length ≤ 6)
  (hg : h.get id = some (blkI f)) (hf : BitsOk f) (hfl : f.length = w.code.length) :
  Dz.den 45 [.g (encW c), .c (.sl id 0 f.length none), .c (.int .i64 m)] h = some (.c (.bool (tt (RunIn w f i w.runs[i]))), h) := by
 refine den_plain rfl Tryz.func45 rfl rfl ?_
 subst hm
 have hS := hw.runs.sl
 have hcl := hw.runs.len
 have hi' : i < cs.length := by omega
 have hr := hw.runs.each i hi
 generalize hrr : w.runs[i] = r at *
 have ws := wrap_succ (show i < sMost by simp [sMost]; omega)
 simp at ws
 have e1 := c_RunOk hr
 simp [hr.id, hr.at_, hr.full, hr.state, hr.due] at e1
 by_cases h1 : RunOk r
 rotate_left
 ·have kk : ¬ RunIn w f i r := fun k => h1 k.ok
  simp [Tryz.f45, kk, ixA_nat hS, hS.at, hi', hr.id, hr.at_, hr.full, hr.state, hr.due, e1, h1]
  unfold LexOk; kernel_rfl
 by_cases h2 : r.id = i + 1
 rotate_left
 ·have kk : ¬ RunIn w f i r := fun k => h2 k.id
  simp [Tryz.f45, kk, ixA_nat hS, hS.at, hi', hr.id, hr.at_, hr.full, hr.state, hr.due, e1, h1, ws, h2]
  unfold LexOk; kernel_rfl
 rw [h2] at e1
 by_cases h3 : r.at_ < w.code.length
 rotate_left
 ·have kk : ¬ RunIn w f i r := fun k => h3 k.at_
  have h3' : (w.code.length : Int) ≤ r.at_ := by omega
  simp [Tryz.f45, kk, ixA_nat hS, hS.at, hi', hr.id, hr.at_, hr.full, hr.state, hr.due, e1, h1, ws, h2, hw.code.lenA, h3']
  unfold LexOk; kernel_rfl
 have h3' : ¬ ((w.code.length : Int) ≤ r.at_) := by omega
 have e2 := c_l11Among hw.queue ((i : Int) + 1)
 by_cases h4 : (i : Int) + 1 ∈ w.queue ↔ r.state = 1
 rotate_left
 ·have kk : ¬ RunIn w f i r := fun k => h4 (h2 ▸ k.queue)
  simp [Tryz.f45, kk, ixA_nat hS, hS.at, hi', hr.id, hr.at_, hr.full, hr.state, hr.due, e1, h1, ws, h2, hw.code.lenA, h3', e2, h4]
  unfold LexOk; kernel_rfl
 have h4' : (decide ((i : Int) + 1 ∈ w.queue) != decide (r.state = 1)) = false := by
  simp; exact h4
 have e3 := c_l12Waiting hw hr h1.at_.1 h3
 simp [hr.id, hr.at_, hr.full, hr.state, hr.due, h2] at e3
 have li := fun e => hr.links.lenA (e := e)
 have lw := fun e => hr.watched.lenA (e := e)
 by_cases h5 : r.state = 2 → WaitsOk w r
 rotate_left
 ·have kk : ¬ RunIn w f i r := fun k => h5 k.wait
  have h6 : r.state = 2 := Classical.byContradiction fun e => h5 fun e' => absurd e' e
  have h7 : ¬ WaitsOk w r := fun e => h5 fun _ => e
  rw [h6] at h4 e1 e3
  simp at h4
  simp [Tryz.f45, kk, ixA_nat hS, hS.at, hi', hr.id, hr.at_, hr.full, hr.state, hr.due, e1, h1, ws, h2, hw.code.lenA, h3', e2, h4, h6, h7, e3]
  unfold LexOk; kernel_rfl
 by_cases h6 : r.state = 3
 ·have kk : RunIn w f i r := ⟨h1, h2, h3, h2 ▸ h4, h5, fun e => absurd h6 e, fun e => absurd h6 e⟩
  rw [h6] at h4 e1 e3
  simp at h4
  simp [Tryz.f45, kk, ixA_nat hS, hS.at, hi', hr.id, hr.at_, hr.full, hr.state, hr.due, e1, h1, ws, h2, hw.code.lenA, h3', e2, h4, h6]
  unfold LexOk; kernel_rfl
 simp [Tryz.f45, ixA_nat hS, hS.at, hi', hr.id, hr.at_, hr.full, hr.state, hr.due, e1, h1, ws, h2, hw.code.lenA, h3', e2, h6, e3]
 refine ⟨by unfold LexOk; kernel_rfl, ?_⟩
 refine (fun key => ⟨fun _ => ⟨fun e => ⟨fun _ => key, fun e' => absurd (h5 e) e'⟩, fun _ => key⟩, fun e => absurd h4 e⟩) ?_
 have hA := h1.links.len
 have hB := h1.watched.len
 have wl : IntKind.i64.wrap ((r.links.length : Int) + r.watched.length) = r.links.length + r.watched.length := wrap_i64 (by omega) (by omega)
 have hsL := hr.links
 have hsW := hr.watched
 refine count_wp (r.links.length + r.watched.length) (fun k => ([.c (.sl id 0 f.length none), .c (.bool false), .c (ci k)], [encW c, [ci (i + 1), ci r.at_, cs[i].slots, ci r.full, cs[i].mail, ci r.state, ci r.due, cs[i].links, cs[i].watched, .bool cs[i].trap, ci cs[i].why.k, ci cs[i].why.n, ci cs[i].turns]], [], h))
  (fun k => AllTo (r.links ++ r.watched) k (Here w)) (by simp) (by simp) ?_ ?_
 ·intro k hk hP
  have hk1 : (k : Int) < r.links.length + r.watched.length := by omega
  have hk2 : k < (r.links ++ r.watched).length := by simp; exact hk
  have wk := wrap_succ (show k < sMost by simp [sMost]; omega)
  rw [Wp_body]
  by_cases hkl : k < r.links.length
  ·have hin : (r.links ++ r.watched)[k] = r.links[k] := List.getElem_append_left hkl
   have hmem : r.links[k] ∈ r.links ++ r.watched := List.mem_append_left _ (List.getElem_mem hkl)
   have hR := h1.links.2 _ (List.getElem_mem hkl)
   by_cases hle : (cs.length : Int) < r.links[k]
   ·simp [li, lw, wl, hk1, hkl, ixA_nat hsL, hsL.at, hS.lenA, hle]
    exact fun kk => by have := (kk.others h6 _ hmem).1; omega
   obtain ⟨j, hj⟩ : ∃ j : Nat, r.links[k] = j + 1 := ⟨(r.links[k] - 1).toNat, by omega⟩
   have hj1 : j < cs.length := by omega
   have hj2 : j < w.runs.length := by omega
   have hjs := (hw.runs.each j hj2).state
   have wj : IntKind.i64.wrap (j : Int) = j := wrap_i64 (by omega) (by omega)
   rw [hj] at hle
   simp at wk
   simp [li, lw, wl, hk1, hkl, ixA_nat hsL, hsL.at, hS.lenA, hle, hj, wj, ixA_nat hS, hS.at, hj1, hjs, wk, allTo_succ hk2, hP, hin]
   refine ⟨fun hs kk => (kk.others h6 _ hmem).2 (by rw [hj]; simp [hj2]; exact hs), fun hs => ⟨by omega, by simp [hj2]; exact hs⟩⟩
  ·obtain ⟨q, rfl⟩ : ∃ q, k = r.links.length + q := ⟨k - r.links.length, by omega⟩
   have hql : q < r.watched.length := by omega
   have hin : (r.links ++ r.watched)[r.links.length + q] = r.watched[q] := by rw [List.getElem_append_right (by omega)]; simp
   have hmem : r.watched[q] ∈ r.links ++ r.watched := List.mem_append_right _ (List.getElem_mem hql)
   have hR := h1.watched.2 _ (List.getElem_mem hql)
   have hd : IntKind.i64.wrap (((r.links.length + q : Nat) : Int) - r.links.length) = (q : Int) := by rw [wrap_i64 (by omega) (by omega)]; omega
   have hnl : ¬ ((r.links.length : Int) + q < r.links.length) := by omega
   simp at hd wk hk1
   by_cases hle : (cs.length : Int) < r.watched[q]
   ·simp [li, lw, wl, hk1, hnl, ixA_nat hsW, hsW.at, hS.lenA, hle, hd, hql]
    exact fun kk => by have := (kk.others h6 _ hmem).1; omega
   obtain ⟨j, hj⟩ : ∃ j : Nat, r.watched[q] = j + 1 := ⟨(r.watched[q] - 1).toNat, by omega⟩
   have hj1 : j < cs.length := by omega
   have hj2 : j < w.runs.length := by omega
   have hjs := (hw.runs.each j hj2).state
   have wj : IntKind.i64.wrap (j : Int) = j := wrap_i64 (by omega) (by omega)
   rw [hj] at hle
   simp [li, lw, wl, hk1, hnl, ixA_nat hsW, hsW.at, hS.lenA, hle, hj, wj, ixA_nat hS, hS.at, hj1, hjs, wk, allTo_succ hk2, hP, hin, hd, hql]
   refine ⟨fun hs kk => (kk.others h6 _ hmem).2 (by rw [hj]; simp [hj2]; exact hs), fun hs => ⟨by omega, by simp [hj2]; exact hs⟩⟩
 ·intro hP
  rw [← List.length_append, allTo_len] at hP
  rw [Wp_body]
  obtain ⟨n, hn⟩ : ∃ n : Nat, r.at_ = n := ⟨r.at_.toNat, by have := h1.at_.1; omega⟩
  have hnf : n < f.length := by omega
  have hnf' : n < w.code.length := by omega
  have C := cells_blkI hg hnf
  have hb := hf _ (List.getElem_mem hnf)
  have hbo := c_l3Both (h := h) f[n] r.full hb.2 h1.full.1 h1.full.2
  simp [li, lw, wl, hn, hg, hnf, hfl, hnf', C, hbo]
  refine ⟨by unfold LexOk; kernel_rfl, ?_⟩
  have hat : r.at_.toNat = n := by omega
  refine ⟨fun h0 => ?_, fun h0 kk => ?_⟩
  ·rw [tt_eq, decide_eq_true_iff]
   constructor
   ·intro e
    refine ⟨h1, h2, h3, h2 ▸ h4, h5, fun _ => hP, fun _ => ?_⟩
    rw [hat]; simp [hnf]; exact ⟨h0, e⟩
   ·intro kk
    have := (kk.full h6).2
    rw [hat] at this; simpa [hnf] using this
  ·have := (kk.full h6).1
   rw [hat] at this; simp [hnf] at this; omega
end Go.Proofs.YtmkiojlebjknlaaGreat
