/-
  What functions of the seat answer, each proved once; each under the condition that cells bear what it is given, as its statement says.
-/
import Derived.Test.YtdpffdpgcooagaaGreatWalk1
import Derived.Test.YtdpffdpgcooagaaGreatAm6
set_option linter.all false
/-
  PLAIN: what is full at each step, by passes over all steps until nothing changes.
-/
set_option maxRecDepth 8000
namespace Go.Proofs.YtdpffdpgcooagaaGreat
open Go.AM
/-- How much may be taken away yet. -/
def wt (x : Int) : Nat := if x < 0 then 5 else (if has x 0 then 1 else 0) + (if has x 1 then 1 else 0) + (if has x 2 then 1 else 0) + (if has x 3 then 1 else 0)
def wts (f : List Int) : Nat := (f.map wt).sum
theorem both_wt_fin : ∀ x : Fin 17, ∀ b : Fin 16, both ((x.val : Int) - 1) (b.val : Int) = (x.val : Int) - 1 ∨ wt (both ((x.val : Int) - 1) (b.val : Int)) < wt ((x.val : Int) - 1) := by decide +kernel
theorem both_wt {x b : Int} (hx : -1 ≤ x) (hx' : x ≤ 15) (hb : 0 ≤ b) (hb' : b ≤ 15) : both x b = x ∨ wt (both x b) < wt x := by
  have := both_wt_fin ⟨(x + 1).toNat, by omega⟩ ⟨b.toNat, by omega⟩
  have e1 : (((x + 1).toNat : Nat) : Int) - 1 = x := by omega
  have e2 : ((b.toNat : Nat) : Int) = b := by omega
  simpa only [e1, e2] using this
theorem wts_set : ∀ (f : List Int) (i : Nat) (hi : i < f.length) (v : Int), wts (f.set i v) + wt f[i] = wts f + wt v
  | x :: f, 0, _, v => by simp [wts]; omega
  | x :: f, i + 1, hi, v => by
    have := wts_set f i (by simpa using hi) v
    simp [wts] at this ⊢; omega
/-- Nothing changes, or less is left. -/
def Dec (f g : List Int) : Prop := g = f ∨ wts g < wts f
theorem Dec.refl (f : List Int) : Dec f f := .inl rfl
theorem Dec.trans {f g k : List Int} (a : Dec f g) (b : Dec g k) : Dec f k := by
  rcases a with rfl | a
  · exact b
  · rcases b with rfl | b
    · exact .inr a
    · exact .inr (by omega)
theorem Dec.ne {f g k : List Int} (a : Dec f g) (b : Dec g k) : k ≠ f ↔ g ≠ f ∨ k ≠ g := by
  constructor
  · intro h
    by_cases e : g = f
    · exact .inr (e ▸ h)
    · exact .inl e
  · intro h e
    subst e
    rcases a with rfl | a
    · rcases h with h | h <;> exact h rfl
    · rcases b with rfl | b <;> omega
theorem mergeF_dec {f : List Int} {n : Nat} {b : Int} (hf : BitsOk f) (hb : 0 ≤ b) (hb' : b ≤ 15) : Dec f (mergeF f n b) := by
  by_cases hn : n < f.length
  · have hx := hf f[n] (List.getElem_mem hn)
    have e := wts_set f n hn (both f[n] b)
    simp only [mergeF, List.getElem?_eq_getElem hn, Option.getD_some]
    rcases both_wt hx.1 hx.2 hb hb' with h | h
    · left; rw [h]; simp
    · right; omega
  · left; unfold mergeF; rw [List.set_eq_of_length_le (by omega)]
theorem goesTo_range {o : POp} {x b : Int} (h0 : 0 ≤ x) (h1 : x ≤ 15) (h : goesTo o x = some b) : 0 ≤ b ∧ b ≤ 15 := by
  unfold goesTo at h
  split at h
  · cases h; omega
  · split at h
    · cases h; exact ⟨h0, h1⟩
    · cases h
theorem goF_props {o : POp} {f : List Int} {x : Int} (hf : BitsOk f) (h0 : 0 ≤ x) (h1 : x ≤ 15) : BitsOk (goF o f x) ∧ (goF o f x).length = f.length ∧ Dec f (goF o f x) := by
  unfold goF
  split
  · rename_i b hb
    have := goesTo_range h0 h1 hb
    exact ⟨mergeF_ok hf this.1 this.2, mergeF_length, mergeF_dec hf this.1 this.2⟩
  · exact ⟨hf, rfl, Dec.refl _⟩
theorem onward_range {o : POp} {x : Int} (ho : opOk o = true) (h0 : 0 ≤ x) (h1 : x ≤ 15) : 0 ≤ onward o x ∧ onward o x ≤ 15 := by
  unfold onward
  split
  · rename_i hk
    refine withB_range h0 h1 ?_ ?_ <;>
    · simp only [opOk, fillsK, hasR, Bool.and_eq_true, decide_eq_true_eq] at ho hk
      obtain ⟨⟨⟨⟨_, hr⟩, _⟩, _⟩, _⟩ := ho
      rw [if_pos (by omega)] at hr
      simp only [decide_eq_true_eq] at hr; omega
  · exact ⟨h0, h1⟩
theorem fromF_props {o : POp} {f : List Int} {i : Nat} (hf : BitsOk f) (ho : opOk o = true) (h0 : 0 ≤ f[i]?.getD 0) (h1 : f[i]?.getD 0 ≤ 15) :
    BitsOk (fromF o f i) ∧ (fromF o f i).length = f.length ∧ Dec (goF o f (f[i]?.getD 0)) (fromF o f i) := by
  have a := goF_props (o := o) hf h0 h1
  simp only [fromF]
  split
  · exact ⟨a.1, a.2.1, Dec.refl _⟩
  · have b := onward_range ho h0 h1
    exact ⟨mergeF_ok a.1 b.1 b.2, by rw [mergeF_length, a.2.1], mergeF_dec a.1 b.1 b.2⟩
/-- A pass over all steps. -/
def passTo (code : List POp) (f : List Int) : Nat → List Int
  | 0 => f
  | i + 1 => if 0 ≤ (passTo code f i)[i]?.getD 0 then fromF (code[i]?.getD default) (passTo code f i) i else passTo code f i
theorem passTo_props {code : List POp} {f : List Int} (hc : ∀ o ∈ code, opOk o = true) (hf : BitsOk f) (hl : f.length = code.length) : ∀ i, i ≤ code.length → BitsOk (passTo code f i) ∧ (passTo code f i).length = f.length ∧ Dec f (passTo code f i)
  | 0, _ => ⟨hf, rfl, Dec.refl _⟩
  | i + 1, hi => by
    have ih := passTo_props hc hf hl i (by omega)
    simp only [passTo]
    split
    · rename_i h0
      have hi' : i < (passTo code f i).length := by omega
      have h1 : (passTo code f i)[i]?.getD 0 ≤ 15 := by
        rw [List.getElem?_eq_getElem hi', Option.getD_some]; exact (ih.1 _ (List.getElem_mem hi')).2
      have ho : opOk (code[i]?.getD default) = true := by
        rw [List.getElem?_eq_getElem (show i < code.length by omega), Option.getD_some]; exact hc _ (List.getElem_mem _)
      have a := fromF_props ih.1 ho h0 h1
      exact ⟨a.1, by rw [a.2.1, ih.2.1], (ih.2.2.trans (goF_props ih.1 h0 h1).2.2).trans a.2.2⟩
    · exact ih
def pass (code : List POp) (f : List Int) : List Int := passTo code f code.length
def fullF (code : List POp) (f : List Int) : List Int := if wts (pass code f) < wts f then fullF code (pass code f) else f
termination_by wts f
def full0 (n : Nat) : List Int := (List.replicate n (-1)).set 0 1
/-- What is full at each step; -1, if nobody comes. -/
def fullR (code : List POp) : List Int := fullF code (full0 code.length)
theorem full0_ok (n : Nat) : BitsOk (full0 n) := by
  intro x hx
  rcases List.mem_or_eq_of_mem_set hx with hx | rfl
  · rw [List.eq_of_mem_replicate hx]; omega
  · omega
theorem fullF_step {code : List POp} {f : List Int} (h : wts (pass code f) < wts f) : fullF code f = fullF code (pass code f) := by rw [fullF, if_pos h]
theorem fullF_stop {code : List POp} {f : List Int} (h : pass code f = f) : fullF code f = f := by rw [fullF, if_neg (by rw [h]; omega)]
theorem passTo_fix {code : List POp} {f : List Int} (hc : ∀ o ∈ code, opOk o = true) (hf : BitsOk f) (hl : f.length = code.length) (h : pass code f = f) : ∀ i, i ≤ code.length → passTo code f i = f := by
  intro i hi
  have key : ∀ k, i + k ≤ code.length → Dec (passTo code f i) (passTo code f (i + k)) := by
    intro k
    induction k with
    | zero => intro _; exact Dec.refl _
    | succ k ih =>
      intro hk
      refine (ih (by omega)).trans ?_
      have a := passTo_props hc hf hl (i + k) (by omega)
      rw [← Nat.add_assoc]
      simp only [passTo]
      split
      · rename_i h0
        have hi' : i + k < (passTo code f (i + k)).length := by omega
        have h1 : (passTo code f (i + k))[i + k]?.getD 0 ≤ 15 := by
          rw [List.getElem?_eq_getElem hi', Option.getD_some]; exact (a.1 _ (List.getElem_mem hi')).2
        have ho : opOk (code[i + k]?.getD default) = true := by
          rw [List.getElem?_eq_getElem (show i + k < code.length by omega), Option.getD_some]; exact hc _ (List.getElem_mem _)
        exact (goF_props a.1 h0 h1).2.2.trans (fromF_props a.1 ho h0 h1).2.2
      · exact Dec.refl _
  have a := (passTo_props hc hf hl i hi).2.2
  have b := key (code.length - i) (by omega)
  rw [show i + (code.length - i) = code.length by omega] at b
  change Dec _ (pass code f) at b
  rw [h] at b
  rcases a with a | a
  · exact a
  · rcases b with b | b
    · exact b.symm
    · omega
theorem fullF_props {code : List POp} (hc : ∀ o ∈ code, opOk o = true) : ∀ (n : Nat) (f : List Int), wts f < n → BitsOk f → f.length = code.length → BitsOk (fullF code f) ∧ (fullF code f).length = code.length ∧ pass code (fullF code f) = fullF code f ∧ Dec f (fullF code f) := by
  intro n
  induction n with
  | zero => intro f h; omega
  | succ n ih =>
    intro f hn hf hl
    have a := passTo_props hc hf hl code.length (Nat.le_refl _)
    by_cases h : wts (pass code f) < wts f
    · rw [fullF_step h]
      have b := ih (pass code f) (by omega) a.1 (by rw [← hl]; exact a.2.1)
      exact ⟨b.1, b.2.1, b.2.2.1, a.2.2.trans b.2.2.2⟩
    · have e : pass code f = f := by
        rcases a.2.2 with e | e
        · exact e
        · exact absurd e h
      rw [fullF_stop e]
      exact ⟨hf, hl, e, Dec.refl _⟩
theorem fullR_props {code : List POp} (hc : ∀ o ∈ code, opOk o = true) : BitsOk (fullR code) ∧ (fullR code).length = code.length ∧ pass code (fullR code) = fullR code := by
  have := fullF_props hc _ (full0 code.length) (Nat.lt_succ_self _) (full0_ok _) (by simp [full0])
  exact ⟨this.1, this.2.1, this.2.2.1⟩
end Go.Proofs.YtdpffdpgcooagaaGreat

/-
  THE REFERENCE'S l3Full: it answers what is full at each step.
-/
set_option maxRecDepth 8000
namespace Go.Proofs.YtdpffdpgcooagaaGreat
open Go.AM
variable {h : H}
theorem c_l3From' {id : Nat} {s : Cell} {code : List POp} {f : List Int} {i : Nat} (hc : Sl h s 6 encO code) (hg : h.get id = some (blkI f)) (hf : BitsOk f) (hi : i < code.length) (hl : f.length = code.length)
    (ho : ∀ o ∈ code, opOk o = true) (h0 : 0 ≤ f[i]'(by omega)) :
    Dz.den 129 [.c s, .c (.sl id 0 f.length none), .c (.int .i64 i)] h = some (.c (.bool (tt (fromF (code[i]?.getD default) f i ≠ f))), h.set id (some (blkI (fromF (code[i]?.getD default) f i)))) := by
  have ho' := ho _ (List.getElem_mem hi)
  obtain ⟨⟨r, h'⟩, e, e1, b, e2, e3, e4⟩ := c_l3From hc hg hf hi hl ho' h0
  simp only at e1 e2
  rw [e, e1, e2]
  have hfi : i < f.length := by omega
  have hfx : f[i]?.getD 0 = f[i] := by simp [hfi]
  have hx := (hf _ (List.getElem_mem hfi)).2
  have d1 := (goF_props (o := code[i]) hf h0 hx).2.2
  have d2 := (fromF_props (o := code[i]) (i := i) hf ho' (by rw [hfx]; exact h0) (by rw [hfx]; exact hx)).2.2
  rw [hfx] at d2
  have ec : code[i]?.getD default = code[i] := by simp [hi]
  have eb : b = tt (fromF code[i] f i ≠ f) := by
    rw [tt_eq]
    constructor
    · intro hb; exact (d1.ne d2).2 (e4 hb)
    · intro hb
      cases b
      · exact absurd (e3 rfl) hb
      · rfl
  rw [eb, ec]

theorem cells_blkI {id : Nat} {f : List Int} {n : Nat} (hg : h.get id = some (blkI f)) (hn : n < f.length) : h.cellsAt id n 0 1 = some [.int .i64 (f[n]?.getD 0)] := by
  simp [H.cellsAt, hg, hn]
theorem write_blkI {id : Nat} {f : List Int} {n : Nat} {x : Int} (hg : h.get id = some (blkI f)) (hn : n < f.length) : h.write id n 0 [.int .i64 x] = some (h.set id (some (blkI (f.set n x)))) := by
  simp [H.write, hg, hn, blkI, List.map_set]
def row0 (n : Nat) : Nat → List Int
  | 0 => List.replicate n 0
  | i + 1 => (row0 n i).set (i + 1) (-1)
@[simp] theorem row0_length (n : Nat) : ∀ i, (row0 n i).length = n
  | 0 => by simp [row0]
  | i + 1 => by simp [row0, row0_length n i]
theorem row0_get (n : Nat) : ∀ i k, k < n → (row0 n i)[k]? = some (if 0 < k ∧ k ≤ i then -1 else 0)
  | 0, k, hk => by simp [row0, hk]; omega
  | i + 1, k, hk => by
    simp only [row0, List.getElem?_set, row0_length]
    by_cases e : i + 1 = k
    · subst e; simp [hk]
    · rw [if_neg e, row0_get n i k hk]; congr 1; split <;> split <;> first | rfl | omega
theorem row0_full (n : Nat) : (row0 n (n - 1)).set 0 1 = full0 n := by
  apply List.ext_getElem?
  intro k
  by_cases hk : k < n
  · simp only [full0, List.getElem?_set, row0_length, List.length_replicate, row0_get n _ k hk, List.getElem?_replicate, hk, ↓reduceIte]
    split
    · rfl
    · rw [if_pos (by omega)]
  · rw [List.getElem?_eq_none (by simp; omega), List.getElem?_eq_none (by simp [full0]; omega)]
theorem full0_length (n : Nat) : (full0 n).length = n := by simp [full0]

set_option maxHeartbeats 1000000 in
theorem c_l3Full {s : Cell} {code : List POp} (hc : Sl h s 6 encO code) (hok : ∀ o ∈ code, opOk o = true) (h0 : 0 < code.length) (hm : code.length ≤ 16) :
    Dz.den 99 [.c s] h = some (.c (.sl h.length 0 code.length none), h.push (blkI (fullR code))) := by
  rw [← Wp_eq]
  refine den_wp rfl Tryz.func99 rfl ?_
  have hl : (code.length : Int) ≤ 4294967296 := by omega
  simp [Tryz.f99, hc.lenA, hl]
  have hp0 : (h.push ⟨false, 1, List.replicate code.length [.int .i64 0]⟩) = h.push (blkI (row0 code.length 0)) := by simp [blkI, row0]
  rw [hp0]
  have hP : ∀ f, Sl (h.push (blkI f)) s 6 encO code := fun f => hc.push _
  have hG : ∀ f, (h.push (blkI f)).get h.length = some (blkI f) := fun f => get_push_self
  generalize hn : code.length = n at *
  have W : ∀ f m x, m < List.length f → (h.push (blkI f)).write h.length m 0 [.int .i64 x] = some (h.push (blkI (f.set m x))) := fun f m x hm => by rw [write_blkI (hG f) hm, set_push]
  have C : ∀ f m, m < List.length f → (h.push (blkI f)).cellsAt h.length m 0 1 = some [.int .i64 (f[m]?.getD 0)] := fun f m hm => cells_blkI (hG f) hm
  refine count_wp (n - 1) (fun i => ([.c s, .c .nils, .c (.sl h.length 0 n none), .c (ci (i + 1 : Nat))], [], [], h.push (blkI (row0 n i)))) (fun i => True) rfl trivial ?_ ?_
  · intro i hi _
    have hi' : i + 1 < n := by omega
    have hi2 : (i : Int) + 1 < n := by omega
    have hi3 : 0 ≤ (i : Int) + 1 := by omega
    have hw := wrap_succ (i := i + 1) (by simp [sMost]; omega)
    rw [Wp_body]
    simp at hw
    simp [hi', hi2, hi3, W, hw, row0]
  · intro _
    have e : ¬ (((n - 1 : Nat) : Int) + 1 < n) := by omega
    rw [Wp_body]
    simp [e, W, h0, row0_full]
    refine loop_wp (σ := List Int × Bool) (fun s1 => ([.c s, .c .nils, .c (.sl h.length 0 n none), .c (.bool s1.2)], [], [], h.push (blkI s1.1)))
      (fun s1 => BitsOk s1.1 ∧ s1.1.length = n ∧ fullF code s1.1 = fullR code ∧ (s1.2 = false → s1.1 = fullR code)) (fun s1 => wts s1.1 + if s1.2 then 1 else 0) (full0 n, true) rfl ⟨full0_ok _, full0_length _, by rw [fullR, hn], by simp⟩ ?_
    rintro ⟨f, mv⟩ ⟨p1, p2, p3, p4⟩
    simp only at p1 p2 p3 p4 ⊢
    rw [Wp_body]
    cases mv
    · simp [p4]
    have q := fun i hi => passTo_props (code := code) (f := f) hok p1 (by omega) i hi
    simp
    refine count_wp n (fun i => ([.c s, .c .nils, .c (.sl h.length 0 n none), .c (.bool (tt (passTo code f i ≠ f))), .c (ci (i : Nat))], [], [], h.push (blkI (passTo code f i)))) (fun i => True) (by simp [passTo]) trivial ?_ ?_
    · intro i hi _
      obtain ⟨q1, q2, q3⟩ := q i (by omega)
      have hig : i < (passTo code f i).length := by omega
      have e := fun (h0 : 0 ≤ (passTo code f i)[i]) => c_l3From' (i := i) (hP (passTo code f i)) (hG _) q1 (by omega) (by omega) hok h0
      have q' := q (i + 1) (by omega)
      simp only [passTo] at q'
      rw [Wp_body]
      by_cases h0 : 0 ≤ (passTo code f i)[i]
      · have e := e h0
        rw [q2, p2, set_push] at e
        simp [(hP (passTo code f i)).lenA, hn, hi, C, hig, h0, e, passTo, wrap_succ (show i < sMost by simp [sMost]; omega)]
        have hx : (passTo code f i)[i]?.getD 0 = (passTo code f i)[i] := by simp [hig]
        have hx' := (q1 _ (List.getElem_mem hig)).2
        have ho' := hok _ (List.getElem_mem (show i < code.length by omega))
        have d1 := (goF_props (o := code[i]) q1 h0 hx').2.2
        have d2 := (fromF_props (o := code[i]) (i := i) q1 ho' (by rw [hx]; exact h0) (by rw [hx]; exact hx')).2.2
        rw [hx] at d2
        have d := q3.ne (d1.trans d2)
        exact ⟨fun a => d.2 (.inr a), fun a => by rw [a]⟩
      · simp [(hP (passTo code f i)).lenA, hn, hi, C, hig, h0, passTo, wrap_succ (show i < sMost by simp [sMost]; omega)]
    · intro _
      rw [Wp_body]
      simp [(hP (passTo code f n)).lenA, hn]
      obtain ⟨q1, q2, q3⟩ := q n (by omega)
      have hps : passTo code f n = pass code f := by rw [pass, hn]
      rw [hps] at q1 q2 q3 ⊢
      refine ⟨pass code f, ?_⟩
      by_cases e : pass code f = f
      · left
        have := fullF_stop e
        refine ⟨⟨e, rfl⟩, ⟨q1, by omega, by rw [e, p3], by rw [e, ← p3, this]⟩, by rw [e]; omega⟩
      · right
        have hd : wts (pass code f) < wts f := by
          rcases q3 with q3 | q3
          · exact absurd q3 e
          · exact q3
        exact ⟨⟨e, rfl⟩, ⟨q1, by omega, by rw [← p3, fullF_step hd]⟩, hd⟩
end Go.Proofs.YtdpffdpgcooagaaGreat

/-
  THE REFERENCE'S CodeSafe: what it answers.
-/
set_option maxRecDepth 8000
namespace Go.Proofs.YtdpffdpgcooagaaGreat
open Go.AM
variable {h : H}
theorem codeOk_len {code : List POp} (h : codeOk code = true) : 1 ≤ code.length ∧ code.length ≤ 16 := by
  simp only [codeOk, Bool.and_eq_true, decide_eq_true_eq] at h; exact h.1
theorem codeOk_op {code : List POp} (h : codeOk code = true) : ∀ o ∈ code, opOk o = true := by
  intro o ho
  simp only [codeOk, Bool.and_eq_true, List.all_eq_true] at h
  exact (h.2 o ho).1
/-- A step is safe: what it reads is full, and it does not go past the last one. -/
def stepSafe (n : Nat) (x : Int) (i : Nat) (o : POp) : Prop := 0 ≤ x → (∀ u ∈ uses o, has x u = true) ∧ (i + 1 = n → o.kind = 9 ∨ o.kind = 14)
structure CodeSafe (code : List POp) : Prop where
  ok : codeOk code = true
  safe : ∀ i (hi : i < code.length), stepSafe code.length ((fullR code)[i]?.getD 0) i code[i]
theorem uses_range {o : POp} (ho : opOk o = true) : ∀ u ∈ uses o, 0 ≤ u ∧ u ≤ 3 := by
  obtain ⟨k, r, s, t, v⟩ := o
  simp only [opOk, Bool.and_eq_true, decide_eq_true_eq] at ho
  obtain ⟨⟨⟨⟨hk14, hr⟩, hs⟩, _⟩, _⟩ := ho
  rcases kinds k with hk | hk | hk | hk | hk | hk | hk | hk | hk | hk | hk | hk | hk | hk | hk
  all_goals (try subst hk)
  all_goals simp [uses, hasR, hasS] at hr hs ⊢
  all_goals grind

set_option maxHeartbeats 1000000 in
theorem c_CodeSafe {s : Cell} {code : List POp} (hc : Sl h s 6 encO code) : Dz.den 64 [.c s] h = some (.c (.bool (tt (CodeSafe code))), h) := by
  refine den_plain rfl Tryz.func64 rfl rfl ?_
  by_cases hok : codeOk code = true
  rotate_left
  · have kk : ¬ CodeSafe code := fun k => hok k.ok
    simp [Tryz.f64, c_CodeOk hc, hok, kk]
  have hl := codeOk_len hok
  have hop := codeOk_op hok
  obtain ⟨p1, p2, p3⟩ := fullR_props hop
  simp [Tryz.f64, c_CodeOk hc, hok, c_l3Full hc hop (by omega) hl.2]
  have hn : ∃ n, code.length = n := ⟨_, rfl⟩
  obtain ⟨n, hn⟩ := hn
  rw [hn]
  refine count_wpG (σ := H) n (fun i g => ([.c s, .c (.bool false), .c (.sl h.length 0 n none), .c (ci (i : Nat))], [], [], g)) (fun i g => Ext (h.push (blkI (fullR code))) g ∧ AllIx code i (fun j o => stepSafe n ((fullR code)[j]?.getD 0) j o)) (h.push (blkI (fullR code))) rfl ⟨Ext.refl _, by simp⟩ ?_ ?_
  · rintro i g hi ⟨hx, hP⟩
    have hc' := (hc.push (blkI (fullR code))).ext hx
    have hg := hx.get get_push_self
    have hi' : i < code.length := by omega
    have hif : i < (fullR code).length := by omega
    have C := cells_blkI hg hif
    have hb := p1 _ (List.getElem_mem hif)
    have hir : (fullR code)[i]?.getD 0 = (fullR code)[i] := by simp [hif]
    rw [Wp_body]
    by_cases hneg : (fullR code)[i] < 0
    · simp [hc'.lenA, hn, hi, hg, C, hif, hneg, wrap_succ (show i < sMost by simp [sMost]; omega), allIx_succ hi', hP, hx]
      exact fun h0 => by omega
    have eu := c_l2Uses (h := g) code[i]
    simp only [encO] at eu
    have hu := uses_range (hop _ (List.getElem_mem hi'))
    simp [hc'.lenA, hn, hi, hg, C, hif, hneg, ixA_nat hc', hc'.at, hi', eu, hir]
    have hsu : Sl (g.push ⟨false, 1, (uses code[i]).map encI⟩) (.sl g.length 0 (uses code[i]).length none) 1 encI (uses code[i]) := Sl.new (by simp) (by unfold uses; split <;> (try split) <;> (try split) <;> simp [sMost])
    have hc2 := hc'.push ⟨false, 1, (uses code[i]).map encI⟩
    have hg2 : (g.push ⟨false, 1, (uses code[i]).map encI⟩).get h.length = some (blkI (fullR code)) := get_push_some hg
    have C2 := cells_blkI hg2 hif
    generalize hk : g.push ⟨false, 1, (uses code[i]).map encI⟩ = k at *
    have hxk : Ext (h.push (blkI (fullR code))) k := hk ▸ hx.trans (Ext.push _ _)
    generalize hus : uses code[i] = us at *
    refine count_wp us.length (fun j => ([.c s, .c (.bool false), .c (.sl h.length 0 n none), .c (ci (i : Nat)), .c (.sl g.length 0 us.length none), .c (ci (j : Nat))], [], [], k)) (fun j => AllTo us j fun u => has (fullR code)[i] u = true) (by simp) (by simp) ?_ ?_
    · intro j hj hA
      have hr := hu us[j] (List.getElem_mem hj)
      have hh := c_l3Has (h := k) (fullR code)[i] us[j] (by omega) hb.2 hr.1 hr.2
      rw [Wp_body]
      simp [hsu.lenA, ixA_nat hsu, hsu.at, hj, hn, hi, hg2, C2, hif, hir, hh, wrap_succ (hsu.lt hj), allTo_succ hj, hA]
      refine ⟨by unfold LexOk; kernel_rfl, ?_⟩
      refine fun e => ⟨fun ks => ?_, (Ext.trans (Ext.push h _) hxk).2⟩
      have := (ks.safe i hi' (by rw [hir]; omega)).1 us[j] (by rw [hus]; exact List.getElem_mem hj)
      rw [hir, e] at this; cases this
    · intro hA
      rw [Wp_body]
      simp [hsu.lenA, hc2.lenA, hn, hi, ixA_nat hc2, hc2.at, hi', wrap_succ (show i < sMost by simp [sMost]; omega)]
      rw [allTo_len] at hA
      have fin : (i + 1 = n → code[i].kind = 9 ∨ code[i].kind = 14) → Ext (h.push (blkI (fullR code))) k ∧ AllIx code (i + 1) fun j o => stepSafe n ((fullR code)[j]?.getD 0) j o := by
        intro hl
        refine ⟨hxk, (allIx_succ hi').2 ⟨hP, fun _ => ⟨?_, hl⟩⟩⟩
        rw [hus, hir]; exact hA
      refine ⟨fun e1 => ⟨fun e2 => fin fun _ => .inl e2, fun e2 => ⟨fun e3 => fin fun _ => .inr e3, fun e3 => ⟨fun ks => ?_, (Ext.trans (Ext.push h _) hxk).2⟩⟩⟩, fun e1 => fin fun e => absurd e (by omega)⟩
      rcases (ks.safe i hi' (by rw [hir]; omega)).2 (by omega) with e | e
      · exact e2 e
      · exact e3 e
  · rintro g ⟨hx, hP⟩
    have hc' := (hc.push (blkI (fullR code))).ext hx
    rw [Wp_body]
    simp [hc'.lenA, hn]
    refine ⟨⟨hok, ?_⟩, (Ext.trans (Ext.push h _) hx).2⟩
    subst hn
    exact allIx_len.1 hP
end Go.Proofs.YtdpffdpgcooagaaGreat

/-
  THE REFERENCE'S RunOk: what it answers.
-/
set_option maxRecDepth 8000
namespace Go.Proofs.YtdpffdpgcooagaaGreat
open Go.AM
variable {h : H}
structure RunOk (r : PRun) : Prop where
  id : 1 ≤ r.id ∧ r.id ≤ 6
  at_ : 0 ≤ r.at_ ∧ r.at_ ≤ 15
  len : r.slots.length = 4
  full : 0 ≤ r.full ∧ r.full ≤ 15
  room : r.mail.length ≤ 12
  state : 1 ≤ r.state ∧ r.state ≤ 3
  due : -1 ≤ r.due ∧ r.due ≤ 400
  turns : 0 ≤ r.turns ∧ r.turns ≤ 9999
  slots : ∀ i (hi : i < r.slots.length), valOk r.slots[i] = true ∧ (has r.full i = false → r.slots[i] = ⟨0, 0⟩)
  mail : ∀ v ∈ r.mail, valOk v = true
  links : IdsOk r.links r.id
  watched : IdsOk r.watched r.id
  why : valOk r.why = true
  ended : r.state = 3 → r.mail = [] ∧ r.links = [] ∧ r.watched = []
  live : r.state ≠ 3 → r.why = ⟨0, 0⟩

end Go.Proofs.YtdpffdpgcooagaaGreat

/-
  THE REFERENCE'S l12Waiting, l12Linked, l12Run: what they answer.
-/
set_option maxRecDepth 8000
namespace Go.Proofs.YtdpffdpgcooagaaGreat
open Go.AM
variable {h : H}
/-- A run that waits waits for what is not there. -/
def WaitsOk (w : PWorld) (r : PRun) : Prop :=
  ((w.code[r.at_.toNat]?.getD default).kind = 7 ∧ r.due = 0 ∨ (w.code[r.at_.toNat]?.getD default).kind = 8 ∧ w.now < r.due) ∧ firstAt (fits (w.code[r.at_.toNat]?.getD default).s) r.mail < 0

/-- The others of a run are there, and did not end. -/
def Here (w : PWorld) (k : Int) : Prop := k ≤ w.runs.length ∧ (w.runs[(k - 1).toNat]?.getD default).state ≠ 3
/-- A run fits a world. -/
structure RunIn (w : PWorld) (full : List Int) (i : Nat) (r : PRun) : Prop where
  ok : RunOk r
  id : r.id = i + 1
  at_ : r.at_ < w.code.length
  queue : r.id ∈ w.queue ↔ r.state = 1
  wait : r.state = 2 → WaitsOk w r
  others : r.state ≠ 3 → ∀ k ∈ r.links ++ r.watched, Here w k
  full : r.state ≠ 3 → 0 ≤ full[r.at_.toNat]?.getD 0 ∧ both (full[r.at_.toNat]?.getD 0) r.full = full[r.at_.toNat]?.getD 0

end Go.Proofs.YtdpffdpgcooagaaGreat

/-
  THE REFERENCE'S WorldOk, TurnWhen: what they answer.
-/
set_option maxRecDepth 8000
namespace Go.Proofs.YtdpffdpgcooagaaGreat
open Go.AM
variable {h : H}
/-- How many values wait in the first runs. -/
def mailTo (w : PWorld) : Nat → Nat
  | 0 => 0
  | i + 1 => mailTo w i + (w.runs[i]?.getD default).mail.length
/-- A world is as it must be. -/
structure WorldOk (w : PWorld) : Prop where
  safe : CodeSafe w.code
  many : 1 ≤ w.runs.length ∧ w.runs.length ≤ 6
  now : 0 ≤ w.now ∧ w.now ≤ 300
  sent : 0 ≤ w.sent ∧ w.sent ≤ 9999
  taken : 0 ≤ w.taken ∧ w.taken ≤ 9999
  lost : 0 ≤ w.lost ∧ w.lost ≤ 9999
  queue : IdsOk w.queue 0
  each : ∀ i (hi : i < w.runs.length), RunIn w (fullR w.code) i w.runs[i]
  queueTo : ∀ q ∈ w.queue, q ≤ w.runs.length
  links : ∀ a b (ha : a < w.runs.length) (hb : b < a), (b : Int) + 1 ∈ w.runs[a].links ↔ (a : Int) + 1 ∈ (w.runs[b]'(by omega)).links
  sum : w.sent = w.taken + w.lost + mailTo w w.runs.length

theorem mailTo_le {w : PWorld} : ∀ i, (∀ j (hj : j < w.runs.length), j < i → (w.runs[j]).mail.length ≤ 12) → mailTo w i ≤ 12 * i
  | 0, _ => by simp [mailTo]
  | i + 1, h => by
    have := mailTo_le i fun j hj hi => h j hj (by omega)
    simp only [mailTo]
    by_cases hl : i < w.runs.length
    · have h2 := h i hl (by omega)
      rw [List.getElem?_eq_getElem hl, Option.getD_some]; omega
    · rw [List.getElem?_eq_none (by omega)]
      simp only [Option.getD_none]
      change _ + 0 ≤ _
      omega
theorem RunR.ext {r : PRun} {c : RunC} {h h' : H} (hr : RunR h r c) (x : Ext h h') : RunR h' r c := ⟨hr.id, hr.at_, hr.slots.ext x, hr.full, hr.mail.ext x, hr.state, hr.due, hr.links.ext x, hr.watched.ext x, hr.trap, hr.why, hr.turns⟩
theorem RunsR.ext {s : Cell} {rs : List PRun} {cs : List RunC} {h h' : H} (hr : RunsR h s rs cs) (x : Ext h h') : RunsR h' s rs cs := ⟨hr.sl.ext x, hr.len, fun i hi => (hr.each i hi).ext x⟩
theorem WorldR.ext {c : WorldC} {w : PWorld} {cs : List RunC} {h h' : H} (hw : WorldR h w c cs) (x : Ext h h') : WorldR h' w c cs := ⟨hw.code.ext x, hw.runs.ext x, hw.queue.ext x, hw.now, hw.sent, hw.taken, hw.lost⟩
theorem WorldR.push {c : WorldC} {w : PWorld} {cs : List RunC} {h : H} (hw : WorldR h w c cs) (b : Blk) : WorldR (h.push b) w c cs := hw.ext (Ext.push h b)

/-- The place of a run in the queue, from 1 on. -/
def whenP (w : PWorld) (id : Int) : Int := firstAt (fun q => decide (q = id)) w.queue + 1
end Go.Proofs.YtdpffdpgcooagaaGreat

/-
  THE PROGRAM'S SEARCHES IN SLICES: what they answer.
-/
set_option maxRecDepth 8000
namespace Go.Proofs.YtdpffdpgcooagaaGreat
open Go.AM
variable {h : H}
/-- A function value answers by a truth of what it is handed. -/
def Answers (h : H) (f : FuncId) (caps : List (Nat × Nat × Nat)) {α : Type} (enc : α → List Cell) (xs : List α) (p : α → Bool) : Prop := ∀ x ∈ xs, Dz.den f (.g (enc x) :: V.caps caps) h = some (.c (.bool (p x)), h)
def Answers1 (h : H) (f : FuncId) (caps : List (Nat × Nat × Nat)) (xs : List Int) (p : Int → Bool) : Prop := ∀ x ∈ xs, Dz.den f (.c (.int .i64 x) :: V.caps caps) h = some (.c (.bool (p x)), h)

theorem c_IndexI {s : Cell} {xs : List Int} (hS : Sl h s 1 encI xs) (n : Int) : Dz.den 89 [.c s, .c (.int .i64 n)] h = some (.c (.int .i64 (firstAt (fun x => decide (n = x)) xs)), h) := by
  refine den_plain rfl Tryz.func89 rfl rfl ?_
  simp [Tryz.f89, hS.lenA]
  refine count_wp xs.length (fun i => ([.c s, .c (ci n), .c (ci 0), .c (ci xs.length), .c (ci i)], [], [], h)) (fun i => AllTo xs i fun x => decide (n = x) = false) rfl (by simp) ?_ ?_
  · intro i hi hP
    rw [Wp_body]
    simp [ixA_nat hS, hS.at, hi, wrap_succ (hS.lt hi), allTo_succ hi]
    refine ⟨fun e => ?_, fun e => ⟨by simpa using hP, e⟩⟩
    rw [firstAt_some hi hP (by simpa using e)]
  · intro hP
    rw [Wp_body]
    simp
    rw [firstAt_none (allTo_len.1 hP)]
theorem firstAt_ge {α : Type} (p : α → Bool) (xs : List α) : (0 ≤ firstAt p xs) ↔ ∃ x ∈ xs, p x = true := by
  unfold firstAt
  cases h : xs.findIdx? p with
  | none =>
    rw [List.findIdx?_eq_none_iff] at h
    simp only [show ¬ (0 : Int) ≤ -1 by omega, false_iff]
    rintro ⟨x, hx, hp⟩
    rw [h x hx] at hp; cases hp
  | some i =>
    rw [List.findIdx?_eq_some_iff_getElem] at h
    obtain ⟨h1, h2, _⟩ := h
    simp only [Int.natCast_nonneg, true_iff]
    exact ⟨_, List.getElem_mem h1, h2⟩
theorem c_ContainsI {s : Cell} {xs : List Int} (hS : Sl h s 1 encI xs) (n : Int) : Dz.den 58 [.c s, .c (.int .i64 n)] h = some (.c (.bool (decide (n ∈ xs))), h) := by
  refine den_plain rfl Tryz.func58 rfl rfl ?_
  simp [Tryz.f58, c_IndexI hS, firstAt_ge]
theorem c_IndexFuncI {s : Cell} {xs : List Int} (hS : Sl h s 1 encI xs) {f : FuncId} {caps : List (Nat × Nat × Nat)} {p : Int → Bool} (ha : Answers1 h f caps xs p) :
    Dz.den 76 [.c s, .c (.fn f caps)] h = some (.c (.int .i64 (firstAt p xs)), h) := by
  refine den_plain rfl Tryz.func76 rfl rfl ?_
  simp [Tryz.f76, hS.lenA]
  refine count_wp xs.length (fun i => ([.c s, .c (.fn f caps), .c (ci 0), .c (ci xs.length), .c (ci i)], [], [], h)) (fun i => AllTo xs i fun x => p x = false) rfl (by simp) ?_ ?_
  · intro i hi hP
    have e := ha _ (List.getElem_mem hi)
    rw [Wp_body]
    simp [ixA_nat hS, hS.at, hi, wrap_succ (hS.lt hi), allTo_succ hi, e, hP]
    exact fun e => by rw [firstAt_some hi hP e]
  · intro hP
    rw [Wp_body]
    simp
    rw [firstAt_none (allTo_len.1 hP)]
theorem c_ContainsFuncI {s : Cell} {xs : List Int} (hS : Sl h s 1 encI xs) {f : FuncId} {caps : List (Nat × Nat × Nat)} {p : Int → Bool} (ha : Answers1 h f caps xs p) :
    Dz.den 44 [.c s, .c (.fn f caps)] h = some (.c (.bool (xs.any p)), h) := by
  refine den_plain rfl Tryz.func44 rfl rfl ?_
  simp [Tryz.f44, c_IndexFuncI hS ha, firstAt_ge]
  rw [Bool.eq_iff_iff]; simp
theorem c_IndexFuncO {s : Cell} {xs : List POp} (hS : Sl h s 6 encO xs) {f : FuncId} {caps : List (Nat × Nat × Nat)} {p : POp → Bool} (ha : Answers h f caps encO xs p) :
    Dz.den 107 [.c s, .c (.fn f caps)] h = some (.c (.int .i64 (firstAt p xs)), h) := by
  refine den_plain rfl Tryz.func107 rfl rfl ?_
  simp [Tryz.f107, hS.lenA]
  refine count_wp xs.length (fun i => ([.c s, .c (.fn f caps), .c (ci 0), .c (ci xs.length), .c (ci i)], [], [], h)) (fun i => AllTo xs i fun x => p x = false) rfl (by simp) ?_ ?_
  · intro i hi hP
    have e := ha _ (List.getElem_mem hi)
    simp at e
    rw [Wp_body]
    simp [ixA_nat hS, hS.at, hi, wrap_succ (hS.lt hi), allTo_succ hi, e, hP]
    exact fun e => by rw [firstAt_some hi hP e]
  · intro hP
    rw [Wp_body]
    simp
    rw [firstAt_none (allTo_len.1 hP)]
theorem c_ContainsFuncO {s : Cell} {xs : List POp} (hS : Sl h s 6 encO xs) {f : FuncId} {caps : List (Nat × Nat × Nat)} {p : POp → Bool} (ha : Answers h f caps encO xs p) :
    Dz.den 74 [.c s, .c (.fn f caps)] h = some (.c (.bool (xs.any p)), h) := by
  refine den_plain rfl Tryz.func74 rfl rfl ?_
  simp [Tryz.f74, c_IndexFuncO hS ha, firstAt_ge]
  rw [Bool.eq_iff_iff]; simp
theorem c_IndexFuncV {s : Cell} {xs : List PVal} (hS : Sl h s 2 encV xs) {f : FuncId} {caps : List (Nat × Nat × Nat)} {p : PVal → Bool} (ha : Answers h f caps encV xs p) :
    Dz.den 138 [.c s, .c (.fn f caps)] h = some (.c (.int .i64 (firstAt p xs)), h) := by
  refine den_plain rfl Tryz.func138 rfl rfl ?_
  simp [Tryz.f138, hS.lenA]
  refine count_wp xs.length (fun i => ([.c s, .c (.fn f caps), .c (ci 0), .c (ci xs.length), .c (ci i)], [], [], h)) (fun i => AllTo xs i fun x => p x = false) rfl (by simp) ?_ ?_
  · intro i hi hP
    have e := ha _ (List.getElem_mem hi)
    simp at e
    rw [Wp_body]
    simp [ixA_nat hS, hS.at, hi, wrap_succ (hS.lt hi), allTo_succ hi, e, hP]
    exact fun e => by rw [firstAt_some hi hP e]
  · intro hP
    rw [Wp_body]
    simp
    rw [firstAt_none (allTo_len.1 hP)]
theorem c_ContainsFuncV {s : Cell} {xs : List PVal} (hS : Sl h s 2 encV xs) {f : FuncId} {caps : List (Nat × Nat × Nat)} {p : PVal → Bool} (ha : Answers h f caps encV xs p) :
    Dz.den 141 [.c s, .c (.fn f caps)] h = some (.c (.bool (xs.any p)), h) := by
  refine den_plain rfl Tryz.func141 rfl rfl ?_
  simp [Tryz.f141, c_IndexFuncV hS ha, firstAt_ge]
  rw [Bool.eq_iff_iff]; simp
end Go.Proofs.YtdpffdpgcooagaaGreat

/-
  THE PROGRAM'S CodeOk, OpUses: what they answer.
-/
set_option maxRecDepth 8000
namespace Go.Proofs.YtdpffdpgcooagaaGreat
open Go.AM
variable {h : H}
def wrongP (n : Nat) (o : POp) : Bool := !opOk o || (hasT o.kind && decide ((n : Int) ≤ o.to))
theorem c_wrong {id : Nat} {s : Cell} {c : List POp} (hg : h.get id = some ⟨false, 1, [[s]]⟩) (hS : Sl h s 6 encO c) (o : POp) :
    Dz.den 72 [.g (encO o), .c (.ptr id 0 0)] h = some (.c (.bool (wrongP c.length o)), h) := by
  refine den_plain rfl Tryz.func72 rfl rfl ?_
  have e1 := c_IOpOk (h := h) o
  have e2 := c_hasT (h := h) o
  simp at e1 e2
  simp [Tryz.f72, e1, e2, H.cellsAt, hg, hS.lenA, wrongP]
  cases opOk o <;> cases hasT o.kind <;> simp
theorem codeOk_any (c : List POp) : codeOk c = (decide (1 ≤ c.length ∧ c.length ≤ 16) && !(c.any (wrongP c.length))) := by
  unfold codeOk
  congr 1
  rw [Bool.eq_iff_iff]
  simp only [List.all_eq_true, Bool.not_eq_true', List.any_eq_false, wrongP, Bool.and_eq_true, Bool.or_eq_true, decide_eq_true_eq]
  constructor
  · intro h x hx
    have := h x hx
    rw [this.1]
    rcases this.2 with h2 | h2
    · simp [h2]
    · simp; intro _; omega
  · intro h x hx
    have := h x hx
    cases h1 : opOk x <;> cases h2 : hasT x.kind <;> simp [h1, h2] at this ⊢
    omega
theorem c_ICodeOk {s : Cell} {c : List POp} (hS : Sl h s 6 encO c) : Dz.den 42 [.c s] h = some (.c (.bool (codeOk c)), h) := by
  refine den_plain rfl Tryz.func42 rfl rfl ?_
  have hg : (h.push ⟨false, 1, [[s]]⟩).get h.length = some ⟨false, 1, [[s]]⟩ := get_push_self
  have hS' := hS.push ⟨false, 1, [[s]]⟩
  have e := c_ContainsFuncO hS' (f := 72) (caps := [(h.length, 0, 0)]) (p := wrongP c.length) (fun x _ => c_wrong hg hS' x)
  rw [codeOk_any]
  simp [Tryz.f42, hg, hS'.lenA, e]
  grind
end Go.Proofs.YtdpffdpgcooagaaGreat

/-
  THE PROGRAM'S OpUses: what it answers.
-/
set_option maxRecDepth 8000
namespace Go.Proofs.YtdpffdpgcooagaaGreat
open Go.AM
variable {h : H}
theorem Sl.new1 {h : H} {n : Nat} (hn : n = h.length) (xs : List Int) (hl : xs.length ≤ sMost) : Sl (h.push ⟨false, 1, xs.map encI⟩) (.sl n 0 xs.length none) 1 encI xs := by
  subst hn; exact Sl.new (by simp) hl
theorem uses_reads (o : POp) (hk : 1 ≤ o.kind ∧ o.kind ≤ 14) : uses o = (if o.kind = 2 then [83] else if o.kind = 3 ∨ o.kind = 6 then [82, 83] else if o.kind = 10 ∨ o.kind = 11 ∨ o.kind = 12 ∨ o.kind = 14 then [82] else ([] : List UInt8)).map fun b => if b = 82 then o.r else o.s := by
  unfold uses
  split
  · rfl
  · split
    · rfl
    · split <;> rfl
theorem bytes_eq {s : ByteArray} {l : List UInt8} (h : s.data.toList = l) : s = ⟨⟨l⟩⟩ := by
  obtain ⟨⟨d⟩⟩ := s; simp at h; rw [h]
set_option maxRecDepth 8000 in
theorem c_OpUses (o : POp) (hok : opOk o = true) : @Wp _ (Dz.den 32 [.g (encO o)] h) ⟨fun r => ∃ s, r.1 = .c s ∧ Ext h r.2 ∧ Sl r.2 s 1 encI (uses o)⟩ := by
  refine den_wp rfl Tryz.func32 rfl ?_
  have hk : 1 ≤ o.kind ∧ o.kind ≤ 14 := by simp [opOk] at hok; exact hok.1.1.1.1
  have e1 := c_IOpOk (h := h) o
  obtain ⟨wd, hs, rd, fl, hm, e2⟩ := c_how (h := h) o
  have hr := hm.reads
  have hu := uses_reads o hk
  rw [← hr] at hu
  rw [hu]
  simp at e1 e2
  simp [Tryz.f32, e1, hok, e2]
  have cases : rd.data.toList = [83] ∨ rd.data.toList = [82, 83] ∨ rd.data.toList = [82] ∨ rd.data.toList = [] := by
    rw [hr]; split
    · simp
    · split
      · simp
      · split <;> simp
  have e83 : ∀ l, (⟨⟨83 :: l⟩⟩ : ByteArray) ≠ ByteArray.empty := fun l e => by cases e
  rcases cases with hc | hc | hc | hc
  · obtain rfl := bytes_eq hc
    have d0 : Utf8.decode ⟨⟨[83]⟩⟩ 0 = (83, 1) := by decide
    have ds : (⟨⟨[83]⟩⟩ : ByteArray).size = 1 := rfl
    have dn : ¬ (⟨⟨[83]⟩⟩ : ByteArray) = ByteArray.empty := fun e => by cases e
    clear hu hr
    refine Wp_round ?_
    rw [Wp_body]
    simp [d0, ds, dn, appendA, elemsOf, H.elems, lenMost]
    refine Wp_round ?_
    rw [Wp_body]
    simp [d0, ds, dn]
    exact ⟨(Ext.push _ _).trans (Ext.push _ _), Sl.new1 (by simp) [o.s] (by simp [sMost])⟩
  · obtain rfl := bytes_eq hc
    have d0 : Utf8.decode ⟨⟨[82, 83]⟩⟩ 0 = (82, 1) := by decide
    have d1 : Utf8.decode ⟨⟨[82, 83]⟩⟩ 1 = (83, 1) := by decide
    have ds : (⟨⟨[82, 83]⟩⟩ : ByteArray).size = 2 := rfl
    have dn : ¬ (⟨⟨[82, 83]⟩⟩ : ByteArray) = ByteArray.empty := fun e => by cases e
    clear hu hr
    refine Wp_round ?_
    rw [Wp_body]
    simp [d0, d1, ds, dn, appendA, elemsOf, H.elems, lenMost]
    have hx : Ext h ((h.push ⟨false, 1, [[.int .i64 o.r]]⟩).push ⟨false, 1, [[.int .i64 o.r]]⟩) := (Ext.push _ _).trans (Ext.push _ _)
    have hS : Sl ((h.push ⟨false, 1, [[.int .i64 o.r]]⟩).push ⟨false, 1, [[.int .i64 o.r]]⟩) (.sl (h.length + 1) 0 1 none) 1 encI [o.r] := Sl.new1 (by simp) [o.r] (by simp [sMost])
    have hW : ((h.push ⟨false, 1, [[.int .i64 o.r]]⟩).push ⟨false, 1, [[.int .i64 o.r]]⟩).get (h.length + 1) = some ⟨false, 1, [[.int .i64 o.r]]⟩ := by
      have := get_push_self (h := h.push ⟨false, 1, [[.int .i64 o.r]]⟩) (b := ⟨false, 1, [[.int .i64 o.r]]⟩)
      rwa [length_push] at this
    have hKl : (((h.push ⟨false, 1, [[.int .i64 o.r]]⟩).push ⟨false, 1, [[.int .i64 o.r]]⟩) : H).length = h.length + 2 := by simp
    generalize hK : (h.push ⟨false, 1, [[.int .i64 o.r]]⟩).push ⟨false, 1, [[.int .i64 o.r]]⟩ = K at *
    have hT : elemsOf (K.push ⟨false, 1, [[.int .i64 o.s]]⟩) (.c (.sl (h.length + 1 + 1) 0 1 none)) = some ([o.s].map encI) := by
      rw [show h.length + 1 + 1 = K.length by omega]
      simp [elemsOf, H.elems]
    obtain ⟨s', k', e3, A⟩ := appendS_ok (enc := encI) (ys := [o.s]) (hS.push ⟨false, 1, [[.int .i64 o.s]]⟩) (fun id hid => by
      simp only [Cell.ids, List.mem_singleton] at hid; subst hid; exact ⟨_, get_push_some hW, rfl⟩) (fun _ _ _ _ e => by cases e) hT (by simp) (by simp [lenMost])
    refine Wp_round ?_
    rw [Wp_body]
    simp [d0, d1, ds, dn, e3, hKl]
    refine Wp_round ?_
    rw [Wp_body]
    simp [ds, dn]
    refine ⟨⟨?_, fun id hid => ?_⟩, A.sl⟩
    · have := A.len; simp at this; omega
    · rw [A.keep id (by simp; omega) (by simp [Cell.ids]; omega), get_push_lt (by omega), hx.2 id hid]
  · obtain rfl := bytes_eq hc
    have d0 : Utf8.decode ⟨⟨[82]⟩⟩ 0 = (82, 1) := by decide
    have ds : (⟨⟨[82]⟩⟩ : ByteArray).size = 1 := rfl
    have dn : ¬ (⟨⟨[82]⟩⟩ : ByteArray) = ByteArray.empty := fun e => by cases e
    clear hu hr
    refine Wp_round ?_
    rw [Wp_body]
    simp [d0, ds, dn, appendA, elemsOf, H.elems, lenMost]
    refine Wp_round ?_
    rw [Wp_body]
    simp [d0, ds, dn]
    exact ⟨(Ext.push _ _).trans (Ext.push _ _), Sl.new1 (by simp) [o.r] (by simp [sMost])⟩
  · obtain rfl := bytes_eq hc
    have ds : (⟨⟨[]⟩⟩ : ByteArray).size = 0 := rfl
    clear hu hr
    refine Wp_round ?_
    rw [Wp_body]
    simp [ds]
    exact ⟨Ext.refl _, by simp, rfl⟩
end Go.Proofs.YtdpffdpgcooagaaGreat
