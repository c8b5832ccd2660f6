/-
  Proves that a small evaluator over abstract cells and the machine of the model come to the same, and what the calculus of its answers says; under no condition.
-/
import Derived.Test.YtmkiojlebjknlaaGreatAm3
set_option linter.all false
/-
 THE ABSTRACT MACHINE, D2: a region that draws its order: what is reckoned of its operations, standing as they are written.
-/
namespace Go.AM
section
variable {T : TT} {P : Program}
variable {B : Nat} {h0 : H} {ι0 : Plan} {w0 : World} {ι : Plan} {β γ : Nat → Nat} {nt : Nat} {st : St} {a : Act} {w : World}
theorem evalOp_mem {call : CallF} {esc : List Tmp} {o : Oper} {st' : St} (hop : memFree o.op = true) (h : evalOp T call esc o st = some st') (m : St) :
  evalOp T call esc o { m with env := st.env } = some { m with env := st'.env } := by
 obtain ⟨dst, op, type, pos, after, guard⟩ := o
 have V : ∀ x, ({ m with env := st.env } : St).val x = st.val x := fun x => by cases x <;> rfl
 have S : ∀ x, ({ m with env := st.env } : St).slot x = st.slot x := fun x => by cases x <;> rfl
 have PT : ∀ s, ({ m with env := st.env } : St).put dst s = { m with env := (st.put dst s).env } := fun s => by cases dst <;> rfl
 cases op <;> simp only [memFree, Bool.false_eq_true] at hop <;> simp only [evalOp] at h ⊢ <;> simp only [V, S, PT]
 case move x => cases h; rfl
 case assign x => cases h; rfl
 case pick c x y =>
  split at h
  ·cases h; rfl
  ·cases h
 case unOp op ty x => obtain ⟨v, h1, rfl⟩ := Option.map_eq_some_iff.1 h; rw [h1]; rfl
 case fieldAddr s x f =>
  split at h
  ·split at h
   ·cases h
   ·split at h
    ·cases h; simp only [PT]
    ·cases h; simp only [PT]
    ·cases h
  ·cases h
 case field s x f =>
  split at h
  ·split at h
   ·cases h
   ·split at h
    ·rename_i h1; obtain ⟨v, h2, rfl⟩ := Option.map_eq_some_iff.1 h; simp only [h1, ↓reduceIte, h2, Option.map_some]
    ·cases h
  ·cases h
 case index t x ix =>
  split at h
  ·split at h
   ·split at h
    ·cases h; simp only [*, ↓reduceIte]
    ·cases h
   ·cases h
  ·cases h
 case extract x ix =>
  split at h
  ·obtain ⟨v, h2, rfl⟩ := Option.map_eq_some_iff.1 h; simp only [h2, Option.map_some]
  ·cases h
theorem SR.congr {st2 : St} (hs : SR B h0 ι0 w0 nt st a w) (eh : st2.h = st.h) (eb : st2.bx = st.bx) (ei : st2.its = st.its) (ee : ∀ t, lk st2.env t = lk st.env t) : SR B h0 ι0 w0 nt st2 a w := by
 obtain ⟨ι, β, γ, her, hw⟩ := hs
 refine ⟨ι, β, γ, ?_, ?_⟩
 ·rw [eh, eb, ei]; exact ⟨her.df, her.nt, fun t s hl => her.slot t s (by rw [← ee t]; exact hl)⟩
 ·unfold WRs at hw ⊢; rw [eh, eb, ei]; exact hw
theorem freshB_ok {esc : List Tmp} {o : Oper} (h : freshB esc o st = true) : freshOk esc o st := by
 intro t d ho hd he
 unfold freshB at h
 rw [ho, hd] at h
 simp only [he, Bool.false_or] at h
 cases hl : lk st.bx d with
 | none => rfl
 | some x => rw [hl] at h; cases h
def StepX (T : TT) (call qcall : CallF) (esc : List Tmp) (nt : Nat) (ops : List Oper) (xs : List Nat) (i : Nat) (o : Oper) (x y : St) : Prop :=
 dstOk nt o = true ∧ freshB esc o x = true ∧ ((wantedA ops x o = some false ∧ y = x.put o.dst (.val undefV)) ∨ (wantedA ops x o = some true ∧ evalOp T (if xs.contains i then call else qcall) esc o x = some y))
theorem runX_spec {call qcall : CallF} {esc : List Tmp} {ops : List Oper} {xs : List Nat} : ∀ (l : List Oper) (i : Nat) (st : St) (ms : List (Nat × St)) (E : St) (ms' : List (Nat × St)), runX T call qcall esc nt ops xs i l st ms = some (E, ms') →
  ∃ s : Nat → St, s i = st ∧ s (i + l.length) = E ∧ (∀ j o, l[j]? = some o → StepX T call qcall esc nt ops xs (i + j) o (s (i + j)) (s (i + j + 1))) ∧
   ∀ k u, lk ms' k = some u → (∃ j, j < l.length ∧ k = i + j + 1 ∧ u = s k) ∨ lk ms k = some u
 | [], i, st, ms, E, ms', h => by
  simp only [runX, Option.some.injEq, Prod.mk.injEq] at h
  obtain ⟨rfl, rfl⟩ := h
  exact ⟨fun _ => st, rfl, rfl, fun j o hj => by simp at hj, fun k u hk => .inr hk⟩
 | o :: l, i, st, ms, E, ms', h => by
  simp only [runX] at h
  have key : ∀ st1, (∀ s : Nat → St, s i = st → s (i + 1) = st1 → StepX T call qcall esc nt ops xs i o (s i) (s (i + 1))) →
    runX T call qcall esc nt ops xs (i + 1) l st1 (if xs.contains i then (i + 1, st1) :: ms else ms) = some (E, ms') →
    ∃ s : Nat → St, s i = st ∧ s (i + (o :: l).length) = E ∧ (∀ j o', (o :: l)[j]? = some o' → StepX T call qcall esc nt ops xs (i + j) o' (s (i + j)) (s (i + j + 1))) ∧
     ∀ k u, lk ms' k = some u → (∃ j, j < (o :: l).length ∧ k = i + j + 1 ∧ u = s k) ∨ lk ms k = some u := by
   intro st1 hstep hrun
   obtain ⟨s, e1, e2, e3, e4⟩ := runX_spec l (i + 1) st1 _ E ms' hrun
   refine ⟨fun n => if n = i then st else s n, by simp, ?_, ?_, ?_⟩
   ·simp only [List.length_cons]
    rw [if_neg (by omega), ← e2]; congr 1; omega
   ·intro j o' hj
    cases j with
    | zero =>
     simp at hj; subst hj
     exact hstep (fun n => if n = i then st else s n) (by simp) (by simp [e1])
    | succ j =>
     simp at hj
     have := e3 j o' hj
     simp only
     rw [if_neg (by omega), if_neg (by omega)]
     rw [show i + (j + 1) = i + 1 + j by omega, show i + 1 + j + 1 = i + 1 + j + 1 from rfl]
     exact this
   ·intro k u hk
    rcases e4 k u hk with ⟨j, hj, rfl, rfl⟩ | hk2
    ·exact .inl ⟨j + 1, by simp; omega, by omega, by show _ = (if _ then _ else _); rw [if_neg (by omega)]⟩
    ·clear hk
     by_cases hc : xs.contains i = true
     ·rw [if_pos hc, lk_cons] at hk2
      by_cases e : i + 1 = k
      ·subst e
       rw [if_pos rfl] at hk2
       obtain rfl : st1 = u := by simpa using hk2
       exact .inl ⟨0, by simp, rfl, by show _ = (if _ then _ else _); rw [if_neg (by omega), e1]⟩
      ·rw [if_neg e] at hk2; exact .inr hk2
     ·rw [if_neg hc] at hk2; exact .inr hk2
  split at h
  ·rename_i hd
   simp only [Bool.and_eq_true] at hd
   split at h
   ·cases h
   ·rename_i hwa
    refine key _ (fun s a b => ⟨hd.1, by rw [a]; exact hd.2, .inl ⟨by rw [a]; exact hwa, by rw [a, b]⟩⟩) h
   ·rename_i hwa
    obtain ⟨st1, h1, h2⟩ := Option.bind_eq_some_iff.1 h
    exact key _ (fun s a b => ⟨hd.1, by rw [a]; exact hd.2, .inr ⟨by rw [a]; exact hwa, by rw [a, b]; exact h1⟩⟩) h2
  ·cases h
theorem lexFrom_spec {ops : Array Oper} : ∀ (f k : Nat) (listed : Array Bool), Region.lexFrom .any ops f k listed = true → k + f = ops.size → listed.size = ops.size → (∀ j, j < ops.size → listed.getD j true = decide (j < k)) →
  ∀ i, k ≤ i → i < ops.size → ∃ o, ops[i]? = some o ∧ (∀ e ∈ o.after, Region.binds .any e = true → e.on < i) ∧
   ∀ j oj, i < j → ops[j]? = some oj → (∀ e ∈ oj.after, Region.binds .any e = true → e.on ≠ i) → o.apart ops oj = true
 | 0, k, listed, _, hk, _, _, i, h1, h2 => by omega
 | f + 1, k, listed, h, hk, hs, hl, i, h1, h2 => by
  simp only [Region.lexFrom, Bool.and_eq_true] at h
  obtain ⟨⟨hr, hf⟩, hrest⟩ := h
  have both : ∀ j, listed.getD j false = true → j < k := by
   intro j hj
   rcases Nat.lt_or_ge j ops.size with hlt | hge
   ·have := hl j hlt
    have e : listed.getD j true = listed.getD j false := by
     rw [Array.getD_eq_getD_getElem?, Array.getD_eq_getD_getElem?, Array.getElem?_eq_getElem (by omega)]; rfl
    rw [e, hj] at this; simpa using this.symm
   ·rw [Array.getD_eq_getD_getElem?, Array.getElem?_eq_none (by omega)] at hj; cases hj
  by_cases hik : i = k
  ·subst hik
   obtain ⟨hun, o, ho, hall⟩ := mem_ready.1 (List.contains_iff_mem.1 hr)
   refine ⟨o, ho, fun e he hb => both _ (hall e he hb), fun j oj hij hj hno => ?_⟩
   exact Region.free_spec ho hf j oj hj (by omega) (by
    have hlt : j < ops.size := (Array.getElem?_eq_some_iff.1 hj).1
    rw [hl j hlt]; simp; omega) hno
  ·refine lexFrom_spec f (k + 1) _ hrest (by omega) (by simp [hs]) (fun j hj => ?_) i (by omega) h2
   by_cases e : k = j
   ·subst e
    simp [Array.getD_eq_getD_getElem?, hs, hj]
   ·rw [getD_set_ne true e, hl j hj]
    by_cases h3 : j < k
    ·simp [h3]; omega
    ·simp [h3]; omega
theorem lexB_spec {ops : Array Oper} (h : Region.lexB .any ops = true) : ∀ i, i < ops.size → ∃ o, ops[i]? = some o ∧ (∀ e ∈ o.after, Region.binds .any e = true → e.on < i) ∧
   ∀ j oj, i < j → ops[j]? = some oj → (∀ e ∈ oj.after, Region.binds .any e = true → e.on ≠ i) → o.apart ops oj = true := by
 simp only [Region.lexB, Bool.and_eq_true] at h
 intro i hi
 refine lexFrom_spec ops.size 0 _ h.2 (by omega) (by simp) (fun j hj => ?_) i (Nat.zero_le _) hi
 simp [Array.getD_eq_getD_getElem?, hj]
def Closed (ops : Array Oper) (S : Nat → Prop) : Prop := ∀ i o, S i → ops[i]? = some o → ∀ e ∈ o.after, Region.binds .any e = true → S e.on
theorem foldl_mask (l : List Nat) (es : List Edge) : ∀ (m i : Nat), (es.foldl (fun m e => m ||| 2 ^ e.on ||| (l[e.on]?.getD 0)) m).testBit i = true → m.testBit i = true ∨ ∃ e ∈ es, e.on = i ∨ (l[e.on]?.getD 0).testBit i = true := by
 induction es with
 | nil => intro m i h; exact .inl h
 | cons e es ih =>
  intro m i h
  rw [List.foldl_cons] at h
  rcases ih _ i h with h | ⟨e', he', h⟩
  ·simp only [Nat.testBit_or, Bool.or_eq_true] at h
   rcases h with (h | h) | h
   ·exact .inl h
   ·rw [Nat.testBit_two_pow] at h
    exact .inr ⟨e, by simp, .inl (by simpa using h)⟩
   ·exact .inr ⟨e, by simp, .inr h⟩
  ·exact .inr ⟨e', by simp [he'], h⟩
theorem waitTo_length (ops : List Oper) : ∀ n, (waitTo ops n).length = n
 | 0 => rfl
 | n + 1 => by simp [waitTo, waitTo_length ops n]
theorem waitTo_spec {ops : List Oper} {S : Nat → Prop} (hS : Closed ops.toArray S) : ∀ (n j i : Nat), ((waitTo ops n).getD j 0).testBit i = true → (∀ e ∈ ((ops[j]?.map (·.after.toList)).getD []), Region.binds .any e = true → S e.on) → S i
 | 0, j, i, h, _ => by simp [waitTo] at h
 | n + 1, j, i, h, hj => by
  simp only [waitTo] at h
  rw [List.getD_eq_getElem?_getD, List.getElem?_append] at h
  split at h
  ·rw [← List.getD_eq_getElem?_getD] at h
   exact waitTo_spec hS n j i h hj
  ·rename_i hlt
   rw [waitTo_length] at h hlt
   by_cases hjn : j = n
   ·subst hjn
    simp only [Nat.sub_self, List.getElem?_cons_zero, Option.getD_some] at h
    cases ho : ops[j]? with
    | none => rw [ho] at h; simp at h
    | some o =>
     rw [ho] at h hj
     simp only [Option.map_some, Option.getD_some] at hj
     simp only [waitMask] at h
     rcases foldl_mask _ _ _ _ h with h | ⟨e, he, h⟩
     ·simp at h
     ·have he' := List.mem_filter.1 he
      have hse := hj e he'.1 he'.2
      rcases h with h | h
      ·rw [← h]; exact hse
      ·rw [← List.getD_eq_getElem?_getD] at h
       refine waitTo_spec hS j e.on i h (fun e2 h2 hb2 => ?_)
       cases ho2 : ops[e.on]? with
       | none => rw [ho2] at h2; simp at h2
       | some o2 =>
        rw [ho2] at h2
        simp only [Option.map_some, Option.getD_some] at h2
        exact hS e.on o2 hse (by simpa using ho2) e2 (by simpa using h2) hb2
   ·rw [List.getElem?_eq_none (by simp; omega)] at h; simp at h
termination_by n => n
end
end Go.AM

/-
 THE ABSTRACT MACHINE, D3: a region that draws its order, some of whose operations change things: whatever is drawn, it comes out as it is written.
-/
namespace Go.AM
section
variable {T : TT} {P : Program} (ok : T.Ok P)
variable {B : Nat} {h0 : H} {ι0 : Plan} {w0 : World} {ι : Plan} {β γ : Nat → Nat} {nt : Nat} {st : St} {a : Act} {w : World}
theorem wanted_ok {ops : Array Oper} {o : Oper} {b : Bool} (her : ER nt ι β γ st.h.length st.bx st.its st.env a) (h : wantedA ops.toList st o = some b) : Region.wanted o (yielded ops a.tmps) = b := by
 unfold wantedA at h
 unfold Region.wanted
 cases hg : o.guard with
 | none => simp [hg] at h; simp [h]
 | some jw =>
  obtain ⟨j, want⟩ := jw
  simp only [hg] at h ⊢
  unfold yielded
  cases hj : ops[j]? with
  | none =>
   have : ops.toList[j]? = none := by simpa using hj
   simp [this] at h; simp [h]
  | some oj =>
   have : ops.toList[j]? = some oj := by simpa using hj
   simp only [this] at h
   cases hd : oj.dst with
   | none => simp [hd] at h; simp [hd, h]
   | some d =>
    simp only [hd, Option.bind_some] at h ⊢
    split at h
    ·rename_i b0 hl
     simp only [Option.some.injEq] at h
     have hs := her.slot d _ hl
     obtain ⟨hs, _⟩ := V.rel_c hs
     simp only [Cell.conc] at hs
     have hlt : d < a.tmps.size := by
      rcases Nat.lt_or_ge d a.tmps.size with h1 | h1
      ·exact h1
      ·simp [Array.getD, Nat.not_lt.2 h1] at hs; cases hs
     have : a.tmps[d]? = some (.bool b0) := by
      simp [Array.getD, hlt] at hs
      simp [hlt, hs]
     rw [this]
     rw [← h]; cases b0 <;> cases want <;> rfl
    ·rename_i hl
     simp only [Option.some.injEq] at h
     have hs := her.slot d _ hl
     have hs : a.tmps.getD d undef = undef := hs.1
     rcases Nat.lt_or_ge d a.tmps.size with h1 | h1
     ·have : a.tmps[d]? = some undef := by
       simp [Array.getD, h1] at hs
       simp [h1, hs]
      rw [this, ← h]; rfl
     ·have : a.tmps[d]? = none := by simp; omega
      rw [this, ← h]; rfl
    ·cases h
theorem quietCall_ok {call : CallF} (h : CallOk P call) : CallOk P (quietCall call) := by
 intro f args hh r h' hx
 unfold quietCall at hx
 split at hx
 ·rename_i r0 h1 hc
  split at hx
  ·cases hx; exact h _ _ _ _ _ hc
  ·cases hx
 ·cases hx
theorem quietCall_h {call : CallF} {f : FuncId} {args : List V} {h : H} {x : V × H} (hx : quietCall call f args h = some x) : x.2 = h := by
 unfold quietCall at hx
 split at hx
 ·split at hx
  ·rename_i hc; cases hx; exact hc.1
  ·cases hx
 ·cases hx
theorem callsVal_mem {call : CallF} {esc : List Tmp} {o : Oper} {st' : St} (ho : callsVal o.op = true) (h : evalOp T (quietCall call) esc o st = some st') : st'.h = st.h ∧ st'.bx = st.bx := by
 obtain ⟨dst, op, type, pos, after, guard⟩ := o
 cases op <;> simp only [callsVal, Bool.false_eq_true] at ho
 rename_i cl
 obtain ⟨callee, args, ts⟩ := cl
 cases callee <;> simp only [Bool.false_eq_true] at ho
 simp only [evalOp] at h
 split at h
 ·obtain ⟨r, h1, rfl⟩ := Option.map_eq_some_iff.1 h
  exact ⟨quietCall_h h1, by simp⟩
 ·cases h
structure Rep (ops : Array Oper) (xs : List Nat) (s : Nat → St) (S Pd : Nat → Prop) (k : Nat) (st : St) : Prop where
 kle : k ≤ xs.length
 cnt : ∀ p x, xs[p]? = some x → (S x ↔ p < k)
 h : st.h = (s (memAt xs k)).h
 bx : st.bx = (s (memAt xs k)).bx
 its : st.its = (s (memAt xs k)).its
 pend : ∀ t i o, Pd i → ops[i]? = some o → o.dst = some t → lk st.env t = none
 env : ∀ t, (∀ i o, Pd i → ops[i]? = some o → o.dst ≠ some t) → (∃ i o, S i ∧ ops[i]? = some o ∧ o.dst = some t ∧ (∀ j oj, S j → ops[j]? = some oj → oj.dst = some t → j ≤ i) ∧ lk st.env t = lk (s (i + 1)).env t) ∨
  ((∀ j oj, S j → ops[j]? = some oj → oj.dst ≠ some t) ∧ lk st.env t = lk (s 0).env t)
theorem incr_lt : ∀ (r : List Nat) (x : Nat), incr (x :: r) = true → ∀ z ∈ r, x < z
 | [], _, _, z, hz => by cases hz
 | y :: r, x, h, z, hz => by
  simp only [incr, Bool.and_eq_true, decide_eq_true_eq] at h
  rcases List.mem_cons.1 hz with rfl | hz
  ·exact h.1
  ·exact Nat.lt_trans h.1 (incr_lt r y h.2 z hz)
theorem incr_sorted : ∀ (xs : List Nat), incr xs = true → xs.Pairwise (· < ·)
 | [], _ => List.Pairwise.nil
 | [x], _ => by simp
 | x :: y :: r, h => by
  have h2 := h
  simp only [incr, Bool.and_eq_true] at h
  exact List.Pairwise.cons (incr_lt _ _ h2) (incr_sorted (y :: r) h.2)
theorem opAt_some {l : List Oper} {j : Nat} {f : Oper → Bool} (h : opAt l j f = true) : ∃ o, l[j]? = some o ∧ f o = true := by
 unfold opAt at h
 split at h
 ·rename_i o ho; exact ⟨o, ho, h⟩
 ·cases h
structure RowX (esc : List Tmp) (ops : Array Oper) (xs : List Nat) : Prop where
 sort : xs.Pairwise (· < ·)
 row : ∀ y o, xs.contains y = true → ops[y]? = some o → isF esc o = false → ∀ x ∈ xs, x < y → ((waitTo ops.toList ops.size).getD y 0).testBit x = true
 calls : ∀ y o, xs.contains y = true → ops[y]? = some o → isF esc o = false → callsVal o.op = false → ∀ i oi, i ∈ xs → y < i → ops[i]? = some oi → isF esc oi = true → ((waitTo ops.toList ops.size).getD i 0).testBit y = true
 use : ∀ i oi, i ∈ xs → ops[i]? = some oi → isF esc oi = true → ∀ j oj, ops[j]? = some oj → (∃ e ∈ oj.after, Region.binds .any e = true ∧ e.on = i) → ∀ x ∈ xs, x < i → ((waitTo ops.toList ops.size).getD j 0).testBit x = true
theorem rowX_spec {esc : List Tmp} {ops : Array Oper} {xs : List Nat} (h : rowX esc ops.toList xs = true) : RowX esc ops xs := by
 simp only [rowX, Bool.and_eq_true, Array.length_toList] at h
 obtain ⟨⟨h1, h2⟩, h3⟩ := h
 have two : ∀ y o, xs.contains y = true → ops[y]? = some o → isF esc o = false → (∀ x ∈ xs, x < y → ((waitTo ops.toList ops.size).getD y 0).testBit x = true) ∧
   (callsVal o.op = false → ∀ i oi, i ∈ xs → y < i → ops[i]? = some oi → isF esc oi = true → ((waitTo ops.toList ops.size).getD i 0).testBit y = true) := by
  intro y o hy ho hf
  have := List.all_eq_true.1 h2 y (by simpa using hy)
  obtain ⟨o', ho', hb⟩ := opAt_some this
  have : ops.toList[y]? = some o := by simpa using ho
  rw [this] at ho'; cases ho'
  rw [hf] at hb
  simp only [Bool.false_or, Bool.and_eq_true] at hb
  refine ⟨fun x hx hlt => ?_, fun hc i oi hi hlt hoi hfi => ?_⟩
  ·have := List.all_eq_true.1 hb.1 x hx
   simp only [Bool.or_eq_true, decide_eq_true_eq] at this
   rcases this with this | this
   ·omega
   ·exact this
  ·have h4 := hb.2
   rw [hc, Bool.false_or] at h4
   have := List.all_eq_true.1 h4 i hi
   have e : opAt ops.toList i (isF esc) = true := by
    unfold opAt
    have : ops.toList[i]? = some oi := by simpa using hoi
    rw [this]; exact hfi
   rw [e] at this
   simp only [Bool.or_eq_true, decide_eq_true_eq, Bool.not_true, Bool.false_eq_true, or_false] at this
   rcases this with this | this
   ·omega
   ·exact this
 refine ⟨incr_sorted xs h1, fun y o a b c => (two y o a b c).1, fun y o a b c => (two y o a b c).2, fun i oi hi hoi hfi j oj hoj he x hx hlt => ?_⟩
 have := List.all_eq_true.1 h3 i hi
 have e : opAt ops.toList i (isF esc) = true := by
  unfold opAt
  have : ops.toList[i]? = some oi := by simpa using hoi
  rw [this]; exact hfi
 rw [e] at this
 simp only [Bool.not_true, Bool.false_or] at this
 have := List.all_eq_true.1 this j (List.mem_range.2 (Array.getElem?_eq_some_iff.1 hoj).1)
 have e : opAt ops.toList j (fun o => o.after.any fun e => Region.binds .any e && e.on == i) = true := by
  unfold opAt
  have : ops.toList[j]? = some oj := by simpa using hoj
  rw [this]
  obtain ⟨e, he, hb, hon⟩ := he
  exact Array.any_eq_true'.2 ⟨e, he, by simp [hb, hon]⟩
 rw [e] at this
 simp only [Bool.not_true, Bool.false_or] at this
 have := List.all_eq_true.1 this x hx
 simp only [Bool.or_eq_true, decide_eq_true_eq] at this
 rcases this with this | this
 ·omega
 ·exact this
theorem sorted_lt {xs : List Nat} (h : xs.Pairwise (· < ·)) {p q x y : Nat} (hx : xs[p]? = some x) (hy : xs[q]? = some y) (hpq : p < q) : x < y := by
 obtain ⟨h1, rfl⟩ := List.getElem?_eq_some_iff.1 hx
 obtain ⟨h2, rfl⟩ := List.getElem?_eq_some_iff.1 hy
 exact List.pairwise_iff_getElem.1 h p q h1 h2 hpq
theorem filter_lt : ∀ (xs : List Nat), xs.Pairwise (· < ·) → ∀ j q x, xs[q]? = some x → (x < j ↔ q < (xs.filter (· < j)).length)
 | [], _, j, q, x, h => by simp at h
 | x0 :: r, hp, j, q, x, h => by
  rw [List.pairwise_cons] at hp
  by_cases h0 : x0 < j
  ·rw [List.filter_cons_of_pos (by simpa using h0)]
   cases q with
   | zero => simp at h; subst h; simp [h0]
   | succ q =>
    have := filter_lt r hp.2 j q x (by simpa using h)
    simp only [List.length_cons, Nat.add_lt_add_iff_right]; exact this
  ·rw [List.filter_cons_of_neg (by simpa using h0)]
   have e : r.filter (· < j) = [] := by
    rw [List.filter_eq_nil_iff]
    intro z hz
    have := hp.1 z hz
    simp; omega
   rw [e]
   simp only [List.length_nil, Nat.not_lt_zero, iff_false, Nat.not_lt]
   cases q with
   | zero => simp at h; omega
   | succ q => have := hp.1 x (List.mem_of_getElem? (by simpa using h)); omega
theorem memAt_succ {xs : List Nat} {p x : Nat} (h : xs[p]? = some x) : memAt xs (p + 1) = x + 1 := by simp [memAt, List.getD_eq_getElem?_getD, h]
theorem memAt_gap {xs : List Nat} (hp : xs.Pairwise (· < ·)) {k i : Nat} (hk : k ≤ xs.length) (h : ∀ q x, xs[q]? = some x → (x < i ↔ q < k)) : memAt xs k ≤ i ∧ ∀ l, memAt xs k ≤ l → l < i → xs.contains l = false := by
 refine ⟨?_, fun l h1 h2 => ?_⟩
 ·cases k with
  | zero => simp [memAt]
  | succ k =>
   obtain ⟨x, hx⟩ : ∃ x, xs[k]? = some x := ⟨xs[k], List.getElem?_eq_getElem (by omega)⟩
   rw [memAt_succ hx]
   exact (h k x hx).2 (by omega)
 ·cases hc : xs.contains l with
  | false => rfl
  | true =>
   have hm : l ∈ xs := by simpa using hc
   obtain ⟨q, hq, e⟩ := List.getElem_of_mem hm
   have hq' : xs[q]? = some l := by rw [List.getElem?_eq_getElem hq, e]
   have hqk := (h q l hq').1 h2
   exfalso
   cases k with
   | zero => omega
   | succ k =>
    obtain ⟨x, hx⟩ : ∃ x, xs[k]? = some x := ⟨xs[k], List.getElem?_eq_getElem (by omega)⟩
    rw [memAt_succ hx] at h1
    rcases Nat.lt_or_ge q k with hlt | hge
    ·have := sorted_lt hp hq' hx hlt; omega
    ·have : q = k := by omega
     subst this
     rw [hx] at hq'; cases hq'; omega
end
end Go.AM

/-
 THE ABSTRACT MACHINE, D4: a region that draws its order, whatever is drawn.
-/
namespace Go.AM
section
variable {T : TT} {P : Program}
variable {B : Nat} {h0 : H} {ι0 : Plan} {w0 : World} {nt : Nat} {a : Act} {w : World}
variable {call : CallF} {esc : List Tmp} {ops : Array Oper} {xs : List Nat} {prs : List (Nat × Nat)} {s : Nat → St}
def StepsX (T : TT) (call : CallF) (esc : List Tmp) (nt : Nat) (ops : Array Oper) (xs : List Nat) (s : Nat → St) : Prop := ∀ i o, ops[i]? = some o → StepX T call (quietCall call) esc nt ops.toList xs i o (s i) (s (i + 1))
def KindsX (ops : Array Oper) (xs : List Nat) : Prop := ∀ i o, ops[i]? = some o → drawOp o.op = true ∧ (xs.contains i = true ∨ readOp o.op = true ∨ callsVal o.op = true)
def LexF (ops : Array Oper) : Prop := ∀ i, i < ops.size → ∃ o, ops[i]? = some o ∧ (∀ e ∈ o.after, Region.binds .any e = true → e.on < i) ∧
   ∀ j oj, i < j → ops[j]? = some oj → (∀ e ∈ oj.after, Region.binds .any e = true → e.on ≠ i) → o.apart ops oj = true
theorem step_left (hs : StepsX T call esc nt ops xs s) (hk : KindsX ops xs) {i : Nat} {o : Oper} (ho : ops[i]? = some o) :
  (∃ sl, (s (i + 1)).env = putE (s i).env o.dst sl) ∧ (s (i + 1)).its = (s i).its ∧ (xs.contains i = false → (s (i + 1)).h = (s i).h ∧ (s (i + 1)).bx = (s i).bx) := by
 obtain ⟨h1, h2, h3⟩ := hs i o ho
 rcases h3 with ⟨h3, h4⟩ | ⟨h3, h4⟩
 ·rw [h4]; exact ⟨⟨_, put_env _ _ _⟩, by simp, fun _ => by simp⟩
 ·have hf := freshB_ok h2
  obtain ⟨g1, g2⟩ := hk i o ho
  have L := evalOp_env (e2 := (s i).env) g1 hf h4 (fun _ _ _ _ => rfl)
  obtain ⟨l1, l2, sl, l3, l4⟩ := L
  refine ⟨⟨sl, l3⟩, l1, fun hc => ?_⟩
  rw [hc] at g2 h4
  simp only [Bool.false_eq_true, false_or, ↓reduceIte] at g2 h4
  rcases g2 with g2 | g2
  ·exact l2 g2
  ·exact callsVal_mem g2 h4
theorem mem_same (hs : StepsX T call esc nt ops xs s) (hk : KindsX ops xs) {i : Nat} : ∀ (d : Nat), i + d ≤ ops.size → (∀ l, i ≤ l → l < i + d → xs.contains l = false) → (s (i + d)).h = (s i).h ∧ (s (i + d)).bx = (s i).bx
 | 0, _, _ => ⟨rfl, rfl⟩
 | d + 1, h1, h2 => by
  have ih := mem_same hs hk d (by omega) (fun l a b => h2 l a (by omega))
  obtain ⟨o, ho⟩ : ∃ o, ops[i + d]? = some o := ⟨ops[i + d], Array.getElem?_eq_getElem (by omega)⟩
  have := (step_left hs hk ho).2.2 (h2 (i + d) (by omega) (by omega))
  rw [← Nat.add_assoc, this.1, this.2]; exact ih
theorem its_same (hs : StepsX T call esc nt ops xs s) (hk : KindsX ops xs) : ∀ (d : Nat), d ≤ ops.size → (s d).its = (s 0).its
 | 0, _ => rfl
 | d + 1, h1 => by
  obtain ⟨o, ho⟩ : ∃ o, ops[d]? = some o := ⟨ops[d], Array.getElem?_eq_getElem (by omega)⟩
  rw [(step_left hs hk ho).2.1, its_same hs hk d (by omega)]
theorem env_same (hs : StepsX T call esc nt ops xs s) (hk : KindsX ops xs) {i t : Nat} : ∀ (d : Nat), i + d ≤ ops.size → (∀ l o, i ≤ l → l < i + d → ops[l]? = some o → o.dst ≠ some t) → lk (s (i + d)).env t = lk (s i).env t
 | 0, _, _ => rfl
 | d + 1, h1, h2 => by
  have ih := env_same hs hk d (by omega) (fun l o a b => h2 l o a (by omega))
  obtain ⟨o, ho⟩ : ∃ o, ops[i + d]? = some o := ⟨ops[i + d], Array.getElem?_eq_getElem (by omega)⟩
  obtain ⟨⟨sl, e⟩, _⟩ := step_left hs hk ho
  rw [← Nat.add_assoc, e, lk_putE, if_neg (h2 (i + d) o (by omega) (by omega) ho)]
  exact ih
theorem looks_agree (hs : StepsX T call esc nt ops xs s) (hk : KindsX ops xs) (hF : LexF ops) {S Pd : Nat → Prop} {k : Nat} {st : St} (hR : Rep ops xs s S Pd k st) (hC : Closed ops S) (hlt : ∀ i, S i → i < ops.size)
  {i : Nat} {o : Oper} (ho : ops[i]? = some o) (hi : ¬ S i) (hready : ∀ e ∈ o.after, Region.binds .any e = true → S e.on) {t : Tmp} (ht : t ∈ o.looksAt ops) (hpt : ∀ i o, Pd i → ops[i]? = some o → o.dst ≠ some t) : lk st.env t = lk (s i).env t := by
 have hin : i < ops.size := (Array.getElem?_eq_some_iff.1 ho).1
 have later : ∀ j oj, S j → ops[j]? = some oj → oj.dst = some t → j < i := by
  intro j oj hj hoj hd
  rcases Nat.lt_trichotomy j i with h | h | h
  ·exact h
  ·subst h; exact absurd hj hi
  ·exfalso
   obtain ⟨o', ho', _, hap⟩ := hF i hin
   rw [ho] at ho'; cases ho'
   by_cases he : ∀ e ∈ oj.after, Region.binds .any e = true → e.on ≠ i
   ·exact (Oper.apart_spec (hap j oj h hoj he)).2.2 t hd ht
   ·obtain ⟨e, he⟩ := Classical.not_forall.1 he
    obtain ⟨he, h2⟩ := Classical.not_imp.1 he
    obtain ⟨hb, h3⟩ := Classical.not_imp.1 h2
    have : e.on = i := Classical.not_not.1 h3
    exact hi (this ▸ hC j oj hj hoj e he hb)
 have earlier : ∀ j oj, j < i → ops[j]? = some oj → oj.dst = some t → S j := by
  intro j oj hj hoj hd
  obtain ⟨o', ho', _, hap⟩ := hF j (by omega)
  rw [hoj] at ho'; cases ho'
  by_cases he : ∀ e ∈ o.after, Region.binds .any e = true → e.on ≠ j
  ·exact absurd ht ((Oper.apart_spec (hap i o hj ho he)).1 t hd)
  ·obtain ⟨e, he⟩ := Classical.not_forall.1 he
   obtain ⟨he, h2⟩ := Classical.not_imp.1 he
   obtain ⟨hb, h3⟩ := Classical.not_imp.1 h2
   have : e.on = j := Classical.not_not.1 h3
   exact this ▸ hready e he hb
 rcases hR.env t hpt with ⟨j, oj, h1, h2, h3, h4, h5⟩ | ⟨h1, h2⟩
 ·have hji := later j oj h1 h2 h3
  rw [h5]
  have := env_same hs hk (i := j + 1) (t := t) (i - (j + 1)) (by omega) (fun l ol a b hol hd => by
   have := h4 l ol (earlier l ol (by omega) hol hd) hol hd; omega)
  rw [show j + 1 + (i - (j + 1)) = i by omega] at this
  exact this.symm
 ·rw [h2]
  have := env_same hs hk (i := 0) (t := t) i (by omega) (fun l ol a b hol hd => h1 l ol (earlier l ol (by omega) hol hd) hol hd)
  rw [Nat.zero_add] at this
  exact this.symm
theorem mem_looks {o : Oper} {x : Operand} {t : Tmp} (hx : x ∈ o.op.operands) (e : x = .tmp t) : t ∈ o.looksAt ops := by
 subst e
 exact List.mem_append_left _ (List.mem_filterMap.2 ⟨.tmp t, by simpa using hx, rfl⟩)
theorem wanted_agree {o : Oper} {st st2 : St} (h : ∀ t ∈ o.looksAt ops, lk st2.env t = lk st.env t) : wantedA ops.toList st2 o = wantedA ops.toList st o := by
 unfold wantedA
 cases hg : o.guard with
 | none => rfl
 | some jw =>
  obtain ⟨j, want⟩ := jw
  simp only
  cases hj : ops.toList[j]? with
  | none => rfl
  | some oj =>
   simp only
   cases hd : oj.dst with
   | none => rfl
   | some d =>
    simp only
    have hj' : ops[j]? = some oj := by simpa using hj
    rw [h d (List.mem_append_right _ (by simp [hg, hj', hd]))]
theorem Rep.same (hs : StepsX T call esc nt ops xs s) (hk : KindsX ops xs) (hsort : xs.Pairwise (· < ·)) {S Pd : Nat → Prop} {k : Nat} {st : St} (hR : Rep ops xs s S Pd k st) {i : Nat} (hin : i < ops.size)
  (hq : ∀ q x, xs[q]? = some x → (x < i ↔ q < k)) : st.h = (s i).h ∧ st.bx = (s i).bx := by
 obtain ⟨g1, g2⟩ := memAt_gap hsort hR.kle hq
 have := mem_same hs hk (i := memAt xs k) (i - memAt xs k) (by omega) (fun l a b => g2 l a (by omega))
 rw [show memAt xs k + (i - memAt xs k) = i by omega] at this
 exact ⟨hR.h.trans this.1.symm, hR.bx.trans this.2.symm⟩
theorem Rep.next (hs : StepsX T call esc nt ops xs s) (hk : KindsX ops xs) (hF : LexF ops) (hsort : xs.Pairwise (· < ·)) {S Pd : Nat → Prop} {k : Nat} {st st' : St} (hR : Rep ops xs s S Pd k st) (hC : Closed ops S)
  {i : Nat} {o : Oper} (ho : ops[i]? = some o) (hi : ¬ S i) (hX : xs.contains i = true → xs[k]? = some i)
  (hm : if xs.contains i then st'.h = (s (i + 1)).h ∧ st'.bx = (s (i + 1)).bx else st'.h = st.h ∧ st'.bx = st.bx) (hits : st'.its = st.its)
  (henv : ∀ t, lk st'.env t = if o.dst = some t then lk (s (i + 1)).env t else lk st.env t) (hpd : ∀ i' o' t, Pd i' → i' ≠ i → ops[i']? = some o' → o'.dst = some t → o.dst ≠ some t) : ∃ k', (xs.contains i = true → k' = k + 1) ∧ Rep ops xs s (fun j => S j ∨ j = i) (fun j => Pd j ∧ j ≠ i) k' st' := by
 have hin : i < ops.size := (Array.getElem?_eq_some_iff.1 ho).1
 have pendR : ∀ t i' o', (Pd i' ∧ i' ≠ i) → ops[i']? = some o' → o'.dst = some t → lk st'.env t = none := fun t i' o' hp ho' hd => by
  rw [henv t, if_neg (hpd i' o' t hp.1 hp.2 ho' hd)]; exact hR.pend t i' o' hp.1 ho' hd
 have envR : ∀ t, (∀ i' o', (Pd i' ∧ i' ≠ i) → ops[i']? = some o' → o'.dst ≠ some t) → (∃ i' o', (S i' ∨ i' = i) ∧ ops[i']? = some o' ∧ o'.dst = some t ∧ (∀ j oj, (S j ∨ j = i) → ops[j]? = some oj → oj.dst = some t → j ≤ i') ∧ lk st'.env t = lk (s (i' + 1)).env t) ∨
   ((∀ j oj, (S j ∨ j = i) → ops[j]? = some oj → oj.dst ≠ some t) ∧ lk st'.env t = lk (s 0).env t) := by
  intro t hpt
  by_cases hd : o.dst = some t
  ·left
   refine ⟨i, o, .inr rfl, ho, hd, fun j oj hj hoj hdj => ?_, by rw [henv t, if_pos hd]⟩
   rcases hj with hj | rfl
   ·rcases Nat.lt_or_ge i j with h | h
    ·exfalso
     obtain ⟨o', ho', _, hap⟩ := hF i hin
     rw [ho] at ho'; cases ho'
     by_cases he : ∀ e ∈ oj.after, Region.binds .any e = true → e.on ≠ i
     ·exact (Oper.apart_spec (hap j oj h hoj he)).2.1 t hd hdj
     ·obtain ⟨e, he⟩ := Classical.not_forall.1 he
      obtain ⟨he, h2⟩ := Classical.not_imp.1 he
      obtain ⟨hb, h3⟩ := Classical.not_imp.1 h2
      have : e.on = i := Classical.not_not.1 h3
      exact hi (this ▸ hC j oj hj hoj e he hb)
    ·exact h
   ·exact Nat.le_refl _
  ·rw [henv t, if_neg hd]
   rcases hR.env t (fun i' o' hp ho' hd' => by
    by_cases e : i' = i
    ·subst e; rw [ho] at ho'; cases ho'; exact hd hd'
    ·exact hpt i' o' ⟨hp, e⟩ ho' hd') with ⟨j, oj, h1, h2, h3, h4, h5⟩ | ⟨h1, h2⟩
   ·refine .inl ⟨j, oj, .inl h1, h2, h3, fun l ol hl hol hdl => ?_, h5⟩
    rcases hl with hl | rfl
    ·exact h4 l ol hl hol hdl
    ·rw [ho] at hol; cases hol; exact absurd hdl hd
   ·refine .inr ⟨fun l ol hl hol hdl => ?_, h2⟩
    rcases hl with hl | rfl
    ·exact h1 l ol hl hol hdl
    ·rw [ho] at hol; cases hol; exact absurd hdl hd
 cases hc : xs.contains i with
 | true =>
  rw [hc] at hm
  simp only [↓reduceIte] at hm
  have hxk := hX hc
  have hkl : k < xs.length := (List.getElem?_eq_some_iff.1 hxk).1
  refine ⟨k + 1, fun _ => rfl, by omega, fun p x hp => ?_, by rw [memAt_succ hxk]; exact hm.1, by rw [memAt_succ hxk]; exact hm.2, ?_, pendR, envR⟩
  ·rcases Nat.lt_trichotomy p k with h | h | h
   ·exact ⟨fun _ => by omega, fun _ => .inl ((hR.cnt p x hp).2 h)⟩
   ·subst h; rw [hxk] at hp; cases hp; exact ⟨fun _ => by omega, fun _ => .inr rfl⟩
   ·refine ⟨fun hh => ?_, fun _ => by omega⟩
    rcases hh with hh | rfl
    ·have := (hR.cnt p x hp).1 hh; omega
    ·have := sorted_lt hsort hxk hp h; omega
  ·rw [hits, hR.its, memAt_succ hxk, its_same hs hk (i + 1) (by omega)]
   have hmk : memAt xs k ≤ ops.size := by
    cases k with
    | zero => simp [memAt]
    | succ k =>
     obtain ⟨x, hx⟩ : ∃ x, xs[k]? = some x := ⟨xs[k], List.getElem?_eq_getElem (by omega)⟩
     rw [memAt_succ hx]
     have := sorted_lt hsort hx hxk (by omega); omega
   rw [its_same hs hk _ hmk]
 | false =>
  rw [hc] at hm
  simp only [Bool.false_eq_true, ↓reduceIte] at hm
  refine ⟨k, fun h => (by cases h), hR.kle, fun p x hp => ?_, hm.1.trans hR.h, hm.2.trans hR.bx, hits.trans hR.its, pendR, envR⟩
  refine ⟨fun hh => ?_, fun hh => .inl ((hR.cnt p x hp).2 hh)⟩
  rcases hh with hh | rfl
  ·exact (hR.cnt p x hp).1 hh
  ·have : xs.contains x = true := by simpa using List.mem_of_getElem? hp
   rw [this] at hc; cases hc
end
end Go.AM

/-
 THE ABSTRACT MACHINE, D5: a region that draws its order: one operation, then all of them.
-/
namespace Go.AM
section
variable {T : TT} {P : Program} (ok : T.Ok P)
variable {B : Nat} {h0 : H} {ι0 : Plan} {w0 : World} {nt : Nat}
variable {call : CallF} {esc : List Tmp} {ops : Array Oper} {xs : List Nat} {prs : List (Nat × Nat)} {s : Nat → St}
def AgainX (T : TT) (call : CallF) (esc : List Tmp) (ops : Array Oper) (xs : List Nat) (s : Nat → St) : Prop :=
 ∀ S : Nat → Prop, Closed ops S → ∀ k, k ≤ xs.length → (∀ p x, xs[p]? = some x → (S x ↔ p < k)) → ∀ i o, ops[i]? = some o → ¬ S i → (∀ e ∈ o.after, Region.binds .any e = true → S e.on) → xs.contains i = false → memFree o.op = false →
  k = (xs.filter (· < i)).length ∨ (wantedA ops.toList (s i) o = some true → ∃ st1 r, (∀ t ∈ o.looksAt ops, lk st1.env t = lk (s i).env t) ∧ st1.h = (s (memAt xs k)).h ∧ st1.bx = (s (memAt xs k)).bx ∧ st1.its = (s (memAt xs k)).its ∧
   evalOp T (quietCall call) esc o st1 = some r ∧ ∀ d, o.dst = some d → lk r.env d = lk (s (i + 1)).env d)
theorem one_ok (hs : StepsX T call esc nt ops xs s) (hk : KindsX ops xs) (hF : LexF ops) (hsort : xs.Pairwise (· < ·)) (hlen : ∀ x ∈ xs, x < ops.size) (hag : AgainX T call esc ops xs s) {S Pd : Nat → Prop} {k : Nat} {st : St} (hR : Rep ops xs s S Pd k st) (hC : Closed ops S) (hlt : ∀ i, S i → i < ops.size)
  {i : Nat} {o : Oper} (ho : ops[i]? = some o) (hi : ¬ S i) (hready : ∀ e ∈ o.after, Region.binds .any e = true → S e.on) (hearly : xs.contains i = true → ∀ x ∈ xs, x < i → S x)
  (hpl : ∀ i' o' t, Pd i' → ops[i']? = some o' → o'.dst = some t → t ∉ o.looksAt ops ∧ o.dst ≠ some t) :
  ∃ st', ((wantedA ops.toList st o = some false ∧ st' = st.put o.dst (.val undefV)) ∨ (wantedA ops.toList st o = some true ∧ ∃ c, (c = call ∨ c = quietCall call) ∧ evalOp T c esc o st = some st')) ∧ dstOk nt o = true ∧
   ∃ k', Rep ops xs s (fun j => S j ∨ j = i) (fun j => Pd j ∧ j ≠ i) k' st' := by
 have hin : i < ops.size := (Array.getElem?_eq_some_iff.1 ho).1
 have hagree : ∀ t ∈ o.looksAt ops, lk st.env t = lk (s i).env t := fun t ht => looks_agree hs hk hF hR hC hlt ho hi hready ht (fun i' o' hp ho' hd' => (hpl i' o' t hp ho' hd').1 ht)
 have hwant := wanted_agree (st := s i) (st2 := st) hagree
 obtain ⟨hd, hfr, hst⟩ := hs i o ho
 have hfr := freshB_ok hfr
 obtain ⟨hdr, hkd⟩ := hk i o ho
 have hits0 : ∀ j, j ≤ ops.size → (s j).its = (s 0).its := fun j hj => its_same hs hk j hj
 have hmk : memAt xs k ≤ ops.size := by
  cases k with
  | zero => simp [memAt]
  | succ k =>
   have := hR.kle
   obtain ⟨x, hx⟩ : ∃ x, xs[k]? = some x := ⟨xs[k], List.getElem?_eq_getElem (by omega)⟩
   rw [memAt_succ hx]
   have := hlen x (List.mem_of_getElem? hx); omega
 have hitsE : st.its = (s i).its := by rw [hR.its, hits0 _ hmk, hits0 i (by omega)]
 have same : (∀ q x, xs[q]? = some x → (x < i ↔ q < k)) → st.h = (s i).h ∧ st.bx = (s i).bx := fun hq => Rep.same hs hk hsort hR hin hq
 have hXk : xs.contains i = true → xs[k]? = some i ∧ st.h = (s i).h ∧ st.bx = (s i).bx := by
  intro hc
  have hm : i ∈ xs := by simpa using hc
  obtain ⟨p, hp, e⟩ := List.getElem_of_mem hm
  have hp' : xs[p]? = some i := by rw [List.getElem?_eq_getElem hp, e]
  have hpk : ¬ p < k := fun h => hi ((hR.cnt p i hp').2 h)
  have hpk2 : p ≤ k := by
   rcases Nat.lt_or_ge k p with hlt | hge
   ·exfalso
    have hkl : k < xs.length := by have := (List.getElem?_eq_some_iff.1 hp').1; omega
    have hx : xs[k]? = some xs[k] := List.getElem?_eq_getElem hkl
    have := (hR.cnt k _ hx).1 (hearly hc _ (List.getElem_mem hkl) (sorted_lt hsort hx hp' hlt))
    omega
   ·exact hge
  have : p = k := by omega
  subst this
  refine ⟨hp', same fun q x hx => ⟨fun h => ?_, fun h => sorted_lt hsort hx hp' h⟩⟩
  rcases Nat.lt_trichotomy q p with h1 | h1 | h1
  ·exact h1
  ·subst h1; rw [hp'] at hx; cases hx; omega
  ·have := sorted_lt hsort hp' hx h1; omega
 have etaE : ∀ u : St, st.h = u.h → st.bx = u.bx → st.its = u.its → ({ u with env := st.env } : St) = st := by
  intro u e1 e2 e3
  cases st; cases u; simp only at e1 e2 e3; subst e1 e2 e3; rfl
 have fin : ∀ st' : St, (if xs.contains i then st'.h = (s (i + 1)).h ∧ st'.bx = (s (i + 1)).bx else st'.h = st.h ∧ st'.bx = st.bx) → st'.its = st.its → (∀ t, lk st'.env t = if o.dst = some t then lk (s (i + 1)).env t else lk st.env t) → ∃ k', Rep ops xs s (fun j => S j ∨ j = i) (fun j => Pd j ∧ j ≠ i) k' st' :=
  fun st' a b c => by
   obtain ⟨k', _, h⟩ := Rep.next hs hk hF hsort hR hC ho hi (fun h => (hXk h).1) a b c (fun i' o' t hp _ ho' hd' => (hpl i' o' t hp ho' hd').2)
   exact ⟨k', h⟩
 rcases hst with ⟨w1, e1⟩ | ⟨w1, e1⟩
 ·refine ⟨st.put o.dst (.val undefV), .inl ⟨by rw [hwant, w1], rfl⟩, hd, fin _ ?_ (by simp) ?_⟩
  ·rw [e1]
   cases hc : xs.contains i with
   | true => simp; exact (hXk hc).2
   | false => simp
  ·intro t
   rw [e1, put_env, put_env, lk_putE, lk_putE]
   split <;> rfl
 ·have hw2 : wantedA ops.toList st o = some true := by rw [hwant, w1]
  have hagO : ∀ x ∈ o.op.operands, ∀ t, x = .tmp t → lk st.env t = lk (s i).env t := fun x hx t e => hagree t (mem_looks hx e)
  cases hc : xs.contains i with
  | true =>
   rw [hc] at e1
   simp only [↓reduceIte] at e1
   obtain ⟨hxk, hh, hb⟩ := hXk hc
   have L := evalOp_env (e2 := st.env) hdr hfr e1 hagO
   obtain ⟨l1, _, sl, l3, l4⟩ := L
   rw [etaE (s i) hh hb hitsE] at l4
   refine ⟨_, .inr ⟨hw2, call, .inl rfl, l4⟩, hd, fin _ (by rw [hc]; simp) (by simp only; rw [l1, hitsE]) ?_⟩
   intro t
   simp only
   rw [lk_putE, l3, lk_putE]
   split <;> rfl
  | false =>
   rw [hc] at e1 hkd
   simp only [Bool.false_eq_true, ↓reduceIte, false_or] at e1 hkd
   have close : ∀ sl, evalOp T (quietCall call) esc o st = some { st with env := putE st.env o.dst sl } → (∀ d, o.dst = some d → some sl = lk (s (i + 1)).env d) →
     ∃ st', ((wantedA ops.toList st o = some false ∧ st' = st.put o.dst (.val undefV)) ∨ (wantedA ops.toList st o = some true ∧ ∃ c, (c = call ∨ c = quietCall call) ∧ evalOp T c esc o st = some st')) ∧ dstOk nt o = true ∧
      ∃ k', Rep ops xs s (fun j => S j ∨ j = i) (fun j => Pd j ∧ j ≠ i) k' st' := by
    intro sl he hsl
    refine ⟨_, .inr ⟨hw2, quietCall call, .inr rfl, he⟩, hd, fin _ (by rw [hc]; simp) rfl ?_⟩
    intro t
    simp only
    rw [lk_putE]
    split
    ·rename_i e; exact hsl t e
    ·rfl
   obtain ⟨l1, l2, sl, l3, l4⟩ := evalOp_env (e2 := st.env) hdr hfr e1 hagO
   have hslot : ∀ d, o.dst = some d → some sl = lk (s (i + 1)).env d := by
    intro d hd2
    rw [l3, hd2, lk_putE, if_pos rfl]
   by_cases hmf : memFree o.op = true
   ·have := evalOp_mem hmf l4 st
    exact close sl (by simpa using this) hslot
   ·rcases hag S hC k hR.kle hR.cnt i o ho hi hready hc (by simpa using hmf) with hkk | hp
    ·have hq : ∀ q x, xs[q]? = some x → (x < i ↔ q < k) := fun q x hx => by rw [hkk]; exact filter_lt xs hsort i q x hx
     obtain ⟨hh, hb⟩ := same hq
     rw [etaE (s i) hh hb hitsE] at l4
     have hmem : (s (i + 1)).h = (s i).h ∧ (s (i + 1)).bx = (s i).bx := by
      rcases hkd with g | g
      ·exact l2 g
      ·exact callsVal_mem g e1
     have : ({ s (i + 1) with env := putE st.env o.dst sl } : St) = { st with env := putE st.env o.dst sl } := by
      show (⟨putE st.env o.dst sl, (s (i + 1)).bx, (s (i + 1)).its, (s (i + 1)).h⟩ : St) = ⟨putE st.env o.dst sl, st.bx, st.its, st.h⟩
      rw [hmem.1, hmem.2, l1, hh, hb, hitsE]
     rw [this] at l4
     exact close sl l4 hslot
    ·obtain ⟨st1, r, q1, q2, q3, q4, q5, q6⟩ := hp w1
     have hf1 : freshOk esc o st1 := by
      intro t d ho2 _ _
      exfalso
      rcases hkd with g | g
      ·rw [ho2] at g; cases g
      ·rw [ho2] at g; cases g
     obtain ⟨m1, m2, sl1, m3, m4⟩ := evalOp_env (e2 := st.env) hdr hf1 q5 (fun x hx t e => by rw [hagree t (mem_looks hx e), q1 t (mem_looks hx e)])
     have hmem : r.h = st1.h ∧ r.bx = st1.bx := by
      rcases hkd with g | g
      ·exact m2 g
      ·exact callsVal_mem g q5
     have e1' : st.h = st1.h := by rw [q2, hR.h]
     have e2' : st.bx = st1.bx := by rw [q3, hR.bx]
     have e3' : st.its = st1.its := by rw [q4, hR.its]
     rw [etaE st1 e1' e2' e3'] at m4
     have : ({ r with env := putE st.env o.dst sl1 } : St) = { st with env := putE st.env o.dst sl1 } := by
      show (⟨putE st.env o.dst sl1, r.bx, r.its, r.h⟩ : St) = ⟨putE st.env o.dst sl1, st.bx, st.its, st.h⟩
      rw [hmem.1, hmem.2, m1, e1', e2', e3']
     rw [this] at m4
     refine close sl1 m4 fun d hd2 => ?_
     rw [← q6 d hd2, m3, hd2, lk_putE, if_pos rfl]
end
end Go.AM

/-
 THE ABSTRACT MACHINE, D6: a region that draws its order, some of whose operations change things: the theorem.
-/
namespace Go.AM
section
variable {T : TT} {P : Program} (ok : T.Ok P)
variable {B : Nat} {h0 : H} {ι0 : Plan} {w0 : World} {nt : Nat}
variable {call : CallF} {esc : List Tmp} {ops : Array Oper} {xs : List Nat} {prs : List (Nat × Nat)} {s : Nat → St}
def unl (n : Nat) (listed : Array Bool) : Nat := ((List.range n).filter fun j => !listed.getD j true).length
theorem filter_one : ∀ (n i : Nat) (f g : Nat → Bool), i < n → f i = true → g i = false → (∀ j, j ≠ i → f j = g j) → ((List.range n).filter f).length = ((List.range n).filter g).length + 1
 | 0, i, f, g, h, _, _, _ => by omega
 | n + 1, i, f, g, h, hf, hg, hj => by
  rw [List.range_succ, List.filter_append, List.filter_append, List.length_append, List.length_append]
  by_cases e : i = n
  ·subst e
   have : (List.range i).filter f = (List.range i).filter g := List.filter_congr fun j hjm => hj j (by have := List.mem_range.1 hjm; omega)
   rw [this]; simp [hf, hg]
  ·have := filter_one n i f g (by omega) hf hg hj
   rw [this]
   have e2 : f n = g n := hj n (fun h => e h.symm)
   cases hgn : g n <;> simp [e2, hgn] <;> omega
theorem unl_set {n i : Nat} {listed : Array Bool} (hs : listed.size = n) (hi : i < n) (h : listed.getD i true = false) : unl n listed = unl n (listed.setIfInBounds i true) + 1 := by
 refine filter_one n i _ _ hi (by simp [h]) ?_ fun j hj => by simp only [getD_set_ne true (Ne.symm hj)]
 simp [Array.getD_eq_getD_getElem?, hs, hi]
abbrev LS' (listed : Array Bool) : Nat → Prop := fun i => listed.getD i false = true
theorem LS_set {listed : Array Bool} {i : Nat} (hi : i < listed.size) : (fun j => LS' listed j ∨ j = i) = LS' (listed.setIfInBounds i true) := by
 funext j
 apply propext
 by_cases e : j = i
 ·subst e
  simp [LS', Array.getD_eq_getD_getElem?, hi]
 ·simp only [e, or_false, LS', getD_set_ne false (Ne.symm e)]
theorem LS_iff {listed : Array Bool} {i : Nat} (hi : i < listed.size) : LS' listed i ↔ listed.getD i true = true := by
 simp only [LS', Array.getD_eq_getD_getElem?, Array.getElem?_eq_getElem hi, Option.getD_some]
theorem LS_lt {listed : Array Bool} {i : Nat} (h : LS' listed i) : i < listed.size := by
 rcases Nat.lt_or_ge i listed.size with h1 | h1
 ·exact h1
 ·simp [LS', Array.getD_eq_getD_getElem?, Array.getElem?_eq_none h1] at h
theorem Rep.all (hs : StepsX T call esc nt ops xs s) (hk : KindsX ops xs) (hsort : xs.Pairwise (· < ·)) (hlen : ∀ x ∈ xs, x < ops.size) {S Pd : Nat → Prop} {k : Nat} {st : St} (hR : Rep ops xs s S Pd k st) (hall : ∀ i, i < ops.size → S i) (hno : ∀ i, ¬ Pd i) {a : Act} {w : World}
  (h : SR B h0 ι0 w0 nt st a w) : SR B h0 ι0 w0 nt (s ops.size) a w := by
 have hkm : k = xs.length := by
  have := hR.kle
  rcases Nat.lt_or_ge k xs.length with h1 | h1
  ·have h2 : xs[k]? = some xs[k] := List.getElem?_eq_getElem h1
   have := (hR.cnt k _ h2).1 (hall _ (hlen _ (List.getElem_mem h1))); omega
  ·omega
 obtain ⟨g1, g2⟩ := memAt_gap (i := ops.size) hsort hR.kle (fun q x hx => ⟨fun _ => by rw [hkm]; exact (List.getElem?_eq_some_iff.1 hx).1, fun _ => hlen x (List.mem_of_getElem? hx)⟩)
 have hm := mem_same hs hk (i := memAt xs k) (ops.size - memAt xs k) (by omega) (fun l a b => g2 l a (by omega))
 rw [show memAt xs k + (ops.size - memAt xs k) = ops.size by omega] at hm
 refine h.congr (hm.1.trans hR.h.symm) (hm.2.trans hR.bx.symm) ?_ fun t => ?_
 ·rw [hR.its, its_same hs hk _ g1, its_same hs hk _ (Nat.le_refl _)]
 ·rcases hR.env t (fun i o hp => absurd hp (hno i)) with ⟨i, o, h1, h2, h3, h4, h5⟩ | ⟨h1, h2⟩
  ·have hin : i < ops.size := (Array.getElem?_eq_some_iff.1 h2).1
   rw [h5]
   have := env_same hs hk (i := i + 1) (t := t) (ops.size - (i + 1)) (by omega) (fun l ol a b hol hd => by
    have := h4 l ol (hall l (by omega)) hol hd; omega)
   rwa [show i + 1 + (ops.size - (i + 1)) = ops.size by omega] at this
  ·rw [h2]
   have := env_same hs hk (i := 0) (t := t) ops.size (by omega) (fun l ol a b hol hd => h1 l ol (hall l (by omega)) hol hd)
   rwa [Nat.zero_add] at this
def SRP (B : Nat) (h0 : H) (ι0 : Plan) (w0 : World) (nt : Nat) (ops : Array Oper) (s : Nat → St) (Pd : Nat → Prop) (st : St) (a : Act) (w : World) : Prop :=
 ∃ ι β γ, ∃ c : Nat → Nat, ER nt ι β γ st.h.length st.bx st.its st.env a ∧ WRs B h0 ι0 w0 ι β γ st w ∧
  (∀ i, Pd i → ∃ o d vs et, ops[i]? = some o ∧ o.dst = some d ∧ PF (s i) (s (i + 1)) d ι st.h.length (c i) vs (a.tmps.getD d undef) ∧ PD B w0.heap.size ι β st.h st.bx w (c i) vs et) ∧
  ∀ i j, Pd i → Pd j → c i = c j → i = j
structure IX (esc : List Tmp) (ops : Array Oper) (xs : List Nat) (s : Nat → St) (Sall S Pd : Nat → Prop) (k : Nat) (st : St) : Prop where
 un : ∀ j, Sall j ↔ S j ∨ Pd j
 no : ∀ j, Pd j → ¬ S j
 pf : ∀ j, Pd j → j ∈ xs ∧ ∃ o, ops[j]? = some o ∧ isF esc o = true
 cl : Closed ops S
 rd : ∀ j o, Pd j → ops[j]? = some o → ∀ e ∈ o.after, Region.binds .any e = true → S e.on
 ap : ∀ i j oi oj t, Pd i → Pd j → i ≠ j → ops[i]? = some oi → ops[j]? = some oj → oi.dst = some t → oj.dst ≠ some t
 rep : Rep ops xs s S Pd k st
def Lag (xs : List Nat) (Sall Pd : Nat → Prop) : Prop := ∀ i, Pd i → ∃ x ∈ xs, x < i ∧ ¬ Sall x
theorem lk_some_dst (hs : StepsX T call esc nt ops xs s) (hk : KindsX ops xs) {i : Nat} {o : Oper} (ho : ops[i]? = some o) {d : Tmp} (hd : o.dst = some d) : ∃ sl, lk (s (i + 1)).env d = some sl := by
 obtain ⟨⟨sl, h⟩, _⟩ := step_left hs hk ho
 exact ⟨sl, by rw [h, hd, lk_putE, if_pos rfl]⟩
theorem settle (hs : StepsX T call esc nt ops xs s) (hk : KindsX ops xs) (hF : LexF ops) (hsort : xs.Pairwise (· < ·)) (hlen : ∀ x ∈ xs, x < ops.size) {Sall : Nat → Prop} {a : Act} {w : World} :
  ∀ (m : Nat) (S Pd : Nat → Prop) (k : Nat) (st : St), xs.length - k ≤ m → IX esc ops xs s Sall S Pd k st → SRP B h0 ι0 w0 nt ops s Pd st a w →
   ∃ S' Pd' k' st', IX esc ops xs s Sall S' Pd' k' st' ∧ SRP B h0 ι0 w0 nt ops s Pd' st' a w ∧ Lag xs Sall Pd' := by
 intro m
 induction m with
 | zero =>
  intro S Pd k st hm hI hS
  refine ⟨S, Pd, k, st, hI, hS, fun i hi => ?_⟩
  exfalso
  obtain ⟨hx, _⟩ := hI.pf i hi
  obtain ⟨p, hp, e⟩ := List.getElem_of_mem hx
  have hp' : xs[p]? = some i := by rw [List.getElem?_eq_getElem hp, e]
  exact hI.no i hi ((hI.rep.cnt p i hp').2 (by omega))
 | succ m ih =>
  intro S Pd k st hm hI hS
  by_cases hx : ∃ i, xs[k]? = some i ∧ Pd i
  ·obtain ⟨i, hxk, hpi⟩ := hx
   obtain ⟨ι, β, γ, c, her, hw, hall, hinj⟩ := hS
   obtain ⟨o, d, vs, et, ho, hd, hpf, hpd⟩ := hall i hpi
   have hin : i < ops.size := (Array.getElem?_eq_some_iff.1 ho).1
   have hni := hI.no i hpi
   have hkl : k < xs.length := (List.getElem?_eq_some_iff.1 hxk).1
   obtain ⟨eh, eb⟩ := Rep.same hs hk hsort hI.rep hin (fun q x hx => ⟨fun h => by
    rcases Nat.lt_trichotomy q k with h1 | h1 | h1
    ·exact h1
    ·subst h1; rw [hxk] at hx; cases hx; omega
    ·have := sorted_lt hsort hxk hx h1; omega, fun h => sorted_lt hsort hx hxk h⟩)
   obtain ⟨sl, hsl⟩ := lk_some_dst hs hk ho hd
   have hxc : xs.contains i = true := by simpa using List.mem_of_getElem? hxk
   obtain ⟨st', hst'⟩ : ∃ st' : St, st' = ⟨(d, sl) :: st.env, (s (i + 1)).bx, st.its, (s (i + 1)).h⟩ := ⟨_, rfl⟩
   have ee : ∀ t, lk st'.env t = if d = t then lk (s (i + 1)).env d else lk st.env t := fun t => by
    rw [hst']; simp only; rw [lk_cons]
    split
    ·rw [hsl]
    ·rfl
   obtain ⟨k', hk', hR'⟩ := Rep.next (st' := st') hs hk hF hsort hI.rep hI.cl ho hni (fun _ => hxk) (by rw [hxc, hst']; exact ⟨rfl, rfl⟩) (by rw [hst']) (fun t => by
    rw [ee t, hd]
    by_cases e : d = t
    ·subst e; simp
    ·rw [if_neg e, if_neg (by simpa using e)]) (fun i' o' t hp hne ho' hd' => hI.ap i' i o' o t hp hpi hne ho' ho hd')
   have hk1 := hk' hxc
   subst hk1
   obtain ⟨ι', β', her', hw', hag, hle, hoth⟩ := realize_ok hpf her hw hpd rfl eh eb (st' := st') (by rw [hst']) (by rw [hst']) (by rw [hst']) ee
   refine ih (fun j => S j ∨ j = i) (fun j => Pd j ∧ j ≠ i) (k + 1) st' (by omega) ⟨fun j => ?_, fun j hj => ?_, fun j hj => hI.pf j hj.1, ?_, fun j oj hj hoj e he hb => .inl (hI.rd j oj hj.1 hoj e he hb), fun i1 j1 oi oj t h1 h2 => hI.ap i1 j1 oi oj t h1.1 h2.1, hR'⟩
    ⟨ι', β', γ, c, her', hw', fun j hj => ?_, fun i1 j1 h1 h2 => hinj i1 j1 h1.1 h2.1⟩
   ·rw [hI.un j]
    by_cases e : j = i
    ·subst e; simp [hpi]
    ·simp [e]
   ·rintro (h | h)
    ·exact hI.no j hj.1 h
    ·exact hj.2 h
   ·intro j oj hj hoj e he hb
    rcases hj with hj | rfl
    ·exact .inl (hI.cl j oj hj hoj e he hb)
    ·exact .inl (hI.rd j oj hpi hoj e he hb)
   ·obtain ⟨oj, dj, vj, ej, g1, g2, g3, g4⟩ := hall j hj.1
    exact ⟨oj, dj, vj, ej, g1, g2, g3.grow hag hle, hoth _ _ _ (fun e => hj.2 (hinj j i hj.1 hpi e)) g4⟩
  ·refine ⟨S, Pd, k, st, hI, hS, fun i hi => ?_⟩
   obtain ⟨hxm, _⟩ := hI.pf i hi
   obtain ⟨p, hp, e⟩ := List.getElem_of_mem hxm
   have hp' : xs[p]? = some i := by rw [List.getElem?_eq_getElem hp, e]
   have hpk : k ≤ p := by
    rcases Nat.lt_or_ge p k with h | h
    ·exact absurd ((hI.rep.cnt p i hp').2 h) (hI.no i hi)
    ·exact h
   have hne : p ≠ k := fun e => hx ⟨i, by rw [← e]; exact hp', hi⟩
   have hkl : k < xs.length := by omega
   have hxk : xs[k]? = some xs[k] := List.getElem?_eq_getElem hkl
   refine ⟨xs[k], List.getElem_mem hkl, sorted_lt hsort hxk hp' (by omega), fun h => ?_⟩
   rcases (hI.un _).1 h with h | h
   ·have := (hI.rep.cnt k _ hxk).1 h; omega
   ·exact hx ⟨_, hxk, h⟩
def dropT (d : Tmp) : List (Nat × Slot) → List (Nat × Slot)
 | [] => []
 | p :: r => if p.1 = d then dropT d r else p :: dropT d r
theorem lk_dropT (d : Tmp) : ∀ (env : List (Nat × Slot)) (t : Tmp), lk (dropT d env) t = if d = t then none else lk env t
 | [], t => by simp [dropT, lk]
 | (t', sl) :: r, t => by
  simp only [dropT]
  by_cases e : t' = d
  ·rw [if_pos e, lk_dropT d r t, lk_cons]
   by_cases e2 : d = t
   ·simp [e2]
   ·rw [if_neg e2, if_neg e2, if_neg (fun h => e2 (e.symm.trans h))]
  ·rw [if_neg e, lk_cons, lk_cons, lk_dropT d r t]
   by_cases e2 : t' = t
   ·rw [if_pos e2, if_pos e2, if_neg (fun h => e (e2.trans h.symm))]
   ·rw [if_neg e2, if_neg e2]
include ok in
theorem any_ok (hcall : CallOk P call) (hs : StepsX T call esc nt ops xs s) (hk : KindsX ops xs) (hF : LexF ops) (hrow : RowX esc ops xs) (hlen : ∀ x ∈ xs, x < ops.size) (hag : AgainX T call esc ops xs s)
  {Q : Exit → Act → World → Prop} (hQ : ∀ a w, SR B h0 ι0 w0 nt (s ops.size) a w → Q .normal a w) :
  ∀ (f : Nat) (listed : Array Bool) (a : Act) (w : World) (S Pd : Nat → Prop) (k : Nat) (st : St), listed.size = ops.size → unl ops.size listed = f → Closed ops (LS' listed) → IX esc ops xs s (LS' listed) S Pd k st → SRP B h0 ι0 w0 nt ops s Pd st a w →
   Lag xs (LS' listed) Pd → wpAny P .any ops Q f listed a w := by
 intro f
 have hsort := hrow.sort
 induction f with
 | zero =>
  intro listed a w S Pd k st hsz hu hCa hI hS hL
  have hall : ∀ i, i < ops.size → LS' listed i := by
   intro i hi
   rw [LS_iff (by omega)]
   cases hl : listed.getD i true with
   | true => rfl
   | false => have := unl_set hsz hi hl; omega
  have hno : ∀ i, ¬ Pd i := fun i hi => by
   obtain ⟨x, hx, _, hn⟩ := hL i hi
   exact hn (hall x (hlen x hx))
  have hSR : SR B h0 ι0 w0 nt st a w := by
   obtain ⟨ι, β, γ, c, her, hw, _⟩ := hS
   exact ⟨ι, β, γ, her, hw⟩
  refine ⟨?_, hQ a w (Rep.all hs hk hsort hlen hI.rep (fun i hi => ((hI.un i).1 (hall i hi)).resolve_right (hno i)) hno hSR)⟩
  rw [List.eq_nil_iff_forall_not_mem]
  intro j hj
  obtain ⟨h1, o, h2, _⟩ := mem_ready.1 hj
  have hjn : j < ops.size := (Array.getElem?_eq_some_iff.1 h2).1
  have := (LS_iff (by omega)).1 (hall j hjn)
  rw [this] at h1; cases h1
 | succ f ih =>
  intro listed a w S Pd k st hsz hu hCa hI hS hL
  refine ⟨fun hr => ?_, fun i hi => ?_⟩
  ·exfalso
   have hex : ∃ i, i < ops.size ∧ listed.getD i true = false := by
    apply Classical.byContradiction
    intro hn
    have : unl ops.size listed = 0 := by
     unfold unl
     rw [List.length_eq_zero_iff, List.filter_eq_nil_iff]
     intro j hj
     have hjn := List.mem_range.1 hj
     cases hl : listed.getD j true with
     | true => simp
     | false => exact absurd ⟨j, hjn, hl⟩ hn
    omega
   have least : ∀ n, (∃ i, i < n ∧ i < ops.size ∧ listed.getD i true = false) → ∃ i, i < ops.size ∧ listed.getD i true = false ∧ ∀ j, j < i → listed.getD j true = true := by
    intro n
    induction n with
    | zero => rintro ⟨i, h, _⟩; omega
    | succ n ihn =>
     rintro ⟨i, h1, h2, h3⟩
     by_cases hn : ∃ i, i < n ∧ i < ops.size ∧ listed.getD i true = false
     ·exact ihn hn
     ·refine ⟨i, h2, h3, fun j hj => ?_⟩
      cases hl : listed.getD j true with
      | true => rfl
      | false => exact absurd ⟨j, by omega, by omega, hl⟩ hn
   obtain ⟨i, h1, h2⟩ := hex
   obtain ⟨i, h1, h2, h3⟩ := least ops.size ⟨i, h1, h1, h2⟩
   obtain ⟨o, ho, hb, _⟩ := hF i h1
   have : i ∈ Region.ready .any ops listed := mem_ready.2 ⟨h2, o, ho, fun e he hbe => by
    have hlt := hb e he hbe
    exact (LS_iff (by omega)).2 (h3 _ hlt)⟩
   rw [hr] at this; cases this
  ·obtain ⟨hun, o, ho, hreadyA⟩ := mem_ready.1 hi
   have hin : i < ops.size := (Array.getElem?_eq_some_iff.1 ho).1
   have hni : ¬ LS' listed i := by rw [LS_iff (by omega), hun]; simp
   have hniS : ¬ S i := fun h => hni ((hI.un i).2 (.inl h))
   have hniP : ¬ Pd i := fun h => hni ((hI.un i).2 (.inr h))
   have hoL : ops.toList[i]? = some o := by simpa using ho
   have waitsA : ∀ x, ((waitTo ops.toList ops.size).getD i 0).testBit x = true → LS' listed x := fun x hx =>
    waitTo_spec (S := LS' listed) (by simpa using hCa) _ i x hx fun e he hb => by
     rw [hoL] at he
     simp only [Option.map_some, Option.getD_some] at he
     exact hreadyA e (by simpa using he) hb
   have hready : ∀ e ∈ o.after, Region.binds .any e = true → S e.on := by
    intro e he hb
    rcases (hI.un e.on).1 (hreadyA e he hb) with h | h
    ·exact h
    ·exfalso
     obtain ⟨x, hx, hlt, hn⟩ := hL _ h
     obtain ⟨hm, oe, hoe, hfe⟩ := hI.pf _ h
     exact hn (waitsA x (hrow.use e.on oe hm hoe hfe i o ho ⟨e, he, hb, rfl⟩ x hx hlt))
   have waits : ∀ x, ((waitTo ops.toList ops.size).getD i 0).testBit x = true → S x := fun x hx =>
    waitTo_spec (S := S) (by simpa using hI.cl) _ i x hx fun e he hb => by
     rw [hoL] at he
     simp only [Option.map_some, Option.getD_some] at he
     exact hready e (by simpa using he) hb
   have hpl : ∀ i' o' t, Pd i' → ops[i']? = some o' → o'.dst = some t → t ∉ o.looksAt ops ∧ o.dst ≠ some t := by
    intro i' o' t hp ho' hd'
    have hin' : i' < ops.size := (Array.getElem?_eq_some_iff.1 ho').1
    have n1 : ∀ e ∈ o.after, Region.binds .any e = true → e.on ≠ i' := fun e he hb heq => hI.no i' hp (heq ▸ hready e he hb)
    have n2 : ∀ e ∈ o'.after, Region.binds .any e = true → e.on ≠ i := fun e he hb heq => hniS (heq ▸ hI.rd i' o' hp ho' e he hb)
    rcases Nat.lt_trichotomy i' i with h | h | h
    ·obtain ⟨o2, ho2, _, hap⟩ := hF i' hin'
     rw [ho'] at ho2; cases ho2
     have := Oper.apart_spec (hap i o h ho n1)
     exact ⟨this.1 t hd', this.2.1 t hd'⟩
    ·subst h; exact absurd hp hniP
    ·obtain ⟨o2, ho2, _, hap⟩ := hF i hin
     rw [ho] at ho2; cases ho2
     have := Oper.apart_spec (hap i' o' h ho' n2)
     exact ⟨this.2.2 t hd', fun e => this.2.1 t e hd'⟩
   have hu2 := unl_set hsz hin hun
   have hCa2 : Closed ops (LS' (listed.setIfInBounds i true)) := by
    rw [← LS_set (by omega)]
    intro j oj hj hoj e he hbe
    rcases hj with hj | rfl
    ·exact .inl (hCa j oj hj hoj e he hbe)
    ·rw [ho] at hoj; cases hoj
     exact .inl (hreadyA e he hbe)
   have hrec : ∀ (a' : Act) (w' : World) (S' Pd' : Nat → Prop) (k' : Nat) (st' : St), IX esc ops xs s (fun j => LS' listed j ∨ j = i) S' Pd' k' st' → SRP B h0 ι0 w0 nt ops s Pd' st' a' w' → wpAny P .any ops Q f (listed.setIfInBounds i true) a' w' := by
    intro a' w' S' Pd' k' st' hI' hS'
    rw [LS_set (by omega)] at hI'
    obtain ⟨S2, Pd2, k2, st2, i1, i2, i3⟩ := settle hs hk hF hsort hlen _ _ _ _ _ (Nat.le_refl _) hI' hS'
    exact ih _ a' w' S2 Pd2 k2 st2 (by simp [hsz]) (by omega) hCa2 i1 i2 i3
   unfold wpOp
   rw [ho]
   simp only
   by_cases hf : isF esc o = true
   · -- it makes a block that nobody else sees
    have hf2 := hf
    simp only [isF, Bool.and_eq_true] at hf2
    obtain ⟨⟨f1, f2⟩, f3⟩ := hf2
    obtain ⟨d, hd, hesc⟩ : ∃ d, o.dst = some d ∧ esc.contains d = false := by
     cases hd : o.dst with
     | none => rw [hd] at f3; cases f3
     | some d => rw [hd] at f3; exact ⟨d, rfl, by simpa using f3⟩
    have hg : o.guard = none := by simpa using f2
    obtain ⟨hdo, hfr, hst⟩ := hs i o ho
    have hmem : i ∈ xs := by
     rcases (hk i o ho).2 with h | h | h
     ·simpa using h
     ·exfalso; revert f1 h; cases o.op <;> simp [floatOp, readOp]
     ·exfalso; revert f1 h; cases o.op <;> simp [floatOp, callsVal]
    have hxc : xs.contains i = true := by simpa using hmem
    have hwant : ∀ u : St, wantedA ops.toList u o = some true := fun u => by unfold wantedA; rw [hg]
    have hev : evalOp T call esc o (s i) = some (s (i + 1)) := by
     rcases hst with ⟨h1, _⟩ | ⟨_, h2⟩
     ·rw [hwant] at h1; cases h1
     ·rw [hxc] at h2; simpa using h2
    obtain ⟨ι, β, γ, c, her, hw, hall, hinj⟩ := hS
    have hv : ∀ x ∈ o.op.operands, st.val x = (s i).val x := by
     intro x hx
     have h1 := val_with (st := s i) (e2 := st.env) (x := x) fun t e => looks_agree hs hk hF hI.rep hI.cl (fun j hj => LS_lt ((hI.un j).2 (.inl hj)) |> fun h => by omega) ho hniS hready (mem_looks hx e)
      (fun i' o' hp ho' hd' => (hpl i' o' t hp ho' hd').1 (mem_looks hx e))
     rw [← h1]
     cases x <;> rfl
    obtain ⟨vs, et, x, hrun, hpf⟩ := float_ok ok f1 hd hesc (freshB_ok hfr) hev hv her hw
    rw [if_pos (by rw [wanted_ok her (hwant st)])]
    refine .inl (wp_value hrun ?_)
    have hdt : d < nt := dstOk_lt hdo d hd
    have hold : ∀ k', k' < w.heap.size → (w.alloc (.cells vs et)).heap[k']? = w.heap[k']? := fun k' hk' => Go.RowKit.Below.heap_alloc w _ k' hk'
    refine hrec _ _ S (fun j => Pd j ∨ j = i) k { st with env := dropT d st.env } ⟨fun j => ?_, fun j hj => ?_, fun j hj => ?_, hI.cl, fun j oj hj hoj => ?_, fun i1 j1 oi oj t h1 h2 hne g1 g2 g3 => ?_, ?_⟩
     ⟨ι, β, γ, fun j => if j = i then w.heap.size else c j, ?_, ?_, fun j hj => ?_, fun i1 j1 h1 h2 he => ?_⟩
    ·rw [hI.un j, or_assoc]
    ·rcases hj with hj | rfl
     ·exact hI.no j hj
     ·exact hniS
    ·rcases hj with hj | rfl
     ·exact hI.pf j hj
     ·exact ⟨hmem, o, ho, hf⟩
    ·rcases hj with hj | rfl
     ·exact hI.rd j oj hj hoj
     ·rw [ho] at hoj; cases hoj; exact hready
    ·rcases h1 with h1 | rfl
     ·rcases h2 with h2 | rfl
      ·exact hI.ap i1 j1 oi oj t h1 h2 hne g1 g2 g3
      ·rw [ho] at g2; cases g2
       exact (hpl i1 oi t h1 g1 g3).2
     ·rcases h2 with h2 | rfl
      ·rw [ho] at g1; cases g1
       exact fun e => (hpl j1 oj t h2 g2 e).2 g3
      ·exact absurd rfl hne
    ·obtain ⟨r1, r2, r3, r4, r5, r6, r7⟩ := hI.rep
     refine ⟨r1, r2, r3, r4, r5, fun t j oj hj hoj hdj => ?_, fun t hpt => ?_⟩
     ·simp only [lk_dropT]
      split
      ·rfl
      ·rename_i e
       rcases hj with hj | rfl
       ·exact r6 t j oj hj hoj hdj
       ·rw [ho] at hoj; cases hoj; rw [hd] at hdj; cases hdj; exact absurd rfl e
     ·have e : d ≠ t := fun e => hpt i o (.inr rfl) ho (by rw [hd, e])
      simp only [lk_dropT, if_neg e]
      exact r7 t fun j oj hj hoj => hpt j oj (.inl hj) hoj
    ·refine ⟨by rw [hd]; exact her.df, by rw [hd]; simp [Act.put, her.nt], fun t sl hl => ?_⟩
     simp only [lk_dropT] at hl
     split at hl
     ·cases hl
     ·rename_i e
      rw [hd, getD_put a d _ t (by rw [her.nt]; exact hdt), if_neg e]
      exact her.slot t sl hl
    ·obtain ⟨hr1, br1, fr1⟩ := hw
     refine ⟨⟨by have := hr1.size; simp; omega, fun id b hb => ?_, hr1.apart⟩, ⟨fun d' cs hd' => ?_, br1.bapart, br1.away, fun d' p q hd' => ?_, br1.iapart⟩, ⟨fr1.os, fr1.tape, fr1.output, by have := fr1.size; simp; omega, fr1.len, fr1.agree, fun b hb hn => ?_, fr1.origin, fr1.rofix⟩⟩
     ·rw [hold _ (blk_lt ⟨hr1, br1, fr1⟩ hb)]; exact hr1.live id b hb
     ·rw [hold _ (box_lt ⟨hr1, br1, fr1⟩ hd')]; exact br1.box d' cs hd'
     ·rw [hold _ (it_lt ⟨hr1, br1, fr1⟩ hd')]; exact br1.it d' p q hd'
     ·rw [hold _ (by have := fr1.size; omega)]; exact fr1.keep b hb hn
    ·by_cases e : j = i
     ·subst e
      refine ⟨o, d, vs, et, ho, hd, ?_, ?_⟩
      ·rw [hd, getD_put a d _ d (by rw [her.nt]; exact hdt)]; simp only [↓reduceIte]; exact hpf
      ·simp only [↓reduceIte]
       exact ⟨heap_alloc_new w _, fun id b hg => by have := blk_lt hw hg; omega, fun d' cs hl => by have := box_lt hw hl; omega, hw.fr.size, hw.hr.size⟩
     ·have hj' : Pd j := hj.resolve_right e
      obtain ⟨oj, dj, vj, ej, g1, g2, g3, g4⟩ := hall j hj'
      refine ⟨oj, dj, vj, ej, g1, g2, ?_, ?_⟩
      ·simp only [e, ↓reduceIte]; rw [hd, getD_put a d _ dj (by rw [her.nt]; exact hdt), if_neg (fun e2 => (hpl j oj dj hj' g1 g2).2 (by rw [hd, e2]))]
       exact g3
      ·simp only [e, ↓reduceIte]
       exact ⟨by rw [hold _ g4.lt]; exact g4.cell, g4.blk, g4.box, g4.lo, g4.lb⟩
    ·have hlt : ∀ j, Pd j → c j < w.heap.size := fun j hj => by
      obtain ⟨_, _, _, _, _, _, _, g4⟩ := hall j hj
      exact g4.lt
     by_cases e1 : i1 = i
     ·by_cases e2 : j1 = i
      ·rw [e1, e2]
      ·simp only [e1, e2, ↓reduceIte] at he
       have := hlt j1 (h2.resolve_right e2); omega
     ·by_cases e2 : j1 = i
      ·simp only [e1, e2, ↓reduceIte] at he
       have := hlt i1 (h1.resolve_right e1); omega
      ·simp only [e1, e2, ↓reduceIte] at he
       exact hinj i1 j1 (h1.resolve_right e1) (h2.resolve_right e2) he
   ·have hf : isF esc o = false := by simpa using hf
    obtain ⟨st', hop, hd, k', hR'⟩ := one_ok hs hk hF hsort hlen hag hI.rep hI.cl (fun j hj => by have := LS_lt ((hI.un j).2 (.inl hj)); omega) ho hniS hready
     (fun hc x hx hlt => waits x (hrow.row i o hc ho hf x hx hlt)) hpl
    have hIX : IX esc ops xs s (fun j => LS' listed j ∨ j = i) (fun j => S j ∨ j = i) (fun j => Pd j ∧ j ≠ i) k' st' := by
     refine ⟨fun j => ?_, fun j hj => ?_, fun j hj => hI.pf j hj.1, ?_, fun j oj hj hoj e he hb => .inl (hI.rd j oj hj.1 hoj e he hb), fun i1 j1 oi oj t h1 h2 => hI.ap i1 j1 oi oj t h1.1 h2.1, hR'⟩
     ·rw [hI.un j]
      by_cases e : j = i
      ·simp [e]
      ·simp [e]
     ·rintro (h | h)
      ·exact hI.no j hj.1 h
      ·exact hj.2 h
     ·intro j oj hj hoj e he hb
      rcases hj with hj | rfl
      ·exact .inl (hI.cl j oj hj hoj e he hb)
      ·rw [ho] at hoj; cases hoj; exact .inl (hready e he hb)
    obtain ⟨ι, β, γ, c, her, hw, hall, hinj⟩ := hS
    rcases hop with ⟨hwa, rfl⟩ | ⟨hwa, cc, hc, he⟩
    ·rw [if_neg (by rw [wanted_ok her hwa]; simp)]
     refine hrec _ _ _ _ _ _ hIX ⟨ι, β, γ, c, ?_, WRs_put hw, fun j hj => ?_, fun i1 j1 h1 h2 => hinj i1 j1 h1.1 h2.1⟩
     ·simpa using her.putO (st := st) (dst := o.dst) (s := .val undefV) (x := undef) (dstOk_lt hd) (fun _ _ => undef_rel _)
     ·obtain ⟨oj, dj, vj, ej, g1, g2, g3, g4⟩ := hall j hj.1
      refine ⟨oj, dj, vj, ej, g1, g2, ?_, by simpa using g4⟩
      have hne := (hpl j oj dj hj.1 g1 g2).2
      have : (a.put o.dst undef).tmps.getD dj undef = a.tmps.getD dj undef := by
       cases hdd : o.dst with
       | none => rfl
       | some d0 => rw [getD_put a d0 _ dj (by rw [her.nt]; exact dstOk_lt hd d0 hdd), if_neg (fun e => hne (by rw [hdd, e]))]
      rw [this]; simpa using g3
    ·rw [if_pos (by rw [wanted_ok her hwa])]
     have hcc : CallOk P cc := by
      rcases hc with rfl | rfl
      ·exact hcall
      ·exact quietCall_ok hcall
     left
     by_cases hkd : readOp o.op = true ∨ callsVal o.op = true
     ·refine Oper.wp_mono (fun a' w' ⟨ι', q1, q2, q3, q4, q5, q6⟩ => hrec a' w' _ _ _ _ hIX ⟨ι', β, γ, c, q1, q2, fun j hj => ?_, fun i1 j1 h1 h2 => hinj i1 j1 h1.1 h2.1⟩) (op_okP ok hcc her hw hd he hkd)
      obtain ⟨oj, dj, vj, ej, g1, g2, g3, g4⟩ := hall j hj.1
      exact ⟨oj, dj, vj, ej, g1, g2, by rw [q5 dj (hpl j oj dj hj.1 g1 g2).2]; exact g3.grow q3 q4, q6 _ _ _ g4⟩
     ·have hxc : xs.contains i = true := by
       rcases (hk i o ho).2 with h | h | h
       ·exact h
       ·exact absurd (.inl h) hkd
       ·exact absurd (.inr h) hkd
      have hcv : callsVal o.op = false := by
       cases h : callsVal o.op with
       | false => rfl
       | true => exact absurd (.inr h) hkd
      have hmem : i ∈ xs := by simpa using hxc
      have hno : ∀ j, ¬ Pd j := fun j hj => by
       obtain ⟨x, hx, hlt, hn⟩ := hL j hj
       obtain ⟨hm, oj, hoj, hfj⟩ := hI.pf j hj
       rcases Nat.lt_trichotomy j i with h | h | h
       ·exact hI.no j hj (waits j (hrow.row i o hxc ho hf j hm h))
       ·subst h; exact hniP hj
       ·have hb := hrow.calls i o hxc ho hf hcv j oj hm h hoj hfj
        refine hniS (waitTo_spec (S := S) (by simpa using hI.cl) _ j i hb fun e he' hbe => ?_)
        have hojL : ops.toList[j]? = some oj := by simpa using hoj
        rw [hojL] at he'
        simp only [Option.map_some, Option.getD_some] at he'
        exact hI.rd j oj hj hoj e (by simpa using he') hbe
      refine Oper.wp_mono (fun a' w' ⟨ι', β', γ', q1, q2⟩ => hrec a' w' _ _ _ _ hIX ⟨ι', β', γ', c, q1, q2, fun j hj => absurd hj.1 (hno j), fun i1 _ h1 => absurd h1.1 (hno i1)⟩) (op_ok ok hcc her hw hd he)
theorem looksX_spec {E : St} {ms : List (Nat × St)} : ∀ (prs : List (Nat × Nat)), LooksX T (quietCall call) esc ops.toList E ms prs → ∀ p ∈ prs, ∃ x, lookX T (quietCall call) esc ops.toList E ms p = some x ∧ ∀ d, x.2 = some d → lk x.1.env d = lk E.env d
 | [], _, p, hp => by cases hp
 | q :: r, h, p, hp => by
  rcases List.mem_cons.1 hp with rfl | hp
  ·exact h.1
  ·exact looksX_spec r h.2 p hp
theorem again_ok (hs : StepsX T call esc nt ops xs s) (hk : KindsX ops xs) (hlen : ∀ x ∈ xs, x < ops.size) {ms : List (Nat × St)} (hms : ∀ k u, lk ms k = some u → k ≤ ops.size ∧ u = s k)
  (hp : pairsX ops.toList xs prs = true) (hl : lastX ops.toList prs = true) (hlook : LooksX T (quietCall call) esc ops.toList (s ops.size) ms prs) : AgainX T call esc ops xs s := by
 intro S hC k hk2 hcnt i o ho hi hready hc hmf
 have hin : i < ops.size := (Array.getElem?_eq_some_iff.1 ho).1
 have hoL : ops.toList[i]? = some o := by simpa using ho
 simp only [pairsX, List.all_eq_true, List.mem_range, Bool.or_eq_true] at hp
 have h1 := hp i (by simpa using hin)
 rcases h1 with (h1 | h1) | h1
 ·rw [hc] at h1; cases h1
 ·obtain ⟨o', ho', h1⟩ := opAt_some h1
  rw [hoL] at ho'; cases ho'
  rw [hmf] at h1; cases h1
 ·have h2 := h1 k (by omega)
  rcases h2 with ((h2 | h2) | h2) | h2
  ·exact .inl (by simpa using h2)
  ·right
   intro hw
   have hmem : (i, memAt xs k) ∈ prs := by simpa using h2
   obtain ⟨x, hx, hx2⟩ := looksX_spec prs hlook _ hmem
   simp only [lookX] at hx
   rw [hoL] at hx
   simp only [Option.bind_some] at hx
   obtain ⟨m, hm, hx⟩ := Option.bind_eq_some_iff.1 hx
   obtain ⟨_, rfl⟩ := hms _ _ hm
   simp only [lastX, List.all_eq_true] at hl
   have hl1 := hl _ hmem
   obtain ⟨o', ho', hl2⟩ := opAt_some hl1
   simp only at ho'
   rw [hoL] at ho'; cases ho'
   simp only [Bool.and_eq_true, List.all_eq_true, List.mem_range, Bool.or_eq_true, decide_eq_true_eq] at hl2
   obtain ⟨hown, hl2⟩ := hl2
   have nolater : ∀ l ol t, i < l → ops[l]? = some ol → ol.dst = some t → t ∉ o.looksAt ops ∧ o.dst ≠ some t := by
    intro l ol t hil hol hdt
    have hln : l < ops.size := (Array.getElem?_eq_some_iff.1 hol).1
    rcases hl2 l (by simpa using hln) with h | h
    ·omega
    ·obtain ⟨ol', hol', h⟩ := opAt_some h
     have : ops[l]? = some ol' := by simpa using hol'
     rw [hol] at this; cases this
     rw [hdt] at h
     simp only [Bool.and_eq_true, Bool.not_eq_true', bne_iff_ne] at h
     exact ⟨by simpa using h.1, h.2⟩
   obtain ⟨⟨sl, hstep⟩, _⟩ := step_left hs hk ho
   have hEl : ∀ t ∈ o.looksAt ops, lk (s ops.size).env t = lk (s i).env t := by
    intro t ht
    have hdt : o.dst ≠ some t := by
     intro e
     rw [e] at hown
     simp at hown
     exact hown ht
    have := env_same hs hk (i := i) (t := t) (ops.size - i) (by omega) (fun l ol a b hol hd => by
     by_cases e : l = i
     ·subst e; rw [ho] at hol; cases hol; exact hdt hd
     ·exact (nolater l ol t (by omega) hol hd).1 ht)
    rwa [show i + (ops.size - i) = ops.size by omega] at this
   have hEd : ∀ d, o.dst = some d → lk (s ops.size).env d = lk (s (i + 1)).env d := by
    intro d hd
    have := env_same hs hk (i := i + 1) (t := d) (ops.size - (i + 1)) (by omega) (fun l ol a b hol hd2 => (nolater l ol d (by omega) hol hd2).2 hd)
    rwa [show i + 1 + (ops.size - (i + 1)) = ops.size by omega] at this
   rw [wanted_agree (st := s i) (st2 := s ops.size) hEl, hw] at hx
   simp only at hx
   obtain ⟨r, hr, rfl⟩ := Option.map_eq_some_iff.1 hx
   exact ⟨{ s ops.size with h := (s (memAt xs k)).h, bx := (s (memAt xs k)).bx, its := (s (memAt xs k)).its }, r, hEl, rfl, rfl, rfl, hr, fun d hd => by rw [hx2 d hd, hEd d hd]⟩
  ·exfalso
   rw [List.any_eq_true] at h2
   obtain ⟨p, hp1, hp2⟩ := h2
   have hpk := List.mem_range.1 hp1
   obtain ⟨x, hx⟩ : ∃ x, xs[p]? = some x := ⟨xs[p], List.getElem?_eq_getElem (by omega)⟩
   have hSx := (hcnt p x hx).2 hpk
   rw [List.getD_eq_getElem?_getD (l := xs), hx] at hp2
   refine hi (waitTo_spec hC _ x i hp2 fun e he hb => ?_)
   cases hox : ops.toList[x]? with
   | none => rw [hox] at he; simp at he
   | some ox =>
    rw [hox] at he
    simp only [Option.map_some, Option.getD_some] at he
    exact hC x ox hSx (by simpa using hox) e (by simpa using he) hb
  ·exfalso
   rw [List.any_eq_true] at h2
   obtain ⟨p, hp1, hp2⟩ := h2
   have hpk := List.mem_range.1 hp1
   simp only [Bool.and_eq_true, decide_eq_true_eq] at hp2
   obtain ⟨x, hx⟩ : ∃ x, xs[p]? = some x := ⟨xs[p], List.getElem?_eq_getElem (by omega)⟩
   rw [List.getD_eq_getElem?_getD (l := xs), hx] at hp2
   have hSx : S x := waitTo_spec hC _ i x hp2.2 fun e he hb => by
    rw [hoL] at he
    simp only [Option.map_some, Option.getD_some] at he
    exact hready e (by simpa using he) hb
   have := (hcnt p x hx).1 hSx
   omega
include ok in
theorem drawX_ok (hcall : CallOk P call) (hm : P.follows .mixedOrders = true) {id : Nat} {Q : Exit → Act → World → Prop} {st E : St} {ms : List (Nat × St)} {a : Act} {w : World}
  (hS : SR B h0 ι0 w0 nt st a w) (hL : LexX esc ops.toList xs prs = true) (hrun : runX T call (quietCall call) esc nt ops.toList xs 0 ops.toList st [(0, st)] = some (E, ms))
  (hlook : LooksX T (quietCall call) esc ops.toList E ms prs) (hQ : ∀ a w, SR B h0 ι0 w0 nt E a w → Q .normal a w) : (Code.region id ops true).wp P Q a w := by
 obtain ⟨s, e0, en, hstep, hms⟩ := runX_spec _ _ _ _ _ _ hrun
 simp only [Nat.zero_add, Array.length_toList] at en hstep hms
 simp only [LexX, Bool.and_eq_true] at hL
 obtain ⟨⟨⟨⟨⟨l1, l2⟩, l3⟩, l4⟩, l5⟩, l6⟩ := hL
 have hs : StepsX T call esc nt ops xs s := fun i o ho => hstep i o (by simpa using ho)
 have hk : KindsX ops xs := fun i o ho => by
  have hin : i < ops.size := (Array.getElem?_eq_some_iff.1 ho).1
  have := List.all_eq_true.1 l2 i (List.mem_range.2 (by simpa using hin))
  obtain ⟨o', ho', h⟩ := opAt_some this
  have : ops[i]? = some o' := by simpa using ho'
  rw [ho] at this; cases this
  simp only [Bool.and_eq_true, Bool.or_eq_true] at h
  refine ⟨h.1, ?_⟩
  rcases h.2 with (h | h) | h
  ·exact .inl h
  ·exact .inr (.inl h)
  ·exact .inr (.inr h)
 have hF : LexF ops := lexB_spec (by simpa using l1)
 have hlen : ∀ x ∈ xs, x < ops.size := fun x hx => by simpa using List.all_eq_true.1 l3 x hx
 have hms' : ∀ k u, lk ms k = some u → k ≤ ops.size ∧ u = s k := fun k u hk => by
  rcases hms k u hk with ⟨j, hj, rfl, rfl⟩ | h
  ·exact ⟨by omega, rfl⟩
  ·rw [lk_cons] at h
   split at h
   ·rename_i e; subst e; cases h; exact ⟨by omega, e0.symm⟩
   ·cases h
 have hrow := rowX_spec l4
 have hag := again_ok hs hk hlen hms' l5 l6 (by rw [en]; exact hlook)
 have no : ∀ i, ¬ LS' (Array.replicate ops.size false) i := fun i hi => by
  simp [LS', Array.getD_eq_getD_getElem?, Array.getElem?_replicate] at hi
  split at hi <;> simp at hi
 have hSd : SRP B h0 ι0 w0 nt ops s (fun _ => False) st a { w with drawn := w.drawn + 1 } := by
  obtain ⟨ι, β, γ, her, hw⟩ := hS
  exact ⟨ι, β, γ, fun _ => 0, her, hw.same rfl rfl rfl rfl, fun _ h => h.elim, fun _ _ h => h.elim⟩
 refine wp_region_any hm (any_ok ok hcall hs hk hF hrow hlen hag (by rw [en]; exact hQ) ops.size _ a _ (fun _ => False) (fun _ => False) 0 st (by simp) ?_ (fun i o hi => absurd hi (no i))
  ⟨fun j => ⟨fun h => absurd h (no j), fun h => by simpa using h⟩, fun _ h => h.elim, fun _ h => h.elim, fun _ _ h => h.elim, fun _ _ h => h.elim, fun _ _ _ _ _ h => h.elim, ?_⟩ hSd (fun _ h => h.elim))
 ·unfold unl
  rw [List.filter_eq_self.2 (fun j hj => by have := List.mem_range.1 hj; simp [Array.getD_eq_getD_getElem?, this])]
  simp
 ·exact ⟨Nat.zero_le _, fun p x hx => ⟨fun h => h.elim, fun h => by omega⟩, by simp [memAt, e0], by simp [memAt, e0], by simp [memAt, e0], fun _ _ _ h => h.elim,
   fun t _ => .inr ⟨fun j oj hj => hj.elim, by rw [e0]⟩⟩
end
end Go.AM
