/-
  Proves that a small evaluator over abstract cells and the machine of the model come to the same, and what the calculus of its answers says; under no condition.
-/
import Derived.Test.YtmkiojlebjknlaaGreatAm4
set_option linter.all false
/-
 THE ABSTRACT MACHINE, 12: regions, in order and drawn; code; a function's body; the evaluator whole.
-/
namespace Go.AM
section
variable {T : TT} {P : Program} (ok : T.Ok P)
variable {B : Nat} {h0 : H} {ι0 : Plan} {w0 : World} {ι : Plan} {β γ : Nat → Nat} {nt : Nat} {st : St} {a : Act} {w : World}
include ok
theorem ops_ok {call : CallF} (hcall : CallOk P call) {esc : List Tmp} {ops : Array Oper} {Q : Exit → Act → World → Prop} {st' : St} (hQ : ∀ a w, SR B h0 ι0 w0 nt st' a w → Q .normal a w) :
  ∀ (l : List Oper) (st : St) (a : Act) (w : World), SR B h0 ι0 w0 nt st a w → evalOps T call esc nt ops.toList l st = some st' → wpList P ops Q l a w
 | [], st, a, w, hs, h => by
  simp only [evalOps, Option.some.injEq] at h; subst h
  exact hQ a w hs
 | o :: l, st, a, w, ⟨ι, β, γ, her, hw⟩, h => by
  simp only [evalOps] at h
  split at h
  ·rename_i hd
   split at h
   ·cases h
   ·rename_i hwa
    unfold wpList
    rw [if_neg (by rw [wanted_ok her hwa]; simp)]
    refine ops_ok hcall hQ l _ _ _ ⟨ι, β, γ, ?_, WRs_put hw⟩ h
    simpa using her.putO (st := st) (dst := o.dst) (s := .val undefV) (x := undef) (dstOk_lt hd) (fun _ _ => undef_rel _)
   ·rename_i hwa
    obtain ⟨st1, h1, h2⟩ := Option.bind_eq_some_iff.1 h
    unfold wpList
    rw [if_pos (by rw [wanted_ok her hwa])]
    exact .inl (Oper.wp_mono (fun a' w' hs' => ops_ok hcall hQ l st1 a' w' hs' h2) (op_ok ok hcall her hw hd h1))
  ·cases h
omit ok in
theorem WR.back {ι' : Plan} {h : H} {bx : List (Nat × List Cell)} {its : List (Nat × ByteArray × Nat)} (hag : Agree h.length ι ι') (hlen : h0.length ≤ h.length) (hw : WR B h0 ι0 w0 ι' β γ h bx its w) : WR B h0 ι0 w0 ι β γ h bx its w := by
 have e : ∀ {id b}, h.get id = some b → ι' id = ι id := fun hg => hag _ (H.get_lt hg)
 have ec : ∀ {x : Cell}, x.below h.length → x.conc ι' = x.conc ι := fun hx => Cell.conc_agree hag hx
 refine ⟨⟨hw.hr.size, fun id b hg => ?_, fun id id' b b' hne hg hg' hr => ?_⟩, ⟨fun d cs hd => ?_, hw.br.bapart, fun d cs id b hd hg => ?_, hw.br.it, hw.br.iapart⟩,
  ⟨hw.fr.os, hw.fr.tape, hw.fr.output, hw.fr.size, hw.fr.len, fun id hi => ?_, hw.fr.keep, fun id bl hg hr => ?_, hw.fr.rofix⟩⟩
 ·obtain ⟨cs, et, fz, h1, h2, h3, h4, h5, h6, h7, h8⟩ := hw.hr.live id b hg
  rw [e hg] at h1 h2 h5 h6 h8
  refine ⟨cs, et, fz, h1, h2, h3, h4, h5, h6, fun i x k y hi hk => ?_, h8⟩
  obtain ⟨k1, k2⟩ := h7 i x k y hi hk
  rw [e hg] at k1
  exact ⟨by rw [← ec k2]; exact k1, k2⟩
 ·have := hw.hr.apart id id' b b' hne hg hg' hr
  rw [e hg, e hg'] at this; exact this
 ·obtain ⟨⟨et, h1⟩, h2, h3⟩ := hw.br.box d cs hd
  exact ⟨⟨et, by rw [← cells_agree hag h2]; exact h1⟩, h2, h3⟩
 ·have := hw.br.away d cs id b hd hg
  rw [e hg] at this; exact this
 ·rw [← hag id (Nat.lt_of_lt_of_le hi hlen)]; exact hw.fr.agree id hi
 ·have := hw.fr.origin id bl hg hr
  rw [e hg] at this; exact this
omit ok in
theorem call_run {fid : FuncId} {l : List (Nat × Nat × Nat)} {f : Operand} {args : Array Operand} {argTypes : Array TypeId} {dst : Option Tmp} {type : TypeId} {pos : String} {after : Array Edge} {guard : Option (Nat × Bool)}
  (her : ER nt ι β γ st.h.length st.bx st.its st.env a) (hf : st.val f = .c (.fn fid l)) {fn : Func} (hfn : P.funcs[fid]? = some fn) (hbody : fn.body.isSome = true) (hname : fn.name ≠ "runtime.NumGoroutine") :
  ∃ cargs : List Value, (∀ w, (execOp a.eval ⟨dst, .call ⟨.value f, args, argTypes⟩, type, pos, after, guard⟩).run P w = .ok (.enter fid cargs.toArray) w) ∧
   cargs.length = (args.toList.map st.val ++ V.caps l).length ∧ ∀ (j : Nat) (v : V) (u : Value), (args.toList.map st.val ++ V.caps l)[j]? = some v → cargs[j]? = some u → v.rel ι st.h.length u := by
 have hfr := her.val f
 rw [hf] at hfr
 obtain ⟨hf1, hf2⟩ := V.rel_c hfr
 simp only [Cell.conc] at hf1
 have hcaps : ∀ l : List (Nat × Nat × Nat), (V.caps l).length = l.length ∧ ∀ (j : Nat) (v : V), (V.caps l)[j]? = some v → ∃ x : Nat × Nat × Nat, l[j]? = some x ∧ v = V.c (.ptr x.1 x.2.1 x.2.2) := by
  intro l
  induction l with
  | nil => exact ⟨rfl, fun j v hj => by simp [V.caps] at hj⟩
  | cons x l ih =>
   obtain ⟨x1, x2, x3⟩ := x
   refine ⟨by simp [V.caps, ih.1], fun j v hj => ?_⟩
   cases j with
   | zero => simp [V.caps] at hj; exact ⟨_, rfl, hj.symm⟩
   | succ j => simp [V.caps] at hj; obtain ⟨x, h1, h2⟩ := ih.2 j v hj; exact ⟨x, by simpa using h1, h2⟩
 refine ⟨args.toList.map a.eval ++ l.map (ptrV ι), fun w => ?_, by simp [(hcaps l).1], fun j v u hj hu => ?_⟩
 ·have hb : fn.body ≠ none := by cases hq : fn.body <;> simp [hq] at hbody ⊢
  have e1 : (args.map a.eval ++ (l.map (ptrV ι)).toArray) = (args.toList.map a.eval ++ l.map (ptrV ι)).toArray := by apply Array.ext'; simp
  simp [execOp, resolve, hf1, Deferred.ofValue, invoke, callFunc, hfn, hb, hname, e1]
 ·rw [List.getElem?_append] at hj hu
  simp only [List.length_map] at hj hu
  split at hj
  ·rename_i hlt'
   rw [if_pos hlt'] at hu
   rw [List.getElem?_map] at hj hu
   cases ha : args.toList[j]? with
   | none => simp [ha] at hj
   | some o =>
    simp [ha] at hj hu
    subst hj; subst hu
    exact her.val o
  ·rename_i hlt'
   rw [if_neg hlt'] at hu
   obtain ⟨y, hy1, rfl⟩ := (hcaps l).2 _ _ hj
   rw [List.getElem?_map, hy1] at hu
   simp at hu; subst hu
   exact V.rel_mk rfl (hf2 y (List.mem_of_getElem? hy1))
omit ok in
theorem quietOp_cases {op : Op} (h : quietOp op = true) : readOp op = true ∨ ∃ f args ts, op = .call ⟨.value f, args, ts⟩ := by
 cases op <;> simp only [quietOp] at h <;> (try (cases h; done)) <;> (try exact .inl rfl)
 rename_i cl
 obtain ⟨callee, args, ts⟩ := cl
 cases callee <;> simp only at h <;> (try (cases h; done))
 ·exact .inr ⟨_, _, _, rfl⟩
 ·rename_i b; cases b <;> simp only at h <;> (try (cases h; done)); exact .inl rfl
theorem quiet_ok {call : CallF} (hcall : CallOk P call) {esc : List Tmp} {ops : Array Oper} {h : H} {bx : List (Nat × List Cell)} {its : List (Nat × ByteArray × Nat)} {Q : Act → Prop} {st' : St}
  (hex : ∃ w, WR B h0 ι0 w0 ι β γ h bx its w) (hQ : ∀ a, ER nt ι β γ h.length bx its st'.env a → st'.h = h → st'.bx = bx → st'.its = its → Q a) :
  ∀ (l : List Oper) (st : St) (a : Act), (∀ o ∈ l, quietOp o.op = true) → st.h = h → st.bx = bx → st.its = its → ER nt ι β γ h.length bx its st.env a → evalOps T (quietCall call) esc nt ops.toList l st = some st' →
   wpQuiet P ops (WR B h0 ι0 w0 ι β γ h bx its) Q l a
 | [], st, a, _, e1, e2, e3, her, hh => by
  simp only [evalOps, Option.some.injEq] at hh; subst hh
  exact hQ a her e1 e2 e3
 | o :: l, st, a, hq, e1, e2, e3, her, hh => by
  have her' : ER nt ι β γ st.h.length st.bx st.its st.env a := by rw [e1, e2, e3]; exact her
  simp only [evalOps] at hh
  split at hh
  ·rename_i hd
   split at hh
   ·cases hh
   ·rename_i hwa
    unfold wpQuiet
    rw [if_neg (by rw [wanted_ok her' hwa]; simp)]
    refine quiet_ok hcall hex hQ l _ _ (fun o ho => hq o (by simp [ho])) (by simpa using e1) (by simpa using e2) (by simpa using e3) ?_ hh
    exact her.putO (st := st) (dst := o.dst) (s := .val undefV) (x := undef) (dstOk_lt hd) (fun _ _ => undef_rel _)
   ·rename_i hwa
    obtain ⟨st1, h1, h2⟩ := Option.bind_eq_some_iff.1 hh
    unfold wpQuiet
    rw [if_pos (by rw [wanted_ok her' hwa])]
    rcases quietOp_cases (hq o (by simp)) with hr | ⟨f, args, ts, ho⟩
    ·obtain ⟨w, hw⟩ := hex
     have hw1 : WRs B h0 ι0 w0 ι β γ st w := by unfold WRs; rw [e1, e2, e3]; exact hw
     obtain ⟨s, x, rfl, hs, hx⟩ := reads_op ok her' hw1 h1 hr
     refine ⟨x, fun w1 hw1 => ?_, quiet_ok hcall ⟨w, hw⟩ hQ l _ _ (fun o ho => hq o (by simp [ho])) (by simpa using e1) (by simpa using e2) (by simpa using e3) ?_ h2⟩
     ·have := hx w1 (by unfold WRs; rw [e1, e2, e3]; exact hw1)
      unfold Oper.quietAt
      rw [this]; exact ⟨rfl, rfl⟩
     ·rw [e1, e2, e3] at hs
      exact her.putO (dstOk_lt hd) hs
    ·obtain ⟨dst, op, type, pos, after, guard⟩ := o
     simp only at ho
     subst ho
     simp only [evalOp] at h1
     split at h1
     ·rename_i fid lc hf
      obtain ⟨r, hr, rfl⟩ := Option.map_eq_some_iff.1 h1
      unfold quietCall at hr
      split at hr
      ·rename_i r0 h' hc
       split at hr
       ·rename_i hcond
        cases hr
        obtain ⟨rfl, hk⟩ := hcond
        obtain ⟨hsim, fn, hfn, hbody, hname⟩ := hcall _ _ _ _ _ hc
        obtain ⟨cargs, hrun, hlen, hrel⟩ := call_run (dst := dst) (type := type) (pos := pos) (after := after) (guard := guard) (argTypes := ts) her' hf hfn hbody hname
        have step : ∀ w1, WR B h0 ι0 w0 ι β γ h bx its w1 → Calls P fid cargs.toArray w1 (fun e w'' => (e = .returned (r0.conc ι) ∧ r0.ok h.length) ∧ WR B h0 ι0 w0 ι β γ h bx its w'') := fun w1 hw1 => by
         have hh1 : HR B ι st.h w1 := by rw [e1]; exact hw1.hr
         refine (hsim B ι w1 cargs hh1 hlen hrel).mono fun e w' ⟨x, ι', he, k1, k2, k3⟩ => ?_
         obtain ⟨k4, k5⟩ := V.rel_known k3 hk
         rw [e1] at k1 k2 k5
         exact ⟨⟨by rw [he, k4, V.conc_agree k2.agree k5], k5⟩, (hw1.afterCall k1 k2).back k2.agree hw1.fr.len⟩
        have hok : r0.ok h.length := by
         obtain ⟨w, hw⟩ := hex
         obtain ⟨e, w', fr, hR, _⟩ := step w hw []
         exact hR.1.2
        refine ⟨r0.conc ι, fun w1 hw1 => ?_, quiet_ok hcall hex hQ l { st.put dst (.val r0) with h := st.h } _ (fun o ho => hq o (by simp [ho])) e1 (by simpa using e2) (by simpa using e3) ?_ h2⟩
        ·unfold Oper.quietAt
         rw [hrun w1]
         exact ⟨rfl, (step w1 hw1).mono fun e w'' hR => ⟨hR.1.1, hR.2⟩⟩
        ·exact her.putO (st := st) (dst := dst) (s := .val r0) (x := r0.conc ι) (dstOk_lt hd) (fun _ _ => V.rel_mk rfl hok)
       ·cases hr
      ·cases hr
     ·cases h1
  ·cases hh
theorem draw_ok {call : CallF} (hcall : CallOk P call) (hm : P.follows .mixedOrders = true) {esc : List Tmp} {ops : Array Oper} {id : Nat} {fl : Option (List Nat × List (Nat × Nat))} {Q : Exit → Act → World → Prop} {st st' : St} {a : Act} {w : World}
  (hs : SR B h0 ι0 w0 nt st a w) (h : evalDraw T call (quietCall call) fl esc nt ops.toList st = some st') (hQ : ∀ a w, SR B h0 ι0 w0 nt st' a w → Q .normal a w) : (Code.region id ops true).wp P Q a w := by
 unfold evalDraw at h
 split at h
 ·obtain ⟨ι, β, γ, her, hw⟩ := hs
  split at h
  ·rename_i hc
   simp only [Bool.and_eq_true, List.all_eq_true] at hc
   have hwd : WRs B h0 ι0 w0 ι β γ st { w with drawn := w.drawn + 1 } := hw.same rfl rfl rfl rfl
   refine wp_region_quiet (C := WR B h0 ι0 w0 ι β γ st.h st.bx st.its) hm (by simpa using hc.2) hwd ?_
   refine quiet_ok ok hcall ⟨w, hw⟩ (fun a' her' e1 e2 e3 w' hw' => hQ a' w' ⟨ι, β, γ, by rw [e1, e2, e3]; exact her', by unfold WRs; rw [e1, e2, e3]; exact hw'⟩) ops.toList st a (fun o ho => hc.1 o ho) rfl rfl rfl her h
  ·cases h
 ·split at h
  ·rename_i hL
   obtain ⟨⟨E, ms⟩, h1, h2⟩ := Option.bind_eq_some_iff.1 h
   simp only at h2
   split at h2
   ·rename_i hl
    cases h2
    exact drawX_ok ok hcall hm hs hL h1 hl hQ
   ·cases h2
  ·cases h
def Ex.out : Ex → Exit
 | .normal => .normal
 | .exit id => .exit id
 | .ret => .ret
omit ok in
theorem lk_restV (ts : List Tmp) : ∀ (vs : List V) (t : Nat) (s : Slot), lk (restV ts vs) t = some s → ∃ j, ts[j]? = some t ∧ s = .val (vs.getD j .u) := by
 induction ts with
 | nil => intro vs t s h; simp [restV, lk] at h
 | cons t0 ts ih =>
  intro vs t s h
  simp only [restV] at h
  rw [lk_cons] at h
  split at h
  ·rename_i e; subst e; cases h
   exact ⟨0, rfl, by cases vs <;> rfl⟩
  ·obtain ⟨j, h1, h2⟩ := ih vs.tail t s h
   exact ⟨j + 1, by simpa using h1, by rw [h2]; cases vs <;> simp⟩
omit ok in
theorem lk_append {α : Type} (e e' : List (Nat × α)) (t : Nat) : lk (e ++ e') t = match lk e t with | some x => some x | none => lk e' t := by
 induction e with
 | nil => rfl
 | cons x e ih =>
  obtain ⟨t', y⟩ := x
  rw [List.cons_append, lk_cons, lk_cons]
  split
  ·rfl
  ·exact ih
omit ok in
theorem lk_restL (ts : List Tmp) : ∀ (t : Nat) (s : Slot), lk (restL ts) t = some s → t ∈ ts ∧ s = .loc t 0 := by
 induction ts with
 | nil => intro t s h; simp [restL, lk] at h
 | cons t0 ts ih =>
  intro t s h
  simp only [restL] at h
  rw [lk_cons] at h
  split at h
  ·rename_i e; subst e; cases h; exact ⟨by simp, rfl⟩
  ·obtain ⟨h1, h2⟩ := ih t s h; exact ⟨by simp [h1], h2⟩
omit ok in
theorem lk_restJ (ts : List Tmp) : ∀ (t : Nat) (s : Slot), lk (restJ ts) t = some s → t ∈ ts ∧ s = .iter := by
 induction ts with
 | nil => intro t s h; simp [restJ, lk] at h
 | cons t0 ts ih =>
  intro t s h
  simp only [restJ] at h
  rw [lk_cons] at h
  split at h
  ·rename_i e; subst e; cases h; exact ⟨by simp, rfl⟩
  ·obtain ⟨h1, h2⟩ := ih t s h; exact ⟨by simp [h1], h2⟩
omit ok in
theorem saveV_get (st : St) : ∀ (ts : List Tmp) (j t : Nat), ts[j]? = some t → (saveV st ts).getD j .u = st.val (.tmp t) := by
 intro ts
 induction ts with
 | nil => intro j t h; simp at h
 | cons t0 ts ih =>
  intro j t h
  cases j with
  | zero => simp at h; subst h; rfl
  | succ j => simp only [List.getElem?_cons_succ] at h; simpa [saveV] using ih j t h
omit ok in
theorem lk_restB (st : St) (ts : List Tmp) : ∀ (t : Nat), lk (restB ts (saveB st ts)) t = if t ∈ ts then some ((lk st.bx t).getD []) else none := by
 induction ts with
 | nil => intro t; simp [restB, lk]
 | cons t0 ts ih =>
  intro t
  simp only [saveB, restB, List.headD_cons, List.tail_cons]
  rw [lk_cons, ih]
  by_cases e : t0 = t
  ·subst e; simp
  ·simp [e, Ne.symm e]
omit ok in
theorem lk_restI (st : St) (ts : List Tmp) : ∀ (t : Nat), lk (restI ts (saveI st ts)) t = if t ∈ ts then some ((lk st.its t).getD (ByteArray.empty, 0)) else none := by
 induction ts with
 | nil => intro t; simp [restI, lk]
 | cons t0 ts ih =>
  intro t
  simp only [saveI, restI, List.headD_cons, List.tail_cons]
  rw [lk_cons, ih]
  by_cases e : t0 = t
  ·subst e; simp
  ·simp [e, Ne.symm e]
omit ok in
theorem SR.keep {k : Keep} (hk : keepOk st k = true) (hs : SR B h0 ι0 w0 nt st a w) : SR B h0 ι0 w0 nt (restore k (st.save k)) a w := by
 obtain ⟨ι, β, γ, her, hw⟩ := hs
 simp only [keepOk, Bool.and_eq_true, List.all_eq_true] at hk
 have hb : ∀ b ∈ k.2.1, lk st.env b = some (.loc b 0) ∧ (lk st.bx b).isSome = true := fun b hb => by
  obtain ⟨h1, h2⟩ := hk.1 b hb
  refine ⟨?_, h2⟩
  split at h1
  ·rename_i b' heq; rw [heq]; simp at h1; rw [h1]
  ·cases h1
 have hi : ∀ t ∈ k.2.2, lk st.env t = some .iter ∧ (lk st.its t).isSome = true := fun t ht => by
  obtain ⟨h1, h2⟩ := hk.2 t ht
  refine ⟨?_, h2⟩
  split at h1
  ·assumption
  ·cases h1
 have bx : ∀ d cs, lk (restore k (st.save k)).bx d = some cs → d ∈ k.2.1 ∧ lk st.bx d = some cs := fun d cs h => by
  simp only [restore, St.save] at h
  rw [lk_restB] at h
  split at h
  ·rename_i hm
   obtain ⟨x, hx⟩ := Option.isSome_iff_exists.1 (hb d hm).2
   rw [hx] at h; cases h; exact ⟨hm, hx⟩
  ·cases h
 have its : ∀ d x, lk (restore k (st.save k)).its d = some x → d ∈ k.2.2 ∧ lk st.its d = some x := fun d y h => by
  simp only [restore, St.save] at h
  rw [lk_restI] at h
  split at h
  ·rename_i hm
   obtain ⟨x, hx⟩ := Option.isSome_iff_exists.1 (hi d hm).2
   rw [hx] at h; cases h; exact ⟨hm, hx⟩
  ·cases h
 refine ⟨ι, β, γ, ⟨her.df, her.nt, fun t s hl => ?_⟩, ⟨hw.hr, ⟨fun d cs hd => hw.br.box d cs (bx d cs hd).2, fun d d' cs cs' hne h1 h2 => hw.br.bapart d d' cs cs' hne (bx _ _ h1).2 (bx _ _ h2).2, fun d cs id b hd hg => hw.br.away d cs id b (bx _ _ hd).2 hg,
  fun d s p hd => hw.br.it d s p (its _ _ hd).2, fun d d' x x' hne h1 h2 => hw.br.iapart d d' x x' hne (its _ _ h1).2 (its _ _ h2).2⟩, hw.fr⟩⟩
 simp only [restore, St.save] at hl
 rw [lk_append] at hl
 split at hl
 ·rename_i x hx
  cases hl
  obtain ⟨j, h1, rfl⟩ := lk_restV _ _ _ _ hx
  rw [saveV_get st _ j t h1]
  exact her.val (.tmp t)
 ·rw [lk_append] at hl
  split at hl
  ·rename_i x hx
   cases hl
   obtain ⟨h1, rfl⟩ := lk_restL _ _ _ hx
   have := her.slot t _ (hb t h1).1
   refine ⟨this.1, ?_⟩
   simp only [restore, St.save, lk_restB, h1, ↓reduceIte, Option.isSome_some]
  ·obtain ⟨h1, rfl⟩ := lk_restJ _ _ _ hl
   have := her.slot t _ (hi t h1).1
   refine ⟨this.1, ?_⟩
   simp only [restore, St.save, lk_restI, h1, ↓reduceIte, Option.isSome_some]
def LoopOk (lp : LoopF) : Prop := ∀ body ls r, lp body ls = some r → ∃ n, iterN n body ls = some r
theorem code_ok {call : CallF} (hcall : CallOk P call) (hm : P.follows .mixedOrders = true) {lp : LoopF} (hlp : LoopOk lp) {ann : Ann} :
  ∀ (c : Code) (cur : Nat) (st : St) (a : Act) (w : World) (e : Ex) (st' : St), SR B h0 ι0 w0 nt st a w → evalC T call (quietCall call) lp ann nt c cur st = some (e, st') →
   c.wp P (fun E a' w' => E = e.out ∧ SR B h0 ι0 w0 nt st' a' w') a w := by
 intro c
 induction c with
 | skip => intro cur st a w e st' hs h; simp only [evalC, Option.some.injEq, Prod.mk.injEq] at h; obtain ⟨rfl, rfl⟩ := h; exact wp_skip ⟨rfl, hs⟩
 | region id ops draw =>
  intro cur st a w e st' hs h
  simp only [evalC] at h
  cases draw with
  | true =>
   simp only [↓reduceIte] at h
   obtain ⟨st1, h1, h2⟩ := Option.map_eq_some_iff.1 h
   cases h2
   exact draw_ok ok hcall hm hs h1 fun a' w' hs' => ⟨rfl, hs'⟩
  | false =>
   simp only [Bool.false_eq_true, ↓reduceIte] at h
   obtain ⟨st1, h1, h2⟩ := Option.map_eq_some_iff.1 h
   cases h2
   exact wp_region_list (ops_ok ok hcall (fun a' w' hs' => ⟨rfl, hs'⟩) ops.toList st a w hs h1)
 | seq x y ihx ihy =>
  intro cur st a w e st' hs h
  simp only [evalC] at h
  obtain ⟨⟨e1, st1⟩, h1, h2⟩ := Option.bind_eq_some_iff.1 h
  refine wp_seq (wp_mono (ihx cur st a w e1 st1 hs h1) fun E a' w' ⟨hE, hs'⟩ => ?_)
  subst hE
  cases e1 with
  | normal => exact ihy cur st1 a' w' e st' hs' h2
  | exit id => simp only [Option.some.injEq, Prod.mk.injEq] at h2; obtain ⟨rfl, rfl⟩ := h2; exact ⟨rfl, hs'⟩
  | ret => simp only [Option.some.injEq, Prod.mk.injEq] at h2; obtain ⟨rfl, rfl⟩ := h2; exact ⟨rfl, hs'⟩
 | cond x c1 c2 ih1 ih2 =>
  intro cur st a w e st' hs h
  simp only [evalC] at h
  split at h
  ·rename_i r hr
   have hx : a.eval x = .bool r := by
    obtain ⟨ι, β, γ, her, _⟩ := hs
    have := her.val x
    rw [hr] at this
    exact (V.rel_c this).1
   refine wp_cond hx ?_
   cases r with
   | true => exact ih1 cur st a w e st' hs h
   | false => exact ih2 cur st a w e st' hs h
  ·cases h
 | block id c ih =>
  intro cur st a w e st' hs h
  simp only [evalC] at h
  obtain ⟨⟨e1, st1⟩, h1, h2⟩ := Option.map_eq_some_iff.1 h
  simp only [Prod.mk.injEq] at h2
  obtain ⟨rfl, rfl⟩ := h2
  refine wp_block (wp_mono (ih id st a w e1 st1 hs h1) fun E a' w' ⟨hE, hs'⟩ => ?_)
  subst hE
  cases e1 with
  | normal => exact ⟨rfl, hs'⟩
  | exit id' =>
   simp only [Ex.out, Exit.inBlock]
   by_cases hid : id' = id
   ·subst hid; simp only [↓reduceIte]; exact ⟨trivial, hs'⟩
   ·simp only [hid, ↓reduceIte]
    refine ⟨?_, hs'⟩
    rw [if_neg (by intro e; cases e; exact hid rfl)]
  | ret => exact ⟨rfl, hs'⟩
 | loop c ih =>
  intro cur st a w e st' hs h
  simp only [evalC] at h
  split at h
  ·cases h
  ·rename_i k hk
   split at h
   ·rename_i hko
    obtain ⟨⟨e1, ls1⟩, h1, h2⟩ := Option.bind_eq_some_iff.1 h
    obtain ⟨n, hn⟩ := hlp _ _ _ h1
    have hfin : e = e1 ∧ st' = restore k ls1 ∧ e1 ≠ .normal := by
     cases e1 <;> simp at h2 <;> exact ⟨h2.1.symm, h2.2.symm, by simp⟩
    obtain ⟨rfl, rfl, hne⟩ := hfin
    have key : ∀ (n : Nat) (ls : LS) (a : Act) (w : World), SR B h0 ι0 w0 nt (restore k ls) a w →
      iterN n (fun ls => (evalC T call (quietCall call) lp ann nt c cur (restore k ls)).bind fun r => if keepOk r.2 k = true then some (r.1, r.2.save k) else none) ls = some (e, ls1) →
      ∀ (b : Frame) (kk : List Item) (cs : List Frame), ∃ E a' w', (E = e.out ∧ SR B h0 ι0 w0 nt (restore k ls1) a' w') ∧ Arrives P (lone (b.at a (.code c :: .inLoop c :: kk)) cs w) b kk cs E a' w' := by
     intro n
     induction n with
     | zero => intro ls a w _ h; simp [iterN] at h
     | succ n ihn =>
      intro ls a w hs h b kk cs
      simp only [iterN] at h
      obtain ⟨⟨e2, ls2⟩, g1, g2⟩ := Option.bind_eq_some_iff.1 h
      obtain ⟨⟨e3, st3⟩, g3, g4⟩ := Option.bind_eq_some_iff.1 g1
      split at g4
      ·rename_i hk3
       simp only [Option.some.injEq, Prod.mk.injEq] at g4
       obtain ⟨rfl, rfl⟩ := g4
       obtain ⟨E, a1, w1, ⟨hE, hs1⟩, harr⟩ := ih cur (restore k ls) a w e3 st3 hs g3 b (.inLoop c :: kk) cs
       subst hE
       have hs1' := hs1.keep hk3
       cases e3 with
       | normal =>
        obtain ⟨E, a2, w2, hq2, harr2⟩ := ihn (st3.save k) a1 w1 hs1' g2 b kk cs
        exact ⟨E, a2, w2, hq2, .of_steps (Steps.trans harr (.one step_inLoop)) harr2⟩
       | exit id =>
        simp only [Option.some.injEq, Prod.mk.injEq] at g2
        obtain ⟨rfl, rfl⟩ := g2
        exact ⟨_, a1, w1, ⟨rfl, hs1'⟩, .pass (x := .inLoop c) rfl (fun _ _ => .inl (by simp [Ex.out])) harr⟩
       | ret =>
        simp only [Option.some.injEq, Prod.mk.injEq] at g2
        obtain ⟨rfl, rfl⟩ := g2
        exact ⟨_, a1, w1, ⟨rfl, hs1'⟩, .pass (x := .inLoop c) rfl (fun _ _ => .inl (by simp [Ex.out])) harr⟩
      ·cases g4
    intro b kk cs
    obtain ⟨E, a', w', hq, harr⟩ := key n (st.save k) a w (hs.keep hko) hn b kk cs
    exact ⟨E, a', w', hq, .of_steps (.one step_loop) harr⟩
   ·cases h
 | exit id => intro cur st a w e st' hs h; simp only [evalC, Option.some.injEq, Prod.mk.injEq] at h; obtain ⟨rfl, rfl⟩ := h; exact wp_exit ⟨rfl, hs⟩
 | ret => intro cur st a w e st' hs h; simp only [evalC, Option.some.injEq, Prod.mk.injEq] at h; obtain ⟨rfl, rfl⟩ := h; exact wp_ret ⟨rfl, hs⟩
 | rangeFunc f ps x y => intro cur st a w e st' hs h; simp [evalC] at h
 | scope c => intro cur st a w e st' hs h; simp [evalC] at h
 | label l => intro cur st a w e st' hs h; simp [evalC] at h
 | goto l => intro cur st a w e st' hs h; simp [evalC] at h
 | refuse why => intro cur st a w e st' hs h; simp [evalC] at h
end
end Go.AM

/-
 THE ABSTRACT MACHINE, 13: functions, and the evaluator whole: 'den' is what it comes to, however many rounds it takes.
-/
namespace Go.AM
section
variable {T : TT} {P : Program} (ok : T.Ok P)
variable {B : Nat} {h0 : H} {ι0 : Plan} {w0 : World} {ι : Plan} {β γ : Nat → Nat} {nt : Nat} {st : St} {a : Act} {w : World}
theorem oneV_rel {vs : List V} {n : Nat} {xs : List Value} (hl : vs.length = xs.length) (h : ∀ (j : Nat) (v : V) (x : Value), vs[j]? = some v → xs[j]? = some x → v.rel ι n x)
  (hk : vs.length = 1 ∨ ∀ v ∈ vs, ∃ y, v = .c y ∨ ∃ ys, v = .g ys) : (oneV vs).rel ι n (if h : xs.toArray.size = 1 then xs.toArray[0] else .tuple xs.toArray) := by
 match vs, xs, hl with
 | [v], [x], _ => simpa [oneV] using h 0 v x rfl rfl
 | [], [], _ => exact ⟨rfl, fun v hv => by cases hv⟩
 | v1 :: v2 :: vs, x1 :: x2 :: xs, hl =>
  have hk' : ∀ v ∈ v1 :: v2 :: vs, ∃ y, v = .c y ∨ ∃ ys, v = .g ys := by
   rcases hk with hk | hk
   ·simp at hk
   ·exact hk
  have hv : ∀ (j : Nat) (v : V) (x : Value), (v1 :: v2 :: vs)[j]? = some v → (x1 :: x2 :: xs)[j]? = some x → x = v.conc1 ι ∧ v.ok1 n := fun j v x hj hx => by
   have := h j v x hj hx
   obtain ⟨y, rfl | ⟨ys, rfl⟩⟩ := hk' v (List.mem_of_getElem? hj)
   ·exact this
   ·exact this
  rw [dif_neg (by simp)]
  have e : x1 :: x2 :: xs = (v1 :: v2 :: vs).map (V.conc1 ι) := by
   apply List.ext_getElem?
   intro j
   rw [List.getElem?_map]
   cases hj : (v1 :: v2 :: vs)[j]? with
   | none =>
    have : (v1 :: v2 :: vs).length ≤ j := List.getElem?_eq_none_iff.1 hj
    rw [List.getElem?_eq_none (by omega)]; rfl
   | some v =>
    have hlt := (List.getElem?_eq_some_iff.1 hj).1
    rw [hl] at hlt
    rw [List.getElem?_eq_getElem hlt]
    simp only [Option.map_some, Option.some.injEq]
    exact (hv j v _ hj (List.getElem?_eq_getElem hlt)).1
  refine ⟨by rw [e]; rfl, fun v hm => ?_⟩
  obtain ⟨j, hj⟩ := List.getElem?_of_mem hm
  have hlt := (List.getElem?_eq_some_iff.1 hj).1
  rw [hl] at hlt
  exact (hv j v _ hj (List.getElem?_eq_getElem hlt)).2
def resSem (tmps : Array Value) : ResultVar → Sem Value
 | .tmp t => pure (tmps.getD t undef)
 | .cell c t => do loadVar t (← asAddr (tmps.getD c undef))
theorem results_eq (fn : Func) (tmps : Array Value) : results fn tmps = (do let vs ← fn.results.mapM (resSem tmps); pure (if h : vs.size = 1 then vs[0] else .tuple vs) : Sem Value) := by
 unfold results
 congr 1
theorem tupOk_spec {vs : List V} (h : tupOk vs = true) : vs.length = 1 ∨ ∀ v ∈ vs, ∃ y, v = V.c y ∨ ∃ ys, v = V.g ys := by
 unfold tupOk at h
 simp only [Bool.or_eq_true, beq_iff_eq, List.all_eq_true] at h
 rcases h with h | h
 ·exact .inl h
 ·refine .inr fun v hv => ?_
  have := h v hv
  cases v with
  | c y => exact ⟨y, .inl rfl⟩
  | g ys => exact ⟨default, .inr ⟨ys, rfl⟩⟩
  | t _ => cases this
  | u => cases this
include ok
theorem results_ok (her : ER nt ι β γ st.h.length st.bx st.its st.env a) (hw : WRs B h0 ι0 w0 ι β γ st w) : ∀ (rs : List ResultVar) (vs : List V), resultsA T st rs = some vs →
  ∃ xs : List Value, (rs.mapM (resSem a.tmps)).run P w = .ok xs w ∧ vs.length = xs.length ∧
   ∀ (j : Nat) (v : V) (x : Value), vs[j]? = some v → xs[j]? = some x → v.rel ι st.h.length x
 | [], vs, h => by simp only [resultsA, Option.some.injEq] at h; subst h; exact ⟨[], rfl, rfl, by simp⟩
 | .tmp t :: rs, vs, h => by
  simp only [resultsA] at h
  split at h
  ·rename_i vs' hvs
   cases h
   obtain ⟨xs, h1, h2, h3⟩ := results_ok her hw rs vs' hvs
   refine ⟨a.tmps.getD t undef :: xs, ?_, by simp [h2], fun j v x hj hx => ?_⟩
   ·simp only [List.mapM_cons, resSem, Sem.run_bind, Sem.run_pure, Result.andThen_ok, h1]
   ·cases j with
    | zero => simp only [List.getElem?_cons_zero, Option.some.injEq] at hj hx; subst hj; subst hx; exact her.val (.tmp t)
    | succ j => simp only [List.getElem?_cons_succ] at hj hx; exact h3 j v x hj hx
  ·cases h
 | .cell c t :: rs, vs, h => by
  simp only [resultsA] at h
  split at h
  ·rename_i v0 vs' hv0 hvs
   cases h
   obtain ⟨xs, h1, h2, h3⟩ := results_ok her hw rs vs' hvs
   obtain ⟨k1, k2⟩ := load_ok ok her hw hv0
   have k2 := k2 w hw
   have hload : (resSem a.tmps (.cell c t)).run P w = .ok (v0.conc ι) w := by
    simp only [resSem, Act.eval, Instr.loadAt, Sem.run_bind] at k2 ⊢
    cases hq : a.tmps.getD c undef with
    | pointer p =>
     rw [hq] at k2
     cases p with
     | none => simp [Instr.sureAddr] at k2
     | some p => simpa [Instr.sureAddr, asAddr] using k2
    | _ => rw [hq] at k2; simp [Instr.sureAddr] at k2
   refine ⟨v0.conc ι :: xs, ?_, by simp [h2], fun j v x hj hx => ?_⟩
   ·simp only [List.mapM_cons, Sem.run_bind]
    rw [hload]
    simp only [Result.andThen_ok, h1, Sem.run_pure]
   ·cases j with
    | zero => simp only [List.getElem?_cons_zero, Option.some.injEq] at hj hx; subst hj; subst hx; exact k1
    | succ j => simp only [List.getElem?_cons_succ] at hj hx; exact h3 j v x hj hx
  ·cases h
omit ok in
theorem lk_argsEnv : ∀ (args : List V) (i t : Nat) (s : Slot), lk (argsEnv i args) t = some s → ∃ j v, args[j]? = some v ∧ t = i + j ∧ s = .val v
 | [], i, t, s, h => by simp [argsEnv, lk] at h
 | v :: args, i, t, s, h => by
  simp only [argsEnv] at h
  rw [lk_cons] at h
  split at h
  ·rename_i e; cases h; exact ⟨0, v, rfl, by omega, rfl⟩
  ·obtain ⟨j, v', h1, h2, h3⟩ := lk_argsEnv args (i + 1) t s h
   exact ⟨j + 1, v', by simpa using h1, by omega, h3⟩
theorem fn_ok {call : CallF} (hcall : CallOk P call) (hm : P.follows .mixedOrders = true) {lp : LoopF} (hlp : LoopOk lp) {ann : Ann} {f : FuncId} {fn : Func} (hfn : P.funcs[f]? = some fn) {args : List V} {h h' : H} {r : V}
  (hev : evalFn T call (quietCall call) lp ann fn args h = some (r, h')) : SimCall P f args h r h' := by
 intro B ι w cargs hr hlen hrel
 unfold evalFn at hev
 split at hev
 ·cases hev
 ·rename_i c hc
  split at hev
  ·rename_i hle
   obtain ⟨⟨e, st1⟩, h1, h2⟩ := Option.bind_eq_some_iff.1 hev
   refine calls_of_wp hfn hc ?_
   let a : Act := { tmps := cargs.toArray ++ Array.replicate (fn.ntmps - cargs.toArray.size) undef, defers := [] }
   have hs0 : SR B h ι w fn.ntmps ⟨argsEnv 0 args, [], [], h⟩ a w := by
    refine ⟨ι, fun _ => 0, fun _ => 0, ⟨rfl, by simp [a]; omega, fun t s hl => ?_⟩, ⟨hr, ⟨fun d cs hd => by simp [lk] at hd, fun d d' cs cs' _ hd => by simp [lk] at hd, fun d cs id b hd => by simp [lk] at hd, fun d s p hd => by simp [lk] at hd, fun d d' x x' _ hd => by simp [lk] at hd⟩, FR.refl h ι w⟩⟩
    obtain ⟨j, v, h1, rfl, rfl⟩ := lk_argsEnv _ _ _ _ hl
    have hj := (List.getElem?_eq_some_iff.1 h1).1
    have hu : cargs[j]? = some cargs[j] := List.getElem?_eq_getElem (by omega)
    have := hrel j v _ h1 hu
    simp only [slotRel, Nat.zero_add]
    have hg : a.tmps.getD j undef = cargs[j] := by
     simp only [a, Array.getD_eq_getD_getElem?]
     rw [Array.getElem?_append_left (by simpa using (by omega : j < cargs.length))]
     simp [hu]
    rw [hg]; exact this
   have hwp := code_ok ok hcall hm hlp c 0 _ a w e st1 hs0 h1
   refine wp_mono hwp fun E a' w' ⟨hE, ι', β, γ, her, hw⟩ => ?_
   have fin : (∃ vs, resultsA T st1 fn.results.toList = some vs ∧ r = oneV vs ∧ h' = st1.h ∧ (vs.length = 1 ∨ ∀ v ∈ vs, ∃ y, v = V.c y ∨ ∃ ys, v = V.g ys)) →
     a'.defers = [] ∧ ∃ v, (results fn a'.tmps).run P w' = .ok v w' ∧ ∃ (x : Value) (ι' : Plan), Ending.returned v = .returned x ∧ HR B ι' h' w' ∧ FR h ι w h' ι' w' ∧ r.rel ι' h'.length x := by
    rintro ⟨vs, hvs, rfl, rfl, hk⟩
    obtain ⟨xs, k1, k2, k3⟩ := results_ok ok her hw _ _ hvs
    refine ⟨her.df, _, ?_, _, ι', rfl, hw.hr, hw.fr, oneV_rel (vs := vs) (xs := xs) k2 k3 hk⟩
    rw [results_eq, Array.mapM_eq_mapM_toList]
    simp only [Sem.run_bind, Sem.run_map]
    rw [k1]
    simp only [Result.andThen_ok, Sem.run_pure]
   subst hE
   cases e with
   | exit id => simp at h2
   | normal =>
    simp only at h2
    split at h2
    ·rename_i vs hvs
     split at h2
     ·rename_i hk; cases h2; exact fin ⟨vs, hvs, rfl, rfl, tupOk_spec hk⟩
     ·cases h2
    ·cases h2
   | ret =>
    simp only at h2
    split at h2
    ·rename_i vs hvs
     split at h2
     ·rename_i hk; cases h2; exact fin ⟨vs, hvs, rfl, rfl, tupOk_spec hk⟩
     ·cases h2
    ·cases h2
  ·cases hev
end
end Go.AM

/-
 THE ABSTRACT MACHINE, 14: 'den': what the evaluator comes to, however many rounds it takes; what it says holds of the machine.
-/
namespace Go.AM
theorem evalOp_call {T : TT} {c : CallF} {esc : List Tmp} {o : Oper} {st st' : St} (h : evalOp T c esc o st = some st') :
  (∀ c', evalOp T c' esc o st = some st') ∨ ∃ f args hh x, c f args hh = some x ∧ ∀ c' : CallF, c' f args hh = some x → evalOp T c' esc o st = some st' := by
 obtain ⟨dst, op, type, pos, after, guard⟩ := o
 cases op
 case call cl =>
  obtain ⟨callee, args, ts⟩ := cl
  cases callee
  case value f =>
   simp only [evalOp] at h ⊢
   cases hf : st.val f with
   | c x =>
    rw [hf] at h
    cases x <;> simp only [] at h <;> (try cases h; done)
    obtain ⟨r, hr, rfl⟩ := Option.map_eq_some_iff.1 h
    exact .inr ⟨_, _, _, r, hr, fun c' hc' => by simp only [hc', Option.map_some]⟩
   | _ => rw [hf] at h; simp at h
  case builtin b => left; intro c'; cases b <;> exact h
  case invoke => left; intro c'; exact h
 case makeFunc fn first caps => left; intro c'; cases fn <;> exact h
 all_goals (left; intro c'; exact h)
theorem mono_evalOp {T : TT} {c1 c2 : CallF} (hc : ∀ f args h x, c1 f args h = some x → c2 f args h = some x) {esc : List Tmp} {o : Oper} {st st' : St} (h : evalOp T c1 esc o st = some st') : evalOp T c2 esc o st = some st' := by
 rcases evalOp_call h with h | ⟨f, args, hh, x, h1, h2⟩
 ·exact h c2
 ·exact h2 c2 (hc _ _ _ _ h1)
theorem mono_evalOps {T : TT} {c1 c2 : CallF} (hc : ∀ f args h x, c1 f args h = some x → c2 f args h = some x) {esc : List Tmp} {nt : Nat} {ops : List Oper} :
  ∀ (l : List Oper) (st st' : St), evalOps T c1 esc nt ops l st = some st' → evalOps T c2 esc nt ops l st = some st'
 | [], st, st', h => h
 | o :: l, st, st', h => by
  simp only [evalOps] at h ⊢
  split at h
  ·rename_i hd
   rw [if_pos hd]
   split at h
   ·cases h
   ·exact mono_evalOps hc l _ _ h
   ·obtain ⟨st1, h1, h2⟩ := Option.bind_eq_some_iff.1 h
    rw [mono_evalOp hc h1]
    exact mono_evalOps hc l _ _ h2
  ·cases h
theorem mono_quiet {c1 c2 : CallF} (hc : ∀ f args h x, c1 f args h = some x → c2 f args h = some x) : ∀ f args h x, quietCall c1 f args h = some x → quietCall c2 f args h = some x := by
 intro f args h x hx
 unfold quietCall at hx ⊢
 split at hx
 ·rename_i r h' heq
  rw [hc _ _ _ _ heq]
  exact hx
 ·cases hx
theorem mono_runX {T : TT} {c1 c2 q1 q2 : CallF} (hc : ∀ f args h x, c1 f args h = some x → c2 f args h = some x) (hq : ∀ f args h x, q1 f args h = some x → q2 f args h = some x) {esc : List Tmp} {nt : Nat} {ops : List Oper} {xs : List Nat} :
  ∀ (l : List Oper) (i : Nat) (st : St) (ms : List (Nat × St)) (x : St × List (Nat × St)), runX T c1 q1 esc nt ops xs i l st ms = some x → runX T c2 q2 esc nt ops xs i l st ms = some x
 | [], i, st, ms, x, h => h
 | o :: l, i, st, ms, x, h => by
  simp only [runX] at h ⊢
  split at h
  ·rename_i hd
   rw [if_pos hd]
   split at h
   ·cases h
   ·exact mono_runX hc hq l _ _ _ _ h
   ·obtain ⟨st1, h1, h2⟩ := Option.bind_eq_some_iff.1 h
    have : evalOp T (if xs.contains i then c2 else q2) esc o st = some st1 := by
     cases hx : xs.contains i with
     | true => rw [hx] at h1; exact mono_evalOp hc h1
     | false => rw [hx] at h1; exact mono_evalOp hq h1
    rw [this]
    exact mono_runX hc hq l _ _ _ _ h2
  ·cases h
theorem mono_lookX {T : TT} {q1 q2 : CallF} (hq : ∀ f args h x, q1 f args h = some x → q2 f args h = some x) {esc : List Tmp} {ops : List Oper} {E : St} {ms : List (Nat × St)} {p : Nat × Nat} {x : St × Option Tmp}
  (h : lookX T q1 esc ops E ms p = some x) : lookX T q2 esc ops E ms p = some x := by
 unfold lookX at h ⊢
 obtain ⟨o, ho, h⟩ := Option.bind_eq_some_iff.1 h
 obtain ⟨m, hm, h⟩ := Option.bind_eq_some_iff.1 h
 rw [ho, Option.bind_some, hm, Option.bind_some]
 split at h
 ·cases h
 ·exact h
 ·obtain ⟨r, hr, rfl⟩ := Option.map_eq_some_iff.1 h
  simp only [mono_evalOp hq hr, Option.map_some]
theorem mono_looksX {T : TT} {q1 q2 : CallF} (hq : ∀ f args h x, q1 f args h = some x → q2 f args h = some x) {esc : List Tmp} {ops : List Oper} {E : St} {ms : List (Nat × St)} : ∀ (prs : List (Nat × Nat)), LooksX T q1 esc ops E ms prs → LooksX T q2 esc ops E ms prs
 | [], _ => trivial
 | p :: r, ⟨⟨x, h1, h2⟩, h3⟩ => ⟨⟨x, mono_lookX hq h1, h2⟩, mono_looksX hq r h3⟩
theorem mono_draw {T : TT} {c1 c2 q1 q2 : CallF} (hc : ∀ f args h x, c1 f args h = some x → c2 f args h = some x) (hq : ∀ f args h x, q1 f args h = some x → q2 f args h = some x) {fl : Option (List Nat × List (Nat × Nat))} {esc : List Tmp} {nt : Nat} {ops : List Oper} {st st' : St}
  (h : evalDraw T c1 q1 fl esc nt ops st = some st') : evalDraw T c2 q2 fl esc nt ops st = some st' := by
 unfold evalDraw at h ⊢
 split at h
 ·split at h
  ·rename_i hq'; rw [if_pos hq']; exact mono_evalOps hq _ _ _ h
  ·cases h
 ·split at h
  ·rename_i hL
   rw [if_pos hL]
   obtain ⟨r, h1, h2⟩ := Option.bind_eq_some_iff.1 h
   rw [mono_runX hc hq _ _ _ _ _ h1]
   simp only [Option.bind_some]
   split at h2
   ·rename_i hl; rw [if_pos (mono_looksX hq _ hl)]; exact h2
   ·cases h2
  ·cases h
theorem iterN_mono : ∀ (n m : Nat) (b1 b2 : LS → Option (Ex × LS)) (ls : LS) (x : Ex × LS), n ≤ m → (∀ ls x, b1 ls = some x → b2 ls = some x) → iterN n b1 ls = some x → iterN m b2 ls = some x
 | 0, _, _, _, _, _, _, _, h => by simp [iterN] at h
 | n + 1, 0, _, _, _, _, hm, _, _ => by omega
 | n + 1, m + 1, b1, b2, ls, x, hm, hb, h => by
  simp only [iterN] at h ⊢
  obtain ⟨⟨e, ls1⟩, h1, h2⟩ := Option.bind_eq_some_iff.1 h
  rw [hb _ _ h1]
  cases e with
  | normal => exact iterN_mono n m b1 b2 ls1 x (by omega) hb h2
  | exit id => exact h2
  | ret => exact h2
def LoopLe (l1 l2 : LoopF) : Prop := ∀ (b1 b2 : LS → Option (Ex × LS)), (∀ ls x, b1 ls = some x → b2 ls = some x) → ∀ ls x, l1 b1 ls = some x → l2 b2 ls = some x
theorem mono_evalC {T : TT} {c1 c2 q1 q2 : CallF} {l1 l2 : LoopF} (hc : ∀ f args h x, c1 f args h = some x → c2 f args h = some x) (hq : ∀ f args h x, q1 f args h = some x → q2 f args h = some x) (hl : LoopLe l1 l2) {ann : Ann} {nt : Nat} :
  ∀ (c : Code) (cur : Nat) (st : St) (x : Ex × St), evalC T c1 q1 l1 ann nt c cur st = some x → evalC T c2 q2 l2 ann nt c cur st = some x := by
 intro c
 induction c with
 | region id ops draw =>
  intro cur st x h
  simp only [evalC] at h ⊢
  split at h
  ·rename_i hd; rw [if_pos hd]
   obtain ⟨st1, h1, h2⟩ := Option.map_eq_some_iff.1 h
   rw [mono_draw hc hq h1]; simpa using h2
  ·rename_i hd; rw [if_neg hd]
   obtain ⟨st1, h1, h2⟩ := Option.map_eq_some_iff.1 h
   rw [mono_evalOps hc _ _ _ h1]; simpa using h2
 | seq a b iha ihb =>
  intro cur st x h
  simp only [evalC] at h ⊢
  obtain ⟨⟨e, st1⟩, h1, h2⟩ := Option.bind_eq_some_iff.1 h
  rw [iha _ _ _ h1]
  cases e with
  | normal => exact ihb _ _ _ h2
  | exit id => exact h2
  | ret => exact h2
 | cond o a b iha ihb =>
  intro cur st x h
  simp only [evalC] at h ⊢
  split at h
  ·rename_i r hr
   cases r with
   | true => exact iha _ _ _ h
   | false => exact ihb _ _ _ h
  ·cases h
 | block id c ih =>
  intro cur st x h
  simp only [evalC] at h ⊢
  obtain ⟨r, h1, h2⟩ := Option.map_eq_some_iff.1 h
  rw [ih _ _ _ h1]; simpa using h2
 | loop c ih =>
  intro cur st x h
  simp only [evalC] at h ⊢
  split at h
  ·cases h
  ·rename_i k hk
   split at h
   ·rename_i hko
    rw [if_pos hko]
    obtain ⟨r, h1, h2⟩ := Option.bind_eq_some_iff.1 h
    rw [hl _ _ (fun ls y hy => by
     obtain ⟨r, g1, g2⟩ := Option.bind_eq_some_iff.1 hy
     rw [ih _ _ _ g1]; exact g2) _ _ h1]
    exact h2
   ·cases h
 | _ => intro cur st x h; exact h
theorem mono_evalFn {T : TT} {c1 c2 q1 q2 : CallF} {l1 l2 : LoopF} (hc : ∀ f args h x, c1 f args h = some x → c2 f args h = some x) (hq : ∀ f args h x, q1 f args h = some x → q2 f args h = some x) (hl : LoopLe l1 l2) {ann : Ann} {fn : Func} {args : List V} {h : H} {x : V × H}
  (he : evalFn T c1 q1 l1 ann fn args h = some x) : evalFn T c2 q2 l2 ann fn args h = some x := by
 unfold evalFn at he ⊢
 split at he
 ·cases he
 ·split at he
  ·rename_i hle
   simp only [hle, ↓reduceIte]
   obtain ⟨r, h1, h2⟩ := Option.bind_eq_some_iff.1 he
   rw [mono_evalC hc hq hl _ _ _ _ h1]; exact h2
  ·cases he
theorem mono_body {D : Prg} {c1 c2 : CallF} {l1 l2 : LoopF} (hc : ∀ f args h x, c1 f args h = some x → c2 f args h = some x) (hl : LoopLe l1 l2) {f : FuncId} {args : List V} {h : H} {x : V × H}
  (he : D.callBody c1 l1 f args h = some x) : D.callBody c2 l2 f args h = some x := by
 unfold Prg.callBody at he ⊢
 split at he
 ·exact he
 ·split at he
  ·cases he
  ·rename_i fn hfn
   split at he
   ·cases he
   ·rename_i r h' hev
    rw [mono_evalFn hc (mono_quiet hc) hl hev]
    exact he
theorem loopLe_iterN {n m : Nat} (h : n ≤ m) : LoopLe (iterN n) (iterN m) := fun _ _ hb _ _ hx => iterN_mono _ _ _ _ _ _ h hb hx
theorem callA_mono (D : Prg) : ∀ (n m : Nat), n ≤ m → ∀ f args h x, D.callA n f args h = some x → D.callA m f args h = some x
 | 0, _, _, f, args, h, x, hx => by simp [Prg.callA] at hx
 | n + 1, 0, hm, _, _, _, _, _ => by omega
 | n + 1, m + 1, hm, f, args, h, x, hx => mono_body (callA_mono D n m (by omega)) (loopLe_iterN (by omega)) hx
open Classical in
noncomputable def Prg.den (D : Prg) : CallF := fun f args h => if hx : ∃ x n, D.callA n f args h = some x then some (Classical.choose hx) else none
open Classical in
noncomputable def loopD : LoopF := fun body ls => if hx : ∃ x n, iterN n body ls = some x then some (Classical.choose hx) else none
theorem den_iff {D : Prg} {f : FuncId} {args : List V} {h : H} {x : V × H} : D.den f args h = some x ↔ ∃ n, D.callA n f args h = some x := by
 unfold Prg.den
 constructor
 ·intro hd
  split at hd
  ·rename_i hx
   cases hd
   exact Classical.choose_spec hx
  ·cases hd
 ·rintro ⟨n, hn⟩
  have hx : ∃ x n, D.callA n f args h = some x := ⟨x, n, hn⟩
  rw [dif_pos hx]
  obtain ⟨m, hm⟩ := Classical.choose_spec hx
  have h1 := callA_mono D n (max n m) (Nat.le_max_left _ _) _ _ _ _ hn
  have h2 := callA_mono D m (max n m) (Nat.le_max_right _ _) _ _ _ _ hm
  rw [h1] at h2
  exact h2.symm
theorem loopD_iff {body : LS → Option (Ex × LS)} {ls : LS} {x : Ex × LS} : loopD body ls = some x ↔ ∃ n, iterN n body ls = some x := by
 unfold loopD
 constructor
 ·intro hd
  split at hd
  ·rename_i hx
   cases hd
   exact Classical.choose_spec hx
  ·cases hd
 ·rintro ⟨n, hn⟩
  have hx : ∃ x n, iterN n body ls = some x := ⟨x, n, hn⟩
  rw [dif_pos hx]
  obtain ⟨m, hm⟩ := Classical.choose_spec hx
  have h1 := iterN_mono n (max n m) body body ls x (Nat.le_max_left _ _) (fun _ _ h => h) hn
  have h2 := iterN_mono m (max n m) body body ls _ (Nat.le_max_right _ _) (fun _ _ h => h) hm
  rw [h1] at h2
  exact h2.symm
theorem loopD_next {body : LS → Option (Ex × LS)} {ls ls1 : LS} {x : Ex × LS} (h : body ls = some (.normal, ls1)) (h1 : loopD body ls1 = some x) : loopD body ls = some x := by
 obtain ⟨n, hn⟩ := loopD_iff.1 h1
 exact loopD_iff.2 ⟨n + 1, by simp only [iterN, h, Option.bind_some]; exact hn⟩
theorem loopD_exit {body : LS → Option (Ex × LS)} {ls ls1 : LS} {id : Nat} (h : body ls = some (.exit id, ls1)) : loopD body ls = some (.exit id, ls1) :=
 loopD_iff.2 ⟨1, by simp only [iterN, h, Option.bind_some]⟩
theorem loopD_ret {body : LS → Option (Ex × LS)} {ls ls1 : LS} (h : body ls = some (.ret, ls1)) : loopD body ls = some (.ret, ls1) :=
 loopD_iff.2 ⟨1, by simp only [iterN, h, Option.bind_some]⟩
theorem cont_ops {T : TT} (D : Prg) {c : CallF} {g : Nat → CallF} (hg : ∀ f args h x, c f args h = some x → ∃ n, ∀ m, n ≤ m → g m f args h = some x) {esc : List Tmp} {nt : Nat} {ops : List Oper} :
  ∀ (l : List Oper) (st st' : St), evalOps T c esc nt ops l st = some st' → ∃ n, ∀ m, n ≤ m → evalOps T (g m) esc nt ops l st = some st'
 | [], st, st', h => ⟨0, fun m _ => h⟩
 | o :: l, st, st', h => by
  simp only [evalOps] at h ⊢
  split at h
  ·rename_i hd
   simp only [hd, ↓reduceIte]
   split at h
   ·cases h
   ·exact cont_ops D hg l _ _ h
   ·obtain ⟨st1, h1, h2⟩ := Option.bind_eq_some_iff.1 h
    obtain ⟨n2, hn2⟩ := cont_ops D hg l _ _ h2
    have key : ∃ n, ∀ m, n ≤ m → evalOp T (g m) esc o st = some st1 := by
     rcases evalOp_call h1 with h | ⟨f, args, hh, x, h1, h2⟩
     ·exact ⟨0, fun m _ => h (g m)⟩
     ·obtain ⟨n, hn⟩ := hg _ _ _ _ h1
      exact ⟨n, fun m hm => h2 (g m) (hn m hm)⟩
    obtain ⟨n1, hn1⟩ := key
    exact ⟨max n1 n2, fun m hm => by rw [hn1 m (by omega)]; exact hn2 m (by omega)⟩
  ·cases h
theorem cont_op {T : TT} {c : CallF} {g : Nat → CallF} (hg : ∀ f args h x, c f args h = some x → ∃ n, ∀ m, n ≤ m → g m f args h = some x) {esc : List Tmp} {o : Oper} {st st1 : St} (h1 : evalOp T c esc o st = some st1) : ∃ n, ∀ m, n ≤ m → evalOp T (g m) esc o st = some st1 := by
 rcases evalOp_call h1 with h | ⟨f, args, hh, x, h1, h2⟩
 ·exact ⟨0, fun m _ => h (g m)⟩
 ·obtain ⟨n, hn⟩ := hg _ _ _ _ h1
  exact ⟨n, fun m hm => h2 (g m) (hn m hm)⟩
theorem cont_runX {T : TT} {c q : CallF} {g gq : Nat → CallF} (hg : ∀ f args h x, c f args h = some x → ∃ n, ∀ m, n ≤ m → g m f args h = some x) (hgq : ∀ f args h x, q f args h = some x → ∃ n, ∀ m, n ≤ m → gq m f args h = some x) {esc : List Tmp} {nt : Nat} {ops : List Oper} {xs : List Nat} :
  ∀ (l : List Oper) (i : Nat) (st : St) (ms : List (Nat × St)) (x : St × List (Nat × St)), runX T c q esc nt ops xs i l st ms = some x → ∃ n, ∀ m, n ≤ m → runX T (g m) (gq m) esc nt ops xs i l st ms = some x
 | [], i, st, ms, x, h => ⟨0, fun m _ => h⟩
 | o :: l, i, st, ms, x, h => by
  simp only [runX] at h ⊢
  split at h
  ·rename_i hd
   simp only [hd, ↓reduceIte]
   split at h
   ·cases h
   ·exact cont_runX hg hgq l _ _ _ _ h
   ·obtain ⟨st1, h1, h2⟩ := Option.bind_eq_some_iff.1 h
    obtain ⟨n2, hn2⟩ := cont_runX hg hgq l _ _ _ _ h2
    have key : ∃ n, ∀ m, n ≤ m → evalOp T (if xs.contains i then g m else gq m) esc o st = some st1 := by
     cases hx : xs.contains i with
     | true => rw [hx] at h1; exact cont_op hg h1
     | false => rw [hx] at h1; exact cont_op hgq h1
    obtain ⟨n1, hn1⟩ := key
    exact ⟨max n1 n2, fun m hm => by rw [hn1 m (by omega)]; exact hn2 m (by omega)⟩
  ·cases h
theorem cont_lookX {T : TT} {q : CallF} {gq : Nat → CallF} (hgq : ∀ f args h x, q f args h = some x → ∃ n, ∀ m, n ≤ m → gq m f args h = some x) {esc : List Tmp} {ops : List Oper} {E : St} {ms : List (Nat × St)} {p : Nat × Nat} {x : St × Option Tmp}
  (h : lookX T q esc ops E ms p = some x) : ∃ n, ∀ m, n ≤ m → lookX T (gq m) esc ops E ms p = some x := by
 unfold lookX at h ⊢
 obtain ⟨o, ho, h⟩ := Option.bind_eq_some_iff.1 h
 obtain ⟨u, hu, h⟩ := Option.bind_eq_some_iff.1 h
 simp only [ho, hu, Option.bind_some]
 split at h
 ·cases h
 ·exact ⟨0, fun m _ => h⟩
 ·obtain ⟨r, hr, rfl⟩ := Option.map_eq_some_iff.1 h
  obtain ⟨n, hn⟩ := cont_op hgq hr
  exact ⟨n, fun m hm => by rw [hn m hm, Option.map_some]⟩
theorem cont_looksX {T : TT} {q : CallF} {gq : Nat → CallF} (hgq : ∀ f args h x, q f args h = some x → ∃ n, ∀ m, n ≤ m → gq m f args h = some x) {esc : List Tmp} {ops : List Oper} {E : St} {ms : List (Nat × St)} : ∀ (prs : List (Nat × Nat)), LooksX T q esc ops E ms prs → ∃ n, ∀ m, n ≤ m → LooksX T (gq m) esc ops E ms prs
 | [], _ => ⟨0, fun _ _ => trivial⟩
 | p :: r, ⟨⟨x, h1, h2⟩, h3⟩ => by
  obtain ⟨n1, hn1⟩ := cont_lookX hgq h1
  obtain ⟨n2, hn2⟩ := cont_looksX hgq r h3
  exact ⟨max n1 n2, fun m hm => ⟨⟨x, hn1 m (by omega), h2⟩, hn2 m (by omega)⟩⟩
theorem cont_draw {T : TT} (D : Prg) {c q : CallF} {g gq : Nat → CallF} (hg : ∀ f args h x, c f args h = some x → ∃ n, ∀ m, n ≤ m → g m f args h = some x) (hgq : ∀ f args h x, q f args h = some x → ∃ n, ∀ m, n ≤ m → gq m f args h = some x) {fl : Option (List Nat × List (Nat × Nat))} {esc : List Tmp} {nt : Nat} {ops : List Oper} {st st' : St}
  (h : evalDraw T c q fl esc nt ops st = some st') : ∃ n, ∀ m, n ≤ m → evalDraw T (g m) (gq m) fl esc nt ops st = some st' := by
 unfold evalDraw at h ⊢
 split at h
 ·split at h
  ·rename_i hc
   obtain ⟨n, hn⟩ := cont_ops D hgq _ _ _ h
   exact ⟨n, fun m hm => by simp only [hc, ↓reduceIte, hn m hm]⟩
  ·cases h
 ·split at h
  ·rename_i hL
   obtain ⟨r, h1, h2⟩ := Option.bind_eq_some_iff.1 h
   obtain ⟨n1, hn1⟩ := cont_runX hg hgq _ _ _ _ _ h1
   split at h2
   ·rename_i hl
    obtain ⟨n2, hn2⟩ := cont_looksX hgq _ hl
    refine ⟨max n1 n2, fun m hm => ?_⟩
    rw [if_pos hL, hn1 m (by omega), Option.bind_some, if_pos (hn2 m (by omega))]
    exact h2
   ·cases h2
  ·cases h
theorem cont_loop {body : LS → Option (Ex × LS)} {bm : Nat → LS → Option (Ex × LS)} (hb : ∀ ls x, body ls = some x → ∃ n, ∀ m, n ≤ m → bm m ls = some x) :
  ∀ (k : Nat) (ls : LS) (x : Ex × LS), iterN k body ls = some x → ∃ n, ∀ m, n ≤ m → iterN k (bm m) ls = some x
 | 0, ls, x, h => by simp [iterN] at h
 | k + 1, ls, x, h => by
  simp only [iterN] at h ⊢
  obtain ⟨⟨e, ls1⟩, h1, h2⟩ := Option.bind_eq_some_iff.1 h
  obtain ⟨n1, hn1⟩ := hb _ _ h1
  cases e with
  | normal =>
   obtain ⟨n2, hn2⟩ := cont_loop hb k ls1 x h2
   exact ⟨max n1 n2, fun m hm => by rw [hn1 m (by omega)]; exact hn2 m (by omega)⟩
  | exit id => exact ⟨n1, fun m hm => by rw [hn1 m hm]; exact h2⟩
  | ret => exact ⟨n1, fun m hm => by rw [hn1 m hm]; exact h2⟩
theorem cont_C {T : TT} (D : Prg) {ann : Ann} {nt : Nat} {c q : CallF} {g gq : Nat → CallF} (hg : ∀ f args h x, c f args h = some x → ∃ n, ∀ m, n ≤ m → g m f args h = some x) (hgq : ∀ f args h x, q f args h = some x → ∃ n, ∀ m, n ≤ m → gq m f args h = some x) :
  ∀ (c0 : Code) (cur : Nat) (st : St) (x : Ex × St), evalC T c q loopD ann nt c0 cur st = some x → ∃ n, ∀ m, n ≤ m → evalC T (g m) (gq m) (iterN m) ann nt c0 cur st = some x := by
 intro c0
 induction c0 with
 | region id ops draw =>
  intro cur st x h
  simp only [evalC] at h ⊢
  cases draw with
  | true =>
   simp only [↓reduceIte] at h ⊢
   obtain ⟨st1, h1, h2⟩ := Option.map_eq_some_iff.1 h
   obtain ⟨n, hn⟩ := cont_draw D hg hgq h1
   exact ⟨n, fun m hm => by rw [hn m hm]; simpa using h2⟩
  | false =>
   simp only [Bool.false_eq_true, ↓reduceIte] at h ⊢
   obtain ⟨st1, h1, h2⟩ := Option.map_eq_some_iff.1 h
   obtain ⟨n, hn⟩ := cont_ops D hg _ _ _ h1
   exact ⟨n, fun m hm => by rw [hn m hm]; simpa using h2⟩
 | seq a b iha ihb =>
  intro cur st x h
  simp only [evalC] at h ⊢
  obtain ⟨⟨e, st1⟩, h1, h2⟩ := Option.bind_eq_some_iff.1 h
  obtain ⟨n1, hn1⟩ := iha _ _ _ h1
  cases e with
  | normal =>
   obtain ⟨n2, hn2⟩ := ihb _ _ _ h2
   exact ⟨max n1 n2, fun m hm => by rw [hn1 m (by omega)]; exact hn2 m (by omega)⟩
  | exit id => exact ⟨n1, fun m hm => by rw [hn1 m hm]; exact h2⟩
  | ret => exact ⟨n1, fun m hm => by rw [hn1 m hm]; exact h2⟩
 | cond o a b iha ihb =>
  intro cur st x h
  simp only [evalC] at h ⊢
  split at h
  ·rename_i r hr
   cases r with
   | true => exact iha _ _ _ h
   | false => exact ihb _ _ _ h
  ·cases h
 | block id c0 ih =>
  intro cur st x h
  simp only [evalC] at h ⊢
  obtain ⟨r, h1, h2⟩ := Option.map_eq_some_iff.1 h
  obtain ⟨n, hn⟩ := ih _ _ _ h1
  exact ⟨n, fun m hm => by rw [hn m hm]; simpa using h2⟩
 | loop c0 ih =>
  intro cur st x h
  simp only [evalC] at h ⊢
  split at h
  ·cases h
  ·rename_i k hk
   split at h
   ·rename_i hko
    simp only [hko, ↓reduceIte]
    obtain ⟨r, h1, h2⟩ := Option.bind_eq_some_iff.1 h
    obtain ⟨j, hj⟩ := loopD_iff.1 h1
    have hb : ∀ ls x, ((evalC T c q loopD ann nt c0 cur (restore k ls)).bind fun r => if keepOk r.2 k = true then some (r.1, r.2.save k) else none) = some x →
      ∃ n, ∀ m, n ≤ m → ((evalC T (g m) (gq m) (iterN m) ann nt c0 cur (restore k ls)).bind fun r => if keepOk r.2 k = true then some (r.1, r.2.save k) else none) = some x := fun ls y hy => by
     obtain ⟨r, g1, g2⟩ := Option.bind_eq_some_iff.1 hy
     obtain ⟨n, hn⟩ := ih _ _ _ g1
     exact ⟨n, fun m hm => by rw [hn m hm]; exact g2⟩
    obtain ⟨n, hn⟩ := cont_loop hb j _ _ hj
    refine ⟨max n j, fun m hm => ?_⟩
    rw [iterN_mono j m _ _ _ _ (by omega) (fun _ _ h => h) (hn m (by omega))]
    exact h2
   ·cases h
 | _ => intro cur st x h; exact ⟨0, fun m _ => h⟩
theorem cont_quiet {c : CallF} {g : Nat → CallF} (hg : ∀ f args h x, c f args h = some x → ∃ n, ∀ m, n ≤ m → g m f args h = some x) : ∀ f args h x, quietCall c f args h = some x → ∃ n, ∀ m, n ≤ m → quietCall (g m) f args h = some x := by
 intro f args h x hx
 unfold quietCall at hx ⊢
 split at hx
 ·rename_i r h' heq
  obtain ⟨n, hn⟩ := hg _ _ _ _ heq
  exact ⟨n, fun m hm => by rw [hn m hm]; exact hx⟩
 ·cases hx
theorem den_intro {D : Prg} {f : FuncId} {args : List V} {h : H} {x : V × H} (hb : D.callBody D.den loopD f args h = some x) : D.den f args h = some x := by
 have hg : ∀ f args h x, D.den f args h = some x → ∃ n, ∀ m, n ≤ m → D.callA m f args h = some x := fun f args h x hx => by
  obtain ⟨n, hn⟩ := den_iff.1 hx
  exact ⟨n, fun m hm => callA_mono D n m hm _ _ _ _ hn⟩
 unfold Prg.callBody at hb
 refine den_iff.2 ?_
 split at hb
 ·rename_i r hr
  exact ⟨1, by simp only [Prg.callA, Prg.callBody, hr]; exact hb⟩
 ·rename_i hr
  split at hb
  ·cases hb
  ·rename_i fn hfn
   split at hb
   ·cases hb
   ·rename_i r h' hev
    have : ∃ n, ∀ m, n ≤ m → evalFn D.T (D.callA m) (quietCall (D.callA m)) (iterN m) (D.ann f) fn args h = some (r, h') := by
     unfold evalFn at hev ⊢
     split at hev
     ·cases hev
     ·split at hev
      ·rename_i hle
       simp only [hle, ↓reduceIte]
       obtain ⟨r1, h1, h2⟩ := Option.bind_eq_some_iff.1 hev
       obtain ⟨n, hn⟩ := cont_C D hg (cont_quiet hg) _ _ _ _ h1
       exact ⟨n, fun m hm => by rw [hn m hm]; exact h2⟩
      ·cases hev
    obtain ⟨n, hn⟩ := this
    refine ⟨n + 1, ?_⟩
    simp only [Prg.callA, Prg.callBody, hr, hfn, hn n (Nat.le_refl _)]
    exact hb
theorem den_fn {D : Prg} {f : FuncId} {fn : Func} {args : List V} {h : H} {r : V} {h' : H} (hp : D.prim f args = none) (hf : D.P.funcs[f]? = some fn) (ht : (D.ann f).trunc = false)
  (he : evalFn D.T D.den (quietCall D.den) loopD (D.ann f) fn args h = some (r, h')) : D.den f args h = some (r, h') := by
 refine den_intro ?_
 unfold Prg.callBody
 rw [hp, hf]
 simp only [he, ht, Bool.false_eq_true, ↓reduceIte]
theorem den_trunc {D : Prg} {f : FuncId} {fn : Func} {args : List V} {h : H} {r : V} {h' : H} (hp : D.prim f args = none) (hf : D.P.funcs[f]? = some fn) (ht : (D.ann f).trunc = true) (hr : r.plain = true) (hk : h.keeps h')
  (he : evalFn D.T D.den (quietCall D.den) loopD (D.ann f) fn args h = some (r, h')) : D.den f args h = some (r, h) := by
 refine den_intro ?_
 unfold Prg.callBody
 rw [hp, hf]
 simp only [he, ht, ↓reduceIte]
 rw [if_pos ⟨hr, hk⟩]
theorem den_prim {D : Prg} {f : FuncId} {args : List V} {h : H} {r : V} (hp : D.prim f args = some r) : D.den f args h = some (r, h) := by
 refine den_intro ?_
 unfold Prg.callBody
 rw [hp]
def Prg.PrimOk (D : Prg) : Prop := ∀ f args r, D.prim f args = some r → (∀ h, SimCall D.P f args h r h) ∧ ∃ fn, D.P.funcs[f]? = some fn ∧ fn.body.isSome = true
structure Prg.Ok (D : Prg) : Prop where
 types : D.T.Ok D.P
 mixed : D.P.follows .mixedOrders = true
 names : ∀ (f : Nat) (fn : Func), D.P.funcs[f]? = some fn → fn.name ≠ "runtime.NumGoroutine"
 prims : D.PrimOk
theorem plain1_conc {r : V} (h : r.plain1 = true) (ι ι' : Plan) : r.conc1 ι = r.conc1 ι' := by
 cases r with
 | c x => cases x <;> first | rfl | cases h
 | g xs =>
  simp only [V.conc1]
  congr 2
  refine List.map_congr_left fun x hx => ?_
  simp only [V.plain1, List.all_eq_true] at h
  have := h x hx
  cases x <;> first | rfl | cases this
 | t _ => cases h
 | u => cases h
theorem plain1_ok {r : V} (h : r.plain1 = true) (n : Nat) : r.ok1 n := by
 cases r with
 | c x => cases x <;> first | trivial | cases h
 | g xs =>
  intro x hx
  simp only [V.plain1, List.all_eq_true] at h
  have := h x hx
  cases x <;> first | trivial | cases this
 | t _ => cases h
 | u => cases h
theorem plain_conc {r : V} (h : r.plain = true) (ι ι' : Plan) : r.conc ι = r.conc ι' := by
 cases r with
 | t xs =>
  simp only [V.plain, List.all_eq_true] at h
  simp only [V.conc]
  congr 2
  exact List.map_congr_left fun x hx => plain1_conc (h x hx) _ _
 | c x => exact plain1_conc (r := .c x) h ι ι'
 | g x => exact plain1_conc (r := .g x) h ι ι'
 | u => cases h
theorem plain_ok {r : V} (h : r.plain = true) (n : Nat) : r.ok n := by
 cases r with
 | t xs =>
  simp only [V.plain, List.all_eq_true] at h
  exact fun x hx => plain1_ok (h x hx) n
 | c x => exact plain1_ok (r := .c x) h n
 | g x => exact plain1_ok (r := .g x) h n
 | u => cases h
theorem SimCall.trunc {P : Program} {f : FuncId} {args : List V} {h h' : H} {r : V} (hs : SimCall P f args h r h') (hr : r.plain = true) (hk : h.keeps h') : SimCall P f args h r h := by
 intro B ι w cargs hh hl hrel
 refine (hs B ι w cargs hh hl hrel).mono fun e w' ⟨x, ι', he, k1, k2, k3⟩ => ⟨x, ι, he, ⟨k1.size, fun id b hg => ?_, fun id id' b b' hne hg hg' hro => ?_⟩, ⟨k2.os, k2.tape, k2.output, k2.size, Nat.le_refl _, Agree.refl _ _, k2.keep, fun id bl hg hro => .inr ⟨id, bl, hg, hro, rfl⟩, fun _ _ hg _ => hg⟩, ?_⟩
 ·have hlt := H.get_lt hg
  obtain ⟨cs, et, fz, h1, h2, h3, h4, h5, h6, h7, h8⟩ := k1.live id b (by rw [hk id hlt]; exact hg)
  obtain ⟨_, _, _, _, _, _, _, _, _, g7, _⟩ := hh.live id b hg
  rw [k2.agree id hlt] at h1 h2 h5 h6 h7 h8
  refine ⟨cs, et, fz, h1, h2, h3, h4, h5, h6, fun i y k z hi hz => ?_, h8⟩
  have hb := (g7 i y k z hi hz).2
  have := (h7 i y k z hi hz).1
  rw [Cell.conc_agree k2.agree hb] at this
  exact ⟨this, hb⟩
 ·have := k1.apart id id' b b' hne (by rw [hk id (H.get_lt hg)]; exact hg) (by rw [hk id' (H.get_lt hg')]; exact hg') hro
  rw [k2.agree id (H.get_lt hg), k2.agree id' (H.get_lt hg')] at this; exact this
 ·have hkn : r.known = true := by cases r <;> first | rfl | cases hr
  obtain ⟨e1, _⟩ := V.rel_known k3 hkn
  exact V.rel_mk (by rw [e1]; exact plain_conc hr _ _) (plain_ok hr _)
theorem loopOk_iterN (n : Nat) : LoopOk (iterN n) := fun _ _ _ h => ⟨n, h⟩
theorem callA_ok {D : Prg} (ok : D.Ok) : ∀ n, CallOk D.P (D.callA n)
 | 0 => fun f args h r h' hx => by simp [Prg.callA] at hx
 | n + 1 => fun f args h r h' hx => by
  simp only [Prg.callA, Prg.callBody] at hx
  split at hx
  ·rename_i r0 hr
   cases hx
   obtain ⟨h1, fn, h2, h3⟩ := ok.prims f args _ hr
   exact ⟨h1 _, fn, h2, h3, ok.names f fn h2⟩
  ·split at hx
   ·cases hx
   ·rename_i fn hfn
    split at hx
    ·cases hx
    ·rename_i r1 h1 hev
     have hsim := fn_ok ok.types (callA_ok ok n) ok.mixed (loopOk_iterN n) hfn hev
     have hbody : fn.body.isSome = true := by
      unfold evalFn at hev
      split at hev
      ·cases hev
      ·rename_i hb; rw [hb]; rfl
     split at hx
     ·split at hx
      ·rename_i hc; cases hx
       exact ⟨hsim.trunc hc.1 hc.2, fn, hfn, hbody, ok.names f fn hfn⟩
      ·cases hx
     ·cases hx
      exact ⟨hsim, fn, hfn, hbody, ok.names f fn hfn⟩
theorem den_ok {D : Prg} (ok : D.Ok) {f : FuncId} {args : List V} {h : H} {r : V} {h' : H} (hd : D.den f args h = some (r, h')) : SimCall D.P f args h r h' := by
 obtain ⟨n, hn⟩ := den_iff.1 hd
 exact (callA_ok ok n f args h r h' hn).1
end Go.AM

/-
 THE ABSTRACT MACHINE, 15: a table of types held against a program.
-/
namespace Go.AM
structure TEnt where
 td : TD
 size : Nat
 zero : List Cell
def TT.of (tab : List (Nat × TEnt)) : TT :=
 ⟨fun t => match lk tab t with | some e => e.td | none => .other, fun t => match lk tab t with | some e => e.size | none => 0, fun t => match lk tab t with | some e => e.zero | none => []⟩
def flatCell : Value → Option Cell
 | .int k n => some (.int k n)
 | .bool b => some (.bool b)
 | .string s => some (.str s)
 | .pointer none => some .nilp
 | .slice none 0 0 => some .nils
 | .nilFunc => some .nilfn
 | _ => none
theorem flatCell_conc {v : Value} {c : Cell} (h : flatCell v = some c) : (∀ ι, v = c.conc ι) ∧ c.flat = true := by
 unfold flatCell at h
 split at h <;> first | (cases h; exact ⟨fun _ => rfl, rfl⟩) | cases h
def flatCells : List Value → Option (List Cell)
 | [] => some []
 | v :: r => match flatCell v, flatCells r with
  | some c, some cs => some (c :: cs)
  | _, _ => none
theorem flatCells_conc : ∀ {vs : List Value} {cs : List Cell}, flatCells vs = some cs → (∀ ι, vs = cs.map (Cell.conc ι)) ∧ ∀ c ∈ cs, c.flat = true
 | [], cs, h => by cases h; exact ⟨fun _ => rfl, by simp⟩
 | v :: r, cs, h => by
  simp only [flatCells] at h
  split at h
  ·rename_i c cs' h1 h2
   cases h
   obtain ⟨k1, k2⟩ := flatCell_conc h1
   obtain ⟨k3, k4⟩ := flatCells_conc h2
   refine ⟨fun ι => by rw [List.map_cons, ← k1 ι, ← k3 ι], fun x hx => ?_⟩
   rcases List.mem_cons.1 hx with rfl | hx
   ·exact k2
   ·exact k4 x hx
  ·cases h
def known (tab : List (Nat × TEnt)) (t : TypeId) : Bool := match lk tab t with | some e => (match e.td with | .other => false | _ => true) | none => false
def descFits (P : Program) (tab : List (Nat × TEnt)) : TD → TypeDesc → Bool
 | .int k, .int k' => k == k'
 | .bool, .bool => true
 | .str, .string => true
 | .ptr, .pointer e => (P.info? e).any (·.size != 0)
 | .slice e, .slice e' => e == e'
 | .struct fs, .struct fields => fields.toList.map (fun f => (f.type, f.offset)) == fs && fs.all fun x => known tab x.1
 | .fn, .func .. => true
 | _, _ => false
def eqCheck (P : Program) (tab : List (Nat × TEnt)) (t : TypeId) (e : TEnt) : Bool :=
 match e.td with
 | .struct fs =>
  if intFields (TT.of tab) fs e.size then
   (match P.underlying t with
    | some (.struct fields) => fields.all (fun f => f.name != "_")
    | _ => false) && !P.stoodInHeld t && !P.eqGuardType P.depth t
  else true
 | _ => true
def entCheck (P : Program) (tab : List (Nat × TEnt)) (t : TypeId) (e : TEnt) : Bool :=
 (match P.underlying t with | some d => descFits P tab e.td d | none => false) &&
 (match P.info? t with
  | some i => i.size == e.size && decide (0 < e.size) && (match i.zero with | some z => flatCells z.cells.toList == some e.zero | none => false) && e.zero.length == e.size && decide (i.bytes ≤ 4096)
  | none => false) && eqCheck P tab t e
def tabCheck (P : Program) (tab : List (Nat × TEnt)) : Bool := tab.all fun x => entCheck P tab x.1 x.2
theorem lk_mem {α : Type} : ∀ {l : List (Nat × α)} {t : Nat} {x : α}, lk l t = some x → (t, x) ∈ l
 | [], _, _, h => by simp [lk] at h
 | (t', y) :: l, t, x, h => by
  rw [lk_cons] at h
  split at h
  ·rename_i e; subst e; cases h; simp
  ·exact List.mem_cons_of_mem _ (lk_mem h)
theorem tab_fits {P : Program} {tab : List (Nat × TEnt)} (h : tabCheck P tab = true) : (TT.of tab).Ok P := by
 have key : ∀ t, isOther (TT.of tab) t = false → ∃ e, lk tab t = some e ∧ (TT.of tab).td t = e.td ∧ (TT.of tab).size t = e.size ∧ (TT.of tab).zero t = e.zero ∧ entCheck P tab t e = true := by
  intro t ht
  cases hl : lk tab t with
  | none => simp [isOther, TT.of, hl] at ht
  | some e =>
   refine ⟨e, rfl, by simp [TT.of, hl], by simp [TT.of, hl], by simp [TT.of, hl], ?_⟩
   exact List.all_eq_true.1 h _ (lk_mem hl)
 refine ⟨fun t ht => ?_, fun t ht => ?_, fun t fs hfs hi => ?_⟩
 ·obtain ⟨e, _, h1, _, _, hc⟩ := key t ht
  simp only [entCheck, Bool.and_eq_true] at hc
  obtain ⟨⟨hc, _⟩, _⟩ := hc
  split at hc
  ·rename_i d hd
   refine ⟨d, hd, ?_⟩
   rw [h1]
   generalize e.td = td at hc
   cases td <;> cases d <;> simp only [descFits, Bool.false_eq_true] at hc <;> simp only [TD.fits]
   case int.int k k' => simp only [beq_iff_eq] at hc; rw [hc]
   case ptr.pointer e' => exact ⟨e', rfl, hc⟩
   case slice.slice a b => simp only [beq_iff_eq] at hc; rw [hc]
   case struct.struct fs fields =>
    simp only [Bool.and_eq_true, beq_iff_eq, List.all_eq_true] at hc
    refine ⟨fields, rfl, hc.1, fun x hx => ?_⟩
    have := hc.2 x hx
    unfold known at this
    split at this
    ·rename_i e1 he1
     simp only [isOther, TT.of, he1]
     split at this
     ·cases this
     ·split <;> simp_all
    ·cases this
   case fn.func => exact ⟨_, _, _, rfl⟩
  ·cases hc
 ·obtain ⟨e, _, _, h2, h3, hc⟩ := key t ht
  simp only [entCheck, Bool.and_eq_true] at hc
  obtain ⟨⟨_, hc⟩, _⟩ := hc
  split at hc
  ·rename_i i hi
   simp only [Bool.and_eq_true, beq_iff_eq, decide_eq_true_eq] at hc
   obtain ⟨⟨⟨⟨c1, c2⟩, c3⟩, c4⟩, c5⟩ := hc
   split at c3
   ·rename_i z hz
    simp only [beq_iff_eq] at c3
    obtain ⟨k1, k2⟩ := flatCells_conc c3
    refine ⟨i, z, hi, by rw [h2, c1], by rw [h2]; exact c2, hz, fun ι => ?_, by rw [h2, h3]; exact c4, c5, by rw [h3]; exact k2⟩
    rw [h3, ← k1 ι]
   ·cases c3
  ·cases hc
 ·have ht : isOther (TT.of tab) t = false := isOther_of hfs (by simp)
  obtain ⟨e, _, h1, h2, _, hc⟩ := key t ht
  simp only [entCheck, Bool.and_eq_true] at hc
  obtain ⟨_, hc⟩ := hc
  unfold eqCheck at hc
  rw [h1] at hfs
  rw [h2] at hi
  rw [hfs] at hc
  simp only [hi, ↓reduceIte, Bool.and_eq_true, Bool.not_eq_true'] at hc
  obtain ⟨⟨c1, c2⟩, c3⟩ := hc
  split at c1
  ·rename_i _ fields hu
   simp only [Array.all_eq_true_iff_forall_mem, bne_iff_ne] at c1
   exact ⟨fields, hu, c1, c2, c3⟩
  ·cases c1
theorem namesFit {P : Program} (h : P.funcs.all (fun fn => fn.name != "runtime.NumGoroutine") = true) : ∀ (f : Nat) (fn : Func), P.funcs[f]? = some fn → fn.name ≠ "runtime.NumGoroutine" := by
 intro f fn hf
 have := Array.all_eq_true_iff_forall_mem.1 h fn (Array.mem_of_getElem? hf)
 simpa using this
end Go.AM

/-
 THE ABSTRACT MACHINE, 16: a calculus for 'den': weakest preconditions, loops, slices read and written.
-/
namespace Go.AM
class KB (α : Type) where
 f : α → Prop
class PB where
 p : Prop
def Wp {α : Type} (x : Option α) [q : KB α] : Prop := ∃ a, x = some a ∧ q.f a
@[simp ↓] theorem Wp_some {α : Type} {a : α} {Q : α → Prop} : @Wp _ (some a) ⟨Q⟩ ↔ Q a := ⟨fun ⟨_, h, q⟩ => by cases h; exact q, fun q => ⟨_, rfl, q⟩⟩
@[simp ↓] theorem Wp_none {α : Type} {Q : α → Prop} : @Wp _ (none : Option α) ⟨Q⟩ ↔ False := ⟨fun ⟨_, h, _⟩ => (by cases h), fun h => h.elim⟩
@[simp ↓] theorem Wp_bind {α β : Type} {x : Option α} {f : α → Option β} {Q : β → Prop} : @Wp _ (x.bind f) ⟨Q⟩ ↔ @Wp _ x ⟨fun a => @Wp _ (f a) ⟨Q⟩⟩ := by
 cases x <;> simp
@[simp ↓] theorem Wp_map {α β : Type} {x : Option α} {f : α → β} {Q : β → Prop} : @Wp _ (x.map f) ⟨Q⟩ ↔ @Wp _ x ⟨fun a => Q (f a)⟩ := by
 cases x <;> simp
theorem Wp.mono {α : Type} {x : Option α} {Q R : α → Prop} (h : @Wp _ x ⟨Q⟩) (hq : ∀ a, Q a → R a) : @Wp _ x ⟨R⟩ := by
 obtain ⟨a, h, q⟩ := h; exact ⟨a, h, hq a q⟩
theorem Wp_eq {α : Type} {x : Option α} {a : α} : @Wp _ x ⟨(fun r => r = a)⟩ ↔ x = some a := ⟨fun ⟨_, h, q⟩ => by rw [h, q], fun h => ⟨_, h, rfl⟩⟩
theorem loopD_congr {b : LS → Option (Ex × LS)} {x y : LS} (h : x = y) : loopD b x = loopD b y := by rw [h]
attribute [congr] loopD_congr
theorem loop_wp {body : LS → Option (Ex × LS)} {σ : Type} (enc : σ → LS) (P : σ → Prop) (m : σ → Nat) (s0 : σ) {ls0 : LS} {Q : Ex × LS → Prop} (h0 : ls0 = enc s0) (hP : P s0)
  (step : ∀ s, P s → @Wp _ (body (enc s)) ⟨fun r => (r.1 = .normal → ∃ s', r.2 = enc s' ∧ P s' ∧ m s' < m s) ∧ (r.1 ≠ .normal → Q r)⟩) : @Wp _ (loopD body ls0) ⟨Q⟩ := by
 subst h0
 have key : ∀ n s, m s < n → P s → @Wp _ (loopD body (enc s)) ⟨Q⟩ := by
  intro n
  induction n with
  | zero => intro s h; omega
  | succ n ih =>
   intro s hm hP
   obtain ⟨⟨e, ls⟩, hb, h1, h2⟩ := step s hP
   cases e with
   | normal =>
    obtain ⟨s', he, hP', hm'⟩ := h1 rfl
    simp only at he
    subst he
    obtain ⟨x, hx, hq⟩ := ih s' (by omega) hP'
    exact ⟨x, loopD_next hb hx, hq⟩
   | exit id => exact ⟨_, loopD_exit hb, h2 (by simp)⟩
   | ret => exact ⟨_, loopD_ret hb, h2 (by simp)⟩
 exact key _ s0 (Nat.lt_succ_self _) hP
theorem den_wp {D : Prg} {f : FuncId} {fn : Func} {args : List V} {h : H} {Q : V × H → Prop} (hp : D.prim f args = none) (hf : D.P.funcs[f]? = some fn) (ht : (D.ann f).trunc = false)
  (he : @Wp _ (evalFn D.T D.den (quietCall D.den) loopD (D.ann f) fn args h) ⟨Q⟩) : @Wp _ (D.den f args h) ⟨Q⟩ := by
 obtain ⟨⟨r, h'⟩, h1, h2⟩ := he
 exact ⟨_, den_fn hp hf ht h1, h2⟩
theorem den_plain {D : Prg} {f : FuncId} {fn : Func} {args : List V} {h : H} {v : V} (hp : D.prim f args = none) (hf : D.P.funcs[f]? = some fn) (ht : (D.ann f).trunc = true) (hv : v.plain = true)
  (he : @Wp _ (evalFn D.T D.den (quietCall D.den) loopD (D.ann f) fn args h) ⟨fun r => r.1 = v ∧ h.keeps r.2⟩) : D.den f args h = some (v, h) := by
 obtain ⟨⟨r, h'⟩, h1, rfl, h2⟩ := he
 exact den_trunc hp hf ht hv h2 h1
@[simp] theorem keeps_refl (h : H) : h.keeps h := fun _ _ => rfl
@[simp] theorem keeps_push (h : H) (b : Blk) : h.keeps (h.push b) := fun id hid => by
 unfold H.get H.push; rw [List.getElem?_append_left hid]
theorem keeps_trans {h1 h2 h3 : H} (a : h1.keeps h2) (b : h2.keeps h3) (hl : h1.length ≤ h2.length) : h1.keeps h3 := fun id hid => by rw [b id (by omega), a id hid]
/- ## Slices -/
def sid : Cell → Nat | .sl id _ _ _ => id | _ => 0
def soff : Cell → Nat | .sl _ i _ _ => i | _ => 0
def Cell.ids : Cell → List Nat
 | .sl id _ _ none => [id]
 | .sle id _ _ => [id]
 | .ptr id _ _ => [id]
 | _ => []
def sMost : Nat := 4611686018427387904
def Sl (h : H) (s : Cell) (es : Nat) {α : Type} (enc : α → List Cell) (xs : List α) : Prop :=
 (∀ x ∈ xs, (enc x).length = es) ∧ match s with
 | .nils => xs = []
 | .sle id i l => xs = [] ∧ ∃ b, h.get id = some b ∧ b.es = es ∧ i + l ≤ b.el.length
 | .sl id i len none => len = xs.length ∧ len ≤ sMost ∧ ∃ b, h.get id = some b ∧ b.es = es ∧ i + len ≤ b.el.length ∧ (b.el.drop i).take len = xs.map enc
 | .sl _ _ len (some c) => len = 0 ∧ c = 0 ∧ xs = []
 | _ => False
def Wr (h : H) (s : Cell) : Prop := ∀ id ∈ s.ids, ∃ b, h.get id = some b ∧ b.ro = false
section
variable {α : Type} {enc : α → List Cell} {xs : List α} {h : H} {s : Cell} {es : Nat}
theorem Sl.len (hS : Sl h s es enc xs) : xs.length ≤ sMost := by
 cases s with
 | nils => have := hS.2; simp only at this; subst this; simp
 | sle id i l => have := hS.2.1; subst this; simp
 | sl id i len cap =>
  cases cap with
  | none => have := hS.2; simp only at this; omega
  | some c => have := hS.2.2.2; subst this; simp
 | _ => exact hS.2.elim
theorem Sl.cons (hS : Sl h s es enc xs) {n : Nat} (hn : n < xs.length) : ∃ id i b, s = .sl id i xs.length none ∧ h.get id = some b ∧ b.es = es ∧ i + xs.length ≤ b.el.length ∧ (b.el.drop i).take xs.length = xs.map enc := by
 cases s with
 | nils => have := hS.2; simp only at this; subst this; simp at hn
 | sle id i l => have := hS.2.1; subst this; simp at hn
 | sl id i len cap =>
  cases cap with
  | none =>
   have := hS.2; simp only at this
   obtain ⟨rfl, _, b, h1, h2, h3, h4⟩ := this
   exact ⟨id, i, b, rfl, h1, h2, h3, h4⟩
  | some c => have := hS.2.2.2; subst this; simp at hn
 | _ => exact hS.2.elim
theorem Sl.lenA (hS : Sl h s es enc xs) {e : TypeId} : lenA (.slice e) (.c s) = some xs.length := by
 cases s with
 | nils => have := hS.2; simp only at this; subst this; simp [Go.AM.lenA]
 | sle id i l => have := hS.2.1; subst this; simp [Go.AM.lenA]
 | sl id i len cap =>
  cases cap with
  | none => have := hS.2; simp only at this; simp [Go.AM.lenA, this.1]
  | some c => have := hS.2; simp only at this; simp [Go.AM.lenA, this.1, this.2.2]
 | _ => exact hS.2.elim
def ixA (T : TT) (h : H) (td : TD) (x ix : V) : Option V :=
 match td, x, ix with
 | .slice e, .c (.sl id i len _), .c (.int _ n) =>
  if 0 ≤ n ∧ n < len then (match h.get id with
   | some b => if b.es = T.size e ∧ isOther T e = false then some (.c (.ptr id (i + n.toNat) 0)) else none
   | none => none) else none
 | _, _, _ => none
theorem evalOp_indexAddr {T : TT} {call : CallF} {esc : List Tmp} {t : TypeId} {x ix : Operand} {st : St} {dst ty pos after guard} :
  evalOp T call esc ⟨dst, .indexAddr t x ix, ty, pos, after, guard⟩ st = (ixA T st.h (T.td t) (st.val x) (st.val ix)).map fun v => st.put dst (.val v) := by
 simp only [evalOp, ixA]
 generalize T.td t = td
 generalize st.val x = v
 generalize st.val ix = w
 cases td <;> (try rfl)
 cases v <;> (try rfl)
 rename_i c
 cases c <;> (try rfl)
 cases w <;> (try rfl)
 rename_i c
 cases c <;> (try rfl)
 rename_i id i len cap k n
 by_cases hc : 0 ≤ n ∧ n < (len : Int)
 ·simp only [hc, and_self, ↓reduceIte]
  cases hg : st.h.get id with
  | none => rfl
  | some b => by_cases hb : b.es = T.size ‹_› ∧ isOther T ‹_› = false <;> simp [hb]
 ·simp only [hc, ↓reduceIte]; rfl
theorem ixA_Sl (hS : Sl h s es enc xs) {T : TT} {e : TypeId} {k : IntKind} {n : Int} (he : T.size e = es) (ho : isOther T e = false) (h0 : 0 ≤ n) (h1 : n < xs.length) :
  ixA T h (.slice e) (.c s) (.c (.int k n)) = some (.c (.ptr (sid s) (soff s + n.toNat) 0)) := by
 obtain ⟨id, i, b, rfl, g1, g2, g3, g4⟩ := hS.cons (n := n.toNat) (by omega)
 simp [ixA, h0, h1, g1, g2, he, ho, sid, soff]
theorem Sl.at [Inhabited α] (hS : Sl h s es enc xs) {n k m : Nat} (hn : n < xs.length) (hk : k + m ≤ es) :
  h.cellsAt (sid s) (soff s + n) k m = some (((enc (xs[n]?.getD default)).drop k).take m) := by
 obtain ⟨id, i, b, rfl, g1, g2, g3, g4⟩ := hS.cons hn
 have h2 : b.el[i + n]? = some (enc xs[n]) := by
  have h3 : ((b.el.drop i).take xs.length)[n]? = (xs.map enc)[n]? := by rw [g4]
  rw [List.getElem?_take_of_lt hn, List.getElem?_drop] at h3
  rw [h3]; simp [hn]
 have hl : (enc xs[n]).length = es := hS.1 _ (List.getElem_mem hn)
 simp [H.cellsAt, sid, soff, g1, h2, hl, hk, hn]
theorem wrap_i64 {x : Int} (h0 : -9223372036854775808 ≤ x) (h1 : x < 9223372036854775808) : IntKind.i64.wrap x = x := by
 rw [IntKind.wrap_i64]; omega
end
end Go.AM
