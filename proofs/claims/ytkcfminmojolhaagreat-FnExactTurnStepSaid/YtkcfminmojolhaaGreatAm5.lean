/-
  Proves that a small evaluator over abstract cells and the machine of the model come to the same, and what the calculus of its answers says; under no condition.
-/
import Derived.Test.YtkcfminmojolhaaGreatAm4
set_option linter.all false
/-
  THE ABSTRACT MACHINE, 14: 'den': what the evaluator comes to, however many rounds it takes; what it says holds of the machine.
-/
namespace Go.AM

/-- An operation looks at one call at most. -/
theorem evalOp_call {T : TT} {c : CallF} {esc : List Tmp} {o : Oper} {st st' : St} (h : evalOp T c esc o st = some st') :
    (∀ c', evalOp T c' esc o st = some st') ∨ ∃ f args hh x, c f args hh = some x ∧ ∀ c' : CallF, c' f args hh = some x → evalOp T c' esc o st = some st' := by
  obtain ⟨dst, op, type, pos, after, guard⟩ := o
  cases op
  case call cl =>
    obtain ⟨callee, args, ts⟩ := cl
    cases callee
    case value f =>
      simp only [evalOp] at h ⊢
      cases hf : st.val f with
      | c x =>
        rw [hf] at h
        cases x <;> simp only [] at h <;> (try cases h; done)
        obtain ⟨r, hr, rfl⟩ := Option.map_eq_some_iff.1 h
        exact .inr ⟨_, _, _, r, hr, fun c' hc' => by simp only [hc', Option.map_some]⟩
      | _ => rw [hf] at h; simp at h
    case builtin b => left; intro c'; cases b <;> exact h
    case invoke => left; intro c'; exact h
  case makeFunc fn first caps => left; intro c'; cases fn <;> exact h
  all_goals (left; intro c'; exact h)

theorem mono_evalOp {T : TT} {c1 c2 : CallF} (hc : ∀ f args h x, c1 f args h = some x → c2 f args h = some x) {esc : List Tmp} {o : Oper} {st st' : St} (h : evalOp T c1 esc o st = some st') : evalOp T c2 esc o st = some st' := by
  rcases evalOp_call h with h | ⟨f, args, hh, x, h1, h2⟩
  · exact h c2
  · exact h2 c2 (hc _ _ _ _ h1)

theorem mono_evalOps {T : TT} {c1 c2 : CallF} (hc : ∀ f args h x, c1 f args h = some x → c2 f args h = some x) {esc : List Tmp} {nt : Nat} {ops : List Oper} :
    ∀ (l : List Oper) (st st' : St), evalOps T c1 esc nt ops l st = some st' → evalOps T c2 esc nt ops l st = some st'
  | [], st, st', h => h
  | o :: l, st, st', h => by
    simp only [evalOps] at h ⊢
    split at h
    · rename_i hd
      rw [if_pos hd]
      split at h
      · cases h
      · exact mono_evalOps hc l _ _ h
      · obtain ⟨st1, h1, h2⟩ := Option.bind_eq_some_iff.1 h
        rw [mono_evalOp hc h1]
        exact mono_evalOps hc l _ _ h2
    · cases h

theorem mono_quiet {c1 c2 : CallF} (hc : ∀ f args h x, c1 f args h = some x → c2 f args h = some x) : ∀ f args h x, quietCall c1 f args h = some x → quietCall c2 f args h = some x := by
  intro f args h x hx
  unfold quietCall at hx ⊢
  split at hx
  · rename_i r h' heq
    rw [hc _ _ _ _ heq]
    exact hx
  · cases hx

theorem mono_runX {T : TT} {c1 c2 q1 q2 : CallF} (hc : ∀ f args h x, c1 f args h = some x → c2 f args h = some x) (hq : ∀ f args h x, q1 f args h = some x → q2 f args h = some x) {esc : List Tmp} {nt : Nat} {ops : List Oper} {xs : List Nat} :
    ∀ (l : List Oper) (i : Nat) (st : St) (ms : List (Nat × St)) (x : St × List (Nat × St)), runX T c1 q1 esc nt ops xs i l st ms = some x → runX T c2 q2 esc nt ops xs i l st ms = some x
  | [], i, st, ms, x, h => h
  | o :: l, i, st, ms, x, h => by
    simp only [runX] at h ⊢
    split at h
    · rename_i hd
      rw [if_pos hd]
      split at h
      · cases h
      · exact mono_runX hc hq l _ _ _ _ h
      · obtain ⟨st1, h1, h2⟩ := Option.bind_eq_some_iff.1 h
        have : evalOp T (if xs.contains i then c2 else q2) esc o st = some st1 := by
          cases hx : xs.contains i with
          | true => rw [hx] at h1; exact mono_evalOp hc h1
          | false => rw [hx] at h1; exact mono_evalOp hq h1
        rw [this]
        exact mono_runX hc hq l _ _ _ _ h2
    · cases h
theorem mono_lookX {T : TT} {q1 q2 : CallF} (hq : ∀ f args h x, q1 f args h = some x → q2 f args h = some x) {esc : List Tmp} {ops : List Oper} {E : St} {ms : List (Nat × St)} {p : Nat × Nat} {x : St × Option Tmp}
    (h : lookX T q1 esc ops E ms p = some x) : lookX T q2 esc ops E ms p = some x := by
  unfold lookX at h ⊢
  obtain ⟨o, ho, h⟩ := Option.bind_eq_some_iff.1 h
  obtain ⟨m, hm, h⟩ := Option.bind_eq_some_iff.1 h
  rw [ho, Option.bind_some, hm, Option.bind_some]
  split at h
  · cases h
  · exact h
  · obtain ⟨r, hr, rfl⟩ := Option.map_eq_some_iff.1 h
    simp only [mono_evalOp hq hr, Option.map_some]
theorem mono_looksX {T : TT} {q1 q2 : CallF} (hq : ∀ f args h x, q1 f args h = some x → q2 f args h = some x) {esc : List Tmp} {ops : List Oper} {E : St} {ms : List (Nat × St)} : ∀ (prs : List (Nat × Nat)), LooksX T q1 esc ops E ms prs → LooksX T q2 esc ops E ms prs
  | [], _ => trivial
  | p :: r, ⟨⟨x, h1, h2⟩, h3⟩ => ⟨⟨x, mono_lookX hq h1, h2⟩, mono_looksX hq r h3⟩

theorem mono_draw {T : TT} {c1 c2 q1 q2 : CallF} (hc : ∀ f args h x, c1 f args h = some x → c2 f args h = some x) (hq : ∀ f args h x, q1 f args h = some x → q2 f args h = some x) {fl : Option (List Nat × List (Nat × Nat))} {esc : List Tmp} {nt : Nat} {ops : List Oper} {st st' : St}
    (h : evalDraw T c1 q1 fl esc nt ops st = some st') : evalDraw T c2 q2 fl esc nt ops st = some st' := by
  unfold evalDraw at h ⊢
  split at h
  · split at h
    · rename_i hq'; rw [if_pos hq']; exact mono_evalOps hq _ _ _ h
    · cases h
  · split at h
    · rename_i hL
      rw [if_pos hL]
      obtain ⟨r, h1, h2⟩ := Option.bind_eq_some_iff.1 h
      rw [mono_runX hc hq _ _ _ _ _ h1]
      simp only [Option.bind_some]
      split at h2
      · rename_i hl; rw [if_pos (mono_looksX hq _ hl)]; exact h2
      · cases h2
    · cases h

/-- More rounds tell the same. -/
theorem iterN_mono : ∀ (n m : Nat) (b1 b2 : LS → Option (Ex × LS)) (ls : LS) (x : Ex × LS), n ≤ m → (∀ ls x, b1 ls = some x → b2 ls = some x) → iterN n b1 ls = some x → iterN m b2 ls = some x
  | 0, _, _, _, _, _, _, _, h => by simp [iterN] at h
  | n + 1, 0, _, _, _, _, hm, _, _ => by omega
  | n + 1, m + 1, b1, b2, ls, x, hm, hb, h => by
    simp only [iterN] at h ⊢
    obtain ⟨⟨e, ls1⟩, h1, h2⟩ := Option.bind_eq_some_iff.1 h
    rw [hb _ _ h1]
    cases e with
    | normal => exact iterN_mono n m b1 b2 ls1 x (by omega) hb h2
    | exit id => exact h2
    | ret => exact h2

def LoopLe (l1 l2 : LoopF) : Prop := ∀ (b1 b2 : LS → Option (Ex × LS)), (∀ ls x, b1 ls = some x → b2 ls = some x) → ∀ ls x, l1 b1 ls = some x → l2 b2 ls = some x

theorem mono_evalC {T : TT} {c1 c2 q1 q2 : CallF} {l1 l2 : LoopF} (hc : ∀ f args h x, c1 f args h = some x → c2 f args h = some x) (hq : ∀ f args h x, q1 f args h = some x → q2 f args h = some x) (hl : LoopLe l1 l2) {ann : Ann} {nt : Nat} :
    ∀ (c : Code) (cur : Nat) (st : St) (x : Ex × St), evalC T c1 q1 l1 ann nt c cur st = some x → evalC T c2 q2 l2 ann nt c cur st = some x := by
  intro c
  induction c with
  | region id ops draw =>
    intro cur st x h
    simp only [evalC] at h ⊢
    split at h
    · rename_i hd; rw [if_pos hd]
      obtain ⟨st1, h1, h2⟩ := Option.map_eq_some_iff.1 h
      rw [mono_draw hc hq h1]; simpa using h2
    · rename_i hd; rw [if_neg hd]
      obtain ⟨st1, h1, h2⟩ := Option.map_eq_some_iff.1 h
      rw [mono_evalOps hc _ _ _ h1]; simpa using h2
  | seq a b iha ihb =>
    intro cur st x h
    simp only [evalC] at h ⊢
    obtain ⟨⟨e, st1⟩, h1, h2⟩ := Option.bind_eq_some_iff.1 h
    rw [iha _ _ _ h1]
    cases e with
    | normal => exact ihb _ _ _ h2
    | exit id => exact h2
    | ret => exact h2
  | cond o a b iha ihb =>
    intro cur st x h
    simp only [evalC] at h ⊢
    split at h
    · rename_i r hr
      cases r with
      | true => exact iha _ _ _ h
      | false => exact ihb _ _ _ h
    · cases h
  | block id c ih =>
    intro cur st x h
    simp only [evalC] at h ⊢
    obtain ⟨r, h1, h2⟩ := Option.map_eq_some_iff.1 h
    rw [ih _ _ _ h1]; simpa using h2
  | loop c ih =>
    intro cur st x h
    simp only [evalC] at h ⊢
    split at h
    · cases h
    · rename_i k hk
      split at h
      · rename_i hko
        rw [if_pos hko]
        obtain ⟨r, h1, h2⟩ := Option.bind_eq_some_iff.1 h
        rw [hl _ _ (fun ls y hy => by
          obtain ⟨r, g1, g2⟩ := Option.bind_eq_some_iff.1 hy
          rw [ih _ _ _ g1]; exact g2) _ _ h1]
        exact h2
      · cases h
  | _ => intro cur st x h; exact h

theorem mono_evalFn {T : TT} {c1 c2 q1 q2 : CallF} {l1 l2 : LoopF} (hc : ∀ f args h x, c1 f args h = some x → c2 f args h = some x) (hq : ∀ f args h x, q1 f args h = some x → q2 f args h = some x) (hl : LoopLe l1 l2) {ann : Ann} {fn : Func} {args : List V} {h : H} {x : V × H}
    (he : evalFn T c1 q1 l1 ann fn args h = some x) : evalFn T c2 q2 l2 ann fn args h = some x := by
  unfold evalFn at he ⊢
  split at he
  · cases he
  · split at he
    · rename_i hle
      simp only [hle, ↓reduceIte]
      obtain ⟨r, h1, h2⟩ := Option.bind_eq_some_iff.1 he
      rw [mono_evalC hc hq hl _ _ _ _ h1]; exact h2
    · cases he

theorem mono_body {D : Prg} {c1 c2 : CallF} {l1 l2 : LoopF} (hc : ∀ f args h x, c1 f args h = some x → c2 f args h = some x) (hl : LoopLe l1 l2) {f : FuncId} {args : List V} {h : H} {x : V × H}
    (he : D.callBody c1 l1 f args h = some x) : D.callBody c2 l2 f args h = some x := by
  unfold Prg.callBody at he ⊢
  split at he
  · exact he
  · split at he
    · cases he
    · rename_i fn hfn
      split at he
      · cases he
      · rename_i r h' hev
        rw [mono_evalFn hc (mono_quiet hc) hl hev]
        exact he

theorem loopLe_iterN {n m : Nat} (h : n ≤ m) : LoopLe (iterN n) (iterN m) := fun _ _ hb _ _ hx => iterN_mono _ _ _ _ _ _ h hb hx

theorem callA_mono (D : Prg) : ∀ (n m : Nat), n ≤ m → ∀ f args h x, D.callA n f args h = some x → D.callA m f args h = some x
  | 0, _, _, f, args, h, x, hx => by simp [Prg.callA] at hx
  | n + 1, 0, hm, _, _, _, _, _ => by omega
  | n + 1, m + 1, hm, f, args, h, x, hx => mono_body (callA_mono D n m (by omega)) (loopLe_iterN (by omega)) hx

open Classical in
/-- What a call comes to. -/
noncomputable def Prg.den (D : Prg) : CallF := fun f args h => if hx : ∃ x n, D.callA n f args h = some x then some (Classical.choose hx) else none

open Classical in
noncomputable def loopD : LoopF := fun body ls => if hx : ∃ x n, iterN n body ls = some x then some (Classical.choose hx) else none

theorem den_iff {D : Prg} {f : FuncId} {args : List V} {h : H} {x : V × H} : D.den f args h = some x ↔ ∃ n, D.callA n f args h = some x := by
  unfold Prg.den
  constructor
  · intro hd
    split at hd
    · rename_i hx
      cases hd
      exact Classical.choose_spec hx
    · cases hd
  · rintro ⟨n, hn⟩
    have hx : ∃ x n, D.callA n f args h = some x := ⟨x, n, hn⟩
    rw [dif_pos hx]
    obtain ⟨m, hm⟩ := Classical.choose_spec hx
    have h1 := callA_mono D n (max n m) (Nat.le_max_left _ _) _ _ _ _ hn
    have h2 := callA_mono D m (max n m) (Nat.le_max_right _ _) _ _ _ _ hm
    rw [h1] at h2
    exact h2.symm

theorem loopD_iff {body : LS → Option (Ex × LS)} {ls : LS} {x : Ex × LS} : loopD body ls = some x ↔ ∃ n, iterN n body ls = some x := by
  unfold loopD
  constructor
  · intro hd
    split at hd
    · rename_i hx
      cases hd
      exact Classical.choose_spec hx
    · cases hd
  · rintro ⟨n, hn⟩
    have hx : ∃ x n, iterN n body ls = some x := ⟨x, n, hn⟩
    rw [dif_pos hx]
    obtain ⟨m, hm⟩ := Classical.choose_spec hx
    have h1 := iterN_mono n (max n m) body body ls x (Nat.le_max_left _ _) (fun _ _ h => h) hn
    have h2 := iterN_mono m (max n m) body body ls _ (Nat.le_max_right _ _) (fun _ _ h => h) hm
    rw [h1] at h2
    exact h2.symm

/-- A loop's first round. -/
theorem loopD_next {body : LS → Option (Ex × LS)} {ls ls1 : LS} {x : Ex × LS} (h : body ls = some (.normal, ls1)) (h1 : loopD body ls1 = some x) : loopD body ls = some x := by
  obtain ⟨n, hn⟩ := loopD_iff.1 h1
  exact loopD_iff.2 ⟨n + 1, by simp only [iterN, h, Option.bind_some]; exact hn⟩
theorem loopD_exit {body : LS → Option (Ex × LS)} {ls ls1 : LS} {id : Nat} (h : body ls = some (.exit id, ls1)) : loopD body ls = some (.exit id, ls1) :=
  loopD_iff.2 ⟨1, by simp only [iterN, h, Option.bind_some]⟩
theorem loopD_ret {body : LS → Option (Ex × LS)} {ls ls1 : LS} (h : body ls = some (.ret, ls1)) : loopD body ls = some (.ret, ls1) :=
  loopD_iff.2 ⟨1, by simp only [iterN, h, Option.bind_some]⟩

/-- What 'den' evaluates is evaluated with rounds enough. -/
theorem cont_ops {T : TT} (D : Prg) {c : CallF} {g : Nat → CallF} (hg : ∀ f args h x, c f args h = some x → ∃ n, ∀ m, n ≤ m → g m f args h = some x) {esc : List Tmp} {nt : Nat} {ops : List Oper} :
    ∀ (l : List Oper) (st st' : St), evalOps T c esc nt ops l st = some st' → ∃ n, ∀ m, n ≤ m → evalOps T (g m) esc nt ops l st = some st'
  | [], st, st', h => ⟨0, fun m _ => h⟩
  | o :: l, st, st', h => by
    simp only [evalOps] at h ⊢
    split at h
    · rename_i hd
      simp only [hd, ↓reduceIte]
      split at h
      · cases h
      · exact cont_ops D hg l _ _ h
      · obtain ⟨st1, h1, h2⟩ := Option.bind_eq_some_iff.1 h
        obtain ⟨n2, hn2⟩ := cont_ops D hg l _ _ h2
        have key : ∃ n, ∀ m, n ≤ m → evalOp T (g m) esc o st = some st1 := by
          rcases evalOp_call h1 with h | ⟨f, args, hh, x, h1, h2⟩
          · exact ⟨0, fun m _ => h (g m)⟩
          · obtain ⟨n, hn⟩ := hg _ _ _ _ h1
            exact ⟨n, fun m hm => h2 (g m) (hn m hm)⟩
        obtain ⟨n1, hn1⟩ := key
        exact ⟨max n1 n2, fun m hm => by rw [hn1 m (by omega)]; exact hn2 m (by omega)⟩
    · cases h

theorem cont_op {T : TT} {c : CallF} {g : Nat → CallF} (hg : ∀ f args h x, c f args h = some x → ∃ n, ∀ m, n ≤ m → g m f args h = some x) {esc : List Tmp} {o : Oper} {st st1 : St} (h1 : evalOp T c esc o st = some st1) : ∃ n, ∀ m, n ≤ m → evalOp T (g m) esc o st = some st1 := by
  rcases evalOp_call h1 with h | ⟨f, args, hh, x, h1, h2⟩
  · exact ⟨0, fun m _ => h (g m)⟩
  · obtain ⟨n, hn⟩ := hg _ _ _ _ h1
    exact ⟨n, fun m hm => h2 (g m) (hn m hm)⟩
theorem cont_runX {T : TT} {c q : CallF} {g gq : Nat → CallF} (hg : ∀ f args h x, c f args h = some x → ∃ n, ∀ m, n ≤ m → g m f args h = some x) (hgq : ∀ f args h x, q f args h = some x → ∃ n, ∀ m, n ≤ m → gq m f args h = some x) {esc : List Tmp} {nt : Nat} {ops : List Oper} {xs : List Nat} :
    ∀ (l : List Oper) (i : Nat) (st : St) (ms : List (Nat × St)) (x : St × List (Nat × St)), runX T c q esc nt ops xs i l st ms = some x → ∃ n, ∀ m, n ≤ m → runX T (g m) (gq m) esc nt ops xs i l st ms = some x
  | [], i, st, ms, x, h => ⟨0, fun m _ => h⟩
  | o :: l, i, st, ms, x, h => by
    simp only [runX] at h ⊢
    split at h
    · rename_i hd
      simp only [hd, ↓reduceIte]
      split at h
      · cases h
      · exact cont_runX hg hgq l _ _ _ _ h
      · obtain ⟨st1, h1, h2⟩ := Option.bind_eq_some_iff.1 h
        obtain ⟨n2, hn2⟩ := cont_runX hg hgq l _ _ _ _ h2
        have key : ∃ n, ∀ m, n ≤ m → evalOp T (if xs.contains i then g m else gq m) esc o st = some st1 := by
          cases hx : xs.contains i with
          | true => rw [hx] at h1; exact cont_op hg h1
          | false => rw [hx] at h1; exact cont_op hgq h1
        obtain ⟨n1, hn1⟩ := key
        exact ⟨max n1 n2, fun m hm => by rw [hn1 m (by omega)]; exact hn2 m (by omega)⟩
    · cases h
theorem cont_lookX {T : TT} {q : CallF} {gq : Nat → CallF} (hgq : ∀ f args h x, q f args h = some x → ∃ n, ∀ m, n ≤ m → gq m f args h = some x) {esc : List Tmp} {ops : List Oper} {E : St} {ms : List (Nat × St)} {p : Nat × Nat} {x : St × Option Tmp}
    (h : lookX T q esc ops E ms p = some x) : ∃ n, ∀ m, n ≤ m → lookX T (gq m) esc ops E ms p = some x := by
  unfold lookX at h ⊢
  obtain ⟨o, ho, h⟩ := Option.bind_eq_some_iff.1 h
  obtain ⟨u, hu, h⟩ := Option.bind_eq_some_iff.1 h
  simp only [ho, hu, Option.bind_some]
  split at h
  · cases h
  · exact ⟨0, fun m _ => h⟩
  · obtain ⟨r, hr, rfl⟩ := Option.map_eq_some_iff.1 h
    obtain ⟨n, hn⟩ := cont_op hgq hr
    exact ⟨n, fun m hm => by rw [hn m hm, Option.map_some]⟩
theorem cont_looksX {T : TT} {q : CallF} {gq : Nat → CallF} (hgq : ∀ f args h x, q f args h = some x → ∃ n, ∀ m, n ≤ m → gq m f args h = some x) {esc : List Tmp} {ops : List Oper} {E : St} {ms : List (Nat × St)} : ∀ (prs : List (Nat × Nat)), LooksX T q esc ops E ms prs → ∃ n, ∀ m, n ≤ m → LooksX T (gq m) esc ops E ms prs
  | [], _ => ⟨0, fun _ _ => trivial⟩
  | p :: r, ⟨⟨x, h1, h2⟩, h3⟩ => by
    obtain ⟨n1, hn1⟩ := cont_lookX hgq h1
    obtain ⟨n2, hn2⟩ := cont_looksX hgq r h3
    exact ⟨max n1 n2, fun m hm => ⟨⟨x, hn1 m (by omega), h2⟩, hn2 m (by omega)⟩⟩
theorem cont_draw {T : TT} (D : Prg) {c q : CallF} {g gq : Nat → CallF} (hg : ∀ f args h x, c f args h = some x → ∃ n, ∀ m, n ≤ m → g m f args h = some x) (hgq : ∀ f args h x, q f args h = some x → ∃ n, ∀ m, n ≤ m → gq m f args h = some x) {fl : Option (List Nat × List (Nat × Nat))} {esc : List Tmp} {nt : Nat} {ops : List Oper} {st st' : St}
    (h : evalDraw T c q fl esc nt ops st = some st') : ∃ n, ∀ m, n ≤ m → evalDraw T (g m) (gq m) fl esc nt ops st = some st' := by
  unfold evalDraw at h ⊢
  split at h
  · split at h
    · rename_i hc
      obtain ⟨n, hn⟩ := cont_ops D hgq _ _ _ h
      exact ⟨n, fun m hm => by simp only [hc, ↓reduceIte, hn m hm]⟩
    · cases h
  · split at h
    · rename_i hL
      obtain ⟨r, h1, h2⟩ := Option.bind_eq_some_iff.1 h
      obtain ⟨n1, hn1⟩ := cont_runX hg hgq _ _ _ _ _ h1
      split at h2
      · rename_i hl
        obtain ⟨n2, hn2⟩ := cont_looksX hgq _ hl
        refine ⟨max n1 n2, fun m hm => ?_⟩
        rw [if_pos hL, hn1 m (by omega), Option.bind_some, if_pos (hn2 m (by omega))]
        exact h2
      · cases h2
    · cases h

theorem cont_loop {body : LS → Option (Ex × LS)} {bm : Nat → LS → Option (Ex × LS)} (hb : ∀ ls x, body ls = some x → ∃ n, ∀ m, n ≤ m → bm m ls = some x) :
    ∀ (k : Nat) (ls : LS) (x : Ex × LS), iterN k body ls = some x → ∃ n, ∀ m, n ≤ m → iterN k (bm m) ls = some x
  | 0, ls, x, h => by simp [iterN] at h
  | k + 1, ls, x, h => by
    simp only [iterN] at h ⊢
    obtain ⟨⟨e, ls1⟩, h1, h2⟩ := Option.bind_eq_some_iff.1 h
    obtain ⟨n1, hn1⟩ := hb _ _ h1
    cases e with
    | normal =>
      obtain ⟨n2, hn2⟩ := cont_loop hb k ls1 x h2
      exact ⟨max n1 n2, fun m hm => by rw [hn1 m (by omega)]; exact hn2 m (by omega)⟩
    | exit id => exact ⟨n1, fun m hm => by rw [hn1 m hm]; exact h2⟩
    | ret => exact ⟨n1, fun m hm => by rw [hn1 m hm]; exact h2⟩

theorem cont_C {T : TT} (D : Prg) {ann : Ann} {nt : Nat} {c q : CallF} {g gq : Nat → CallF} (hg : ∀ f args h x, c f args h = some x → ∃ n, ∀ m, n ≤ m → g m f args h = some x) (hgq : ∀ f args h x, q f args h = some x → ∃ n, ∀ m, n ≤ m → gq m f args h = some x) :
    ∀ (c0 : Code) (cur : Nat) (st : St) (x : Ex × St), evalC T c q loopD ann nt c0 cur st = some x → ∃ n, ∀ m, n ≤ m → evalC T (g m) (gq m) (iterN m) ann nt c0 cur st = some x := by
  intro c0
  induction c0 with
  | region id ops draw =>
    intro cur st x h
    simp only [evalC] at h ⊢
    cases draw with
    | true =>
      simp only [↓reduceIte] at h ⊢
      obtain ⟨st1, h1, h2⟩ := Option.map_eq_some_iff.1 h
      obtain ⟨n, hn⟩ := cont_draw D hg hgq h1
      exact ⟨n, fun m hm => by rw [hn m hm]; simpa using h2⟩
    | false =>
      simp only [Bool.false_eq_true, ↓reduceIte] at h ⊢
      obtain ⟨st1, h1, h2⟩ := Option.map_eq_some_iff.1 h
      obtain ⟨n, hn⟩ := cont_ops D hg _ _ _ h1
      exact ⟨n, fun m hm => by rw [hn m hm]; simpa using h2⟩
  | seq a b iha ihb =>
    intro cur st x h
    simp only [evalC] at h ⊢
    obtain ⟨⟨e, st1⟩, h1, h2⟩ := Option.bind_eq_some_iff.1 h
    obtain ⟨n1, hn1⟩ := iha _ _ _ h1
    cases e with
    | normal =>
      obtain ⟨n2, hn2⟩ := ihb _ _ _ h2
      exact ⟨max n1 n2, fun m hm => by rw [hn1 m (by omega)]; exact hn2 m (by omega)⟩
    | exit id => exact ⟨n1, fun m hm => by rw [hn1 m hm]; exact h2⟩
    | ret => exact ⟨n1, fun m hm => by rw [hn1 m hm]; exact h2⟩
  | cond o a b iha ihb =>
    intro cur st x h
    simp only [evalC] at h ⊢
    split at h
    · rename_i r hr
      cases r with
      | true => exact iha _ _ _ h
      | false => exact ihb _ _ _ h
    · cases h
  | block id c0 ih =>
    intro cur st x h
    simp only [evalC] at h ⊢
    obtain ⟨r, h1, h2⟩ := Option.map_eq_some_iff.1 h
    obtain ⟨n, hn⟩ := ih _ _ _ h1
    exact ⟨n, fun m hm => by rw [hn m hm]; simpa using h2⟩
  | loop c0 ih =>
    intro cur st x h
    simp only [evalC] at h ⊢
    split at h
    · cases h
    · rename_i k hk
      split at h
      · rename_i hko
        simp only [hko, ↓reduceIte]
        obtain ⟨r, h1, h2⟩ := Option.bind_eq_some_iff.1 h
        obtain ⟨j, hj⟩ := loopD_iff.1 h1
        have hb : ∀ ls x, ((evalC T c q loopD ann nt c0 cur (restore k ls)).bind fun r => if keepOk r.2 k = true then some (r.1, r.2.save k) else none) = some x →
            ∃ n, ∀ m, n ≤ m → ((evalC T (g m) (gq m) (iterN m) ann nt c0 cur (restore k ls)).bind fun r => if keepOk r.2 k = true then some (r.1, r.2.save k) else none) = some x := fun ls y hy => by
          obtain ⟨r, g1, g2⟩ := Option.bind_eq_some_iff.1 hy
          obtain ⟨n, hn⟩ := ih _ _ _ g1
          exact ⟨n, fun m hm => by rw [hn m hm]; exact g2⟩
        obtain ⟨n, hn⟩ := cont_loop hb j _ _ hj
        refine ⟨max n j, fun m hm => ?_⟩
        rw [iterN_mono j m _ _ _ _ (by omega) (fun _ _ h => h) (hn m (by omega))]
        exact h2
      · cases h
  | _ => intro cur st x h; exact ⟨0, fun m _ => h⟩

theorem cont_quiet {c : CallF} {g : Nat → CallF} (hg : ∀ f args h x, c f args h = some x → ∃ n, ∀ m, n ≤ m → g m f args h = some x) : ∀ f args h x, quietCall c f args h = some x → ∃ n, ∀ m, n ≤ m → quietCall (g m) f args h = some x := by
  intro f args h x hx
  unfold quietCall at hx ⊢
  split at hx
  · rename_i r h' heq
    obtain ⟨n, hn⟩ := hg _ _ _ _ heq
    exact ⟨n, fun m hm => by rw [hn m hm]; exact hx⟩
  · cases hx

/-- A body evaluated with 'den' for its calls: so is the call. -/
theorem den_intro {D : Prg} {f : FuncId} {args : List V} {h : H} {x : V × H} (hb : D.callBody D.den loopD f args h = some x) : D.den f args h = some x := by
  have hg : ∀ f args h x, D.den f args h = some x → ∃ n, ∀ m, n ≤ m → D.callA m f args h = some x := fun f args h x hx => by
    obtain ⟨n, hn⟩ := den_iff.1 hx
    exact ⟨n, fun m hm => callA_mono D n m hm _ _ _ _ hn⟩
  unfold Prg.callBody at hb
  refine den_iff.2 ?_
  split at hb
  · rename_i r hr
    exact ⟨1, by simp only [Prg.callA, Prg.callBody, hr]; exact hb⟩
  · rename_i hr
    split at hb
    · cases hb
    · rename_i fn hfn
      split at hb
      · cases hb
      · rename_i r h' hev
        have : ∃ n, ∀ m, n ≤ m → evalFn D.T (D.callA m) (quietCall (D.callA m)) (iterN m) (D.ann f) fn args h = some (r, h') := by
          unfold evalFn at hev ⊢
          split at hev
          · cases hev
          · split at hev
            · rename_i hle
              simp only [hle, ↓reduceIte]
              obtain ⟨r1, h1, h2⟩ := Option.bind_eq_some_iff.1 hev
              obtain ⟨n, hn⟩ := cont_C D hg (cont_quiet hg) _ _ _ _ h1
              exact ⟨n, fun m hm => by rw [hn m hm]; exact h2⟩
            · cases hev
        obtain ⟨n, hn⟩ := this
        refine ⟨n + 1, ?_⟩
        simp only [Prg.callA, Prg.callBody, hr, hfn, hn n (Nat.le_refl _)]
        exact hb

/-- The usual way in: no 'prim', the function is so, its body comes to this. -/
theorem den_fn {D : Prg} {f : FuncId} {fn : Func} {args : List V} {h : H} {r : V} {h' : H} (hp : D.prim f args = none) (hf : D.P.funcs[f]? = some fn) (ht : (D.ann f).trunc = false)
    (he : evalFn D.T D.den (quietCall D.den) loopD (D.ann f) fn args h = some (r, h')) : D.den f args h = some (r, h') := by
  refine den_intro ?_
  unfold Prg.callBody
  rw [hp, hf]
  simp only [he, ht, Bool.false_eq_true, ↓reduceIte]

theorem den_trunc {D : Prg} {f : FuncId} {fn : Func} {args : List V} {h : H} {r : V} {h' : H} (hp : D.prim f args = none) (hf : D.P.funcs[f]? = some fn) (ht : (D.ann f).trunc = true) (hr : r.plain = true) (hk : h.keeps h')
    (he : evalFn D.T D.den (quietCall D.den) loopD (D.ann f) fn args h = some (r, h')) : D.den f args h = some (r, h) := by
  refine den_intro ?_
  unfold Prg.callBody
  rw [hp, hf]
  simp only [he, ht, ↓reduceIte]
  rw [if_pos ⟨hr, hk⟩]

theorem den_prim {D : Prg} {f : FuncId} {args : List V} {h : H} {r : V} (hp : D.prim f args = some r) : D.den f args h = some (r, h) := by
  refine den_intro ?_
  unfold Prg.callBody
  rw [hp]

/-- What is told of functions by their answers alone holds of the machine. -/
def Prg.PrimOk (D : Prg) : Prop := ∀ f args r, D.prim f args = some r → (∀ h, SimCall D.P f args h r h) ∧ ∃ fn, D.P.funcs[f]? = some fn ∧ fn.body.isSome = true

structure Prg.Ok (D : Prg) : Prop where
  types : D.T.Ok D.P
  mixed : D.P.follows .mixedOrders = true
  names : ∀ (f : Nat) (fn : Func), D.P.funcs[f]? = some fn → fn.name ≠ "runtime.NumGoroutine"
  prims : D.PrimOk

theorem plain1_conc {r : V} (h : r.plain1 = true) (ι ι' : Plan) : r.conc1 ι = r.conc1 ι' := by
  cases r with
  | c x => cases x <;> first | rfl | cases h
  | g xs =>
    simp only [V.conc1]
    congr 2
    refine List.map_congr_left fun x hx => ?_
    simp only [V.plain1, List.all_eq_true] at h
    have := h x hx
    cases x <;> first | rfl | cases this
  | t _ => cases h
  | u => cases h

theorem plain1_ok {r : V} (h : r.plain1 = true) (n : Nat) : r.ok1 n := by
  cases r with
  | c x => cases x <;> first | trivial | cases h
  | g xs =>
    intro x hx
    simp only [V.plain1, List.all_eq_true] at h
    have := h x hx
    cases x <;> first | trivial | cases this
  | t _ => cases h
  | u => cases h

theorem plain_conc {r : V} (h : r.plain = true) (ι ι' : Plan) : r.conc ι = r.conc ι' := by
  cases r with
  | t xs =>
    simp only [V.plain, List.all_eq_true] at h
    simp only [V.conc]
    congr 2
    exact List.map_congr_left fun x hx => plain1_conc (h x hx) _ _
  | c x => exact plain1_conc (r := .c x) h ι ι'
  | g x => exact plain1_conc (r := .g x) h ι ι'
  | u => cases h

theorem plain_ok {r : V} (h : r.plain = true) (n : Nat) : r.ok n := by
  cases r with
  | t xs =>
    simp only [V.plain, List.all_eq_true] at h
    exact fun x hx => plain1_ok (h x hx) n
  | c x => exact plain1_ok (r := .c x) h n
  | g x => exact plain1_ok (r := .g x) h n
  | u => cases h

theorem SimCall.trunc {P : Program} {f : FuncId} {args : List V} {h h' : H} {r : V} (hs : SimCall P f args h r h') (hr : r.plain = true) (hk : h.keeps h') : SimCall P f args h r h := by
  intro B ι w cargs hh hl hrel
  refine (hs B ι w cargs hh hl hrel).mono fun e w' ⟨x, ι', he, k1, k2, k3⟩ => ⟨x, ι, he, ⟨k1.size, fun id b hg => ?_, fun id id' b b' hne hg hg' hro => ?_⟩, ⟨k2.os, k2.tape, k2.output, k2.size, Nat.le_refl _, Agree.refl _ _, k2.keep, fun id bl hg hro => .inr ⟨id, bl, hg, hro, rfl⟩, fun _ _ hg _ => hg⟩, ?_⟩
  · have hlt := H.get_lt hg
    obtain ⟨cs, et, fz, h1, h2, h3, h4, h5, h6, h7, h8⟩ := k1.live id b (by rw [hk id hlt]; exact hg)
    obtain ⟨_, _, _, _, _, _, _, _, _, g7, _⟩ := hh.live id b hg
    rw [k2.agree id hlt] at h1 h2 h5 h6 h7 h8
    refine ⟨cs, et, fz, h1, h2, h3, h4, h5, h6, fun i y k z hi hz => ?_, h8⟩
    have hb := (g7 i y k z hi hz).2
    have := (h7 i y k z hi hz).1
    rw [Cell.conc_agree k2.agree hb] at this
    exact ⟨this, hb⟩
  · have := k1.apart id id' b b' hne (by rw [hk id (H.get_lt hg)]; exact hg) (by rw [hk id' (H.get_lt hg')]; exact hg') hro
    rw [k2.agree id (H.get_lt hg), k2.agree id' (H.get_lt hg')] at this; exact this
  · have hkn : r.known = true := by cases r <;> first | rfl | cases hr
    obtain ⟨e1, _⟩ := V.rel_known k3 hkn
    exact V.rel_mk (by rw [e1]; exact plain_conc hr _ _) (plain_ok hr _)

theorem loopOk_iterN (n : Nat) : LoopOk (iterN n) := fun _ _ _ h => ⟨n, h⟩

theorem callA_ok {D : Prg} (ok : D.Ok) : ∀ n, CallOk D.P (D.callA n)
  | 0 => fun f args h r h' hx => by simp [Prg.callA] at hx
  | n + 1 => fun f args h r h' hx => by
    simp only [Prg.callA, Prg.callBody] at hx
    split at hx
    · rename_i r0 hr
      cases hx
      obtain ⟨h1, fn, h2, h3⟩ := ok.prims f args _ hr
      exact ⟨h1 _, fn, h2, h3, ok.names f fn h2⟩
    · split at hx
      · cases hx
      · rename_i fn hfn
        split at hx
        · cases hx
        · rename_i r1 h1 hev
          have hsim := fn_ok ok.types (callA_ok ok n) ok.mixed (loopOk_iterN n) hfn hev
          have hbody : fn.body.isSome = true := by
            unfold evalFn at hev
            split at hev
            · cases hev
            · rename_i hb; rw [hb]; rfl
          split at hx
          · split at hx
            · rename_i hc; cases hx
              exact ⟨hsim.trunc hc.1 hc.2, fn, hfn, hbody, ok.names f fn hfn⟩
            · cases hx
          · cases hx
            exact ⟨hsim, fn, hfn, hbody, ok.names f fn hfn⟩

/-- **WHAT THE EVALUATOR COMES TO, THE MACHINE COMES TO.** -/
theorem den_ok {D : Prg} (ok : D.Ok) {f : FuncId} {args : List V} {h : H} {r : V} {h' : H} (hd : D.den f args h = some (r, h')) : SimCall D.P f args h r h' := by
  obtain ⟨n, hn⟩ := den_iff.1 hd
  exact (callA_ok ok n f args h r h' hn).1

end Go.AM

/-
  THE ABSTRACT MACHINE, 15: a table of types held against a program.
-/
namespace Go.AM

structure TEnt where
  td : TD
  size : Nat
  zero : List Cell

def TT.of (tab : List (Nat × TEnt)) : TT :=
  ⟨fun t => match lk tab t with | some e => e.td | none => .other, fun t => match lk tab t with | some e => e.size | none => 0, fun t => match lk tab t with | some e => e.zero | none => []⟩

/-- A cell that is so whatever the plan. -/
def flatCell : Value → Option Cell
  | .int k n => some (.int k n)
  | .bool b => some (.bool b)
  | .string s => some (.str s)
  | .pointer none => some .nilp
  | .slice none 0 0 => some .nils
  | .nilFunc => some .nilfn
  | _ => none

theorem flatCell_conc {v : Value} {c : Cell} (h : flatCell v = some c) : (∀ ι, v = c.conc ι) ∧ c.flat = true := by
  unfold flatCell at h
  split at h <;> first | (cases h; exact ⟨fun _ => rfl, rfl⟩) | cases h

def flatCells : List Value → Option (List Cell)
  | [] => some []
  | v :: r => match flatCell v, flatCells r with
    | some c, some cs => some (c :: cs)
    | _, _ => none

theorem flatCells_conc : ∀ {vs : List Value} {cs : List Cell}, flatCells vs = some cs → (∀ ι, vs = cs.map (Cell.conc ι)) ∧ ∀ c ∈ cs, c.flat = true
  | [], cs, h => by cases h; exact ⟨fun _ => rfl, by simp⟩
  | v :: r, cs, h => by
    simp only [flatCells] at h
    split at h
    · rename_i c cs' h1 h2
      cases h
      obtain ⟨k1, k2⟩ := flatCell_conc h1
      obtain ⟨k3, k4⟩ := flatCells_conc h2
      refine ⟨fun ι => by rw [List.map_cons, ← k1 ι, ← k3 ι], fun x hx => ?_⟩
      rcases List.mem_cons.1 hx with rfl | hx
      · exact k2
      · exact k4 x hx
    · cases h

def known (tab : List (Nat × TEnt)) (t : TypeId) : Bool := match lk tab t with | some e => (match e.td with | .other => false | _ => true) | none => false

def descFits (P : Program) (tab : List (Nat × TEnt)) : TD → TypeDesc → Bool
  | .int k, .int k' => k == k'
  | .bool, .bool => true
  | .str, .string => true
  | .ptr, .pointer e => (P.info? e).any (·.size != 0)
  | .slice e, .slice e' => e == e'
  | .struct fs, .struct fields => fields.toList.map (fun f => (f.type, f.offset)) == fs && fs.all fun x => known tab x.1
  | .fn, .func .. => true
  | _, _ => false

def eqCheck (P : Program) (tab : List (Nat × TEnt)) (t : TypeId) (e : TEnt) : Bool :=
  match e.td with
  | .struct fs =>
    if intFields (TT.of tab) fs e.size then
      (match P.underlying t with
        | some (.struct fields) => fields.size == 2 && fields.all (fun f => f.name != "_")
        | _ => false) && !P.stoodInHeld t && !P.eqGuardType P.depth t
    else true
  | _ => true

def entCheck (P : Program) (tab : List (Nat × TEnt)) (t : TypeId) (e : TEnt) : Bool :=
  (match P.underlying t with | some d => descFits P tab e.td d | none => false) &&
  (match P.info? t with
    | some i => i.size == e.size && decide (0 < e.size) && (match i.zero with | some z => flatCells z.cells.toList == some e.zero | none => false) && e.zero.length == e.size && decide (i.bytes ≤ 4096)
    | none => false) && eqCheck P tab t e

def tabCheck (P : Program) (tab : List (Nat × TEnt)) : Bool := tab.all fun x => entCheck P tab x.1 x.2

theorem lk_mem {α : Type} : ∀ {l : List (Nat × α)} {t : Nat} {x : α}, lk l t = some x → (t, x) ∈ l
  | [], _, _, h => by simp [lk] at h
  | (t', y) :: l, t, x, h => by
    rw [lk_cons] at h
    split at h
    · rename_i e; subst e; cases h; simp
    · exact List.mem_cons_of_mem _ (lk_mem h)

theorem tab_fits {P : Program} {tab : List (Nat × TEnt)} (h : tabCheck P tab = true) : (TT.of tab).Ok P := by
  have key : ∀ t, isOther (TT.of tab) t = false → ∃ e, lk tab t = some e ∧ (TT.of tab).td t = e.td ∧ (TT.of tab).size t = e.size ∧ (TT.of tab).zero t = e.zero ∧ entCheck P tab t e = true := by
    intro t ht
    cases hl : lk tab t with
    | none => simp [isOther, TT.of, hl] at ht
    | some e =>
      refine ⟨e, rfl, by simp [TT.of, hl], by simp [TT.of, hl], by simp [TT.of, hl], ?_⟩
      exact List.all_eq_true.1 h _ (lk_mem hl)
  refine ⟨fun t ht => ?_, fun t ht => ?_, fun t fs hfs hi => ?_⟩
  · obtain ⟨e, _, h1, _, _, hc⟩ := key t ht
    simp only [entCheck, Bool.and_eq_true] at hc
    obtain ⟨⟨hc, _⟩, _⟩ := hc
    split at hc
    · rename_i d hd
      refine ⟨d, hd, ?_⟩
      rw [h1]
      generalize e.td = td at hc
      cases td <;> cases d <;> simp only [descFits, Bool.false_eq_true] at hc <;> simp only [TD.fits]
      case int.int k k' => simp only [beq_iff_eq] at hc; rw [hc]
      case ptr.pointer e' => exact ⟨e', rfl, hc⟩
      case slice.slice a b => simp only [beq_iff_eq] at hc; rw [hc]
      case struct.struct fs fields =>
        simp only [Bool.and_eq_true, beq_iff_eq, List.all_eq_true] at hc
        refine ⟨fields, rfl, hc.1, fun x hx => ?_⟩
        have := hc.2 x hx
        unfold known at this
        split at this
        · rename_i e1 he1
          simp only [isOther, TT.of, he1]
          split at this
          · cases this
          · split <;> simp_all
        · cases this
      case fn.func => exact ⟨_, _, _, rfl⟩
    · cases hc
  · obtain ⟨e, _, _, h2, h3, hc⟩ := key t ht
    simp only [entCheck, Bool.and_eq_true] at hc
    obtain ⟨⟨_, hc⟩, _⟩ := hc
    split at hc
    · rename_i i hi
      simp only [Bool.and_eq_true, beq_iff_eq, decide_eq_true_eq] at hc
      obtain ⟨⟨⟨⟨c1, c2⟩, c3⟩, c4⟩, c5⟩ := hc
      split at c3
      · rename_i z hz
        simp only [beq_iff_eq] at c3
        obtain ⟨k1, k2⟩ := flatCells_conc c3
        refine ⟨i, z, hi, by rw [h2, c1], by rw [h2]; exact c2, hz, fun ι => ?_, by rw [h2, h3]; exact c4, c5, by rw [h3]; exact k2⟩
        rw [h3, ← k1 ι]
      · cases c3
    · cases hc
  · have ht : isOther (TT.of tab) t = false := isOther_of hfs (by simp)
    obtain ⟨e, _, h1, h2, _, hc⟩ := key t ht
    simp only [entCheck, Bool.and_eq_true] at hc
    obtain ⟨_, hc⟩ := hc
    unfold eqCheck at hc
    rw [h1] at hfs
    rw [h2] at hi
    rw [hfs] at hc
    simp only [hi, ↓reduceIte, Bool.and_eq_true, Bool.not_eq_true'] at hc
    obtain ⟨⟨c1, c2⟩, c3⟩ := hc
    split at c1
    · rename_i _ fields hu
      simp only [Bool.and_eq_true, beq_iff_eq, Array.all_eq_true_iff_forall_mem, bne_iff_ne] at c1
      obtain ⟨l⟩ := fields
      rcases l with _ | ⟨f0, _ | ⟨f1, _ | ⟨f2, l⟩⟩⟩ <;> simp at c1
      exact ⟨f0, f1, hu, c1.1, c1.2, c2, c3⟩
    · cases c1

theorem namesFit {P : Program} (h : P.funcs.all (fun fn => fn.name != "runtime.NumGoroutine") = true) : ∀ (f : Nat) (fn : Func), P.funcs[f]? = some fn → fn.name ≠ "runtime.NumGoroutine" := by
  intro f fn hf
  have := Array.all_eq_true_iff_forall_mem.1 h fn (Array.mem_of_getElem? hf)
  simpa using this

end Go.AM

/-
  THE ABSTRACT MACHINE, 16: a calculus for 'den': weakest preconditions, loops, slices read and written.
-/
namespace Go.AM

/-- What is to follow; 'simp' does not look into it before its time. -/
class KB (α : Type) where
  f : α → Prop
class PB where
  p : Prop
def Wp {α : Type} (x : Option α) [q : KB α] : Prop := ∃ a, x = some a ∧ q.f a

@[simp ↓] theorem Wp_some {α : Type} {a : α} {Q : α → Prop} : @Wp _ (some a) ⟨Q⟩ ↔ Q a := ⟨fun ⟨_, h, q⟩ => by cases h; exact q, fun q => ⟨_, rfl, q⟩⟩
@[simp ↓] theorem Wp_none {α : Type} {Q : α → Prop} : @Wp _ (none : Option α) ⟨Q⟩ ↔ False := ⟨fun ⟨_, h, _⟩ => (by cases h), fun h => h.elim⟩
@[simp ↓] theorem Wp_bind {α β : Type} {x : Option α} {f : α → Option β} {Q : β → Prop} : @Wp _ (x.bind f) ⟨Q⟩ ↔ @Wp _ x ⟨fun a => @Wp _ (f a) ⟨Q⟩⟩ := by
  cases x <;> simp
@[simp ↓] theorem Wp_map {α β : Type} {x : Option α} {f : α → β} {Q : β → Prop} : @Wp _ (x.map f) ⟨Q⟩ ↔ @Wp _ x ⟨fun a => Q (f a)⟩ := by
  cases x <;> simp
theorem Wp_ite {α : Type} {c : Prop} [Decidable c] {x y : Option α} {Q : α → Prop} : @Wp _ (if c then x else y) ⟨Q⟩ ↔ (c → @Wp _ x ⟨Q⟩) ∧ (¬ c → @Wp _ y ⟨Q⟩) := by
  by_cases h : c <;> simp [h]
theorem Wp.mono {α : Type} {x : Option α} {Q R : α → Prop} (h : @Wp _ x ⟨Q⟩) (hq : ∀ a, Q a → R a) : @Wp _ x ⟨R⟩ := by
  obtain ⟨a, h, q⟩ := h; exact ⟨a, h, hq a q⟩
theorem Wp.of_eq {α : Type} {x : Option α} {a : α} {Q : α → Prop} (h : x = some a) (q : Q a) : @Wp _ x ⟨Q⟩ := ⟨a, h, q⟩
theorem Wp_eq {α : Type} {x : Option α} {a : α} : @Wp _ x ⟨(fun r => r = a)⟩ ↔ x = some a := ⟨fun ⟨_, h, q⟩ => by rw [h, q], fun h => ⟨_, h, rfl⟩⟩

theorem loopD_congr {b : LS → Option (Ex × LS)} {x y : LS} (h : x = y) : loopD b x = loopD b y := by rw [h]
attribute [congr] loopD_congr

theorem loop_wp {body : LS → Option (Ex × LS)} {σ : Type} (enc : σ → LS) (P : σ → Prop) (m : σ → Nat) (s0 : σ) {ls0 : LS} {Q : Ex × LS → Prop} (h0 : ls0 = enc s0) (hP : P s0)
    (step : ∀ s, P s → @Wp _ (body (enc s)) ⟨fun r => (r.1 = .normal → ∃ s', r.2 = enc s' ∧ P s' ∧ m s' < m s) ∧ (r.1 ≠ .normal → Q r)⟩) : @Wp _ (loopD body ls0) ⟨Q⟩ := by
  subst h0
  have key : ∀ n s, m s < n → P s → @Wp _ (loopD body (enc s)) ⟨Q⟩ := by
    intro n
    induction n with
    | zero => intro s h; omega
    | succ n ih =>
      intro s hm hP
      obtain ⟨⟨e, ls⟩, hb, h1, h2⟩ := step s hP
      cases e with
      | normal =>
        obtain ⟨s', he, hP', hm'⟩ := h1 rfl
        simp only at he
        subst he
        obtain ⟨x, hx, hq⟩ := ih s' (by omega) hP'
        exact ⟨x, loopD_next hb hx, hq⟩
      | exit id => exact ⟨_, loopD_exit hb, h2 (by simp)⟩
      | ret => exact ⟨_, loopD_ret hb, h2 (by simp)⟩
  exact key _ s0 (Nat.lt_succ_self _) hP

theorem den_wp {D : Prg} {f : FuncId} {fn : Func} {args : List V} {h : H} {Q : V × H → Prop} (hp : D.prim f args = none) (hf : D.P.funcs[f]? = some fn) (ht : (D.ann f).trunc = false)
    (he : @Wp _ (evalFn D.T D.den (quietCall D.den) loopD (D.ann f) fn args h) ⟨Q⟩) : @Wp _ (D.den f args h) ⟨Q⟩ := by
  obtain ⟨⟨r, h'⟩, h1, h2⟩ := he
  exact ⟨_, den_fn hp hf ht h1, h2⟩

theorem den_plain {D : Prg} {f : FuncId} {fn : Func} {args : List V} {h : H} {v : V} (hp : D.prim f args = none) (hf : D.P.funcs[f]? = some fn) (ht : (D.ann f).trunc = true) (hv : v.plain = true)
    (he : @Wp _ (evalFn D.T D.den (quietCall D.den) loopD (D.ann f) fn args h) ⟨fun r => r.1 = v ∧ h.keeps r.2⟩) : D.den f args h = some (v, h) := by
  obtain ⟨⟨r, h'⟩, h1, rfl, h2⟩ := he
  exact den_trunc hp hf ht hv h2 h1

/-- The same, of any answer. -/
theorem den_plainQ {D : Prg} {f : FuncId} {fn : Func} {args : List V} {h : H} {Q : V → Prop} (hp : D.prim f args = none) (hf : D.P.funcs[f]? = some fn) (ht : (D.ann f).trunc = true)
    (he : @Wp _ (evalFn D.T D.den (quietCall D.den) loopD (D.ann f) fn args h) ⟨fun r => Q r.1 ∧ r.1.plain = true ∧ h.keeps r.2⟩) : @Wp _ (D.den f args h) ⟨fun r => Q r.1 ∧ r.2 = h⟩ := by
  obtain ⟨⟨r, h'⟩, h1, h2, h3, h4⟩ := he
  exact ⟨_, den_trunc hp hf ht h3 h4 h1, h2, rfl⟩

@[simp] theorem keeps_refl (h : H) : h.keeps h := fun _ _ => rfl
@[simp] theorem keeps_push (h : H) (b : Blk) : h.keeps (h.push b) := fun id hid => by
  unfold H.get H.push; rw [List.getElem?_append_left hid]
theorem keeps_trans {h1 h2 h3 : H} (a : h1.keeps h2) (b : h2.keeps h3) (hl : h1.length ≤ h2.length) : h1.keeps h3 := fun id hid => by rw [b id (by omega), a id hid]

/- ## Slices -/
def sid : Cell → Nat | .sl id _ _ _ => id | _ => 0
def soff : Cell → Nat | .sl _ i _ _ => i | _ => 0

/-- The blocks that a cell owns. -/
def Cell.ids : Cell → List Nat
  | .sl id _ _ none => [id]
  | .sle id _ _ => [id]
  | .ptr id _ _ => [id]
  | _ => []

/-- The greatest length of a slice of the program's. -/
def sMost : Nat := 4611686018427387904

/-- A slice reads as elements. -/
def Sl (h : H) (s : Cell) (es : Nat) {α : Type} (enc : α → List Cell) (xs : List α) : Prop :=
  (∀ x ∈ xs, (enc x).length = es) ∧ match s with
  | .nils => xs = []
  | .sle id i l => xs = [] ∧ ∃ b, h.get id = some b ∧ b.es = es ∧ i + l ≤ b.el.length
  | .sl id i len none => len = xs.length ∧ len ≤ sMost ∧ ∃ b, h.get id = some b ∧ b.es = es ∧ i + len ≤ b.el.length ∧ (b.el.drop i).take len = xs.map enc
  | .sl _ _ len (some c) => len = 0 ∧ c = 0 ∧ xs = []
  | _ => False

/-- What it owns may be written. -/
def Wr (h : H) (s : Cell) : Prop := ∀ id ∈ s.ids, ∃ b, h.get id = some b ∧ b.ro = false

section
variable {α : Type} {enc : α → List Cell} {xs : List α} {h : H} {s : Cell} {es : Nat}

theorem Sl.len (hS : Sl h s es enc xs) : xs.length ≤ sMost := by
  cases s with
  | nils => have := hS.2; simp only at this; subst this; simp
  | sle id i l => have := hS.2.1; subst this; simp
  | sl id i len cap =>
    cases cap with
    | none => have := hS.2; simp only at this; omega
    | some c => have := hS.2.2.2; subst this; simp
  | _ => exact hS.2.elim

/-- One that has an element is a slice indeed. -/
theorem Sl.cons (hS : Sl h s es enc xs) {n : Nat} (hn : n < xs.length) : ∃ id i b, s = .sl id i xs.length none ∧ h.get id = some b ∧ b.es = es ∧ i + xs.length ≤ b.el.length ∧ (b.el.drop i).take xs.length = xs.map enc := by
  cases s with
  | nils => have := hS.2; simp only at this; subst this; simp at hn
  | sle id i l => have := hS.2.1; subst this; simp at hn
  | sl id i len cap =>
    cases cap with
    | none =>
      have := hS.2; simp only at this
      obtain ⟨rfl, _, b, h1, h2, h3, h4⟩ := this
      exact ⟨id, i, b, rfl, h1, h2, h3, h4⟩
    | some c => have := hS.2.2.2; subst this; simp at hn
  | _ => exact hS.2.elim

theorem Sl.lenA (hS : Sl h s es enc xs) {e : TypeId} : lenA (.slice e) (.c s) = some xs.length := by
  cases s with
  | nils => have := hS.2; simp only at this; subst this; simp [Go.AM.lenA]
  | sle id i l => have := hS.2.1; subst this; simp [Go.AM.lenA]
  | sl id i len cap =>
    cases cap with
    | none => have := hS.2; simp only at this; simp [Go.AM.lenA, this.1]
    | some c => have := hS.2; simp only at this; simp [Go.AM.lenA, this.1, this.2.2]
  | _ => exact hS.2.elim

def ixA (T : TT) (h : H) (td : TD) (x ix : V) : Option V :=
  match td, x, ix with
  | .slice e, .c (.sl id i len _), .c (.int _ n) =>
    if 0 ≤ n ∧ n < len then (match h.get id with
      | some b => if b.es = T.size e ∧ isOther T e = false then some (.c (.ptr id (i + n.toNat) 0)) else none
      | none => none) else none
  | _, _, _ => none

theorem evalOp_indexAddr {T : TT} {call : CallF} {esc : List Tmp} {t : TypeId} {x ix : Operand} {st : St} {dst ty pos after guard} :
    evalOp T call esc ⟨dst, .indexAddr t x ix, ty, pos, after, guard⟩ st = (ixA T st.h (T.td t) (st.val x) (st.val ix)).map fun v => st.put dst (.val v) := by
  simp only [evalOp, ixA]
  generalize T.td t = td
  generalize st.val x = v
  generalize st.val ix = w
  cases td <;> (try rfl)
  cases v <;> (try rfl)
  rename_i c
  cases c <;> (try rfl)
  cases w <;> (try rfl)
  rename_i c
  cases c <;> (try rfl)
  rename_i id i len cap k n
  by_cases hc : 0 ≤ n ∧ n < (len : Int)
  · simp only [hc, and_self, ↓reduceIte]
    cases hg : st.h.get id with
    | none => rfl
    | some b => by_cases hb : b.es = T.size ‹_› ∧ isOther T ‹_› = false <;> simp [hb]
  · simp only [hc, ↓reduceIte]; rfl

theorem ixA_Sl (hS : Sl h s es enc xs) {T : TT} {e : TypeId} {k : IntKind} {n : Int} (he : T.size e = es) (ho : isOther T e = false) (h0 : 0 ≤ n) (h1 : n < xs.length) :
    ixA T h (.slice e) (.c s) (.c (.int k n)) = some (.c (.ptr (sid s) (soff s + n.toNat) 0)) := by
  obtain ⟨id, i, b, rfl, g1, g2, g3, g4⟩ := hS.cons (n := n.toNat) (by omega)
  simp [ixA, h0, h1, g1, g2, he, ho, sid, soff]

theorem Sl.at [Inhabited α] (hS : Sl h s es enc xs) {n k m : Nat} (hn : n < xs.length) (hk : k + m ≤ es) :
    h.cellsAt (sid s) (soff s + n) k m = some (((enc (xs[n]?.getD default)).drop k).take m) := by
  obtain ⟨id, i, b, rfl, g1, g2, g3, g4⟩ := hS.cons hn
  have h2 : b.el[i + n]? = some (enc xs[n]) := by
    have h3 : ((b.el.drop i).take xs.length)[n]? = (xs.map enc)[n]? := by rw [g4]
    rw [List.getElem?_take_of_lt hn, List.getElem?_drop] at h3
    rw [h3]; simp [hn]
  have hl : (enc xs[n]).length = es := hS.1 _ (List.getElem_mem hn)
  simp [H.cellsAt, sid, soff, g1, h2, hl, hk, hn]

theorem wrap_i64 {x : Int} (h0 : -9223372036854775808 ≤ x) (h1 : x < 9223372036854775808) : IntKind.i64.wrap x = x := by
  rw [IntKind.wrap_i64]; omega
end

end Go.AM
