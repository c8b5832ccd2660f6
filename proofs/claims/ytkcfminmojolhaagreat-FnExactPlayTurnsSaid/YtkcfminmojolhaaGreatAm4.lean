/-
  Proves that a small evaluator over abstract cells and the machine of the model come to the same, and what the calculus of its answers says; under no condition.
-/
import Derived.Test.YtkcfminmojolhaaGreatAm3
set_option linter.all false
/-
  THE ABSTRACT MACHINE, D4: a region that draws its order, whatever is drawn.
-/
namespace Go.AM

section
variable {T : TT} {P : Program}
variable {B : Nat} {h0 : H} {ι0 : Plan} {w0 : World} {nt : Nat} {a : Act} {w : World}
variable {call : CallF} {esc : List Tmp} {ops : Array Oper} {xs : List Nat} {prs : List (Nat × Nat)} {s : Nat → St}

def StepsX (T : TT) (call : CallF) (esc : List Tmp) (nt : Nat) (ops : Array Oper) (xs : List Nat) (s : Nat → St) : Prop := ∀ i o, ops[i]? = some o → StepX T call (quietCall call) esc nt ops.toList xs i o (s i) (s (i + 1))
def KindsX (ops : Array Oper) (xs : List Nat) : Prop := ∀ i o, ops[i]? = some o → drawOp o.op = true ∧ (xs.contains i = true ∨ readOp o.op = true ∨ callsVal o.op = true)
def LexF (ops : Array Oper) : Prop := ∀ i, i < ops.size → ∃ o, ops[i]? = some o ∧ (∀ e ∈ o.after, Region.binds .any e = true → e.on < i) ∧
      ∀ j oj, i < j → ops[j]? = some oj → (∀ e ∈ oj.after, Region.binds .any e = true → e.on ≠ i) → o.apart ops oj = true

theorem step_left (hs : StepsX T call esc nt ops xs s) (hk : KindsX ops xs) {i : Nat} {o : Oper} (ho : ops[i]? = some o) :
    (∃ sl, (s (i + 1)).env = putE (s i).env o.dst sl) ∧ (s (i + 1)).its = (s i).its ∧ (xs.contains i = false → (s (i + 1)).h = (s i).h ∧ (s (i + 1)).bx = (s i).bx) := by
  obtain ⟨h1, h2, h3⟩ := hs i o ho
  rcases h3 with ⟨h3, h4⟩ | ⟨h3, h4⟩
  · rw [h4]; exact ⟨⟨_, put_env _ _ _⟩, by simp, fun _ => by simp⟩
  · have hf := freshB_ok h2
    obtain ⟨g1, g2⟩ := hk i o ho
    have L := evalOp_env (e2 := (s i).env) g1 hf h4 (fun _ _ _ _ => rfl)
    obtain ⟨l1, l2, sl, l3, l4⟩ := L
    refine ⟨⟨sl, l3⟩, l1, fun hc => ?_⟩
    rw [hc] at g2 h4
    simp only [Bool.false_eq_true, false_or, ↓reduceIte] at g2 h4
    rcases g2 with g2 | g2
    · exact l2 g2
    · exact callsVal_mem g2 h4

theorem mem_same (hs : StepsX T call esc nt ops xs s) (hk : KindsX ops xs) {i : Nat} : ∀ (d : Nat), i + d ≤ ops.size → (∀ l, i ≤ l → l < i + d → xs.contains l = false) → (s (i + d)).h = (s i).h ∧ (s (i + d)).bx = (s i).bx
  | 0, _, _ => ⟨rfl, rfl⟩
  | d + 1, h1, h2 => by
    have ih := mem_same hs hk d (by omega) (fun l a b => h2 l a (by omega))
    obtain ⟨o, ho⟩ : ∃ o, ops[i + d]? = some o := ⟨ops[i + d], Array.getElem?_eq_getElem (by omega)⟩
    have := (step_left hs hk ho).2.2 (h2 (i + d) (by omega) (by omega))
    rw [← Nat.add_assoc, this.1, this.2]; exact ih
theorem its_same (hs : StepsX T call esc nt ops xs s) (hk : KindsX ops xs) : ∀ (d : Nat), d ≤ ops.size → (s d).its = (s 0).its
  | 0, _ => rfl
  | d + 1, h1 => by
    obtain ⟨o, ho⟩ : ∃ o, ops[d]? = some o := ⟨ops[d], Array.getElem?_eq_getElem (by omega)⟩
    rw [(step_left hs hk ho).2.1, its_same hs hk d (by omega)]
theorem env_same (hs : StepsX T call esc nt ops xs s) (hk : KindsX ops xs) {i t : Nat} : ∀ (d : Nat), i + d ≤ ops.size → (∀ l o, i ≤ l → l < i + d → ops[l]? = some o → o.dst ≠ some t) → lk (s (i + d)).env t = lk (s i).env t
  | 0, _, _ => rfl
  | d + 1, h1, h2 => by
    have ih := env_same hs hk d (by omega) (fun l o a b => h2 l o a (by omega))
    obtain ⟨o, ho⟩ : ∃ o, ops[i + d]? = some o := ⟨ops[i + d], Array.getElem?_eq_getElem (by omega)⟩
    obtain ⟨⟨sl, e⟩, _⟩ := step_left hs hk ho
    rw [← Nat.add_assoc, e, lk_putE, if_neg (h2 (i + d) o (by omega) (by omega) ho)]
    exact ih

/-- What an operation that may come now looks at is what it looks at in the order as written. -/
theorem looks_agree (hs : StepsX T call esc nt ops xs s) (hk : KindsX ops xs) (hF : LexF ops) {S : Nat → Prop} {k : Nat} {st : St} (hR : Rep ops xs s S k st) (hC : Closed ops S) (hlt : ∀ i, S i → i < ops.size)
    {i : Nat} {o : Oper} (ho : ops[i]? = some o) (hi : ¬ S i) (hready : ∀ e ∈ o.after, Region.binds .any e = true → S e.on) {t : Tmp} (ht : t ∈ o.looksAt ops) : lk st.env t = lk (s i).env t := by
  have hin : i < ops.size := (Array.getElem?_eq_some_iff.1 ho).1
  have later : ∀ j oj, S j → ops[j]? = some oj → oj.dst = some t → j < i := by
    intro j oj hj hoj hd
    rcases Nat.lt_trichotomy j i with h | h | h
    · exact h
    · subst h; exact absurd hj hi
    · exfalso
      obtain ⟨o', ho', _, hap⟩ := hF i hin
      rw [ho] at ho'; cases ho'
      by_cases he : ∀ e ∈ oj.after, Region.binds .any e = true → e.on ≠ i
      · exact (Oper.apart_spec (hap j oj h hoj he)).2.2 t hd ht
      · obtain ⟨e, he⟩ := Classical.not_forall.1 he
        obtain ⟨he, h2⟩ := Classical.not_imp.1 he
        obtain ⟨hb, h3⟩ := Classical.not_imp.1 h2
        have : e.on = i := Classical.not_not.1 h3
        exact hi (this ▸ hC j oj hj hoj e he hb)
  have earlier : ∀ j oj, j < i → ops[j]? = some oj → oj.dst = some t → S j := by
    intro j oj hj hoj hd
    obtain ⟨o', ho', _, hap⟩ := hF j (by omega)
    rw [hoj] at ho'; cases ho'
    by_cases he : ∀ e ∈ o.after, Region.binds .any e = true → e.on ≠ j
    · exact absurd ht ((Oper.apart_spec (hap i o hj ho he)).1 t hd)
    · obtain ⟨e, he⟩ := Classical.not_forall.1 he
      obtain ⟨he, h2⟩ := Classical.not_imp.1 he
      obtain ⟨hb, h3⟩ := Classical.not_imp.1 h2
      have : e.on = j := Classical.not_not.1 h3
      exact this ▸ hready e he hb
  rcases hR.env t with ⟨j, oj, h1, h2, h3, h4, h5⟩ | ⟨h1, h2⟩
  · have hji := later j oj h1 h2 h3
    rw [h5]
    have := env_same hs hk (i := j + 1) (t := t) (i - (j + 1)) (by omega) (fun l ol a b hol hd => by
      have := h4 l ol (earlier l ol (by omega) hol hd) hol hd; omega)
    rw [show j + 1 + (i - (j + 1)) = i by omega] at this
    exact this.symm
  · rw [h2]
    have := env_same hs hk (i := 0) (t := t) i (by omega) (fun l ol a b hol hd => h1 l ol (earlier l ol (by omega) hol hd) hol hd)
    rw [Nat.zero_add] at this
    exact this.symm

theorem mem_looks {o : Oper} {x : Operand} {t : Tmp} (hx : x ∈ o.op.operands) (e : x = .tmp t) : t ∈ o.looksAt ops := by
  subst e
  exact List.mem_append_left _ (List.mem_filterMap.2 ⟨.tmp t, by simpa using hx, rfl⟩)
theorem wanted_agree {o : Oper} {st st2 : St} (h : ∀ t ∈ o.looksAt ops, lk st2.env t = lk st.env t) : wantedA ops.toList st2 o = wantedA ops.toList st o := by
  unfold wantedA
  cases hg : o.guard with
  | none => rfl
  | some jw =>
    obtain ⟨j, want⟩ := jw
    simp only
    cases hj : ops.toList[j]? with
    | none => rfl
    | some oj =>
      simp only
      cases hd : oj.dst with
      | none => rfl
      | some d =>
        simp only
        have hj' : ops[j]? = some oj := by simpa using hj
        rw [h d (List.mem_append_right _ (by simp [hg, hj', hd]))]

/-- The next one has come. -/
theorem Rep.next (hs : StepsX T call esc nt ops xs s) (hk : KindsX ops xs) (hF : LexF ops) (hsort : xs.Pairwise (· < ·)) {S : Nat → Prop} {k : Nat} {st st' : St} (hR : Rep ops xs s S k st) (hC : Closed ops S)
    {i : Nat} {o : Oper} (ho : ops[i]? = some o) (hi : ¬ S i) (hX : xs.contains i = true → xs[k]? = some i)
    (hm : if xs.contains i then st'.h = (s (i + 1)).h ∧ st'.bx = (s (i + 1)).bx else st'.h = st.h ∧ st'.bx = st.bx) (hits : st'.its = st.its)
    (henv : ∀ t, lk st'.env t = if o.dst = some t then lk (s (i + 1)).env t else lk st.env t) : ∃ k', Rep ops xs s (fun j => S j ∨ j = i) k' st' := by
  have hin : i < ops.size := (Array.getElem?_eq_some_iff.1 ho).1
  have envR : ∀ t, (∃ i' o', (S i' ∨ i' = i) ∧ ops[i']? = some o' ∧ o'.dst = some t ∧ (∀ j oj, (S j ∨ j = i) → ops[j]? = some oj → oj.dst = some t → j ≤ i') ∧ lk st'.env t = lk (s (i' + 1)).env t) ∨
      ((∀ j oj, (S j ∨ j = i) → ops[j]? = some oj → oj.dst ≠ some t) ∧ lk st'.env t = lk (s 0).env t) := by
    intro t
    by_cases hd : o.dst = some t
    · left
      refine ⟨i, o, .inr rfl, ho, hd, fun j oj hj hoj hdj => ?_, by rw [henv t, if_pos hd]⟩
      rcases hj with hj | rfl
      · rcases Nat.lt_or_ge i j with h | h
        · exfalso
          obtain ⟨o', ho', _, hap⟩ := hF i hin
          rw [ho] at ho'; cases ho'
          by_cases he : ∀ e ∈ oj.after, Region.binds .any e = true → e.on ≠ i
          · exact (Oper.apart_spec (hap j oj h hoj he)).2.1 t hd hdj
          · obtain ⟨e, he⟩ := Classical.not_forall.1 he
            obtain ⟨he, h2⟩ := Classical.not_imp.1 he
            obtain ⟨hb, h3⟩ := Classical.not_imp.1 h2
            have : e.on = i := Classical.not_not.1 h3
            exact hi (this ▸ hC j oj hj hoj e he hb)
        · exact h
      · exact Nat.le_refl _
    · rw [henv t, if_neg hd]
      rcases hR.env t with ⟨j, oj, h1, h2, h3, h4, h5⟩ | ⟨h1, h2⟩
      · refine .inl ⟨j, oj, .inl h1, h2, h3, fun l ol hl hol hdl => ?_, h5⟩
        rcases hl with hl | rfl
        · exact h4 l ol hl hol hdl
        · rw [ho] at hol; cases hol; exact absurd hdl hd
      · refine .inr ⟨fun l ol hl hol hdl => ?_, h2⟩
        rcases hl with hl | rfl
        · exact h1 l ol hl hol hdl
        · rw [ho] at hol; cases hol; exact absurd hdl hd
  cases hc : xs.contains i with
  | true =>
    rw [hc] at hm
    simp only [↓reduceIte] at hm
    have hxk := hX hc
    have hkl : k < xs.length := (List.getElem?_eq_some_iff.1 hxk).1
    refine ⟨k + 1, by omega, fun p x hp => ?_, by rw [memAt_succ hxk]; exact hm.1, by rw [memAt_succ hxk]; exact hm.2, ?_, envR⟩
    · rcases Nat.lt_trichotomy p k with h | h | h
      · exact ⟨fun _ => by omega, fun _ => .inl ((hR.cnt p x hp).2 h)⟩
      · subst h; rw [hxk] at hp; cases hp; exact ⟨fun _ => by omega, fun _ => .inr rfl⟩
      · refine ⟨fun hh => ?_, fun _ => by omega⟩
        rcases hh with hh | rfl
        · have := (hR.cnt p x hp).1 hh; omega
        · have := sorted_lt hsort hxk hp h; omega
    · rw [hits, hR.its, memAt_succ hxk, its_same hs hk (i + 1) (by omega)]
      have hmk : memAt xs k ≤ ops.size := by
        cases k with
        | zero => simp [memAt]
        | succ k =>
          obtain ⟨x, hx⟩ : ∃ x, xs[k]? = some x := ⟨xs[k], List.getElem?_eq_getElem (by omega)⟩
          rw [memAt_succ hx]
          have := sorted_lt hsort hx hxk (by omega); omega
      rw [its_same hs hk _ hmk]
  | false =>
    rw [hc] at hm
    simp only [Bool.false_eq_true, ↓reduceIte] at hm
    refine ⟨k, hR.kle, fun p x hp => ?_, hm.1.trans hR.h, hm.2.trans hR.bx, hits.trans hR.its, envR⟩
    refine ⟨fun hh => ?_, fun hh => .inl ((hR.cnt p x hp).2 hh)⟩
    rcases hh with hh | rfl
    · exact (hR.cnt p x hp).1 hh
    · have : xs.contains x = true := by simpa using List.mem_of_getElem? hp
      rw [this] at hc; cases hc
end
end Go.AM

/-
  THE ABSTRACT MACHINE, D5: a region that draws its order: one operation, then all of them.
-/
namespace Go.AM

section
variable {T : TT} {P : Program} (ok : T.Ok P)
variable {B : Nat} {h0 : H} {ι0 : Plan} {w0 : World} {nt : Nat}
variable {call : CallF} {esc : List Tmp} {ops : Array Oper} {xs : List Nat} {prs : List (Nat × Nat)} {s : Nat → St}

/-- What is to be known of another look. -/
def AgainX (T : TT) (call : CallF) (esc : List Tmp) (ops : Array Oper) (xs : List Nat) (s : Nat → St) : Prop :=
  ∀ S : Nat → Prop, Closed ops S → ∀ k, k ≤ xs.length → (∀ p x, xs[p]? = some x → (S x ↔ p < k)) → ∀ i o, ops[i]? = some o → ¬ S i → (∀ e ∈ o.after, Region.binds .any e = true → S e.on) → xs.contains i = false → memFree o.op = false →
    k = (xs.filter (· < i)).length ∨ (wantedA ops.toList (s i) o = some true → ∃ st1 r, (∀ t ∈ o.looksAt ops, lk st1.env t = lk (s i).env t) ∧ st1.h = (s (memAt xs k)).h ∧ st1.bx = (s (memAt xs k)).bx ∧ st1.its = (s (memAt xs k)).its ∧
      evalOp T (quietCall call) esc o st1 = some r ∧ ∀ d, o.dst = some d → lk r.env d = lk (s (i + 1)).env d)

theorem one_ok (hs : StepsX T call esc nt ops xs s) (hk : KindsX ops xs) (hF : LexF ops) (hch : chainX ops.toList xs = true) (hlen : ∀ x ∈ xs, x < ops.size) (hag : AgainX T call esc ops xs s) {S : Nat → Prop} {k : Nat} {st : St} (hR : Rep ops xs s S k st) (hC : Closed ops S) (hlt : ∀ i, S i → i < ops.size)
    {i : Nat} {o : Oper} (ho : ops[i]? = some o) (hi : ¬ S i) (hready : ∀ e ∈ o.after, Region.binds .any e = true → S e.on) :
    ∃ st', ((wantedA ops.toList st o = some false ∧ st' = st.put o.dst (.val undefV)) ∨ (wantedA ops.toList st o = some true ∧ ∃ c, (c = call ∨ c = quietCall call) ∧ evalOp T c esc o st = some st')) ∧ dstOk nt o = true ∧
      ∃ k', Rep ops xs s (fun j => S j ∨ j = i) k' st' := by
  have hin : i < ops.size := (Array.getElem?_eq_some_iff.1 ho).1
  have hsort := chainX_sorted xs hch
  have hagree : ∀ t ∈ o.looksAt ops, lk st.env t = lk (s i).env t := fun t ht => looks_agree hs hk hF hR hC hlt ho hi hready ht
  have hwant := wanted_agree (st := s i) (st2 := st) hagree
  obtain ⟨hd, hfr, hst⟩ := hs i o ho
  have hfr := freshB_ok hfr
  obtain ⟨hdr, hkd⟩ := hk i o ho
  have hits0 : ∀ j, j ≤ ops.size → (s j).its = (s 0).its := fun j hj => its_same hs hk j hj
  have hmk : memAt xs k ≤ ops.size := by
    cases k with
    | zero => simp [memAt]
    | succ k =>
      have := hR.kle
      obtain ⟨x, hx⟩ : ∃ x, xs[k]? = some x := ⟨xs[k], List.getElem?_eq_getElem (by omega)⟩
      rw [memAt_succ hx]
      have := hlen x (List.mem_of_getElem? hx); omega
  have hitsE : st.its = (s i).its := by rw [hR.its, hits0 _ hmk, hits0 i (by omega)]
  -- the same heap as ahead of it in the order as written
  have same : (∀ q x, xs[q]? = some x → (x < i ↔ q < k)) → st.h = (s i).h ∧ st.bx = (s i).bx := by
    intro hq
    obtain ⟨g1, g2⟩ := memAt_gap hsort hR.kle hq
    have := mem_same hs hk (i := memAt xs k) (i - memAt xs k) (by omega) (fun l a b => g2 l a (by omega))
    rw [show memAt xs k + (i - memAt xs k) = i by omega] at this
    exact ⟨hR.h.trans this.1.symm, hR.bx.trans this.2.symm⟩
  have hXk : xs.contains i = true → xs[k]? = some i ∧ st.h = (s i).h ∧ st.bx = (s i).bx := by
    intro hc
    have hm : i ∈ xs := by simpa using hc
    obtain ⟨p, hp, e⟩ := List.getElem_of_mem hm
    have hp' : xs[p]? = some i := by rw [List.getElem?_eq_getElem hp, e]
    have hpk : ¬ p < k := fun h => hi ((hR.cnt p i hp').2 h)
    have hpk2 : p ≤ k := by
      cases p with
      | zero => omega
      | succ p =>
        obtain ⟨x, hx⟩ : ∃ x, xs[p]? = some x := ⟨xs[p], List.getElem?_eq_getElem (by omega)⟩
        obtain ⟨o', ho', e, he, hb, hon⟩ := chainX_edge xs hch p x i hx hp'
        have : o' = o := by
          have : ops[i]? = some o' := by simpa using ho'
          rw [ho] at this; cases this; rfl
        subst this
        have := hready e he hb
        rw [hon] at this
        have := (hR.cnt p x hx).1 this
        omega
    have : p = k := by omega
    subst this
    refine ⟨hp', same fun q x hx => ⟨fun h => ?_, fun h => sorted_lt hsort hx hp' h⟩⟩
    rcases Nat.lt_trichotomy q p with h1 | h1 | h1
    · exact h1
    · subst h1; rw [hp'] at hx; cases hx; omega
    · have := sorted_lt hsort hp' hx h1; omega
  have etaE : ∀ u : St, st.h = u.h → st.bx = u.bx → st.its = u.its → ({ u with env := st.env } : St) = st := by
    intro u e1 e2 e3
    cases st; cases u; simp only at e1 e2 e3; subst e1 e2 e3; rfl
  -- what an answer with this environment comes to
  have fin : ∀ st' : St, (if xs.contains i then st'.h = (s (i + 1)).h ∧ st'.bx = (s (i + 1)).bx else st'.h = st.h ∧ st'.bx = st.bx) → st'.its = st.its → (∀ t, lk st'.env t = if o.dst = some t then lk (s (i + 1)).env t else lk st.env t) → ∃ k', Rep ops xs s (fun j => S j ∨ j = i) k' st' :=
    fun st' a b c => Rep.next hs hk hF hsort hR hC ho hi (fun h => (hXk h).1) a b c
  rcases hst with ⟨w1, e1⟩ | ⟨w1, e1⟩
  · refine ⟨st.put o.dst (.val undefV), .inl ⟨by rw [hwant, w1], rfl⟩, hd, fin _ ?_ (by simp) ?_⟩
    · rw [e1]
      cases hc : xs.contains i with
      | true => simp; exact (hXk hc).2
      | false => simp
    · intro t
      rw [e1, put_env, put_env, lk_putE, lk_putE]
      split <;> rfl
  · have hw2 : wantedA ops.toList st o = some true := by rw [hwant, w1]
    have hagO : ∀ x ∈ o.op.operands, ∀ t, x = .tmp t → lk st.env t = lk (s i).env t := fun x hx t e => hagree t (mem_looks hx e)
    cases hc : xs.contains i with
    | true =>
      rw [hc] at e1
      simp only [↓reduceIte] at e1
      obtain ⟨hxk, hh, hb⟩ := hXk hc
      have L := evalOp_env (e2 := st.env) hdr hfr e1 hagO
      obtain ⟨l1, _, sl, l3, l4⟩ := L
      rw [etaE (s i) hh hb hitsE] at l4
      refine ⟨_, .inr ⟨hw2, call, .inl rfl, l4⟩, hd, fin _ (by rw [hc]; simp) (by simp only; rw [l1, hitsE]) ?_⟩
      intro t
      simp only
      rw [lk_putE, l3, lk_putE]
      split <;> rfl
    | false =>
      rw [hc] at e1 hkd
      simp only [Bool.false_eq_true, ↓reduceIte, false_or] at e1 hkd
      -- from any answer that leaves the same in its temporary
      have close : ∀ sl, evalOp T (quietCall call) esc o st = some { st with env := putE st.env o.dst sl } → (∀ d, o.dst = some d → some sl = lk (s (i + 1)).env d) →
          ∃ st', ((wantedA ops.toList st o = some false ∧ st' = st.put o.dst (.val undefV)) ∨ (wantedA ops.toList st o = some true ∧ ∃ c, (c = call ∨ c = quietCall call) ∧ evalOp T c esc o st = some st')) ∧ dstOk nt o = true ∧
            ∃ k', Rep ops xs s (fun j => S j ∨ j = i) k' st' := by
        intro sl he hsl
        refine ⟨_, .inr ⟨hw2, quietCall call, .inr rfl, he⟩, hd, fin _ (by rw [hc]; simp) rfl ?_⟩
        intro t
        simp only
        rw [lk_putE]
        split
        · rename_i e; exact hsl t e
        · rfl
      obtain ⟨l1, l2, sl, l3, l4⟩ := evalOp_env (e2 := st.env) hdr hfr e1 hagO
      have hslot : ∀ d, o.dst = some d → some sl = lk (s (i + 1)).env d := by
        intro d hd2
        rw [l3, hd2, lk_putE, if_pos rfl]
      by_cases hmf : memFree o.op = true
      · have := evalOp_mem hmf l4 st
        exact close sl (by simpa using this) hslot
      · rcases hag S hC k hR.kle hR.cnt i o ho hi hready hc (by simpa using hmf) with hkk | hp
        · have hq : ∀ q x, xs[q]? = some x → (x < i ↔ q < k) := fun q x hx => by rw [hkk]; exact filter_lt xs hsort i q x hx
          obtain ⟨hh, hb⟩ := same hq
          rw [etaE (s i) hh hb hitsE] at l4
          have hmem : (s (i + 1)).h = (s i).h ∧ (s (i + 1)).bx = (s i).bx := by
            rcases hkd with g | g
            · exact l2 g
            · exact callsVal_mem g e1
          have : ({ s (i + 1) with env := putE st.env o.dst sl } : St) = { st with env := putE st.env o.dst sl } := by
            show (⟨putE st.env o.dst sl, (s (i + 1)).bx, (s (i + 1)).its, (s (i + 1)).h⟩ : St) = ⟨putE st.env o.dst sl, st.bx, st.its, st.h⟩
            rw [hmem.1, hmem.2, l1, hh, hb, hitsE]
          rw [this] at l4
          exact close sl l4 hslot
        · obtain ⟨st1, r, q1, q2, q3, q4, q5, q6⟩ := hp w1
          have hf1 : freshOk esc o st1 := by
            intro t d ho2 _ _
            exfalso
            rcases hkd with g | g
            · rw [ho2] at g; cases g
            · rw [ho2] at g; cases g
          obtain ⟨m1, m2, sl1, m3, m4⟩ := evalOp_env (e2 := st.env) hdr hf1 q5 (fun x hx t e => by rw [hagree t (mem_looks hx e), q1 t (mem_looks hx e)])
          have hmem : r.h = st1.h ∧ r.bx = st1.bx := by
            rcases hkd with g | g
            · exact m2 g
            · exact callsVal_mem g q5
          have e1' : st.h = st1.h := by rw [q2, hR.h]
          have e2' : st.bx = st1.bx := by rw [q3, hR.bx]
          have e3' : st.its = st1.its := by rw [q4, hR.its]
          rw [etaE st1 e1' e2' e3'] at m4
          have : ({ r with env := putE st.env o.dst sl1 } : St) = { st with env := putE st.env o.dst sl1 } := by
            show (⟨putE st.env o.dst sl1, r.bx, r.its, r.h⟩ : St) = ⟨putE st.env o.dst sl1, st.bx, st.its, st.h⟩
            rw [hmem.1, hmem.2, m1, e1', e2', e3']
          rw [this] at m4
          refine close sl1 m4 fun d hd2 => ?_
          rw [← q6 d hd2, m3, hd2, lk_putE, if_pos rfl]
end
end Go.AM

/-
  THE ABSTRACT MACHINE, D6: a region that draws its order, some of whose operations change things: the theorem.
-/
namespace Go.AM

section
variable {T : TT} {P : Program} (ok : T.Ok P)
variable {B : Nat} {h0 : H} {ι0 : Plan} {w0 : World} {nt : Nat}
variable {call : CallF} {esc : List Tmp} {ops : Array Oper} {xs : List Nat} {prs : List (Nat × Nat)} {s : Nat → St}

def unl (n : Nat) (listed : Array Bool) : Nat := ((List.range n).filter fun j => !listed.getD j true).length
theorem filter_one : ∀ (n i : Nat) (f g : Nat → Bool), i < n → f i = true → g i = false → (∀ j, j ≠ i → f j = g j) → ((List.range n).filter f).length = ((List.range n).filter g).length + 1
  | 0, i, f, g, h, _, _, _ => by omega
  | n + 1, i, f, g, h, hf, hg, hj => by
    rw [List.range_succ, List.filter_append, List.filter_append, List.length_append, List.length_append]
    by_cases e : i = n
    · subst e
      have : (List.range i).filter f = (List.range i).filter g := List.filter_congr fun j hjm => hj j (by have := List.mem_range.1 hjm; omega)
      rw [this]; simp [hf, hg]
    · have := filter_one n i f g (by omega) hf hg hj
      rw [this]
      have e2 : f n = g n := hj n (fun h => e h.symm)
      cases hgn : g n <;> simp [e2, hgn] <;> omega
theorem unl_set {n i : Nat} {listed : Array Bool} (hs : listed.size = n) (hi : i < n) (h : listed.getD i true = false) : unl n listed = unl n (listed.setIfInBounds i true) + 1 := by
  refine filter_one n i _ _ hi (by simp [h]) ?_ fun j hj => by simp only [getD_set_ne true (Ne.symm hj)]
  simp [Array.getD_eq_getD_getElem?, hs, hi]
abbrev LS' (listed : Array Bool) : Nat → Prop := fun i => listed.getD i false = true
theorem LS_set {listed : Array Bool} {i : Nat} (hi : i < listed.size) : (fun j => LS' listed j ∨ j = i) = LS' (listed.setIfInBounds i true) := by
  funext j
  apply propext
  by_cases e : j = i
  · subst e
    simp [LS', Array.getD_eq_getD_getElem?, hi]
  · simp only [e, or_false, LS', getD_set_ne false (Ne.symm e)]
theorem LS_iff {listed : Array Bool} {i : Nat} (hi : i < listed.size) : LS' listed i ↔ listed.getD i true = true := by
  simp only [LS', Array.getD_eq_getD_getElem?, Array.getElem?_eq_getElem hi, Option.getD_some]
theorem LS_lt {listed : Array Bool} {i : Nat} (h : LS' listed i) : i < listed.size := by
  rcases Nat.lt_or_ge i listed.size with h1 | h1
  · exact h1
  · simp [LS', Array.getD_eq_getD_getElem?, Array.getElem?_eq_none h1] at h

theorem Rep.all (hs : StepsX T call esc nt ops xs s) (hk : KindsX ops xs) (hch : chainX ops.toList xs = true) (hlen : ∀ x ∈ xs, x < ops.size) {S : Nat → Prop} {k : Nat} {st : St} (hR : Rep ops xs s S k st) (hall : ∀ i, i < ops.size → S i) {a : Act} {w : World}
    (h : SR B h0 ι0 w0 nt st a w) : SR B h0 ι0 w0 nt (s ops.size) a w := by
  have hsort := chainX_sorted xs hch
  have hkm : k = xs.length := by
    have := hR.kle
    rcases Nat.lt_or_ge k xs.length with h1 | h1
    · have h2 : xs[k]? = some xs[k] := List.getElem?_eq_getElem h1
      have := (hR.cnt k _ h2).1 (hall _ (hlen _ (List.getElem_mem h1))); omega
    · omega
  obtain ⟨g1, g2⟩ := memAt_gap (i := ops.size) hsort hR.kle (fun q x hx => ⟨fun _ => by rw [hkm]; exact (List.getElem?_eq_some_iff.1 hx).1, fun _ => hlen x (List.mem_of_getElem? hx)⟩)
  have hm := mem_same hs hk (i := memAt xs k) (ops.size - memAt xs k) (by omega) (fun l a b => g2 l a (by omega))
  rw [show memAt xs k + (ops.size - memAt xs k) = ops.size by omega] at hm
  refine h.congr (hm.1.trans hR.h.symm) (hm.2.trans hR.bx.symm) ?_ fun t => ?_
  · rw [hR.its, its_same hs hk _ g1, its_same hs hk _ (Nat.le_refl _)]
  · rcases hR.env t with ⟨i, o, h1, h2, h3, h4, h5⟩ | ⟨h1, h2⟩
    · have hin : i < ops.size := (Array.getElem?_eq_some_iff.1 h2).1
      rw [h5]
      have := env_same hs hk (i := i + 1) (t := t) (ops.size - (i + 1)) (by omega) (fun l ol a b hol hd => by
        have := h4 l ol (hall l (by omega)) hol hd; omega)
      rwa [show i + 1 + (ops.size - (i + 1)) = ops.size by omega] at this
    · rw [h2]
      have := env_same hs hk (i := 0) (t := t) ops.size (by omega) (fun l ol a b hol hd => h1 l ol (hall l (by omega)) hol hd)
      rwa [Nat.zero_add] at this

include ok in
theorem any_ok (hcall : CallOk P call) (hs : StepsX T call esc nt ops xs s) (hk : KindsX ops xs) (hF : LexF ops) (hch : chainX ops.toList xs = true) (hlen : ∀ x ∈ xs, x < ops.size) (hag : AgainX T call esc ops xs s)
    {Q : Exit → Act → World → Prop} (hQ : ∀ a w, SR B h0 ι0 w0 nt (s ops.size) a w → Q .normal a w) :
    ∀ (f : Nat) (listed : Array Bool) (a : Act) (w : World) (k : Nat) (st : St), listed.size = ops.size → unl ops.size listed = f → Closed ops (LS' listed) → Rep ops xs s (LS' listed) k st → SR B h0 ι0 w0 nt st a w → wpAny P .any ops Q f listed a w := by
  intro f
  induction f with
  | zero =>
    intro listed a w k st hsz hu hC hR hS
    have hall : ∀ i, i < ops.size → LS' listed i := by
      intro i hi
      rw [LS_iff (by omega)]
      cases hl : listed.getD i true with
      | true => rfl
      | false => have := unl_set hsz hi hl; omega
    refine ⟨?_, hQ a w (Rep.all hs hk hch hlen hR hall hS)⟩
    rw [List.eq_nil_iff_forall_not_mem]
    intro j hj
    obtain ⟨h1, o, h2, _⟩ := mem_ready.1 hj
    have hjn : j < ops.size := (Array.getElem?_eq_some_iff.1 h2).1
    have := (LS_iff (by omega)).1 (hall j hjn)
    rw [this] at h1; cases h1
  | succ f ih =>
    intro listed a w k st hsz hu hC hR hS
    refine ⟨fun hr => ?_, fun i hi => ?_⟩
    · exfalso
      -- the least that has not come may come
      have hex : ∃ i, i < ops.size ∧ listed.getD i true = false := by
        apply Classical.byContradiction
        intro hn
        have : unl ops.size listed = 0 := by
          unfold unl
          rw [List.length_eq_zero_iff, List.filter_eq_nil_iff]
          intro j hj
          have hjn := List.mem_range.1 hj
          cases hl : listed.getD j true with
          | true => simp
          | false => exact absurd ⟨j, hjn, hl⟩ hn
        omega
      have least : ∀ n, (∃ i, i < n ∧ i < ops.size ∧ listed.getD i true = false) → ∃ i, i < ops.size ∧ listed.getD i true = false ∧ ∀ j, j < i → listed.getD j true = true := by
        intro n
        induction n with
        | zero => rintro ⟨i, h, _⟩; omega
        | succ n ihn =>
          rintro ⟨i, h1, h2, h3⟩
          by_cases hn : ∃ i, i < n ∧ i < ops.size ∧ listed.getD i true = false
          · exact ihn hn
          · refine ⟨i, h2, h3, fun j hj => ?_⟩
            cases hl : listed.getD j true with
            | true => rfl
            | false => exact absurd ⟨j, by omega, by omega, hl⟩ hn
      obtain ⟨i, h1, h2⟩ := hex
      obtain ⟨i, h1, h2, h3⟩ := least ops.size ⟨i, h1, h1, h2⟩
      obtain ⟨o, ho, hb, _⟩ := hF i h1
      have : i ∈ Region.ready .any ops listed := mem_ready.2 ⟨h2, o, ho, fun e he hbe => by
        have hlt := hb e he hbe
        exact (LS_iff (by omega)).2 (h3 _ hlt)⟩
      rw [hr] at this; cases this
    · obtain ⟨hun, o, ho, hready⟩ := mem_ready.1 hi
      have hin : i < ops.size := (Array.getElem?_eq_some_iff.1 ho).1
      have hni : ¬ LS' listed i := by rw [LS_iff (by omega), hun]; simp
      obtain ⟨st', hop, hd, k', hR'⟩ := one_ok hs hk hF hch hlen hag hR hC (fun j hj => by have := LS_lt hj; omega) ho hni hready
      have hrec : ∀ a' w', SR B h0 ι0 w0 nt st' a' w' → wpAny P .any ops Q f (listed.setIfInBounds i true) a' w' := by
        intro a' w' hS'
        have hu2 := unl_set hsz hin hun
        refine ih _ a' w' k' st' (by simp [hsz]) (by omega) ?_ ?_ hS'
        · rw [← LS_set (by omega)]
          intro j oj hj hoj e he hbe
          rcases hj with hj | rfl
          · exact .inl (hC j oj hj hoj e he hbe)
          · rw [ho] at hoj; cases hoj
            exact .inl (hready e he hbe)
        · rw [← LS_set (by omega)]; exact hR'
      obtain ⟨ι, β, γ, her, hw⟩ := hS
      unfold wpOp
      rw [ho]
      simp only
      rcases hop with ⟨hwa, rfl⟩ | ⟨hwa, c, hc, he⟩
      · rw [if_neg (by rw [wanted_ok her hwa]; simp)]
        refine hrec _ _ ⟨ι, β, γ, ?_, WRs_put hw⟩
        simpa using her.putO (st := st) (dst := o.dst) (s := .val undefV) (x := undef) (dstOk_lt hd) (fun _ _ => undef_rel _)
      · rw [if_pos (by rw [wanted_ok her hwa])]
        have hcc : CallOk P c := by
          rcases hc with rfl | rfl
          · exact hcall
          · exact quietCall_ok hcall
        exact .inl (Oper.wp_mono (fun a' w' hS' => hrec a' w' hS') (op_ok ok hcc her hw hd he))

theorem looksX_spec {E : St} {ms : List (Nat × St)} : ∀ (prs : List (Nat × Nat)), LooksX T (quietCall call) esc ops.toList E ms prs → ∀ p ∈ prs, ∃ x, lookX T (quietCall call) esc ops.toList E ms p = some x ∧ ∀ d, x.2 = some d → lk x.1.env d = lk E.env d
  | [], _, p, hp => by cases hp
  | q :: r, h, p, hp => by
    rcases List.mem_cons.1 hp with rfl | hp
    · exact h.1
    · exact looksX_spec r h.2 p hp

theorem opAt_some {l : List Oper} {j : Nat} {f : Oper → Bool} (h : opAt l j f = true) : ∃ o, l[j]? = some o ∧ f o = true := by
  unfold opAt at h
  split at h
  · rename_i o ho; exact ⟨o, ho, h⟩
  · cases h

theorem again_ok (hs : StepsX T call esc nt ops xs s) (hk : KindsX ops xs) (hch : chainX ops.toList xs = true) (hlen : ∀ x ∈ xs, x < ops.size) {ms : List (Nat × St)} (hms : ∀ k u, lk ms k = some u → k ≤ ops.size ∧ u = s k)
    (hp : pairsX ops.toList xs prs = true) (hl : lastX ops.toList prs = true) (hlook : LooksX T (quietCall call) esc ops.toList (s ops.size) ms prs) : AgainX T call esc ops xs s := by
  intro S hC k hk2 hcnt i o ho hi hready hc hmf
  have hin : i < ops.size := (Array.getElem?_eq_some_iff.1 ho).1
  have hoL : ops.toList[i]? = some o := by simpa using ho
  simp only [pairsX, List.all_eq_true, List.mem_range, Bool.or_eq_true] at hp
  have h1 := hp i (by simpa using hin)
  rcases h1 with (h1 | h1) | h1
  · rw [hc] at h1; cases h1
  · obtain ⟨o', ho', h1⟩ := opAt_some h1
    rw [hoL] at ho'; cases ho'
    rw [hmf] at h1; cases h1
  · have h2 := h1 k (by omega)
    rcases h2 with ((h2 | h2) | h2) | h2
    · exact .inl (by simpa using h2)
    · right
      intro hw
      have hmem : (i, memAt xs k) ∈ prs := by simpa using h2
      obtain ⟨x, hx, hx2⟩ := looksX_spec prs hlook _ hmem
      simp only [lookX] at hx
      rw [hoL] at hx
      simp only [Option.bind_some] at hx
      obtain ⟨m, hm, hx⟩ := Option.bind_eq_some_iff.1 hx
      obtain ⟨_, rfl⟩ := hms _ _ hm
      -- nothing behind it writes what it looks at
      simp only [lastX, List.all_eq_true] at hl
      have hl1 := hl _ hmem
      obtain ⟨o', ho', hl2⟩ := opAt_some hl1
      simp only at ho'
      rw [hoL] at ho'; cases ho'
      simp only [Bool.and_eq_true, List.all_eq_true, List.mem_range, Bool.or_eq_true, decide_eq_true_eq] at hl2
      obtain ⟨hown, hl2⟩ := hl2
      have nolater : ∀ l ol t, i < l → ops[l]? = some ol → ol.dst = some t → t ∉ o.looksAt ops ∧ o.dst ≠ some t := by
        intro l ol t hil hol hdt
        have hln : l < ops.size := (Array.getElem?_eq_some_iff.1 hol).1
        rcases hl2 l (by simpa using hln) with h | h
        · omega
        · obtain ⟨ol', hol', h⟩ := opAt_some h
          have : ops[l]? = some ol' := by simpa using hol'
          rw [hol] at this; cases this
          rw [hdt] at h
          simp only [Bool.and_eq_true, Bool.not_eq_true', bne_iff_ne] at h
          exact ⟨by simpa using h.1, h.2⟩
      obtain ⟨⟨sl, hstep⟩, _⟩ := step_left hs hk ho
      have hEl : ∀ t ∈ o.looksAt ops, lk (s ops.size).env t = lk (s i).env t := by
        intro t ht
        have hdt : o.dst ≠ some t := by
          intro e
          rw [e] at hown
          simp at hown
          exact hown ht
        have := env_same hs hk (i := i) (t := t) (ops.size - i) (by omega) (fun l ol a b hol hd => by
          by_cases e : l = i
          · subst e; rw [ho] at hol; cases hol; exact hdt hd
          · exact (nolater l ol t (by omega) hol hd).1 ht)
        rwa [show i + (ops.size - i) = ops.size by omega] at this
      have hEd : ∀ d, o.dst = some d → lk (s ops.size).env d = lk (s (i + 1)).env d := by
        intro d hd
        have := env_same hs hk (i := i + 1) (t := d) (ops.size - (i + 1)) (by omega) (fun l ol a b hol hd2 => (nolater l ol d (by omega) hol hd2).2 hd)
        rwa [show i + 1 + (ops.size - (i + 1)) = ops.size by omega] at this
      rw [wanted_agree (st := s i) (st2 := s ops.size) hEl, hw] at hx
      simp only at hx
      obtain ⟨r, hr, rfl⟩ := Option.map_eq_some_iff.1 hx
      exact ⟨{ s ops.size with h := (s (memAt xs k)).h, bx := (s (memAt xs k)).bx, its := (s (memAt xs k)).its }, r, hEl, rfl, rfl, rfl, hr, fun d hd => by rw [hx2 d hd, hEd d hd]⟩
    · exfalso
      rw [List.any_eq_true] at h2
      obtain ⟨p, hp1, hp2⟩ := h2
      have hpk := List.mem_range.1 hp1
      obtain ⟨x, hx⟩ : ∃ x, xs[p]? = some x := ⟨xs[p], List.getElem?_eq_getElem (by omega)⟩
      have hSx := (hcnt p x hx).2 hpk
      rw [List.getD_eq_getElem?_getD (l := xs), hx] at hp2
      refine hi (waitTo_spec hC _ x i hp2 fun e he hb => ?_)
      cases hox : ops.toList[x]? with
      | none => rw [hox] at he; simp at he
      | some ox =>
        rw [hox] at he
        simp only [Option.map_some, Option.getD_some] at he
        exact hC x ox hSx (by simpa using hox) e (by simpa using he) hb
    · exfalso
      rw [List.any_eq_true] at h2
      obtain ⟨p, hp1, hp2⟩ := h2
      have hpk := List.mem_range.1 hp1
      simp only [Bool.and_eq_true, decide_eq_true_eq] at hp2
      obtain ⟨x, hx⟩ : ∃ x, xs[p]? = some x := ⟨xs[p], List.getElem?_eq_getElem (by omega)⟩
      rw [List.getD_eq_getElem?_getD (l := xs), hx] at hp2
      have hSx : S x := waitTo_spec hC _ i x hp2.2 fun e he hb => by
        rw [hoL] at he
        simp only [Option.map_some, Option.getD_some] at he
        exact hready e (by simpa using he) hb
      have := (hcnt p x hx).1 hSx
      omega
include ok in
/-- A region that draws its order, some of whose operations change things. -/
theorem drawX_ok (hcall : CallOk P call) (hm : P.follows .mixedOrders = true) {id : Nat} {Q : Exit → Act → World → Prop} {st E : St} {ms : List (Nat × St)} {a : Act} {w : World}
    (hS : SR B h0 ι0 w0 nt st a w) (hL : LexX ops.toList xs prs = true) (hrun : runX T call (quietCall call) esc nt ops.toList xs 0 ops.toList st [(0, st)] = some (E, ms))
    (hlook : LooksX T (quietCall call) esc ops.toList E ms prs) (hQ : ∀ a w, SR B h0 ι0 w0 nt E a w → Q .normal a w) : (Code.region id ops true).wp P Q a w := by
  obtain ⟨s, e0, en, hstep, hms⟩ := runX_spec _ _ _ _ _ _ hrun
  simp only [Nat.zero_add, Array.length_toList] at en hstep hms
  simp only [LexX, Bool.and_eq_true] at hL
  obtain ⟨⟨⟨⟨⟨l1, l2⟩, l3⟩, l4⟩, l5⟩, l6⟩ := hL
  have hs : StepsX T call esc nt ops xs s := fun i o ho => hstep i o (by simpa using ho)
  have hk : KindsX ops xs := fun i o ho => by
    have hin : i < ops.size := (Array.getElem?_eq_some_iff.1 ho).1
    have := List.all_eq_true.1 l2 i (List.mem_range.2 (by simpa using hin))
    obtain ⟨o', ho', h⟩ := opAt_some this
    have : ops[i]? = some o' := by simpa using ho'
    rw [ho] at this; cases this
    simp only [Bool.and_eq_true, Bool.or_eq_true] at h
    refine ⟨h.1, ?_⟩
    rcases h.2 with (h | h) | h
    · exact .inl h
    · exact .inr (.inl h)
    · exact .inr (.inr h)
  have hF : LexF ops := lexB_spec (by simpa using l1)
  have hlen : ∀ x ∈ xs, x < ops.size := fun x hx => by simpa using List.all_eq_true.1 l3 x hx
  have hms' : ∀ k u, lk ms k = some u → k ≤ ops.size ∧ u = s k := fun k u hk => by
    rcases hms k u hk with ⟨j, hj, rfl, rfl⟩ | h
    · exact ⟨by omega, rfl⟩
    · rw [lk_cons] at h
      split at h
      · rename_i e; subst e; cases h; exact ⟨by omega, e0.symm⟩
      · cases h
  have hag := again_ok hs hk l4 hlen hms' l5 l6 (by rw [en]; exact hlook)
  have hSd : SR B h0 ι0 w0 nt st a { w with drawn := w.drawn + 1 } := by
    obtain ⟨ι, β, γ, her, hw⟩ := hS
    exact ⟨ι, β, γ, her, hw.same rfl rfl rfl rfl⟩
  refine wp_region_any hm (any_ok ok hcall hs hk hF l4 hlen hag (by rw [en]; exact hQ) ops.size _ a _ 0 st (by simp) ?_ ?_ ?_ hSd)
  · unfold unl
    rw [List.filter_eq_self.2 (fun j hj => by have := List.mem_range.1 hj; simp [Array.getD_eq_getD_getElem?, this])]
    simp
  · intro i o hi
    simp [LS', Array.getD_eq_getD_getElem?, Array.getElem?_replicate] at hi
    split at hi <;> simp at hi
  · have no : ∀ i, ¬ LS' (Array.replicate ops.size false) i := fun i hi => by
      simp [LS', Array.getD_eq_getD_getElem?, Array.getElem?_replicate] at hi
      split at hi <;> simp at hi
    exact ⟨Nat.zero_le _, fun p x hx => ⟨fun h => absurd h (no x), fun h => by omega⟩, by simp [memAt, e0], by simp [memAt, e0], by simp [memAt, e0],
      fun t => .inr ⟨fun j oj hj => absurd hj (no j), by rw [e0]⟩⟩
end
end Go.AM

/-
  THE ABSTRACT MACHINE, 12: regions, in order and drawn; code; a function's body; the evaluator whole.
-/
namespace Go.AM

section
variable {T : TT} {P : Program} (ok : T.Ok P)
variable {B : Nat} {h0 : H} {ι0 : Plan} {w0 : World} {ι : Plan} {β γ : Nat → Nat} {nt : Nat} {st : St} {a : Act} {w : World}

include ok
/-- A region in its order. -/
theorem ops_ok {call : CallF} (hcall : CallOk P call) {esc : List Tmp} {ops : Array Oper} {Q : Exit → Act → World → Prop} {st' : St} (hQ : ∀ a w, SR B h0 ι0 w0 nt st' a w → Q .normal a w) :
    ∀ (l : List Oper) (st : St) (a : Act) (w : World), SR B h0 ι0 w0 nt st a w → evalOps T call esc nt ops.toList l st = some st' → wpList P ops Q l a w
  | [], st, a, w, hs, h => by
    simp only [evalOps, Option.some.injEq] at h; subst h
    exact hQ a w hs
  | o :: l, st, a, w, ⟨ι, β, γ, her, hw⟩, h => by
    simp only [evalOps] at h
    split at h
    · rename_i hd
      split at h
      · cases h
      · rename_i hwa
        unfold wpList
        rw [if_neg (by rw [wanted_ok her hwa]; simp)]
        refine ops_ok hcall hQ l _ _ _ ⟨ι, β, γ, ?_, WRs_put hw⟩ h
        simpa using her.putO (st := st) (dst := o.dst) (s := .val undefV) (x := undef) (dstOk_lt hd) (fun _ _ => undef_rel _)
      · rename_i hwa
        obtain ⟨st1, h1, h2⟩ := Option.bind_eq_some_iff.1 h
        unfold wpList
        rw [if_pos (by rw [wanted_ok her hwa])]
        exact .inl (Oper.wp_mono (fun a' w' hs' => ops_ok hcall hQ l st1 a' w' hs' h2) (op_ok ok hcall her hw hd h1))
    · cases h

omit ok in
/-- The same heap under another plan that agrees. -/
theorem WR.back {ι' : Plan} {h : H} {bx : List (Nat × List Cell)} {its : List (Nat × ByteArray × Nat)} (hag : Agree h.length ι ι') (hlen : h0.length ≤ h.length) (hw : WR B h0 ι0 w0 ι' β γ h bx its w) : WR B h0 ι0 w0 ι β γ h bx its w := by
  have e : ∀ {id b}, h.get id = some b → ι' id = ι id := fun hg => hag _ (H.get_lt hg)
  have ec : ∀ {x : Cell}, x.below h.length → x.conc ι' = x.conc ι := fun hx => Cell.conc_agree hag hx
  refine ⟨⟨hw.hr.size, fun id b hg => ?_, fun id id' b b' hne hg hg' hr => ?_⟩, ⟨fun d cs hd => ?_, hw.br.bapart, fun d cs id b hd hg => ?_, hw.br.it, hw.br.iapart⟩,
    ⟨hw.fr.os, hw.fr.tape, hw.fr.output, hw.fr.size, hw.fr.len, fun id hi => ?_, hw.fr.keep, fun id bl hg hr => ?_, hw.fr.rofix⟩⟩
  · obtain ⟨cs, et, fz, h1, h2, h3, h4, h5, h6, h7, h8⟩ := hw.hr.live id b hg
    rw [e hg] at h1 h2 h5 h6 h8
    refine ⟨cs, et, fz, h1, h2, h3, h4, h5, h6, fun i x k y hi hk => ?_, h8⟩
    obtain ⟨k1, k2⟩ := h7 i x k y hi hk
    rw [e hg] at k1
    exact ⟨by rw [← ec k2]; exact k1, k2⟩
  · have := hw.hr.apart id id' b b' hne hg hg' hr
    rw [e hg, e hg'] at this; exact this
  · obtain ⟨⟨et, h1⟩, h2, h3⟩ := hw.br.box d cs hd
    exact ⟨⟨et, by rw [← cells_agree hag h2]; exact h1⟩, h2, h3⟩
  · have := hw.br.away d cs id b hd hg
    rw [e hg] at this; exact this
  · rw [← hag id (Nat.lt_of_lt_of_le hi hlen)]; exact hw.fr.agree id hi
  · have := hw.fr.origin id bl hg hr
    rw [e hg] at this; exact this

omit ok in
/-- What a call comes to, ahead of its callee. -/
theorem call_run {fid : FuncId} {l : List (Nat × Nat × Nat)} {f : Operand} {args : Array Operand} {argTypes : Array TypeId} {dst : Option Tmp} {type : TypeId} {pos : String} {after : Array Edge} {guard : Option (Nat × Bool)}
    (her : ER nt ι β γ st.h.length st.bx st.its st.env a) (hf : st.val f = .c (.fn fid l)) {fn : Func} (hfn : P.funcs[fid]? = some fn) (hbody : fn.body.isSome = true) (hname : fn.name ≠ "runtime.NumGoroutine") :
    ∃ cargs : List Value, (∀ w, (execOp a.eval ⟨dst, .call ⟨.value f, args, argTypes⟩, type, pos, after, guard⟩).run P w = .ok (.enter fid cargs.toArray) w) ∧
      cargs.length = (args.toList.map st.val ++ V.caps l).length ∧ ∀ (j : Nat) (v : V) (u : Value), (args.toList.map st.val ++ V.caps l)[j]? = some v → cargs[j]? = some u → v.rel ι st.h.length u := by
  have hfr := her.val f
  rw [hf] at hfr
  obtain ⟨hf1, hf2⟩ := V.rel_c hfr
  simp only [Cell.conc] at hf1
  have hcaps : ∀ l : List (Nat × Nat × Nat), (V.caps l).length = l.length ∧ ∀ (j : Nat) (v : V), (V.caps l)[j]? = some v → ∃ x : Nat × Nat × Nat, l[j]? = some x ∧ v = V.c (.ptr x.1 x.2.1 x.2.2) := by
    intro l
    induction l with
    | nil => exact ⟨rfl, fun j v hj => by simp [V.caps] at hj⟩
    | cons x l ih =>
      obtain ⟨x1, x2, x3⟩ := x
      refine ⟨by simp [V.caps, ih.1], fun j v hj => ?_⟩
      cases j with
      | zero => simp [V.caps] at hj; exact ⟨_, rfl, hj.symm⟩
      | succ j => simp [V.caps] at hj; obtain ⟨x, h1, h2⟩ := ih.2 j v hj; exact ⟨x, by simpa using h1, h2⟩
  refine ⟨args.toList.map a.eval ++ l.map (ptrV ι), fun w => ?_, by simp [(hcaps l).1], fun j v u hj hu => ?_⟩
  · have hb : fn.body ≠ none := by cases hq : fn.body <;> simp [hq] at hbody ⊢
    have e1 : (args.map a.eval ++ (l.map (ptrV ι)).toArray) = (args.toList.map a.eval ++ l.map (ptrV ι)).toArray := by apply Array.ext'; simp
    simp [execOp, resolve, hf1, Deferred.ofValue, invoke, callFunc, hfn, hb, hname, e1]
  · rw [List.getElem?_append] at hj hu
    simp only [List.length_map] at hj hu
    split at hj
    · rename_i hlt'
      rw [if_pos hlt'] at hu
      rw [List.getElem?_map] at hj hu
      cases ha : args.toList[j]? with
      | none => simp [ha] at hj
      | some o =>
        simp [ha] at hj hu
        subst hj; subst hu
        exact her.val o
    · rename_i hlt'
      rw [if_neg hlt'] at hu
      obtain ⟨y, hy1, rfl⟩ := (hcaps l).2 _ _ hj
      rw [List.getElem?_map, hy1] at hu
      simp at hu; subst hu
      exact V.rel_mk rfl (hf2 y (List.mem_of_getElem? hy1))

omit ok in
theorem quietOp_cases {op : Op} (h : quietOp op = true) : readOp op = true ∨ ∃ f args ts, op = .call ⟨.value f, args, ts⟩ := by
  cases op <;> simp only [quietOp] at h <;> (try (cases h; done)) <;> (try exact .inl rfl)
  rename_i cl
  obtain ⟨callee, args, ts⟩ := cl
  cases callee <;> simp only at h <;> (try (cases h; done))
  · exact .inr ⟨_, _, _, rfl⟩
  · rename_i b; cases b <;> simp only at h <;> (try (cases h; done)); exact .inl rfl

/-- A region that draws its order, of operations that leave all as it was. -/
theorem quiet_ok {call : CallF} (hcall : CallOk P call) {esc : List Tmp} {ops : Array Oper} {h : H} {bx : List (Nat × List Cell)} {its : List (Nat × ByteArray × Nat)} {Q : Act → Prop} {st' : St}
    (hex : ∃ w, WR B h0 ι0 w0 ι β γ h bx its w) (hQ : ∀ a, ER nt ι β γ h.length bx its st'.env a → st'.h = h → st'.bx = bx → st'.its = its → Q a) :
    ∀ (l : List Oper) (st : St) (a : Act), (∀ o ∈ l, quietOp o.op = true) → st.h = h → st.bx = bx → st.its = its → ER nt ι β γ h.length bx its st.env a → evalOps T (quietCall call) esc nt ops.toList l st = some st' →
      wpQuiet P ops (WR B h0 ι0 w0 ι β γ h bx its) Q l a
  | [], st, a, _, e1, e2, e3, her, hh => by
    simp only [evalOps, Option.some.injEq] at hh; subst hh
    exact hQ a her e1 e2 e3
  | o :: l, st, a, hq, e1, e2, e3, her, hh => by
    have her' : ER nt ι β γ st.h.length st.bx st.its st.env a := by rw [e1, e2, e3]; exact her
    simp only [evalOps] at hh
    split at hh
    · rename_i hd
      split at hh
      · cases hh
      · rename_i hwa
        unfold wpQuiet
        rw [if_neg (by rw [wanted_ok her' hwa]; simp)]
        refine quiet_ok hcall hex hQ l _ _ (fun o ho => hq o (by simp [ho])) (by simpa using e1) (by simpa using e2) (by simpa using e3) ?_ hh
        exact her.putO (st := st) (dst := o.dst) (s := .val undefV) (x := undef) (dstOk_lt hd) (fun _ _ => undef_rel _)
      · rename_i hwa
        obtain ⟨st1, h1, h2⟩ := Option.bind_eq_some_iff.1 hh
        unfold wpQuiet
        rw [if_pos (by rw [wanted_ok her' hwa])]
        rcases quietOp_cases (hq o (by simp)) with hr | ⟨f, args, ts, ho⟩
        · obtain ⟨w, hw⟩ := hex
          have hw1 : WRs B h0 ι0 w0 ι β γ st w := by unfold WRs; rw [e1, e2, e3]; exact hw
          obtain ⟨s, x, rfl, hs, hx⟩ := reads_op ok her' hw1 h1 hr
          refine ⟨x, fun w1 hw1 => ?_, quiet_ok hcall ⟨w, hw⟩ hQ l _ _ (fun o ho => hq o (by simp [ho])) (by simpa using e1) (by simpa using e2) (by simpa using e3) ?_ h2⟩
          · have := hx w1 (by unfold WRs; rw [e1, e2, e3]; exact hw1)
            unfold Oper.quietAt
            rw [this]; exact ⟨rfl, rfl⟩
          · rw [e1, e2, e3] at hs
            exact her.putO (dstOk_lt hd) hs
        · obtain ⟨dst, op, type, pos, after, guard⟩ := o
          simp only at ho
          subst ho
          simp only [evalOp] at h1
          split at h1
          · rename_i fid lc hf
            obtain ⟨r, hr, rfl⟩ := Option.map_eq_some_iff.1 h1
            unfold quietCall at hr
            split at hr
            · rename_i r0 h' hc
              split at hr
              · rename_i hcond
                cases hr
                obtain ⟨rfl, hk⟩ := hcond
                obtain ⟨hsim, fn, hfn, hbody, hname⟩ := hcall _ _ _ _ _ hc
                obtain ⟨cargs, hrun, hlen, hrel⟩ := call_run (dst := dst) (type := type) (pos := pos) (after := after) (guard := guard) (argTypes := ts) her' hf hfn hbody hname
                have step : ∀ w1, WR B h0 ι0 w0 ι β γ h bx its w1 → Calls P fid cargs.toArray w1 (fun e w'' => (e = .returned (r0.conc ι) ∧ r0.ok h.length) ∧ WR B h0 ι0 w0 ι β γ h bx its w'') := fun w1 hw1 => by
                  have hh1 : HR B ι st.h w1 := by rw [e1]; exact hw1.hr
                  refine (hsim B ι w1 cargs hh1 hlen hrel).mono fun e w' ⟨x, ι', he, k1, k2, k3⟩ => ?_
                  obtain ⟨k4, k5⟩ := V.rel_known k3 hk
                  rw [e1] at k1 k2 k5
                  exact ⟨⟨by rw [he, k4, V.conc_agree k2.agree k5], k5⟩, (hw1.afterCall k1 k2).back k2.agree hw1.fr.len⟩
                have hok : r0.ok h.length := by
                  obtain ⟨w, hw⟩ := hex
                  obtain ⟨e, w', fr, hR, _⟩ := step w hw []
                  exact hR.1.2
                refine ⟨r0.conc ι, fun w1 hw1 => ?_, quiet_ok hcall hex hQ l { st.put dst (.val r0) with h := st.h } _ (fun o ho => hq o (by simp [ho])) e1 (by simpa using e2) (by simpa using e3) ?_ h2⟩
                · unfold Oper.quietAt
                  rw [hrun w1]
                  exact ⟨rfl, (step w1 hw1).mono fun e w'' hR => ⟨hR.1.1, hR.2⟩⟩
                · exact her.putO (st := st) (dst := dst) (s := .val r0) (x := r0.conc ι) (dstOk_lt hd) (fun _ _ => V.rel_mk rfl hok)
              · cases hr
            · cases hr
          · cases h1
    · cases hh

/-- A region, drawn. -/
theorem draw_ok {call : CallF} (hcall : CallOk P call) (hm : P.follows .mixedOrders = true) {esc : List Tmp} {ops : Array Oper} {id : Nat} {fl : Option (List Nat × List (Nat × Nat))} {Q : Exit → Act → World → Prop} {st st' : St} {a : Act} {w : World}
    (hs : SR B h0 ι0 w0 nt st a w) (h : evalDraw T call (quietCall call) fl esc nt ops.toList st = some st') (hQ : ∀ a w, SR B h0 ι0 w0 nt st' a w → Q .normal a w) : (Code.region id ops true).wp P Q a w := by
  unfold evalDraw at h
  split at h
  · obtain ⟨ι, β, γ, her, hw⟩ := hs
    split at h
    · rename_i hc
      simp only [Bool.and_eq_true, List.all_eq_true] at hc
      have hwd : WRs B h0 ι0 w0 ι β γ st { w with drawn := w.drawn + 1 } := hw.same rfl rfl rfl rfl
      refine wp_region_quiet (C := WR B h0 ι0 w0 ι β γ st.h st.bx st.its) hm (by simpa using hc.2) hwd ?_
      refine quiet_ok ok hcall ⟨w, hw⟩ (fun a' her' e1 e2 e3 w' hw' => hQ a' w' ⟨ι, β, γ, by rw [e1, e2, e3]; exact her', by unfold WRs; rw [e1, e2, e3]; exact hw'⟩) ops.toList st a (fun o ho => hc.1 o ho) rfl rfl rfl her h
    · cases h
  · split at h
    · rename_i hL
      obtain ⟨⟨E, ms⟩, h1, h2⟩ := Option.bind_eq_some_iff.1 h
      simp only at h2
      split at h2
      · rename_i hl
        cases h2
        exact drawX_ok ok hcall hm hs hL h1 hl hQ
      · cases h2
    · cases h

def Ex.out : Ex → Exit
  | .normal => .normal
  | .exit id => .exit id
  | .ret => .ret

omit ok in
theorem lk_restV (ts : List Tmp) : ∀ (vs : List V) (t : Nat) (s : Slot), lk (restV ts vs) t = some s → ∃ j, ts[j]? = some t ∧ s = .val (vs.getD j .u) := by
  induction ts with
  | nil => intro vs t s h; simp [restV, lk] at h
  | cons t0 ts ih =>
    intro vs t s h
    simp only [restV] at h
    rw [lk_cons] at h
    split at h
    · rename_i e; subst e; cases h
      exact ⟨0, rfl, by cases vs <;> rfl⟩
    · obtain ⟨j, h1, h2⟩ := ih vs.tail t s h
      exact ⟨j + 1, by simpa using h1, by rw [h2]; cases vs <;> simp⟩

omit ok in
theorem lk_append {α : Type} (e e' : List (Nat × α)) (t : Nat) : lk (e ++ e') t = match lk e t with | some x => some x | none => lk e' t := by
  induction e with
  | nil => rfl
  | cons x e ih =>
    obtain ⟨t', y⟩ := x
    rw [List.cons_append, lk_cons, lk_cons]
    split
    · rfl
    · exact ih

omit ok in
theorem lk_restL (ts : List Tmp) : ∀ (t : Nat) (s : Slot), lk (restL ts) t = some s → t ∈ ts ∧ s = .loc t 0 := by
  induction ts with
  | nil => intro t s h; simp [restL, lk] at h
  | cons t0 ts ih =>
    intro t s h
    simp only [restL] at h
    rw [lk_cons] at h
    split at h
    · rename_i e; subst e; cases h; exact ⟨by simp, rfl⟩
    · obtain ⟨h1, h2⟩ := ih t s h; exact ⟨by simp [h1], h2⟩

omit ok in
theorem lk_restJ (ts : List Tmp) : ∀ (t : Nat) (s : Slot), lk (restJ ts) t = some s → t ∈ ts ∧ s = .iter := by
  induction ts with
  | nil => intro t s h; simp [restJ, lk] at h
  | cons t0 ts ih =>
    intro t s h
    simp only [restJ] at h
    rw [lk_cons] at h
    split at h
    · rename_i e; subst e; cases h; exact ⟨by simp, rfl⟩
    · obtain ⟨h1, h2⟩ := ih t s h; exact ⟨by simp [h1], h2⟩

omit ok in
theorem saveV_get (st : St) : ∀ (ts : List Tmp) (j t : Nat), ts[j]? = some t → (saveV st ts).getD j .u = st.val (.tmp t) := by
  intro ts
  induction ts with
  | nil => intro j t h; simp at h
  | cons t0 ts ih =>
    intro j t h
    cases j with
    | zero => simp at h; subst h; rfl
    | succ j => simp only [List.getElem?_cons_succ] at h; simpa [saveV] using ih j t h

omit ok in
theorem lk_restB (st : St) (ts : List Tmp) : ∀ (t : Nat), lk (restB ts (saveB st ts)) t = if t ∈ ts then some ((lk st.bx t).getD []) else none := by
  induction ts with
  | nil => intro t; simp [restB, lk]
  | cons t0 ts ih =>
    intro t
    simp only [saveB, restB, List.headD_cons, List.tail_cons]
    rw [lk_cons, ih]
    by_cases e : t0 = t
    · subst e; simp
    · simp [e, Ne.symm e]

omit ok in
theorem lk_restI (st : St) (ts : List Tmp) : ∀ (t : Nat), lk (restI ts (saveI st ts)) t = if t ∈ ts then some ((lk st.its t).getD (ByteArray.empty, 0)) else none := by
  induction ts with
  | nil => intro t; simp [restI, lk]
  | cons t0 ts ih =>
    intro t
    simp only [saveI, restI, List.headD_cons, List.tail_cons]
    rw [lk_cons, ih]
    by_cases e : t0 = t
    · subst e; simp
    · simp [e, Ne.symm e]

omit ok in
/-- What is kept at a loop's head. -/
theorem SR.keep {k : Keep} (hk : keepOk st k = true) (hs : SR B h0 ι0 w0 nt st a w) : SR B h0 ι0 w0 nt (restore k (st.save k)) a w := by
  obtain ⟨ι, β, γ, her, hw⟩ := hs
  simp only [keepOk, Bool.and_eq_true, List.all_eq_true] at hk
  have hb : ∀ b ∈ k.2.1, lk st.env b = some (.loc b 0) ∧ (lk st.bx b).isSome = true := fun b hb => by
    obtain ⟨h1, h2⟩ := hk.1 b hb
    refine ⟨?_, h2⟩
    split at h1
    · rename_i b' heq; rw [heq]; simp at h1; rw [h1]
    · cases h1
  have hi : ∀ t ∈ k.2.2, lk st.env t = some .iter ∧ (lk st.its t).isSome = true := fun t ht => by
    obtain ⟨h1, h2⟩ := hk.2 t ht
    refine ⟨?_, h2⟩
    split at h1
    · assumption
    · cases h1
  have bx : ∀ d cs, lk (restore k (st.save k)).bx d = some cs → d ∈ k.2.1 ∧ lk st.bx d = some cs := fun d cs h => by
    simp only [restore, St.save] at h
    rw [lk_restB] at h
    split at h
    · rename_i hm
      obtain ⟨x, hx⟩ := Option.isSome_iff_exists.1 (hb d hm).2
      rw [hx] at h; cases h; exact ⟨hm, hx⟩
    · cases h
  have its : ∀ d x, lk (restore k (st.save k)).its d = some x → d ∈ k.2.2 ∧ lk st.its d = some x := fun d y h => by
    simp only [restore, St.save] at h
    rw [lk_restI] at h
    split at h
    · rename_i hm
      obtain ⟨x, hx⟩ := Option.isSome_iff_exists.1 (hi d hm).2
      rw [hx] at h; cases h; exact ⟨hm, hx⟩
    · cases h
  refine ⟨ι, β, γ, ⟨her.df, her.nt, fun t s hl => ?_⟩, ⟨hw.hr, ⟨fun d cs hd => hw.br.box d cs (bx d cs hd).2, fun d d' cs cs' hne h1 h2 => hw.br.bapart d d' cs cs' hne (bx _ _ h1).2 (bx _ _ h2).2, fun d cs id b hd hg => hw.br.away d cs id b (bx _ _ hd).2 hg,
    fun d s p hd => hw.br.it d s p (its _ _ hd).2, fun d d' x x' hne h1 h2 => hw.br.iapart d d' x x' hne (its _ _ h1).2 (its _ _ h2).2⟩, hw.fr⟩⟩
  simp only [restore, St.save] at hl
  rw [lk_append] at hl
  split at hl
  · rename_i x hx
    cases hl
    obtain ⟨j, h1, rfl⟩ := lk_restV _ _ _ _ hx
    rw [saveV_get st _ j t h1]
    exact her.val (.tmp t)
  · rw [lk_append] at hl
    split at hl
    · rename_i x hx
      cases hl
      obtain ⟨h1, rfl⟩ := lk_restL _ _ _ hx
      have := her.slot t _ (hb t h1).1
      refine ⟨this.1, ?_⟩
      simp only [restore, St.save, lk_restB, h1, ↓reduceIte, Option.isSome_some]
    · obtain ⟨h1, rfl⟩ := lk_restJ _ _ _ hl
      have := her.slot t _ (hi t h1).1
      refine ⟨this.1, ?_⟩
      simp only [restore, St.save, lk_restI, h1, ↓reduceIte, Option.isSome_some]

def LoopOk (lp : LoopF) : Prop := ∀ body ls r, lp body ls = some r → ∃ n, iterN n body ls = some r

/-- Code. -/
theorem code_ok {call : CallF} (hcall : CallOk P call) (hm : P.follows .mixedOrders = true) {lp : LoopF} (hlp : LoopOk lp) {ann : Ann} :
    ∀ (c : Code) (cur : Nat) (st : St) (a : Act) (w : World) (e : Ex) (st' : St), SR B h0 ι0 w0 nt st a w → evalC T call (quietCall call) lp ann nt c cur st = some (e, st') →
      c.wp P (fun E a' w' => E = e.out ∧ SR B h0 ι0 w0 nt st' a' w') a w := by
  intro c
  induction c with
  | skip => intro cur st a w e st' hs h; simp only [evalC, Option.some.injEq, Prod.mk.injEq] at h; obtain ⟨rfl, rfl⟩ := h; exact wp_skip ⟨rfl, hs⟩
  | region id ops draw =>
    intro cur st a w e st' hs h
    simp only [evalC] at h
    cases draw with
    | true =>
      simp only [↓reduceIte] at h
      obtain ⟨st1, h1, h2⟩ := Option.map_eq_some_iff.1 h
      cases h2
      exact draw_ok ok hcall hm hs h1 fun a' w' hs' => ⟨rfl, hs'⟩
    | false =>
      simp only [Bool.false_eq_true, ↓reduceIte] at h
      obtain ⟨st1, h1, h2⟩ := Option.map_eq_some_iff.1 h
      cases h2
      exact wp_region_list (ops_ok ok hcall (fun a' w' hs' => ⟨rfl, hs'⟩) ops.toList st a w hs h1)
  | seq x y ihx ihy =>
    intro cur st a w e st' hs h
    simp only [evalC] at h
    obtain ⟨⟨e1, st1⟩, h1, h2⟩ := Option.bind_eq_some_iff.1 h
    refine wp_seq (wp_mono (ihx cur st a w e1 st1 hs h1) fun E a' w' ⟨hE, hs'⟩ => ?_)
    subst hE
    cases e1 with
    | normal => exact ihy cur st1 a' w' e st' hs' h2
    | exit id => simp only [Option.some.injEq, Prod.mk.injEq] at h2; obtain ⟨rfl, rfl⟩ := h2; exact ⟨rfl, hs'⟩
    | ret => simp only [Option.some.injEq, Prod.mk.injEq] at h2; obtain ⟨rfl, rfl⟩ := h2; exact ⟨rfl, hs'⟩
  | cond x c1 c2 ih1 ih2 =>
    intro cur st a w e st' hs h
    simp only [evalC] at h
    split at h
    · rename_i r hr
      have hx : a.eval x = .bool r := by
        obtain ⟨ι, β, γ, her, _⟩ := hs
        have := her.val x
        rw [hr] at this
        exact (V.rel_c this).1
      refine wp_cond hx ?_
      cases r with
      | true => exact ih1 cur st a w e st' hs h
      | false => exact ih2 cur st a w e st' hs h
    · cases h
  | block id c ih =>
    intro cur st a w e st' hs h
    simp only [evalC] at h
    obtain ⟨⟨e1, st1⟩, h1, h2⟩ := Option.map_eq_some_iff.1 h
    simp only [Prod.mk.injEq] at h2
    obtain ⟨rfl, rfl⟩ := h2
    refine wp_block (wp_mono (ih id st a w e1 st1 hs h1) fun E a' w' ⟨hE, hs'⟩ => ?_)
    subst hE
    cases e1 with
    | normal => exact ⟨rfl, hs'⟩
    | exit id' =>
      simp only [Ex.out, Exit.inBlock]
      by_cases hid : id' = id
      · subst hid; simp only [↓reduceIte]; exact ⟨trivial, hs'⟩
      · simp only [hid, ↓reduceIte]
        refine ⟨?_, hs'⟩
        rw [if_neg (by intro e; cases e; exact hid rfl)]
    | ret => exact ⟨rfl, hs'⟩
  | loop c ih =>
    intro cur st a w e st' hs h
    simp only [evalC] at h
    split at h
    · cases h
    · rename_i k hk
      split at h
      · rename_i hko
        obtain ⟨⟨e1, ls1⟩, h1, h2⟩ := Option.bind_eq_some_iff.1 h
        obtain ⟨n, hn⟩ := hlp _ _ _ h1
        have hfin : e = e1 ∧ st' = restore k ls1 ∧ e1 ≠ .normal := by
          cases e1 <;> simp at h2 <;> exact ⟨h2.1.symm, h2.2.symm, by simp⟩
        obtain ⟨rfl, rfl, hne⟩ := hfin
        have key : ∀ (n : Nat) (ls : LS) (a : Act) (w : World), SR B h0 ι0 w0 nt (restore k ls) a w →
            iterN n (fun ls => (evalC T call (quietCall call) lp ann nt c cur (restore k ls)).bind fun r => if keepOk r.2 k = true then some (r.1, r.2.save k) else none) ls = some (e, ls1) →
            ∀ (b : Frame) (kk : List Item) (cs : List Frame), ∃ E a' w', (E = e.out ∧ SR B h0 ι0 w0 nt (restore k ls1) a' w') ∧ Arrives P (lone (b.at a (.code c :: .inLoop c :: kk)) cs w) b kk cs E a' w' := by
          intro n
          induction n with
          | zero => intro ls a w _ h; simp [iterN] at h
          | succ n ihn =>
            intro ls a w hs h b kk cs
            simp only [iterN] at h
            obtain ⟨⟨e2, ls2⟩, g1, g2⟩ := Option.bind_eq_some_iff.1 h
            obtain ⟨⟨e3, st3⟩, g3, g4⟩ := Option.bind_eq_some_iff.1 g1
            split at g4
            · rename_i hk3
              simp only [Option.some.injEq, Prod.mk.injEq] at g4
              obtain ⟨rfl, rfl⟩ := g4
              obtain ⟨E, a1, w1, ⟨hE, hs1⟩, harr⟩ := ih cur (restore k ls) a w e3 st3 hs g3 b (.inLoop c :: kk) cs
              subst hE
              have hs1' := hs1.keep hk3
              cases e3 with
              | normal =>
                obtain ⟨E, a2, w2, hq2, harr2⟩ := ihn (st3.save k) a1 w1 hs1' g2 b kk cs
                exact ⟨E, a2, w2, hq2, .of_steps (Steps.trans harr (.one step_inLoop)) harr2⟩
              | exit id =>
                simp only [Option.some.injEq, Prod.mk.injEq] at g2
                obtain ⟨rfl, rfl⟩ := g2
                exact ⟨_, a1, w1, ⟨rfl, hs1'⟩, .pass (x := .inLoop c) rfl (fun _ _ => .inl (by simp [Ex.out])) harr⟩
              | ret =>
                simp only [Option.some.injEq, Prod.mk.injEq] at g2
                obtain ⟨rfl, rfl⟩ := g2
                exact ⟨_, a1, w1, ⟨rfl, hs1'⟩, .pass (x := .inLoop c) rfl (fun _ _ => .inl (by simp [Ex.out])) harr⟩
            · cases g4
        intro b kk cs
        obtain ⟨E, a', w', hq, harr⟩ := key n (st.save k) a w (hs.keep hko) hn b kk cs
        exact ⟨E, a', w', hq, .of_steps (.one step_loop) harr⟩
      · cases h
  | exit id => intro cur st a w e st' hs h; simp only [evalC, Option.some.injEq, Prod.mk.injEq] at h; obtain ⟨rfl, rfl⟩ := h; exact wp_exit ⟨rfl, hs⟩
  | ret => intro cur st a w e st' hs h; simp only [evalC, Option.some.injEq, Prod.mk.injEq] at h; obtain ⟨rfl, rfl⟩ := h; exact wp_ret ⟨rfl, hs⟩
  | rangeFunc f ps x y => intro cur st a w e st' hs h; simp [evalC] at h
  | scope c => intro cur st a w e st' hs h; simp [evalC] at h
  | label l => intro cur st a w e st' hs h; simp [evalC] at h
  | goto l => intro cur st a w e st' hs h; simp [evalC] at h
  | refuse why => intro cur st a w e st' hs h; simp [evalC] at h
end
end Go.AM

/-
  THE ABSTRACT MACHINE, 13: functions, and the evaluator whole: 'den' is what it comes to, however many rounds it takes.
-/
namespace Go.AM

section
variable {T : TT} {P : Program} (ok : T.Ok P)
variable {B : Nat} {h0 : H} {ι0 : Plan} {w0 : World} {ι : Plan} {β γ : Nat → Nat} {nt : Nat} {st : St} {a : Act} {w : World}

theorem oneV_rel {vs : List V} {n : Nat} {xs : List Value} (hl : vs.length = xs.length) (h : ∀ (j : Nat) (v : V) (x : Value), vs[j]? = some v → xs[j]? = some x → v.rel ι n x)
    (hk : vs.length = 1 ∨ ∀ v ∈ vs, ∃ y, v = .c y ∨ ∃ ys, v = .g ys) : (oneV vs).rel ι n (if h : xs.toArray.size = 1 then xs.toArray[0] else .tuple xs.toArray) := by
  match vs, xs, hl with
  | [v], [x], _ => simpa [oneV] using h 0 v x rfl rfl
  | [], [], _ => exact ⟨rfl, fun v hv => by cases hv⟩
  | v1 :: v2 :: vs, x1 :: x2 :: xs, hl =>
    have hk' : ∀ v ∈ v1 :: v2 :: vs, ∃ y, v = .c y ∨ ∃ ys, v = .g ys := by
      rcases hk with hk | hk
      · simp at hk
      · exact hk
    have hv : ∀ (j : Nat) (v : V) (x : Value), (v1 :: v2 :: vs)[j]? = some v → (x1 :: x2 :: xs)[j]? = some x → x = v.conc1 ι ∧ v.ok1 n := fun j v x hj hx => by
      have := h j v x hj hx
      obtain ⟨y, rfl | ⟨ys, rfl⟩⟩ := hk' v (List.mem_of_getElem? hj)
      · exact this
      · exact this
    rw [dif_neg (by simp)]
    have e : x1 :: x2 :: xs = (v1 :: v2 :: vs).map (V.conc1 ι) := by
      apply List.ext_getElem?
      intro j
      rw [List.getElem?_map]
      cases hj : (v1 :: v2 :: vs)[j]? with
      | none =>
        have : (v1 :: v2 :: vs).length ≤ j := List.getElem?_eq_none_iff.1 hj
        rw [List.getElem?_eq_none (by omega)]; rfl
      | some v =>
        have hlt := (List.getElem?_eq_some_iff.1 hj).1
        rw [hl] at hlt
        rw [List.getElem?_eq_getElem hlt]
        simp only [Option.map_some, Option.some.injEq]
        exact (hv j v _ hj (List.getElem?_eq_getElem hlt)).1
    refine ⟨by rw [e]; rfl, fun v hm => ?_⟩
    obtain ⟨j, hj⟩ := List.getElem?_of_mem hm
    have hlt := (List.getElem?_eq_some_iff.1 hj).1
    rw [hl] at hlt
    exact (hv j v _ hj (List.getElem?_eq_getElem hlt)).2

def resSem (tmps : Array Value) : ResultVar → Sem Value
  | .tmp t => pure (tmps.getD t undef)
  | .cell c t => do loadVar t (← asAddr (tmps.getD c undef))

theorem results_eq (fn : Func) (tmps : Array Value) : results fn tmps = (do let vs ← fn.results.mapM (resSem tmps); pure (if h : vs.size = 1 then vs[0] else .tuple vs) : Sem Value) := by
  unfold results
  congr 1

theorem tupOk_spec {vs : List V} (h : tupOk vs = true) : vs.length = 1 ∨ ∀ v ∈ vs, ∃ y, v = V.c y ∨ ∃ ys, v = V.g ys := by
  unfold tupOk at h
  simp only [Bool.or_eq_true, beq_iff_eq, List.all_eq_true] at h
  rcases h with h | h
  · exact .inl h
  · refine .inr fun v hv => ?_
    have := h v hv
    cases v with
    | c y => exact ⟨y, .inl rfl⟩
    | g ys => exact ⟨default, .inr ⟨ys, rfl⟩⟩
    | t _ => cases this
    | u => cases this

include ok
theorem results_ok (her : ER nt ι β γ st.h.length st.bx st.its st.env a) (hw : WRs B h0 ι0 w0 ι β γ st w) : ∀ (rs : List ResultVar) (vs : List V), resultsA T st rs = some vs →
    ∃ xs : List Value, (rs.mapM (resSem a.tmps)).run P w = .ok xs w ∧ vs.length = xs.length ∧
      ∀ (j : Nat) (v : V) (x : Value), vs[j]? = some v → xs[j]? = some x → v.rel ι st.h.length x
  | [], vs, h => by simp only [resultsA, Option.some.injEq] at h; subst h; exact ⟨[], rfl, rfl, by simp⟩
  | .tmp t :: rs, vs, h => by
    simp only [resultsA] at h
    split at h
    · rename_i vs' hvs
      cases h
      obtain ⟨xs, h1, h2, h3⟩ := results_ok her hw rs vs' hvs
      refine ⟨a.tmps.getD t undef :: xs, ?_, by simp [h2], fun j v x hj hx => ?_⟩
      · simp only [List.mapM_cons, resSem, Sem.run_bind, Sem.run_pure, Result.andThen_ok, h1]
      · cases j with
        | zero => simp only [List.getElem?_cons_zero, Option.some.injEq] at hj hx; subst hj; subst hx; exact her.val (.tmp t)
        | succ j => simp only [List.getElem?_cons_succ] at hj hx; exact h3 j v x hj hx
    · cases h
  | .cell c t :: rs, vs, h => by
    simp only [resultsA] at h
    split at h
    · rename_i v0 vs' hv0 hvs
      cases h
      obtain ⟨xs, h1, h2, h3⟩ := results_ok her hw rs vs' hvs
      obtain ⟨k1, k2⟩ := load_ok ok her hw hv0
      have k2 := k2 w hw
      have hload : (resSem a.tmps (.cell c t)).run P w = .ok (v0.conc ι) w := by
        simp only [resSem, Act.eval, Instr.loadAt, Sem.run_bind] at k2 ⊢
        cases hq : a.tmps.getD c undef with
        | pointer p =>
          rw [hq] at k2
          cases p with
          | none => simp [Instr.sureAddr] at k2
          | some p => simpa [Instr.sureAddr, asAddr] using k2
        | _ => rw [hq] at k2; simp [Instr.sureAddr] at k2
      refine ⟨v0.conc ι :: xs, ?_, by simp [h2], fun j v x hj hx => ?_⟩
      · simp only [List.mapM_cons, Sem.run_bind]
        rw [hload]
        simp only [Result.andThen_ok, h1, Sem.run_pure]
      · cases j with
        | zero => simp only [List.getElem?_cons_zero, Option.some.injEq] at hj hx; subst hj; subst hx; exact k1
        | succ j => simp only [List.getElem?_cons_succ] at hj hx; exact h3 j v x hj hx
    · cases h

omit ok in
theorem lk_argsEnv : ∀ (args : List V) (i t : Nat) (s : Slot), lk (argsEnv i args) t = some s → ∃ j v, args[j]? = some v ∧ t = i + j ∧ s = .val v
  | [], i, t, s, h => by simp [argsEnv, lk] at h
  | v :: args, i, t, s, h => by
    simp only [argsEnv] at h
    rw [lk_cons] at h
    split at h
    · rename_i e; cases h; exact ⟨0, v, rfl, by omega, rfl⟩
    · obtain ⟨j, v', h1, h2, h3⟩ := lk_argsEnv args (i + 1) t s h
      exact ⟨j + 1, v', by simpa using h1, by omega, h3⟩

/-- A function's body. -/
theorem fn_ok {call : CallF} (hcall : CallOk P call) (hm : P.follows .mixedOrders = true) {lp : LoopF} (hlp : LoopOk lp) {ann : Ann} {f : FuncId} {fn : Func} (hfn : P.funcs[f]? = some fn) {args : List V} {h h' : H} {r : V}
    (hev : evalFn T call (quietCall call) lp ann fn args h = some (r, h')) : SimCall P f args h r h' := by
  intro B ι w cargs hr hlen hrel
  unfold evalFn at hev
  split at hev
  · cases hev
  · rename_i c hc
    split at hev
    · rename_i hle
      obtain ⟨⟨e, st1⟩, h1, h2⟩ := Option.bind_eq_some_iff.1 hev
      refine calls_of_wp hfn hc ?_
      let a : Act := { tmps := cargs.toArray ++ Array.replicate (fn.ntmps - cargs.toArray.size) undef, defers := [] }
      have hs0 : SR B h ι w fn.ntmps ⟨argsEnv 0 args, [], [], h⟩ a w := by
        refine ⟨ι, fun _ => 0, fun _ => 0, ⟨rfl, by simp [a]; omega, fun t s hl => ?_⟩, ⟨hr, ⟨fun d cs hd => by simp [lk] at hd, fun d d' cs cs' _ hd => by simp [lk] at hd, fun d cs id b hd => by simp [lk] at hd, fun d s p hd => by simp [lk] at hd, fun d d' x x' _ hd => by simp [lk] at hd⟩, FR.refl h ι w⟩⟩
        obtain ⟨j, v, h1, rfl, rfl⟩ := lk_argsEnv _ _ _ _ hl
        have hj := (List.getElem?_eq_some_iff.1 h1).1
        have hu : cargs[j]? = some cargs[j] := List.getElem?_eq_getElem (by omega)
        have := hrel j v _ h1 hu
        simp only [slotRel, Nat.zero_add]
        have hg : a.tmps.getD j undef = cargs[j] := by
          simp only [a, Array.getD_eq_getD_getElem?]
          rw [Array.getElem?_append_left (by simpa using (by omega : j < cargs.length))]
          simp [hu]
        rw [hg]; exact this
      have hwp := code_ok ok hcall hm hlp c 0 _ a w e st1 hs0 h1
      refine wp_mono hwp fun E a' w' ⟨hE, ι', β, γ, her, hw⟩ => ?_
      have fin : (∃ vs, resultsA T st1 fn.results.toList = some vs ∧ r = oneV vs ∧ h' = st1.h ∧ (vs.length = 1 ∨ ∀ v ∈ vs, ∃ y, v = V.c y ∨ ∃ ys, v = V.g ys)) →
          a'.defers = [] ∧ ∃ v, (results fn a'.tmps).run P w' = .ok v w' ∧ ∃ (x : Value) (ι' : Plan), Ending.returned v = .returned x ∧ HR B ι' h' w' ∧ FR h ι w h' ι' w' ∧ r.rel ι' h'.length x := by
        rintro ⟨vs, hvs, rfl, rfl, hk⟩
        obtain ⟨xs, k1, k2, k3⟩ := results_ok ok her hw _ _ hvs
        refine ⟨her.df, _, ?_, _, ι', rfl, hw.hr, hw.fr, oneV_rel (vs := vs) (xs := xs) k2 k3 hk⟩
        rw [results_eq, Array.mapM_eq_mapM_toList]
        simp only [Sem.run_bind, Sem.run_map]
        rw [k1]
        simp only [Result.andThen_ok, Sem.run_pure]
      subst hE
      cases e with
      | exit id => simp at h2
      | normal =>
        simp only at h2
        split at h2
        · rename_i vs hvs
          split at h2
          · rename_i hk; cases h2; exact fin ⟨vs, hvs, rfl, rfl, tupOk_spec hk⟩
          · cases h2
        · cases h2
      | ret =>
        simp only at h2
        split at h2
        · rename_i vs hvs
          split at h2
          · rename_i hk; cases h2; exact fin ⟨vs, hvs, rfl, rfl, tupOk_spec hk⟩
          · cases h2
        · cases h2
    · cases hev
end
end Go.AM
