/-
  What functions of the seat answer, each proved once; each under the condition that cells bear what it is given, as its statement says.
-/
import Derived.Test.YtkcfminmojolhaaGreatWalk8
import Derived.Test.YtkcfminmojolhaaGreatWalk7
set_option linter.all false
/-
  TurnTick, by the program: what it answers.
-/
set_option maxRecDepth 8000
namespace Go.Proofs.YtkcfminmojolhaaGreat
open Go.AM
variable {h h' : H} {lo p : Nat} {w : PWorld} {c : WorldC} {st cs : List RunC}
theorem c_turnOk (hw : WorldR h w c cs) : Dz.den 69 [.g (encW c)] h = some (.c (.bool (tt (Room w))), h) := by
  refine den_plain rfl Tryz.func69 rfl rfl ?_
  have e := c_IWorldOk' hw
  simp only [encW, hw.sent] at e
  by_cases a : WorldOk w
  · have a' : tt (WorldOk w) = true := by simpa using a
    rw [a'] at e
    simp [Tryz.f69, e, hw.sent, tt_eq, Room, a]
  · have a' : tt (WorldOk w) = false := by simpa using a
    rw [a'] at e
    simp [Tryz.f69, e, hw.sent, tt_eq, Room, a]
/-- One run at a tick, by the program. -/
def itickAt (w : PWorld) (i : Nat) : PWorld :=
  match w.runs[i]? with
  | some r => if r.state = 2 ∧ r.due = w.now then { w with runs := w.runs.set i { r with state := 1, due := -1 }, queue := w.queue ++ [r.id] } else w
  | none => w
def itickTo (w : PWorld) : Nat → PWorld
  | 0 => w
  | i + 1 => itickAt (itickTo w i) i
def itickP (w : PWorld) : PWorld := itickTo (if w.now < 250 then { w with now := w.now + 1 } else w) w.runs.length
theorem itickAt_len (w : PWorld) (i : Nat) : (itickAt w i).runs.length = w.runs.length ∧ (itickAt w i).queue.length ≤ w.queue.length + 1 ∧ (itickAt w i).now = w.now := by
  unfold itickAt
  split
  · split <;> simp
  · simp
theorem itickTo_len (w : PWorld) : ∀ i, (itickTo w i).runs.length = w.runs.length ∧ (itickTo w i).queue.length ≤ w.queue.length + i ∧ (itickTo w i).now = w.now
  | 0 => ⟨rfl, by simp [itickTo], rfl⟩
  | i + 1 => by
    obtain ⟨a, b, d⟩ := itickTo_len w i
    obtain ⟨a2, b2, d2⟩ := itickAt_len (itickTo w i) i
    exact ⟨by rw [itickTo, a2, a], by rw [itickTo]; omega, by rw [itickTo, d2, d]⟩
/-- Every run bears its place's number. -/
def IdsIn (w : PWorld) : Prop := ∀ (j : Nat) (r : PRun), w.runs[j]? = some r → r.id = (j : Int) + 1
theorem IdsIn.set {w : PWorld} (h : IdsIn w) {i : Nat} {r : PRun} (hr : w.runs[i]? = some r) {r' : PRun} (e : r'.id = r.id) {q : List Int} {n s t l : Int} {code : List POp} : IdsIn ⟨code, w.runs.set i r', q, n, s, t, l⟩ := fun j x hx => by
  simp only [List.getElem?_set] at hx
  split at hx
  · rename_i e2; subst e2
    split at hx
    · cases hx; rw [e]; exact h _ _ hr
    · cases hx
  · exact h _ _ hx
/-- What is equal: where every run bears its place's number. -/
theorem tickTo_same {w : PWorld} (hid : IdsIn w) : ∀ i, itickTo w i = tickTo w i ∧ IdsIn (tickTo w i)
  | 0 => ⟨rfl, hid⟩
  | i + 1 => by
    obtain ⟨a, b⟩ := tickTo_same hid i
    rw [itickTo, tickTo, a]
    unfold itickAt tickAt
    cases hg : (tickTo w i).runs[i]? with
    | none => exact ⟨rfl, b⟩
    | some r =>
      simp only [b i r hg]
      refine ⟨trivial, ?_⟩
      split
      · exact b.set hg (b i r hg).symm
      · exact b
theorem itickTo_none {w : PWorld} (hn : ∀ i (hi : i < w.runs.length), ¬ (w.runs[i].state = 2 ∧ w.runs[i].due = w.now)) : ∀ i, itickTo w i = w
  | 0 => rfl
  | i + 1 => by
    rw [itickTo, itickTo_none hn i]
    unfold itickAt
    cases hg : w.runs[i]? with
    | none => rfl
    | some r =>
      obtain ⟨hi, rfl⟩ := List.getElem?_eq_some_iff.1 hg
      simp only [if_neg (hn i hi)]
theorem itick_same {w : PWorld} (hw : WorldOk w) : itickP w = tickP w := by
  unfold itickP tickP
  have hid : IdsIn w := fun i r hr => by
    obtain ⟨hi, rfl⟩ := List.getElem?_eq_some_iff.1 hr
    exact (hw.each i hi).id
  by_cases a : w.now < 250
  · rw [if_pos a, if_neg (by omega)]
    exact (tickTo_same (w := { w with now := w.now + 1 }) hid _).1
  · rw [if_neg a, if_pos (by omega)]
    refine itickTo_none (fun i hi hc => ?_) _
    have h1 := (hw.each i hi).wait hc.1
    have h0 := hw.now
    unfold WaitsOk at h1
    omega
set_option maxRecDepth 8000 in
set_option maxHeartbeats 1000000 in
theorem c_ITurnTick (hV : WorldV lo h w c cs cs) : @Wp _ (Dz.den 21 [.g (encW c)] h) ⟨CopyWQ h (turnTickP w)⟩ := by
  refine den_wp rfl Tryz.func21 rfl ?_
  have e := c_turnOk hV.rd
  simp only [encW] at e
  unfold turnTickP
  by_cases a : Room w
  · have a' : tt (Room w) = true := by simpa using a
    rw [a'] at e ⊢
    rw [if_pos rfl, ← itick_same a.1]
    obtain ⟨_, e1, h1, c1, cs1, rfl, x1, v1⟩ := c_IWCopied hV a.1.le
    have v1p := v1.push ⟨false, 7, [encW c1]⟩
    have P1 : WorldP h.length (h1.push ⟨false, 7, [encW c1]⟩) h1.length w c1 cs1 := ⟨v1p, get_push_self, fun ⟨k, ho⟩ => by have := v1.own.lt _ ho; omega, v1.lo_le⟩
    have xp := x1.trans (Ext.push h1 ⟨false, 7, [encW c1]⟩)
    have es := alloc_store (h := h1) (z := zeroW) (cs := encW c1) (es := 7) rfl
    generalize hp : h1.length = p at P1 es
    generalize hK : h1.push ⟨false, 7, [encW c1]⟩ = K at *
    have hgp := P1.at_
    simp only [encW, zeroW] at e1 hK es
    simp [Tryz.f21, e, e1, hp, es, at_blk hgp]
    have hlen := v1p.len
    have hS := v1p.runs
    have hnw := v1.now
    have hw0 := a.1.now
    by_cases b : w.now < 250
    · have b' : c1.now < 250 := by rw [hnw]; exact b
      have b2 : ¬ (250 : Int) ≤ c1.now := by omega
      have hw1 : IntKind.i64.wrap (c1.now + 1) = w.now + 1 := by rw [hnw]; exact wrap_i64 (by omega) (by omega)
      have vn := v1p.nums (w.now + 1) w.sent w.taken w.lost
      have hpc : part { c1 with now := w.now + 1, sent := w.sent, taken := w.taken, lost := w.lost } cs1 = part c1 cs1 := by funext k; cases k <;> rfl
      obtain ⟨K0, ew, P0, ch⟩ := vn.home (c0 := c1) hgp (by rw [hpc]; exact P1.out) P1.ge (j := 3) (xs := [.int .i64 (w.now + 1)]) (by simp [splice, v1.sent, v1.taken, v1.lost]) (by simp)
      have x0 : Ext h K0 := ⟨Nat.le_trans xp.1 ch.len, fun id hid => by rw [ch.keep id (Nat.lt_of_lt_of_le hid xp.1) (fun hh => by have := P1.ge; omega), xp.2 id hid]⟩
      generalize hc0 : ({ c1 with now := w.now + 1, sent := w.sent, taken := w.taken, lost := w.lost } : WorldC) = c0 at *
      unfold itickP
      rw [if_pos b]
      generalize hw0 : ({ w with now := w.now + 1 } : PWorld) = w0
      have P0 : WorldP h.length K0 p w0 c0 cs1 := by subst hw0; exact P0
      have hr0 : w.runs.length = w0.runs.length := by subst hw0; rfl
      have hq0 : w0.queue.length + w0.runs.length ≤ lenMost := by subst hw0; have := a.1.queue.len; have := a.1.many; unfold lenMost; simp only; omega
      rw [hr0]
      have hgp0 := P0.at_
      have hS0 := P0.v.runs
      have hl0 := P0.v.len
      simp [b', b2, hw1, ew, at_blk hgp0, hS0.lenA, hl0]
      refine count_wpG (σ := H × WorldC × List RunC) w0.runs.length (fun i g => ([.c (.ptr p 0 0), .c (ci w0.runs.length), .c (ci i)], [zeroW], [], g.1))
        (fun i g => WorldP h.length g.1 p (itickTo w0 i) g.2.1 g.2.2 ∧ Ext h g.1) (K0, c0, cs1) ?_ ⟨P0, x0⟩ ?_ ?_
      · simp [zeroW]
      · rintro i ⟨k, c2, cs2⟩ hi ⟨P, x⟩
        simp only at P x ⊢
        obtain ⟨tl, tq, tn⟩ := itickTo_len w0 i
        have hS1 := P.v.runs
        have hl1 := P.v.len
        have hi' : i < cs2.length := by omega
        have hiw : i < (itickTo w0 i).runs.length := by omega
        have hr := P.v.each i hiw
        have eAt : itickTo w0 (i + 1) = itickAt (itickTo w0 i) i := rfl
        generalize hwi : itickTo w0 i = wi at *
        have hg : wi.runs[i]? = some wi.runs[i] := List.getElem?_eq_getElem hiw
        have hst := hr.state
        have hdu := hr.due
        have hnw2 := P.v.now
        have hgp2 := P.at_
        rw [Wp_body]
        by_cases s2 : wi.runs[i].state = 2
        · by_cases d2 : wi.runs[i].due = wi.now
          · have s2' : cs2[i].state = 2 := by rw [hst, s2]
            have d2' : cs2[i].due = c2.now := by rw [hdu, d2, hnw2]
            obtain ⟨_, e3, k3, q3, rfl, P3, st3⟩ := c_wake P hiw (by omega)
            have eg : (wakeP wi i).runs = wi.runs.set i { wi.runs[i] with state := 1 } := by unfold wakeP; simp only [hg]
            obtain ⟨k4, e4, v4, st4⟩ := P3.v.put (i := i) (by rw [eg]; simpa using hiw) (j := 6) (xs := [.int .i64 (-1)]) (r := { wi.runs[i] with state := 1, due := -1 }) (r' := { cs2[i] with state := 1, due := -1 }) (by simp [splice, List.getElem?_eq_getElem hi']) (by simp) (fun _ q => by simp [eg, List.getElem?_eq_getElem hi'] at q; exact ⟨q.id, q.at_, q.slots, q.full, q.mail, q.state, rfl, q.links, q.watched, q.trap, q.why, q.turns⟩) (by simp [List.getElem?_eq_getElem hi']) (by simp [List.getElem?_eq_getElem hi']) (by simp [List.getElem?_eq_getElem hi']) (by simp [List.getElem?_eq_getElem hi'])
            simp [at_blk hgp2, hi, ixA_nat hS1, hi', hS1.at, s2', d2', e3, e4, wrap_succ (hS1.lt hi')]
            have P4 := P3.move v4 st4
            have S4 := st3.trans st4.toP
            have x4 : Ext h k4 := S4.ext (fun id ho => P.v.own.owned_ge id ho) P.ge x (Nat.le_refl _)
            have ew : wakeP wi i = { wi with runs := wi.runs.set i { wi.runs[i] with state := 1 }, queue := wi.queue ++ [wi.runs[i].id] } := by unfold wakeP; simp only [hg]
            have ei : itickTo w0 (i + 1) = { wi with runs := wi.runs.set i { wi.runs[i] with state := 1, due := -1 }, queue := wi.queue ++ [wi.runs[i].id] } := by
              rw [eAt]; unfold itickAt; simp only [hg, s2, d2, and_self, ↓reduceIte]
            rw [ew] at P4
            simp only [List.set_set] at P4
            rw [ei]
            exact ⟨by unfold LexOk; kernel_rfl, ⟨_, _, P4⟩, x4⟩
          · have s2' : cs2[i].state = 2 := by rw [hst, s2]
            have d2' : ¬ cs2[i].due = c2.now := by rw [hdu, hnw2]; exact d2
            simp [at_blk hgp2, hi, ixA_nat hS1, hi', hS1.at, s2', d2', wrap_succ (hS1.lt hi')]
            refine ⟨by unfold LexOk; kernel_rfl, ⟨c2, cs2, ?_⟩, x⟩
            rw [eAt]
            unfold itickAt
            simp only [hg, d2, and_false, ↓reduceIte]
            exact P
        · have s2' : ¬ cs2[i].state = 2 := by rw [hst]; exact s2
          simp [at_blk hgp2, hi, ixA_nat hS1, hi', hS1.at, s2', wrap_succ (hS1.lt hi')]
          refine ⟨by unfold LexOk; kernel_rfl, ⟨c2, cs2, ?_⟩, x⟩
          rw [eAt]
          unfold itickAt
          simp only [hg, s2, false_and, ↓reduceIte]
          exact P
      · rintro ⟨k, c2, cs2⟩ ⟨P, x⟩
        simp only at P x ⊢
        have hgp2 := P.at_
        rw [Wp_body]
        simp [at_blk hgp2, zeroW]
        exact ⟨k, _, _, rfl, x, P.v⟩
    · have b' : ¬ c1.now < 250 := by rw [hnw]; exact b
      have b2 : (250 : Int) ≤ c1.now := by omega
      unfold itickP
      rw [if_neg b]
      obtain ⟨w0, hw0⟩ : ∃ x, x = w := ⟨_, rfl⟩
      obtain ⟨c0, hc0⟩ : ∃ x, x = c1 := ⟨_, rfl⟩
      obtain ⟨K0, hK0⟩ : ∃ x, x = K := ⟨_, rfl⟩
      have P0 : WorldP h.length K0 p w0 c0 cs1 := by subst hw0; subst hc0; subst hK0; exact P1
      have x0 : Ext h K0 := by rw [hK0]; exact xp
      have hr0 : w.runs.length = w0.runs.length := by rw [hw0]
      have hq0 : w0.queue.length + w0.runs.length ≤ lenMost := by rw [hw0]; have := a.1.queue.len; have := a.1.many; unfold lenMost; omega
      have hS0 := P1.v.runs
      simp [b', b2, hS0.lenA, hlen]
      rw [hr0]
      rw [← hw0, ← hK0]
      refine count_wpG (σ := H × WorldC × List RunC) w0.runs.length (fun i g => ([.c (.ptr p 0 0), .c (ci w0.runs.length), .c (ci i)], [zeroW], [], g.1))
        (fun i g => WorldP h.length g.1 p (itickTo w0 i) g.2.1 g.2.2 ∧ Ext h g.1) (K0, c0, cs1) ?_ ⟨P0, x0⟩ ?_ ?_
      · simp [zeroW]
      · rintro i ⟨k, c2, cs2⟩ hi ⟨P, x⟩
        simp only at P x ⊢
        obtain ⟨tl, tq, tn⟩ := itickTo_len w0 i
        have hS1 := P.v.runs
        have hl1 := P.v.len
        have hi' : i < cs2.length := by omega
        have hiw : i < (itickTo w0 i).runs.length := by omega
        have hr := P.v.each i hiw
        have eAt : itickTo w0 (i + 1) = itickAt (itickTo w0 i) i := rfl
        generalize hwi : itickTo w0 i = wi at *
        have hg : wi.runs[i]? = some wi.runs[i] := List.getElem?_eq_getElem hiw
        have hst := hr.state
        have hdu := hr.due
        have hnw2 := P.v.now
        have hgp2 := P.at_
        rw [Wp_body]
        by_cases s2 : wi.runs[i].state = 2
        · by_cases d2 : wi.runs[i].due = wi.now
          · have s2' : cs2[i].state = 2 := by rw [hst, s2]
            have d2' : cs2[i].due = c2.now := by rw [hdu, d2, hnw2]
            obtain ⟨_, e3, k3, q3, rfl, P3, st3⟩ := c_wake P hiw (by omega)
            have eg : (wakeP wi i).runs = wi.runs.set i { wi.runs[i] with state := 1 } := by unfold wakeP; simp only [hg]
            obtain ⟨k4, e4, v4, st4⟩ := P3.v.put (i := i) (by rw [eg]; simpa using hiw) (j := 6) (xs := [.int .i64 (-1)]) (r := { wi.runs[i] with state := 1, due := -1 }) (r' := { cs2[i] with state := 1, due := -1 }) (by simp [splice, List.getElem?_eq_getElem hi']) (by simp) (fun _ q => by simp [eg, List.getElem?_eq_getElem hi'] at q; exact ⟨q.id, q.at_, q.slots, q.full, q.mail, q.state, rfl, q.links, q.watched, q.trap, q.why, q.turns⟩) (by simp [List.getElem?_eq_getElem hi']) (by simp [List.getElem?_eq_getElem hi']) (by simp [List.getElem?_eq_getElem hi']) (by simp [List.getElem?_eq_getElem hi'])
            simp [at_blk hgp2, hi, ixA_nat hS1, hi', hS1.at, s2', d2', e3, e4, wrap_succ (hS1.lt hi')]
            have P4 := P3.move v4 st4
            have S4 := st3.trans st4.toP
            have x4 : Ext h k4 := S4.ext (fun id ho => P.v.own.owned_ge id ho) P.ge x (Nat.le_refl _)
            have ew : wakeP wi i = { wi with runs := wi.runs.set i { wi.runs[i] with state := 1 }, queue := wi.queue ++ [wi.runs[i].id] } := by unfold wakeP; simp only [hg]
            have ei : itickTo w0 (i + 1) = { wi with runs := wi.runs.set i { wi.runs[i] with state := 1, due := -1 }, queue := wi.queue ++ [wi.runs[i].id] } := by
              rw [eAt]; unfold itickAt; simp only [hg, s2, d2, and_self, ↓reduceIte]
            rw [ew] at P4
            simp only [List.set_set] at P4
            rw [ei]
            exact ⟨by unfold LexOk; kernel_rfl, ⟨_, _, P4⟩, x4⟩
          · have s2' : cs2[i].state = 2 := by rw [hst, s2]
            have d2' : ¬ cs2[i].due = c2.now := by rw [hdu, hnw2]; exact d2
            simp [at_blk hgp2, hi, ixA_nat hS1, hi', hS1.at, s2', d2', wrap_succ (hS1.lt hi')]
            refine ⟨by unfold LexOk; kernel_rfl, ⟨c2, cs2, ?_⟩, x⟩
            rw [eAt]
            unfold itickAt
            simp only [hg, d2, and_false, ↓reduceIte]
            exact P
        · have s2' : ¬ cs2[i].state = 2 := by rw [hst]; exact s2
          simp [at_blk hgp2, hi, ixA_nat hS1, hi', hS1.at, s2', wrap_succ (hS1.lt hi')]
          refine ⟨by unfold LexOk; kernel_rfl, ⟨c2, cs2, ?_⟩, x⟩
          rw [eAt]
          unfold itickAt
          simp only [hg, s2, false_and, ↓reduceIte]
          exact P
      · rintro ⟨k, c2, cs2⟩ ⟨P, x⟩
        simp only at P x ⊢
        have hgp2 := P.at_
        rw [Wp_body]
        simp [at_blk hgp2, zeroW]
        exact ⟨k, _, _, rfl, x, P.v⟩
  · have a' : tt (Room w) = false := by simpa using a
    rw [a'] at e ⊢
    simp [Tryz.f21, e]
    exact ⟨h, _, _, rfl, Ext.refl _, emptyV h⟩
end Go.Proofs.YtkcfminmojolhaaGreat

/-
  A WORLD THAT OWNS ITS BLOCKS, part by part.
-/
set_option maxRecDepth 8000
namespace Go.Proofs.YtkcfminmojolhaaGreat
open Go.AM
variable {h h' : H} {lo : Nat} {w : PWorld} {c : WorldC} {st cs : List RunC}
theorem part_key {k : Key} {i : Nat} {f : Fin 4} (hk : keyOf k = some (i, f)) : part c cs k = match cs[i]? with | some r => rpart r f | none => .nils := by
  cases k with
  | code => simp [keyOf] at hk
  | runs => simp [keyOf] at hk
  | queue => simp [keyOf] at hk
  | slots a => simp only [keyOf, Option.some.injEq, Prod.mk.injEq] at hk; obtain ⟨rfl, rfl⟩ := hk; simp only [part, fld]; cases cs[a]? <;> rfl
  | mail a => simp only [keyOf, Option.some.injEq, Prod.mk.injEq] at hk; obtain ⟨rfl, rfl⟩ := hk; simp only [part, fld]; cases cs[a]? <;> rfl
  | links a => simp only [keyOf, Option.some.injEq, Prod.mk.injEq] at hk; obtain ⟨rfl, rfl⟩ := hk; simp only [part, fld]; cases cs[a]? <;> rfl
  | watched a => simp only [keyOf, Option.some.injEq, Prod.mk.injEq] at hk; obtain ⟨rfl, rfl⟩ := hk; simp only [part, fld]; cases cs[a]? <;> rfl
theorem rpart_ids {c : RunC} {f : Fin 4} {id : Nat} (h : id ∈ (rpart c f).ids) : id ∈ RunC.ids c := by
  match f, h with
  | 0, h => exact List.mem_append_left _ h
  | 1, h => exact List.mem_append_right _ (List.mem_append_left _ h)
  | 2, h => exact List.mem_append_right _ (List.mem_append_right _ (List.mem_append_left _ h))
  | 3, h => exact List.mem_append_right _ (List.mem_append_right _ (List.mem_append_right _ h))
theorem rpart_one {c : RunC} (hn : (RunC.ids c).Nodup) {f g : Fin 4} {id : Nat} (hf : id ∈ (rpart c f).ids) (hg : id ∈ (rpart c g).ids) : f = g := by
  unfold RunC.ids at hn
  simp only [List.nodup_append, List.mem_append] at hn
  obtain ⟨-, ⟨-, ⟨-, -, h3⟩, h2⟩, h1⟩ := hn
  match f, g, hf, hg with
  | 0, 0, _, _ => rfl
  | 1, 1, _, _ => rfl
  | 2, 2, _, _ => rfl
  | 3, 3, _, _ => rfl
  | 0, 1, hf, hg => exact absurd rfl (h1 id hf id (.inl hg))
  | 0, 2, hf, hg => exact absurd rfl (h1 id hf id (.inr (.inl hg)))
  | 0, 3, hf, hg => exact absurd rfl (h1 id hf id (.inr (.inr hg)))
  | 1, 2, hf, hg => exact absurd rfl (h2 id hf id (.inl hg))
  | 1, 3, hf, hg => exact absurd rfl (h2 id hf id (.inr hg))
  | 2, 3, hf, hg => exact absurd rfl (h3 id hf id hg)
  | 1, 0, hf, hg => exact absurd rfl (h1 id hg id (.inl hf))
  | 2, 0, hf, hg => exact absurd rfl (h1 id hg id (.inr (.inl hf)))
  | 3, 0, hf, hg => exact absurd rfl (h1 id hg id (.inr (.inr hf)))
  | 2, 1, hf, hg => exact absurd rfl (h2 id hg id (.inl hf))
  | 3, 1, hf, hg => exact absurd rfl (h2 id hg id (.inr hf))
  | 3, 2, hf, hg => exact absurd rfl (h3 id hg id hf)
theorem key_none {k : Key} (hk : keyOf k = none) : k = .code ∨ k = .runs ∨ k = .queue := by cases k <;> simp [keyOf] at hk ⊢
theorem key_inj {k k' : Key} {x : Nat × Fin 4} (h : keyOf k = some x) (h' : keyOf k' = some x) : k = k' := by
  cases k <;> simp [keyOf] at h <;> subst h <;> cases k' <;> simp [keyOf] at h' ⊢ <;> omega
theorem runs_one : ∀ {cs : List RunC}, (runsIds cs).Nodup → ∀ {i j id : Nat} {a b : RunC}, cs[i]? = some a → cs[j]? = some b → id ∈ RunC.ids a → id ∈ RunC.ids b → i = j ∧ (RunC.ids a).Nodup
  | [], _, i, j, id, a, b, ha, _, _, _ => by simp at ha
  | r :: cs, hn, i, j, id, a, b, ha, hb, h1, h2 => by
    simp only [runsIds, List.flatMap_cons, List.nodup_append] at hn
    obtain ⟨n1, n2, n3⟩ := hn
    have mem : ∀ {q : Nat} {x : RunC}, cs[q]? = some x → id ∈ RunC.ids x → id ∈ runsIds cs := fun hq hx => mem_runsIds.2 ⟨_, List.mem_of_getElem? hq, hx⟩
    match i, j, ha, hb with
    | 0, 0, ha, hb => simp at ha; subst ha; exact ⟨rfl, n1⟩
    | 0, j + 1, ha, hb => simp at ha hb; subst ha; exact absurd rfl (n3 id h1 id (mem hb h2))
    | i + 1, 0, ha, hb => simp at ha hb; subst hb; exact absurd rfl (n3 id h2 id (mem ha h1))
    | i + 1, j + 1, ha, hb =>
      simp at ha hb
      obtain ⟨e, n⟩ := runs_one n2 ha hb h1 h2
      exact ⟨by rw [e], n⟩
theorem WorldO.toV (hO : WorldO lo h w c cs) (hlo : lo ≤ h.length) : WorldV lo h w c cs cs := by
  have hr := hO.rd
  refine ⟨hr.code, hr.runs.sl, hr.runs.len, hr.runs.len, hr.runs.each, hr.queue, hr.now, hr.sent, hr.taken, hr.lost, ?_, hlo⟩
  have hnd := hO.own.nd
  unfold WorldC.ids at hnd
  simp only [List.nodup_append, List.mem_append] at hnd
  obtain ⟨⟨-, ⟨-, nR, dR⟩, dC⟩, -, dQ⟩ := hnd
  have mem : ∀ k, ∀ id ∈ (part c cs k).ids, id ∈ WorldC.ids c cs ∧ (keyOf k ≠ none → id ∈ runsIds cs) := fun k id hid => by
    cases hk : keyOf k with
    | none =>
      refine ⟨?_, fun e => absurd rfl e⟩
      rcases key_none hk with rfl | rfl | rfl
      · exact List.mem_append_left _ (List.mem_append_left _ hid)
      · exact List.mem_append_left _ (List.mem_append_right _ (List.mem_append_left _ hid))
      · exact List.mem_append_right _ hid
    | some x =>
      obtain ⟨i, f⟩ := x
      rw [part_key hk] at hid
      have : id ∈ runsIds cs := by
        split at hid
        · rename_i r hr
          exact mem_runsIds.2 ⟨r, List.mem_of_getElem? hr, rpart_ids hid⟩
        · simp [Cell.ids] at hid
      exact ⟨List.mem_append_left _ (List.mem_append_right _ (List.mem_append_right _ this)), fun _ => this⟩
  refine ⟨fun k id hid => hO.own.ge id (mem k id hid).1, fun k id hid => hO.own.wr id (mem k id hid).1, fun k k' id h1 h2 => ?_, fun k => ?_⟩
  · cases hk : keyOf k with
    | none =>
      cases hk' : keyOf k' with
      | none =>
        rcases key_none hk with rfl | rfl | rfl <;> rcases key_none hk' with rfl | rfl | rfl <;> first | rfl | skip
        · exact absurd rfl (dC id h1 id (.inl h2))
        · exact absurd rfl (dQ id (.inl h1) id h2)
        · exact absurd rfl (dC id h2 id (.inl h1))
        · exact absurd rfl (dQ id (.inr (.inl h1)) id h2)
        · exact absurd rfl (dQ id (.inl h2) id h1)
        · exact absurd rfl (dQ id (.inr (.inl h2)) id h1)
      | some x =>
        have m := (mem k' id h2).2 (by rw [hk']; simp)
        rcases key_none hk with rfl | rfl | rfl
        · exact absurd rfl (dC id h1 id (.inr m))
        · exact absurd rfl (dR id h1 id m)
        · exact absurd rfl (dQ id (.inr (.inr m)) id h1)
    | some x =>
      have m := (mem k id h1).2 (by rw [hk]; simp)
      cases hk' : keyOf k' with
      | none =>
        rcases key_none hk' with rfl | rfl | rfl
        · exact absurd rfl (dC id h2 id (.inr m))
        · exact absurd rfl (dR id h2 id m)
        · exact absurd rfl (dQ id (.inr (.inr m)) id h2)
      | some y =>
        obtain ⟨i, f⟩ := x
        obtain ⟨j, g⟩ := y
        rw [part_key hk] at h1
        rw [part_key hk'] at h2
        cases ha : cs[i]? with
        | none => rw [ha] at h1; simp [Cell.ids] at h1
        | some a =>
          cases hb : cs[j]? with
          | none => rw [hb] at h2; simp [Cell.ids] at h2
          | some b =>
            rw [ha] at h1; rw [hb] at h2
            obtain ⟨rfl, nd⟩ := runs_one nR ha hb (rpart_ids h1) (rpart_ids h2)
            rw [ha] at hb; cases hb
            have := rpart_one nd h1 h2
            subst this
            exact key_inj hk hk'
  · cases hk : keyOf k with
    | none =>
      rcases key_none hk with rfl | rfl | rfl
      · exact hO.unw.1
      · exact hO.unw.2.1
      · exact hO.unw.2.2
    | some x =>
      obtain ⟨i, f⟩ := x
      rw [part_key hk]
      cases ha : cs[i]? with
      | none => exact Un.nils
      | some a =>
        obtain ⟨u1, u2, u3, u4⟩ := hO.unr a (List.mem_of_getElem? ha)
        match f with
        | 0 => exact u1
        | 1 => exact u2
        | 2 => exact u3
        | 3 => exact u4
end Go.Proofs.YtkcfminmojolhaaGreat

/-
  THE LAW FnExactTurnTick, in the abstract machine: it answers true.
-/
set_option maxRecDepth 8000
namespace Go.Proofs.YtkcfminmojolhaaGreat
open Go.AM
variable {h : H}
theorem WorldSmall.bd {w : PWorld} {n : Int} (hs : WorldSmall n w) (hn : n ≤ 1048576) : Bd w := by
  refine ⟨by have := hs.code; omega, by have := hs.runs; omega, by have := hs.queue; omega, fun r hr => ?_⟩
  obtain ⟨a, b, c, d⟩ := hs.each r hr
  exact ⟨by omega, by omega, by omega, by omega⟩
theorem tickAt_alike (w : PWorld) (i : Nat) : Alike (tickAt w i).runs w.runs ∧ (tickAt w i).code = w.code := by
  unfold tickAt
  cases hg : w.runs[i]? with
  | none => exact ⟨Alike.refl _, rfl⟩
  | some r =>
    obtain ⟨hi, rfl⟩ := List.getElem?_eq_some_iff.1 hg
    simp only
    split
    · exact ⟨(Alike.refl _).set hi ⟨rfl, rfl, rfl, rfl⟩, rfl⟩
    · exact ⟨Alike.refl _, rfl⟩
theorem Alike.trans {a b c : List PRun} (h : Alike a b) (g : Alike b c) : Alike a c := by
  refine ⟨h.1.trans g.1, fun i ha hc => ?_⟩
  have hb : i < b.length := by have := h.1; omega
  obtain ⟨x, y, z, t⟩ := h.2 i ha hb
  obtain ⟨x2, y2, z2, t2⟩ := g.2 i hb hc
  exact ⟨x.trans x2, y.trans y2, z.trans z2, t.trans t2⟩
theorem tickTo_alike (w : PWorld) : ∀ i, Alike (tickTo w i).runs w.runs ∧ (tickTo w i).code = w.code
  | 0 => ⟨Alike.refl _, rfl⟩
  | i + 1 => by
    obtain ⟨a, b⟩ := tickTo_alike w i
    obtain ⟨a2, b2⟩ := tickAt_alike (tickTo w i) i
    exact ⟨a2.trans a, b2.trans b⟩
theorem turnTick_bd {w : PWorld} (hs : WorldSmall 1048576 w) : Bd (turnTickP w) := by
  have hb := hs.bd (Int.le_refl _)
  have h3 := hs.queue
  have h4 := hs.runs
  unfold turnTickP
  split
  · unfold tickP
    split
    · exact hb
    · obtain ⟨a, b⟩ := tickTo_alike { w with now := w.now + 1 } w.runs.length
      obtain ⟨c1, c2, _⟩ := tickTo_len { w with now := w.now + 1 } w.runs.length
      exact ⟨by rw [b]; exact hb.code, by rw [c1]; exact hb.runs, by simp only at c2; omega, a.bd hb.each⟩
  · exact ⟨by simp [emptyW], by simp [emptyW], by simp [emptyW], by simp [emptyW]⟩
theorem StepV.low {p q : Key → Cell} {h1 h2 : H} (s : StepV h1 p h2 q) {lo : Nat} (o : OwnK lo h1 p) {w : PWorld} {c : WorldC} {cs : List RunC} {lo' : Nat} {hh : H} (v : WorldV lo' h1 w c cs cs) (v0 : WorldV lo' hh w c cs cs) (hl : hh.length ≤ lo) : WorldV lo' h2 w c cs cs :=
  v.chg s.chg fun id ⟨k, hid⟩ ho => by have := v0.own.lt id hid; have := o.owned_ge id ho; omega
set_option maxHeartbeats 2000000 in
set_option maxRecDepth 16000 in
theorem c_law_TurnTick {w : PWorld} {c : WorldC} {cs : List RunC} (hw : WorldA h w c cs) : Dz.den 4 [.g (encW c)] h = some (.c (.bool true), h) := by
  refine den_plain rfl Tryz.func4 rfl rfl ?_
  obtain ⟨_, e1, z, rfl, hz⟩ := c_szWorld hw 1048576 (by omega) (by omega)
  simp only [encW] at e1
  by_cases z0 : z < 0
  · simp [Tryz.f4, e1, z0]
  have hs := (hz (by omega)).2
  obtain ⟨_, e2, k1, c1, cs1, rfl, x1, O1⟩ := c_toWorld hw hs
  have v1 := O1.toV x1.1
  obtain ⟨_, e3, k2, c2, cs2, rfl, x2, v2⟩ := c_TurnTick v1
  have hw2 := hw.ext (x1.trans x2)
  obtain ⟨_, e4, k3, c3, cs3, rfl, x3, O3⟩ := c_toWorld hw2 hs
  have v3 := O3.toV x3.1
  obtain ⟨_, e5, k4, c4, cs4, rfl, x4, v4⟩ := c_ITurnTick v3
  have v24 := v2.ext (x3.trans x4)
  have e6 := c_eqWorld v4.rd v24.rd
  have hw4 := hw2.ext (x3.trans x4)
  obtain ⟨_, e7, k5, c5, cs5, rfl, x5, O5⟩ := c_toWorld hw4 hs
  have v35 := v3.ext (x4.trans x5)
  have e8 := c_eqWorld v35.rd O5.rd
  have v45 := v4.ext x5
  have v25 := v24.ext x5
  obtain ⟨_, e9, k6, w6, cs6, rfl, v6, s6, H6, z6, b6⟩ := c_markWorld v35 (hs.bd (Int.le_refl _))
  have v46 : WorldV k3.length k6 _ c4 cs4 cs4 := v45.chg s6.chg fun id ⟨k, hid⟩ ⟨k', ho⟩ => by have := v45.own.ge k id hid; have := v3.own.lt id ho; omega
  have v26 : WorldV k1.length k6 _ c2 cs2 cs2 := v25.chg s6.chg fun id ⟨k, hid⟩ ⟨k', ho⟩ => by have := v2.own.lt id hid; have := v35.own.ge k' id ho; omega
  have e10 := c_eqWorld v46.rd v26.rd
  obtain ⟨_, e11, k7, w7, cs7, rfl, v7, s7, H7, z7, b7⟩ := c_markWorld v46 (turnTick_bd hs)
  have v27 : WorldV k1.length k7 _ c2 cs2 cs2 := v26.chg s7.chg fun id ⟨k, hid⟩ ⟨k', ho⟩ => by have := v2.own.lt id hid; have := v46.own.ge k' id ho; have := x3.1; omega
  have e12 := c_heldWorld v7.rd b7 H7
  have xa : Ext h k5 := (x1.trans x2).trans ((x3.trans x4).trans x5)
  have l2 := (x1.trans x2).1
  have x6 : Ext h k6 := s6.ext (fun id ho => v35.own.owned_ge id ho) xa l2
  have x7 : Ext h k7 := s7.ext (fun id ho => v46.own.owned_ge id ho) x6 (Nat.le_trans l2 x3.1)
  have hw7 := hw.ext x7
  obtain ⟨_, e13, k8, c8, cs8, rfl, x8, O8⟩ := c_toWorld hw7 hs
  have v8 := O8.toV x8.1
  obtain ⟨_, e14, k9, c9, cs9, rfl, x9, v9⟩ := c_ITurnTick v8
  have x89 := x8.trans x9
  have e15 := c_eqWorld v9.rd (v27.ext x89).rd
  have e16 := c_heldWorld (v7.ext x89).rd b7 H7
  rw [z7] at e12 e16
  obtain ⟨r1, r2⟩ := sizeW_range (turnTick_bd hs)
  obtain ⟨r3, r4⟩ := sizeW_range (hs.bd (Int.le_refl _))
  have m1 : ¬ (1 + sizeW w < 0) := by omega
  have m2 : ¬ (1 + sizeW (turnTickP w) < 0) := by omega
  simp only [encW] at e2 e3 e4 e5 e6 e7 e8 e9 e10 e11 e12 e13 e14 e15 e16
  simp [Tryz.f4, e1, z0, e2, e3, e4, e5, e6, e7, e8, e9, e10, e11, e12, e13, e14, e15, e16, m1, m2]
  exact ⟨by kernel_rfl, (x7.trans x89).2⟩
end Go.Proofs.YtkcfminmojolhaaGreat

/-
  GIVING, ENDING, IN PLAIN DATA; what the reference's l12Give answers.
-/
set_option maxRecDepth 8000
namespace Go.Proofs.YtkcfminmojolhaaGreat
open Go.AM
variable {h h' : H} {lo : Nat} {w : PWorld} {c : WorldC} {st cs : List RunC}
def runAt (w : PWorld) (id : Int) : PRun := w.runs[(id - 1).toNat]?.getD default
def setRun (w : PWorld) (id : Int) (r : PRun) : PWorld := { w with runs := w.runs.set (id - 1).toNat r }
def codeAt (w : PWorld) (at_ : Int) : POp := w.code[at_.toNat]?.getD default
def less (xs : List Int) (n : Int) : List Int := xs.filter (fun x => x ≠ n)
/-- It has room for what is given. -/
def Takes (w : PWorld) (id : Int) : Prop := (1 ≤ id ∧ id ≤ w.runs.length) ∧ (runAt w id).state ≠ 3 ∧ (runAt w id).mail.length < 12
instance (w : PWorld) (id : Int) : Decidable (Takes w id) := inferInstanceAs (Decidable (_ ∧ _))
/-- It goes on by what is given. -/
def Wakes (w : PWorld) (r : PRun) (v : PVal) : Prop := r.state = 2 ∧ fits (codeAt w r.at_).s v = true
instance (w : PWorld) (r : PRun) (v : PVal) : Decidable (Wakes w r v) := inferInstanceAs (Decidable (_ ∧ _))
def giveP (w : PWorld) (id : Int) (v : PVal) : PWorld :=
  if Takes w id then
    if Wakes w (runAt w id) v then { w with sent := w.sent + 1, runs := w.runs.set (id - 1).toNat { runAt w id with mail := (runAt w id).mail ++ [v], state := 1 }, queue := w.queue ++ [id] }
    else { w with sent := w.sent + 1, runs := w.runs.set (id - 1).toNat { runAt w id with mail := (runAt w id).mail ++ [v] } }
  else { w with sent := w.sent + 1, lost := w.lost + 1 }
/-- What must be so that no step goes wrong. -/
structure Sane (w : PWorld) : Prop where
  at_ : ∀ r ∈ w.runs, 0 ≤ r.at_ ∧ r.at_ < w.code.length
  sent : -4611686018427387904 ≤ w.sent ∧ w.sent ≤ 4611686018427387904
  lost : -4611686018427387904 ≤ w.lost ∧ w.lost ≤ 4611686018427387904
  queue : w.queue.length + 1 ≤ 2097152
  code : w.code.length ≤ 2097152
  runs : w.runs.length ≤ 2097152
theorem runAt_eq {id : Int} (h : 1 ≤ id ∧ id ≤ w.runs.length) : ∃ i : Nat, id = i + 1 ∧ ∃ hi : i < w.runs.length, runAt w id = w.runs[i] ∧ (id - 1).toNat = i := by
  obtain ⟨i, hi⟩ : ∃ i : Nat, id = i + 1 := ⟨(id - 1).toNat, by omega⟩
  have hl : i < w.runs.length := by omega
  refine ⟨i, hi, hl, ?_, by omega⟩
  unfold runAt
  rw [show (id - 1).toNat = i by omega, List.getElem?_eq_getElem hl, Option.getD_some]
set_option maxRecDepth 8000 in
set_option maxHeartbeats 1000000 in
theorem c_l12Give (hV : WorldV lo h w c cs cs) (hs : Sane w) (id : Int) (v : PVal) : @Wp _ (Dz.den 124 [.g (encW c), .c (.int .i64 id), .g (encV v)] h) ⟨StepQ lo h (part c cs) (giveP w id v)⟩ := by
  refine den_wp rfl Tryz.func124 rfl ?_
  have hS := hV.runs
  have hlen := hV.len
  have hcd := hV.code
  obtain ⟨s1, s2⟩ := hs.sent
  obtain ⟨l1, l2⟩ := hs.lost
  have ws : IntKind.i64.wrap (c.sent + 1) = w.sent + 1 := by rw [hV.sent]; exact wrap_i64 (by omega) (by omega)
  have wl : IntKind.i64.wrap (c.lost + 1) = w.lost + 1 := by rw [hV.lost]; exact wrap_i64 (by omega) (by omega)
  have hpc : ∀ (a b d e : Int), part { c with now := a, sent := b, taken := d, lost := e } cs = part c cs := fun a b d e => by funext k; cases k <;> rfl
  by_cases a : 1 ≤ id ∧ id ≤ w.runs.length
  case neg =>
    have kk : ¬ Takes w id := fun k => a k.1
    have v1 := hV.nums w.now (w.sent + 1) w.taken (w.lost + 1)
    unfold giveP; rw [if_neg kk]
    simp [Tryz.f124, ws, wl, hS.lenA, hlen, a]
    exact ⟨h, _, cs, by rw [hV.now, hV.taken]; rfl, v1, by rw [hpc]; exact StepV.refl _ _⟩
  obtain ⟨i, rfl, hi, er, ei⟩ := runAt_eq a
  have hi' : i < cs.length := by omega
  have hr := hV.each i hi
  have wi' : IntKind.i64.wrap (i : Int) = i := wrap_i64 (by omega) (by have := hs.runs; omega)
  have a1 : (1 : Int) ≤ i + 1 := a.1
  have a2 : (i : Int) + 1 ≤ w.runs.length := a.2
  have a3 : ¬ ((i : Int) + 1 < 1) := by omega
  have a4 : ¬ ((w.runs.length : Int) < i + 1) := by omega
  have hst := hr.state
  by_cases b : w.runs[i].state = 3
  case pos =>
    have kk : ¬ Takes w (i + 1) := fun k => k.2.1 (by rw [er]; exact b)
    have v1 := hV.nums w.now (w.sent + 1) w.taken (w.lost + 1)
    have b' : cs[i].state = 3 := by rw [hst, b]
    unfold giveP; rw [if_neg kk]
    simp [Tryz.f124, ws, wl, hS.lenA, hlen, a1, a2, a3, a4, hi, wi', hi', ixA_nat hS, hS.at, b']
    exact ⟨h, _, cs, by rw [hV.now, hV.taken]; rfl, v1, by rw [hpc]; exact StepV.refl _ _⟩
  have b' : ¬ cs[i].state = 3 := by rw [hst]; exact b
  by_cases d : w.runs[i].mail.length < 12
  case neg =>
    have kk : ¬ Takes w (i + 1) := fun k => d (by have := k.2.2; rw [er] at this; exact this)
    have v1 := hV.nums w.now (w.sent + 1) w.taken (w.lost + 1)
    have d' : (12 : Int) ≤ w.runs[i].mail.length := by omega
    unfold giveP; rw [if_neg kk]
    simp [Tryz.f124, ws, wl, hS.lenA, hlen, a1, a2, a3, a4, hi, wi', hi', ixA_nat hS, hS.at, b', hr.mail.lenA, d']
    exact ⟨h, _, cs, by rw [hV.now, hV.taken]; rfl, v1, by rw [hpc]; exact StepV.refl _ _⟩
  have d' : ¬ (12 : Int) ≤ w.runs[i].mail.length := by omega
  have kk : Takes w (i + 1) := ⟨a, by rw [er]; exact b, by rw [er]; exact d⟩
  obtain ⟨at0, at1⟩ := hs.at_ _ (List.getElem_mem hi)
  obtain ⟨n, hn⟩ : ∃ n : Nat, w.runs[i].at_ = n := ⟨w.runs[i].at_.toNat, by omega⟩
  have hn1 : n < w.code.length := by omega
  have hat : cs[i].at_ = n := by rw [hr.at_, hn]
  have hfit : (codeAt w w.runs[i].at_) = w.code[n] := by unfold codeAt; rw [hn]; simp [hn1]
  have v0 := hV.nums w.now (w.sent + 1) w.taken w.lost
  obtain ⟨m1, h1, e1, v1, g1⟩ := v0.mailApp (i := i) hi (ys := [v]) (by simp only [List.length_singleton]; show w.runs[i].mail.length + 1 ≤ _; unfold lenMost; omega)
  have hcd1 := v1.code
  by_cases f : Wakes w w.runs[i] v
  case pos =>
    obtain ⟨f1, f2⟩ := f
    rw [hfit] at f2
    have f1' : cs[i].state = 2 := by rw [hst, f1]
    have f3 : w.code[n].s = 0 ∨ v.k = w.code[n].s := by simpa [fits] using f2
    obtain ⟨v2, p2⟩ := v1.flat (i := i) (by simpa using hi) (r := { w.runs[i] with mail := w.runs[i].mail ++ [v], state := 1 }) (r' := { cs[i] with mail := m1, state := 1 }) (by have q := v1.each i (by simpa using hi); simp at q; exact ⟨q.id, q.at_, q.slots, q.full, q.mail, rfl, q.due, q.links, q.watched, q.trap, q.why, q.turns⟩) (by simp) (by simp) (by simp) (by simp)
    simp only [List.set_set] at v2 p2
    obtain ⟨q3, h3, e3, v3, g3⟩ := v2.queueApp (ys := [(i : Int) + 1]) (by have := hs.queue; simp only [List.length_singleton]; show w.queue.length + 1 ≤ _; unfold lenMost; omega)
    obtain ⟨h4, e4, v4, g4⟩ := v3.lay (i := i) (by simpa using hi) (j := 0) (xs := encR { cs[i] with mail := m1, state := 1 }) (r' := { cs[i] with mail := m1, state := 1 }) (by simp [splice]) (by simp)
    have hS3 := v3.runs
    simp only [encR, List.map_cons, List.map_nil, encI, encV, List.length_cons, List.length_nil, hat] at e1 e3 e4
    unfold giveP; rw [if_pos kk, if_pos (by rw [er]; exact ⟨f1, by rw [hfit]; exact f2⟩)]
    simp [Tryz.f124, ws, wl, hS.lenA, hlen, a1, a2, a3, a4, hi, wi', hi', ixA_nat hS, hS.at, b', hr.mail.lenA, d', e1, f1', hat, hn1, ixA_nat hcd1, hcd1.at, f3, e3, ixA_nat hS3, e4]
    rw [er, hV.now, hV.taken, hV.lost]
    rw [hpc] at g1
    rw [← p2] at g1
    exact ⟨by unfold LexOk; kernel_rfl, h4, ⟨c.code, c.runs, q3, w.now, w.sent + 1, w.taken, w.lost⟩, _, rfl, v4, g1.trans (g3.trans g4)⟩
  case neg =>
    obtain ⟨v2, p2⟩ := v1.flat (i := i) (by simpa using hi) (r := { w.runs[i] with mail := w.runs[i].mail ++ [v] }) (r' := { cs[i] with mail := m1 }) (by have q := v1.each i (by simpa using hi); simp at q; exact ⟨q.id, q.at_, q.slots, q.full, q.mail, q.state, q.due, q.links, q.watched, q.trap, q.why, q.turns⟩) (by simp) (by simp) (by simp) (by simp)
    simp only [List.set_set] at v2 p2
    obtain ⟨h4, e4, v4, g4⟩ := v2.lay (i := i) (by simpa using hi) (j := 0) (xs := encR { cs[i] with mail := m1 }) (r' := { cs[i] with mail := m1 }) (by simp [splice]) (by simp)
    have hS1 := v1.runs
    unfold giveP; rw [if_pos kk, if_neg (by rw [er]; exact f)]
    simp only [encR, List.map_cons, List.map_nil, encI, encV, List.length_cons, List.length_nil, hat] at e1 e4
    rw [er, ei]
    by_cases f1 : w.runs[i].state = 2
    · have f1' : cs[i].state = 2 := by rw [hst, f1]
      have f3 : ¬ (w.code[n].s = 0 ∨ v.k = w.code[n].s) := fun hh => f ⟨f1, by rw [hfit]; simpa [fits] using hh⟩
      simp only [f1'] at e4
      simp [Tryz.f124, ws, wl, hS.lenA, hlen, a1, a2, a3, a4, hi, wi', hi', ixA_nat hS, hS.at, b', hr.mail.lenA, d', e1, f1', hat, hn1, ixA_nat hcd1, hcd1.at, f3, ixA_nat hS1, e4]
      rw [hpc] at g1
      rw [hV.now, hV.taken, hV.lost]
      exact ⟨by unfold LexOk; kernel_rfl, h4, ⟨c.code, c.runs, c.queue, w.now, w.sent + 1, w.taken, w.lost⟩, _, rfl, v4, g1.trans g4⟩
    · have f1' : ¬ cs[i].state = 2 := by rw [hst]; exact f1
      simp [Tryz.f124, ws, wl, hS.lenA, hlen, a1, a2, a3, a4, hi, wi', hi', ixA_nat hS, hS.at, b', hr.mail.lenA, d', e1, f1', hat, ixA_nat hS1, e4]
      rw [hpc] at g1
      rw [hV.now, hV.taken, hV.lost]
      exact ⟨by unfold LexOk; kernel_rfl, h4, ⟨c.code, c.runs, c.queue, w.now, w.sent + 1, w.taken, w.lost⟩, _, rfl, v4, g1.trans g4⟩
end Go.Proofs.YtkcfminmojolhaaGreat

/-
  THE REFERENCE's l13Less, l13Normal: what they answer.
-/
set_option maxRecDepth 8000
namespace Go.Proofs.YtkcfminmojolhaaGreat
open Go.AM
variable {h h' : H} {lo : Nat} {w : PWorld} {c : WorldC} {st cs : List RunC}
theorem _root_.Go.AM.Fresh.app {α : Type} {enc : α → List Cell} {zs ys : List α} {es : Nat} {s : Cell} {k : H} (f : Fresh h es enc zs s k) (hy : ∀ y ∈ ys, (enc y).length = es) (hl : zs.length + ys.length ≤ lenMost) :
    ∃ s' k', appendA es (k.push ⟨false, es, ys.map enc⟩) (.c s) (.c (.sl k.length 0 ys.length none)) = some (.c s', k') ∧ Fresh h es enc (zs ++ ys) s' k' := by
  obtain ⟨s', k', e, g⟩ := f.sl.append_new f.wr f.un hy hl
  have l := f.ext.1
  refine ⟨s', k', e, g.sl, g.wr, g.un, ⟨Nat.le_trans l g.chg.len, fun id hid => ?_⟩, fun id hid => ?_⟩
  · rw [g.chg.keep id (by omega) (fun hh => by have := f.ids id hh; omega), f.ext.2 id hid]
  · rcases g.ids id hid with hh | hh
    · exact f.ids id hh
    · omega
theorem _root_.Go.AM.Fresh.empty (h : H) (es : Nat) {α : Type} (enc : α → List Cell) : Fresh h es enc [] (.sl h.length 0 0 none) (h.push ⟨false, es, []⟩) :=
  ⟨⟨by simp, rfl, by simp, _, get_push_self, rfl, by simp, rfl⟩, fun id hid => by simp only [Cell.ids, List.mem_singleton] at hid; subst hid; exact ⟨_, get_push_self, rfl⟩, Un.new, Ext.push _ _, fun id hid => by simp only [Cell.ids, List.mem_singleton] at hid; omega⟩
theorem less_len (xs : List Int) (n : Int) : (less xs n).length ≤ xs.length := List.length_filter_le _ _
def FreshQ {α : Type} (h : H) (es : Nat) (enc : α → List Cell) (zs : List α) (x : V × H) : Prop := ∃ k s, x = (.c s, k) ∧ Fresh h es enc zs s k
theorem c_l13Less {s : Cell} {xs : List Int} (hS : Sl h s 1 encI xs) (n : Int) (hl : xs.length ≤ 2097152) : @Wp _ (Dz.den 142 [.c s, .c (.int .i64 n)] h) ⟨FreshQ h 1 encI (less xs n)⟩ := by
  refine den_wp rfl Tryz.func142 rfl ?_
  simp [Tryz.f142]
  refine count_wpG (σ := H × Cell) xs.length (fun i g => ([.c s, .c (.int .i64 n), .c .nils, .c g.2, .c (ci i)], [], [], g.1)) (fun i g => Fresh h 1 encI (less (xs.take i) n) g.2 g.1)
    (h.push ⟨false, 1, []⟩, .sl h.length 0 0 none) ?_ (by simpa [less] using Fresh.empty h 1 encI) ?_ ?_
  · rfl
  · rintro i ⟨k, a⟩ hi f
    simp only at f ⊢
    have hS' := hS.ext f.ext
    have e2 : xs.take (i + 1) = xs.take i ++ [xs[i]] := List.take_succ_eq_append_getElem hi
    rw [Wp_body]
    by_cases d : xs[i] = n
    · simp [hS'.lenA, hi, ixA_nat hS', hS'.at, d, wrap_succ (hS.lt hi)]
      have q : less (xs.take (i + 1)) n = less (xs.take i) n := by rw [e2]; simp [less, d]
      exact ⟨k, a, ⟨rfl, rfl⟩, by rw [q]; exact f⟩
    · obtain ⟨a', k', e, f'⟩ := f.app (ys := [xs[i]]) (by simp) (by have := less_len (xs.take i) n; have h3 := List.length_take_le i xs; simp only [List.length_singleton]; unfold lenMost; omega)
      simp only [List.map_cons, List.map_nil, encI, List.length_cons, List.length_nil] at e
      simp [hS'.lenA, hi, ixA_nat hS', hS'.at, d, e, wrap_succ (hS.lt hi)]
      have q : less (xs.take (i + 1)) n = less (xs.take i) n ++ [xs[i]] := by
        rw [e2]; unfold less; rw [List.filter_append]; congr 1; simp [d]
      exact ⟨k', a', ⟨rfl, rfl⟩, by rw [q]; exact f'⟩
  · rintro ⟨k, a⟩ f
    simp only at f ⊢
    rw [List.take_length] at f
    have hS' := hS.ext f.ext
    rw [Wp_body]
    simp [hS'.lenA]
    exact ⟨k, a, rfl, f⟩
@[simp] theorem c_l13Normal (k n : Int) : Dz.den 203 [.g [.int .i64 k, .int .i64 n]] h = some (.c (.bool (decide (k = 2 ∧ n = 0))), h) := by
  refine den_plain rfl Tryz.func203 rfl rfl ?_
  simp [Tryz.f203]
  try grind
end Go.Proofs.YtkcfminmojolhaaGreat
