/-
  What functions of the seat answer, each proved once; each under the condition that cells bear what it is given, as its statement says.
-/
import Derived.Test.YtkcfminmojolhaaGreatWalk8
import Derived.Test.YtkcfminmojolhaaGreatAm6
import Derived.Test.YtkcfminmojolhaaGreatWalk5
import Derived.Test.YtkcfminmojolhaaGreatWalk1
import Derived.WalkKit
import Derived.Lib.Walk
set_option linter.all false
/-
  TurnTick, by the program: what it answers.
-/
set_option maxRecDepth 8000
namespace Go.Proofs.YtkcfminmojolhaaGreat
open Go.AM
variable {h h' : H} {lo p : Nat} {w : PWorld} {c : WorldC} {st cs : List RunC}
theorem c_turnOk (hw : WorldR h w c cs) : Dz.den 69 [.g (encW c)] h = some (.c (.bool (tt (Room w))), h) := by
  refine den_plain rfl Tryz.func69 rfl rfl ?_
  have e := c_IWorldOk' hw
  simp only [encW, hw.sent] at e
  by_cases a : WorldOk w
  · have a' : tt (WorldOk w) = true := by simpa using a
    rw [a'] at e
    simp [Tryz.f69, e, hw.sent, tt_eq, Room, a]
  · have a' : tt (WorldOk w) = false := by simpa using a
    rw [a'] at e
    simp [Tryz.f69, e, hw.sent, tt_eq, Room, a]
/-- One run at a tick, by the program. -/
def itickAt (w : PWorld) (i : Nat) : PWorld :=
  match w.runs[i]? with
  | some r => if r.state = 2 ∧ r.due = w.now then { w with runs := w.runs.set i { r with state := 1, due := -1 }, queue := w.queue ++ [r.id] } else w
  | none => w
def itickTo (w : PWorld) : Nat → PWorld
  | 0 => w
  | i + 1 => itickAt (itickTo w i) i
def itickP (w : PWorld) : PWorld := itickTo (if w.now < 250 then { w with now := w.now + 1 } else w) w.runs.length
theorem itickAt_len (w : PWorld) (i : Nat) : (itickAt w i).runs.length = w.runs.length ∧ (itickAt w i).queue.length ≤ w.queue.length + 1 ∧ (itickAt w i).now = w.now := by
  unfold itickAt
  split
  · split <;> simp
  · simp
theorem itickTo_len (w : PWorld) : ∀ i, (itickTo w i).runs.length = w.runs.length ∧ (itickTo w i).queue.length ≤ w.queue.length + i ∧ (itickTo w i).now = w.now
  | 0 => ⟨rfl, by simp [itickTo], rfl⟩
  | i + 1 => by
    obtain ⟨a, b, d⟩ := itickTo_len w i
    obtain ⟨a2, b2, d2⟩ := itickAt_len (itickTo w i) i
    exact ⟨by rw [itickTo, a2, a], by rw [itickTo]; omega, by rw [itickTo, d2, d]⟩
/-- Every run bears its place's number. -/
def IdsIn (w : PWorld) : Prop := ∀ (j : Nat) (r : PRun), w.runs[j]? = some r → r.id = (j : Int) + 1
theorem IdsIn.set {w : PWorld} (h : IdsIn w) {i : Nat} {r : PRun} (hr : w.runs[i]? = some r) {r' : PRun} (e : r'.id = r.id) {q : List Int} {n s t l : Int} {code : List POp} : IdsIn ⟨code, w.runs.set i r', q, n, s, t, l⟩ := fun j x hx => by
  simp only [List.getElem?_set] at hx
  split at hx
  · rename_i e2; subst e2
    split at hx
    · cases hx; rw [e]; exact h _ _ hr
    · cases hx
  · exact h _ _ hx
/-- What is equal: where every run bears its place's number. -/
theorem tickTo_same {w : PWorld} (hid : IdsIn w) : ∀ i, itickTo w i = tickTo w i ∧ IdsIn (tickTo w i)
  | 0 => ⟨rfl, hid⟩
  | i + 1 => by
    obtain ⟨a, b⟩ := tickTo_same hid i
    rw [itickTo, tickTo, a]
    unfold itickAt tickAt
    cases hg : (tickTo w i).runs[i]? with
    | none => exact ⟨rfl, b⟩
    | some r =>
      simp only [b i r hg]
      refine ⟨trivial, ?_⟩
      split
      · exact b.set hg (b i r hg).symm
      · exact b
theorem itickTo_none {w : PWorld} (hn : ∀ i (hi : i < w.runs.length), ¬ (w.runs[i].state = 2 ∧ w.runs[i].due = w.now)) : ∀ i, itickTo w i = w
  | 0 => rfl
  | i + 1 => by
    rw [itickTo, itickTo_none hn i]
    unfold itickAt
    cases hg : w.runs[i]? with
    | none => rfl
    | some r =>
      obtain ⟨hi, rfl⟩ := List.getElem?_eq_some_iff.1 hg
      simp only [if_neg (hn i hi)]
theorem itick_same {w : PWorld} (hw : WorldOk w) : itickP w = tickP w := by
  unfold itickP tickP
  have hid : IdsIn w := fun i r hr => by
    obtain ⟨hi, rfl⟩ := List.getElem?_eq_some_iff.1 hr
    exact (hw.each i hi).id
  by_cases a : w.now < 250
  · rw [if_pos a, if_neg (by omega)]
    exact (tickTo_same (w := { w with now := w.now + 1 }) hid _).1
  · rw [if_neg a, if_pos (by omega)]
    refine itickTo_none (fun i hi hc => ?_) _
    have h1 := (hw.each i hi).wait hc.1
    have h0 := hw.now
    unfold WaitsOk at h1
    omega
set_option maxRecDepth 8000 in
set_option maxHeartbeats 1000000 in
theorem c_ITurnTick (hV : WorldV lo h w c cs cs) : @Wp _ (Dz.den 21 [.g (encW c)] h) ⟨CopyWQ h (turnTickP w)⟩ := by
  refine den_wp rfl Tryz.func21 rfl ?_
  have e := c_turnOk hV.rd
  simp only [encW] at e
  unfold turnTickP
  by_cases a : Room w
  · have a' : tt (Room w) = true := by simpa using a
    rw [a'] at e ⊢
    rw [if_pos rfl, ← itick_same a.1]
    obtain ⟨_, e1, h1, c1, cs1, rfl, x1, v1⟩ := c_IWCopied hV a.1.le
    have v1p := v1.push ⟨false, 7, [encW c1]⟩
    have P1 : WorldP h.length (h1.push ⟨false, 7, [encW c1]⟩) h1.length w c1 cs1 := ⟨v1p, get_push_self, fun ⟨k, ho⟩ => by have := v1.own.lt _ ho; omega, v1.lo_le⟩
    have xp := x1.trans (Ext.push h1 ⟨false, 7, [encW c1]⟩)
    have es := alloc_store (h := h1) (z := zeroW) (cs := encW c1) (es := 7) rfl
    generalize hp : h1.length = p at P1 es
    generalize hK : h1.push ⟨false, 7, [encW c1]⟩ = K at *
    have hgp := P1.at_
    simp only [encW, zeroW] at e1 hK es
    simp [Tryz.f21, e, e1, hp, es, at_blk hgp]
    have hlen := v1p.len
    have hS := v1p.runs
    have hnw := v1.now
    have hw0 := a.1.now
    by_cases b : w.now < 250
    · have b' : c1.now < 250 := by rw [hnw]; exact b
      have b2 : ¬ (250 : Int) ≤ c1.now := by omega
      have hw1 : IntKind.i64.wrap (c1.now + 1) = w.now + 1 := by rw [hnw]; exact wrap_i64 (by omega) (by omega)
      have vn := v1p.nums (w.now + 1) w.sent w.taken w.lost
      have hpc : part { c1 with now := w.now + 1, sent := w.sent, taken := w.taken, lost := w.lost } cs1 = part c1 cs1 := by funext k; cases k <;> rfl
      obtain ⟨K0, ew, P0, ch⟩ := vn.home (c0 := c1) hgp (by rw [hpc]; exact P1.out) P1.ge (j := 3) (xs := [.int .i64 (w.now + 1)]) (by simp [splice, v1.sent, v1.taken, v1.lost]) (by simp)
      have x0 : Ext h K0 := ⟨Nat.le_trans xp.1 ch.len, fun id hid => by rw [ch.keep id (Nat.lt_of_lt_of_le hid xp.1) (fun hh => by have := P1.ge; omega), xp.2 id hid]⟩
      generalize hc0 : ({ c1 with now := w.now + 1, sent := w.sent, taken := w.taken, lost := w.lost } : WorldC) = c0 at *
      unfold itickP
      rw [if_pos b]
      generalize hw0 : ({ w with now := w.now + 1 } : PWorld) = w0
      have P0 : WorldP h.length K0 p w0 c0 cs1 := by subst hw0; exact P0
      have hr0 : w.runs.length = w0.runs.length := by subst hw0; rfl
      have hq0 : w0.queue.length + w0.runs.length ≤ lenMost := by subst hw0; have := a.1.queue.len; have := a.1.many; unfold lenMost; simp only; omega
      rw [hr0]
      have hgp0 := P0.at_
      have hS0 := P0.v.runs
      have hl0 := P0.v.len
      simp [b', b2, hw1, ew, at_blk hgp0, hS0.lenA, hl0]
      refine count_wpG (σ := H × WorldC × List RunC) w0.runs.length (fun i g => ([.c (.ptr p 0 0), .c (ci w0.runs.length), .c (ci i)], [zeroW], [], g.1))
        (fun i g => WorldP h.length g.1 p (itickTo w0 i) g.2.1 g.2.2 ∧ Ext h g.1) (K0, c0, cs1) ?_ ⟨P0, x0⟩ ?_ ?_
      · simp [zeroW]
      · rintro i ⟨k, c2, cs2⟩ hi ⟨P, x⟩
        simp only at P x ⊢
        obtain ⟨tl, tq, tn⟩ := itickTo_len w0 i
        have hS1 := P.v.runs
        have hl1 := P.v.len
        have hi' : i < cs2.length := by omega
        have hiw : i < (itickTo w0 i).runs.length := by omega
        have hr := P.v.each i hiw
        have eAt : itickTo w0 (i + 1) = itickAt (itickTo w0 i) i := rfl
        generalize hwi : itickTo w0 i = wi at *
        have hg : wi.runs[i]? = some wi.runs[i] := List.getElem?_eq_getElem hiw
        have hst := hr.state
        have hdu := hr.due
        have hnw2 := P.v.now
        have hgp2 := P.at_
        rw [Wp_body]
        by_cases s2 : wi.runs[i].state = 2
        · by_cases d2 : wi.runs[i].due = wi.now
          · have s2' : cs2[i].state = 2 := by rw [hst, s2]
            have d2' : cs2[i].due = c2.now := by rw [hdu, d2, hnw2]
            obtain ⟨_, e3, k3, q3, rfl, P3, st3⟩ := c_wake P hiw (by omega)
            have eg : (wakeP wi i).runs = wi.runs.set i { wi.runs[i] with state := 1 } := by unfold wakeP; simp only [hg]
            obtain ⟨k4, e4, v4, st4⟩ := P3.v.put (i := i) (by rw [eg]; simpa using hiw) (j := 6) (xs := [.int .i64 (-1)]) (r := { wi.runs[i] with state := 1, due := -1 }) (r' := { cs2[i] with state := 1, due := -1 }) (by simp [splice, List.getElem?_eq_getElem hi']) (by simp) (fun _ q => by simp [eg, List.getElem?_eq_getElem hi'] at q; exact ⟨q.id, q.at_, q.slots, q.full, q.mail, q.state, rfl, q.links, q.watched, q.trap, q.why, q.turns⟩) (by simp [List.getElem?_eq_getElem hi']) (by simp [List.getElem?_eq_getElem hi']) (by simp [List.getElem?_eq_getElem hi']) (by simp [List.getElem?_eq_getElem hi'])
            simp [at_blk hgp2, hi, ixA_nat hS1, hi', hS1.at, s2', d2', e3, e4, wrap_succ (hS1.lt hi')]
            have P4 := P3.move v4 st4
            have S4 := st3.trans st4.toP
            have x4 : Ext h k4 := S4.ext (fun id ho => P.v.own.owned_ge id ho) P.ge x (Nat.le_refl _)
            have ew : wakeP wi i = { wi with runs := wi.runs.set i { wi.runs[i] with state := 1 }, queue := wi.queue ++ [wi.runs[i].id] } := by unfold wakeP; simp only [hg]
            have ei : itickTo w0 (i + 1) = { wi with runs := wi.runs.set i { wi.runs[i] with state := 1, due := -1 }, queue := wi.queue ++ [wi.runs[i].id] } := by
              rw [eAt]; unfold itickAt; simp only [hg, s2, d2, and_self, ↓reduceIte]
            rw [ew] at P4
            simp only [List.set_set] at P4
            rw [ei]
            exact ⟨by unfold LexOk; kernel_rfl, ⟨_, _, P4⟩, x4⟩
          · have s2' : cs2[i].state = 2 := by rw [hst, s2]
            have d2' : ¬ cs2[i].due = c2.now := by rw [hdu, hnw2]; exact d2
            simp [at_blk hgp2, hi, ixA_nat hS1, hi', hS1.at, s2', d2', wrap_succ (hS1.lt hi')]
            refine ⟨by unfold LexOk; kernel_rfl, ⟨c2, cs2, ?_⟩, x⟩
            rw [eAt]
            unfold itickAt
            simp only [hg, d2, and_false, ↓reduceIte]
            exact P
        · have s2' : ¬ cs2[i].state = 2 := by rw [hst]; exact s2
          simp [at_blk hgp2, hi, ixA_nat hS1, hi', hS1.at, s2', wrap_succ (hS1.lt hi')]
          refine ⟨by unfold LexOk; kernel_rfl, ⟨c2, cs2, ?_⟩, x⟩
          rw [eAt]
          unfold itickAt
          simp only [hg, s2, false_and, ↓reduceIte]
          exact P
      · rintro ⟨k, c2, cs2⟩ ⟨P, x⟩
        simp only at P x ⊢
        have hgp2 := P.at_
        rw [Wp_body]
        simp [at_blk hgp2, zeroW]
        exact ⟨k, _, _, rfl, x, P.v⟩
    · have b' : ¬ c1.now < 250 := by rw [hnw]; exact b
      have b2 : (250 : Int) ≤ c1.now := by omega
      unfold itickP
      rw [if_neg b]
      obtain ⟨w0, hw0⟩ : ∃ x, x = w := ⟨_, rfl⟩
      obtain ⟨c0, hc0⟩ : ∃ x, x = c1 := ⟨_, rfl⟩
      obtain ⟨K0, hK0⟩ : ∃ x, x = K := ⟨_, rfl⟩
      have P0 : WorldP h.length K0 p w0 c0 cs1 := by subst hw0; subst hc0; subst hK0; exact P1
      have x0 : Ext h K0 := by rw [hK0]; exact xp
      have hr0 : w.runs.length = w0.runs.length := by rw [hw0]
      have hq0 : w0.queue.length + w0.runs.length ≤ lenMost := by rw [hw0]; have := a.1.queue.len; have := a.1.many; unfold lenMost; omega
      have hS0 := P1.v.runs
      simp [b', b2, hS0.lenA, hlen]
      rw [hr0]
      rw [← hw0, ← hK0]
      refine count_wpG (σ := H × WorldC × List RunC) w0.runs.length (fun i g => ([.c (.ptr p 0 0), .c (ci w0.runs.length), .c (ci i)], [zeroW], [], g.1))
        (fun i g => WorldP h.length g.1 p (itickTo w0 i) g.2.1 g.2.2 ∧ Ext h g.1) (K0, c0, cs1) ?_ ⟨P0, x0⟩ ?_ ?_
      · simp [zeroW]
      · rintro i ⟨k, c2, cs2⟩ hi ⟨P, x⟩
        simp only at P x ⊢
        obtain ⟨tl, tq, tn⟩ := itickTo_len w0 i
        have hS1 := P.v.runs
        have hl1 := P.v.len
        have hi' : i < cs2.length := by omega
        have hiw : i < (itickTo w0 i).runs.length := by omega
        have hr := P.v.each i hiw
        have eAt : itickTo w0 (i + 1) = itickAt (itickTo w0 i) i := rfl
        generalize hwi : itickTo w0 i = wi at *
        have hg : wi.runs[i]? = some wi.runs[i] := List.getElem?_eq_getElem hiw
        have hst := hr.state
        have hdu := hr.due
        have hnw2 := P.v.now
        have hgp2 := P.at_
        rw [Wp_body]
        by_cases s2 : wi.runs[i].state = 2
        · by_cases d2 : wi.runs[i].due = wi.now
          · have s2' : cs2[i].state = 2 := by rw [hst, s2]
            have d2' : cs2[i].due = c2.now := by rw [hdu, d2, hnw2]
            obtain ⟨_, e3, k3, q3, rfl, P3, st3⟩ := c_wake P hiw (by omega)
            have eg : (wakeP wi i).runs = wi.runs.set i { wi.runs[i] with state := 1 } := by unfold wakeP; simp only [hg]
            obtain ⟨k4, e4, v4, st4⟩ := P3.v.put (i := i) (by rw [eg]; simpa using hiw) (j := 6) (xs := [.int .i64 (-1)]) (r := { wi.runs[i] with state := 1, due := -1 }) (r' := { cs2[i] with state := 1, due := -1 }) (by simp [splice, List.getElem?_eq_getElem hi']) (by simp) (fun _ q => by simp [eg, List.getElem?_eq_getElem hi'] at q; exact ⟨q.id, q.at_, q.slots, q.full, q.mail, q.state, rfl, q.links, q.watched, q.trap, q.why, q.turns⟩) (by simp [List.getElem?_eq_getElem hi']) (by simp [List.getElem?_eq_getElem hi']) (by simp [List.getElem?_eq_getElem hi']) (by simp [List.getElem?_eq_getElem hi'])
            simp [at_blk hgp2, hi, ixA_nat hS1, hi', hS1.at, s2', d2', e3, e4, wrap_succ (hS1.lt hi')]
            have P4 := P3.move v4 st4
            have S4 := st3.trans st4.toP
            have x4 : Ext h k4 := S4.ext (fun id ho => P.v.own.owned_ge id ho) P.ge x (Nat.le_refl _)
            have ew : wakeP wi i = { wi with runs := wi.runs.set i { wi.runs[i] with state := 1 }, queue := wi.queue ++ [wi.runs[i].id] } := by unfold wakeP; simp only [hg]
            have ei : itickTo w0 (i + 1) = { wi with runs := wi.runs.set i { wi.runs[i] with state := 1, due := -1 }, queue := wi.queue ++ [wi.runs[i].id] } := by
              rw [eAt]; unfold itickAt; simp only [hg, s2, d2, and_self, ↓reduceIte]
            rw [ew] at P4
            simp only [List.set_set] at P4
            rw [ei]
            exact ⟨by unfold LexOk; kernel_rfl, ⟨_, _, P4⟩, x4⟩
          · have s2' : cs2[i].state = 2 := by rw [hst, s2]
            have d2' : ¬ cs2[i].due = c2.now := by rw [hdu, hnw2]; exact d2
            simp [at_blk hgp2, hi, ixA_nat hS1, hi', hS1.at, s2', d2', wrap_succ (hS1.lt hi')]
            refine ⟨by unfold LexOk; kernel_rfl, ⟨c2, cs2, ?_⟩, x⟩
            rw [eAt]
            unfold itickAt
            simp only [hg, d2, and_false, ↓reduceIte]
            exact P
        · have s2' : ¬ cs2[i].state = 2 := by rw [hst]; exact s2
          simp [at_blk hgp2, hi, ixA_nat hS1, hi', hS1.at, s2', wrap_succ (hS1.lt hi')]
          refine ⟨by unfold LexOk; kernel_rfl, ⟨c2, cs2, ?_⟩, x⟩
          rw [eAt]
          unfold itickAt
          simp only [hg, s2, false_and, ↓reduceIte]
          exact P
      · rintro ⟨k, c2, cs2⟩ ⟨P, x⟩
        simp only at P x ⊢
        have hgp2 := P.at_
        rw [Wp_body]
        simp [at_blk hgp2, zeroW]
        exact ⟨k, _, _, rfl, x, P.v⟩
  · have a' : tt (Room w) = false := by simpa using a
    rw [a'] at e ⊢
    simp [Tryz.f21, e]
    exact ⟨h, _, _, rfl, Ext.refl _, emptyV h⟩
end Go.Proofs.YtkcfminmojolhaaGreat

/-
  A WORLD THAT OWNS ITS BLOCKS, part by part.
-/
set_option maxRecDepth 8000
namespace Go.Proofs.YtkcfminmojolhaaGreat
open Go.AM
variable {h h' : H} {lo : Nat} {w : PWorld} {c : WorldC} {st cs : List RunC}
theorem part_key {k : Key} {i : Nat} {f : Fin 4} (hk : keyOf k = some (i, f)) : part c cs k = match cs[i]? with | some r => rpart r f | none => .nils := by
  cases k with
  | code => simp [keyOf] at hk
  | runs => simp [keyOf] at hk
  | queue => simp [keyOf] at hk
  | slots a => simp only [keyOf, Option.some.injEq, Prod.mk.injEq] at hk; obtain ⟨rfl, rfl⟩ := hk; simp only [part, fld]; cases cs[a]? <;> rfl
  | mail a => simp only [keyOf, Option.some.injEq, Prod.mk.injEq] at hk; obtain ⟨rfl, rfl⟩ := hk; simp only [part, fld]; cases cs[a]? <;> rfl
  | links a => simp only [keyOf, Option.some.injEq, Prod.mk.injEq] at hk; obtain ⟨rfl, rfl⟩ := hk; simp only [part, fld]; cases cs[a]? <;> rfl
  | watched a => simp only [keyOf, Option.some.injEq, Prod.mk.injEq] at hk; obtain ⟨rfl, rfl⟩ := hk; simp only [part, fld]; cases cs[a]? <;> rfl
theorem rpart_ids {c : RunC} {f : Fin 4} {id : Nat} (h : id ∈ (rpart c f).ids) : id ∈ RunC.ids c := by
  match f, h with
  | 0, h => exact List.mem_append_left _ h
  | 1, h => exact List.mem_append_right _ (List.mem_append_left _ h)
  | 2, h => exact List.mem_append_right _ (List.mem_append_right _ (List.mem_append_left _ h))
  | 3, h => exact List.mem_append_right _ (List.mem_append_right _ (List.mem_append_right _ h))
theorem rpart_one {c : RunC} (hn : (RunC.ids c).Nodup) {f g : Fin 4} {id : Nat} (hf : id ∈ (rpart c f).ids) (hg : id ∈ (rpart c g).ids) : f = g := by
  unfold RunC.ids at hn
  simp only [List.nodup_append, List.mem_append] at hn
  obtain ⟨-, ⟨-, ⟨-, -, h3⟩, h2⟩, h1⟩ := hn
  match f, g, hf, hg with
  | 0, 0, _, _ => rfl
  | 1, 1, _, _ => rfl
  | 2, 2, _, _ => rfl
  | 3, 3, _, _ => rfl
  | 0, 1, hf, hg => exact absurd rfl (h1 id hf id (.inl hg))
  | 0, 2, hf, hg => exact absurd rfl (h1 id hf id (.inr (.inl hg)))
  | 0, 3, hf, hg => exact absurd rfl (h1 id hf id (.inr (.inr hg)))
  | 1, 2, hf, hg => exact absurd rfl (h2 id hf id (.inl hg))
  | 1, 3, hf, hg => exact absurd rfl (h2 id hf id (.inr hg))
  | 2, 3, hf, hg => exact absurd rfl (h3 id hf id hg)
  | 1, 0, hf, hg => exact absurd rfl (h1 id hg id (.inl hf))
  | 2, 0, hf, hg => exact absurd rfl (h1 id hg id (.inr (.inl hf)))
  | 3, 0, hf, hg => exact absurd rfl (h1 id hg id (.inr (.inr hf)))
  | 2, 1, hf, hg => exact absurd rfl (h2 id hg id (.inl hf))
  | 3, 1, hf, hg => exact absurd rfl (h2 id hg id (.inr hf))
  | 3, 2, hf, hg => exact absurd rfl (h3 id hg id hf)
theorem key_none {k : Key} (hk : keyOf k = none) : k = .code ∨ k = .runs ∨ k = .queue := by cases k <;> simp [keyOf] at hk ⊢
theorem key_inj {k k' : Key} {x : Nat × Fin 4} (h : keyOf k = some x) (h' : keyOf k' = some x) : k = k' := by
  cases k <;> simp [keyOf] at h <;> subst h <;> cases k' <;> simp [keyOf] at h' ⊢ <;> omega
theorem runs_one : ∀ {cs : List RunC}, (runsIds cs).Nodup → ∀ {i j id : Nat} {a b : RunC}, cs[i]? = some a → cs[j]? = some b → id ∈ RunC.ids a → id ∈ RunC.ids b → i = j ∧ (RunC.ids a).Nodup
  | [], _, i, j, id, a, b, ha, _, _, _ => by simp at ha
  | r :: cs, hn, i, j, id, a, b, ha, hb, h1, h2 => by
    simp only [runsIds, List.flatMap_cons, List.nodup_append] at hn
    obtain ⟨n1, n2, n3⟩ := hn
    have mem : ∀ {q : Nat} {x : RunC}, cs[q]? = some x → id ∈ RunC.ids x → id ∈ runsIds cs := fun hq hx => mem_runsIds.2 ⟨_, List.mem_of_getElem? hq, hx⟩
    match i, j, ha, hb with
    | 0, 0, ha, hb => simp at ha; subst ha; exact ⟨rfl, n1⟩
    | 0, j + 1, ha, hb => simp at ha hb; subst ha; exact absurd rfl (n3 id h1 id (mem hb h2))
    | i + 1, 0, ha, hb => simp at ha hb; subst hb; exact absurd rfl (n3 id h2 id (mem ha h1))
    | i + 1, j + 1, ha, hb =>
      simp at ha hb
      obtain ⟨e, n⟩ := runs_one n2 ha hb h1 h2
      exact ⟨by rw [e], n⟩
theorem WorldO.toV (hO : WorldO lo h w c cs) (hlo : lo ≤ h.length) : WorldV lo h w c cs cs := by
  have hr := hO.rd
  refine ⟨hr.code, hr.runs.sl, hr.runs.len, hr.runs.len, hr.runs.each, hr.queue, hr.now, hr.sent, hr.taken, hr.lost, ?_, hlo⟩
  have hnd := hO.own.nd
  unfold WorldC.ids at hnd
  simp only [List.nodup_append, List.mem_append] at hnd
  obtain ⟨⟨-, ⟨-, nR, dR⟩, dC⟩, -, dQ⟩ := hnd
  have mem : ∀ k, ∀ id ∈ (part c cs k).ids, id ∈ WorldC.ids c cs ∧ (keyOf k ≠ none → id ∈ runsIds cs) := fun k id hid => by
    cases hk : keyOf k with
    | none =>
      refine ⟨?_, fun e => absurd rfl e⟩
      rcases key_none hk with rfl | rfl | rfl
      · exact List.mem_append_left _ (List.mem_append_left _ hid)
      · exact List.mem_append_left _ (List.mem_append_right _ (List.mem_append_left _ hid))
      · exact List.mem_append_right _ hid
    | some x =>
      obtain ⟨i, f⟩ := x
      rw [part_key hk] at hid
      have : id ∈ runsIds cs := by
        split at hid
        · rename_i r hr
          exact mem_runsIds.2 ⟨r, List.mem_of_getElem? hr, rpart_ids hid⟩
        · simp [Cell.ids] at hid
      exact ⟨List.mem_append_left _ (List.mem_append_right _ (List.mem_append_right _ this)), fun _ => this⟩
  refine ⟨fun k id hid => hO.own.ge id (mem k id hid).1, fun k id hid => hO.own.wr id (mem k id hid).1, fun k k' id h1 h2 => ?_, fun k => ?_⟩
  · cases hk : keyOf k with
    | none =>
      cases hk' : keyOf k' with
      | none =>
        rcases key_none hk with rfl | rfl | rfl <;> rcases key_none hk' with rfl | rfl | rfl <;> first | rfl | skip
        · exact absurd rfl (dC id h1 id (.inl h2))
        · exact absurd rfl (dQ id (.inl h1) id h2)
        · exact absurd rfl (dC id h2 id (.inl h1))
        · exact absurd rfl (dQ id (.inr (.inl h1)) id h2)
        · exact absurd rfl (dQ id (.inl h2) id h1)
        · exact absurd rfl (dQ id (.inr (.inl h2)) id h1)
      | some x =>
        have m := (mem k' id h2).2 (by rw [hk']; simp)
        rcases key_none hk with rfl | rfl | rfl
        · exact absurd rfl (dC id h1 id (.inr m))
        · exact absurd rfl (dR id h1 id m)
        · exact absurd rfl (dQ id (.inr (.inr m)) id h1)
    | some x =>
      have m := (mem k id h1).2 (by rw [hk]; simp)
      cases hk' : keyOf k' with
      | none =>
        rcases key_none hk' with rfl | rfl | rfl
        · exact absurd rfl (dC id h2 id (.inr m))
        · exact absurd rfl (dR id h2 id m)
        · exact absurd rfl (dQ id (.inr (.inr m)) id h2)
      | some y =>
        obtain ⟨i, f⟩ := x
        obtain ⟨j, g⟩ := y
        rw [part_key hk] at h1
        rw [part_key hk'] at h2
        cases ha : cs[i]? with
        | none => rw [ha] at h1; simp [Cell.ids] at h1
        | some a =>
          cases hb : cs[j]? with
          | none => rw [hb] at h2; simp [Cell.ids] at h2
          | some b =>
            rw [ha] at h1; rw [hb] at h2
            obtain ⟨rfl, nd⟩ := runs_one nR ha hb (rpart_ids h1) (rpart_ids h2)
            rw [ha] at hb; cases hb
            have := rpart_one nd h1 h2
            subst this
            exact key_inj hk hk'
  · cases hk : keyOf k with
    | none =>
      rcases key_none hk with rfl | rfl | rfl
      · exact hO.unw.1
      · exact hO.unw.2.1
      · exact hO.unw.2.2
    | some x =>
      obtain ⟨i, f⟩ := x
      rw [part_key hk]
      cases ha : cs[i]? with
      | none => exact Un.nils
      | some a =>
        obtain ⟨u1, u2, u3, u4⟩ := hO.unr a (List.mem_of_getElem? ha)
        match f with
        | 0 => exact u1
        | 1 => exact u2
        | 2 => exact u3
        | 3 => exact u4
end Go.Proofs.YtkcfminmojolhaaGreat

/-
  THE LAW FnExactTurnTick, in the abstract machine: it answers true.
-/
set_option maxRecDepth 8000
namespace Go.Proofs.YtkcfminmojolhaaGreat
open Go.AM
variable {h : H}
theorem WorldSmall.bd {w : PWorld} {n : Int} (hs : WorldSmall n w) (hn : n ≤ 1048576) : Bd w := by
  refine ⟨by have := hs.code; omega, by have := hs.runs; omega, by have := hs.queue; omega, fun r hr => ?_⟩
  obtain ⟨a, b, c, d⟩ := hs.each r hr
  exact ⟨by omega, by omega, by omega, by omega⟩
theorem tickAt_alike (w : PWorld) (i : Nat) : Alike (tickAt w i).runs w.runs ∧ (tickAt w i).code = w.code := by
  unfold tickAt
  cases hg : w.runs[i]? with
  | none => exact ⟨Alike.refl _, rfl⟩
  | some r =>
    obtain ⟨hi, rfl⟩ := List.getElem?_eq_some_iff.1 hg
    simp only
    split
    · exact ⟨(Alike.refl _).set hi ⟨rfl, rfl, rfl, rfl⟩, rfl⟩
    · exact ⟨Alike.refl _, rfl⟩
theorem Alike.trans {a b c : List PRun} (h : Alike a b) (g : Alike b c) : Alike a c := by
  refine ⟨h.1.trans g.1, fun i ha hc => ?_⟩
  have hb : i < b.length := by have := h.1; omega
  obtain ⟨x, y, z, t⟩ := h.2 i ha hb
  obtain ⟨x2, y2, z2, t2⟩ := g.2 i hb hc
  exact ⟨x.trans x2, y.trans y2, z.trans z2, t.trans t2⟩
theorem tickTo_alike (w : PWorld) : ∀ i, Alike (tickTo w i).runs w.runs ∧ (tickTo w i).code = w.code
  | 0 => ⟨Alike.refl _, rfl⟩
  | i + 1 => by
    obtain ⟨a, b⟩ := tickTo_alike w i
    obtain ⟨a2, b2⟩ := tickAt_alike (tickTo w i) i
    exact ⟨a2.trans a, b2.trans b⟩
theorem turnTick_bd {w : PWorld} (hs : WorldSmall 1048576 w) : Bd (turnTickP w) := by
  have hb := hs.bd (Int.le_refl _)
  have h3 := hs.queue
  have h4 := hs.runs
  unfold turnTickP
  split
  · unfold tickP
    split
    · exact hb
    · obtain ⟨a, b⟩ := tickTo_alike { w with now := w.now + 1 } w.runs.length
      obtain ⟨c1, c2, _⟩ := tickTo_len { w with now := w.now + 1 } w.runs.length
      exact ⟨by rw [b]; exact hb.code, by rw [c1]; exact hb.runs, by simp only at c2; omega, a.bd hb.each⟩
  · exact ⟨by simp [emptyW], by simp [emptyW], by simp [emptyW], by simp [emptyW]⟩
theorem StepV.low {p q : Key → Cell} {h1 h2 : H} (s : StepV h1 p h2 q) {lo : Nat} (o : OwnK lo h1 p) {w : PWorld} {c : WorldC} {cs : List RunC} {lo' : Nat} {hh : H} (v : WorldV lo' h1 w c cs cs) (v0 : WorldV lo' hh w c cs cs) (hl : hh.length ≤ lo) : WorldV lo' h2 w c cs cs :=
  v.chg s.chg fun id ⟨k, hid⟩ ho => by have := v0.own.lt id hid; have := o.owned_ge id ho; omega
set_option maxHeartbeats 2000000 in
set_option maxRecDepth 16000 in
theorem c_law_TurnTick {w : PWorld} {c : WorldC} {cs : List RunC} (hw : WorldA h w c cs) : Dz.den 4 [.g (encW c)] h = some (.c (.bool true), h) := by
  refine den_plain rfl Tryz.func4 rfl rfl ?_
  obtain ⟨_, e1, z, rfl, hz⟩ := c_szWorld hw 1048576 (by omega) (by omega)
  simp only [encW] at e1
  by_cases z0 : z < 0
  · simp [Tryz.f4, e1, z0]
  have hs := (hz (by omega)).2
  obtain ⟨_, e2, k1, c1, cs1, rfl, x1, O1⟩ := c_toWorld hw hs
  have v1 := O1.toV x1.1
  obtain ⟨_, e3, k2, c2, cs2, rfl, x2, v2⟩ := c_TurnTick v1
  have hw2 := hw.ext (x1.trans x2)
  obtain ⟨_, e4, k3, c3, cs3, rfl, x3, O3⟩ := c_toWorld hw2 hs
  have v3 := O3.toV x3.1
  obtain ⟨_, e5, k4, c4, cs4, rfl, x4, v4⟩ := c_ITurnTick v3
  have v24 := v2.ext (x3.trans x4)
  have e6 := c_eqWorld v4.rd v24.rd
  have hw4 := hw2.ext (x3.trans x4)
  obtain ⟨_, e7, k5, c5, cs5, rfl, x5, O5⟩ := c_toWorld hw4 hs
  have v35 := v3.ext (x4.trans x5)
  have e8 := c_eqWorld v35.rd O5.rd
  have v45 := v4.ext x5
  have v25 := v24.ext x5
  obtain ⟨_, e9, k6, w6, cs6, rfl, v6, s6, H6, z6, b6⟩ := c_markWorld v35 (hs.bd (Int.le_refl _))
  have v46 : WorldV k3.length k6 _ c4 cs4 cs4 := v45.chg s6.chg fun id ⟨k, hid⟩ ⟨k', ho⟩ => by have := v45.own.ge k id hid; have := v3.own.lt id ho; omega
  have v26 : WorldV k1.length k6 _ c2 cs2 cs2 := v25.chg s6.chg fun id ⟨k, hid⟩ ⟨k', ho⟩ => by have := v2.own.lt id hid; have := v35.own.ge k' id ho; omega
  have e10 := c_eqWorld v46.rd v26.rd
  obtain ⟨_, e11, k7, w7, cs7, rfl, v7, s7, H7, z7, b7⟩ := c_markWorld v46 (turnTick_bd hs)
  have v27 : WorldV k1.length k7 _ c2 cs2 cs2 := v26.chg s7.chg fun id ⟨k, hid⟩ ⟨k', ho⟩ => by have := v2.own.lt id hid; have := v46.own.ge k' id ho; have := x3.1; omega
  have e12 := c_heldWorld v7.rd b7 H7
  have xa : Ext h k5 := (x1.trans x2).trans ((x3.trans x4).trans x5)
  have l2 := (x1.trans x2).1
  have x6 : Ext h k6 := s6.ext (fun id ho => v35.own.owned_ge id ho) xa l2
  have x7 : Ext h k7 := s7.ext (fun id ho => v46.own.owned_ge id ho) x6 (Nat.le_trans l2 x3.1)
  have hw7 := hw.ext x7
  obtain ⟨_, e13, k8, c8, cs8, rfl, x8, O8⟩ := c_toWorld hw7 hs
  have v8 := O8.toV x8.1
  obtain ⟨_, e14, k9, c9, cs9, rfl, x9, v9⟩ := c_ITurnTick v8
  have x89 := x8.trans x9
  have e15 := c_eqWorld v9.rd (v27.ext x89).rd
  have e16 := c_heldWorld (v7.ext x89).rd b7 H7
  rw [z7] at e12 e16
  obtain ⟨r1, r2⟩ := sizeW_range (turnTick_bd hs)
  obtain ⟨r3, r4⟩ := sizeW_range (hs.bd (Int.le_refl _))
  have m1 : ¬ (1 + sizeW w < 0) := by omega
  have m2 : ¬ (1 + sizeW (turnTickP w) < 0) := by omega
  simp only [encW] at e2 e3 e4 e5 e6 e7 e8 e9 e10 e11 e12 e13 e14 e15 e16
  simp [Tryz.f4, e1, z0, e2, e3, e4, e5, e6, e7, e8, e9, e10, e11, e12, e13, e14, e15, e16, m1, m2]
  exact ⟨by kernel_rfl, (x7.trans x89).2⟩
end Go.Proofs.YtkcfminmojolhaaGreat

/-
  WHAT COMES IN, OPENED: whole numbers, values, steps, runs, and a world.
-/
set_option maxRecDepth 8000
namespace Go.Proofs.YtkcfminmojolhaaGreat
open Go.AM
section
variable {H0 : Type} {enc : TypeId × Value → H0} {W : World} {held : Bool}
/-- A world's data of the abstract machine: nothing there. -/
theorem Opn.nil (W : World) : Opn W [] (fun _ => default) :=
  ⟨⟨Nat.zero_le _, fun id b hg => by simp [H.get] at hg, fun id id' b b' _ hg => by simp [H.get] at hg⟩, fun id b hg => by simp [H.get] at hg⟩
/-- A part of a struct. -/
theorem part_of {P : Program} {t : TypeId} {fs : Array Field} {fuel : Nat} {cs : List Value} {x : DataW H0 × List MemPlace} (ht : P.underlying t = some (.struct fs)) (hd : DataW.trod enc P W 0 (fun _ => true) held fuel t cs = some x) :
    cs.length = P.cellsOf t ∧ ∃ n, ∀ (i e o : Nat), fs[i]?.map (fun f => (f.type, f.offset)) = some (e, o) → ∃ y, DataW.trod enc P W 0 (fun _ => true) held n e ((cs.drop o).take (P.cellsOf e)) = some y ∧ (Light P t x.1 → Light P e y.1) := by
  obtain ⟨xs, n, _, hx, hl, hxl, hp⟩ := DataW.trod_struct ht hd
  refine ⟨hl, n, fun i e o hf0 => ?_⟩
  obtain ⟨f, hf, hfe⟩ := Option.map_eq_some_iff.1 hf0
  obtain ⟨rfl, rfl⟩ := Prod.mk.inj hfe
  have hi : i < xs.length := by rw [hxl]; exact (Array.getElem?_eq_some_iff.1 hf).1
  refine ⟨xs[i], by rw [hp i f hf, List.getElem?_eq_getElem hi], fun hL => ?_⟩
  rw [hx] at hL
  exact hL.part ht hf (by rw [List.getElem?_map, List.getElem?_eq_getElem hi]; rfl)
theorem cells_int : Tryz.prog.cellsOf 3 = 1 := by kernel_rfl
theorem cells_bool : Tryz.prog.cellsOf 4 = 1 := by kernel_rfl
theorem cells_val : Tryz.prog.cellsOf 39 = 2 := by kernel_rfl
theorem cells_op : Tryz.prog.cellsOf 94 = 6 := by kernel_rfl
theorem cells_run : Tryz.prog.cellsOf 116 = 13 := by kernel_rfl
theorem cells_world : Tryz.prog.cellsOf 26 = 7 := by kernel_rfl
theorem cells_ints : Tryz.prog.cellsOf 24 = 1 := by kernel_rfl
theorem cells_vals : Tryz.prog.cellsOf 114 = 1 := by kernel_rfl
theorem cells_ops : Tryz.prog.cellsOf 22 = 1 := by kernel_rfl
theorem cells_runs : Tryz.prog.cellsOf 23 = 1 := by kernel_rfl
theorem bytes_int : 0 < Tryz.prog.bytesOf 3 := of_decide_eq_true (by kernel_rfl)
theorem bytes_val : 0 < Tryz.prog.bytesOf 39 := of_decide_eq_true (by kernel_rfl)
theorem bytes_op : 0 < Tryz.prog.bytesOf 94 := of_decide_eq_true (by kernel_rfl)
theorem bytes_run : 0 < Tryz.prog.bytesOf 116 := of_decide_eq_true (by kernel_rfl)
theorem uncons {α : Type} {l : List α} {n : Nat} (h : l.length = n + 1) : ∃ a t, l = a :: t ∧ t.length = n := by
  cases l with
  | nil => simp at h
  | cons a t => exact ⟨a, t, rfl, by simpa using h⟩
theorem take_one {l : List Value} {k : Nat} (h : k < l.length) : (l.drop k).take 1 = [l[k]] := by
  rw [List.drop_eq_getElem_cons h]; rfl
theorem er_int : ElemRead enc Tryz.prog W (fun _ => true) held 3 encI := fun fuel cs x hd => by
  obtain ⟨n, rfl, _, _⟩ := DataW.trod_int Tryz.underlying3 hd
  exact ⟨n, fun ι => rfl⟩
theorem er_val : ElemRead enc Tryz.prog W (fun _ => true) held 39 encV := fun fuel cs x hd => by
  obtain ⟨hl, n, hp⟩ := part_of Tryz.underlying39 hd
  rw [cells_val] at hl
  obtain ⟨a, t0, rfl, hl0⟩ := uncons hl
  obtain ⟨b, t1, rfl, hl1⟩ := uncons hl0
  obtain rfl := List.length_eq_zero_iff.1 hl1
  obtain ⟨y0, h0, _⟩ := hp 0 3 0 rfl
  obtain ⟨y1, h1, _⟩ := hp 1 3 1 rfl
  simp only [cells_int] at h0 h1
  obtain ⟨n0, e0, _, _⟩ := DataW.trod_int Tryz.underlying3 h0
  obtain ⟨n1, e1, _, _⟩ := DataW.trod_int Tryz.underlying3 h1
  simp at e0 e1
  subst e0; subst e1
  exact ⟨⟨n0, n1⟩, fun ι => rfl⟩
theorem er_op : ElemRead enc Tryz.prog W (fun _ => true) held 94 encO := fun fuel cs x hd => by
  obtain ⟨hl, n, hp⟩ := part_of Tryz.underlying94 hd
  rw [cells_op] at hl
  obtain ⟨a, t0, rfl, hl0⟩ := uncons hl
  obtain ⟨b, t1, rfl, hl1⟩ := uncons hl0
  obtain ⟨c, t2, rfl, hl2⟩ := uncons hl1
  obtain ⟨d, t3, rfl, hl3⟩ := uncons hl2
  obtain ⟨e, t4, rfl, hl4⟩ := uncons hl3
  obtain ⟨f, t5, rfl, hl5⟩ := uncons hl4
  obtain rfl := List.length_eq_zero_iff.1 hl5
  obtain ⟨y0, h0, _⟩ := hp 0 3 0 rfl
  obtain ⟨y1, h1, _⟩ := hp 1 3 1 rfl
  obtain ⟨y2, h2, _⟩ := hp 2 3 2 rfl
  obtain ⟨y3, h3, _⟩ := hp 3 3 3 rfl
  obtain ⟨y4, h4, _⟩ := hp 4 39 4 rfl
  simp only [cells_int, cells_val] at h0 h1 h2 h3 h4
  obtain ⟨n0, e0, _, _⟩ := DataW.trod_int Tryz.underlying3 h0
  obtain ⟨n1, e1, _, _⟩ := DataW.trod_int Tryz.underlying3 h1
  obtain ⟨n2, e2, _, _⟩ := DataW.trod_int Tryz.underlying3 h2
  obtain ⟨n3, e3, _, _⟩ := DataW.trod_int Tryz.underlying3 h3
  obtain ⟨v, e4⟩ := er_val _ _ _ h4
  have q4 := e4 (fun _ => default)
  simp at e0 e1 e2 e3 q4
  subst e0; subst e1; subst e2; subst e3
  obtain ⟨rfl, rfl⟩ := q4
  exact ⟨⟨n0, n1, n2, n3, v⟩, fun ι => rfl⟩
variable {h : H} {ι : Plan} {fuel : Nat} {v : Value} {x : DataW H0 × List MemPlace}
theorem open_I (ho : Opn W h ι) (hd : DataW.trod enc Tryz.prog W 0 (fun _ => true) held fuel 24 [v] = some x) (hL : Light Tryz.prog 24 x.1) :
    ∃ (c : Cell) (xs : List Int) (h' : H) (ι' : Plan), Gr h ι h' ι' ∧ Opn W h' ι' ∧ SlA h' c 1 encI xs ∧ v = c.conc ι' ∧ c.below h'.length :=
  open_flat Tryz.underlying24 cells_int (by omega) (fun _ => rfl) (fun a c hc => by simp [encI] at hc; subst hc; rfl) er_int ho hd hL bytes_int
theorem open_V (ho : Opn W h ι) (hd : DataW.trod enc Tryz.prog W 0 (fun _ => true) held fuel 114 [v] = some x) (hL : Light Tryz.prog 114 x.1) :
    ∃ (c : Cell) (xs : List PVal) (h' : H) (ι' : Plan), Gr h ι h' ι' ∧ Opn W h' ι' ∧ SlA h' c 2 encV xs ∧ v = c.conc ι' ∧ c.below h'.length :=
  open_flat Tryz.underlying114 cells_val (by omega) (fun _ => rfl) (fun a c hc => by simp at hc; rcases hc with rfl | rfl <;> rfl) er_val ho hd hL bytes_val
theorem open_O (ho : Opn W h ι) (hd : DataW.trod enc Tryz.prog W 0 (fun _ => true) held fuel 22 [v] = some x) (hL : Light Tryz.prog 22 x.1) :
    ∃ (c : Cell) (xs : List POp) (h' : H) (ι' : Plan), Gr h ι h' ι' ∧ Opn W h' ι' ∧ SlA h' c 6 encO xs ∧ v = c.conc ι' ∧ c.below h'.length :=
  open_flat Tryz.underlying22 cells_op (by omega) (fun _ => rfl) (fun a c hc => by simp at hc; rcases hc with rfl | rfl | rfl | rfl | rfl | rfl <;> rfl) er_op ho hd hL bytes_op
theorem flat_conc {c : Cell} (h : c.flat = true) (ι ι' : Plan) : c.conc ι = c.conc ι' := by cases c <;> first | rfl | cases h
theorem open_run (h : H) (ι : Plan) (ho : Opn W h ι) (fuel : Nat) (cs : List Value) (x : DataW H0 × List MemPlace) (hd : DataW.trod enc Tryz.prog W 0 (fun _ => true) held fuel 116 cs = some x) (hL : Light Tryz.prog 116 x.1) (hl : cs.length = 13) :
    ∃ (r : PRun) (c : RunC) (h' : H) (ι' : Plan), Gr h ι h' ι' ∧ Opn W h' ι' ∧ RunA h' r c ∧ cs = (encR c).map (Cell.conc ι') ∧ ∀ y ∈ encR c, y.below h'.length := by
  obtain ⟨_, n, hp⟩ := part_of Tryz.underlying116 hd
  obtain ⟨a0, t0, rfl, hl0⟩ := uncons hl
  obtain ⟨a1, t1, rfl, hl1⟩ := uncons hl0
  obtain ⟨a2, t2, rfl, hl2⟩ := uncons hl1
  obtain ⟨a3, t3, rfl, hl3⟩ := uncons hl2
  obtain ⟨a4, t4, rfl, hl4⟩ := uncons hl3
  obtain ⟨a5, t5, rfl, hl5⟩ := uncons hl4
  obtain ⟨a6, t6, rfl, hl6⟩ := uncons hl5
  obtain ⟨a7, t7, rfl, hl7⟩ := uncons hl6
  obtain ⟨a8, t8, rfl, hl8⟩ := uncons hl7
  obtain ⟨a9, t9, rfl, hl9⟩ := uncons hl8
  obtain ⟨b0, t10, rfl, hl10⟩ := uncons hl9
  obtain ⟨b1, t11, rfl, hl11⟩ := uncons hl10
  obtain ⟨b2, t12, rfl, hl12⟩ := uncons hl11
  obtain rfl := List.length_eq_zero_iff.1 hl12
  obtain ⟨y0, h0, _⟩ := hp 0 3 0 rfl
  obtain ⟨y1, h1, _⟩ := hp 1 3 1 rfl
  obtain ⟨y2, h2, l2⟩ := hp 2 114 2 rfl
  obtain ⟨y3, h3, _⟩ := hp 3 3 3 rfl
  obtain ⟨y4, h4, l4⟩ := hp 4 114 4 rfl
  obtain ⟨y5, h5, _⟩ := hp 5 3 5 rfl
  obtain ⟨y6, h6, _⟩ := hp 6 3 6 rfl
  obtain ⟨y7, h7, l7⟩ := hp 7 24 7 rfl
  obtain ⟨y8, h8, l8⟩ := hp 8 24 8 rfl
  obtain ⟨y9, h9, _⟩ := hp 9 4 9 rfl
  obtain ⟨y10, h10, _⟩ := hp 10 39 10 rfl
  obtain ⟨y11, h11, _⟩ := hp 11 3 12 rfl
  simp only [cells_int, cells_val, cells_bool, cells_ints, cells_vals] at h0 h1 h2 h3 h4 h5 h6 h7 h8 h9 h10 h11
  obtain ⟨n0, e0, _, _⟩ := DataW.trod_int Tryz.underlying3 h0
  obtain ⟨n1, e1, _, _⟩ := DataW.trod_int Tryz.underlying3 h1
  obtain ⟨n3, e3, _, _⟩ := DataW.trod_int Tryz.underlying3 h3
  obtain ⟨n5, e5, _, _⟩ := DataW.trod_int Tryz.underlying3 h5
  obtain ⟨n6, e6, _, _⟩ := DataW.trod_int Tryz.underlying3 h6
  obtain ⟨n9, e9, _⟩ := DataW.trod_bool Tryz.underlying4 h9
  obtain ⟨vy, ey⟩ := er_val _ _ _ h10
  have qy := ey (fun _ => default)
  obtain ⟨n11, e11, _, _⟩ := DataW.trod_int Tryz.underlying3 h11
  simp at e0 e1 e3 e5 e6 e9 qy e11
  subst e0; subst e1; subst e3; subst e5; subst e6; subst e9; subst e11
  obtain ⟨rfl, rfl⟩ := qy
  obtain ⟨c2, x2, k2, i2, g2, o2, s2, v2, w2⟩ := open_V ho h2 (l2 hL)
  obtain ⟨c4, x4, k4, i4, g4, o4, s4, v4, w4⟩ := open_V o2 h4 (l4 hL)
  obtain ⟨c7, x7, k7, i7, g7, o7, s7, v7, w7⟩ := open_I o4 h7 (l7 hL)
  obtain ⟨c8, x8, k8, i8, g8, o8, s8, v8, w8⟩ := open_I o7 h8 (l8 hL)
  refine ⟨⟨n0, n1, x2, n3, x4, n5, n6, x7, x8, n9, vy, n11⟩, ⟨n0, n1, c2, n3, c4, n5, n6, c7, c8, n9, vy, n11⟩, k8, i8, g2.trans (g4.trans (g7.trans g8)), o8, ⟨rfl, rfl, s2.ext (g4.trans (g7.trans g8)).ext, rfl, s4.ext (g7.trans g8).ext, rfl, rfl, s7.ext g8.ext, s8, rfl, rfl, rfl⟩, ?_, ?_⟩
  · have q2 : c2.conc i8 = c2.conc i2 := (g4.trans (g7.trans g8)).conc w2
    have q4 : c4.conc i8 = c4.conc i4 := (g7.trans g8).conc w4
    have q7 : c7.conc i8 = c7.conc i7 := g8.conc w7
    rw [v2, v4, v7, v8, ← q2, ← q4, ← q7]
    rfl
  · intro y hy
    simp at hy
    rcases hy with rfl | rfl | rfl | rfl | rfl | rfl | rfl | rfl | rfl | rfl | rfl | rfl | rfl
    · trivial
    · trivial
    · exact (g4.trans (g7.trans g8)).below w2
    · trivial
    · exact (g7.trans g8).below w4
    · trivial
    · trivial
    · exact g8.below w7
    · exact w8
    all_goals trivial
theorem open_R (ho : Opn W h ι) (hd : DataW.trod enc Tryz.prog W 0 (fun _ => true) held fuel 23 [v] = some x) (hL : Light Tryz.prog 23 x.1) :
    ∃ (c : Cell) (rs : List PRun) (cs : List RunC) (h' : H) (ι' : Plan), Gr h ι h' ι' ∧ Opn W h' ι' ∧ RunsA h' c rs cs ∧ v = c.conc ι' ∧ c.below h'.length := by
  obtain ⟨c, rs, cs, h', ι', g, o, s, hl, he, hv, hb⟩ := open_deep Tryz.underlying23 cells_run (by omega) (fun _ => rfl) (R := fun h r c => RunA h r c) (fun _ _ _ _ hx hr => hr.ext hx) open_run ho hd hL bytes_run
  exact ⟨c, rs, cs, h', ι', g, o, ⟨s, hl, fun i hi => he i hi (by omega)⟩, hv, hb⟩
/-- A world that comes in. -/
theorem open_world {v : Value} {fuel : Nat} (ho : Opn W h ι) (hd : DataW.trod enc Tryz.prog W 0 (fun _ => true) held fuel 26 v.cells.toList = some x) (hL : Light Tryz.prog 26 x.1) :
    ∃ (w : PWorld) (c : WorldC) (cs : List RunC) (h' : H) (ι' : Plan), Gr h ι h' ι' ∧ Opn W h' ι' ∧ WorldA h' w c cs ∧ v.cells.toList = (encW c).map (Cell.conc ι') ∧ ∀ y ∈ encW c, y.below h'.length := by
  generalize v.cells.toList = cs at hd
  obtain ⟨hl, n, hp⟩ := part_of Tryz.underlying26 hd
  rw [cells_world] at hl
  obtain ⟨a0, t0, rfl, hl0⟩ := uncons hl
  obtain ⟨a1, t1, rfl, hl1⟩ := uncons hl0
  obtain ⟨a2, t2, rfl, hl2⟩ := uncons hl1
  obtain ⟨a3, t3, rfl, hl3⟩ := uncons hl2
  obtain ⟨a4, t4, rfl, hl4⟩ := uncons hl3
  obtain ⟨a5, t5, rfl, hl5⟩ := uncons hl4
  obtain ⟨a6, t6, rfl, hl6⟩ := uncons hl5
  obtain rfl := List.length_eq_zero_iff.1 hl6
  obtain ⟨y0, h0, l0⟩ := hp 0 22 0 rfl
  obtain ⟨y1, h1, l1⟩ := hp 1 23 1 rfl
  obtain ⟨y2, h2, l2⟩ := hp 2 24 2 rfl
  obtain ⟨y3, h3, _⟩ := hp 3 3 3 rfl
  obtain ⟨y4, h4, _⟩ := hp 4 3 4 rfl
  obtain ⟨y5, h5, _⟩ := hp 5 3 5 rfl
  obtain ⟨y6, h6, _⟩ := hp 6 3 6 rfl
  simp only [cells_int, cells_ints, cells_ops, cells_runs] at h0 h1 h2 h3 h4 h5 h6
  obtain ⟨n3, e3, _, _⟩ := DataW.trod_int Tryz.underlying3 h3
  obtain ⟨n4, e4, _, _⟩ := DataW.trod_int Tryz.underlying3 h4
  obtain ⟨n5, e5, _, _⟩ := DataW.trod_int Tryz.underlying3 h5
  obtain ⟨n6, e6, _, _⟩ := DataW.trod_int Tryz.underlying3 h6
  simp at e3 e4 e5 e6
  subst e3; subst e4; subst e5; subst e6
  obtain ⟨c0, x0, k0, i0, g0, o0, s0, v0, w0⟩ := open_O ho h0 (l0 hL)
  obtain ⟨c1, rs, cs, k1, i1, g1, o1, s1, v1, w1⟩ := open_R o0 h1 (l1 hL)
  obtain ⟨c2, x2, k2, i2, g2, o2, s2, v2, w2⟩ := open_I o1 h2 (l2 hL)
  refine ⟨⟨x0, rs, x2, n3, n4, n5, n6⟩, ⟨c0, c1, c2, n3, n4, n5, n6⟩, cs, k2, i2, g0.trans (g1.trans g2), o2, ⟨s0.ext (g1.trans g2).ext, s1.ext g2.ext, s2, rfl, rfl, rfl, rfl⟩, ?_, ?_⟩
  · have q0 : c0.conc i2 = c0.conc i0 := (g1.trans g2).conc w0
    have q1 : c1.conc i2 = c1.conc i1 := g2.conc w1
    rw [v0, v1, v2, ← q0, ← q1]
    rfl
  · intro y hy
    simp at hy
    rcases hy with rfl | rfl | rfl | rfl | rfl | rfl | rfl
    · exact (g1.trans g2).below w0
    · exact g2.below w1
    · exact w2
    all_goals trivial
end
end Go.Proofs.YtkcfminmojolhaaGreat

/-
  THE PROGRAM OF THE ABSTRACT MACHINE IS SOUND: the one function told by its answer alone answers so.
-/
set_option maxRecDepth 8000
namespace Go.Proofs.YtkcfminmojolhaaGreat
open Go.AM Go.RowKit
set_option maxHeartbeats 1000000 in
set_option maxRecDepth 100000 in
theorem indexByte_calls (s : ByteArray) (c : Int) (w : World) :
    Calls Tryz.prog 246 #[.string s, .int .u8 c] w fun e w' => e = .returned (.int .i64 (Lib.indexByte s.data.toList c.toNat.toUInt8)) ∧ w' = w := by
  go_enter Tryz.func246, Tryz.ntmps246
  go_wp2
  rw [run_callFunc_extern Tryz.func250 (by kernel_rfl) (by kernel_rfl) (by kernel_rfl) (e := Extern.BytealgIndexByte.indexByte) (by kernel_rfl), Lib.run_indexByteString]
  simp only [Result.andThen]
  rw [Oper.upon_value]
  go_wp2
  go_ret
  exact ⟨rfl, rfl⟩
theorem prims_ok : Dz.PrimOk := by
  intro f args r h
  unfold Dz primF at h
  simp only at h
  split at h
  · cases h
  · rename_i hf
    split at h
    · rename_i s c
      cases h
      have hf : f = 246 := by simpa using hf
      subst hf
      refine ⟨fun hp B ι w cargs hr hl hargs => ?_, _, Tryz.func246, by kernel_rfl⟩
      match cargs, hl with
      | [a, b], _ =>
        have h0 := hargs 0 _ a rfl rfl
        have h1 := hargs 1 _ b rfl rfl
        simp [V.rel] at h0 h1
        obtain ⟨rfl, _⟩ := h0; obtain ⟨rfl, _⟩ := h1
        refine (indexByte_calls s c w).mono fun e w' ⟨he, hw⟩ => ?_
        subst hw
        exact ⟨_, ι, he, hr, FR.refl _ _ _, rfl, trivial⟩
    · cases h
theorem dz_ok : Dz.Ok := ⟨types_ok, mixed_ok, names_ok, prims_ok⟩
end Go.Proofs.YtkcfminmojolhaaGreat
