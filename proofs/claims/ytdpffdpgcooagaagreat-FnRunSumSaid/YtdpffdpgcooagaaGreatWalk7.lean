/-
  What functions of the seat answer, each proved once; each under the condition that cells bear what it is given, as its statement says.
-/
import Derived.Test.YtdpffdpgcooagaaGreatWalk6
set_option linter.all false
/-
  WORLDS IN PLAIN DATA: ending a run, and all that fall with it.
-/
set_option maxRecDepth 8000
namespace Go.Proofs.YtdpffdpgcooagaaGreat
open Go.AM
variable {w : PWorld}
def linkStep (id : Int) (why : PVal) (a : PWorld × List Int) (k : Int) : PWorld × List Int :=
  if why = ⟨2, 0⟩ then (setRun a.1 k { runAt a.1 k with links := less (runAt a.1 k).links id }, a.2)
  else if (runAt a.1 k).trap = true then (giveP (setRun a.1 k { runAt a.1 k with links := less (runAt a.1 k).links id }) k ⟨3, id⟩, a.2)
  else (setRun a.1 k { runAt a.1 k with links := less (runAt a.1 k).links id }, a.2 ++ [k])
def clearRun (r : PRun) (why : PVal) : PRun := { r with mail := [], links := [], watched := [], state := 3, due := 0, why := why }
def unwatch (id : Int) (r : PRun) : PRun := { r with watched := less r.watched id }
def endBase (w : PWorld) (id : Int) (why : PVal) : PWorld :=
  { w with lost := w.lost + (runAt w id).mail.length, queue := less w.queue id, runs := (w.runs.set (id - 1).toNat (clearRun (runAt w id) why)).map (unwatch id) }
def endLinks (w : PWorld) (id : Int) (why : PVal) (ks : List Int) : PWorld × List Int := ks.foldl (linkStep id why) (endBase w id why, [])
def tell (id : Int) (w : PWorld) (ks : List Int) : PWorld := ks.foldl (fun w k => giveP w k ⟨3, id⟩) w
def endP (w : PWorld) (id : Int) (why : PVal) : PWorld × List Int :=
  (tell id (endLinks w id why (runAt w id).links).1 (runAt w id).watched, (endLinks w id why (runAt w id).links).2)
/-- It is there, and did not end. -/
def Alive (w : PWorld) (id : Int) : Prop := (1 ≤ id ∧ id ≤ w.runs.length) ∧ (runAt w id).state ≠ 3
instance (w : PWorld) (id : Int) : Decidable (Alive w id) := inferInstanceAs (Decidable (_ ∧ _))
def fallN : Nat → PWorld → List Int → PVal → PWorld
  | 0, w, _, _ => w
  | _ + 1, w, [], _ => w
  | n + 1, w, id :: rest, why => if Alive w id then fallN n (endP w id why).1 (rest ++ (endP w id why).2) why else fallN n w rest why
def fallP (w : PWorld) (id : Int) (why : PVal) : PWorld := fallN 64 w [id] why
def aliveN (rs : List PRun) : Nat := rs.countP fun r => decide (r.state ≠ 3)
theorem aliveN_set : ∀ {rs : List PRun} {i : Nat} {r r' : PRun}, rs[i]? = some r → aliveN (rs.set i r') + (if r.state ≠ 3 then 1 else 0) = aliveN rs + (if r'.state ≠ 3 then 1 else 0)
  | [], i, r, r', h => by simp at h
  | a :: rs, 0, r, r', h => by simp at h; subst h; simp only [aliveN, List.set_cons_zero, List.countP_cons, decide_eq_true_eq]; omega
  | a :: rs, i + 1, r, r', h => by
    have ih := aliveN_set (rs := rs) (i := i) (r' := r') (by simpa using h)
    simp only [aliveN, List.set_cons_succ, List.countP_cons, decide_eq_true_eq] at ih ⊢
    omega
theorem aliveN_le (rs : List PRun) : aliveN rs ≤ rs.length := List.countP_le_length
theorem aliveN_map (id : Int) : ∀ (rs : List PRun), aliveN (rs.map (unwatch id)) = aliveN rs
  | [] => rfl
  | a :: rs => by simp only [aliveN, List.map_cons, List.countP_cons] at *; rw [show List.countP _ (List.map (unwatch id) rs) = _ from aliveN_map id rs]; rfl
theorem mailSum_map (id : Int) : ∀ (rs : List PRun), mailSum (rs.map (unwatch id)) = mailSum rs
  | [] => rfl
  | a :: rs => by have := mailSum_map id rs; simp only [mailSum, List.map_cons, List.sum_cons] at this ⊢; rw [this]; rfl
theorem less_ids {xs : List Int} {own n : Int} (h : IdsOk xs own) : IdsOk (less xs n) own := ⟨h.1.filter _, fun x hx => h.2 x (mem_less.1 hx).1⟩
theorem RunI.unwatch {code : List POp} {now : Int} {n i : Nat} {r : PRun} (R : RunI code now n i r) (id : Int) : RunI code now n i (unwatch id r) :=
  ⟨⟨R.ok.id, R.ok.at_, R.ok.len, R.ok.full, R.ok.room, R.ok.state, R.ok.due, R.ok.turns, R.ok.slots, R.ok.mail, R.ok.links, less_ids R.ok.watched, R.ok.why, fun h => ⟨(R.ok.ended h).1, (R.ok.ended h).2.1, by show less r.watched id = []; rw [(R.ok.ended h).2.2]; rfl⟩, R.ok.live⟩, R.id, R.at_, R.wait, R.full, R.links, fun k hk => R.watched k (mem_less.1 hk).1⟩
theorem RunI.unlink {code : List POp} {now : Int} {n i : Nat} {r : PRun} (R : RunI code now n i r) (id : Int) : RunI code now n i { r with links := less r.links id } :=
  ⟨⟨R.ok.id, R.ok.at_, R.ok.len, R.ok.full, R.ok.room, R.ok.state, R.ok.due, R.ok.turns, R.ok.slots, R.ok.mail, less_ids R.ok.links, R.ok.watched, R.ok.why, fun h => ⟨(R.ok.ended h).1, by show less r.links id = []; rw [(R.ok.ended h).2.1]; rfl, (R.ok.ended h).2.2⟩, R.ok.live⟩, R.id, R.at_, R.wait, R.full, fun k hk => R.links k (mem_less.1 hk).1, R.watched⟩
theorem Inv.map (I : Inv w) (id : Int) : Inv { w with runs := w.runs.map (unwatch id) } := by
  refine ⟨I.safe, by simpa using I.many, I.now, I.nn, I.queue, fun q => ?_, fun i r hi => ?_, by simp only [mailSum_map]; exact I.sum⟩
  · rw [I.mem]
    constructor
    · rintro ⟨i, e, r, hr, h1⟩
      exact ⟨i, e, unwatch id r, by simp [hr], h1⟩
    · rintro ⟨i, e, r, hr, h1⟩
      simp only [List.getElem?_map] at hr
      cases hb : w.runs[i]? with
      | none => rw [hb] at hr; simp at hr
      | some b => rw [hb] at hr; simp at hr; subst hr; exact ⟨i, e, b, hb, h1⟩
  · simp only [List.getElem?_map, List.length_map] at hi ⊢
    cases hb : w.runs[i]? with
    | none => rw [hb] at hi; simp at hi
    | some b => rw [hb] at hi; simp at hi; subst hi; exact (I.each i b hb).unwatch id
theorem valOk_run {id : Int} (h : 1 ≤ id ∧ id ≤ 6) : valOk ⟨3, id⟩ = true := by simp [valOk]; omega
theorem Inv.unlink (I : Inv w) {k : Int} (hk : 1 ≤ k ∧ k ≤ w.runs.length) (id : Int) : Inv (setRun w k { runAt w k with links := less (runAt w k).links id }) := by
  obtain ⟨i, rfl, ei, hl, hg, R⟩ := I.run hk
  have := I.upd (r' := { runAt w (↑i + 1) with links := less (runAt w (↑i + 1)).links id }) (s := w.sent) (t := w.taken) (l := w.lost) hg (R.unlink id) I.queue (I.q_same hg Iff.rfl) I.nn (by simp only; omega)
  unfold setRun; rw [ei]; exact this
theorem Inv.endBase (I : Inv w) {id : Int} (hid : 1 ≤ id ∧ id ≤ w.runs.length) {why : PVal} (hw : valOk why = true) : Inv (endBase w id why) := by
  obtain ⟨i, rfl, ei, hl, hg, R⟩ := I.run hid
  obtain ⟨n1, n2, n3⟩ := I.nn
  have Q := I.q_less (r' := clearRun (runAt w (↑i + 1)) why) (i := i) (by simp [clearRun])
  have J := I.upd (r' := clearRun (runAt w (↑i + 1)) why) (s := w.sent) (t := w.taken) (l := w.lost + (runAt w (↑i + 1)).mail.length) hg
    ⟨⟨R.ok.id, R.ok.at_, R.ok.len, R.ok.full, by simp [clearRun], by simp [clearRun], by simp [clearRun], R.ok.turns, R.ok.slots, by simp [clearRun], ⟨by simp [clearRun], by simp [clearRun]⟩, ⟨by simp [clearRun], by simp [clearRun]⟩, hw, fun _ => ⟨rfl, rfl, rfl⟩, fun h => by simp [clearRun] at h⟩, R.id, R.at_, fun h => by simp [clearRun] at h, fun h => by simp [clearRun] at h, by simp [clearRun], by simp [clearRun]⟩
    Q.1 Q.2 ⟨n1, n2, by omega⟩ (by simp [clearRun]; omega)
  unfold Go.Proofs.YtdpffdpgcooagaaGreat.endBase
  rw [ei]
  exact J.map _
/-- What links and watchers bring about keeps it. -/
structure EndTo (w : PWorld) (b : Int) (n a : Nat) (x : PWorld × List Int) : Prop where
  inv : Inv x.1
  sent : x.1.sent ≤ b
  len : x.1.runs.length = n
  code : x.1.code = w.code
  now : x.1.now = w.now
  alive : aliveN x.1.runs = a
  next : ∀ k ∈ x.2, 1 ≤ k ∧ k ≤ n
theorem aliveN_give (w : PWorld) (id : Int) (v : PVal) : aliveN (giveP w id v).runs = aliveN w.runs := by
  unfold giveP
  split
  · rename_i k
    obtain ⟨k1, k2, k3⟩ := k
    obtain ⟨i, rfl, hi, er, ei⟩ := runAt_eq k1
    have hg : w.runs[i]? = some (runAt w (↑i + 1)) := by rw [er]; exact List.getElem?_eq_getElem hi
    split
    · have := aliveN_set (r' := { runAt w (↑i + 1) with mail := (runAt w (↑i + 1)).mail ++ [v], state := 1 }) hg
      simp only [ei]
      simp [k2] at this ⊢
      omega
    · have := aliveN_set (r' := { runAt w (↑i + 1) with mail := (runAt w (↑i + 1)).mail ++ [v] }) hg
      simp only [ei]
      simp [k2] at this ⊢
      omega
  · rfl
theorem giveP_now (w : PWorld) (id : Int) (v : PVal) : (giveP w id v).now = w.now := by
  unfold giveP; split
  · split <;> rfl
  · rfl
theorem EndTo.give {b : Int} {n a : Nat} {x : PWorld × List Int} (E : EndTo w b n a x) (k : Int) {v : PVal} (hv : valOk v = true) : EndTo w (b + 1) n a (giveP x.1 k v, x.2) := by
  obtain ⟨I, hs⟩ := E.inv.give k hv
  exact ⟨I, by have := E.sent; rw [hs]; omega, by rw [(giveP_len _ _ _).1]; exact E.len, by rw [(giveP_len _ _ _).2]; exact E.code, by rw [giveP_now]; exact E.now, by rw [aliveN_give]; exact E.alive, E.next⟩
theorem aliveN_unlink {k id : Int} (hk : 1 ≤ k ∧ k ≤ w.runs.length) : aliveN (setRun w k { runAt w k with links := less (runAt w k).links id }).runs = aliveN w.runs := by
  obtain ⟨i, rfl, hi, er, ei⟩ := runAt_eq hk
  have hg : w.runs[i]? = some (runAt w (↑i + 1)) := by rw [er]; exact List.getElem?_eq_getElem hi
  have := aliveN_set (r' := { runAt w (↑i + 1) with links := less (runAt w (↑i + 1)).links id }) hg
  unfold setRun
  rw [ei]
  simp only at this ⊢
  omega
theorem setRun_len {k : Int} {r : PRun} : (setRun w k r).runs.length = w.runs.length := by simp [setRun]
theorem EndTo.link {b : Int} {n a : Nat} {x : PWorld × List Int} (E : EndTo w b n a x) {k id : Int} {why : PVal} (hk : 1 ≤ k ∧ k ≤ n) (hid : 1 ≤ id ∧ id ≤ 6) : EndTo w (b + 1) n a (linkStep id why x k) := by
  have hk' : 1 ≤ k ∧ k ≤ x.1.runs.length := by rw [E.len]; exact hk
  have U : EndTo w b n a (setRun x.1 k { runAt x.1 k with links := less (runAt x.1 k).links id }, x.2) :=
    ⟨E.inv.unlink hk' id, E.sent, by rw [setRun_len]; exact E.len, E.code, E.now, by rw [aliveN_unlink hk']; exact E.alive, E.next⟩
  have hs : (setRun x.1 k { runAt x.1 k with links := less (runAt x.1 k).links id }).sent ≤ b + 1 := by have := E.sent; show x.1.sent ≤ b + 1; omega
  unfold linkStep
  split
  · exact ⟨U.inv, hs, U.len, U.code, U.now, U.alive, U.next⟩
  · split
    · exact U.give k (valOk_run hid)
    · refine ⟨U.inv, hs, U.len, U.code, U.now, U.alive, fun q hq => ?_⟩
      rcases List.mem_append.1 hq with hq | hq
      · exact E.next q hq
      · simp at hq; subst hq; exact hk
theorem EndTo.links {b : Int} {n a : Nat} {id : Int} {why : PVal} (hid : 1 ≤ id ∧ id ≤ 6) : ∀ (ks : List Int) {x : PWorld × List Int}, EndTo w b n a x → (∀ k ∈ ks, 1 ≤ k ∧ k ≤ n) → EndTo w (b + ks.length) n a (ks.foldl (linkStep id why) x)
  | [], x, E, _ => by simpa using E
  | k :: ks, x, E, h => by
    have := EndTo.links (why := why) hid ks (E.link (why := why) (h k (by simp)) hid) fun q hq => h q (by simp [hq])
    simp only [List.foldl_cons, List.length_cons]
    exact ⟨this.inv, by have := this.sent; omega, this.len, this.code, this.now, this.alive, this.next⟩
theorem EndTo.tell {b : Int} {n a : Nat} {id : Int} (hid : 1 ≤ id ∧ id ≤ 6) : ∀ (ks : List Int) {x : PWorld × List Int}, EndTo w b n a x → EndTo w (b + ks.length) n a (tell id x.1 ks, x.2)
  | [], x, E => by simpa [Go.Proofs.YtdpffdpgcooagaaGreat.tell] using E
  | k :: ks, x, E => by
    have := (E.give k (valOk_run hid)).tell hid ks
    simp only [Go.Proofs.YtdpffdpgcooagaaGreat.tell, List.foldl_cons, List.length_cons] at this ⊢
    exact ⟨this.inv, by have := this.sent; omega, this.len, this.code, this.now, this.alive, this.next⟩
theorem Inv.endBaseTo (I : Inv w) {id : Int} (ha : Alive w id) {why : PVal} (hw : valOk why = true) : EndTo w w.sent w.runs.length (aliveN w.runs - 1) (Go.Proofs.YtdpffdpgcooagaaGreat.endBase w id why, []) ∧ 1 ≤ aliveN w.runs := by
  have h2 := ha.2
  obtain ⟨i, rfl, ei, hl, hg, R⟩ := I.run ha.1
  have := aliveN_set (r' := clearRun (runAt w (↑i + 1)) why) hg
  have e3 : (clearRun (runAt w (↑i + 1)) why).state = 3 := rfl
  rw [if_pos h2, if_neg (by rw [e3]; simp)] at this
  refine ⟨⟨I.endBase ha.1 hw, Int.le_refl _, ?_, rfl, rfl, ?_, by simp⟩, by omega⟩
  · simp [Go.Proofs.YtdpffdpgcooagaaGreat.endBase]
  · simp only [Go.Proofs.YtdpffdpgcooagaaGreat.endBase, aliveN_map, ei]; omega
theorem linkStep_next_len {id : Int} {why : PVal} {x : PWorld × List Int} {k : Int} : (linkStep id why x k).2.length ≤ x.2.length + 1 := by
  unfold linkStep; split
  · simp
  · split <;> simp
theorem links_next_len {id : Int} {why : PVal} : ∀ (ks : List Int) (x : PWorld × List Int), (ks.foldl (linkStep id why) x).2.length ≤ x.2.length + ks.length
  | [], x => by simp
  | k :: ks, x => by
    have := links_next_len (id := id) (why := why) ks (linkStep id why x k)
    have h2 := linkStep_next_len (id := id) (why := why) (x := x) (k := k)
    simp only [List.foldl_cons, List.length_cons]; omega
theorem Inv.endP (I : Inv w) {id : Int} (ha : Alive w id) {why : PVal} (hw : valOk why = true) :
    EndTo w (w.sent + 12) w.runs.length (aliveN w.runs - 1) (Go.Proofs.YtdpffdpgcooagaaGreat.endP w id why) ∧ 1 ≤ aliveN w.runs ∧ (Go.Proofs.YtdpffdpgcooagaaGreat.endP w id why).2.length ≤ 6 := by
  obtain ⟨E, h1⟩ := I.endBaseTo ha hw
  obtain ⟨i, e, ei, hl, hg, R⟩ := I.run ha.1
  have l1 := R.ok.links.len
  have l2 := R.ok.watched.len
  have hid : 1 ≤ id ∧ id ≤ 6 := by have := I.many; have := ha.1; omega
  have E2 := (E.links (why := why) hid (runAt w id).links fun k hk => ⟨(R.ok.links.2 k hk).1, R.links k hk⟩)
  have E3 := E2.tell hid (runAt w id).watched
  refine ⟨⟨E3.inv, ?_, E3.len, E3.code, E3.now, E3.alive, E3.next⟩, h1, ?_⟩
  · have := E3.sent
    refine Int.le_trans this ?_
    omega
  · have := links_next_len (id := id) (why := why) (runAt w id).links (Go.Proofs.YtdpffdpgcooagaaGreat.endBase w id why, [])
    simp only [List.length_nil] at this
    show (endLinks w id why _).2.length ≤ 6
    unfold endLinks; omega
end Go.Proofs.YtdpffdpgcooagaaGreat

/-
  WORLDS IN PLAIN DATA: what is full behind a step.
-/
set_option maxRecDepth 8000
namespace Go.Proofs.YtdpffdpgcooagaaGreat
open Go.AM
theorem mergeF_fix {f : List Int} {n : Nat} {b : Int} (h : mergeF f n b = f) (hn : n < f.length) : both (f[n]?.getD 0) b = f[n]?.getD 0 := by
  have h2 : (mergeF f n b)[n]? = f[n]? := by rw [h]
  unfold mergeF at h2
  rw [List.getElem?_set_self hn] at h2
  have e : f[n]?.getD 0 = both (f[n]?.getD 0) b := congrArg (·.getD 0) h2.symm
  exact e.symm
theorem both_nn {a b : Int} (h : both a b = a) (hb : 0 ≤ b) : 0 ≤ a := by
  by_cases ha : a < 0
  · unfold both at h; rw [if_pos ha] at h; omega
  · omega
theorem full_arrows {code : List POp} (S : CodeSafe code) {i : Nat} (hi : i < code.length) (h0 : 0 ≤ (fullR code)[i]?.getD 0) :
    let x := (fullR code)[i]?.getD 0
    x ≤ 15 ∧ (∀ b, goesTo code[i] x = some b → 0 ≤ (fullR code)[code[i].to.toNat]?.getD 0 ∧ both ((fullR code)[code[i].to.toNat]?.getD 0) b = (fullR code)[code[i].to.toNat]?.getD 0) ∧
    (¬ (code[i].kind = 9 ∨ code[i].kind = 14) → i + 1 < code.length ∧ 0 ≤ (fullR code)[i + 1]?.getD 0 ∧ both ((fullR code)[i + 1]?.getD 0) (onward code[i] x) = (fullR code)[i + 1]?.getD 0) := by
  intro x
  have hc := codeOk_op S.ok
  obtain ⟨hB, hL, hP⟩ := fullR_props hc
  have hiL : i < (fullR code).length := by omega
  have hx15 : x ≤ 15 := by
    show (fullR code)[i]?.getD 0 ≤ 15
    rw [List.getElem?_eq_getElem hiL, Option.getD_some]; exact (hB _ (List.getElem_mem hiL)).2
  have ho : opOk code[i] = true := hc _ (List.getElem_mem hi)
  have e1 := passTo_fix hc hB hL hP i (by omega)
  have e2 := passTo_fix hc hB hL hP (i + 1) (by omega)
  simp only [passTo, e1] at e2
  rw [if_pos h0, List.getElem?_eq_getElem hi, Option.getD_some] at e2
  have a := goF_props (o := code[i]) hB h0 hx15
  have b := fromF_props (i := i) hB ho h0 hx15
  have ne := a.2.2.ne b.2.2
  have g1 : goF code[i] (fullR code) x = fullR code := Classical.byContradiction fun hh => (ne.2 (.inl hh)) e2
  refine ⟨hx15, fun v hv => ?_, fun hk => ?_⟩
  · have hv2 := goesTo_range h0 hx15 hv
    unfold goF at g1
    simp only [hv] at g1
    have ht : code[i].to.toNat < (fullR code).length := by
      have hT : hasT code[i].kind = true := by
        unfold goesTo at hv
        simp only [hasT, decide_eq_true_eq]
        split at hv
        · omega
        · split at hv
          · omega
          · cases hv
      have := S.ok
      simp only [codeOk, Bool.and_eq_true, List.all_eq_true, Bool.or_eq_true, decide_eq_true_eq, Bool.not_eq_true'] at this
      have q := (this.2 _ (List.getElem_mem hi)).2
      rw [hT] at q
      have q2 : code[i].to < code.length := by simpa using q
      have : 1 ≤ code.length := by omega
      omega
    have f := mergeF_fix g1 ht
    exact ⟨both_nn f hv2.1, f⟩
  · have sf := S.safe i hi h0
    have hn : i + 1 < code.length := by
      have : ¬ i + 1 = code.length := fun hh => hk (sf.2 hh)
      omega
    simp only [fromF] at e2
    rw [if_neg hk] at e2
    have e3 : mergeF (fullR code) (i + 1) (onward code[i] x) = fullR code := by
      rw [show goF code[i] (fullR code) ((fullR code)[i]?.getD 0) = fullR code from g1] at e2; exact e2
    have f := mergeF_fix e3 (by omega)
    exact ⟨hn, both_nn f (onward_range ho h0 hx15).1, f⟩
theorem bits_fin : ∀ a b : Fin 16, both a.val b.val = a.val → ∀ c : Fin 16, (both b.val c.val = b.val → both a.val c.val = a.val) := by decide +kernel
theorem both_trans {a b c : Int} (ha : 0 ≤ a) (ha' : a ≤ 15) (hb : 0 ≤ b) (hb' : b ≤ 15) (hc : 0 ≤ c) (hc' : c ≤ 15) (h1 : both a b = a) (h2 : both b c = b) : both a c = a := by
  have := bits_fin ⟨a.toNat, by omega⟩ ⟨b.toNat, by omega⟩
  simp only [Int.toNat_of_nonneg ha, Int.toNat_of_nonneg hb] at this
  have := this h1 ⟨c.toNat, by omega⟩
  simp only [Int.toNat_of_nonneg hc] at this
  exact this h2
theorem withB_fin : ∀ a b : Fin 16, both a.val b.val = a.val → ∀ s : Fin 4, both (withB a.val s.val) (withB b.val s.val) = withB a.val s.val ∧ both a.val (withB b.val s.val) = a.val := by decide +kernel
theorem withB_mono {a b s : Int} (ha : 0 ≤ a) (ha' : a ≤ 15) (hb : 0 ≤ b) (hb' : b ≤ 15) (hs : 0 ≤ s) (hs' : s ≤ 3) (h : both a b = a) : both (withB a s) (withB b s) = withB a s ∧ both a (withB b s) = a := by
  have := withB_fin ⟨a.toNat, by omega⟩ ⟨b.toNat, by omega⟩
  simp only [Int.toNat_of_nonneg ha, Int.toNat_of_nonneg hb] at this
  have := this h ⟨s.toNat, by omega⟩
  simp only [Int.toNat_of_nonneg hs] at this
  exact this
theorem withB_has : ∀ b : Fin 16, ∀ s t : Fin 4, has (withB b.val s.val) t.val = (decide (s = t) || has b.val t.val) := by decide +kernel
theorem hasW {b s t : Int} (hb : 0 ≤ b) (hb' : b ≤ 15) (hs : 0 ≤ s) (hs' : s ≤ 3) (ht : 0 ≤ t) (ht' : t ≤ 3) : has (withB b s) t = (decide (s = t) || has b t) := by
  have := withB_has ⟨b.toNat, by omega⟩ ⟨s.toNat, by omega⟩ ⟨t.toNat, by omega⟩
  simp only [Int.toNat_of_nonneg hb, Int.toNat_of_nonneg hs, Int.toNat_of_nonneg ht, Fin.mk.injEq] at this
  rw [this]
  congr 1
  exact decide_eq_decide.2 (by omega)
end Go.Proofs.YtdpffdpgcooagaaGreat

/-
  WORLDS IN PLAIN DATA: steps, turns, what happens.
-/
set_option maxRecDepth 8000
namespace Go.Proofs.YtdpffdpgcooagaaGreat
open Go.AM
variable {w : PWorld}
def slotAt (r : PRun) (k : Int) : PVal := r.slots[k.toNat]?.getD default
def nextRun (r : PRun) : PRun := { r with at_ := r.at_ + 1 }
def putRun (r : PRun) (slot : Int) (v : PVal) : PRun := { r with slots := r.slots.set slot.toNat v, full := withB r.full slot }
def setP (w : PWorld) (id slot : Int) (v : PVal) : PWorld := setRun w id (nextRun (putRun (runAt w id) slot v))
def waitP (w : PWorld) (id due : Int) : PWorld := { setRun w id { runAt w id with state := 2, due := due } with queue := less w.queue id }
def addP (a b : PVal) : Option PVal := if a.k = 1 ∧ b.k = 1 ∧ -99 ≤ a.n + b.n ∧ a.n + b.n ≤ 99 then some ⟨1, a.n + b.n⟩ else none
def newRun (id at_ : Int) (v : PVal) : PRun := ⟨id, at_, [v, ⟨0, 0⟩, ⟨0, 0⟩, ⟨0, 0⟩], 1, [], 1, 0, [], [], false, ⟨0, 0⟩, 0⟩
/-- The place of the first value that fits. -/
def mailAt (r : PRun) (kind : Int) : Int := firstAt (fits kind) r.mail
def takeRun (r : PRun) (slot : Int) (n : Nat) : PRun := { nextRun (putRun r slot (r.mail[n]?.getD default)) with mail := r.mail.eraseIdx n, due := 0 }
def takeP (w : PWorld) (id : Int) (o : POp) : PWorld :=
  if 0 ≤ mailAt (runAt w id) o.s then { setRun w id (takeRun (runAt w id) o.r (mailAt (runAt w id) o.s).toNat) with taken := w.taken + 1 }
  else if o.kind = 7 then waitP w id 0
  else if (runAt w id).due < 0 then setRun w id { runAt w id with due := 0, at_ := o.to }
  else waitP w id (w.now + o.v.n)
def addRunP (w : PWorld) (id : Int) (o : POp) : PWorld := { w with runs := w.runs ++ [newRun (w.runs.length + 1) o.to ⟨3, id⟩], queue := w.queue ++ [(w.runs.length : Int) + 1] }
def beginP (w : PWorld) (id : Int) (o : POp) : PWorld :=
  if 6 < w.runs.length + 1 then setP w id o.r ⟨0, 0⟩ else setP (addRunP w id o) id o.r ⟨3, w.runs.length + 1⟩
def linkP (w : PWorld) (id k : Int) : PWorld :=
  let w1 := setRun w id { runAt w id with links := (runAt w id).links ++ [k] }
  setRun w1 k { runAt w1 k with links := (runAt w1 k).links ++ [id] }
def watchP (w : PWorld) (id k : Int) : PWorld := setRun w k { runAt w k with watched := (runAt w k).watched ++ [id] }
def otherP (w : PWorld) (id : Int) (o : POp) : PWorld :=
  let r := runAt w id
  let to := slotAt r o.r
  let w1 := setRun w id (nextRun r)
  if to.k ≠ 3 then fallP w id ⟨2, 2⟩
  else if o.kind = 6 then giveP w1 to.n (slotAt r o.s)
  else if o.kind = 12 ∧ ¬ Alive w to.n then giveP w1 id to
  else if to.n = id ∨ ¬ Alive w to.n then w1
  else if o.kind = 12 ∧ id ∉ (runAt w to.n).watched then watchP w1 id to.n
  else if o.kind = 11 ∧ to.n ∉ r.links then linkP w1 id to.n
  else w1
def stepP (w : PWorld) (id : Int) : PWorld :=
  let r := runAt w id
  let o := codeAt w r.at_
  if o.kind = 1 then setP w id o.r o.v
  else if o.kind = 2 then setP w id o.r (slotAt r o.s)
  else if o.kind = 3 then (match addP (slotAt r o.r) (slotAt r o.s) with | none => fallP w id ⟨2, 1⟩ | some v => setP w id o.r v)
  else if o.kind = 4 then setP w id o.r ⟨3, id⟩
  else if o.kind = 5 then beginP w id o
  else if o.kind = 7 ∨ o.kind = 8 then takeP w id o
  else if o.kind = 9 then setRun w id { r with at_ := o.to }
  else if o.kind = 10 then setRun w id { r with at_ := if slotAt r o.r = o.v then o.to else r.at_ + 1 }
  else if o.kind = 13 then setRun w id { r with trap := decide (o.v.n = 1), at_ := r.at_ + 1 }
  else if o.kind = 14 then fallP w id (slotAt r o.r)
  else otherP w id o
def headQ (w : PWorld) : Int := w.queue.headD 0
def stepsP : Nat → PWorld → Int → PWorld
  | 0, w, _ => w
  | n + 1, w, id => if (runAt w id).state = 1 then stepsP n (stepP w id) id else w
def backP (w : PWorld) (id : Int) : PWorld := if (runAt w id).state = 1 then { w with queue := less w.queue id ++ [id] } else w
def countP' (w : PWorld) (id : Int) : PWorld := setRun w id { runAt w id with turns := min ((runAt w id).turns + 1) 9999 }
def turnP (w : PWorld) : PWorld := if w.queue = [] then w else backP (stepsP 3 (countP' w (headQ w)) (headQ w)) (headQ w)
structure PEvent where
  kind : Int
  a : Int
  v : PVal
  deriving DecidableEq, Inhabited
def doP (w : PWorld) (e : PEvent) : PWorld :=
  if e.kind = 1 then turnP w
  else if e.kind = 2 then tickP w
  else if e.kind = 3 then (if valOk e.v = true then giveP w e.a e.v else w)
  else if e.kind = 4 then (if valOk e.v = true ∧ Alive w e.a then fallP w e.a e.v else w)
  else w
def newP (code : List POp) : PWorld := ⟨code, [newRun 1 0 ⟨3, 1⟩], [1], 0, 0, 0, 0⟩
end Go.Proofs.YtdpffdpgcooagaaGreat

/-
  WORLDS IN PLAIN DATA: steps keep what holds.
-/
set_option maxRecDepth 8000
namespace Go.Proofs.YtdpffdpgcooagaaGreat
open Go.AM
variable {w : PWorld}
def phi (w : PWorld) : Int := w.sent + 12 * aliveN w.runs
/-- What any change keeps; 'd': by how much more is sent, or yet may be. -/
structure Kept (w : PWorld) (d : Int) (w' : PWorld) : Prop where
  inv : Inv w'
  code : w'.code = w.code
  now : w'.now = w.now
  phi : phi w' ≤ phi w + d
  len : w.runs.length ≤ w'.runs.length
theorem Kept.refl (I : Inv w) : Kept w 0 w := ⟨I, rfl, rfl, by omega, Nat.le_refl _⟩
theorem Kept.trans {a b c : PWorld} {d e : Int} (x : Kept a d b) (y : Kept b e c) : Kept a (d + e) c :=
  ⟨y.inv, by rw [y.code, x.code], by rw [y.now, x.now], by have := x.phi; have := y.phi; omega, Nat.le_trans x.len y.len⟩
theorem Kept.le {d e : Int} {w' : PWorld} (x : Kept w d w') (h : d ≤ e) : Kept w e w' := ⟨x.inv, x.code, x.now, by have := x.phi; omega, x.len⟩
theorem Inv.giveK (I : Inv w) (id : Int) {v : PVal} (hv : valOk v = true) : Kept w 1 (giveP w id v) := by
  obtain ⟨J, hs⟩ := I.give id hv
  exact ⟨J, (giveP_len _ _ _).2, giveP_now _ _ _, by unfold Go.Proofs.YtdpffdpgcooagaaGreat.phi; rw [hs, aliveN_give]; omega, by rw [(giveP_len _ _ _).1]; exact Nat.le_refl _⟩
theorem fallN_kept {why : PVal} (hw : valOk why = true) : ∀ (n : Nat) {w : PWorld} (ks : List Int), Inv w → Kept w 0 (fallN n w ks why)
  | 0, w, ks, I => Kept.refl I
  | n + 1, w, [], I => Kept.refl I
  | n + 1, w, k :: ks, I => by
    unfold fallN
    split
    · rename_i ha
      obtain ⟨E, h1, h2⟩ := I.endP ha hw
      have K : Kept w 0 (endP w k why).1 := ⟨E.inv, E.code, E.now, by have := E.sent; have := E.alive; unfold Go.Proofs.YtdpffdpgcooagaaGreat.phi; omega, by rw [E.len]; exact Nat.le_refl _⟩
      exact K.trans (fallN_kept hw n _ E.inv)
    · exact fallN_kept hw n ks I
theorem fallN_len {why : PVal} (hw : valOk why = true) : ∀ (n : Nat) {w : PWorld} (ks : List Int), Inv w → (fallN n w ks why).runs.length = w.runs.length
  | 0, w, ks, I => rfl
  | n + 1, w, [], I => rfl
  | n + 1, w, k :: ks, I => by
    unfold fallN
    split
    · rename_i ha
      obtain ⟨E, h1, h2⟩ := I.endP ha hw
      rw [fallN_len hw n _ E.inv, E.len]
    · exact fallN_len hw n ks I
theorem op_kind {o : POp} (h : opOk o = true) : 1 ≤ o.kind ∧ o.kind ≤ 14 := by
  simp only [opOk, Bool.and_eq_true, decide_eq_true_eq] at h; exact h.1.1.1.1
theorem op_r {o : POp} (h : opOk o = true) : 0 ≤ o.r ∧ o.r ≤ 3 := by
  simp only [opOk, Bool.and_eq_true] at h
  have := h.1.1.1.2
  split at this <;> simp at this <;> omega
theorem op_s {o : POp} (h : opOk o = true) : 0 ≤ o.s ∧ o.s ≤ 3 := by
  simp only [opOk, Bool.and_eq_true] at h
  have := h.1.1.2
  split at this <;> simp at this <;> omega
theorem op_v {o : POp} (h : opOk o = true) : valOk o.v = true := by
  simp only [opOk, Bool.and_eq_true] at h
  have := h.2
  unfold opVOk at this
  split at this
  · simp at this; unfold valOk; simp [this]; omega
  · split at this
    · simp at this; unfold valOk; simp [this]; omega
    · split at this
      · exact this
      · simp at this; unfold valOk; simp [this]
theorem op_after {o : POp} (h : opOk o = true) (k : o.kind = 8) : 1 ≤ o.v.n ∧ o.v.n ≤ 99 := by
  simp only [opOk, Bool.and_eq_true] at h
  have := h.2
  unfold opVOk at this
  rw [if_pos k] at this
  simp at this; omega
theorem code_to {code : List POp} (S : CodeSafe code) {i : Nat} (hi : i < code.length) (hT : hasT code[i].kind = true) : 0 ≤ code[i].to ∧ code[i].to < code.length := by
  have := S.ok
  simp only [codeOk, Bool.and_eq_true, List.all_eq_true, Bool.or_eq_true, decide_eq_true_eq, Bool.not_eq_true'] at this
  have q := (this.2 _ (List.getElem_mem hi)).2
  rw [hT] at q
  have o := (this.2 _ (List.getElem_mem hi)).1
  simp only [opOk, Bool.and_eq_true] at o
  have o2 := o.1.2
  rw [hT] at o2
  simp at o2 q
  omega
theorem RunI.goes {code : List POp} {now : Int} {n i : Nat} {r : PRun} (S : CodeSafe code) (R : RunI code now n i r) {r' : PRun} (hid : r'.id = r.id) (hst : r'.state = 1) (hm : ∀ v ∈ r'.mail, valOk v = true) (hml : r'.mail.length ≤ 12)
    (hdue : -1 ≤ r'.due ∧ r'.due ≤ 400) (hl : r'.links = r.links) (hw : r'.watched = r.watched) (hwhy : r'.why = ⟨0, 0⟩) (ht : r'.turns = r.turns) (hsl : r'.slots.length = 4) (hfull : 0 ≤ r'.full ∧ r'.full ≤ 15)
    (hs : ∀ i (hi : i < r'.slots.length), valOk r'.slots[i] = true ∧ (has r'.full i = false → r'.slots[i] = ⟨0, 0⟩)) (hat : 0 ≤ r'.at_ ∧ r'.at_ < code.length)
    (hf : 0 ≤ (fullR code)[r'.at_.toNat]?.getD 0 ∧ both ((fullR code)[r'.at_.toNat]?.getD 0) r'.full = (fullR code)[r'.at_.toNat]?.getD 0) : RunI code now n i r' := by
  have h16 := (codeOk_len S.ok).2
  refine ⟨⟨by rw [hid]; exact R.ok.id, by omega, hsl, hfull, hml, by omega, hdue, by rw [ht]; exact R.ok.turns, hs, hm, by rw [hl, hid]; exact R.ok.links, by rw [hw, hid]; exact R.ok.watched, by rw [hwhy]; rfl, fun h => by omega, fun _ => hwhy⟩, by rw [hid]; exact R.id, hat.2, fun h => by omega, fun _ => hf, by rw [hl]; exact R.links, by rw [hw]; exact R.watched⟩
theorem put_slots {r : PRun} (R : RunOk r) {slot : Int} (h0 : 0 ≤ slot) (h3 : slot ≤ 3) {v : PVal} (hv : valOk v = true) :
    (putRun r slot v).slots.length = 4 ∧ (0 ≤ (putRun r slot v).full ∧ (putRun r slot v).full ≤ 15) ∧ ∀ i (hi : i < (putRun r slot v).slots.length), valOk (putRun r slot v).slots[i] = true ∧ (has (putRun r slot v).full i = false → (putRun r slot v).slots[i] = ⟨0, 0⟩) := by
  have hl := R.len
  refine ⟨by simp [putRun, hl], withB_range R.full.1 R.full.2 h0 h3, fun i hi => ?_⟩
  have hi4 : i < 4 := by simp [putRun, hl] at hi; omega
  have q := R.slots i (by omega)
  simp only [putRun, List.getElem_set]
  rw [hasW R.full.1 R.full.2 h0 h3 (by omega) (by omega)]
  split
  · rename_i e
    refine ⟨hv, fun h => ?_⟩
    have : slot = i := by omega
    simp [this] at h
  · rename_i e
    refine ⟨q.1, fun h => q.2 ?_⟩
    simp at h; exact h.2
theorem slotAt_ok {r : PRun} (R : RunOk r) {k : Int} (h0 : 0 ≤ k) (h3 : k ≤ 3) : valOk (slotAt r k) = true := by
  have hl := R.len
  unfold slotAt
  rw [List.getElem?_eq_getElem (by omega), Option.getD_some]
  exact (R.slots _ (by omega)).1
/-- The run whose step it is. -/
structure Turn (w : PWorld) (id : Int) (i : Nat) (r : PRun) (o : POp) : Prop where
  e0 : id = i + 1
  ei : (id - 1).toNat = i
  hi : i < w.runs.length
  get : w.runs[i]? = some r
  at_ : runAt w id = r
  run : RunI w.code w.now w.runs.length i r
  going : r.state = 1
  op : codeAt w r.at_ = o
  opg : r.at_.toNat < w.code.length ∧ w.code[r.at_.toNat]? = some o
  ok : opOk o = true
theorem Inv.turn (I : Inv w) {id : Int} (hid : 1 ≤ id ∧ id ≤ w.runs.length) (hg : (runAt w id).state = 1) : ∃ i, Turn w id i (runAt w id) (codeAt w (runAt w id).at_) := by
  obtain ⟨i, e, ei, hl, hgt, R⟩ := I.run hid
  have h0 := R.ok.at_.1
  have h1 := R.at_
  have hn : (runAt w id).at_.toNat < w.code.length := by omega
  have e2 : w.code[(runAt w id).at_.toNat]? = some (codeAt w (runAt w id).at_) := by unfold codeAt; rw [List.getElem?_eq_getElem hn]; rfl
  exact ⟨i, e, ei, hl, hgt, rfl, R, hg, rfl, ⟨hn, e2⟩, codeOk_op I.safe.ok _ (List.mem_of_getElem? e2)⟩
section
variable {id : Int} {i : Nat} {r : PRun} {o : POp}
theorem Turn.idr (T : Turn w id i r o) (I : Inv w) : 1 ≤ id ∧ id ≤ 6 ∧ id ≤ w.runs.length := by have := I.many; have := T.hi; have := T.e0; omega
/-- What is full where it goes. -/
theorem Turn.next (T : Turn w id i r o) (I : Inv w) (hk : ¬ (o.kind = 9 ∨ o.kind = 14)) : 0 ≤ r.at_ + 1 ∧ r.at_ + 1 < w.code.length ∧ 0 ≤ (fullR w.code)[(r.at_ + 1).toNat]?.getD 0 ∧ both ((fullR w.code)[(r.at_ + 1).toNat]?.getD 0) (onward o r.full) = (fullR w.code)[(r.at_ + 1).toNat]?.getD 0 := by
  have R := T.run
  have h0 := R.ok.at_.1
  have hf := R.full (by rw [T.going]; decide)
  have ho : w.code[r.at_.toNat]'T.opg.1 = o := by have := T.opg.2; rw [List.getElem?_eq_getElem T.opg.1] at this; simpa using this
  have A := full_arrows I.safe T.opg.1 hf.1
  simp only [ho] at A
  obtain ⟨a1, a2, a3⟩ := A
  obtain ⟨b1, b2, b3⟩ := a3 hk
  have e : (r.at_ + 1).toNat = r.at_.toNat + 1 := by omega
  rw [e]
  refine ⟨by omega, by omega, b2, ?_⟩
  have hB := (fullR_props (codeOk_op I.safe.ok)).1
  have h15 : (fullR w.code)[r.at_.toNat + 1]?.getD 0 ≤ 15 := by
    cases hh : (fullR w.code)[r.at_.toNat + 1]? with
    | none => simp
    | some x => exact (hB x (List.mem_of_getElem? hh)).2
  have q := onward_range T.ok hf.1 a1
  have q2 := onward_range T.ok R.ok.full.1 R.ok.full.2
  refine both_trans b2 h15 q.1 q.2 q2.1 q2.2 b3 ?_
  unfold onward
  split
  · exact (withB_mono hf.1 a1 R.ok.full.1 R.ok.full.2 (op_r T.ok).1 (op_r T.ok).2 hf.2).1
  · exact hf.2
theorem Turn.to (T : Turn w id i r o) (I : Inv w) (hb : ∀ x, goesTo o x = some (if o.kind = 5 then 1 else x)) (hT : hasT o.kind = true) : (0 ≤ o.to ∧ o.to < w.code.length) ∧ 0 ≤ (fullR w.code)[o.to.toNat]?.getD 0 ∧ both ((fullR w.code)[o.to.toNat]?.getD 0) (if o.kind = 5 then 1 else r.full) = (fullR w.code)[o.to.toNat]?.getD 0 := by
  have R := T.run
  have hf := R.full (by rw [T.going]; decide)
  have ho : w.code[r.at_.toNat]'T.opg.1 = o := by have := T.opg.2; rw [List.getElem?_eq_getElem T.opg.1] at this; simpa using this
  have A := full_arrows I.safe T.opg.1 hf.1
  have C := code_to I.safe T.opg.1
  simp only [ho] at A C
  obtain ⟨a1, a2, a3⟩ := A
  obtain ⟨b2, b3⟩ := a2 _ (hb _)
  have hB := (fullR_props (codeOk_op I.safe.ok)).1
  have h15 : (fullR w.code)[o.to.toNat]?.getD 0 ≤ 15 := by
    cases hh : (fullR w.code)[o.to.toNat]? with
    | none => simp
    | some x => exact (hB x (List.mem_of_getElem? hh)).2
  refine ⟨C hT, b2, ?_⟩
  split at b3
  · rename_i h5; rw [if_pos h5]; exact b3
  · rename_i h5; rw [if_neg h5]; exact both_trans b2 h15 hf.1 a1 R.ok.full.1 R.ok.full.2 b3 hf.2
theorem aliveN_same {r' : PRun} (T : Turn w id i r o) (h : r'.state ≠ 3) : aliveN (w.runs.set i r') = aliveN w.runs := by
  have := aliveN_set (r' := r') T.get
  have g := T.going
  rw [if_pos (by rw [g]; decide), if_pos h] at this
  omega
/-- The run goes on, otherwise. -/
theorem Turn.keep (T : Turn w id i r o) (I : Inv w) {r' : PRun} (R' : RunI w.code w.now w.runs.length i r') (h1 : r'.state = 1) (hm : r'.mail.length = r.mail.length) : Kept w 0 (setRun w id r') := by
  have J := I.upd (r' := r') (s := w.sent) (t := w.taken) (l := w.lost) T.get R' I.queue (I.q_same T.get (by rw [h1, T.going])) I.nn (by omega)
  unfold setRun
  rw [T.ei]
  exact ⟨J, rfl, rfl, by unfold Go.Proofs.YtdpffdpgcooagaaGreat.phi; simp only; rw [aliveN_same T (by rw [h1]; decide)]; omega, by simp⟩
theorem Turn.nextI (T : Turn w id i r o) (I : Inv w) (hk : ¬ (o.kind = 9 ∨ o.kind = 14)) (hf : fillsK o.kind = false) : RunI w.code w.now w.runs.length i (nextRun r) := by
  have R := T.run
  obtain ⟨a1, a2, a3, a4⟩ := T.next I hk
  unfold onward at a4
  rw [hf] at a4
  exact R.goes I.safe rfl T.going R.ok.mail R.ok.room R.ok.due rfl rfl (R.ok.live (by rw [T.going]; decide)) rfl R.ok.len R.ok.full R.ok.slots ⟨a1, a2⟩ ⟨a3, a4⟩
theorem Turn.putI (T : Turn w id i r o) (I : Inv w) (hk : ¬ (o.kind = 9 ∨ o.kind = 14)) {v : PVal} (hv : valOk v = true) : RunI w.code w.now w.runs.length i (nextRun (putRun r o.r v)) := by
  have R := T.run
  obtain ⟨a1, a2, a3, a4⟩ := T.next I hk
  obtain ⟨p1, p2, p3⟩ := put_slots R.ok (op_r T.ok).1 (op_r T.ok).2 hv
  refine R.goes I.safe rfl T.going R.ok.mail R.ok.room R.ok.due rfl rfl (R.ok.live (by rw [T.going]; decide)) rfl p1 p2 p3 ⟨a1, a2⟩ ⟨a3, ?_⟩
  show both _ (withB r.full o.r) = _
  unfold onward at a4
  split at a4
  · exact a4
  · have hB := (fullR_props (codeOk_op I.safe.ok)).1
    have h15 : (fullR w.code)[(r.at_ + 1).toNat]?.getD 0 ≤ 15 := by
      cases hh : (fullR w.code)[(r.at_ + 1).toNat]? with
      | none => simp
      | some x => exact (hB x (List.mem_of_getElem? hh)).2
    exact (withB_mono a3 h15 R.ok.full.1 R.ok.full.2 (op_r T.ok).1 (op_r T.ok).2 a4).2
theorem Turn.setK (T : Turn w id i r o) (I : Inv w) (hk : ¬ (o.kind = 9 ∨ o.kind = 14)) {v : PVal} (hv : valOk v = true) : Kept w 0 (setP w id o.r v) := by
  unfold setP
  rw [T.at_]
  exact T.keep I (T.putI I hk hv) T.going rfl
theorem Turn.waitK (T : Turn w id i r o) (I : Inv w) {due : Int} (hd : -1 ≤ due ∧ due ≤ 400) (hw : (o.kind = 7 ∧ due = 0 ∨ o.kind = 8 ∧ w.now < due) ∧ mailAt r o.s < 0) : Kept w 0 (waitP w id due) := by
  have R := T.run
  have hop : w.code[r.at_.toNat]?.getD default = o := by rw [T.opg.2]; rfl
  have Q := I.q_less (r' := { r with state := 2, due := due }) (i := i) (by simp)
  have J := I.upd (r' := { r with state := 2, due := due }) (s := w.sent) (t := w.taken) (l := w.lost) T.get
    ⟨⟨R.ok.id, R.ok.at_, R.ok.len, R.ok.full, R.ok.room, by simp, hd, R.ok.turns, R.ok.slots, R.ok.mail, R.ok.links, R.ok.watched, R.ok.why, fun h => by simp at h, fun _ => R.ok.live (by rw [T.going]; decide)⟩, R.id, R.at_, fun _ => by simp only; rw [hop]; exact hw, fun _ => R.full (by rw [T.going]; decide), R.links, R.watched⟩ Q.1 Q.2 I.nn (by simp only; omega)
  unfold waitP setRun
  rw [T.at_, T.ei]
  simp only
  rw [T.e0]
  exact ⟨J, rfl, rfl, by unfold Go.Proofs.YtdpffdpgcooagaaGreat.phi; simp only; rw [aliveN_same T (by simp)]; omega, by simp⟩
theorem firstAt_lt {α : Type} {p : α → Bool} {xs : List α} (h : 0 ≤ firstAt p xs) : (firstAt p xs).toNat < xs.length := by
  unfold firstAt at h ⊢
  cases hf : xs.findIdx? p with
  | none => rw [hf] at h; simp at h
  | some i =>
    have := List.findIdx?_eq_some_iff_findIdx_eq.1 hf
    simp only; omega
theorem Turn.takeK (T : Turn w id i r o) (I : Inv w) (hk : o.kind = 7 ∨ o.kind = 8) : Kept w 0 (takeP w id o) := by
  have R := T.run
  obtain ⟨n1, n2, n3⟩ := I.nn
  have hnow := I.now
  have hk9 : ¬ (o.kind = 9 ∨ o.kind = 14) := by omega
  unfold takeP
  rw [T.at_]
  split
  · rename_i h0
    have hlt := firstAt_lt h0
    have hl : (mailAt r o.s).toNat < r.mail.length := hlt
    have hv : valOk (r.mail[(mailAt r o.s).toNat]?.getD default) = true := by rw [List.getElem?_eq_getElem hl, Option.getD_some]; exact R.ok.mail _ (List.getElem_mem hl)
    have P := T.putI I hk9 hv
    have hlen : (r.mail.eraseIdx (mailAt r o.s).toNat).length + 1 = r.mail.length := by rw [List.length_eraseIdx_of_lt hl]; omega
    have J := I.upd (r' := takeRun r o.r (mailAt r o.s).toNat) (s := w.sent) (t := w.taken + 1) (l := w.lost) T.get
      ⟨⟨P.ok.id, P.ok.at_, P.ok.len, P.ok.full, by have := R.ok.room; simp only [takeRun]; omega, P.ok.state, by simp [takeRun], P.ok.turns, P.ok.slots, fun v hv => R.ok.mail v (List.mem_of_mem_eraseIdx hv), P.ok.links, P.ok.watched, P.ok.why, fun h => by have : (takeRun r o.r (mailAt r o.s).toNat).state = 1 := T.going; omega, P.ok.live⟩, P.id, P.at_, fun h => by have : (takeRun r o.r (mailAt r o.s).toNat).state = 1 := T.going; omega, P.full, P.links, P.watched⟩
      I.queue (I.q_same T.get Iff.rfl) ⟨n1, by omega, n3⟩ (by simp only [takeRun]; omega)
    unfold setRun
    rw [T.ei]
    exact ⟨J, rfl, rfl, by unfold Go.Proofs.YtdpffdpgcooagaaGreat.phi; simp only; rw [aliveN_same T (by show r.state ≠ 3; rw [T.going]; decide)]; omega, by simp⟩
  · rename_i h0
    split
    · rename_i h7; exact T.waitK I (by omega) ⟨.inl ⟨h7, rfl⟩, by omega⟩
    · rename_i h7
      have h8 : o.kind = 8 := by omega
      split
      · have A := T.to I (fun x => by simp [goesTo, h8]) (by simp [hasT, h8])
        rw [if_neg (show ¬ o.kind = 5 by omega)] at A
        exact T.keep I (R.goes I.safe rfl T.going R.ok.mail R.ok.room (by simp) rfl rfl (R.ok.live (by rw [T.going]; decide)) rfl R.ok.len R.ok.full R.ok.slots A.1 A.2) T.going rfl
      · have := op_after T.ok h8
        exact T.waitK I (by omega) ⟨.inr ⟨h8, by omega⟩, by omega⟩
end
end Go.Proofs.YtdpffdpgcooagaaGreat
