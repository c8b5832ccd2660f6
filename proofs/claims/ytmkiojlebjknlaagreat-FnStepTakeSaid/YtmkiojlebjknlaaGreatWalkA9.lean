/-
  What functions of the seat answer, each proved once; each under the condition that cells bear what it is given, as its statement says.
-/
import Derived.Test.YtmkiojlebjknlaaGreatWalkA8
set_option linter.all false
/-
 WORLDS IN PLAIN DATA: steps keep what holds.
-/
set_option maxRecDepth 8000
namespace Go.Proofs.YtmkiojlebjknlaaGreat
open Go.AM
variable {w : PWorld}
def phi (w : PWorld) : Int := w.sent + 12 * aliveN w.runs
structure Kept (w : PWorld) (d : Int) (w' : PWorld) : Prop where
 inv : Inv w'
 code : w'.code = w.code
 now : w'.now = w.now
 phi : phi w' ≤ phi w + d
 len : w.runs.length ≤ w'.runs.length
theorem Kept.refl (I : Inv w) : Kept w 0 w := ⟨I, rfl, rfl, by omega, Nat.le_refl _⟩
theorem Kept.trans {a b c : PWorld} {d e : Int} (x : Kept a d b) (y : Kept b e c) : Kept a (d + e) c :=
 ⟨y.inv, by rw [y.code, x.code], by rw [y.now, x.now], by have := x.phi; have := y.phi; omega, Nat.le_trans x.len y.len⟩
theorem Kept.le {d e : Int} {w' : PWorld} (x : Kept w d w') (h : d ≤ e) : Kept w e w' := ⟨x.inv, x.code, x.now, by have := x.phi; omega, x.len⟩
theorem Inv.giveK (I : Inv w) (id : Int) {v : PVal} (hv : valOk v = true) : Kept w 1 (giveP w id v) := by
 obtain ⟨J, hs⟩ := I.give id hv
 exact ⟨J, (giveP_len _ _ _).2, giveP_now _ _ _, by unfold Go.Proofs.YtmkiojlebjknlaaGreat.phi; rw [hs, aliveN_give]; omega, by rw [(giveP_len _ _ _).1]; exact Nat.le_refl _⟩
theorem fallN_kept {why : PVal} (hw : valOk why = true) : ∀ (n : Nat) {w : PWorld} (ks : List Int), Inv w → Kept w 0 (fallN n w ks why)
 | 0, w, ks, I => Kept.refl I
 | n + 1, w, [], I => Kept.refl I
 | n + 1, w, k :: ks, I => by
  unfold fallN
  split
  ·rename_i ha
   obtain ⟨E, h1, h2⟩ := I.endP ha hw
   have K : Kept w 0 (endP w k why).1 := ⟨E.inv, E.code, E.now, by have := E.sent; have := E.alive; unfold Go.Proofs.YtmkiojlebjknlaaGreat.phi; omega, by rw [E.len]; exact Nat.le_refl _⟩
   exact K.trans (fallN_kept hw n _ E.inv)
  ·exact fallN_kept hw n ks I
theorem fallN_len {why : PVal} (hw : valOk why = true) : ∀ (n : Nat) {w : PWorld} (ks : List Int), Inv w → (fallN n w ks why).runs.length = w.runs.length
 | 0, w, ks, I => rfl
 | n + 1, w, [], I => rfl
 | n + 1, w, k :: ks, I => by
  unfold fallN
  split
  ·rename_i ha
   obtain ⟨E, h1, h2⟩ := I.endP ha hw
   rw [fallN_len hw n _ E.inv, E.len]
  ·exact fallN_len hw n ks I
theorem op_kind {o : POp} (h : opOk o = true) : 1 ≤ o.kind ∧ o.kind ≤ 14 := by
 simp only [opOk, Bool.and_eq_true, decide_eq_true_eq] at h; exact h.1.1.1.1
theorem op_r {o : POp} (h : opOk o = true) : 0 ≤ o.r ∧ o.r ≤ 3 := by
 simp only [opOk, Bool.and_eq_true] at h
 have := h.1.1.1.2
 split at this <;> simp at this <;> omega
theorem op_s {o : POp} (h : opOk o = true) : 0 ≤ o.s ∧ o.s ≤ 3 := by
 simp only [opOk, Bool.and_eq_true] at h
 have := h.1.1.2
 split at this <;> simp at this <;> omega
theorem op_v {o : POp} (h : opOk o = true) : valOk o.v = true := by
 simp only [opOk, Bool.and_eq_true] at h
 have := h.2
 unfold opVOk at this
 split at this
 ·simp at this; unfold valOk; simp [this]; omega
 ·split at this
  ·simp at this; unfold valOk; simp [this]; omega
  ·split at this
   ·exact this
   ·simp at this; unfold valOk; simp [this]
theorem op_after {o : POp} (h : opOk o = true) (k : o.kind = 8) : 1 ≤ o.v.n ∧ o.v.n ≤ 99 := by
 simp only [opOk, Bool.and_eq_true] at h
 have := h.2
 unfold opVOk at this
 rw [if_pos k] at this
 simp at this; omega
theorem code_to {code : List POp} (S : CodeSafe code) {i : Nat} (hi : i < code.length) (hT : hasT code[i].kind = true) : 0 ≤ code[i].to ∧ code[i].to < code.length := by
 have := S.ok
 simp only [codeOk, Bool.and_eq_true, List.all_eq_true, Bool.or_eq_true, decide_eq_true_eq, Bool.not_eq_true'] at this
 have q := (this.2 _ (List.getElem_mem hi)).2
 rw [hT] at q
 have o := (this.2 _ (List.getElem_mem hi)).1
 simp only [opOk, Bool.and_eq_true] at o
 have o2 := o.1.2
 rw [hT] at o2
 simp at o2 q
 omega
theorem RunI.goes {code : List POp} {now : Int} {n i : Nat} {r : PRun} (S : CodeSafe code) (R : RunI code now n i r) {r' : PRun} (hid : r'.id = r.id) (hst : r'.state = 1) (hm : ∀ v ∈ r'.mail, valOk v = true) (hml : r'.mail.length ≤ 12)
  (hdue : -1 ≤ r'.due ∧ r'.due ≤ 400) (hl : r'.links = r.links) (hw : r'.watched = r.watched) (hwhy : r'.why = ⟨0, 0⟩) (ht : r'.turns = r.turns) (hsl : r'.slots.length = 4) (hfull : 0 ≤ r'.full ∧ r'.full ≤ 15)
  (hs : ∀ i (hi : i < r'.slots.length), valOk r'.slots[i] = true ∧ (has r'.full i = false → r'.slots[i] = ⟨0, 0⟩)) (hat : 0 ≤ r'.at_ ∧ r'.at_ < code.length)
  (hf : 0 ≤ (fullR code)[r'.at_.toNat]?.getD 0 ∧ both ((fullR code)[r'.at_.toNat]?.getD 0) r'.full = (fullR code)[r'.at_.toNat]?.getD 0) : RunI code now n i r' := by
 have h16 := (codeOk_len S.ok).2
 refine ⟨⟨by rw [hid]; exact R.ok.id, by omega, hsl, hfull, hml, by omega, hdue, by rw [ht]; exact R.ok.turns, hs, hm, by rw [hl, hid]; exact R.ok.links, by rw [hw, hid]; exact R.ok.watched, by rw [hwhy]; rfl, fun h => by omega, fun _ => hwhy⟩, by rw [hid]; exact R.id, hat.2, fun h => by omega, fun _ => hf, by rw [hl]; exact R.links, by rw [hw]; exact R.watched⟩
theorem put_slots {r : PRun} (R : RunOk r) {slot : Int} (h0 : 0 ≤ slot) (h3 : slot ≤ 3) {v : PVal} (hv : valOk v = true) :
  (putRun r slot v).slots.length = 4 ∧ (0 ≤ (putRun r slot v).full ∧ (putRun r slot v).full ≤ 15) ∧ ∀ i (hi : i < (putRun r slot v).slots.length), valOk (putRun r slot v).slots[i] = true ∧ (has (putRun r slot v).full i = false → (putRun r slot v).slots[i] = ⟨0, 0⟩) := by
 have hl := R.len
 refine ⟨by simp [putRun, hl], withB_range R.full.1 R.full.2 h0 h3, fun i hi => ?_⟩
 have hi4 : i < 4 := by simp [putRun, hl] at hi; omega
 have q := R.slots i (by omega)
 simp only [putRun, List.getElem_set]
 rw [hasW R.full.1 R.full.2 h0 h3 (by omega) (by omega)]
 split
 ·rename_i e
  refine ⟨hv, fun h => ?_⟩
  have : slot = i := by omega
  simp [this] at h
 ·rename_i e
  refine ⟨q.1, fun h => q.2 ?_⟩
  simp at h; exact h.2
theorem slotAt_ok {r : PRun} (R : RunOk r) {k : Int} (h0 : 0 ≤ k) (h3 : k ≤ 3) : valOk (slotAt r k) = true := by
 have hl := R.len
 unfold slotAt
 rw [List.getElem?_eq_getElem (by omega), Option.getD_some]
 exact (R.slots _ (by omega)).1
structure Turn (w : PWorld) (id : Int) (i : Nat) (r : PRun) (o : POp) : Prop where
 e0 : id = i + 1
 ei : (id - 1).toNat = i
 hi : i < w.runs.length
 get : w.runs[i]? = some r
 at_ : runAt w id = r
 run : RunI w.code w.now w.runs.length i r
 going : r.state = 1
 op : codeAt w r.at_ = o
 opg : r.at_.toNat < w.code.length ∧ w.code[r.at_.toNat]? = some o
 ok : opOk o = true
theorem Inv.turn (I : Inv w) {id : Int} (hid : 1 ≤ id ∧ id ≤ w.runs.length) (hg : (runAt w id).state = 1) : ∃ i, Turn w id i (runAt w id) (codeAt w (runAt w id).at_) := by
 obtain ⟨i, e, ei, hl, hgt, R⟩ := I.run hid
 have h0 := R.ok.at_.1
 have h1 := R.at_
 have hn : (runAt w id).at_.toNat < w.code.length := by omega
 have e2 : w.code[(runAt w id).at_.toNat]? = some (codeAt w (runAt w id).at_) := by unfold codeAt; rw [List.getElem?_eq_getElem hn]; rfl
 exact ⟨i, e, ei, hl, hgt, rfl, R, hg, rfl, ⟨hn, e2⟩, codeOk_op I.safe.ok _ (List.mem_of_getElem? e2)⟩
section
variable {id : Int} {i : Nat} {r : PRun} {o : POp}
theorem Turn.idr (T : Turn w id i r o) (I : Inv w) : 1 ≤ id ∧ id ≤ 6 ∧ id ≤ w.runs.length := by have := I.many; have := T.hi; have := T.e0; omega
theorem Turn.next (T : Turn w id i r o) (I : Inv w) (hk : ¬ (o.kind = 9 ∨ o.kind = 14)) : 0 ≤ r.at_ + 1 ∧ r.at_ + 1 < w.code.length ∧ 0 ≤ (fullR w.code)[(r.at_ + 1).toNat]?.getD 0 ∧ both ((fullR w.code)[(r.at_ + 1).toNat]?.getD 0) (onward o r.full) = (fullR w.code)[(r.at_ + 1).toNat]?.getD 0 := by
 have R := T.run
 have h0 := R.ok.at_.1
 have hf := R.full (by rw [T.going]; decide)
 have ho : w.code[r.at_.toNat]'T.opg.1 = o := by have := T.opg.2; rw [List.getElem?_eq_getElem T.opg.1] at this; simpa using this
 have A := full_arrows I.safe T.opg.1 hf.1
 simp only [ho] at A
 obtain ⟨a1, a2, a3⟩ := A
 obtain ⟨b1, b2, b3⟩ := a3 hk
 have e : (r.at_ + 1).toNat = r.at_.toNat + 1 := by omega
 rw [e]
 refine ⟨by omega, by omega, b2, ?_⟩
 have hB := (fullR_props (codeOk_op I.safe.ok)).1
 have h15 : (fullR w.code)[r.at_.toNat + 1]?.getD 0 ≤ 15 := by
  cases hh : (fullR w.code)[r.at_.toNat + 1]? with
  | none => simp
  | some x => exact (hB x (List.mem_of_getElem? hh)).2
 have q := onward_range T.ok hf.1 a1
 have q2 := onward_range T.ok R.ok.full.1 R.ok.full.2
 refine both_trans b2 h15 q.1 q.2 q2.1 q2.2 b3 ?_
 unfold onward
 split
 ·exact (withB_mono hf.1 a1 R.ok.full.1 R.ok.full.2 (op_r T.ok).1 (op_r T.ok).2 hf.2).1
 ·exact hf.2
theorem Turn.to (T : Turn w id i r o) (I : Inv w) (hb : ∀ x, goesTo o x = some (if o.kind = 5 then 1 else x)) (hT : hasT o.kind = true) : (0 ≤ o.to ∧ o.to < w.code.length) ∧ 0 ≤ (fullR w.code)[o.to.toNat]?.getD 0 ∧ both ((fullR w.code)[o.to.toNat]?.getD 0) (if o.kind = 5 then 1 else r.full) = (fullR w.code)[o.to.toNat]?.getD 0 := by
 have R := T.run
 have hf := R.full (by rw [T.going]; decide)
 have ho : w.code[r.at_.toNat]'T.opg.1 = o := by have := T.opg.2; rw [List.getElem?_eq_getElem T.opg.1] at this; simpa using this
 have A := full_arrows I.safe T.opg.1 hf.1
 have C := code_to I.safe T.opg.1
 simp only [ho] at A C
 obtain ⟨a1, a2, a3⟩ := A
 obtain ⟨b2, b3⟩ := a2 _ (hb _)
 have hB := (fullR_props (codeOk_op I.safe.ok)).1
 have h15 : (fullR w.code)[o.to.toNat]?.getD 0 ≤ 15 := by
  cases hh : (fullR w.code)[o.to.toNat]? with
  | none => simp
  | some x => exact (hB x (List.mem_of_getElem? hh)).2
 refine ⟨C hT, b2, ?_⟩
 split at b3
 ·rename_i h5; rw [if_pos h5]; exact b3
 ·rename_i h5; rw [if_neg h5]; exact both_trans b2 h15 hf.1 a1 R.ok.full.1 R.ok.full.2 b3 hf.2
theorem aliveN_same {r' : PRun} (T : Turn w id i r o) (h : r'.state ≠ 3) : aliveN (w.runs.set i r') = aliveN w.runs := by
 have := aliveN_set (r' := r') T.get
 have g := T.going
 rw [if_pos (by rw [g]; decide), if_pos h] at this
 omega
theorem Turn.keep (T : Turn w id i r o) (I : Inv w) {r' : PRun} (R' : RunI w.code w.now w.runs.length i r') (h1 : r'.state = 1) (hm : r'.mail.length = r.mail.length) : Kept w 0 (setRun w id r') := by
 have J := I.upd (r' := r') (s := w.sent) (t := w.taken) (l := w.lost) T.get R' I.queue (I.q_same T.get (by rw [h1, T.going])) I.nn (by omega)
 unfold setRun
 rw [T.ei]
 exact ⟨J, rfl, rfl, by unfold Go.Proofs.YtmkiojlebjknlaaGreat.phi; simp only; rw [aliveN_same T (by rw [h1]; decide)]; omega, by simp⟩
theorem Turn.nextI (T : Turn w id i r o) (I : Inv w) (hk : ¬ (o.kind = 9 ∨ o.kind = 14)) (hf : fillsK o.kind = false) : RunI w.code w.now w.runs.length i (nextRun r) := by
 have R := T.run
 obtain ⟨a1, a2, a3, a4⟩ := T.next I hk
 unfold onward at a4
 rw [hf] at a4
 exact R.goes I.safe rfl T.going R.ok.mail R.ok.room R.ok.due rfl rfl (R.ok.live (by rw [T.going]; decide)) rfl R.ok.len R.ok.full R.ok.slots ⟨a1, a2⟩ ⟨a3, a4⟩
theorem Turn.putI (T : Turn w id i r o) (I : Inv w) (hk : ¬ (o.kind = 9 ∨ o.kind = 14)) {v : PVal} (hv : valOk v = true) : RunI w.code w.now w.runs.length i (nextRun (putRun r o.r v)) := by
 have R := T.run
 obtain ⟨a1, a2, a3, a4⟩ := T.next I hk
 obtain ⟨p1, p2, p3⟩ := put_slots R.ok (op_r T.ok).1 (op_r T.ok).2 hv
 refine R.goes I.safe rfl T.going R.ok.mail R.ok.room R.ok.due rfl rfl (R.ok.live (by rw [T.going]; decide)) rfl p1 p2 p3 ⟨a1, a2⟩ ⟨a3, ?_⟩
 show both _ (withB r.full o.r) = _
 unfold onward at a4
 split at a4
 ·exact a4
 ·have hB := (fullR_props (codeOk_op I.safe.ok)).1
  have h15 : (fullR w.code)[(r.at_ + 1).toNat]?.getD 0 ≤ 15 := by
   cases hh : (fullR w.code)[(r.at_ + 1).toNat]? with
   | none => simp
   | some x => exact (hB x (List.mem_of_getElem? hh)).2
  exact (withB_mono a3 h15 R.ok.full.1 R.ok.full.2 (op_r T.ok).1 (op_r T.ok).2 a4).2
theorem Turn.setK (T : Turn w id i r o) (I : Inv w) (hk : ¬ (o.kind = 9 ∨ o.kind = 14)) {v : PVal} (hv : valOk v = true) : Kept w 0 (setP w id o.r v) := by
 unfold setP
 rw [T.at_]
 exact T.keep I (T.putI I hk hv) T.going rfl
theorem Turn.waitK (T : Turn w id i r o) (I : Inv w) {due : Int} (hd : -1 ≤ due ∧ due ≤ 400) (hw : (o.kind = 7 ∧ due = 0 ∨ o.kind = 8 ∧ w.now < due) ∧ mailAt r o.s < 0) : Kept w 0 (waitP w id due) := by
 have R := T.run
 have hop : w.code[r.at_.toNat]?.getD default = o := by rw [T.opg.2]; rfl
 have Q := I.q_less (r' := { r with state := 2, due := due }) (i := i) (by simp)
 have J := I.upd (r' := { r with state := 2, due := due }) (s := w.sent) (t := w.taken) (l := w.lost) T.get
  ⟨⟨R.ok.id, R.ok.at_, R.ok.len, R.ok.full, R.ok.room, by simp, hd, R.ok.turns, R.ok.slots, R.ok.mail, R.ok.links, R.ok.watched, R.ok.why, fun h => by simp at h, fun _ => R.ok.live (by rw [T.going]; decide)⟩, R.id, R.at_, fun _ => by simp only; rw [hop]; exact hw, fun _ => R.full (by rw [T.going]; decide), R.links, R.watched⟩ Q.1 Q.2 I.nn (by simp only; omega)
 unfold waitP setRun
 rw [T.at_, T.ei]
 simp only
 rw [T.e0]
 exact ⟨J, rfl, rfl, by unfold Go.Proofs.YtmkiojlebjknlaaGreat.phi; simp only; rw [aliveN_same T (by simp)]; omega, by simp⟩
theorem firstAt_lt {α : Type} {p : α → Bool} {xs : List α} (h : 0 ≤ firstAt p xs) : (firstAt p xs).toNat < xs.length := by
 unfold firstAt at h ⊢
 cases hf : xs.findIdx? p with
 | none => rw [hf] at h; simp at h
 | some i =>
  have := List.findIdx?_eq_some_iff_findIdx_eq.1 hf
  simp only; omega
theorem Turn.takeK (T : Turn w id i r o) (I : Inv w) (hk : o.kind = 7 ∨ o.kind = 8) : Kept w 0 (takeP w id o) := by
 have R := T.run
 obtain ⟨n1, n2, n3⟩ := I.nn
 have hnow := I.now
 have hk9 : ¬ (o.kind = 9 ∨ o.kind = 14) := by omega
 unfold takeP
 rw [T.at_]
 split
 ·rename_i h0
  have hlt := firstAt_lt h0
  have hl : (mailAt r o.s).toNat < r.mail.length := hlt
  have hv : valOk (r.mail[(mailAt r o.s).toNat]?.getD default) = true := by rw [List.getElem?_eq_getElem hl, Option.getD_some]; exact R.ok.mail _ (List.getElem_mem hl)
  have P := T.putI I hk9 hv
  have hlen : (r.mail.eraseIdx (mailAt r o.s).toNat).length + 1 = r.mail.length := by rw [List.length_eraseIdx_of_lt hl]; omega
  have J := I.upd (r' := takeRun r o.r (mailAt r o.s).toNat) (s := w.sent) (t := w.taken + 1) (l := w.lost) T.get
   ⟨⟨P.ok.id, P.ok.at_, P.ok.len, P.ok.full, by have := R.ok.room; simp only [takeRun]; omega, P.ok.state, by simp [takeRun], P.ok.turns, P.ok.slots, fun v hv => R.ok.mail v (List.mem_of_mem_eraseIdx hv), P.ok.links, P.ok.watched, P.ok.why, fun h => by have : (takeRun r o.r (mailAt r o.s).toNat).state = 1 := T.going; omega, P.ok.live⟩, P.id, P.at_, fun h => by have : (takeRun r o.r (mailAt r o.s).toNat).state = 1 := T.going; omega, P.full, P.links, P.watched⟩
   I.queue (I.q_same T.get Iff.rfl) ⟨n1, by omega, n3⟩ (by simp only [takeRun]; omega)
  unfold setRun
  rw [T.ei]
  exact ⟨J, rfl, rfl, by unfold Go.Proofs.YtmkiojlebjknlaaGreat.phi; simp only; rw [aliveN_same T (by show r.state ≠ 3; rw [T.going]; decide)]; omega, by simp⟩
 ·rename_i h0
  split
  ·rename_i h7; exact T.waitK I (by omega) ⟨.inl ⟨h7, rfl⟩, by omega⟩
  ·rename_i h7
   have h8 : o.kind = 8 := by omega
   split
   ·have A := T.to I (fun x => by simp [goesTo, h8]) (by simp [hasT, h8])
    rw [if_neg (show ¬ o.kind = 5 by omega)] at A
    exact T.keep I (R.goes I.safe rfl T.going R.ok.mail R.ok.room (by simp) rfl rfl (R.ok.live (by rw [T.going]; decide)) rfl R.ok.len R.ok.full R.ok.slots A.1 A.2) T.going rfl
   ·have := op_after T.ok h8
    exact T.waitK I (by omega) ⟨.inr ⟨h8, by omega⟩, by omega⟩
end
end Go.Proofs.YtmkiojlebjknlaaGreat

/-
 WORLDS IN PLAIN DATA: begins, links; a step, a turn.
-/
set_option maxRecDepth 8000
namespace Go.Proofs.YtmkiojlebjknlaaGreat
open Go.AM
variable {w : PWorld}
section
variable {id : Int} {i : Nat} {r : PRun} {o : POp}
theorem aliveN_app (a b : List PRun) : aliveN (a ++ b) = aliveN a + aliveN b := by simp [aliveN]
theorem newRun_ok {code : List POp} (S : CodeSafe code) {now : Int} {n : Nat} (hn : n < 6) {to : Int} (ht : 0 ≤ to ∧ to < code.length) {id : Int} (hid : 1 ≤ id ∧ id ≤ 6) (hf : 0 ≤ (fullR code)[to.toNat]?.getD 0 ∧ both ((fullR code)[to.toNat]?.getD 0) 1 = (fullR code)[to.toNat]?.getD 0) {m : Nat} :
  RunI code now m n (newRun (n + 1) to ⟨3, id⟩) := by
 have h16 := (codeOk_len S.ok).2
 refine ⟨⟨by simp only [newRun]; omega, by simp only [newRun]; omega, rfl, by simp [newRun], by simp [newRun], by simp [newRun], by simp [newRun], by simp [newRun], ?_, by simp [newRun], ⟨by simp [newRun], by simp [newRun]⟩, ⟨by simp [newRun], by simp [newRun]⟩, rfl, by simp [newRun], fun _ => rfl⟩, rfl, ht.2, by simp [newRun], fun _ => hf, by simp [newRun], by simp [newRun]⟩
 intro i hi
 have hi4 : i < 4 := hi
 match i, hi4 with
 | 0, _ => exact ⟨valOk_run hid, fun h => by simp [newRun, has] at h⟩
 | 1, _ => exact ⟨rfl, fun _ => rfl⟩
 | 2, _ => exact ⟨rfl, fun _ => rfl⟩
 | 3, _ => exact ⟨rfl, fun _ => rfl⟩
theorem Turn.addK (T : Turn w id i r o) (I : Inv w) (hk : o.kind = 5) (hn : w.runs.length < 6) : Kept w 12 (addRunP w id o) ∧ Turn (addRunP w id o) id i r o := by
 have R := T.run
 obtain ⟨i1, i2, i3⟩ := T.idr I
 have A := T.to I (fun x => by simp [goesTo, hk]) (by simp [hasT, hk])
 rw [if_pos hk] at A
 have N : ∀ m, RunI w.code w.now m w.runs.length (newRun (w.runs.length + 1) o.to ⟨3, id⟩) := fun m => newRun_ok I.safe hn A.1 ⟨i1, i2⟩ A.2
 have J : Inv (addRunP w id o) := by
  refine ⟨I.safe, by simp [addRunP]; omega, I.now, I.nn, ?_, fun q => ?_, fun j a ha => ?_, ?_⟩
  ·refine List.nodup_append.2 ⟨I.queue, by simp, fun a ha b hb e => ?_⟩
   simp at hb; subst hb; subst e
   obtain ⟨j, hj, b, hb, _⟩ := (I.mem _).1 ha
   have := (List.getElem?_eq_some_iff.1 hb).1
   omega
  ·simp only [addRunP, List.mem_append, List.mem_singleton, I.mem]
   constructor
   ·rintro (⟨j, e, b, hb, h1⟩ | rfl)
    ·exact ⟨j, e, b, by rw [List.getElem?_append_left (List.getElem?_eq_some_iff.1 hb).1]; exact hb, h1⟩
    ·exact ⟨w.runs.length, rfl, newRun (w.runs.length + 1) o.to ⟨3, id⟩, by simp, rfl⟩
   ·rintro ⟨j, e, b, hb, h1⟩
    by_cases hj : j < w.runs.length
    ·rw [List.getElem?_append_left hj] at hb
     exact .inl ⟨j, e, b, hb, h1⟩
    ·have hj2 := (List.getElem?_eq_some_iff.1 hb).1
     simp at hj2
     right; omega
  ·simp only [addRunP, List.length_append, List.length_singleton] at ha ⊢
   by_cases hj : j < w.runs.length
   ·rw [List.getElem?_append_left hj] at ha
    exact (I.each j a ha).more (by omega)
   ·have hj2 := (List.getElem?_eq_some_iff.1 ha).1
    simp at hj2
    have : j = w.runs.length := by omega
    subst this
    simp at ha; subst ha
    exact N _
  ·simp only [addRunP, mailSum_app]
   have := I.sum
   simp [mailSum, newRun] at this ⊢; omega
 have hg : (addRunP w id o).runs[i]? = some r := by simp only [addRunP]; rw [List.getElem?_append_left T.hi]; exact T.get
 refine ⟨⟨J, rfl, rfl, ?_, by simp [addRunP]⟩, ⟨T.e0, T.ei, by simp [addRunP]; have := T.hi; omega, hg, ?_, by have := R.more (m := (addRunP w id o).runs.length) (by simp [addRunP]); exact this, T.going, T.op, T.opg, T.ok⟩⟩
 ·unfold Go.Proofs.YtmkiojlebjknlaaGreat.phi
  simp only [addRunP, aliveN_app]
  have : aliveN [newRun (↑w.runs.length + 1) o.to ⟨3, id⟩] = 1 := by simp [aliveN, newRun]
  omega
 ·unfold runAt; rw [T.ei, hg]; rfl
theorem Turn.nextK (T : Turn w id i r o) (I : Inv w) (hk : ¬ (o.kind = 9 ∨ o.kind = 14)) (hf : fillsK o.kind = false) : Kept w 0 (setRun w id (nextRun r)) := T.keep I (T.nextI I hk hf) T.going rfl
theorem idsOk_app {xs : List Int} {own k : Int} (h : IdsOk xs own) (hk : 1 ≤ k ∧ k ≤ 6) (hne : k ≠ own) (hn : k ∉ xs) : IdsOk (xs ++ [k]) own :=
 ⟨List.nodup_append.2 ⟨h.1, by simp, fun a ha b hb e => by simp at hb; subst hb; subst e; exact hn ha⟩, fun x hx => by
  rcases List.mem_append.1 hx with hx | hx
  ·exact h.2 x hx
  ·simp at hx; subst hx; exact ⟨hk.1, hk.2, hne⟩⟩
theorem Inv.linkK (I : Inv w) {k x : Int} (hk : Alive w k) (hx : (1 ≤ x ∧ x ≤ w.runs.length) ∧ x ≠ k ∧ x ∉ (runAt w k).links) : Kept w 0 (setRun w k { runAt w k with links := (runAt w k).links ++ [x] }) := by
 have hal := hk.2
 obtain ⟨i, rfl, ei, hl, hg, R⟩ := I.run hk.1
 have h6 := I.many.2
 unfold setRun
 rw [ei]
 generalize runAt w (↑i + 1) = r at *
 have J := I.upd (r' := { r with links := r.links ++ [x] }) (s := w.sent) (t := w.taken) (l := w.lost) hg
  ⟨⟨R.ok.id, R.ok.at_, R.ok.len, R.ok.full, R.ok.room, R.ok.state, R.ok.due, R.ok.turns, R.ok.slots, R.ok.mail, idsOk_app R.ok.links (by omega) (by rw [R.id]; exact hx.2.1) hx.2.2, R.ok.watched, R.ok.why, fun h => absurd h hal, R.ok.live⟩, R.id, R.at_, R.wait, R.full, fun q hq => by
   rcases List.mem_append.1 hq with hq | hq
   ·exact R.links q hq
   ·simp at hq; subst hq; exact hx.1.2, R.watched⟩ I.queue (I.q_same hg Iff.rfl) I.nn (by simp only; omega)
 refine ⟨J, rfl, rfl, ?_, by simp⟩
 have := aliveN_set (r' := { r with links := r.links ++ [x] }) hg
 unfold Go.Proofs.YtmkiojlebjknlaaGreat.phi
 simp only at this ⊢
 omega
theorem Inv.watchK (I : Inv w) {k x : Int} (hk : Alive w k) (hx : (1 ≤ x ∧ x ≤ w.runs.length) ∧ x ≠ k ∧ x ∉ (runAt w k).watched) : Kept w 0 (setRun w k { runAt w k with watched := (runAt w k).watched ++ [x] }) := by
 have hal := hk.2
 obtain ⟨i, rfl, ei, hl, hg, R⟩ := I.run hk.1
 have h6 := I.many.2
 unfold setRun
 rw [ei]
 generalize runAt w (↑i + 1) = r at *
 have J := I.upd (r' := { r with watched := r.watched ++ [x] }) (s := w.sent) (t := w.taken) (l := w.lost) hg
  ⟨⟨R.ok.id, R.ok.at_, R.ok.len, R.ok.full, R.ok.room, R.ok.state, R.ok.due, R.ok.turns, R.ok.slots, R.ok.mail, R.ok.links, idsOk_app R.ok.watched (by omega) (by rw [R.id]; exact hx.2.1) hx.2.2, R.ok.why, fun h => absurd h hal, R.ok.live⟩, R.id, R.at_, R.wait, R.full, R.links, fun q hq => by
   rcases List.mem_append.1 hq with hq | hq
   ·exact R.watched q hq
   ·simp at hq; subst hq; exact hx.1.2⟩ I.queue (I.q_same hg Iff.rfl) I.nn (by simp only; omega)
 refine ⟨J, rfl, rfl, ?_, by simp⟩
 have := aliveN_set (r' := { r with watched := r.watched ++ [x] }) hg
 unfold Go.Proofs.YtmkiojlebjknlaaGreat.phi
 simp only at this ⊢
 omega
theorem runAt_set {k q : Int} {x : PRun} (hk : 1 ≤ k ∧ k ≤ w.runs.length) (hq : 1 ≤ q) : runAt (setRun w k x) q = if q = k then x else runAt w q := by
 unfold runAt setRun
 simp only [List.getElem?_set]
 by_cases e : q = k
 ·subst e
  rw [if_pos rfl, if_pos rfl, if_pos (by omega)]; rfl
 ·rw [if_neg e, if_neg (by omega)]
theorem alive_set {k q : Int} {x : PRun} (hk : 1 ≤ k ∧ k ≤ w.runs.length) (hx : x.state = 3 ↔ (runAt w k).state = 3) : Alive (setRun w k x) q ↔ Alive w q := by
 unfold Alive
 rw [setRun_len]
 constructor
 ·rintro ⟨a, b⟩
  refine ⟨a, ?_⟩
  rw [runAt_set hk a.1] at b
  split at b
  ·rename_i e; subst e; exact fun h => b (hx.2 h)
  ·exact b
 ·rintro ⟨a, b⟩
  refine ⟨a, ?_⟩
  rw [runAt_set hk a.1]
  split
  ·rename_i e; subst e; exact fun h => b (hx.1 h)
  ·exact b
def Sym (w : PWorld) : Prop := ∀ a b : Int, (1 ≤ a ∧ a ≤ w.runs.length) → (1 ≤ b ∧ b ≤ w.runs.length) → (b ∈ (runAt w a).links ↔ a ∈ (runAt w b).links)
def WatchL (w : PWorld) : Prop := ∀ a : Int, (1 ≤ a ∧ a ≤ w.runs.length) → ∀ k ∈ (runAt w a).watched, Alive w k
structure Good (w : PWorld) : Prop where
 inv : Inv w
 sym : Sym w
 watch : WatchL w
def Up (r r' : PRun) : Prop := ∃ m s, r' = { r with mail := m, state := s } ∧ (s = 3 ↔ r.state = 3) ∧ (r.state = 3 → r' = r)
theorem Up.refl (r : PRun) : Up r r := ⟨r.mail, r.state, rfl, Iff.rfl, fun _ => rfl⟩
theorem Up.trans {a b c : PRun} (x : Up a b) (y : Up b c) : Up a c := by
 obtain ⟨m, s, rfl, h1, h2⟩ := x
 obtain ⟨m', s', rfl, h3, h4⟩ := y
 simp only at h3 h4
 exact ⟨m', s', rfl, h3.trans h1, fun h => by rw [h4 (h1.2 h), h2 h]⟩
theorem Up.unlink {a b : PRun} (x : Up a b) (id : Int) : Up { a with links := less a.links id } { b with links := less b.links id } := by
 obtain ⟨m, s, rfl, h1, h2⟩ := x
 refine ⟨m, s, rfl, h1, fun h => ?_⟩
 have e := h2 h
 have e1 : m = a.mail := congrArg (·.mail) e
 have e2 : s = a.state := congrArg (·.state) e
 rw [e1, e2]
theorem giveP_up (w : PWorld) (id : Int) (v : PVal) {q : Int} (hq : 1 ≤ q) : Up (runAt w q) (runAt (giveP w id v) q) := by
 unfold giveP
 split
 ·rename_i k
  obtain ⟨k1, k2, k3⟩ := k
  split
  ·have e := runAt_set (w := w) (x := { runAt w id with mail := (runAt w id).mail ++ [v], state := 1 }) k1 hq
   unfold setRun at e
   show Up _ (runAt { w with runs := w.runs.set (id - 1).toNat { runAt w id with mail := (runAt w id).mail ++ [v], state := 1 } } q)
   rw [e]
   split
   ·rename_i e; subst e; exact ⟨_, 1, rfl, by simp [k2], fun h => absurd h k2⟩
   ·exact Up.refl _
  ·have e := runAt_set (w := w) (x := { runAt w id with mail := (runAt w id).mail ++ [v] }) k1 hq
   unfold setRun at e
   show Up _ (runAt { w with runs := w.runs.set (id - 1).toNat { runAt w id with mail := (runAt w id).mail ++ [v] } } q)
   rw [e]
   split
   ·rename_i e; subst e; exact ⟨_, _, rfl, Iff.rfl, fun h => absurd h k2⟩
   ·exact Up.refl _
 ·exact Up.refl _
theorem tell_up {id : Int} {q : Int} (hq : 1 ≤ q) : ∀ (ks : List Int) (w : PWorld), Up (runAt w q) (runAt (tell id w ks) q)
 | [], w => Up.refl _
 | k :: ks, w => (giveP_up w k ⟨3, id⟩ hq).trans (tell_up hq ks _)
theorem less_less (xs : List Int) (n : Int) : less (less xs n) n = less xs n := by simp [less]
theorem less_none {xs : List Int} {n : Int} (h : n ∉ xs) : less xs n = xs := by
 unfold less; rw [List.filter_eq_self]; intro x hx; simp; intro e; subst e; exact h hx
theorem linkStep_up {id : Int} {why : PVal} {x : PWorld × List Int} {k q : Int} (hk : 1 ≤ k ∧ k ≤ x.1.runs.length) (hq : 1 ≤ q) :
  Up { runAt x.1 q with links := if q = k then less (runAt x.1 q).links id else (runAt x.1 q).links } (runAt (linkStep id why x k).1 q) ∧ (linkStep id why x k).1.runs.length = x.1.runs.length := by
 have e := runAt_set (w := x.1) (x := { runAt x.1 k with links := less (runAt x.1 k).links id }) hk hq
 have e2 : runAt (setRun x.1 k { runAt x.1 k with links := less (runAt x.1 k).links id }) q = { runAt x.1 q with links := if q = k then less (runAt x.1 q).links id else (runAt x.1 q).links } := by
  rw [e]; by_cases h : q = k
  ·subst h; simp
  ·simp [h]
 unfold linkStep
 rw [← e2]
 split
 ·exact ⟨Up.refl _, setRun_len⟩
 ·split
  ·exact ⟨giveP_up _ _ _ hq, by rw [(giveP_len _ _ _).1]; exact setRun_len⟩
  ·exact ⟨Up.refl _, setRun_len⟩
theorem links_up {id : Int} {why : PVal} {q : Int} (hq : 1 ≤ q) : ∀ (ks : List Int) (x : PWorld × List Int), (∀ k ∈ ks, 1 ≤ k ∧ k ≤ x.1.runs.length) →
  Up { runAt x.1 q with links := if q ∈ ks then less (runAt x.1 q).links id else (runAt x.1 q).links } (runAt (ks.foldl (linkStep id why) x).1 q)
 | [], x, _ => by simpa using Up.refl _
 | k :: ks, x, h => by
  obtain ⟨u, l⟩ := linkStep_up (id := id) (why := why) (h k (by simp)) hq
  have ih := links_up (id := id) (why := why) hq ks (linkStep id why x k) fun k' hk' => by rw [l]; exact h k' (by simp [hk'])
  simp only [List.foldl_cons]
  refine Up.trans ?_ ih
  by_cases a : q ∈ ks
  ·have u2 := u.unlink id
   simp only [a, List.mem_cons, or_true, ↓reduceIte]
   refine Up.trans ?_ u2
   by_cases b : q = k
   ·simp only [b, ↓reduceIte, less_less]; exact Up.refl _
   ·simp only [b, ↓reduceIte]; exact Up.refl _
  ·simp only [a, List.mem_cons, or_false, ↓reduceIte]
   exact u
theorem endBase_run {id : Int} {why : PVal} {q : Int} (hid : 1 ≤ id ∧ id ≤ w.runs.length) (hq : 1 ≤ q ∧ q ≤ w.runs.length) : runAt (endBase w id why) q = unwatch id (if q = id then clearRun (runAt w id) why else runAt w q) := by
 have e := runAt_set (w := w) (x := clearRun (runAt w id) why) hid hq.1
 unfold runAt setRun at e
 unfold Go.Proofs.YtmkiojlebjknlaaGreat.endBase
 rw [← show _ = (if q = id then clearRun (runAt w id) why else runAt w q) from e]
 unfold runAt
 simp only [List.getElem?_map]
 rw [List.getElem?_eq_getElem (by rw [List.length_set]; omega)]
 rfl
theorem unwatch_clear {r : PRun} {id : Int} {why : PVal} : unwatch id (clearRun r why) = clearRun r why := rfl
theorem Good.endRun (G : Good w) {id : Int} (ha : Alive w id) (why : PVal) {q : Int} (hq : 1 ≤ q ∧ q ≤ w.runs.length) :
  Up (if q = id then clearRun (runAt w id) why else { runAt w q with links := less (runAt w q).links id, watched := less (runAt w q).watched id }) (runAt (endP w id why).1 q) := by
 obtain ⟨i, e, ei, hl, hg, R⟩ := G.inv.run ha.1
 have hb : (endBase w id why).runs.length = w.runs.length := by simp [endBase]
 have hks : ∀ k ∈ (runAt w id).links, 1 ≤ k ∧ k ≤ w.runs.length := fun k hk => ⟨(R.ok.links.2 k hk).1, R.links k hk⟩
 have u := links_up (id := id) (why := why) hq.1 (runAt w id).links (endBase w id why, []) (by rw [hb]; exact hks)
 have u2 := u.trans (tell_up (id := id) hq.1 (runAt w id).watched _)
 refine Up.trans ?_ u2
 simp only
 rw [endBase_run ha.1 hq]
 by_cases a : q = id
 ·subst a
  have : ¬ q ∈ (runAt w q).links := fun h => (R.ok.links.2 q h).2.2 (by rw [R.id, e])
  simp only [this, ↓reduceIte, unwatch_clear]
  exact Up.refl _
 ·rw [if_neg a, if_neg a]
  by_cases b : q ∈ (runAt w id).links
  ·rw [if_pos b]; exact Up.refl _
  ·rw [if_neg b]
   have : id ∉ (runAt w q).links := fun h => b ((G.sym id q ha.1 hq).2 h)
   rw [less_none this]
   exact Up.refl _
theorem Up.state {a b : PRun} (u : Up a b) : (b.state = 3 ↔ a.state = 3) ∧ b.links = a.links ∧ b.watched = a.watched ∧ b.trap = a.trap ∧ b.why = a.why ∧ b.at_ = a.at_ ∧ b.full = a.full ∧ b.slots = a.slots ∧ b.turns = a.turns ∧ b.id = a.id ∧ b.due = a.due := by
 obtain ⟨m, s, rfl, h1, h2⟩ := u
 exact ⟨h1, rfl, rfl, rfl, rfl, rfl, rfl, rfl, rfl, rfl, rfl⟩
theorem Good.give (G : Good w) (id : Int) {v : PVal} (hv : valOk v = true) : Good (giveP w id v) := by
 have hl := (giveP_len w id v).1
 refine ⟨(G.inv.give id hv).1, fun a b ha hb => ?_, fun a ha k hk => ?_⟩
 ·rw [hl] at ha hb
  rw [(giveP_up w id v ha.1).state.2.1, (giveP_up w id v hb.1).state.2.1]
  exact G.sym a b ha hb
 ·rw [hl] at ha
  rw [(giveP_up w id v ha.1).state.2.2.1] at hk
  obtain ⟨k1, k2⟩ := G.watch a ha k hk
  exact ⟨by rw [hl]; exact k1, by rw [Ne, (giveP_up w id v k1.1).state.1]; exact k2⟩
theorem Good.end (G : Good w) {id : Int} (ha : Alive w id) {why : PVal} (hw : valOk why = true) : Good (endP w id why).1 ∧ ∀ q, Alive (endP w id why).1 q ↔ Alive w q ∧ q ≠ id := by
 obtain ⟨E, h1, h2⟩ := G.inv.endP ha hw
 have hl := E.len
 have up := fun {q : Int} (hq : 1 ≤ q ∧ q ≤ w.runs.length) => (G.endRun ha why hq).state
 have lk : ∀ {q : Int}, (1 ≤ q ∧ q ≤ w.runs.length) → ∀ x, x ∈ (runAt (endP w id why).1 q).links ↔ x ∈ (runAt w q).links ∧ x ≠ id ∧ q ≠ id := fun {q} hq x => by
  rw [(up hq).2.1]
  by_cases a : q = id
  ·simp [a, clearRun]
  ·simp [a, mem_less]
 have al : ∀ q, Alive (endP w id why).1 q ↔ Alive w q ∧ q ≠ id := fun q => by
  unfold Alive
  rw [hl]
  constructor
  ·rintro ⟨a, b⟩
   rw [Ne, (up a).1] at b
   by_cases c : q = id
   ·subst c; simp [clearRun] at b
   ·simp only [c, ↓reduceIte] at b; exact ⟨⟨a, b⟩, c⟩
  ·rintro ⟨⟨a, b⟩, c⟩
   refine ⟨a, ?_⟩
   rw [Ne, (up a).1]
   simp only [c, ↓reduceIte]; exact b
 refine ⟨⟨E.inv, fun a b ha' hb' => ?_, fun a ha' k hk => ?_⟩, al⟩
 ·rw [hl] at ha' hb'
  rw [lk ha', lk hb', G.sym a b ha' hb']
  constructor <;> rintro ⟨x, y, z⟩ <;> exact ⟨x, z, y⟩
 ·rw [hl] at ha'
  rw [(up ha').2.2.1] at hk
  rw [al]
  by_cases c : a = id
  ·simp [c, clearRun] at hk
  ·simp only [c, ↓reduceIte, mem_less] at hk
   exact ⟨G.watch a ha' k hk.1, hk.2⟩
theorem Good.fallN {why : PVal} (hw : valOk why = true) : ∀ (n : Nat) {w : PWorld} (ks : List Int), Good w → Good (fallN n w ks why)
 | 0, w, ks, G => G
 | n + 1, w, [], G => G
 | n + 1, w, k :: ks, G => by
  unfold Go.Proofs.YtmkiojlebjknlaaGreat.fallN
  split
  ·rename_i ha
   exact (G.end ha hw).1.fallN hw n _
  ·exact G.fallN hw n ks
theorem Good.set (G : Good w) {k : Int} (hk : 1 ≤ k ∧ k ≤ w.runs.length) {r' : PRun} {q : List Int} {n s t l : Int} (I : Inv { setRun w k r' with queue := q, now := n, sent := s, taken := t, lost := l }) (h1 : r'.links = (runAt w k).links) (h2 : r'.watched = (runAt w k).watched) (h3 : r'.state = 3 ↔ (runAt w k).state = 3) :
  Good { setRun w k r' with queue := q, now := n, sent := s, taken := t, lost := l } := by
 have hl : (setRun w k r').runs.length = w.runs.length := setRun_len
 refine ⟨I, fun a b ha hb => ?_, fun a ha x hx => ?_⟩
 ·change 1 ≤ a ∧ a ≤ (setRun w k r').runs.length at ha
  change 1 ≤ b ∧ b ≤ (setRun w k r').runs.length at hb
  rw [hl] at ha hb
  show b ∈ (runAt (setRun w k r') a).links ↔ a ∈ (runAt (setRun w k r') b).links
  rw [runAt_set hk ha.1, runAt_set hk hb.1]
  have := G.sym a b ha hb
  by_cases c : a = k <;> by_cases d : b = k <;> simp only [c, d, ↓reduceIte, h1] at this ⊢ <;> exact this
 ·change 1 ≤ a ∧ a ≤ (setRun w k r').runs.length at ha
  rw [hl] at ha
  change x ∈ (runAt (setRun w k r') a).watched at hx
  rw [runAt_set hk ha.1] at hx
  refine (alive_set hk h3).2 ?_
  by_cases c : a = k
  ·subst c; rw [if_pos rfl, h2] at hx; exact G.watch a ha x hx
  ·rw [if_neg c] at hx; exact G.watch a ha x hx
end
end Go.Proofs.YtmkiojlebjknlaaGreat
