/-
  What functions of the seat answer, each proved once; each under the condition that cells bear what it is given, as its statement says.
-/
import Derived.Test.YtmkiojlebjknlaaGreatWalkA5
set_option linter.all false
/-
 WORLDS THAT ARE CHANGED: what they own, part by part, and what one step of a change does.
-/
set_option maxRecDepth 8000
namespace Go.Proofs.YtmkiojlebjknlaaGreat
open Go.AM
variable {h h' : H}
inductive Key where
 | code | runs | queue | slots (i : Nat) | mail (i : Nat) | links (i : Nat) | watched (i : Nat)
 deriving DecidableEq
def fld (cs : List RunC) (i : Nat) (f : RunC → Cell) : Cell := match cs[i]? with | some r => f r | none => .nils
def part (c : WorldC) (cs : List RunC) : Key → Cell
 | .code => c.code | .runs => c.runs | .queue => c.queue
 | .slots i => fld cs i (·.slots) | .mail i => fld cs i (·.mail) | .links i => fld cs i (·.links) | .watched i => fld cs i (·.watched)
structure OwnK (lo : Nat) (h : H) (p : Key → Cell) : Prop where
 ge : ∀ k, ∀ id ∈ (p k).ids, lo ≤ id
 wr : ∀ k, Wr h (p k)
 one : ∀ k k' id, id ∈ (p k).ids → id ∈ (p k').ids → k = k'
 un : ∀ k, Un (p k)
def Owned (p : Key → Cell) (id : Nat) : Prop := ∃ k, id ∈ (p k).ids
theorem OwnK.lt {lo : Nat} {p : Key → Cell} (o : OwnK lo h p) {k : Key} : ∀ id ∈ (p k).ids, id < h.length := (o.wr k).lt
theorem OwnK.upd {lo : Nat} {p p' : Key → Cell} (o : OwnK lo h p) (hlo : lo ≤ h.length) (k : Key) (hp : ∀ k', k' ≠ k → p' k' = p k') (hc : Chg h (fun id => id ∈ (p k).ids) h') (hw : Wr h' (p' k)) (hu : Un (p' k)) (hi : ∀ id ∈ (p' k).ids, id ∈ (p k).ids ∨ h.length ≤ id) : OwnK lo h' p' := by
 have other : ∀ k', k' ≠ k → ∀ id ∈ (p k').ids, id ∉ (p' k).ids ∧ id ∉ (p k).ids := fun k' hk id hid => by
  have h1 : id ∉ (p k).ids := fun h => hk (o.one _ _ _ hid h)
  refine ⟨fun h => ?_, h1⟩
  rcases hi id h with h | h
  ·exact h1 h
  ·have := o.lt id hid; omega
 refine ⟨fun k' id hid => ?_, fun k' => ?_, fun k1 k2 id h1 h2 => ?_, fun k' => ?_⟩
 ·by_cases hk : k' = k
  ·subst hk
   rcases hi id hid with h | h
   ·exact o.ge _ id h
   ·omega
  ·rw [hp k' hk] at hid; exact o.ge _ id hid
 ·by_cases hk : k' = k
  ·subst hk; exact hw
  ·rw [hp k' hk]
   exact (o.wr k').same fun id hid => hc.keep id (o.lt id hid) (other k' hk id hid).2
 ·by_cases hk1 : k1 = k
  ·by_cases hk2 : k2 = k
   ·rw [hk1, hk2]
   ·rw [hp k2 hk2] at h2; subst hk1
    exact absurd h1 (other k2 hk2 id h2).1
  ·rw [hp k1 hk1] at h1
   by_cases hk2 : k2 = k
   ·subst hk2; exact absurd h2 (other k1 hk1 id h1).1
   ·rw [hp k2 hk2] at h2; exact o.one _ _ _ h1 h2
 ·by_cases hk : k' = k
  ·subst hk; exact hu
  ·rw [hp k' hk]; exact o.un k'
theorem OwnK.same {lo : Nat} {p : Key → Cell} (o : OwnK lo h p) (hk : ∀ id, Owned p id → h'.get id = h.get id) : OwnK lo h' p :=
 ⟨o.ge, fun k => (o.wr k).same fun id hid => hk id ⟨k, hid⟩, o.one, o.un⟩
structure WorldV (lo : Nat) (h : H) (w : PWorld) (c : WorldC) (st cs : List RunC) : Prop where
 code : Sl h c.code 6 encO w.code
 runs : Sl h c.runs 13 encR st
 stl : st.length = w.runs.length
 len : cs.length = w.runs.length
 each : ∀ i (hi : i < w.runs.length), RunR h w.runs[i] (cs[i]'(by omega))
 queue : Sl h c.queue 1 encI w.queue
 now : c.now = w.now
 sent : c.sent = w.sent
 taken : c.taken = w.taken
 lost : c.lost = w.lost
 own : OwnK lo h (part c cs)
 lo_le : lo ≤ h.length
variable {lo : Nat} {w : PWorld} {c : WorldC} {st cs : List RunC}
theorem WorldV.rd (hV : WorldV lo h w c cs cs) : WorldR h w c cs := ⟨hV.code, ⟨hV.runs, hV.len, hV.each⟩, hV.queue, hV.now, hV.sent, hV.taken, hV.lost⟩
theorem fld_at {f : RunC → Cell} {i : Nat} (hi : i < cs.length) : fld cs i f = f cs[i] := by simp [fld, hi]
theorem RunR.same4 {r : PRun} {r' : RunC} (hr : RunR h r r') (h1 : ∀ id ∈ r'.slots.ids, h'.get id = h.get id) (h2 : ∀ id ∈ r'.mail.ids, h'.get id = h.get id) (h3 : ∀ id ∈ r'.links.ids, h'.get id = h.get id) (h4 : ∀ id ∈ r'.watched.ids, h'.get id = h.get id) : RunR h' r r' :=
 ⟨hr.id, hr.at_, hr.slots.same h1, hr.full, hr.mail.same h2, hr.state, hr.due, hr.links.same h3, hr.watched.same h4, hr.trap, hr.why, hr.turns⟩
theorem WorldV.same (hV : WorldV lo h w c st cs) (hk : ∀ id, Owned (part c cs) id → h'.get id = h.get id) (hl : h.length ≤ h'.length) : WorldV lo h' w c st cs where
 code := hV.code.same fun id hid => hk id ⟨.code, hid⟩
 runs := hV.runs.same fun id hid => hk id ⟨.runs, hid⟩
 stl := hV.stl
 len := hV.len
 each := fun i hi => by
  have hi' : i < cs.length := by rw [hV.len]; exact hi
  exact (hV.each i hi).same4 (fun id hid => hk id ⟨.slots i, by simpa [part, fld_at hi'] using hid⟩) (fun id hid => hk id ⟨.mail i, by simpa [part, fld_at hi'] using hid⟩) (fun id hid => hk id ⟨.links i, by simpa [part, fld_at hi'] using hid⟩) (fun id hid => hk id ⟨.watched i, by simpa [part, fld_at hi'] using hid⟩)
 queue := hV.queue.same fun id hid => hk id ⟨.queue, hid⟩
 now := hV.now
 sent := hV.sent
 taken := hV.taken
 lost := hV.lost
 own := hV.own.same hk
 lo_le := Nat.le_trans hV.lo_le hl
theorem WorldV.ext (hV : WorldV lo h w c st cs) (x : Ext h h') : WorldV lo h' w c st cs := hV.same (fun id ⟨_, hid⟩ => x.2 id (hV.own.lt id hid)) x.1
theorem WorldV.chg (hV : WorldV lo h w c st cs) {o : Nat → Prop} (x : Chg h o h') (hn : ∀ id, Owned (part c cs) id → ¬ o id) : WorldV lo h' w c st cs := hV.same (fun id ho => x.keep id (by obtain ⟨_, hid⟩ := ho; exact hV.own.lt id hid) (hn id ho)) x.len
theorem WorldV.push (hV : WorldV lo h w c st cs) (b : Blk) : WorldV lo (h.push b) w c st cs := hV.ext (Ext.push h b)
structure StepV (h : H) (p : Key → Cell) (h' : H) (p' : Key → Cell) : Prop where
 chg : Chg h (Owned p) h'
 sub : ∀ id, Owned p' id → Owned p id ∨ h.length ≤ id
theorem StepV.refl (h : H) (p : Key → Cell) : StepV h p h p := ⟨Chg.refl _ _, fun _ h => .inl h⟩
theorem StepV.trans {h1 h2 h3 : H} {p1 p2 p3 : Key → Cell} (a : StepV h1 p1 h2 p2) (b : StepV h2 p2 h3 p3) : StepV h1 p1 h3 p3 := by
 refine ⟨a.chg.trans b.chg fun id hid ho => ?_, fun id ho => ?_⟩
 ·rcases a.sub id ho with h | h
  ·exact h
  ·omega
 ·rcases b.sub id ho with h | h
  ·exact a.sub id h
  ·right; have := a.chg.len; omega
theorem StepV.of_ext {p : Key → Cell} (x : Ext h h') : StepV h p h' p := ⟨Chg.of_ext x _, fun _ h => .inl h⟩
theorem StepV.one {p p' : Key → Cell} (k : Key) (hp : ∀ k', k' ≠ k → p' k' = p k') (hc : Chg h (fun id => id ∈ (p k).ids) h') (hi : ∀ id ∈ (p' k).ids, id ∈ (p k).ids ∨ h.length ≤ id) : StepV h p h' p' := by
 refine ⟨hc.mono fun id _ hid => ⟨k, hid⟩, fun id ⟨k', hid⟩ => ?_⟩
 by_cases hk : k' = k
 ·subst hk
  rcases hi id hid with h | h
  ·exact .inl ⟨_, h⟩
  ·exact .inr h
 ·rw [hp k' hk] at hid; exact .inl ⟨_, hid⟩
theorem StepV.ext {p p' : Key → Cell} (a : StepV h p h' p') {lo : Nat} (o : ∀ id, Owned p id → lo ≤ id) {h0 : H} (x : Ext h0 h) (hl : h0.length ≤ lo) : Ext h0 h' :=
 ⟨Nat.le_trans x.1 a.chg.len, fun id hid => by rw [a.chg.keep id (Nat.lt_of_lt_of_le hid x.1) (fun h => by have := o id h; omega), x.2 id hid]⟩
theorem OwnK.owned_ge {p : Key → Cell} (o : OwnK lo h p) : ∀ id, Owned p id → lo ≤ id := fun id ⟨k, hid⟩ => o.ge k id hid
/- ## The single steps -/
theorem WorldV.nums (hV : WorldV lo h w c st cs) (a b d e : Int) : WorldV lo h { w with now := a, sent := b, taken := d, lost := e } { c with now := a, sent := b, taken := d, lost := e } st cs :=
 ⟨hV.code, hV.runs, hV.stl, hV.len, hV.each, hV.queue, rfl, rfl, rfl, rfl, hV.own, hV.lo_le⟩
theorem WorldV.lay (hV : WorldV lo h w c st cs) {i : Nat} (hi : i < w.runs.length) {j : Nat} {xs : List Cell} {r' : RunC} (hx : encR r' = splice (encR (st[i]'(by have := hV.stl; omega))) j xs) (hj : j + xs.length ≤ 13) :
  ∃ h', h.write (sid c.runs) (soff c.runs + i) j xs = some h' ∧ WorldV lo h' w c (st.set i r') cs ∧ StepV h (part c cs) h' (part c cs) := by
 have hi' : i < st.length := by have := hV.stl; omega
 obtain ⟨h', e, s1, w1, l1, c1⟩ := hV.runs.write (hV.own.wr .runs) hi' hx hj
 have o := hV.own.upd hV.lo_le .runs (fun _ _ => rfl) c1 w1 (hV.own.un .runs) fun id hid => .inl hid
 have ne : ∀ {k : Key}, k ≠ .runs → ∀ id ∈ (part c cs k).ids, h'.get id = h.get id := fun hk id hid => c1.keep id (hV.own.lt id hid) fun hh => hk (hV.own.one _ _ _ hid hh)
 refine ⟨h', e, ⟨hV.code.same (ne (k := .code) (by simp)), s1, by simp [hV.stl], hV.len, fun q hq => ?_, hV.queue.same (ne (k := .queue) (by simp)), hV.now, hV.sent, hV.taken, hV.lost, o, by rw [l1]; exact hV.lo_le⟩, StepV.one .runs (fun _ _ => rfl) c1 fun id hid => .inl hid⟩
 have hq' : q < cs.length := by rw [hV.len]; exact hq
 refine (hV.each q hq).same4 (fun id hid => ne (k := .slots q) (by simp) id (by simpa [part, fld_at hq'] using hid)) (fun id hid => ne (k := .mail q) (by simp) id (by simpa [part, fld_at hq'] using hid)) (fun id hid => ne (k := .links q) (by simp) id (by simpa [part, fld_at hq'] using hid)) (fun id hid => ne (k := .watched q) (by simp) id (by simpa [part, fld_at hq'] using hid))
theorem WorldV.newQueue (hV : WorldV lo h w c st cs) {q : List Int} {s' : Cell} (hc : Chg h (fun id => id ∈ c.queue.ids) h') (hs : Sl h' s' 1 encI q) (hw : Wr h' s') (hu : Un s') (hids : ∀ id ∈ s'.ids, id ∈ c.queue.ids ∨ h.length ≤ id) :
  WorldV lo h' { w with queue := q } { c with queue := s' } st cs ∧ StepV h (part c cs) h' (part { c with queue := s' } cs) := by
 have hp : ∀ k', k' ≠ Key.queue → part { c with queue := s' } cs k' = part c cs k' := fun k' hk => by cases k' <;> first | rfl | exact absurd rfl hk
 have o := hV.own.upd (p' := part { c with queue := s' } cs) hV.lo_le .queue hp hc hw hu hids
 have ne : ∀ {k : Key}, k ≠ .queue → ∀ id ∈ (part c cs k).ids, h'.get id = h.get id := fun hk id hid => hc.keep id (hV.own.lt id hid) fun hh => hk (hV.own.one _ _ _ hid hh)
 refine ⟨⟨hV.code.same (ne (k := .code) (by simp)), hV.runs.same (ne (k := .runs) (by simp)), hV.stl, hV.len, fun q hq => ?_, hs, hV.now, hV.sent, hV.taken, hV.lost, o, Nat.le_trans hV.lo_le hc.len⟩, StepV.one .queue hp hc hids⟩
 have hq' : q < cs.length := by rw [hV.len]; exact hq
 exact (hV.each q hq).same4 (fun id hid => ne (k := .slots q) (by simp) id (by simpa [part, fld_at hq'] using hid)) (fun id hid => ne (k := .mail q) (by simp) id (by simpa [part, fld_at hq'] using hid)) (fun id hid => ne (k := .links q) (by simp) id (by simpa [part, fld_at hq'] using hid)) (fun id hid => ne (k := .watched q) (by simp) id (by simpa [part, fld_at hq'] using hid))
theorem fld_set {f : RunC → Cell} {i q : Nat} {r' : RunC} : fld (cs.set i r') q f = if q = i ∧ i < cs.length then f r' else fld cs q f := by
 simp only [fld, List.getElem?_set]
 by_cases hq : i = q
 ·subst hq
  by_cases hl : i < cs.length <;> simp [hl]
 ·rw [if_neg hq, if_neg (fun h => hq h.1.symm)]
theorem WorldV.flat (hV : WorldV lo h w c st cs) {i : Nat} (hi : i < w.runs.length) {r : PRun} {r' : RunC} (hr : RunR h r r') (h1 : r'.slots = (cs[i]'(by have := hV.len; omega)).slots) (h2 : r'.mail = (cs[i]'(by have := hV.len; omega)).mail) (h3 : r'.links = (cs[i]'(by have := hV.len; omega)).links) (h4 : r'.watched = (cs[i]'(by have := hV.len; omega)).watched) :
  WorldV lo h { w with runs := w.runs.set i r } c st (cs.set i r') ∧ part c (cs.set i r') = part c cs := by
 have hi' : i < cs.length := by have := hV.len; omega
 have hp : part c (cs.set i r') = part c cs := by
  funext k
  cases k <;> first | rfl | (simp only [part, fld_set]; split <;> first | rfl | (rename_i e; obtain ⟨rfl, _⟩ := e; rw [fld_at hi']; assumption))
 refine ⟨⟨hV.code, hV.runs, by simp [hV.stl], by simp [hV.len], fun q hq => ?_, hV.queue, hV.now, hV.sent, hV.taken, hV.lost, by rw [hp]; exact hV.own, hV.lo_le⟩, hp⟩
 simp only [List.length_set] at hq
 by_cases hqi : i = q
 ·subst hqi; simpa using hr
 ·simpa [List.getElem_set, hqi] using hV.each q hq
end Go.Proofs.YtmkiojlebjknlaaGreat

/-
 NEW LISTS OF A RUN; APPENDS.
-/
set_option maxRecDepth 8000
namespace Go.Proofs.YtmkiojlebjknlaaGreat
open Go.AM
variable {h h' : H} {lo : Nat} {w : PWorld} {c : WorldC} {st cs : List RunC}
theorem WorldV.newSlots (hV : WorldV lo h w c st cs) {i : Nat} (hi : i < w.runs.length) {q : List PVal} {s' : Cell} (hc : Chg h (fun id => id ∈ (cs[i]'(by have := hV.len; omega)).slots.ids) h') (hs : Sl h' s' 2 encV q) (hw : Wr h' s') (hu : Un s') (hids : ∀ id ∈ s'.ids, id ∈ (cs[i]'(by have := hV.len; omega)).slots.ids ∨ h.length ≤ id) :
  WorldV lo h' { w with runs := w.runs.set i { w.runs[i] with slots := q } } c st (cs.set i { (cs[i]'(by have := hV.len; omega)) with slots := s' }) ∧ StepV h (part c cs) h' (part c (cs.set i { (cs[i]'(by have := hV.len; omega)) with slots := s' })) := by
 have hi' : i < cs.length := by have := hV.len; omega
 have hpk : (part c cs (.slots i)) = cs[i].slots := fld_at hi'
 have hp : ∀ k', k' ≠ Key.slots i → part c (cs.set i { cs[i] with slots := s' }) k' = part c cs k' := fun k' hk => by
  cases k' <;> first | rfl | (simp only [part, fld_set]; split <;> first | rfl | (rename_i e; obtain ⟨rfl, _⟩ := e; first | exact absurd rfl hk | rw [fld_at hi']))
 have hpn : part c (cs.set i { cs[i] with slots := s' }) (.slots i) = s' := by simp [part, fld_set, hi']
 rw [← hpk] at hc hids
 have o := hV.own.upd (p' := part c (cs.set i { cs[i] with slots := s' })) hV.lo_le (.slots i) hp hc (by rw [hpn]; exact hw) (by rw [hpn]; exact hu) (by rw [hpn]; exact hids)
 have ne : ∀ {k : Key}, k ≠ .slots i → ∀ id ∈ (part c cs k).ids, h'.get id = h.get id := fun hk id hid => hc.keep id (hV.own.lt id hid) fun hh => hk (hV.own.one _ _ _ hid hh)
 refine ⟨⟨hV.code.same (ne (k := .code) (by simp)), hV.runs.same (ne (k := .runs) (by simp)), by simp [hV.stl], by simp [hV.len], fun q hq => ?_, hV.queue.same (ne (k := .queue) (by simp)), hV.now, hV.sent, hV.taken, hV.lost, o, Nat.le_trans hV.lo_le hc.len⟩, StepV.one (.slots i) hp hc (by rw [hpn]; exact hids)⟩
 simp only [List.length_set] at hq
 have hq' : q < cs.length := by rw [hV.len]; exact hq
 have hr := hV.each q hq
 by_cases hqi : i = q
 ·subst hqi
  simp only [List.getElem_set_self]
  exact ⟨hr.id, hr.at_, hs, hr.full, hr.mail.same fun id hid => ne (k := .mail i) (by simp) id (by simpa [part, fld_at hq'] using hid), hr.state, hr.due, hr.links.same fun id hid => ne (k := .links i) (by simp) id (by simpa [part, fld_at hq'] using hid), hr.watched.same fun id hid => ne (k := .watched i) (by simp) id (by simpa [part, fld_at hq'] using hid), hr.trap, hr.why, hr.turns⟩
 ·simp only [List.getElem_set, hqi, ↓reduceIte]
  exact hr.same4 (fun id hid => ne (k := .slots q) (by simp; omega) id (by simpa [part, fld_at hq'] using hid)) (fun id hid => ne (k := .mail q) (by simp) id (by simpa [part, fld_at hq'] using hid)) (fun id hid => ne (k := .links q) (by simp) id (by simpa [part, fld_at hq'] using hid)) (fun id hid => ne (k := .watched q) (by simp) id (by simpa [part, fld_at hq'] using hid))
theorem WorldV.newMail (hV : WorldV lo h w c st cs) {i : Nat} (hi : i < w.runs.length) {q : List PVal} {s' : Cell} (hc : Chg h (fun id => id ∈ (cs[i]'(by have := hV.len; omega)).mail.ids) h') (hs : Sl h' s' 2 encV q) (hw : Wr h' s') (hu : Un s') (hids : ∀ id ∈ s'.ids, id ∈ (cs[i]'(by have := hV.len; omega)).mail.ids ∨ h.length ≤ id) :
  WorldV lo h' { w with runs := w.runs.set i { w.runs[i] with mail := q } } c st (cs.set i { (cs[i]'(by have := hV.len; omega)) with mail := s' }) ∧ StepV h (part c cs) h' (part c (cs.set i { (cs[i]'(by have := hV.len; omega)) with mail := s' })) := by
 have hi' : i < cs.length := by have := hV.len; omega
 have hpk : (part c cs (.mail i)) = cs[i].mail := fld_at hi'
 have hp : ∀ k', k' ≠ Key.mail i → part c (cs.set i { cs[i] with mail := s' }) k' = part c cs k' := fun k' hk => by
  cases k' <;> first | rfl | (simp only [part, fld_set]; split <;> first | rfl | (rename_i e; obtain ⟨rfl, _⟩ := e; first | exact absurd rfl hk | rw [fld_at hi']))
 have hpn : part c (cs.set i { cs[i] with mail := s' }) (.mail i) = s' := by simp [part, fld_set, hi']
 rw [← hpk] at hc hids
 have o := hV.own.upd (p' := part c (cs.set i { cs[i] with mail := s' })) hV.lo_le (.mail i) hp hc (by rw [hpn]; exact hw) (by rw [hpn]; exact hu) (by rw [hpn]; exact hids)
 have ne : ∀ {k : Key}, k ≠ .mail i → ∀ id ∈ (part c cs k).ids, h'.get id = h.get id := fun hk id hid => hc.keep id (hV.own.lt id hid) fun hh => hk (hV.own.one _ _ _ hid hh)
 refine ⟨⟨hV.code.same (ne (k := .code) (by simp)), hV.runs.same (ne (k := .runs) (by simp)), by simp [hV.stl], by simp [hV.len], fun q hq => ?_, hV.queue.same (ne (k := .queue) (by simp)), hV.now, hV.sent, hV.taken, hV.lost, o, Nat.le_trans hV.lo_le hc.len⟩, StepV.one (.mail i) hp hc (by rw [hpn]; exact hids)⟩
 simp only [List.length_set] at hq
 have hq' : q < cs.length := by rw [hV.len]; exact hq
 have hr := hV.each q hq
 by_cases hqi : i = q
 ·subst hqi
  simp only [List.getElem_set_self]
  exact ⟨hr.id, hr.at_, hr.slots.same fun id hid => ne (k := .slots i) (by simp) id (by simpa [part, fld_at hq'] using hid), hr.full, hs, hr.state, hr.due, hr.links.same fun id hid => ne (k := .links i) (by simp) id (by simpa [part, fld_at hq'] using hid), hr.watched.same fun id hid => ne (k := .watched i) (by simp) id (by simpa [part, fld_at hq'] using hid), hr.trap, hr.why, hr.turns⟩
 ·simp only [List.getElem_set, hqi, ↓reduceIte]
  exact hr.same4 (fun id hid => ne (k := .slots q) (by simp) id (by simpa [part, fld_at hq'] using hid)) (fun id hid => ne (k := .mail q) (by simp; omega) id (by simpa [part, fld_at hq'] using hid)) (fun id hid => ne (k := .links q) (by simp) id (by simpa [part, fld_at hq'] using hid)) (fun id hid => ne (k := .watched q) (by simp) id (by simpa [part, fld_at hq'] using hid))
theorem WorldV.newLinks (hV : WorldV lo h w c st cs) {i : Nat} (hi : i < w.runs.length) {q : List Int} {s' : Cell} (hc : Chg h (fun id => id ∈ (cs[i]'(by have := hV.len; omega)).links.ids) h') (hs : Sl h' s' 1 encI q) (hw : Wr h' s') (hu : Un s') (hids : ∀ id ∈ s'.ids, id ∈ (cs[i]'(by have := hV.len; omega)).links.ids ∨ h.length ≤ id) :
  WorldV lo h' { w with runs := w.runs.set i { w.runs[i] with links := q } } c st (cs.set i { (cs[i]'(by have := hV.len; omega)) with links := s' }) ∧ StepV h (part c cs) h' (part c (cs.set i { (cs[i]'(by have := hV.len; omega)) with links := s' })) := by
 have hi' : i < cs.length := by have := hV.len; omega
 have hpk : (part c cs (.links i)) = cs[i].links := fld_at hi'
 have hp : ∀ k', k' ≠ Key.links i → part c (cs.set i { cs[i] with links := s' }) k' = part c cs k' := fun k' hk => by
  cases k' <;> first | rfl | (simp only [part, fld_set]; split <;> first | rfl | (rename_i e; obtain ⟨rfl, _⟩ := e; first | exact absurd rfl hk | rw [fld_at hi']))
 have hpn : part c (cs.set i { cs[i] with links := s' }) (.links i) = s' := by simp [part, fld_set, hi']
 rw [← hpk] at hc hids
 have o := hV.own.upd (p' := part c (cs.set i { cs[i] with links := s' })) hV.lo_le (.links i) hp hc (by rw [hpn]; exact hw) (by rw [hpn]; exact hu) (by rw [hpn]; exact hids)
 have ne : ∀ {k : Key}, k ≠ .links i → ∀ id ∈ (part c cs k).ids, h'.get id = h.get id := fun hk id hid => hc.keep id (hV.own.lt id hid) fun hh => hk (hV.own.one _ _ _ hid hh)
 refine ⟨⟨hV.code.same (ne (k := .code) (by simp)), hV.runs.same (ne (k := .runs) (by simp)), by simp [hV.stl], by simp [hV.len], fun q hq => ?_, hV.queue.same (ne (k := .queue) (by simp)), hV.now, hV.sent, hV.taken, hV.lost, o, Nat.le_trans hV.lo_le hc.len⟩, StepV.one (.links i) hp hc (by rw [hpn]; exact hids)⟩
 simp only [List.length_set] at hq
 have hq' : q < cs.length := by rw [hV.len]; exact hq
 have hr := hV.each q hq
 by_cases hqi : i = q
 ·subst hqi
  simp only [List.getElem_set_self]
  exact ⟨hr.id, hr.at_, hr.slots.same fun id hid => ne (k := .slots i) (by simp) id (by simpa [part, fld_at hq'] using hid), hr.full, hr.mail.same fun id hid => ne (k := .mail i) (by simp) id (by simpa [part, fld_at hq'] using hid), hr.state, hr.due, hs, hr.watched.same fun id hid => ne (k := .watched i) (by simp) id (by simpa [part, fld_at hq'] using hid), hr.trap, hr.why, hr.turns⟩
 ·simp only [List.getElem_set, hqi, ↓reduceIte]
  exact hr.same4 (fun id hid => ne (k := .slots q) (by simp) id (by simpa [part, fld_at hq'] using hid)) (fun id hid => ne (k := .mail q) (by simp) id (by simpa [part, fld_at hq'] using hid)) (fun id hid => ne (k := .links q) (by simp; omega) id (by simpa [part, fld_at hq'] using hid)) (fun id hid => ne (k := .watched q) (by simp) id (by simpa [part, fld_at hq'] using hid))
theorem WorldV.newWatched (hV : WorldV lo h w c st cs) {i : Nat} (hi : i < w.runs.length) {q : List Int} {s' : Cell} (hc : Chg h (fun id => id ∈ (cs[i]'(by have := hV.len; omega)).watched.ids) h') (hs : Sl h' s' 1 encI q) (hw : Wr h' s') (hu : Un s') (hids : ∀ id ∈ s'.ids, id ∈ (cs[i]'(by have := hV.len; omega)).watched.ids ∨ h.length ≤ id) :
  WorldV lo h' { w with runs := w.runs.set i { w.runs[i] with watched := q } } c st (cs.set i { (cs[i]'(by have := hV.len; omega)) with watched := s' }) ∧ StepV h (part c cs) h' (part c (cs.set i { (cs[i]'(by have := hV.len; omega)) with watched := s' })) := by
 have hi' : i < cs.length := by have := hV.len; omega
 have hpk : (part c cs (.watched i)) = cs[i].watched := fld_at hi'
 have hp : ∀ k', k' ≠ Key.watched i → part c (cs.set i { cs[i] with watched := s' }) k' = part c cs k' := fun k' hk => by
  cases k' <;> first | rfl | (simp only [part, fld_set]; split <;> first | rfl | (rename_i e; obtain ⟨rfl, _⟩ := e; first | exact absurd rfl hk | rw [fld_at hi']))
 have hpn : part c (cs.set i { cs[i] with watched := s' }) (.watched i) = s' := by simp [part, fld_set, hi']
 rw [← hpk] at hc hids
 have o := hV.own.upd (p' := part c (cs.set i { cs[i] with watched := s' })) hV.lo_le (.watched i) hp hc (by rw [hpn]; exact hw) (by rw [hpn]; exact hu) (by rw [hpn]; exact hids)
 have ne : ∀ {k : Key}, k ≠ .watched i → ∀ id ∈ (part c cs k).ids, h'.get id = h.get id := fun hk id hid => hc.keep id (hV.own.lt id hid) fun hh => hk (hV.own.one _ _ _ hid hh)
 refine ⟨⟨hV.code.same (ne (k := .code) (by simp)), hV.runs.same (ne (k := .runs) (by simp)), by simp [hV.stl], by simp [hV.len], fun q hq => ?_, hV.queue.same (ne (k := .queue) (by simp)), hV.now, hV.sent, hV.taken, hV.lost, o, Nat.le_trans hV.lo_le hc.len⟩, StepV.one (.watched i) hp hc (by rw [hpn]; exact hids)⟩
 simp only [List.length_set] at hq
 have hq' : q < cs.length := by rw [hV.len]; exact hq
 have hr := hV.each q hq
 by_cases hqi : i = q
 ·subst hqi
  simp only [List.getElem_set_self]
  exact ⟨hr.id, hr.at_, hr.slots.same fun id hid => ne (k := .slots i) (by simp) id (by simpa [part, fld_at hq'] using hid), hr.full, hr.mail.same fun id hid => ne (k := .mail i) (by simp) id (by simpa [part, fld_at hq'] using hid), hr.state, hr.due, hr.links.same fun id hid => ne (k := .links i) (by simp) id (by simpa [part, fld_at hq'] using hid), hs, hr.trap, hr.why, hr.turns⟩
 ·simp only [List.getElem_set, hqi, ↓reduceIte]
  exact hr.same4 (fun id hid => ne (k := .slots q) (by simp) id (by simpa [part, fld_at hq'] using hid)) (fun id hid => ne (k := .mail q) (by simp) id (by simpa [part, fld_at hq'] using hid)) (fun id hid => ne (k := .links q) (by simp) id (by simpa [part, fld_at hq'] using hid)) (fun id hid => ne (k := .watched q) (by simp; omega) id (by simpa [part, fld_at hq'] using hid))
theorem WorldV.queueApp (hV : WorldV lo h w c st cs) {ys : List Int} (hl : w.queue.length + ys.length ≤ lenMost) :
  ∃ s' h', appendA 1 (h.push ⟨false, 1, ys.map encI⟩) (.c c.queue) (.c (.sl h.length 0 ys.length none)) = some (.c s', h') ∧ WorldV lo h' { w with queue := w.queue ++ ys } { c with queue := s' } st cs ∧ StepV h (part c cs) h' (part { c with queue := s' } cs) := by
 obtain ⟨s', h', e, g⟩ := hV.queue.append_new (hV.own.wr .queue) (hV.own.un .queue) (ys := ys) (by simp) hl
 obtain ⟨v, s⟩ := hV.newQueue g.chg g.sl g.wr g.un g.ids
 exact ⟨s', h', e, v, s⟩
theorem WorldV.mailApp (hV : WorldV lo h w c st cs) {i : Nat} (hi : i < w.runs.length) {ys : List PVal} (hl : w.runs[i].mail.length + ys.length ≤ lenMost) :
  ∃ s' h', appendA 2 (h.push ⟨false, 2, ys.map encV⟩) (.c (cs[i]'(by have := hV.len; omega)).mail) (.c (.sl h.length 0 ys.length none)) = some (.c s', h') ∧ WorldV lo h' { w with runs := w.runs.set i { w.runs[i] with mail := w.runs[i].mail ++ ys } } c st (cs.set i { (cs[i]'(by have := hV.len; omega)) with mail := s' }) ∧ StepV h (part c cs) h' (part c (cs.set i { (cs[i]'(by have := hV.len; omega)) with mail := s' })) := by
 have hi' : i < cs.length := by have := hV.len; omega
 have hpk : (part c cs (.mail i)) = cs[i].mail := fld_at hi'
 obtain ⟨s', h', e, g⟩ := (hV.each i hi).mail.append_new (by rw [← hpk]; exact hV.own.wr _) (by rw [← hpk]; exact hV.own.un _) (ys := ys) (by simp) hl
 obtain ⟨v, s⟩ := hV.newMail hi g.chg g.sl g.wr g.un g.ids
 exact ⟨s', h', e, v, s⟩
end Go.Proofs.YtmkiojlebjknlaaGreat

/-
 COPIES OF RUNS AND WORLDS, BY THE REFERENCE: what they answer.
-/
set_option maxRecDepth 8000
namespace Go.Proofs.YtmkiojlebjknlaaGreat
open Go.AM
variable {h h' : H} {lo : Nat} {w : PWorld} {c : WorldC} {st cs : List RunC}
def rpart (c : RunC) : Fin 4 → Cell
 | 0 => c.slots | 1 => c.mail | 2 => c.links | 3 => c.watched
structure RunN (lo : Nat) (h : H) (c : RunC) : Prop where
 ge : ∀ f, ∀ id ∈ (rpart c f).ids, lo ≤ id
 wr : ∀ f, Wr h (rpart c f)
 one : ∀ f g id, id ∈ (rpart c f).ids → id ∈ (rpart c g).ids → f = g
 un : ∀ f, Un (rpart c f)
def keyOf : Key → Option (Nat × Fin 4)
 | .slots i => some (i, 0) | .mail i => some (i, 1) | .links i => some (i, 2) | .watched i => some (i, 3) | _ => none
theorem part_old {k : Key} (h : ∀ f, keyOf k ≠ some (cs.length, f)) {s' : Cell} {cr : RunC} (hr : k ≠ .runs) : part { c with runs := s' } (cs ++ [cr]) k = part c cs k := by
 have e : ∀ (f : RunC → Cell) (i : Nat), i ≠ cs.length → fld (cs ++ [cr]) i f = fld cs i f := fun f i hi => by
  unfold fld
  rcases Nat.lt_or_ge i cs.length with hlt | hge
  ·rw [List.getElem?_append_left hlt]
  ·rw [List.getElem?_append_right hge, List.getElem?_eq_none (l := cs) hge, List.getElem?_eq_none (by simp; omega)]
 cases k with
 | code => rfl
 | runs => exact absurd rfl hr
 | queue => rfl
 | slots i => exact e _ i fun hi => h 0 (by simp [keyOf, hi])
 | mail i => exact e _ i fun hi => h 1 (by simp [keyOf, hi])
 | links i => exact e _ i fun hi => h 2 (by simp [keyOf, hi])
 | watched i => exact e _ i fun hi => h 3 (by simp [keyOf, hi])
theorem part_new {k : Key} {f : Fin 4} (h : keyOf k = some (cs.length, f)) {s' : Cell} {cr : RunC} : part { c with runs := s' } (cs ++ [cr]) k = rpart cr f ∧ part c cs k = .nils := by
 cases k <;> simp [keyOf] at h <;> obtain ⟨rfl, rfl⟩ := h <;> simp [part, fld, rpart]
theorem WorldV.addRun (hV : WorldV lo h w c st cs) {r : PRun} {cr : RunC} (hr : RunR h r cr) (hn : RunN lo h cr) (hd : ∀ f, ∀ id ∈ (rpart cr f).ids, ¬ Owned (part c cs) id) (hl : w.runs.length + 1 ≤ lenMost) :
  ∃ s' h', appendA 13 (h.push ⟨false, 13, [encR cr]⟩) (.c c.runs) (.c (.sl h.length 0 1 none)) = some (.c s', h') ∧ WorldV lo h' { w with runs := w.runs ++ [r] } { c with runs := s' } (st ++ [cr]) (cs ++ [cr]) ∧ Chg h (Owned (part c cs)) h' ∧
   (∀ id, Owned (part { c with runs := s' } (cs ++ [cr])) id → Owned (part c cs) id ∨ (∃ f, id ∈ (rpart cr f).ids) ∨ h.length ≤ id) := by
 obtain ⟨s', h', e, g⟩ := hV.runs.append_new (hV.own.wr .runs) (hV.own.un .runs) (ys := [cr]) (by simp) (by rw [hV.stl]; exact hl)
 have nlt : ∀ f, ∀ id ∈ (rpart cr f).ids, id < h.length := fun f => (hn.wr f).lt
 have cls : ∀ k, k = .runs ∨ (∃ f, keyOf k = some (cs.length, f)) ∨ (k ≠ .runs ∧ ∀ f, keyOf k ≠ some (cs.length, f)) := fun k => by
  by_cases h1 : k = .runs
  ·exact .inl h1
  ·by_cases h2 : ∃ f, keyOf k = some (cs.length, f)
   ·exact .inr (.inl h2)
   ·exact .inr (.inr ⟨h1, fun f hf => h2 ⟨f, hf⟩⟩)
 have pr : part { c with runs := s' } (cs ++ [cr]) .runs = s' := rfl
 have keep : ∀ {k : Key}, k ≠ .runs → ∀ id ∈ (part c cs k).ids, h'.get id = h.get id := fun hk id hid => g.chg.keep id (hV.own.lt id hid) fun hh => hk (hV.own.one _ _ _ hid hh)
 have keepN : ∀ f, ∀ id ∈ (rpart cr f).ids, h'.get id = h.get id := fun f id hid => g.chg.keep id (nlt f id hid) fun hh => hd f id hid ⟨.runs, hh⟩
 have sid' : ∀ id ∈ s'.ids, id ∈ c.runs.ids ∨ h.length ≤ id := g.ids
 have own : OwnK lo h' (part { c with runs := s' } (cs ++ [cr])) := by
  refine ⟨fun k id hid => ?_, fun k => ?_, fun k1 k2 id h1 h2 => ?_, fun k => ?_⟩
  ·rcases cls k with rfl | ⟨f, hf⟩ | ⟨hk, hf⟩
   ·rcases sid' id hid with hh | hh
    ·exact hV.own.ge .runs id hh
    ·have := hV.lo_le; omega
   ·rw [(part_new hf).1] at hid; exact hn.ge f id hid
   ·rw [part_old hf hk] at hid; exact hV.own.ge k id hid
  ·rcases cls k with rfl | ⟨f, hf⟩ | ⟨hk, hf⟩
   ·exact g.wr
   ·rw [(part_new hf).1]; exact (hn.wr f).same (keepN f)
   ·rw [part_old hf hk]; exact (hV.own.wr k).same (keep hk)
  ·have a1 : ∀ id ∈ s'.ids, (∀ f, id ∉ (rpart cr f).ids) ∧ ∀ k, k ≠ .runs → id ∉ (part c cs k).ids := fun id hid => by
    refine ⟨fun f hf => ?_, fun k hk hh => ?_⟩
    ·rcases sid' id hid with hh | hh
     ·exact hd f id hf ⟨.runs, hh⟩
     ·have := nlt f id hf; omega
    ·rcases sid' id hid with h3 | h3
     ·exact hk (hV.own.one _ _ _ hh h3)
     ·have := hV.own.lt id hh; omega
   rcases cls k1 with rfl | ⟨f1, hf1⟩ | ⟨hk1, hf1⟩
   ·rcases cls k2 with rfl | ⟨f2, hf2⟩ | ⟨hk2, hf2⟩
    ·rfl
    ·rw [(part_new hf2).1] at h2; exact absurd h2 ((a1 id h1).1 f2)
    ·rw [part_old hf2 hk2] at h2; exact absurd h2 ((a1 id h1).2 k2 hk2)
   ·rw [(part_new hf1).1] at h1
    rcases cls k2 with rfl | ⟨f2, hf2⟩ | ⟨hk2, hf2⟩
    ·exact absurd h1 ((a1 id h2).1 f1)
    ·rw [(part_new hf2).1] at h2
     have := hn.one _ _ _ h1 h2
     subst this
     rw [← hf2] at hf1
     revert hf1; cases k1 <;> cases k2 <;> simp [keyOf] at hf2 ⊢ <;> grind
    ·rw [part_old hf2 hk2] at h2; exact absurd ⟨k2, h2⟩ (hd f1 id h1)
   ·rw [part_old hf1 hk1] at h1
    rcases cls k2 with rfl | ⟨f2, hf2⟩ | ⟨hk2, hf2⟩
    ·exact absurd h1 ((a1 id h2).2 k1 hk1)
    ·rw [(part_new hf2).1] at h2; exact absurd ⟨k1, h1⟩ (hd f2 id h2)
    ·rw [part_old hf2 hk2] at h2; exact hV.own.one _ _ _ h1 h2
  ·rcases cls k with rfl | ⟨f, hf⟩ | ⟨hk, hf⟩
   ·exact g.un
   ·rw [(part_new hf).1]; exact hn.un f
   ·rw [part_old hf hk]; exact hV.own.un k
 refine ⟨s', h', e, ⟨hV.code.same (keep (k := .code) (by simp)), g.sl, by simp [hV.stl], by simp [hV.len], fun q hq => ?_, hV.queue.same (keep (k := .queue) (by simp)), hV.now, hV.sent, hV.taken, hV.lost, own, Nat.le_trans hV.lo_le g.chg.len⟩, g.chg.mono fun id _ hid => ⟨.runs, hid⟩, fun id ⟨k, hid⟩ => ?_⟩
 ·have hlen := hV.len
  simp only [List.length_append, List.length_singleton] at hq
  by_cases hqi : q < w.runs.length
  ·have hq' : q < cs.length := by omega
   rw [List.getElem_append_left hqi, List.getElem_append_left hq']
   exact (hV.each q hqi).same4 (fun id hid => keep (k := .slots q) (by simp) id (by simpa [part, fld_at hq'] using hid)) (fun id hid => keep (k := .mail q) (by simp) id (by simpa [part, fld_at hq'] using hid)) (fun id hid => keep (k := .links q) (by simp) id (by simpa [part, fld_at hq'] using hid)) (fun id hid => keep (k := .watched q) (by simp) id (by simpa [part, fld_at hq'] using hid))
  ·rw [List.getElem_append_right (by omega), List.getElem_append_right (by omega)]
   simp only [List.getElem_singleton]
   exact hr.same4 (keepN 0) (keepN 1) (keepN 2) (keepN 3)
 ·rcases cls k with rfl | ⟨f, hf⟩ | ⟨hk, hf⟩
  ·rcases sid' id hid with hh | hh
   ·exact .inl ⟨.runs, hh⟩
   ·exact .inr (.inr hh)
  ·rw [(part_new hf).1] at hid; exact .inr (.inl ⟨f, hid⟩)
  ·rw [part_old hf hk] at hid; exact .inl ⟨k, hid⟩
theorem WorldV.newCode (hV : WorldV lo h w c st cs) {q : List POp} {s' : Cell} (hF : Fresh h 6 encO q s' h') :
  WorldV lo h' { w with code := q } { c with code := s' } st cs ∧ StepV h (part c cs) h' (part { c with code := s' } cs) := by
 have hp : ∀ k', k' ≠ Key.code → part { c with code := s' } cs k' = part c cs k' := fun k' hk => by cases k' <;> first | rfl | exact absurd rfl hk
 have hc : Chg h (fun id => id ∈ (part c cs .code).ids) h' := Chg.of_ext hF.ext _
 have o := hV.own.upd (p' := part { c with code := s' } cs) hV.lo_le .code hp hc hF.wr hF.un fun id hid => .inr (hF.ids id hid)
 have hV' := hV.ext hF.ext
 exact ⟨⟨hF.sl, hV'.runs, hV.stl, hV.len, hV'.each, hV'.queue, hV.now, hV.sent, hV.taken, hV.lost, o, hV'.lo_le⟩, StepV.one .code hp hc fun id hid => .inr (hF.ids id hid)⟩
theorem WorldV.freshQueue (hV : WorldV lo h w c st cs) {q : List Int} {s' : Cell} (hF : Fresh h 1 encI q s' h') :
  WorldV lo h' { w with queue := q } { c with queue := s' } st cs ∧ StepV h (part c cs) h' (part { c with queue := s' } cs) :=
 hV.newQueue (Chg.of_ext hF.ext _) hF.sl hF.wr hF.un fun id hid => .inr (hF.ids id hid)
def CopyQ (h : H) (r : PRun) (x : V × H) : Prop := ∃ k c', x = (.g (encR c'), k) ∧ Ext h k ∧ RunR k r c' ∧ RunN h.length k c'
def RunLe (r : PRun) : Prop := r.slots.length ≤ lenMost ∧ r.mail.length ≤ lenMost ∧ r.links.length ≤ lenMost ∧ r.watched.length ≤ lenMost
theorem runN_of_fresh {h1 h2 h3 h4 : H} {a b : List PVal} {d e : List Int} {cr : RunC} {s1 s2 s3 s4 : Cell} (f1 : Fresh h 2 encV a s1 h1) (f2 : Fresh h1 2 encV b s2 h2) (f3 : Fresh h2 1 encI d s3 h3) (f4 : Fresh h3 1 encI e s4 h4) :
  RunN h.length h4 { cr with slots := s1, mail := s2, links := s3, watched := s4 } := by
 have x14 := f2.ext.trans (f3.ext.trans f4.ext)
 have x24 := f3.ext.trans f4.ext
 have l1 := f1.ext.1
 have l2 := f2.ext.1
 have l3 := f3.ext.1
 have w1 : Wr h4 s1 := f1.wr.same fun id hid => x14.2 id (f1.wr.lt id hid)
 have w2 : Wr h4 s2 := f2.wr.same fun id hid => x24.2 id (f2.wr.lt id hid)
 have w3 : Wr h4 s3 := f3.wr.same fun id hid => f4.ext.2 id (f3.wr.lt id hid)
 have k1 := f1.wr.lt
 have k2 := f2.wr.lt
 have k3 := f3.wr.lt
 have g1 := f1.ids
 have g2 := f2.ids
 have g3 := f3.ids
 have g4 := f4.ids
 refine ⟨fun f id hid => ?_, fun f => ?_, fun f g id hf hg => ?_, fun f => ?_⟩
 ·match f, hid with
  | 0, hid => exact g1 id hid
  | 1, hid => have := g2 id hid; omega
  | 2, hid => have := g3 id hid; omega
  | 3, hid => have := g4 id hid; omega
 ·match f with
  | 0 => exact w1
  | 1 => exact w2
  | 2 => exact w3
  | 3 => exact f4.wr
 ·match f, g, hf, hg with
  | 0, 0, _, _ => rfl
  | 1, 1, _, _ => rfl
  | 2, 2, _, _ => rfl
  | 3, 3, _, _ => rfl
  | 0, 1, hf, hg => have := k1 id hf; have := g2 id hg; omega
  | 0, 2, hf, hg => have := k1 id hf; have := g3 id hg; omega
  | 0, 3, hf, hg => have := k1 id hf; have := g4 id hg; omega
  | 1, 2, hf, hg => have := k2 id hf; have := g3 id hg; omega
  | 1, 3, hf, hg => have := k2 id hf; have := g4 id hg; omega
  | 2, 3, hf, hg => have := k3 id hf; have := g4 id hg; omega
  | 1, 0, hf, hg => have := k1 id hg; have := g2 id hf; omega
  | 2, 0, hf, hg => have := k1 id hg; have := g3 id hf; omega
  | 3, 0, hf, hg => have := k1 id hg; have := g4 id hf; omega
  | 2, 1, hf, hg => have := k2 id hg; have := g3 id hf; omega
  | 3, 1, hf, hg => have := k2 id hg; have := g4 id hf; omega
  | 3, 2, hf, hg => have := k3 id hg; have := g4 id hf; omega
 ·match f with
  | 0 => exact f1.un
  | 1 => exact f2.un
  | 2 => exact f3.un
  | 3 => exact f4.un
theorem run_new {h1 h2 h3 h4 : H} {r : PRun} {cr : RunC} {s1 s2 s3 s4 : Cell} (f1 : Fresh h 2 encV r.slots s1 h1) (f2 : Fresh h1 2 encV r.mail s2 h2) (f3 : Fresh h2 1 encI r.links s3 h3) (f4 : Fresh h3 1 encI r.watched s4 h4)
  (e1 : cr.id = r.id) (e2 : cr.at_ = r.at_) (e3 : cr.full = r.full) (e4 : cr.state = r.state) (e5 : cr.due = r.due) (e6 : cr.trap = r.trap) (e7 : cr.why = r.why) (e8 : cr.turns = r.turns) :
  Ext h h4 ∧ RunR h4 r { cr with slots := s1, mail := s2, links := s3, watched := s4 } ∧ RunN h.length h4 { cr with slots := s1, mail := s2, links := s3, watched := s4 } := by
 have x14 := f2.ext.trans (f3.ext.trans f4.ext)
 have x24 := f3.ext.trans f4.ext
 exact ⟨f1.ext.trans x14, ⟨e1, e2, f1.sl.ext x14, e3, f2.sl.ext x24, e4, e5, f3.sl.ext f4.ext, f4.sl, e6, e7, e8⟩, runN_of_fresh f1 f2 f3 f4⟩
theorem run_of_fresh {h1 h2 h3 h4 : H} {r : PRun} {cr : RunC} (hr : RunR h r cr) {s1 s2 s3 s4 : Cell} (f1 : Fresh h 2 encV r.slots s1 h1) (f2 : Fresh h1 2 encV r.mail s2 h2) (f3 : Fresh h2 1 encI r.links s3 h3) (f4 : Fresh h3 1 encI r.watched s4 h4) :
  Ext h h4 ∧ RunR h4 r { cr with slots := s1, mail := s2, links := s3, watched := s4 } ∧ RunN h.length h4 { cr with slots := s1, mail := s2, links := s3, watched := s4 } :=
 run_new f1 f2 f3 f4 hr.id hr.at_ hr.full hr.state hr.due hr.trap hr.why hr.turns
set_option maxRecDepth 8000 in
theorem c_l11Copy {r : PRun} {cr : RunC} (hr : RunR h r cr) (hu : ∀ f, Un (rpart cr f)) (hl : RunLe r) : @Wp _ (Dz.den 76 [.g (encR cr)] h) ⟨CopyQ h r⟩ := by
 refine den_wp rfl Tryz.func76 rfl ?_
 obtain ⟨s1, h1, e1, f1⟩ := hr.slots.cloneF (hu 0) hl.1
 obtain ⟨s2, h2, e2, f2⟩ := (hr.mail.ext f1.ext).cloneF (hu 1) hl.2.1
 have x2 := f1.ext.trans f2.ext
 obtain ⟨s3, h3, e3, f3⟩ := (hr.links.ext x2).cloneF (hu 2) hl.2.2.1
 have x3 := x2.trans f3.ext
 obtain ⟨s4, h4, e4, f4⟩ := (hr.watched.ext x3).cloneF (hu 3) hl.2.2.2
 obtain ⟨x, q, n⟩ := run_of_fresh hr f1 f2 f3 f4
 simp [Tryz.f76, e1, e2, e3, e4]
 exact ⟨h4, _, rfl, x, q, n⟩
end Go.Proofs.YtmkiojlebjknlaaGreat
