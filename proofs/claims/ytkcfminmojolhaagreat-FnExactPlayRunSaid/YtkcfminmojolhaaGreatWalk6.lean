/-
  What functions of the seat answer, each proved once; each under the condition that cells bear what it is given, as its statement says.
-/
import Derived.Test.YtkcfminmojolhaaGreatWalk5
import Derived.Test.YtkcfminmojolhaaGreatAm6
set_option linter.all false
/-
  THE LAWS' FUNCTIONS THAT COPY RUNS AND WORLDS: what they answer.
-/
set_option maxRecDepth 8000
namespace Go.Proofs.YtkcfminmojolhaaGreat
open Go.AM
variable {h : H}
/-- The blocks that a run, a row of runs, a world owns. -/
def RunC.ids (c : RunC) : List Nat := Cell.ids c.slots ++ (Cell.ids c.mail ++ (Cell.ids c.links ++ Cell.ids c.watched))
/-- These blocks may be written, each is named once, none lies ahead of 'lo'. -/
structure Own (lo : Nat) (h : H) (ids : List Nat) : Prop where
  nd : ids.Nodup
  ge : ∀ id ∈ ids, lo ≤ id
  wr : ∀ id ∈ ids, ∃ b, h.get id = some b ∧ b.ro = false
theorem Own.lt {lo : Nat} {h : H} {ids : List Nat} (o : Own lo h ids) : ∀ id ∈ ids, id < h.length := fun id hid => by
  obtain ⟨b, hb, _⟩ := o.wr id hid; exact H.get_lt hb
theorem Own.ext {lo : Nat} {h k : H} {ids : List Nat} (o : Own lo h ids) (hk : ∀ id ∈ ids, k.get id = h.get id) : Own lo k ids := ⟨o.nd, o.ge, fun id hid => by rw [hk id hid]; exact o.wr id hid⟩
theorem Own.append {lo mid : Nat} {h : H} {a b : List Nat} (ha : Own lo h a) (hb : Own mid h b) (hm : lo ≤ mid) (hlt : ∀ id ∈ a, id < mid) : Own lo h (a ++ b) where
  nd := by
    rw [List.nodup_append]
    exact ⟨ha.nd, hb.nd, fun x hx y hy e => by have := hlt x hx; have := hb.ge y hy; omega⟩
  ge := fun id hid => by
    rcases List.mem_append.1 hid with h | h
    · exact ha.ge id h
    · have := hb.ge id h; omega
  wr := fun id hid => by
    rcases List.mem_append.1 hid with h | h
    · exact ha.wr id h
    · exact hb.wr id h
def newR (n : Nat) (r : PRun) : RunC := ⟨r.id, r.at_, .sl n 0 r.slots.length none, r.full, .sl (n + 1) 0 r.mail.length none, r.state, r.due, .sl (n + 2) 0 r.links.length none, .sl (n + 3) 0 r.watched.length none, r.trap, r.why, r.turns⟩
def pushR (h : H) (r : PRun) : H := (((h.push ⟨false, 2, r.slots.map encV⟩).push ⟨false, 2, r.mail.map encV⟩).push ⟨false, 1, r.links.map encI⟩).push ⟨false, 1, r.watched.map encI⟩
theorem pushR_length (h : H) (r : PRun) : (pushR h r).length = h.length + 4 := by simp [pushR]
theorem pushR_ext (h : H) (r : PRun) : Ext h (pushR h r) := (((Ext.push _ _).trans (Ext.push _ _)).trans (Ext.push _ _)).trans (Ext.push _ _)
theorem RunSmall.nat {n : Int} {r : PRun} (h : RunSmall n r) (hn : n ≤ 1048576) : r.slots.length ≤ 1048576 ∧ r.mail.length ≤ 1048576 ∧ r.links.length ≤ 1048576 ∧ r.watched.length ≤ 1048576 := by
  obtain ⟨a, b, c, d⟩ := h; exact ⟨by omega, by omega, by omega, by omega⟩
theorem pushR_get (h : H) (r : PRun) : (pushR h r).get h.length = some ⟨false, 2, r.slots.map encV⟩ ∧ (pushR h r).get (h.length + 1) = some ⟨false, 2, r.mail.map encV⟩ ∧ (pushR h r).get (h.length + 2) = some ⟨false, 1, r.links.map encI⟩ ∧ (pushR h r).get (h.length + 3) = some ⟨false, 1, r.watched.map encI⟩ := by
  unfold pushR
  refine ⟨?_, ?_, ?_, ?_⟩
  · exact get_push_some (get_push_some (get_push_some get_push_self))
  · have := get_push_self (h := h.push ⟨false, 2, r.slots.map encV⟩) (b := ⟨false, 2, r.mail.map encV⟩)
    rw [length_push] at this
    exact get_push_some (get_push_some this)
  · have := get_push_self (h := (h.push ⟨false, 2, r.slots.map encV⟩).push ⟨false, 2, r.mail.map encV⟩) (b := ⟨false, 1, r.links.map encI⟩)
    rw [length_push, length_push] at this
    exact get_push_some this
  · have := get_push_self (h := ((h.push ⟨false, 2, r.slots.map encV⟩).push ⟨false, 2, r.mail.map encV⟩).push ⟨false, 1, r.links.map encI⟩) (b := ⟨false, 1, r.watched.map encI⟩)
    rw [length_push, length_push, length_push] at this
    exact this
theorem Sl.of_get {α : Type} {enc : α → List Cell} {xs : List α} {es id : Nat} {h : H} (hg : h.get id = some ⟨false, es, xs.map enc⟩) (he : ∀ x ∈ xs, (enc x).length = es) (hl : xs.length ≤ sMost) : Sl h (.sl id 0 xs.length none) es enc xs :=
  ⟨he, rfl, hl, _, hg, rfl, by simp, by rw [List.drop_zero, List.take_of_length_le (by simp)]⟩
theorem newR_R (h : H) (r : PRun) (hs : r.slots.length ≤ 1048576 ∧ r.mail.length ≤ 1048576 ∧ r.links.length ≤ 1048576 ∧ r.watched.length ≤ 1048576) : RunR (pushR h r) r (newR h.length r) := by
  obtain ⟨g1, g2, g3, g4⟩ := pushR_get h r
  exact ⟨rfl, rfl, Sl.of_get g1 (by simp) (by simp [sMost]; omega), rfl, Sl.of_get g2 (by simp) (by simp [sMost]; omega), rfl, rfl, Sl.of_get g3 (by simp) (by simp [sMost]; omega), Sl.of_get g4 (by simp) (by simp [sMost]; omega), rfl, rfl, rfl⟩
theorem newR_own (h : H) (r : PRun) : Own h.length (pushR h r) (RunC.ids (newR h.length r)) := by
  obtain ⟨g1, g2, g3, g4⟩ := pushR_get h r
  refine ⟨by simp [RunC.ids, newR, Cell.ids], fun id hid => ?_, fun id hid => ?_⟩
  · simp [RunC.ids, newR, Cell.ids] at hid; omega
  · simp [RunC.ids, newR, Cell.ids] at hid
    rcases hid with rfl | rfl | rfl | rfl
    · exact ⟨_, g1, rfl⟩
    · exact ⟨_, g2, rfl⟩
    · exact ⟨_, g3, rfl⟩
    · exact ⟨_, g4, rfl⟩
set_option maxRecDepth 8000 in
theorem c_toRun {r : PRun} {c : RunC} (hr : RunA h r c) (hs : r.slots.length ≤ 1048576 ∧ r.mail.length ≤ 1048576 ∧ r.links.length ≤ 1048576 ∧ r.watched.length ≤ 1048576) : Dz.den 116 [.g (encR c)] h = some (.g (encR (newR h.length r)), pushR h r) := by
  rw [← Wp_eq]
  refine den_wp rfl Tryz.func116 rfl ?_
  have e1 := c_toValS hr.slots hs.1
  have e2 := c_toValS (hr.mail.push ⟨false, 2, r.slots.map encV⟩) hs.2.1
  have e3 := c_toIntS ((hr.links.push ⟨false, 2, r.slots.map encV⟩).push ⟨false, 2, r.mail.map encV⟩) hs.2.2.1
  have e4 := c_toIntS (((hr.watched.push ⟨false, 2, r.slots.map encV⟩).push ⟨false, 2, r.mail.map encV⟩).push ⟨false, 1, r.links.map encI⟩) hs.2.2.2
  simp only [length_push] at e2 e3 e4
  simp [Tryz.f116, e1, e2, e3, e4, hr.id, hr.at_, hr.full, hr.state, hr.due, hr.trap, hr.why, hr.turns, newR, pushR]
end Go.Proofs.YtkcfminmojolhaaGreat

/-
  THE LAWS' toRunS, toWorld: what they answer.
-/
set_option maxRecDepth 8000
namespace Go.Proofs.YtkcfminmojolhaaGreat
open Go.AM
variable {h : H}
theorem RunR.same {k k' : H} {r : PRun} {c : RunC} (hr : RunR k r c) (h : ∀ id ∈ RunC.ids c, k'.get id = k.get id) : RunR k' r c :=
  ⟨hr.id, hr.at_, hr.slots.same fun id hid => h id (by simp [RunC.ids, hid]), hr.full, hr.mail.same fun id hid => h id (by simp [RunC.ids, hid]), hr.state, hr.due,
    hr.links.same fun id hid => h id (by simp [RunC.ids, hid]), hr.watched.same fun id hid => h id (by simp [RunC.ids, hid]), hr.trap, hr.why, hr.turns⟩
def zeroR : List Cell := [.int .i64 0, .int .i64 0, .nils, .int .i64 0, .nils, .int .i64 0, .int .i64 0, .nils, .nils, .bool false, .int .i64 0, .int .i64 0, .int .i64 0]
def runsIds (cs : List RunC) : List Nat := cs.flatMap RunC.ids
theorem mem_runsIds {cs : List RunC} {id : Nat} : id ∈ runsIds cs ↔ ∃ c ∈ cs, id ∈ RunC.ids c := by simp [runsIds]
/-- Its lists are whole. -/
def UnR (r : RunC) : Prop := Un r.slots ∧ Un r.mail ∧ Un r.links ∧ Un r.watched
def ToRunsQ (h : H) (rs : List PRun) (r : V × H) : Prop := ∃ k cs, r = (.c (.sl h.length 0 rs.length none), k) ∧ Ext h k ∧ RunsR k (.sl h.length 0 rs.length none) rs cs ∧ Own h.length k (h.length :: runsIds cs) ∧ ∀ r ∈ cs, UnR r
set_option maxRecDepth 8000 in
theorem c_toRunS {s : Cell} {rs : List PRun} {cs : List RunC} (hR : RunsA h s rs cs) (hl : rs.length ≤ 1048576) (hs : ∀ r ∈ rs, RunSmall 1048576 r) : @Wp _ (Dz.den 61 [.c s] h) ⟨ToRunsQ h rs⟩ := by
  refine den_wp rfl Tryz.func61 rfl ?_
  have hS := hR.sl
  have hcl := hR.len
  have hl2 : (cs.length : Int) ≤ 4294967296 := by omega
  simp [Tryz.f61, hS.lenA, hl2]
  rw [hcl]
  refine count_wpG (σ := H × List RunC) rs.length (fun i g => ([.c s, .c .nils, .c (.sl h.length 0 rs.length none), .c (ci i)], [], [], g.1))
    (fun i g => g.2.length = i ∧ Ext h g.1 ∧ g.1.get h.length = some ⟨false, 13, g.2.map encR ++ List.replicate (rs.length - i) zeroR⟩ ∧ (∀ j (hj : j < rs.length) (hj' : j < g.2.length), RunR g.1 rs[j] g.2[j]) ∧ Own (h.length + 1) g.1 (runsIds g.2) ∧ ∀ r ∈ g.2, UnR r)
    (h.push ⟨false, 13, List.replicate rs.length zeroR⟩, []) (by simp [zeroR]) ⟨rfl, Ext.push _ _, by simp, fun j hj hj' => by simp at hj', ⟨by simp [runsIds], by simp [runsIds], by simp [runsIds]⟩, by simp⟩ ?_ ?_
  · rintro i ⟨g, csl⟩ hi ⟨q1, q2, q3, q4, q5, q6⟩
    simp only at q1 q2 q3 q4 q5 q6 ⊢
    have hic : i < cs.length := by omega
    have hS' := hS.ext q2
    have hr := (hR.each i hi).ext q2
    have hsm := (hs _ (List.getElem_mem hi)).nat (by omega)
    have e := c_toRun hr hsm
    have hgl := H.get_lt q3
    have hRn := newR_R g rs[i] hsm
    have hOn := newR_own g rs[i]
    have hx := pushR_ext g rs[i]
    have hUn : UnR (newR g.length rs[i]) := ⟨Un.new, Un.new, Un.new, Un.new⟩
    have hpl := pushR_length g rs[i]
    generalize hnew : newR g.length rs[i] = nw at *
    generalize hK : pushR g rs[i] = K at *
    have hgK := hx.get q3
    have hrep : List.replicate (rs.length - i) zeroR = zeroR :: List.replicate (rs.length - (i + 1)) zeroR := by
      rw [show rs.length - i = rs.length - (i + 1) + 1 by omega, List.replicate_succ]
    have hW : K.write h.length i 0 (encR nw) = some (List.set K h.length (some ⟨false, 13, (csl ++ [nw]).map encR ++ List.replicate (rs.length - (i + 1)) zeroR⟩)) := by
      simp only [H.write, hgK, hrep]
      rw [List.getElem?_append_right (by simp; omega)]
      have : i - (csl.map encR).length = 0 := by simp; omega
      rw [this]
      simp [zeroR, splice]
      rw [List.set_append_right _ _ (by simp; omega), this]
      simp
    simp only [encR] at e hW
    rw [Wp_body]
    simp [hS'.lenA, hi, hic, hcl, ixA_natA hS', hS'.at, e, hgK, hW, wrap_succ (hS.lt hic)]
    have hkl : h.length < K.length := by omega
    have hsame : ∀ (b : Option Blk) (id : Nat), h.length + 1 ≤ id → H.get (List.set K h.length b) id = K.get id := fun b id hid => get_set_ne (by omega)
    have hold : ∀ id ∈ runsIds csl, K.get id = g.get id := fun id hid => hx.2 id (q5.lt id hid)
    refine ⟨csl ++ [nw], by simp [q1], (q2.trans hx).set (Nat.le_refl _) _, ?_, fun j hj hj' => ?_, ?_, fun r hr => ?_⟩
    · rw [get_set_self hkl]; simp
    · by_cases hji : j < csl.length
      · rw [List.getElem_append_left hji]
        refine (q4 j hj hji).same fun id hid => ?_
        have hm : id ∈ runsIds csl := mem_runsIds.2 ⟨_, List.getElem_mem hji, hid⟩
        have := q5.ge id hm
        rw [hsame _ _ this, hold id hm]
      · have : j = i := by simp at hj'; omega
        subst this
        rw [List.getElem_append_right (by omega)]
        simp only [q1, Nat.sub_self, List.getElem_cons_zero]
        refine hRn.same fun id hid => ?_
        have := hOn.ge id hid
        rw [hsame _ _ (by omega)]
    · have e1 : runsIds (csl ++ [nw]) = runsIds csl ++ RunC.ids nw := by simp [runsIds]
      rw [e1]
      refine Own.append (mid := g.length) (q5.ext fun id hid => ?_) (hOn.ext fun id hid => ?_) (by omega) (q5.lt)
      · rw [hsame _ _ (q5.ge id hid), hold id hid]
      · have := hOn.ge id hid
        rw [hsame _ _ (by omega)]
    · rcases List.mem_append.1 hr with hr | hr
      · exact q6 r hr
      · simp only [List.mem_singleton] at hr; subst hr; exact hUn
  · rintro ⟨g, csl⟩ ⟨q1, q2, q3, q4, q5, q6⟩
    simp only at q1 q2 q3 q4 q5 q6 ⊢
    have hS' := hS.ext q2
    rw [Wp_body]
    simp [hS'.lenA, hcl]
    have hgl := H.get_lt q3
    rw [Nat.sub_self, List.replicate_zero, List.append_nil] at q3
    refine ⟨g, csl, rfl, q2, ⟨⟨by simp, ?_⟩, q1, fun i hi => q4 i hi (by omega)⟩, ?_, q6⟩
    · refine ⟨q1.symm, by simp [sMost]; omega, _, q3, rfl, by simp [q1], ?_⟩
      rw [List.drop_zero, List.take_of_length_le (by simp [q1])]
    · refine ⟨?_, fun id hid => ?_, fun id hid => ?_⟩
      · rw [List.nodup_cons]
        exact ⟨fun hm => by have := q5.ge _ hm; omega, q5.nd⟩
      · rcases List.mem_cons.1 hid with rfl | hm
        · exact Nat.le_refl _
        · have := q5.ge _ hm; omega
      · rcases List.mem_cons.1 hid with rfl | hm
        · exact ⟨_, q3, rfl⟩
        · exact q5.wr _ hm
/-- The blocks that a world owns. -/
def WorldC.ids (c : WorldC) (cs : List RunC) : List Nat := Cell.ids c.code ++ (Cell.ids c.runs ++ runsIds cs) ++ Cell.ids c.queue
structure WorldO (lo : Nat) (h : H) (w : PWorld) (c : WorldC) (cs : List RunC) : Prop where
  rd : WorldR h w c cs
  own : Own lo h (WorldC.ids c cs)
  unw : Un c.code ∧ Un c.runs ∧ Un c.queue
  unr : ∀ r ∈ cs, UnR r
def ToWorldQ (h : H) (w : PWorld) (r : V × H) : Prop := ∃ k c cs, r = (.g (encW c), k) ∧ Ext h k ∧ WorldO h.length k w c cs
theorem WorldSmall.nat {n : Int} {w : PWorld} (h : WorldSmall n w) (hn : n ≤ 1048576) : w.code.length ≤ 1048576 ∧ w.runs.length ≤ 1048576 ∧ w.queue.length ≤ 1048576 ∧ ∀ r ∈ w.runs, RunSmall 1048576 r :=
  ⟨by have := h.code; omega, by have := h.runs; omega, by have := h.queue; omega, fun r hr => (h.each r hr).mono hn⟩
theorem c_toWorld {w : PWorld} {c : WorldC} {cs : List RunC} (hw : WorldA h w c cs) (hs : WorldSmall 1048576 w) : @Wp _ (Dz.den 17 [.g (encW c)] h) ⟨ToWorldQ h w⟩ := by
  refine den_wp rfl Tryz.func17 rfl ?_
  obtain ⟨s1, s2, s3, s4⟩ := hs.nat (Int.le_refl _)
  have e1 := c_toOpS hw.code s1
  have hw1 := hw.push ⟨false, 6, w.code.map encO⟩
  have hgc := get_push_self (h := h) (b := ⟨false, 6, w.code.map encO⟩)
  have hk1 : (h.push ⟨false, 6, w.code.map encO⟩ : H).length = h.length + 1 := by simp
  have hx1 := Ext.push h ⟨false, 6, w.code.map encO⟩
  generalize hK : h.push ⟨false, 6, w.code.map encO⟩ = K at *
  obtain ⟨_, e2, K2, cs2, rfl, hx2, hR2, hO2, hU2⟩ := c_toRunS hw1.runs s2 s4
  have hw2 := hw1.ext hx2
  have e3 := c_toIntS hw2.queue s3
  have hgq := get_push_self (h := K2) (b := ⟨false, 1, w.queue.map encI⟩)
  have hx3 := Ext.push K2 ⟨false, 1, w.queue.map encI⟩
  simp [Tryz.f17, e1, e2, e3, hw.now, hw.sent, hw.taken, hw.lost]
  refine ⟨_, ⟨.sl h.length 0 w.code.length none, .sl K.length 0 w.runs.length none, .sl K2.length 0 w.queue.length none, w.now, w.sent, w.taken, w.lost⟩, cs2, rfl, hx1.trans (hx2.trans hx3), ⟨?_, ?_, ⟨Un.new, Un.new, Un.new⟩, hU2⟩⟩
  · exact ⟨(Sl.of_get (hx2.get hgc) (by simp) (by simp [sMost]; omega)).push _, hR2.ext hx3, Sl.of_get hgq (by simp) (by simp [sMost]; omega), rfl, rfl, rfl, rfl⟩
  · have hl2 := hx2.1
    have o1 : Own h.length (K2.push ⟨false, 1, w.queue.map encI⟩) [h.length] := ⟨by simp, by simp, fun id hid => by simp at hid; subst hid; exact ⟨_, get_push_some (hx2.get hgc), rfl⟩⟩
    have o2 := hO2.ext (k := K2.push ⟨false, 1, w.queue.map encI⟩) fun id hid => get_push_lt (hO2.lt id hid)
    have o3 : Own K2.length (K2.push ⟨false, 1, w.queue.map encI⟩) [K2.length] := ⟨by simp, by simp, fun id hid => by simp at hid; subst hid; exact ⟨_, hgq, rfl⟩⟩
    have o12 := o1.append o2 (by omega) (fun id hid => by simp at hid; omega)
    have := o12.append o3 (by omega) (fun id hid => by
      rcases List.mem_append.1 hid with hid | hid
      · simp at hid; omega
      · exact hO2.lt id hid)
    simpa [WorldC.ids, Cell.ids] using this
end Go.Proofs.YtkcfminmojolhaaGreat

/-
  WORLDS THAT ARE CHANGED: what they own, part by part, and what one step of a change does.
-/
set_option maxRecDepth 8000
namespace Go.Proofs.YtkcfminmojolhaaGreat
open Go.AM
variable {h h' : H}
/-- The parts of a world that are blocks. -/
inductive Key where
  | code | runs | queue | slots (i : Nat) | mail (i : Nat) | links (i : Nat) | watched (i : Nat)
  deriving DecidableEq
def fld (cs : List RunC) (i : Nat) (f : RunC → Cell) : Cell := match cs[i]? with | some r => f r | none => .nils
def part (c : WorldC) (cs : List RunC) : Key → Cell
  | .code => c.code | .runs => c.runs | .queue => c.queue
  | .slots i => fld cs i (·.slots) | .mail i => fld cs i (·.mail) | .links i => fld cs i (·.links) | .watched i => fld cs i (·.watched)
/-- The parts may be written, no block is in two, none lies ahead of 'lo'. -/
structure OwnK (lo : Nat) (h : H) (p : Key → Cell) : Prop where
  ge : ∀ k, ∀ id ∈ (p k).ids, lo ≤ id
  wr : ∀ k, Wr h (p k)
  one : ∀ k k' id, id ∈ (p k).ids → id ∈ (p k').ids → k = k'
  un : ∀ k, Un (p k)
def Owned (p : Key → Cell) (id : Nat) : Prop := ∃ k, id ∈ (p k).ids
theorem OwnK.lt {lo : Nat} {p : Key → Cell} (o : OwnK lo h p) {k : Key} : ∀ id ∈ (p k).ids, id < h.length := (o.wr k).lt
/-- One part is changed, the others stay. -/
theorem OwnK.upd {lo : Nat} {p p' : Key → Cell} (o : OwnK lo h p) (hlo : lo ≤ h.length) (k : Key) (hp : ∀ k', k' ≠ k → p' k' = p k') (hc : Chg h (fun id => id ∈ (p k).ids) h') (hw : Wr h' (p' k)) (hu : Un (p' k)) (hi : ∀ id ∈ (p' k).ids, id ∈ (p k).ids ∨ h.length ≤ id) : OwnK lo h' p' := by
  have other : ∀ k', k' ≠ k → ∀ id ∈ (p k').ids, id ∉ (p' k).ids ∧ id ∉ (p k).ids := fun k' hk id hid => by
    have h1 : id ∉ (p k).ids := fun h => hk (o.one _ _ _ hid h)
    refine ⟨fun h => ?_, h1⟩
    rcases hi id h with h | h
    · exact h1 h
    · have := o.lt id hid; omega
  refine ⟨fun k' id hid => ?_, fun k' => ?_, fun k1 k2 id h1 h2 => ?_, fun k' => ?_⟩
  · by_cases hk : k' = k
    · subst hk
      rcases hi id hid with h | h
      · exact o.ge _ id h
      · omega
    · rw [hp k' hk] at hid; exact o.ge _ id hid
  · by_cases hk : k' = k
    · subst hk; exact hw
    · rw [hp k' hk]
      exact (o.wr k').same fun id hid => hc.keep id (o.lt id hid) (other k' hk id hid).2
  · by_cases hk1 : k1 = k
    · by_cases hk2 : k2 = k
      · rw [hk1, hk2]
      · rw [hp k2 hk2] at h2; subst hk1
        exact absurd h1 (other k2 hk2 id h2).1
    · rw [hp k1 hk1] at h1
      by_cases hk2 : k2 = k
      · subst hk2; exact absurd h2 (other k1 hk1 id h1).1
      · rw [hp k2 hk2] at h2; exact o.one _ _ _ h1 h2
  · by_cases hk : k' = k
    · subst hk; exact hu
    · rw [hp k' hk]; exact o.un k'
/-- Nothing owned is changed. -/
theorem OwnK.same {lo : Nat} {p : Key → Cell} (o : OwnK lo h p) (hk : ∀ id, Owned p id → h'.get id = h.get id) : OwnK lo h' p :=
  ⟨o.ge, fun k => (o.wr k).same fun id hid => hk id ⟨k, hid⟩, o.one, o.un⟩

/-- Cells bear a world and own its parts. 'st': the runs as they lie in their row; 'cs': as they are to be. -/
structure WorldV (lo : Nat) (h : H) (w : PWorld) (c : WorldC) (st cs : List RunC) : Prop where
  code : Sl h c.code 6 encO w.code
  runs : Sl h c.runs 13 encR st
  stl : st.length = w.runs.length
  len : cs.length = w.runs.length
  each : ∀ i (hi : i < w.runs.length), RunR h w.runs[i] (cs[i]'(by omega))
  queue : Sl h c.queue 1 encI w.queue
  now : c.now = w.now
  sent : c.sent = w.sent
  taken : c.taken = w.taken
  lost : c.lost = w.lost
  own : OwnK lo h (part c cs)
  lo_le : lo ≤ h.length
variable {lo : Nat} {w : PWorld} {c : WorldC} {st cs : List RunC}
theorem WorldV.rd (hV : WorldV lo h w c cs cs) : WorldR h w c cs := ⟨hV.code, ⟨hV.runs, hV.len, hV.each⟩, hV.queue, hV.now, hV.sent, hV.taken, hV.lost⟩
theorem fld_at {f : RunC → Cell} {i : Nat} (hi : i < cs.length) : fld cs i f = f cs[i] := by simp [fld, hi]
theorem RunR.same4 {r : PRun} {r' : RunC} (hr : RunR h r r') (h1 : ∀ id ∈ r'.slots.ids, h'.get id = h.get id) (h2 : ∀ id ∈ r'.mail.ids, h'.get id = h.get id) (h3 : ∀ id ∈ r'.links.ids, h'.get id = h.get id) (h4 : ∀ id ∈ r'.watched.ids, h'.get id = h.get id) : RunR h' r r' :=
  ⟨hr.id, hr.at_, hr.slots.same h1, hr.full, hr.mail.same h2, hr.state, hr.due, hr.links.same h3, hr.watched.same h4, hr.trap, hr.why, hr.turns⟩
/-- What it owns is the same: it reads the same. -/
theorem WorldV.same (hV : WorldV lo h w c st cs) (hk : ∀ id, Owned (part c cs) id → h'.get id = h.get id) (hl : h.length ≤ h'.length) : WorldV lo h' w c st cs where
  code := hV.code.same fun id hid => hk id ⟨.code, hid⟩
  runs := hV.runs.same fun id hid => hk id ⟨.runs, hid⟩
  stl := hV.stl
  len := hV.len
  each := fun i hi => by
    have hi' : i < cs.length := by rw [hV.len]; exact hi
    exact (hV.each i hi).same4 (fun id hid => hk id ⟨.slots i, by simpa [part, fld_at hi'] using hid⟩) (fun id hid => hk id ⟨.mail i, by simpa [part, fld_at hi'] using hid⟩) (fun id hid => hk id ⟨.links i, by simpa [part, fld_at hi'] using hid⟩) (fun id hid => hk id ⟨.watched i, by simpa [part, fld_at hi'] using hid⟩)
  queue := hV.queue.same fun id hid => hk id ⟨.queue, hid⟩
  now := hV.now
  sent := hV.sent
  taken := hV.taken
  lost := hV.lost
  own := hV.own.same hk
  lo_le := Nat.le_trans hV.lo_le hl
theorem WorldV.ext (hV : WorldV lo h w c st cs) (x : Ext h h') : WorldV lo h' w c st cs := hV.same (fun id ⟨_, hid⟩ => x.2 id (hV.own.lt id hid)) x.1
theorem WorldV.chg (hV : WorldV lo h w c st cs) {o : Nat → Prop} (x : Chg h o h') (hn : ∀ id, Owned (part c cs) id → ¬ o id) : WorldV lo h' w c st cs := hV.same (fun id ho => x.keep id (by obtain ⟨_, hid⟩ := ho; exact hV.own.lt id hid) (hn id ho)) x.len
theorem WorldV.push (hV : WorldV lo h w c st cs) (b : Blk) : WorldV lo (h.push b) w c st cs := hV.ext (Ext.push h b)
/-- A change of a world's: what it did not own is as it was, what it owns it owned, or it is new. -/
structure StepV (h : H) (p : Key → Cell) (h' : H) (p' : Key → Cell) : Prop where
  chg : Chg h (Owned p) h'
  sub : ∀ id, Owned p' id → Owned p id ∨ h.length ≤ id
theorem StepV.refl (h : H) (p : Key → Cell) : StepV h p h p := ⟨Chg.refl _ _, fun _ h => .inl h⟩
theorem StepV.trans {h1 h2 h3 : H} {p1 p2 p3 : Key → Cell} (a : StepV h1 p1 h2 p2) (b : StepV h2 p2 h3 p3) : StepV h1 p1 h3 p3 := by
  refine ⟨a.chg.trans b.chg fun id hid ho => ?_, fun id ho => ?_⟩
  · rcases a.sub id ho with h | h
    · exact h
    · omega
  · rcases b.sub id ho with h | h
    · exact a.sub id h
    · right; have := a.chg.len; omega
theorem StepV.of_ext {p : Key → Cell} (x : Ext h h') : StepV h p h' p := ⟨Chg.of_ext x _, fun _ h => .inl h⟩
theorem StepV.one {p p' : Key → Cell} (k : Key) (hp : ∀ k', k' ≠ k → p' k' = p k') (hc : Chg h (fun id => id ∈ (p k).ids) h') (hi : ∀ id ∈ (p' k).ids, id ∈ (p k).ids ∨ h.length ≤ id) : StepV h p h' p' := by
  refine ⟨hc.mono fun id _ hid => ⟨k, hid⟩, fun id ⟨k', hid⟩ => ?_⟩
  by_cases hk : k' = k
  · subst hk
    rcases hi id hid with h | h
    · exact .inl ⟨_, h⟩
    · exact .inr h
  · rw [hp k' hk] at hid; exact .inl ⟨_, hid⟩
theorem StepV.ext {p p' : Key → Cell} (a : StepV h p h' p') {lo : Nat} (o : ∀ id, Owned p id → lo ≤ id) {h0 : H} (x : Ext h0 h) (hl : h0.length ≤ lo) : Ext h0 h' :=
  ⟨Nat.le_trans x.1 a.chg.len, fun id hid => by rw [a.chg.keep id (Nat.lt_of_lt_of_le hid x.1) (fun h => by have := o id h; omega), x.2 id hid]⟩
theorem OwnK.owned_ge {p : Key → Cell} (o : OwnK lo h p) : ∀ id, Owned p id → lo ≤ id := fun id ⟨k, hid⟩ => o.ge k id hid

/- ## The single steps -/
/-- The numbers of a world are no parts. -/
theorem WorldV.nums (hV : WorldV lo h w c st cs) (a b d e : Int) : WorldV lo h { w with now := a, sent := b, taken := d, lost := e } { c with now := a, sent := b, taken := d, lost := e } st cs :=
  ⟨hV.code, hV.runs, hV.stl, hV.len, hV.each, hV.queue, rfl, rfl, rfl, rfl, hV.own, hV.lo_le⟩
/-- A run lies in its row anew: the whole, or some cells of it. -/
theorem WorldV.lay (hV : WorldV lo h w c st cs) {i : Nat} (hi : i < w.runs.length) {j : Nat} {xs : List Cell} {r' : RunC} (hx : encR r' = splice (encR (st[i]'(by have := hV.stl; omega))) j xs) (hj : j + xs.length ≤ 13) :
    ∃ h', h.write (sid c.runs) (soff c.runs + i) j xs = some h' ∧ WorldV lo h' w c (st.set i r') cs ∧ StepV h (part c cs) h' (part c cs) := by
  have hi' : i < st.length := by have := hV.stl; omega
  obtain ⟨h', e, s1, w1, l1, c1⟩ := hV.runs.write (hV.own.wr .runs) hi' hx hj
  have o := hV.own.upd hV.lo_le .runs (fun _ _ => rfl) c1 w1 (hV.own.un .runs) fun id hid => .inl hid
  have ne : ∀ {k : Key}, k ≠ .runs → ∀ id ∈ (part c cs k).ids, h'.get id = h.get id := fun hk id hid => c1.keep id (hV.own.lt id hid) fun hh => hk (hV.own.one _ _ _ hid hh)
  refine ⟨h', e, ⟨hV.code.same (ne (k := .code) (by simp)), s1, by simp [hV.stl], hV.len, fun q hq => ?_, hV.queue.same (ne (k := .queue) (by simp)), hV.now, hV.sent, hV.taken, hV.lost, o, by rw [l1]; exact hV.lo_le⟩, StepV.one .runs (fun _ _ => rfl) c1 fun id hid => .inl hid⟩
  have hq' : q < cs.length := by rw [hV.len]; exact hq
  refine (hV.each q hq).same4 (fun id hid => ne (k := .slots q) (by simp) id (by simpa [part, fld_at hq'] using hid)) (fun id hid => ne (k := .mail q) (by simp) id (by simpa [part, fld_at hq'] using hid)) (fun id hid => ne (k := .links q) (by simp) id (by simpa [part, fld_at hq'] using hid)) (fun id hid => ne (k := .watched q) (by simp) id (by simpa [part, fld_at hq'] using hid))
/-- A new queue. -/
theorem WorldV.newQueue (hV : WorldV lo h w c st cs) {q : List Int} {s' : Cell} (hc : Chg h (fun id => id ∈ c.queue.ids) h') (hs : Sl h' s' 1 encI q) (hw : Wr h' s') (hu : Un s') (hids : ∀ id ∈ s'.ids, id ∈ c.queue.ids ∨ h.length ≤ id) :
    WorldV lo h' { w with queue := q } { c with queue := s' } st cs ∧ StepV h (part c cs) h' (part { c with queue := s' } cs) := by
  have hp : ∀ k', k' ≠ Key.queue → part { c with queue := s' } cs k' = part c cs k' := fun k' hk => by cases k' <;> first | rfl | exact absurd rfl hk
  have o := hV.own.upd (p' := part { c with queue := s' } cs) hV.lo_le .queue hp hc hw hu hids
  have ne : ∀ {k : Key}, k ≠ .queue → ∀ id ∈ (part c cs k).ids, h'.get id = h.get id := fun hk id hid => hc.keep id (hV.own.lt id hid) fun hh => hk (hV.own.one _ _ _ hid hh)
  refine ⟨⟨hV.code.same (ne (k := .code) (by simp)), hV.runs.same (ne (k := .runs) (by simp)), hV.stl, hV.len, fun q hq => ?_, hs, hV.now, hV.sent, hV.taken, hV.lost, o, Nat.le_trans hV.lo_le hc.len⟩, StepV.one .queue hp hc hids⟩
  have hq' : q < cs.length := by rw [hV.len]; exact hq
  exact (hV.each q hq).same4 (fun id hid => ne (k := .slots q) (by simp) id (by simpa [part, fld_at hq'] using hid)) (fun id hid => ne (k := .mail q) (by simp) id (by simpa [part, fld_at hq'] using hid)) (fun id hid => ne (k := .links q) (by simp) id (by simpa [part, fld_at hq'] using hid)) (fun id hid => ne (k := .watched q) (by simp) id (by simpa [part, fld_at hq'] using hid))
theorem fld_set {f : RunC → Cell} {i q : Nat} {r' : RunC} : fld (cs.set i r') q f = if q = i ∧ i < cs.length then f r' else fld cs q f := by
  simp only [fld, List.getElem?_set]
  by_cases hq : i = q
  · subst hq
    by_cases hl : i < cs.length <;> simp [hl]
  · rw [if_neg hq, if_neg (fun h => hq h.1.symm)]
/-- A run is to be otherwise, its parts are the same. -/
theorem WorldV.flat (hV : WorldV lo h w c st cs) {i : Nat} (hi : i < w.runs.length) {r : PRun} {r' : RunC} (hr : RunR h r r') (h1 : r'.slots = (cs[i]'(by have := hV.len; omega)).slots) (h2 : r'.mail = (cs[i]'(by have := hV.len; omega)).mail) (h3 : r'.links = (cs[i]'(by have := hV.len; omega)).links) (h4 : r'.watched = (cs[i]'(by have := hV.len; omega)).watched) :
    WorldV lo h { w with runs := w.runs.set i r } c st (cs.set i r') ∧ part c (cs.set i r') = part c cs := by
  have hi' : i < cs.length := by have := hV.len; omega
  have hp : part c (cs.set i r') = part c cs := by
    funext k
    cases k <;> first | rfl | (simp only [part, fld_set]; split <;> first | rfl | (rename_i e; obtain ⟨rfl, _⟩ := e; rw [fld_at hi']; assumption))
  refine ⟨⟨hV.code, hV.runs, by simp [hV.stl], by simp [hV.len], fun q hq => ?_, hV.queue, hV.now, hV.sent, hV.taken, hV.lost, by rw [hp]; exact hV.own, hV.lo_le⟩, hp⟩
  simp only [List.length_set] at hq
  by_cases hqi : i = q
  · subst hqi; simpa using hr
  · simpa [List.getElem_set, hqi] using hV.each q hq
end Go.Proofs.YtkcfminmojolhaaGreat

/-
  NEW LISTS OF A RUN; APPENDS.
-/
set_option maxRecDepth 8000
namespace Go.Proofs.YtkcfminmojolhaaGreat
open Go.AM
variable {h h' : H} {lo : Nat} {w : PWorld} {c : WorldC} {st cs : List RunC}
/-- New slots of a run. -/
theorem WorldV.newSlots (hV : WorldV lo h w c st cs) {i : Nat} (hi : i < w.runs.length) {q : List PVal} {s' : Cell} (hc : Chg h (fun id => id ∈ (cs[i]'(by have := hV.len; omega)).slots.ids) h') (hs : Sl h' s' 2 encV q) (hw : Wr h' s') (hu : Un s') (hids : ∀ id ∈ s'.ids, id ∈ (cs[i]'(by have := hV.len; omega)).slots.ids ∨ h.length ≤ id) :
    WorldV lo h' { w with runs := w.runs.set i { w.runs[i] with slots := q } } c st (cs.set i { (cs[i]'(by have := hV.len; omega)) with slots := s' }) ∧ StepV h (part c cs) h' (part c (cs.set i { (cs[i]'(by have := hV.len; omega)) with slots := s' })) := by
  have hi' : i < cs.length := by have := hV.len; omega
  have hpk : (part c cs (.slots i)) = cs[i].slots := fld_at hi'
  have hp : ∀ k', k' ≠ Key.slots i → part c (cs.set i { cs[i] with slots := s' }) k' = part c cs k' := fun k' hk => by
    cases k' <;> first | rfl | (simp only [part, fld_set]; split <;> first | rfl | (rename_i e; obtain ⟨rfl, _⟩ := e; first | exact absurd rfl hk | rw [fld_at hi']))
  have hpn : part c (cs.set i { cs[i] with slots := s' }) (.slots i) = s' := by simp [part, fld_set, hi']
  rw [← hpk] at hc hids
  have o := hV.own.upd (p' := part c (cs.set i { cs[i] with slots := s' })) hV.lo_le (.slots i) hp hc (by rw [hpn]; exact hw) (by rw [hpn]; exact hu) (by rw [hpn]; exact hids)
  have ne : ∀ {k : Key}, k ≠ .slots i → ∀ id ∈ (part c cs k).ids, h'.get id = h.get id := fun hk id hid => hc.keep id (hV.own.lt id hid) fun hh => hk (hV.own.one _ _ _ hid hh)
  refine ⟨⟨hV.code.same (ne (k := .code) (by simp)), hV.runs.same (ne (k := .runs) (by simp)), by simp [hV.stl], by simp [hV.len], fun q hq => ?_, hV.queue.same (ne (k := .queue) (by simp)), hV.now, hV.sent, hV.taken, hV.lost, o, Nat.le_trans hV.lo_le hc.len⟩, StepV.one (.slots i) hp hc (by rw [hpn]; exact hids)⟩
  simp only [List.length_set] at hq
  have hq' : q < cs.length := by rw [hV.len]; exact hq
  have hr := hV.each q hq
  by_cases hqi : i = q
  · subst hqi
    simp only [List.getElem_set_self]
    exact ⟨hr.id, hr.at_, hs, hr.full, hr.mail.same fun id hid => ne (k := .mail i) (by simp) id (by simpa [part, fld_at hq'] using hid), hr.state, hr.due, hr.links.same fun id hid => ne (k := .links i) (by simp) id (by simpa [part, fld_at hq'] using hid), hr.watched.same fun id hid => ne (k := .watched i) (by simp) id (by simpa [part, fld_at hq'] using hid), hr.trap, hr.why, hr.turns⟩
  · simp only [List.getElem_set, hqi, ↓reduceIte]
    exact hr.same4 (fun id hid => ne (k := .slots q) (by simp; omega) id (by simpa [part, fld_at hq'] using hid)) (fun id hid => ne (k := .mail q) (by simp) id (by simpa [part, fld_at hq'] using hid)) (fun id hid => ne (k := .links q) (by simp) id (by simpa [part, fld_at hq'] using hid)) (fun id hid => ne (k := .watched q) (by simp) id (by simpa [part, fld_at hq'] using hid))
/-- New mail of a run. -/
theorem WorldV.newMail (hV : WorldV lo h w c st cs) {i : Nat} (hi : i < w.runs.length) {q : List PVal} {s' : Cell} (hc : Chg h (fun id => id ∈ (cs[i]'(by have := hV.len; omega)).mail.ids) h') (hs : Sl h' s' 2 encV q) (hw : Wr h' s') (hu : Un s') (hids : ∀ id ∈ s'.ids, id ∈ (cs[i]'(by have := hV.len; omega)).mail.ids ∨ h.length ≤ id) :
    WorldV lo h' { w with runs := w.runs.set i { w.runs[i] with mail := q } } c st (cs.set i { (cs[i]'(by have := hV.len; omega)) with mail := s' }) ∧ StepV h (part c cs) h' (part c (cs.set i { (cs[i]'(by have := hV.len; omega)) with mail := s' })) := by
  have hi' : i < cs.length := by have := hV.len; omega
  have hpk : (part c cs (.mail i)) = cs[i].mail := fld_at hi'
  have hp : ∀ k', k' ≠ Key.mail i → part c (cs.set i { cs[i] with mail := s' }) k' = part c cs k' := fun k' hk => by
    cases k' <;> first | rfl | (simp only [part, fld_set]; split <;> first | rfl | (rename_i e; obtain ⟨rfl, _⟩ := e; first | exact absurd rfl hk | rw [fld_at hi']))
  have hpn : part c (cs.set i { cs[i] with mail := s' }) (.mail i) = s' := by simp [part, fld_set, hi']
  rw [← hpk] at hc hids
  have o := hV.own.upd (p' := part c (cs.set i { cs[i] with mail := s' })) hV.lo_le (.mail i) hp hc (by rw [hpn]; exact hw) (by rw [hpn]; exact hu) (by rw [hpn]; exact hids)
  have ne : ∀ {k : Key}, k ≠ .mail i → ∀ id ∈ (part c cs k).ids, h'.get id = h.get id := fun hk id hid => hc.keep id (hV.own.lt id hid) fun hh => hk (hV.own.one _ _ _ hid hh)
  refine ⟨⟨hV.code.same (ne (k := .code) (by simp)), hV.runs.same (ne (k := .runs) (by simp)), by simp [hV.stl], by simp [hV.len], fun q hq => ?_, hV.queue.same (ne (k := .queue) (by simp)), hV.now, hV.sent, hV.taken, hV.lost, o, Nat.le_trans hV.lo_le hc.len⟩, StepV.one (.mail i) hp hc (by rw [hpn]; exact hids)⟩
  simp only [List.length_set] at hq
  have hq' : q < cs.length := by rw [hV.len]; exact hq
  have hr := hV.each q hq
  by_cases hqi : i = q
  · subst hqi
    simp only [List.getElem_set_self]
    exact ⟨hr.id, hr.at_, hr.slots.same fun id hid => ne (k := .slots i) (by simp) id (by simpa [part, fld_at hq'] using hid), hr.full, hs, hr.state, hr.due, hr.links.same fun id hid => ne (k := .links i) (by simp) id (by simpa [part, fld_at hq'] using hid), hr.watched.same fun id hid => ne (k := .watched i) (by simp) id (by simpa [part, fld_at hq'] using hid), hr.trap, hr.why, hr.turns⟩
  · simp only [List.getElem_set, hqi, ↓reduceIte]
    exact hr.same4 (fun id hid => ne (k := .slots q) (by simp) id (by simpa [part, fld_at hq'] using hid)) (fun id hid => ne (k := .mail q) (by simp; omega) id (by simpa [part, fld_at hq'] using hid)) (fun id hid => ne (k := .links q) (by simp) id (by simpa [part, fld_at hq'] using hid)) (fun id hid => ne (k := .watched q) (by simp) id (by simpa [part, fld_at hq'] using hid))
/-- New links of a run. -/
theorem WorldV.newLinks (hV : WorldV lo h w c st cs) {i : Nat} (hi : i < w.runs.length) {q : List Int} {s' : Cell} (hc : Chg h (fun id => id ∈ (cs[i]'(by have := hV.len; omega)).links.ids) h') (hs : Sl h' s' 1 encI q) (hw : Wr h' s') (hu : Un s') (hids : ∀ id ∈ s'.ids, id ∈ (cs[i]'(by have := hV.len; omega)).links.ids ∨ h.length ≤ id) :
    WorldV lo h' { w with runs := w.runs.set i { w.runs[i] with links := q } } c st (cs.set i { (cs[i]'(by have := hV.len; omega)) with links := s' }) ∧ StepV h (part c cs) h' (part c (cs.set i { (cs[i]'(by have := hV.len; omega)) with links := s' })) := by
  have hi' : i < cs.length := by have := hV.len; omega
  have hpk : (part c cs (.links i)) = cs[i].links := fld_at hi'
  have hp : ∀ k', k' ≠ Key.links i → part c (cs.set i { cs[i] with links := s' }) k' = part c cs k' := fun k' hk => by
    cases k' <;> first | rfl | (simp only [part, fld_set]; split <;> first | rfl | (rename_i e; obtain ⟨rfl, _⟩ := e; first | exact absurd rfl hk | rw [fld_at hi']))
  have hpn : part c (cs.set i { cs[i] with links := s' }) (.links i) = s' := by simp [part, fld_set, hi']
  rw [← hpk] at hc hids
  have o := hV.own.upd (p' := part c (cs.set i { cs[i] with links := s' })) hV.lo_le (.links i) hp hc (by rw [hpn]; exact hw) (by rw [hpn]; exact hu) (by rw [hpn]; exact hids)
  have ne : ∀ {k : Key}, k ≠ .links i → ∀ id ∈ (part c cs k).ids, h'.get id = h.get id := fun hk id hid => hc.keep id (hV.own.lt id hid) fun hh => hk (hV.own.one _ _ _ hid hh)
  refine ⟨⟨hV.code.same (ne (k := .code) (by simp)), hV.runs.same (ne (k := .runs) (by simp)), by simp [hV.stl], by simp [hV.len], fun q hq => ?_, hV.queue.same (ne (k := .queue) (by simp)), hV.now, hV.sent, hV.taken, hV.lost, o, Nat.le_trans hV.lo_le hc.len⟩, StepV.one (.links i) hp hc (by rw [hpn]; exact hids)⟩
  simp only [List.length_set] at hq
  have hq' : q < cs.length := by rw [hV.len]; exact hq
  have hr := hV.each q hq
  by_cases hqi : i = q
  · subst hqi
    simp only [List.getElem_set_self]
    exact ⟨hr.id, hr.at_, hr.slots.same fun id hid => ne (k := .slots i) (by simp) id (by simpa [part, fld_at hq'] using hid), hr.full, hr.mail.same fun id hid => ne (k := .mail i) (by simp) id (by simpa [part, fld_at hq'] using hid), hr.state, hr.due, hs, hr.watched.same fun id hid => ne (k := .watched i) (by simp) id (by simpa [part, fld_at hq'] using hid), hr.trap, hr.why, hr.turns⟩
  · simp only [List.getElem_set, hqi, ↓reduceIte]
    exact hr.same4 (fun id hid => ne (k := .slots q) (by simp) id (by simpa [part, fld_at hq'] using hid)) (fun id hid => ne (k := .mail q) (by simp) id (by simpa [part, fld_at hq'] using hid)) (fun id hid => ne (k := .links q) (by simp; omega) id (by simpa [part, fld_at hq'] using hid)) (fun id hid => ne (k := .watched q) (by simp) id (by simpa [part, fld_at hq'] using hid))
/-- New watched of a run. -/
theorem WorldV.newWatched (hV : WorldV lo h w c st cs) {i : Nat} (hi : i < w.runs.length) {q : List Int} {s' : Cell} (hc : Chg h (fun id => id ∈ (cs[i]'(by have := hV.len; omega)).watched.ids) h') (hs : Sl h' s' 1 encI q) (hw : Wr h' s') (hu : Un s') (hids : ∀ id ∈ s'.ids, id ∈ (cs[i]'(by have := hV.len; omega)).watched.ids ∨ h.length ≤ id) :
    WorldV lo h' { w with runs := w.runs.set i { w.runs[i] with watched := q } } c st (cs.set i { (cs[i]'(by have := hV.len; omega)) with watched := s' }) ∧ StepV h (part c cs) h' (part c (cs.set i { (cs[i]'(by have := hV.len; omega)) with watched := s' })) := by
  have hi' : i < cs.length := by have := hV.len; omega
  have hpk : (part c cs (.watched i)) = cs[i].watched := fld_at hi'
  have hp : ∀ k', k' ≠ Key.watched i → part c (cs.set i { cs[i] with watched := s' }) k' = part c cs k' := fun k' hk => by
    cases k' <;> first | rfl | (simp only [part, fld_set]; split <;> first | rfl | (rename_i e; obtain ⟨rfl, _⟩ := e; first | exact absurd rfl hk | rw [fld_at hi']))
  have hpn : part c (cs.set i { cs[i] with watched := s' }) (.watched i) = s' := by simp [part, fld_set, hi']
  rw [← hpk] at hc hids
  have o := hV.own.upd (p' := part c (cs.set i { cs[i] with watched := s' })) hV.lo_le (.watched i) hp hc (by rw [hpn]; exact hw) (by rw [hpn]; exact hu) (by rw [hpn]; exact hids)
  have ne : ∀ {k : Key}, k ≠ .watched i → ∀ id ∈ (part c cs k).ids, h'.get id = h.get id := fun hk id hid => hc.keep id (hV.own.lt id hid) fun hh => hk (hV.own.one _ _ _ hid hh)
  refine ⟨⟨hV.code.same (ne (k := .code) (by simp)), hV.runs.same (ne (k := .runs) (by simp)), by simp [hV.stl], by simp [hV.len], fun q hq => ?_, hV.queue.same (ne (k := .queue) (by simp)), hV.now, hV.sent, hV.taken, hV.lost, o, Nat.le_trans hV.lo_le hc.len⟩, StepV.one (.watched i) hp hc (by rw [hpn]; exact hids)⟩
  simp only [List.length_set] at hq
  have hq' : q < cs.length := by rw [hV.len]; exact hq
  have hr := hV.each q hq
  by_cases hqi : i = q
  · subst hqi
    simp only [List.getElem_set_self]
    exact ⟨hr.id, hr.at_, hr.slots.same fun id hid => ne (k := .slots i) (by simp) id (by simpa [part, fld_at hq'] using hid), hr.full, hr.mail.same fun id hid => ne (k := .mail i) (by simp) id (by simpa [part, fld_at hq'] using hid), hr.state, hr.due, hr.links.same fun id hid => ne (k := .links i) (by simp) id (by simpa [part, fld_at hq'] using hid), hs, hr.trap, hr.why, hr.turns⟩
  · simp only [List.getElem_set, hqi, ↓reduceIte]
    exact hr.same4 (fun id hid => ne (k := .slots q) (by simp) id (by simpa [part, fld_at hq'] using hid)) (fun id hid => ne (k := .mail q) (by simp) id (by simpa [part, fld_at hq'] using hid)) (fun id hid => ne (k := .links q) (by simp) id (by simpa [part, fld_at hq'] using hid)) (fun id hid => ne (k := .watched q) (by simp; omega) id (by simpa [part, fld_at hq'] using hid))
/-- An append to the queue. -/
theorem WorldV.queueApp (hV : WorldV lo h w c st cs) {ys : List Int} (hl : w.queue.length + ys.length ≤ lenMost) :
    ∃ s' h', appendA 1 (h.push ⟨false, 1, ys.map encI⟩) (.c c.queue) (.c (.sl h.length 0 ys.length none)) = some (.c s', h') ∧ WorldV lo h' { w with queue := w.queue ++ ys } { c with queue := s' } st cs ∧ StepV h (part c cs) h' (part { c with queue := s' } cs) := by
  obtain ⟨s', h', e, g⟩ := hV.queue.append_new (hV.own.wr .queue) (hV.own.un .queue) (ys := ys) (by simp) hl
  obtain ⟨v, s⟩ := hV.newQueue g.chg g.sl g.wr g.un g.ids
  exact ⟨s', h', e, v, s⟩
/-- An append to the mail of a run. -/
theorem WorldV.mailApp (hV : WorldV lo h w c st cs) {i : Nat} (hi : i < w.runs.length) {ys : List PVal} (hl : w.runs[i].mail.length + ys.length ≤ lenMost) :
    ∃ s' h', appendA 2 (h.push ⟨false, 2, ys.map encV⟩) (.c (cs[i]'(by have := hV.len; omega)).mail) (.c (.sl h.length 0 ys.length none)) = some (.c s', h') ∧ WorldV lo h' { w with runs := w.runs.set i { w.runs[i] with mail := w.runs[i].mail ++ ys } } c st (cs.set i { (cs[i]'(by have := hV.len; omega)) with mail := s' }) ∧ StepV h (part c cs) h' (part c (cs.set i { (cs[i]'(by have := hV.len; omega)) with mail := s' })) := by
  have hi' : i < cs.length := by have := hV.len; omega
  have hpk : (part c cs (.mail i)) = cs[i].mail := fld_at hi'
  obtain ⟨s', h', e, g⟩ := (hV.each i hi).mail.append_new (by rw [← hpk]; exact hV.own.wr _) (by rw [← hpk]; exact hV.own.un _) (ys := ys) (by simp) hl
  obtain ⟨v, s⟩ := hV.newMail hi g.chg g.sl g.wr g.un g.ids
  exact ⟨s', h', e, v, s⟩
/-- An append to the links of a run. -/
theorem WorldV.linksApp (hV : WorldV lo h w c st cs) {i : Nat} (hi : i < w.runs.length) {ys : List Int} (hl : w.runs[i].links.length + ys.length ≤ lenMost) :
    ∃ s' h', appendA 1 (h.push ⟨false, 1, ys.map encI⟩) (.c (cs[i]'(by have := hV.len; omega)).links) (.c (.sl h.length 0 ys.length none)) = some (.c s', h') ∧ WorldV lo h' { w with runs := w.runs.set i { w.runs[i] with links := w.runs[i].links ++ ys } } c st (cs.set i { (cs[i]'(by have := hV.len; omega)) with links := s' }) ∧ StepV h (part c cs) h' (part c (cs.set i { (cs[i]'(by have := hV.len; omega)) with links := s' })) := by
  have hi' : i < cs.length := by have := hV.len; omega
  have hpk : (part c cs (.links i)) = cs[i].links := fld_at hi'
  obtain ⟨s', h', e, g⟩ := (hV.each i hi).links.append_new (by rw [← hpk]; exact hV.own.wr _) (by rw [← hpk]; exact hV.own.un _) (ys := ys) (by simp) hl
  obtain ⟨v, s⟩ := hV.newLinks hi g.chg g.sl g.wr g.un g.ids
  exact ⟨s', h', e, v, s⟩
/-- An append to the watched of a run. -/
theorem WorldV.watchedApp (hV : WorldV lo h w c st cs) {i : Nat} (hi : i < w.runs.length) {ys : List Int} (hl : w.runs[i].watched.length + ys.length ≤ lenMost) :
    ∃ s' h', appendA 1 (h.push ⟨false, 1, ys.map encI⟩) (.c (cs[i]'(by have := hV.len; omega)).watched) (.c (.sl h.length 0 ys.length none)) = some (.c s', h') ∧ WorldV lo h' { w with runs := w.runs.set i { w.runs[i] with watched := w.runs[i].watched ++ ys } } c st (cs.set i { (cs[i]'(by have := hV.len; omega)) with watched := s' }) ∧ StepV h (part c cs) h' (part c (cs.set i { (cs[i]'(by have := hV.len; omega)) with watched := s' })) := by
  have hi' : i < cs.length := by have := hV.len; omega
  have hpk : (part c cs (.watched i)) = cs[i].watched := fld_at hi'
  obtain ⟨s', h', e, g⟩ := (hV.each i hi).watched.append_new (by rw [← hpk]; exact hV.own.wr _) (by rw [← hpk]; exact hV.own.un _) (ys := ys) (by simp) hl
  obtain ⟨v, s⟩ := hV.newWatched hi g.chg g.sl g.wr g.un g.ids
  exact ⟨s', h', e, v, s⟩
end Go.Proofs.YtkcfminmojolhaaGreat
