/-
  What functions of the seat answer, each proved once; each under the condition that cells bear what it is given, as its statement says.
-/
import Derived.Test.YtahdcipolknofaaGreatWalk5
import Derived.Test.YtahdcipolknofaaGreatAm6
import Derived.Test.YtahdcipolknofaaGreatWalk1
import Derived.WalkKit
import Derived.Lib.Walk
import Derived.WideShapes
import Derived.Below
import Derived.Carry
set_option linter.all false
/-
  THE LAWS' FUNCTIONS THAT COPY RUNS AND WORLDS: what they answer.
-/
namespace Go.Proofs.YtahdcipolknofaaGreat
open Go.AM
variable {h : H}
/-- The blocks that a run, a row of runs, a world owns. -/
def RunC.ids (c : RunC) : List Nat := Cell.ids c.slots ++ (Cell.ids c.mail ++ (Cell.ids c.links ++ Cell.ids c.watched))
/-- These blocks may be written, each is named once, none lies ahead of 'lo'. -/
structure Own (lo : Nat) (h : H) (ids : List Nat) : Prop where
  nd : ids.Nodup
  ge : ∀ id ∈ ids, lo ≤ id
  wr : ∀ id ∈ ids, ∃ b, h.get id = some b ∧ b.ro = false
theorem Own.lt {lo : Nat} {h : H} {ids : List Nat} (o : Own lo h ids) : ∀ id ∈ ids, id < h.length := fun id hid => by
  obtain ⟨b, hb, _⟩ := o.wr id hid; exact H.get_lt hb
theorem Own.ext {lo : Nat} {h k : H} {ids : List Nat} (o : Own lo h ids) (hk : ∀ id ∈ ids, k.get id = h.get id) : Own lo k ids := ⟨o.nd, o.ge, fun id hid => by rw [hk id hid]; exact o.wr id hid⟩
theorem Own.append {lo mid : Nat} {h : H} {a b : List Nat} (ha : Own lo h a) (hb : Own mid h b) (hm : lo ≤ mid) (hlt : ∀ id ∈ a, id < mid) : Own lo h (a ++ b) where
  nd := by
    rw [List.nodup_append]
    exact ⟨ha.nd, hb.nd, fun x hx y hy e => by have := hlt x hx; have := hb.ge y hy; omega⟩
  ge := fun id hid => by
    rcases List.mem_append.1 hid with h | h
    · exact ha.ge id h
    · have := hb.ge id h; omega
  wr := fun id hid => by
    rcases List.mem_append.1 hid with h | h
    · exact ha.wr id h
    · exact hb.wr id h
def newR (n : Nat) (r : PRun) : RunC := ⟨r.id, r.at_, .sl n 0 r.slots.length none, r.full, .sl (n + 1) 0 r.mail.length none, r.state, r.due, .sl (n + 2) 0 r.links.length none, .sl (n + 3) 0 r.watched.length none, r.trap, r.why, r.turns⟩
def pushR (h : H) (r : PRun) : H := (((h.push ⟨false, 2, r.slots.map encV⟩).push ⟨false, 2, r.mail.map encV⟩).push ⟨false, 1, r.links.map encI⟩).push ⟨false, 1, r.watched.map encI⟩
theorem pushR_length (h : H) (r : PRun) : (pushR h r).length = h.length + 4 := by simp [pushR]
theorem pushR_ext (h : H) (r : PRun) : Ext h (pushR h r) := (((Ext.push _ _).trans (Ext.push _ _)).trans (Ext.push _ _)).trans (Ext.push _ _)
theorem RunSmall.nat {n : Int} {r : PRun} (h : RunSmall n r) (hn : n ≤ 1048576) : r.slots.length ≤ 1048576 ∧ r.mail.length ≤ 1048576 ∧ r.links.length ≤ 1048576 ∧ r.watched.length ≤ 1048576 := by
  obtain ⟨a, b, c, d⟩ := h; exact ⟨by omega, by omega, by omega, by omega⟩
theorem pushR_get (h : H) (r : PRun) : (pushR h r).get h.length = some ⟨false, 2, r.slots.map encV⟩ ∧ (pushR h r).get (h.length + 1) = some ⟨false, 2, r.mail.map encV⟩ ∧ (pushR h r).get (h.length + 2) = some ⟨false, 1, r.links.map encI⟩ ∧ (pushR h r).get (h.length + 3) = some ⟨false, 1, r.watched.map encI⟩ := by
  unfold pushR
  refine ⟨?_, ?_, ?_, ?_⟩
  · exact get_push_some (get_push_some (get_push_some get_push_self))
  · have := get_push_self (h := h.push ⟨false, 2, r.slots.map encV⟩) (b := ⟨false, 2, r.mail.map encV⟩)
    rw [length_push] at this
    exact get_push_some (get_push_some this)
  · have := get_push_self (h := (h.push ⟨false, 2, r.slots.map encV⟩).push ⟨false, 2, r.mail.map encV⟩) (b := ⟨false, 1, r.links.map encI⟩)
    rw [length_push, length_push] at this
    exact get_push_some this
  · have := get_push_self (h := ((h.push ⟨false, 2, r.slots.map encV⟩).push ⟨false, 2, r.mail.map encV⟩).push ⟨false, 1, r.links.map encI⟩) (b := ⟨false, 1, r.watched.map encI⟩)
    rw [length_push, length_push, length_push] at this
    exact this
theorem Sl.of_get {α : Type} {enc : α → List Cell} {xs : List α} {es id : Nat} {h : H} (hg : h.get id = some ⟨false, es, xs.map enc⟩) (he : ∀ x ∈ xs, (enc x).length = es) (hl : xs.length ≤ sMost) : Sl h (.sl id 0 xs.length none) es enc xs :=
  ⟨he, rfl, hl, _, hg, rfl, by simp, by rw [List.drop_zero, List.take_of_length_le (by simp)]⟩
theorem newR_R (h : H) (r : PRun) (hs : r.slots.length ≤ 1048576 ∧ r.mail.length ≤ 1048576 ∧ r.links.length ≤ 1048576 ∧ r.watched.length ≤ 1048576) : RunR (pushR h r) r (newR h.length r) := by
  obtain ⟨g1, g2, g3, g4⟩ := pushR_get h r
  exact ⟨rfl, rfl, Sl.of_get g1 (by simp) (by simp [sMost]; omega), rfl, Sl.of_get g2 (by simp) (by simp [sMost]; omega), rfl, rfl, Sl.of_get g3 (by simp) (by simp [sMost]; omega), Sl.of_get g4 (by simp) (by simp [sMost]; omega), rfl, rfl, rfl⟩
theorem newR_own (h : H) (r : PRun) : Own h.length (pushR h r) (RunC.ids (newR h.length r)) := by
  obtain ⟨g1, g2, g3, g4⟩ := pushR_get h r
  refine ⟨by simp [RunC.ids, newR, Cell.ids], fun id hid => ?_, fun id hid => ?_⟩
  · simp [RunC.ids, newR, Cell.ids] at hid; omega
  · simp [RunC.ids, newR, Cell.ids] at hid
    rcases hid with rfl | rfl | rfl | rfl
    · exact ⟨_, g1, rfl⟩
    · exact ⟨_, g2, rfl⟩
    · exact ⟨_, g3, rfl⟩
    · exact ⟨_, g4, rfl⟩
set_option maxRecDepth 8000 in
theorem c_toRun {r : PRun} {c : RunC} (hr : RunA h r c) (hs : r.slots.length ≤ 1048576 ∧ r.mail.length ≤ 1048576 ∧ r.links.length ≤ 1048576 ∧ r.watched.length ≤ 1048576) : Dz.den 56 [.g (encR c)] h = some (.g (encR (newR h.length r)), pushR h r) := by
  rw [← Wp_eq]
  refine den_wp rfl Tryz.func56 rfl ?_
  have e1 := c_toValS hr.slots hs.1
  have e2 := c_toValS (hr.mail.push ⟨false, 2, r.slots.map encV⟩) hs.2.1
  have e3 := c_toIntS ((hr.links.push ⟨false, 2, r.slots.map encV⟩).push ⟨false, 2, r.mail.map encV⟩) hs.2.2.1
  have e4 := c_toIntS (((hr.watched.push ⟨false, 2, r.slots.map encV⟩).push ⟨false, 2, r.mail.map encV⟩).push ⟨false, 1, r.links.map encI⟩) hs.2.2.2
  simp only [length_push] at e2 e3 e4
  simp [Tryz.f56, e1, e2, e3, e4, hr.id, hr.at_, hr.full, hr.state, hr.due, hr.trap, hr.why, hr.turns, newR, pushR]
end Go.Proofs.YtahdcipolknofaaGreat

/-
  THE LAWS' toRunS, toWorld: what they answer.
-/
namespace Go.Proofs.YtahdcipolknofaaGreat
open Go.AM
variable {h : H}
theorem RunR.same {k k' : H} {r : PRun} {c : RunC} (hr : RunR k r c) (h : ∀ id ∈ RunC.ids c, k'.get id = k.get id) : RunR k' r c :=
  ⟨hr.id, hr.at_, hr.slots.same fun id hid => h id (by simp [RunC.ids, hid]), hr.full, hr.mail.same fun id hid => h id (by simp [RunC.ids, hid]), hr.state, hr.due,
    hr.links.same fun id hid => h id (by simp [RunC.ids, hid]), hr.watched.same fun id hid => h id (by simp [RunC.ids, hid]), hr.trap, hr.why, hr.turns⟩
def zeroR : List Cell := [.int .i64 0, .int .i64 0, .nils, .int .i64 0, .nils, .int .i64 0, .int .i64 0, .nils, .nils, .bool false, .int .i64 0, .int .i64 0, .int .i64 0]
def runsIds (cs : List RunC) : List Nat := cs.flatMap RunC.ids
theorem mem_runsIds {cs : List RunC} {id : Nat} : id ∈ runsIds cs ↔ ∃ c ∈ cs, id ∈ RunC.ids c := by simp [runsIds]
def ToRunsQ (h : H) (rs : List PRun) (r : V × H) : Prop := ∃ k cs, r = (.c (.sl h.length 0 rs.length none), k) ∧ Ext h k ∧ RunsR k (.sl h.length 0 rs.length none) rs cs ∧ Own h.length k (h.length :: runsIds cs)
set_option maxRecDepth 8000 in
theorem c_toRunS {s : Cell} {rs : List PRun} {cs : List RunC} (hR : RunsA h s rs cs) (hl : rs.length ≤ 1048576) (hs : ∀ r ∈ rs, RunSmall 1048576 r) : @Wp _ (Dz.den 23 [.c s] h) ⟨ToRunsQ h rs⟩ := by
  refine den_wp rfl Tryz.func23 rfl ?_
  have hS := hR.sl
  have hcl := hR.len
  have hl2 : (cs.length : Int) ≤ 4294967296 := by omega
  simp [Tryz.f23, hS.lenA, hl2]
  rw [hcl]
  refine count_wpG (σ := H × List RunC) rs.length (fun i g => ([.c s, .c .nils, .c (.sl h.length 0 rs.length none), .c (ci i)], [], [], g.1))
    (fun i g => g.2.length = i ∧ Ext h g.1 ∧ g.1.get h.length = some ⟨false, 13, g.2.map encR ++ List.replicate (rs.length - i) zeroR⟩ ∧ (∀ j (hj : j < rs.length) (hj' : j < g.2.length), RunR g.1 rs[j] g.2[j]) ∧ Own (h.length + 1) g.1 (runsIds g.2))
    (h.push ⟨false, 13, List.replicate rs.length zeroR⟩, []) (by simp [zeroR]) ⟨rfl, Ext.push _ _, by simp, fun j hj hj' => by simp at hj', ⟨by simp [runsIds], by simp [runsIds], by simp [runsIds]⟩⟩ ?_ ?_
  · rintro i ⟨g, csl⟩ hi ⟨q1, q2, q3, q4, q5⟩
    simp only at q1 q2 q3 q4 q5 ⊢
    have hic : i < cs.length := by omega
    have hS' := hS.ext q2
    have hr := (hR.each i hi).ext q2
    have hsm := (hs _ (List.getElem_mem hi)).nat (by omega)
    have e := c_toRun hr hsm
    have hgl := H.get_lt q3
    have hRn := newR_R g rs[i] hsm
    have hOn := newR_own g rs[i]
    have hx := pushR_ext g rs[i]
    have hpl := pushR_length g rs[i]
    generalize hnew : newR g.length rs[i] = nw at *
    generalize hK : pushR g rs[i] = K at *
    have hgK := hx.get q3
    have hrep : List.replicate (rs.length - i) zeroR = zeroR :: List.replicate (rs.length - (i + 1)) zeroR := by
      rw [show rs.length - i = rs.length - (i + 1) + 1 by omega, List.replicate_succ]
    have hW : K.write h.length i 0 (encR nw) = some (List.set K h.length (some ⟨false, 13, (csl ++ [nw]).map encR ++ List.replicate (rs.length - (i + 1)) zeroR⟩)) := by
      simp only [H.write, hgK, hrep]
      rw [List.getElem?_append_right (by simp; omega)]
      have : i - (csl.map encR).length = 0 := by simp; omega
      rw [this]
      simp [zeroR, splice]
      rw [List.set_append_right _ _ (by simp; omega), this]
      simp
    simp only [encR] at e hW
    rw [Wp_body]
    simp [hS'.lenA, hi, hic, hcl, ixA_natA hS', hS'.at, e, hgK, hW, wrap_succ (hS.lt hic)]
    have hkl : h.length < K.length := by omega
    have hsame : ∀ (b : Option Blk) (id : Nat), h.length + 1 ≤ id → H.get (List.set K h.length b) id = K.get id := fun b id hid => get_set_ne (by omega)
    have hold : ∀ id ∈ runsIds csl, K.get id = g.get id := fun id hid => hx.2 id (q5.lt id hid)
    refine ⟨csl ++ [nw], by simp [q1], (q2.trans hx).set (Nat.le_refl _) _, ?_, fun j hj hj' => ?_, ?_⟩
    · rw [get_set_self hkl]; simp
    · by_cases hji : j < csl.length
      · rw [List.getElem_append_left hji]
        refine (q4 j hj hji).same fun id hid => ?_
        have hm : id ∈ runsIds csl := mem_runsIds.2 ⟨_, List.getElem_mem hji, hid⟩
        have := q5.ge id hm
        rw [hsame _ _ this, hold id hm]
      · have : j = i := by simp at hj'; omega
        subst this
        rw [List.getElem_append_right (by omega)]
        simp only [q1, Nat.sub_self, List.getElem_cons_zero]
        refine hRn.same fun id hid => ?_
        have := hOn.ge id hid
        rw [hsame _ _ (by omega)]
    · have e1 : runsIds (csl ++ [nw]) = runsIds csl ++ RunC.ids nw := by simp [runsIds]
      rw [e1]
      refine Own.append (mid := g.length) (q5.ext fun id hid => ?_) (hOn.ext fun id hid => ?_) (by omega) (q5.lt)
      · rw [hsame _ _ (q5.ge id hid), hold id hid]
      · have := hOn.ge id hid
        rw [hsame _ _ (by omega)]
  · rintro ⟨g, csl⟩ ⟨q1, q2, q3, q4, q5⟩
    simp only at q1 q2 q3 q4 q5 ⊢
    have hS' := hS.ext q2
    rw [Wp_body]
    simp [hS'.lenA, hcl]
    have hgl := H.get_lt q3
    rw [Nat.sub_self, List.replicate_zero, List.append_nil] at q3
    refine ⟨g, csl, rfl, q2, ⟨⟨by simp, ?_⟩, q1, fun i hi => q4 i hi (by omega)⟩, ?_⟩
    · refine ⟨q1.symm, by simp [sMost]; omega, _, q3, rfl, by simp [q1], ?_⟩
      rw [List.drop_zero, List.take_of_length_le (by simp [q1])]
    · refine ⟨?_, fun id hid => ?_, fun id hid => ?_⟩
      · rw [List.nodup_cons]
        exact ⟨fun hm => by have := q5.ge _ hm; omega, q5.nd⟩
      · rcases List.mem_cons.1 hid with rfl | hm
        · exact Nat.le_refl _
        · have := q5.ge _ hm; omega
      · rcases List.mem_cons.1 hid with rfl | hm
        · exact ⟨_, q3, rfl⟩
        · exact q5.wr _ hm
/-- The blocks that a world owns. -/
def WorldC.ids (c : WorldC) (cs : List RunC) : List Nat := Cell.ids c.code ++ (Cell.ids c.runs ++ runsIds cs) ++ Cell.ids c.queue
structure WorldO (lo : Nat) (h : H) (w : PWorld) (c : WorldC) (cs : List RunC) : Prop where
  rd : WorldR h w c cs
  own : Own lo h (WorldC.ids c cs)
def ToWorldQ (h : H) (w : PWorld) (r : V × H) : Prop := ∃ k c cs, r = (.g (encW c), k) ∧ Ext h k ∧ WorldO h.length k w c cs
theorem WorldSmall.nat {n : Int} {w : PWorld} (h : WorldSmall n w) (hn : n ≤ 1048576) : w.code.length ≤ 1048576 ∧ w.runs.length ≤ 1048576 ∧ w.queue.length ≤ 1048576 ∧ ∀ r ∈ w.runs, RunSmall 1048576 r :=
  ⟨by have := h.code; omega, by have := h.runs; omega, by have := h.queue; omega, fun r hr => (h.each r hr).mono hn⟩
theorem c_toWorld {w : PWorld} {c : WorldC} {cs : List RunC} (hw : WorldA h w c cs) (hs : WorldSmall 1048576 w) : @Wp _ (Dz.den 8 [.g (encW c)] h) ⟨ToWorldQ h w⟩ := by
  refine den_wp rfl Tryz.func8 rfl ?_
  obtain ⟨s1, s2, s3, s4⟩ := hs.nat (Int.le_refl _)
  have e1 := c_toOpS hw.code s1
  have hw1 := hw.push ⟨false, 6, w.code.map encO⟩
  have hgc := get_push_self (h := h) (b := ⟨false, 6, w.code.map encO⟩)
  have hk1 : (h.push ⟨false, 6, w.code.map encO⟩ : H).length = h.length + 1 := by simp
  have hx1 := Ext.push h ⟨false, 6, w.code.map encO⟩
  generalize hK : h.push ⟨false, 6, w.code.map encO⟩ = K at *
  obtain ⟨_, e2, K2, cs2, rfl, hx2, hR2, hO2⟩ := c_toRunS hw1.runs s2 s4
  have hw2 := hw1.ext hx2
  have e3 := c_toIntS hw2.queue s3
  have hgq := get_push_self (h := K2) (b := ⟨false, 1, w.queue.map encI⟩)
  have hx3 := Ext.push K2 ⟨false, 1, w.queue.map encI⟩
  simp [Tryz.f8, e1, e2, e3, hw.now, hw.sent, hw.taken, hw.lost]
  refine ⟨_, ⟨.sl h.length 0 w.code.length none, .sl K.length 0 w.runs.length none, .sl K2.length 0 w.queue.length none, w.now, w.sent, w.taken, w.lost⟩, cs2, rfl, hx1.trans (hx2.trans hx3), ⟨?_, ?_⟩⟩
  · exact ⟨(Sl.of_get (hx2.get hgc) (by simp) (by simp [sMost]; omega)).push _, hR2.ext hx3, Sl.of_get hgq (by simp) (by simp [sMost]; omega), rfl, rfl, rfl, rfl⟩
  · have hl2 := hx2.1
    have o1 : Own h.length (K2.push ⟨false, 1, w.queue.map encI⟩) [h.length] := ⟨by simp, by simp, fun id hid => by simp at hid; subst hid; exact ⟨_, get_push_some (hx2.get hgc), rfl⟩⟩
    have o2 := hO2.ext (k := K2.push ⟨false, 1, w.queue.map encI⟩) fun id hid => get_push_lt (hO2.lt id hid)
    have o3 : Own K2.length (K2.push ⟨false, 1, w.queue.map encI⟩) [K2.length] := ⟨by simp, by simp, fun id hid => by simp at hid; subst hid; exact ⟨_, hgq, rfl⟩⟩
    have o12 := o1.append o2 (by omega) (fun id hid => by simp at hid; omega)
    have := o12.append o3 (by omega) (fun id hid => by
      rcases List.mem_append.1 hid with hid | hid
      · simp at hid; omega
      · exact hO2.lt id hid)
    simpa [WorldC.ids, Cell.ids] using this
end Go.Proofs.YtahdcipolknofaaGreat

/-
  THE LAW FnExactTurnWhen, in the abstract machine: it answers true.
-/
namespace Go.Proofs.YtahdcipolknofaaGreat
open Go.AM
variable {h : H}
theorem c_law_TurnWhen {w : PWorld} {c : WorldC} {cs : List RunC} (hw : WorldA h w c cs) (id : Int) : Dz.den 3 [.g (encW c), .c (.int .i64 id)] h = some (.c (.bool true), h) := by
  refine den_plain rfl Tryz.func3 rfl rfl ?_
  obtain ⟨_, e1, z, rfl, hz⟩ := c_szWorld hw 1048576 (by omega) (by omega)
  simp only [encW] at e1
  by_cases z0 : z < 0
  · simp [Tryz.f3, e1, z0]
  have hs := (hz (by omega)).2
  obtain ⟨_, e2, k1, c1, cs1, rfl, hx1, hO1⟩ := c_toWorld hw hs
  have e3 := c_TurnWhen hO1.rd id
  have hw1 := hw.ext hx1
  obtain ⟨_, e4, k2, c2, cs2, rfl, hx2, hO2⟩ := c_toWorld hw1 hs
  have e5 := c_ITurnWhen hO2.rd id
  have hw2 := hw1.ext hx2
  obtain ⟨_, e6, k3, c3, cs3, rfl, hx3, hO3⟩ := c_toWorld hw2 hs
  have e7 := c_eqWorld (hO2.rd.ext hx3) hO3.rd
  simp only [encW] at e2 e3 e4 e5 e6 e7
  simp [Tryz.f3, e1, z0, e2, e3, e4, e5, e6, e7]
  exact ⟨by kernel_rfl, (hx1.trans (hx2.trans hx3)).2⟩
end Go.Proofs.YtahdcipolknofaaGreat

/-
  WHAT COMES IN, OPENED: whole numbers, values, steps, runs, and a world.
-/
namespace Go.Proofs.YtahdcipolknofaaGreat
open Go.AM
section
variable {H0 : Type} {enc : TypeId × Value → H0} {W : World} {held : Bool}
/-- A world's data of the abstract machine: nothing there. -/
theorem Opn.nil (W : World) : Opn W [] (fun _ => default) :=
  ⟨⟨Nat.zero_le _, fun id b hg => by simp [H.get] at hg, fun id id' b b' _ hg => by simp [H.get] at hg⟩, fun id b hg => by simp [H.get] at hg⟩
/-- A part of a struct. -/
theorem part_of {P : Program} {t : TypeId} {fs : Array Field} {fuel : Nat} {cs : List Value} {x : DataW H0 × List MemPlace} (ht : P.underlying t = some (.struct fs)) (hd : DataW.trod enc P W 0 (fun _ => true) held fuel t cs = some x) :
    cs.length = P.cellsOf t ∧ ∃ n, ∀ (i e o : Nat), fs[i]?.map (fun f => (f.type, f.offset)) = some (e, o) → ∃ y, DataW.trod enc P W 0 (fun _ => true) held n e ((cs.drop o).take (P.cellsOf e)) = some y ∧ (Light P t x.1 → Light P e y.1) := by
  obtain ⟨xs, n, _, hx, hl, hxl, hp⟩ := DataW.trod_struct ht hd
  refine ⟨hl, n, fun i e o hf0 => ?_⟩
  obtain ⟨f, hf, hfe⟩ := Option.map_eq_some_iff.1 hf0
  obtain ⟨rfl, rfl⟩ := Prod.mk.inj hfe
  have hi : i < xs.length := by rw [hxl]; exact (Array.getElem?_eq_some_iff.1 hf).1
  refine ⟨xs[i], by rw [hp i f hf, List.getElem?_eq_getElem hi], fun hL => ?_⟩
  rw [hx] at hL
  exact hL.part ht hf (by rw [List.getElem?_map, List.getElem?_eq_getElem hi]; rfl)
theorem cells_int : Tryz.prog.cellsOf 3 = 1 := by kernel_rfl
theorem cells_bool : Tryz.prog.cellsOf 4 = 1 := by kernel_rfl
theorem cells_val : Tryz.prog.cellsOf 39 = 2 := by kernel_rfl
theorem cells_op : Tryz.prog.cellsOf 83 = 6 := by kernel_rfl
theorem cells_run : Tryz.prog.cellsOf 72 = 13 := by kernel_rfl
theorem cells_world : Tryz.prog.cellsOf 26 = 7 := by kernel_rfl
theorem cells_ints : Tryz.prog.cellsOf 24 = 1 := by kernel_rfl
theorem cells_vals : Tryz.prog.cellsOf 70 = 1 := by kernel_rfl
theorem cells_ops : Tryz.prog.cellsOf 22 = 1 := by kernel_rfl
theorem cells_runs : Tryz.prog.cellsOf 23 = 1 := by kernel_rfl
theorem bytes_int : 0 < Tryz.prog.bytesOf 3 := of_decide_eq_true (by kernel_rfl)
theorem bytes_val : 0 < Tryz.prog.bytesOf 39 := of_decide_eq_true (by kernel_rfl)
theorem bytes_op : 0 < Tryz.prog.bytesOf 83 := of_decide_eq_true (by kernel_rfl)
theorem bytes_run : 0 < Tryz.prog.bytesOf 72 := of_decide_eq_true (by kernel_rfl)
theorem uncons {α : Type} {l : List α} {n : Nat} (h : l.length = n + 1) : ∃ a t, l = a :: t ∧ t.length = n := by
  cases l with
  | nil => simp at h
  | cons a t => exact ⟨a, t, rfl, by simpa using h⟩
theorem take_one {l : List Value} {k : Nat} (h : k < l.length) : (l.drop k).take 1 = [l[k]] := by
  rw [List.drop_eq_getElem_cons h]; rfl
theorem er_int : ElemRead enc Tryz.prog W (fun _ => true) held 3 encI := fun fuel cs x hd => by
  obtain ⟨n, rfl, _, _⟩ := DataW.trod_int Tryz.underlying3 hd
  exact ⟨n, fun ι => rfl⟩
theorem er_val : ElemRead enc Tryz.prog W (fun _ => true) held 39 encV := fun fuel cs x hd => by
  obtain ⟨hl, n, hp⟩ := part_of Tryz.underlying39 hd
  rw [cells_val] at hl
  obtain ⟨a, t0, rfl, hl0⟩ := uncons hl
  obtain ⟨b, t1, rfl, hl1⟩ := uncons hl0
  obtain rfl := List.length_eq_zero_iff.1 hl1
  obtain ⟨y0, h0, _⟩ := hp 0 3 0 rfl
  obtain ⟨y1, h1, _⟩ := hp 1 3 1 rfl
  simp only [cells_int] at h0 h1
  obtain ⟨n0, e0, _, _⟩ := DataW.trod_int Tryz.underlying3 h0
  obtain ⟨n1, e1, _, _⟩ := DataW.trod_int Tryz.underlying3 h1
  simp at e0 e1
  subst e0; subst e1
  exact ⟨⟨n0, n1⟩, fun ι => rfl⟩
theorem er_op : ElemRead enc Tryz.prog W (fun _ => true) held 83 encO := fun fuel cs x hd => by
  obtain ⟨hl, n, hp⟩ := part_of Tryz.underlying83 hd
  rw [cells_op] at hl
  obtain ⟨a, t0, rfl, hl0⟩ := uncons hl
  obtain ⟨b, t1, rfl, hl1⟩ := uncons hl0
  obtain ⟨c, t2, rfl, hl2⟩ := uncons hl1
  obtain ⟨d, t3, rfl, hl3⟩ := uncons hl2
  obtain ⟨e, t4, rfl, hl4⟩ := uncons hl3
  obtain ⟨f, t5, rfl, hl5⟩ := uncons hl4
  obtain rfl := List.length_eq_zero_iff.1 hl5
  obtain ⟨y0, h0, _⟩ := hp 0 3 0 rfl
  obtain ⟨y1, h1, _⟩ := hp 1 3 1 rfl
  obtain ⟨y2, h2, _⟩ := hp 2 3 2 rfl
  obtain ⟨y3, h3, _⟩ := hp 3 3 3 rfl
  obtain ⟨y4, h4, _⟩ := hp 4 39 4 rfl
  simp only [cells_int, cells_val] at h0 h1 h2 h3 h4
  obtain ⟨n0, e0, _, _⟩ := DataW.trod_int Tryz.underlying3 h0
  obtain ⟨n1, e1, _, _⟩ := DataW.trod_int Tryz.underlying3 h1
  obtain ⟨n2, e2, _, _⟩ := DataW.trod_int Tryz.underlying3 h2
  obtain ⟨n3, e3, _, _⟩ := DataW.trod_int Tryz.underlying3 h3
  obtain ⟨v, e4⟩ := er_val _ _ _ h4
  have q4 := e4 (fun _ => default)
  simp at e0 e1 e2 e3 q4
  subst e0; subst e1; subst e2; subst e3
  obtain ⟨rfl, rfl⟩ := q4
  exact ⟨⟨n0, n1, n2, n3, v⟩, fun ι => rfl⟩
variable {h : H} {ι : Plan} {fuel : Nat} {v : Value} {x : DataW H0 × List MemPlace}
theorem open_I (ho : Opn W h ι) (hd : DataW.trod enc Tryz.prog W 0 (fun _ => true) held fuel 24 [v] = some x) (hL : Light Tryz.prog 24 x.1) :
    ∃ (c : Cell) (xs : List Int) (h' : H) (ι' : Plan), Gr h ι h' ι' ∧ Opn W h' ι' ∧ SlA h' c 1 encI xs ∧ v = c.conc ι' ∧ c.below h'.length :=
  open_flat Tryz.underlying24 cells_int (by omega) (fun _ => rfl) (fun a c hc => by simp [encI] at hc; subst hc; rfl) er_int ho hd hL bytes_int
theorem open_V (ho : Opn W h ι) (hd : DataW.trod enc Tryz.prog W 0 (fun _ => true) held fuel 70 [v] = some x) (hL : Light Tryz.prog 70 x.1) :
    ∃ (c : Cell) (xs : List PVal) (h' : H) (ι' : Plan), Gr h ι h' ι' ∧ Opn W h' ι' ∧ SlA h' c 2 encV xs ∧ v = c.conc ι' ∧ c.below h'.length :=
  open_flat Tryz.underlying70 cells_val (by omega) (fun _ => rfl) (fun a c hc => by simp at hc; rcases hc with rfl | rfl <;> rfl) er_val ho hd hL bytes_val
theorem open_O (ho : Opn W h ι) (hd : DataW.trod enc Tryz.prog W 0 (fun _ => true) held fuel 22 [v] = some x) (hL : Light Tryz.prog 22 x.1) :
    ∃ (c : Cell) (xs : List POp) (h' : H) (ι' : Plan), Gr h ι h' ι' ∧ Opn W h' ι' ∧ SlA h' c 6 encO xs ∧ v = c.conc ι' ∧ c.below h'.length :=
  open_flat Tryz.underlying22 cells_op (by omega) (fun _ => rfl) (fun a c hc => by simp at hc; rcases hc with rfl | rfl | rfl | rfl | rfl | rfl <;> rfl) er_op ho hd hL bytes_op
theorem flat_conc {c : Cell} (h : c.flat = true) (ι ι' : Plan) : c.conc ι = c.conc ι' := by cases c <;> first | rfl | cases h
theorem open_run (h : H) (ι : Plan) (ho : Opn W h ι) (fuel : Nat) (cs : List Value) (x : DataW H0 × List MemPlace) (hd : DataW.trod enc Tryz.prog W 0 (fun _ => true) held fuel 72 cs = some x) (hL : Light Tryz.prog 72 x.1) (hl : cs.length = 13) :
    ∃ (r : PRun) (c : RunC) (h' : H) (ι' : Plan), Gr h ι h' ι' ∧ Opn W h' ι' ∧ RunA h' r c ∧ cs = (encR c).map (Cell.conc ι') ∧ ∀ y ∈ encR c, y.below h'.length := by
  obtain ⟨_, n, hp⟩ := part_of Tryz.underlying72 hd
  obtain ⟨a0, t0, rfl, hl0⟩ := uncons hl
  obtain ⟨a1, t1, rfl, hl1⟩ := uncons hl0
  obtain ⟨a2, t2, rfl, hl2⟩ := uncons hl1
  obtain ⟨a3, t3, rfl, hl3⟩ := uncons hl2
  obtain ⟨a4, t4, rfl, hl4⟩ := uncons hl3
  obtain ⟨a5, t5, rfl, hl5⟩ := uncons hl4
  obtain ⟨a6, t6, rfl, hl6⟩ := uncons hl5
  obtain ⟨a7, t7, rfl, hl7⟩ := uncons hl6
  obtain ⟨a8, t8, rfl, hl8⟩ := uncons hl7
  obtain ⟨a9, t9, rfl, hl9⟩ := uncons hl8
  obtain ⟨b0, t10, rfl, hl10⟩ := uncons hl9
  obtain ⟨b1, t11, rfl, hl11⟩ := uncons hl10
  obtain ⟨b2, t12, rfl, hl12⟩ := uncons hl11
  obtain rfl := List.length_eq_zero_iff.1 hl12
  obtain ⟨y0, h0, _⟩ := hp 0 3 0 rfl
  obtain ⟨y1, h1, _⟩ := hp 1 3 1 rfl
  obtain ⟨y2, h2, l2⟩ := hp 2 70 2 rfl
  obtain ⟨y3, h3, _⟩ := hp 3 3 3 rfl
  obtain ⟨y4, h4, l4⟩ := hp 4 70 4 rfl
  obtain ⟨y5, h5, _⟩ := hp 5 3 5 rfl
  obtain ⟨y6, h6, _⟩ := hp 6 3 6 rfl
  obtain ⟨y7, h7, l7⟩ := hp 7 24 7 rfl
  obtain ⟨y8, h8, l8⟩ := hp 8 24 8 rfl
  obtain ⟨y9, h9, _⟩ := hp 9 4 9 rfl
  obtain ⟨y10, h10, _⟩ := hp 10 39 10 rfl
  obtain ⟨y11, h11, _⟩ := hp 11 3 12 rfl
  simp only [cells_int, cells_val, cells_bool, cells_ints, cells_vals] at h0 h1 h2 h3 h4 h5 h6 h7 h8 h9 h10 h11
  obtain ⟨n0, e0, _, _⟩ := DataW.trod_int Tryz.underlying3 h0
  obtain ⟨n1, e1, _, _⟩ := DataW.trod_int Tryz.underlying3 h1
  obtain ⟨n3, e3, _, _⟩ := DataW.trod_int Tryz.underlying3 h3
  obtain ⟨n5, e5, _, _⟩ := DataW.trod_int Tryz.underlying3 h5
  obtain ⟨n6, e6, _, _⟩ := DataW.trod_int Tryz.underlying3 h6
  obtain ⟨n9, e9, _⟩ := DataW.trod_bool Tryz.underlying4 h9
  obtain ⟨vy, ey⟩ := er_val _ _ _ h10
  have qy := ey (fun _ => default)
  obtain ⟨n11, e11, _, _⟩ := DataW.trod_int Tryz.underlying3 h11
  simp at e0 e1 e3 e5 e6 e9 qy e11
  subst e0; subst e1; subst e3; subst e5; subst e6; subst e9; subst e11
  obtain ⟨rfl, rfl⟩ := qy
  obtain ⟨c2, x2, k2, i2, g2, o2, s2, v2, w2⟩ := open_V ho h2 (l2 hL)
  obtain ⟨c4, x4, k4, i4, g4, o4, s4, v4, w4⟩ := open_V o2 h4 (l4 hL)
  obtain ⟨c7, x7, k7, i7, g7, o7, s7, v7, w7⟩ := open_I o4 h7 (l7 hL)
  obtain ⟨c8, x8, k8, i8, g8, o8, s8, v8, w8⟩ := open_I o7 h8 (l8 hL)
  refine ⟨⟨n0, n1, x2, n3, x4, n5, n6, x7, x8, n9, vy, n11⟩, ⟨n0, n1, c2, n3, c4, n5, n6, c7, c8, n9, vy, n11⟩, k8, i8, g2.trans (g4.trans (g7.trans g8)), o8, ⟨rfl, rfl, s2.ext (g4.trans (g7.trans g8)).ext, rfl, s4.ext (g7.trans g8).ext, rfl, rfl, s7.ext g8.ext, s8, rfl, rfl, rfl⟩, ?_, ?_⟩
  · have q2 : c2.conc i8 = c2.conc i2 := (g4.trans (g7.trans g8)).conc w2
    have q4 : c4.conc i8 = c4.conc i4 := (g7.trans g8).conc w4
    have q7 : c7.conc i8 = c7.conc i7 := g8.conc w7
    rw [v2, v4, v7, v8, ← q2, ← q4, ← q7]
    rfl
  · intro y hy
    simp at hy
    rcases hy with rfl | rfl | rfl | rfl | rfl | rfl | rfl | rfl | rfl | rfl | rfl | rfl | rfl
    · trivial
    · trivial
    · exact (g4.trans (g7.trans g8)).below w2
    · trivial
    · exact (g7.trans g8).below w4
    · trivial
    · trivial
    · exact g8.below w7
    · exact w8
    all_goals trivial
theorem open_R (ho : Opn W h ι) (hd : DataW.trod enc Tryz.prog W 0 (fun _ => true) held fuel 23 [v] = some x) (hL : Light Tryz.prog 23 x.1) :
    ∃ (c : Cell) (rs : List PRun) (cs : List RunC) (h' : H) (ι' : Plan), Gr h ι h' ι' ∧ Opn W h' ι' ∧ RunsA h' c rs cs ∧ v = c.conc ι' ∧ c.below h'.length := by
  obtain ⟨c, rs, cs, h', ι', g, o, s, hl, he, hv, hb⟩ := open_deep Tryz.underlying23 cells_run (by omega) (fun _ => rfl) (R := fun h r c => RunA h r c) (fun _ _ _ _ hx hr => hr.ext hx) open_run ho hd hL bytes_run
  exact ⟨c, rs, cs, h', ι', g, o, ⟨s, hl, fun i hi => he i hi (by omega)⟩, hv, hb⟩
/-- A world that comes in. -/
theorem open_world {v : Value} {fuel : Nat} (ho : Opn W h ι) (hd : DataW.trod enc Tryz.prog W 0 (fun _ => true) held fuel 26 v.cells.toList = some x) (hL : Light Tryz.prog 26 x.1) :
    ∃ (w : PWorld) (c : WorldC) (cs : List RunC) (h' : H) (ι' : Plan), Gr h ι h' ι' ∧ Opn W h' ι' ∧ WorldA h' w c cs ∧ v.cells.toList = (encW c).map (Cell.conc ι') ∧ ∀ y ∈ encW c, y.below h'.length := by
  generalize v.cells.toList = cs at hd
  obtain ⟨hl, n, hp⟩ := part_of Tryz.underlying26 hd
  rw [cells_world] at hl
  obtain ⟨a0, t0, rfl, hl0⟩ := uncons hl
  obtain ⟨a1, t1, rfl, hl1⟩ := uncons hl0
  obtain ⟨a2, t2, rfl, hl2⟩ := uncons hl1
  obtain ⟨a3, t3, rfl, hl3⟩ := uncons hl2
  obtain ⟨a4, t4, rfl, hl4⟩ := uncons hl3
  obtain ⟨a5, t5, rfl, hl5⟩ := uncons hl4
  obtain ⟨a6, t6, rfl, hl6⟩ := uncons hl5
  obtain rfl := List.length_eq_zero_iff.1 hl6
  obtain ⟨y0, h0, l0⟩ := hp 0 22 0 rfl
  obtain ⟨y1, h1, l1⟩ := hp 1 23 1 rfl
  obtain ⟨y2, h2, l2⟩ := hp 2 24 2 rfl
  obtain ⟨y3, h3, _⟩ := hp 3 3 3 rfl
  obtain ⟨y4, h4, _⟩ := hp 4 3 4 rfl
  obtain ⟨y5, h5, _⟩ := hp 5 3 5 rfl
  obtain ⟨y6, h6, _⟩ := hp 6 3 6 rfl
  simp only [cells_int, cells_ints, cells_ops, cells_runs] at h0 h1 h2 h3 h4 h5 h6
  obtain ⟨n3, e3, _, _⟩ := DataW.trod_int Tryz.underlying3 h3
  obtain ⟨n4, e4, _, _⟩ := DataW.trod_int Tryz.underlying3 h4
  obtain ⟨n5, e5, _, _⟩ := DataW.trod_int Tryz.underlying3 h5
  obtain ⟨n6, e6, _, _⟩ := DataW.trod_int Tryz.underlying3 h6
  simp at e3 e4 e5 e6
  subst e3; subst e4; subst e5; subst e6
  obtain ⟨c0, x0, k0, i0, g0, o0, s0, v0, w0⟩ := open_O ho h0 (l0 hL)
  obtain ⟨c1, rs, cs, k1, i1, g1, o1, s1, v1, w1⟩ := open_R o0 h1 (l1 hL)
  obtain ⟨c2, x2, k2, i2, g2, o2, s2, v2, w2⟩ := open_I o1 h2 (l2 hL)
  refine ⟨⟨x0, rs, x2, n3, n4, n5, n6⟩, ⟨c0, c1, c2, n3, n4, n5, n6⟩, cs, k2, i2, g0.trans (g1.trans g2), o2, ⟨s0.ext (g1.trans g2).ext, s1.ext g2.ext, s2, rfl, rfl, rfl, rfl⟩, ?_, ?_⟩
  · have q0 : c0.conc i2 = c0.conc i0 := (g1.trans g2).conc w0
    have q1 : c1.conc i2 = c1.conc i1 := g2.conc w1
    rw [v0, v1, v2, ← q0, ← q1]
    rfl
  · intro y hy
    simp at hy
    rcases hy with rfl | rfl | rfl | rfl | rfl | rfl | rfl
    · exact (g1.trans g2).below w0
    · exact g2.below w1
    · exact w2
    all_goals trivial
end
end Go.Proofs.YtahdcipolknofaaGreat

/-
  THE PROGRAM OF THE ABSTRACT MACHINE IS SOUND: the one function told by its answer alone answers so.
-/
namespace Go.Proofs.YtahdcipolknofaaGreat
open Go.AM Go.RowKit
set_option maxHeartbeats 1000000 in
set_option maxRecDepth 100000 in
theorem indexByte_calls (s : ByteArray) (c : Int) (w : World) :
    Calls Tryz.prog 162 #[.string s, .int .u8 c] w fun e w' => e = .returned (.int .i64 (Lib.indexByte s.data.toList c.toNat.toUInt8)) ∧ w' = w := by
  go_enter Tryz.func162, Tryz.ntmps162
  go_wp2
  rw [run_callFunc_extern Tryz.func166 (by kernel_rfl) (by kernel_rfl) (by kernel_rfl) (e := Extern.BytealgIndexByte.indexByte) (by kernel_rfl), Lib.run_indexByteString]
  simp only [Result.andThen]
  rw [Oper.upon_value]
  go_wp2
  go_ret
  exact ⟨rfl, rfl⟩
theorem prims_ok : Dz.PrimOk := by
  intro f args r h
  unfold Dz primF at h
  simp only at h
  split at h
  · cases h
  · rename_i hf
    split at h
    · rename_i s c
      cases h
      have hf : f = 162 := by simpa using hf
      subst hf
      refine ⟨fun hp B ι w cargs hr hl hargs => ?_, _, Tryz.func162, by kernel_rfl⟩
      match cargs, hl with
      | [a, b], _ =>
        have h0 := hargs 0 _ a rfl rfl
        have h1 := hargs 1 _ b rfl rfl
        simp [V.rel] at h0 h1
        obtain ⟨rfl, _⟩ := h0; obtain ⟨rfl, _⟩ := h1
        refine (indexByte_calls s c w).mono fun e w' ⟨he, hw⟩ => ?_
        subst hw
        exact ⟨_, ι, he, hr, FR.refl _ _ _, rfl, trivial⟩
    · cases h
theorem dz_ok : Dz.Ok := ⟨types_ok, mixed_ok, names_ok, prims_ok⟩
end Go.Proofs.YtahdcipolknofaaGreat

/-
  FROM THE ABSTRACT MACHINE TO A ROW: what a law answers there it answers, and what came in stays.
-/
namespace Go.Proofs.YtahdcipolknofaaGreat
open Go.AM
section
variable {H0 : Type} {enc : TypeId × Value → H0} {W : World} {held : Bool}
theorem light_of {P : Program} {ts : List TypeId} {ds : List (DataW H0)} {i : Nat} {t : TypeId} {d : DataW H0} (h : (DataW.weightsEach P ts ds).all (· ≤ reachBytes) = true) (ht : ts[i]? = some t) (hd : ds[i]? = some d) : Light P t d := fun n hn => by
  have := List.all_eq_true.1 h n (weightsEach_mem ht hd n hn)
  simpa using this
theorem law_calls {h : H} {ι : Plan} (ho : Opn W h ι) {f : FuncId} {args : List V} {h' : H} (hd : Dz.den f args h = some (.c (.bool true), h')) (cargs : List Value) (hl : cargs.length = args.length)
    (ha : ∀ (j : Nat) (v : V) (u : Value), args[j]? = some v → cargs[j]? = some u → v.rel ι h.length u) :
    Calls Tryz.prog f cargs.toArray W fun e W' => e = .returned (.bool true) ∧ Go.RowKit.Below W.heap.size W W' := by
  refine (den_ok dz_ok hd 0 ι W cargs ho.hr hl ha).mono fun e W' ⟨x, ι', he, _, hf, hx⟩ => ?_
  have hx1 := (V.rel_known hx rfl).1
  subst he; subst hx1
  exact ⟨rfl, hf.os, hf.tape, hf.output, hf.size, fun k hk => hf.keep k hk fun id bl hg hro => absurd (ho.ro id bl hg) (by rw [hro]; simp)⟩
set_option maxRecDepth 100000 in
theorem world_arg {r : Reach} {b0 : Nat} {v : Value} {d : DataW H0} {ps : List MemPlace} (hv : Value.okWide Tryz.prog W r b0 26 v) (hd : DataW.Trod enc Tryz.prog W 0 (fun _ => true) held 26 v d ps) (hL : Light Tryz.prog 26 d) :
    ∃ (w : PWorld) (c : WorldC) (cs : List RunC) (h : H) (ι : Plan), Opn W h ι ∧ WorldA h w c cs ∧ (V.g (encW c)).rel ι h.length v := by
  obtain ⟨vs, rfl, _⟩ := Go.WideShapes.okWide_struct Tryz.underlying26 hv
  obtain ⟨fuel, hf⟩ := hd
  obtain ⟨w, c, cs, h', ι', _, o, hw, hc, hb⟩ := open_world (Opn.nil W) hf hL
  refine ⟨w, c, cs, h', ι', o, hw, V.rel_mk ?_ hb⟩
  simp only [Value.cells] at hc
  show Value.agg vs = .agg _
  rw [← hc]
theorem laidOut : Go.laidOutB Tryz.prog = true := by kernel_rfl
theorem ownKnob_none : ownKnob Tryz.prog.godebug = none := by kernel_rfl
end
end Go.Proofs.YtahdcipolknofaaGreat
