/-
  Proves that the law answers true in the abstract machine, whatever it is handed that is as arguments are; under no other condition.
-/
import Derived.Test.YthnmkpocjgnjeaaGreatWalkA23
import Derived.Test.YthnmkpocjgnjeaaGreatWalkA25
set_option linter.all false
/-
 THE LAW FnTurnFair, in the abstract machine: it answers true.
-/
set_option maxRecDepth 8000
namespace Go.Proofs.YthnmkpocjgnjeaaGreat
open Go.AM
variable {h : H} {bs : List Int} {s : Cell}
set_option maxHeartbeats 4000000 in
set_option maxRecDepth 16000 in
theorem c_law_TurnFair (hS : BytesA h s bs) : Dz.den 3 [.c s] h = some (.c (.bool true), h) := by
 refine den_plain rfl Tryz.func3 rfl rfl ?_
 have eL := fun e => hS.sl.lenA (e := e)
 by_cases z : (1048576 : Int) < bs.length
 ·simp [Tryz.f3, eL, z]
 obtain ⟨w, c, cs, k1, k2, k3, k4, c1, cs1, c2, c3, e1, e2, e3, e4, e5, e6, e7, P⟩ := turned hS
 have v := P.v
 have hR := v.rd
 have hrs := hR.runs.sl
 have hlen := hR.runs.len
 have seen := P.seen
 simp only [encW] at e1 e2 e3 e4 e5 e6 e7
 by_cases a : WorldOk w
 rotate_left
 ·have a' : tt (WorldOk w) = false := by simpa using a
  rw [a'] at e5
  simp [Tryz.f3, eL, z, e1, e2, e3, e4, e5, e6, e7]
  exact ⟨by kernel_rfl, by kernel_rfl, (P.ext.trans P.ext4).2⟩
 have a' : tt (WorldOk w) = true := by simpa using a
 rw [a'] at e5
 have G := ((ok_iff w).1 a).1
 have I := G.inv
 have room := seen.room a
 have fin := P.ext.2
 have nS : ¬ (8000 : Int) < c.sent := by rw [hR.sent]; have := seen.sent; omega
 have Q := hR.queue
 have s7 := seen.queue
 have ps := phi_sent I
 have ss := seen.sent
 have ts := seen.turns
 have many := I.many
 simp [Tryz.f3, eL, z, e1, e2, e3, e4, e5, nS]
 refine ⟨by kernel_rfl, ?_⟩
 refine count_wpG (σ := H × WorldC × List RunC) w.queue.length (fun i g => ([.c (.bool false), .c (ci i)], [encW c, encW g.2.1], [], g.1)) (fun i g => WorldV h.length g.1 (turnsP i w) g.2.1 g.2.2 g.2.2 ∧ Ext k3 g.1) (k3, c, cs) (by simp) ⟨v, Ext.refl _⟩ ?_ ?_
 ·rintro i ⟨g, c4, cs4⟩ hi ⟨v4, x⟩
  simp only at v4 x ⊢
  obtain ⟨G4, p4, l4, t4⟩ := turnsP_all G i
  have sp := sent_phi (turnsP i w)
  have room4 : Room (turnsP i w) := ⟨G4.ok (by omega), by omega⟩
  obtain ⟨_, e8, k5, c5, cs5, rfl, x5, v5⟩ := c_ITurnDo v4
  rw [do_ok room4] at v5
  have wj : IntKind.i64.wrap ((i : Int) + 1) = (i : Int) + 1 := wrapS (by omega) (by omega)
  simp only [encW] at e8
  rw [Wp_body]
  simp [(Q.ext x).lenA, hi, e8, wj]
  exact ⟨k5, c5, ⟨⟨rfl, rfl, rfl, rfl, rfl, rfl, rfl⟩, rfl⟩, ⟨cs5, v5.low (by have := v4.lo_le; omega)⟩, x.trans x5⟩
 ·rintro ⟨g, c4, cs4⟩ ⟨v4, x⟩
  simp only at v4 x ⊢
  obtain ⟨F, t, eF, lF, fr⟩ := fair G (by omega) w.queue.length (by omega)
  have F0 : F = [] := List.length_eq_zero_iff.1 (by omega)
  obtain ⟨G4, p4, l4, t4⟩ := turnsP_all G w.queue.length
  have sp := sent_phi (turnsP w.queue.length w)
  have H4 := v4.rd
  have S4 := H4.runs.sl
  have n4 := H4.runs.len
  have hrg := hrs.ext x
  have Qg := Q.ext x
  have OG := c_IWorldOk H4
  rw [tt_fits (G4.ok (by omega))] at OG
  simp only [encW] at OG
  rw [Wp_body]
  simp [Qg.lenA]
  refine count_wp w.queue.length (fun j => ([.c (.bool false), .c (ci j)], [encW c, encW c4], [], g)) (fun _ => True) (by simp) trivial ?_ ?_
  ·intro j hj _
   obtain ⟨k, hk⟩ : ∃ k, w.queue[j] = k := ⟨_, rfl⟩
   have hm : k ∈ w.queue := by rw [← hk]; exact List.getElem_mem hj
   obtain ⟨i, ei, r2, hr2, _⟩ := (I.mem _).1 hm
   have hi := (List.getElem?_eq_some_iff.1 hr2).1
   have hi' : i < cs.length := by omega
   have xi : i < (turnsP w.queue.length w).runs.length := by omega
   have xi' : i < cs4.length := by omega
   have E := (hR.runs.ext x).each i hi
   have EX := H4.runs.each i xi
   have wi : IntKind.i64.wrap (k - 1) = (i : Int) := by rw [wrapS (by omega) (by omega)]; omega
   have wj : IntKind.i64.wrap ((j : Int) + 1) = (j : Int) + 1 := wrapS (by omega) (by omega)
   have r1 : runAt w k = w.runs[i] := runAt_some (by rw [show (k - 1).toNat = i by omega]; exact List.getElem?_eq_getElem hi)
   have r3 : runAt (turnsP w.queue.length w) k = (turnsP w.queue.length w).runs[i] := runAt_some (by rw [show (k - 1).toNat = i by omega]; exact List.getElem?_eq_getElem xi)
   have e9 := c_lvState H4 k
   rw [if_pos (by omega), r3] at e9
   have f3 := fr k hm
   rw [F0, r1, r3] at f3
   have iq := ixA_nat Qg (T := TTz) (e := 3) (k := .i64) (n := j) rfl rfl hj
   have aq := Qg.at (n := j) (k := 0) (m := 1) hj (by omega)
   rw [List.getElem?_eq_getElem hj, Option.getD_some, hk] at aq
   simp [encI] at iq aq
   simp only [encW] at e9
   rw [Wp_body]
   by_cases tl : (turnsP w.queue.length w).runs[i].turns ≤ w.runs[i].turns
   ·have d3 : (turnsP w.queue.length w).runs[i].state = 3 := by
     rcases f3 with q | q | q
     ·exact q
     ·simp at q
     ·omega
    rw [d3] at e9
    simp [Qg.lenA, hj, iq, aq, wi, ixA_nat hrg, hi', hrg.at, ixA_nat S4, xi', S4.at, E.turns, EX.turns, tl, e9, wj]
    unfold LexOk; kernel_rfl
   ·simp [Qg.lenA, hj, iq, aq, wi, ixA_nat hrg, hi', hrg.at, ixA_nat S4, xi', S4.at, E.turns, EX.turns, tl, wj]
    unfold LexOk; kernel_rfl
  ·intro _
   rw [Wp_body]
   simp [Qg.lenA, OG]
   exact (P.ext.trans x).2
end Go.Proofs.YthnmkpocjgnjeaaGreat
