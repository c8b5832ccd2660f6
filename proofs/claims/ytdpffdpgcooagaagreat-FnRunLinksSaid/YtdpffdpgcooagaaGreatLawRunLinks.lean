/-
  Proves that the law answers true in the abstract machine, whatever it is handed that is as arguments are; under no other condition.
-/
import Derived.Test.YtdpffdpgcooagaaGreatWalk22
set_option linter.all false
/-
  THE LAW FnRunLinks, in the abstract machine: it answers true.
-/
set_option maxRecDepth 8000
namespace Go.Proofs.YtdpffdpgcooagaaGreat
open Go.AM
variable {h : H} {bs ms : List Int} {s s2 : Cell}
set_option maxHeartbeats 4000000 in
set_option maxRecDepth 16000 in
theorem c_law_RunLinks (hS : BytesA h s bs) : Dz.den 13 [.c s] h = some (.c (.bool true), h) := by
  refine den_plain rfl Tryz.func13 rfl rfl ?_
  have eL := fun e => hS.sl.lenA (e := e)
  by_cases z : (1048576 : Int) < bs.length
  · simp [Tryz.f13, eL, z]
  obtain ⟨code, evs, sc, tc, k1, k2, k3, c1, cs1, c2, e1, e2, e3, e4, P⟩ := played hS
  have eT := fun e => P.oe.sl.lenA (e := e)
  simp only [encW] at e2 e3 e4
  by_cases a : PlayRun1 code evs
  rotate_left
  · have a' : tt (PlayRun1 code evs) = false := by simpa using a
    rw [a'] at e2 e3
    simp [Tryz.f13, eL, z, e1, e2, e3, e4]
    exact P.ext.2
  have Q := plays a
  have a' : tt (PlayRun1 code evs) = true := by simpa using a
  rw [a'] at e2 e3
  have v := P.v
  have hR := v.rd
  have hrs := hR.runs.sl
  have hlen := hR.runs.len
  generalize playRunP code evs = w at *
  have G := Q.good
  have I := G.inv
  have e5 := c_IWorldOk hR
  rw [tt_fits Q.ok] at e5
  simp only [encW] at e5
  have W := Q.ok
  simp [Tryz.f13, eL, z, e1, e2, e3, e4]
  refine count_wp cs1.length (fun i => ([.c (.bool false), .c (ci i)], [encW c1], [], k3)) (fun _ => True) (by simp) trivial ?_ ?_
  · intro i hi _
    have hi' : i < w.runs.length := by omega
    have hr := hR.runs.each i hi'
    have L := hr.links
    have many := I.many
    have wj : IntKind.i64.wrap ((i : Int) + 1) = (i : Int) + 1 := wrapS (by omega) (by omega)
    rw [Wp_body]
    simp [hrs.lenA, hi]
    refine count_wp w.runs[i].links.length (fun j => ([.c (.bool false), .c (ci i), .c (ci j)], [encW c1], [], k3)) (fun _ => True) (by simp) trivial ?_ ?_
    · intro j hj _
      have lk : w.runs[i].links[j] ∈ w.runs[i].links := List.getElem_mem hj
      obtain ⟨q1, q2, q3⟩ := G.linked hi' lk
      obtain ⟨o, ho⟩ : ∃ o, w.runs[i].links[j] = o := ⟨_, rfl⟩
      rw [ho] at q1 q2 q3
      have e6 := c_lvState hR o
      rw [if_pos q1] at e6
      obtain ⟨m, em, hm, er, ei⟩ := runAt_eq (w := w) (id := o) q1
      have hm' : m < cs1.length := by omega
      have hr2 := hR.runs.each m hm
      rw [er] at q2 q3 e6
      have e7 := c_lvAmong hr2.links ((i : Int) + 1)
      rw [decide_eq_true q3] at e7
      have wm : IntKind.i64.wrap (o - 1) = (m : Int) := by rw [wrapS (by omega) (by omega)]; omega
      have w2 : IntKind.i64.wrap ((j : Int) + 1) = (j : Int) + 1 := wrapS (by omega) (by have := (I.each i _ (List.getElem?_eq_getElem hi')).ok.links.len; omega)
      simp only [encW] at e6
      rw [Wp_body]
      simp [hrs.lenA, hi, ixA_nat hrs, hrs.at, L.lenA, hj, ixA_nat L, L.at, ho, e6, q2, wm, hm', wj, e7, w2]
      done
    · intro _
      rw [Wp_body]
      simp [hrs.lenA, ixA_nat hrs, hi, hrs.at, L.lenA, wj]
  · intro _
    rw [Wp_body]
    simp [hrs.lenA, e5]
    exact P.ext.2
end Go.Proofs.YtdpffdpgcooagaaGreat
