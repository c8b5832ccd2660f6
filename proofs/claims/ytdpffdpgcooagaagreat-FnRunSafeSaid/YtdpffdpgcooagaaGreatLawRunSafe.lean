/-
  Proves that the law answers true in the abstract machine, whatever it is handed that is as arguments are; under no other condition.
-/
import Derived.Test.YtdpffdpgcooagaaGreatWalk22
set_option linter.all false
/-
  THE LAW FnRunSafe, in the abstract machine: it answers true.
-/
set_option maxRecDepth 8000
namespace Go.Proofs.YtdpffdpgcooagaaGreat
open Go.AM
variable {h : H} {bs ms : List Int} {s s2 : Cell}
set_option maxHeartbeats 4000000 in
set_option maxRecDepth 16000 in
theorem c_law_RunSafe (hS : BytesA h s bs) : Dz.den 14 [.c s] h = some (.c (.bool true), h) := by
  refine den_plain rfl Tryz.func14 rfl rfl ?_
  have eL := fun e => hS.sl.lenA (e := e)
  by_cases z : (1048576 : Int) < bs.length
  · simp [Tryz.f14, eL, z]
  obtain ⟨code, evs, sc, tc, k1, k2, k3, c1, cs1, c2, e1, e2, e3, e4, P⟩ := played hS
  have eT := fun e => P.oe.sl.lenA (e := e)
  simp only [encW] at e2 e3 e4
  by_cases a : PlayRun1 code evs
  rotate_left
  · have a' : tt (PlayRun1 code evs) = false := by simpa using a
    rw [a'] at e2 e3
    simp [Tryz.f14, eL, z, e1, e2, e3, e4]
    exact P.ext.2
  have Q := plays a
  have a' : tt (PlayRun1 code evs) = true := by simpa using a
  rw [a'] at e2 e3
  have v := P.v
  have hR := v.rd
  have hrs := hR.runs.sl
  have hlen := hR.runs.len
  generalize playRunP code evs = w at *
  have G := Q.good
  have I := G.inv
  have st := Q.sent
  have many := I.many
  have e5 := fun {g : H} (x : Ext k3 g) => c_lvPlay (v.ext x).rd G (by omega)
  simp only [encW] at e5
  have cl := (codeOk_len Q.safe.ok)
  simp [Tryz.f14, eL, z, e1, e2, e3, e4]
  refine count_wpG (σ := H) cs1.length (fun i g => ([.c (.bool false), .c sc, .c (ci i)], [encW c1], [], g)) (fun i g => Ext k3 g) k3 (by simp) (Ext.refl _) ?_ ?_
  · intro i g hi x
    have hi' : i < w.runs.length := by omega
    have RR := (hR.runs.ext x)
    have S := RR.sl
    have hr := RR.each i hi'
    have hg := List.getElem?_eq_getElem hi'
    have R := I.each i _ hg
    have wj : IntKind.i64.wrap ((i : Int) + 1) = (i : Int) + 1 := wrapS (by omega) (by omega)
    rw [Wp_body]
    by_cases q : w.runs[i].state = 3
    · simp [S.lenA, hi, ixA_nat S, S.at, hr.state, q, wj]
      exact x
    · obtain ⟨m, hm⟩ := Int.eq_ofNat_of_zero_le R.ok.at_.1
      have ml : m < code.length := by have := R.at_; rw [Q.code] at this; omega
      have C := P.oc.sl.ext x
      have ok : opOk code[m] = true := codeOk_ops Q.safe.ok _ (List.getElem_mem ml)
      obtain ⟨⟨_, g2⟩, e6, us, rfl, x6, U⟩ := c_OpUses (h := g) code[m] ok
      have fu := run_uses Q.safe (by rw [← Q.code]; exact R) q hm ml
      have e7 := c_lvAmong ((hR.queue.ext x)) ((i : Int) + 1)
      have am : decide ((i : Int) + 1 ∈ w.queue) = decide (w.runs[i].state = 1) := by
        have := I.run_mem hg
        by_cases q1 : w.runs[i].state = 1 <;> simp [q1, this]
      rw [am] at e7
      have at2 : ¬ code.length ≤ m := by omega
      have at3 : ¬ (code.length : Int) ≤ m := by omega
      simp only [encO] at e6
      simp [S.lenA, hi, ixA_nat S, S.at, hr.state, hr.at_, hm, q, at2, at3, C.lenA, wj, e7, ixA_nat C, ml, C.at, e6]
      refine ⟨by unfold LexOk; kernel_rfl, ?_⟩
      have x2 : Ext k3 g2 := x.trans x6
      have S2 := S.ext x6
      refine count_wp (uses code[m]).length (fun j => ([.c (.bool false), .c sc, .c (ci i), .c us, .c (ci j)], [encW c1, encR cs1[i]], [], g2)) (fun _ => True) (by simp [hr.at_, hm, hr.state]) trivial ?_ ?_
      · intro j hj _
        have hu : (uses code[m])[j] ∈ uses code[m] := List.getElem_mem hj
        have ur := uses_range ok _ hu
        have e8 := c_lvBit (h := g2) (b := w.runs[i].full) (s := (uses code[m])[j]) (by have := R.ok.full; omega) (by omega)
        rw [fu _ hu] at e8
        have wk : IntKind.i64.wrap ((j : Int) + 1) = (j : Int) + 1 := wrap_succ (U.lt hj)
        rw [Wp_body]
        simp [U.lenA, hj, ixA_nat U, U.at, hr.full, e8, wk]
        unfold LexOk; kernel_rfl
      · intro _
        rw [Wp_body]
        simp [U.lenA, wj]
        exact x2
  · intro g x
    rw [Wp_body]
    simp [(hR.runs.ext x).sl.lenA, e5 x]
    exact (P.ext.trans x).2
end Go.Proofs.YtdpffdpgcooagaaGreat
