/-
  Proves that the law answers true in the abstract machine, whatever it is handed that is as arguments are; under no other condition.
-/
import Derived.Test.YtdpffdpgcooagaaGreatWalk22
set_option linter.all false
/-
  THE LAW FnRunSteps, in the abstract machine: it answers true.
-/
set_option maxRecDepth 8000
namespace Go.Proofs.YtdpffdpgcooagaaGreat
open Go.AM
variable {h : H} {bs ms : List Int} {s s2 : Cell}
def quietE (e : PEvent) : Bool := decide (e.kind ≠ 1)
set_option maxHeartbeats 4000000 in
set_option maxRecDepth 16000 in
theorem c_law_RunSteps (hS : BytesA h s bs) : Dz.den 5 [.c s] h = some (.c (.bool true), h) := by
  refine den_plain rfl Tryz.func5 rfl rfl ?_
  have eL := fun e => hS.sl.lenA (e := e)
  by_cases z : (1048576 : Int) < bs.length
  · simp [Tryz.f5, eL, z]
  obtain ⟨code, evs, sc, tc, k1, k2, k3, c1, cs1, c2, e1, e2, e3, e4, P⟩ := played hS
  have eT := fun e => P.oe.sl.lenA (e := e)
  simp only [encW] at e2 e3 e4
  by_cases a : PlayRun1 code evs
  rotate_left
  · have a' : tt (PlayRun1 code evs) = false := by simpa using a
    rw [a'] at e2 e3
    simp [Tryz.f5, eL, z, e1, e2, e3, e4]
    exact P.ext.2
  have Q := plays a
  have a' : tt (PlayRun1 code evs) = true := by simpa using a
  rw [a'] at e2 e3
  have v := P.v
  have hR := v.rd
  have hrs := hR.runs.sl
  have hlen := hR.runs.len
  generalize playRunP code evs = w at *
  have G := Q.good
  have I := G.inv
  have few := Q.few
  simp [Tryz.f5, eL, z, e1, e2, e3, e4, eT]
  refine count_wpG (σ := H × Cell) evs.length (fun i g => ([.c (.bool false), .c sc, .c tc, .c g.2, .c (ci i)], [], [], g.1))
    (fun i g => OwnL k3.length g.1 g.2 4 encE ((evs.take i).filter quietE) ∧ Ext k3 g.1) (k3.push ⟨false, 4, []⟩, .sl k3.length 0 0 none) (by simp) ⟨OwnL.new (enc := encE) (es := 4) k3 [] (by simp) (by simp), Ext.push _ _⟩ ?_ ?_
  · rintro i ⟨g, q⟩ hi ⟨o, x⟩
    simp only at o x ⊢
    have hE := P.oe.sl.ext x
    have wj : IntKind.i64.wrap ((i : Int) + 1) = (i : Int) + 1 := wrapS (by omega) (by omega)
    have tk : (evs.take (i + 1)).filter quietE = (evs.take i).filter quietE ++ if evs[i].kind = 1 then [] else [evs[i]] := by
      rw [List.take_succ_eq_append_getElem hi, List.filter_append]
      by_cases q : evs[i].kind = 1 <;> simp [quietE, q]
    have ll : ((evs.take i).filter quietE).length ≤ 80 := by
      have := List.length_filter_le quietE (evs.take i)
      simp at this ⊢; omega
    obtain ⟨q', g2, e5, o5, c5, _⟩ := o.app2 x.1 evs[i] (by simp) (by unfold lenMost; omega)
    have x5 : Ext k3 g2 := ⟨Nat.le_trans x.1 c5.len, fun id hid => by rw [c5.keep id (Nat.lt_of_lt_of_le hid x.1) (fun hh => by have := o.ids id hh; omega), x.2 id hid]⟩
    simp only [encE] at e5
    rw [Wp_body]
    by_cases y : evs[i].kind = 1
    · rw [if_pos y, List.append_nil] at tk
      simp [hE.lenA, hi, ixA_nat hE, hE.at, y, wj]
      exact ⟨g, q, ⟨rfl, rfl⟩, by rw [tk]; exact o, x⟩
    · rw [if_neg y] at tk
      simp [hE.lenA, hi, ixA_nat hE, hE.at, y, wj, e5]
      exact ⟨g2, q', ⟨rfl, rfl⟩, by rw [tk]; exact o5, x5⟩
  · rintro ⟨g, q⟩ ⟨o, x⟩
    simp only at o x ⊢
    have hE := P.oe.sl.ext x
    rw [List.take_length] at o
    have quiet : ∀ e ∈ evs.filter quietE, e.kind ≠ 1 := fun e he => by simpa [quietE] using (List.mem_filter.1 he).2
    have lq := List.length_filter_le quietE evs
    generalize evs.filter quietE = qs at *
    obtain ⟨_, e5, k5, c5, cs5, rfl, x5, v5⟩ := c_IPlayRun (P.oc.sl.ext x) P.oc.un (by have := P.short; unfold lenMost; omega) o.sl
    have b : PlayRun1 code qs := ⟨a.1, by omega⟩
    have b' : tt (PlayRun1 code qs) = true := by simpa using b
    have B := plays b
    obtain ⟨K, tk⟩ := playTo_quiet code quiet qs.length
    rw [← B.eq] at K tk
    rw [b'] at e5
    generalize playRunP code qs = u at *
    have hl : u.runs.length = 1 := by have l1 := K.len; have l2 := K.len2; simp [newP] at l1 l2; omega
    obtain ⟨r, hr, kr⟩ := K.each 0 (newRun 1 0 ⟨3, 1⟩) (fun h => h) rfl
    have hr0 : u.runs[0]'(by omega) = r := by
      have := List.getElem?_eq_getElem (l := u.runs) (i := 0) (by omega); rw [hr] at this; simpa using this.symm
    have R := v5.rd
    have S := R.runs.sl
    have l5 := R.runs.len
    have h0 : 0 < cs5.length := by omega
    have l51 : cs5.length = 1 := by omega
    have E := R.runs.each 0 (by omega)
    have at0 : cs5[0].at_ = 0 := by rw [E.at_, hr0, kr.at_]; rfl
    have tu0 : cs5[0].turns = 0 := by rw [E.turns, hr0, kr.turns]; rfl
    have tk0 : c5.taken = 0 := by rw [R.taken]; exact tk
    have i0 := ixA_nat S (T := TTz) (e := 45) (k := .i64) (n := 0) rfl rfl h0
    simp only [encW] at e5
    rw [Wp_body]
    have a1 := S.at (n := 0) (k := 1) (m := 1) h0 (by omega)
    have a2 := S.at (n := 0) (k := 12) (m := 1) h0 (by omega)
    simp at i0 a1 a2
    simp [hE.lenA, e5, S.lenA, l51, i0, a1, a2, at0, tu0, tk0]
    exact ((P.ext.trans x).trans x5).2
end Go.Proofs.YtdpffdpgcooagaaGreat
