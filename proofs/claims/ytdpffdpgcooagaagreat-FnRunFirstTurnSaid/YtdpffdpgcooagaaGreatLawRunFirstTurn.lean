/-
  Proves that the law answers true in the abstract machine, whatever it is handed that is as arguments are; under no other condition.
-/
import Derived.Test.YtdpffdpgcooagaaGreatWalk22
set_option linter.all false
/-
  THE LAW FnRunFirstTurn, in the abstract machine: it answers true.
-/
set_option maxRecDepth 8000
namespace Go.Proofs.YtdpffdpgcooagaaGreat
open Go.AM
variable {h : H} {bs ms : List Int} {s s2 : Cell}
set_option maxHeartbeats 4000000 in
set_option maxRecDepth 16000 in
theorem c_law_RunFirstTurn (hS : BytesA h s bs) : Dz.den 10 [.c s] h = some (.c (.bool true), h) := by
  refine den_plain rfl Tryz.func10 rfl rfl ?_
  have eL := fun e => hS.sl.lenA (e := e)
  by_cases z : (1048576 : Int) < bs.length
  · simp [Tryz.f10, eL, z]
  obtain ⟨code, evs, sc, tc, k1, k2, k3, c1, cs1, c2, e1, e2, e3, e4, P⟩ := played hS
  have eT := fun e => P.oe.sl.lenA (e := e)
  simp only [encW] at e2 e3 e4
  by_cases a : PlayRun1 code evs
  rotate_left
  · have a' : tt (PlayRun1 code evs) = false := by simpa using a
    rw [a'] at e2 e3
    simp [Tryz.f10, eL, z, e1, e2, e3, e4]
    exact P.ext.2
  have Q := plays a
  have a' : tt (PlayRun1 code evs) = true := by simpa using a
  rw [a'] at e2 e3
  have v := P.v
  have hR := v.rd
  have hrs := hR.runs.sl
  have hlen := hR.runs.len
  generalize playRunP code evs = w at *
  have G := Q.good
  have I := G.inv
  obtain ⟨_, e5, k5, c5, cs5, rfl, x5, v5⟩ := c_IWorldNew P.oc.sl P.oc.un (by have := P.short; unfold lenMost; omega)
  have sf := Q.safe
  have s' : tt (CodeSafe code) = true := by simpa using sf
  have en : worldNewP code = newP code := by unfold worldNewP; rw [if_pos sf]
  rw [s'] at e5
  rw [en] at v5
  have room : Room (newP code) := ⟨(newP_good sf).ok (by simp [newP]), by simp [newP]⟩
  obtain ⟨_, e6, k6, c6, cs6, rfl, x6, v6⟩ := c_ITurnDo v5
  have et : turnDoP (newP code) = turnP (newP code) := by unfold turnDoP; rw [if_pos (by simpa using room)]
  rw [et] at v6
  obtain ⟨G6, st6, len1, len4, first, others⟩ := firstTurn sf
  generalize turnP (newP code) = u at *
  have H := v6.rd
  have S := H.runs.sl
  have l6 := H.runs.len
  have e7 := c_lvPlay H G6 (by omega)
  have x : Ext h k6 := (P.ext.trans x5).trans x6
  simp only [encW] at e5 e6 e7
  simp [Tryz.f10, eL, z, e1, e2, e3, e4, e5, e6]
  refine count_wp (cs6.length - 1) (fun i => ([.c (.bool false), .c (ci ((1 + i : Nat)))], [encW c6], [], k6)) (fun _ => True) (by simp) trivial ?_ ?_
  · intro i hi _
    obtain ⟨m, hm⟩ : ∃ m, 1 + i = m := ⟨_, rfl⟩
    have hm1 : 1 + (i + 1) = m + 1 := by omega
    rw [hm1, hm]
    have hj : m < u.runs.length := by omega
    have hj' : m < cs6.length := by omega
    obtain ⟨t0, sl0⟩ := others m _ (by omega) (List.getElem?_eq_getElem hj)
    have R := H.runs.each m hj
    have SS := R.slots
    rw [sl0] at SS
    have i0 := ixA_nat SS (T := TTz) (e := 39) (k := .i64) (n := 0) rfl rfl (by simp)
    have a0 := SS.at (n := 0) (k := 0) (m := 2) (by simp) (by omega)
    have tu : cs6[m].turns = 0 := by rw [R.turns]; exact t0
    have wj : IntKind.i64.wrap ((m : Int) + 1) = (m : Int) + 1 := wrapS (by omega) (by omega)
    simp at i0 a0
    rw [Wp_body]
    simp [S.lenA, hj', ixA_nat S, S.at, tu, i0, a0, wj]
    done
  · intro _
    have hn : 1 + (cs6.length - 1) = cs6.length := by omega
    rw [hn]
    have h0 : 0 < cs6.length := by omega
    have R := H.runs.each 0 (by omega)
    have tu : cs6[0].turns = 1 := by rw [R.turns]; exact first _ (List.getElem?_eq_getElem (by omega))
    have i0 := ixA_nat S (T := TTz) (e := 45) (k := .i64) (n := 0) rfl rfl h0
    have a0 := S.at (n := 0) (k := 12) (m := 1) h0 (by omega)
    have le : (cs6.length : Int) ≤ 4 := by omega
    simp at i0 a0
    rw [Wp_body]
    simp [S.lenA, i0, a0, tu, le, e7]
    have tu2 : (cs6[0]?.getD default).turns = 1 := by rw [List.getElem?_eq_getElem h0]; exact tu
    exact ⟨fun _ => x.2, tu2⟩
end Go.Proofs.YtdpffdpgcooagaaGreat
