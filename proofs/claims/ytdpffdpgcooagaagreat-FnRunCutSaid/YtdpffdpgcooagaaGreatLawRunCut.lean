/-
  Proves that the law answers true in the abstract machine, whatever it is handed that is as arguments are; under no other condition.
-/
import Derived.Test.YtdpffdpgcooagaaGreatWalk22
set_option linter.all false
/-
  THE LAW FnRunCut, in the abstract machine: it answers true.
-/
set_option maxRecDepth 8000
namespace Go.Proofs.YtdpffdpgcooagaaGreat
open Go.AM
variable {h : H} {bs ms : List Int} {s s2 : Cell}
set_option maxHeartbeats 4000000 in
set_option maxRecDepth 16000 in
theorem c_law_RunCut (hS : BytesA h s bs) (hT : BytesA h s2 ms) : Dz.den 4 [.c s, .c s2] h = some (.c (.bool true), h) := by
  refine den_plain rfl Tryz.func4 rfl rfl ?_
  have eL := fun e => hS.sl.lenA (e := e)
  have eM := fun e => hT.sl.lenA (e := e)
  by_cases z : (1048576 : Int) < bs.length
  · simp [Tryz.f4, eL, z]
  by_cases y : (1048576 : Int) < ms.length
  · simp [Tryz.f4, eL, z, eM, y]
  obtain ⟨code, evs, sc, tc, k1, k2, k3, c1, cs1, c2, e1, e2, e3, e4, P⟩ := played hS
  have eT := fun e => P.oe.sl.lenA (e := e)
  simp only [encW] at e2 e3 e4
  by_cases a : PlayRun1 code evs
  rotate_left
  · have a' : tt (PlayRun1 code evs) = false := by simpa using a
    rw [a'] at e2 e3
    simp [Tryz.f4, eL, z, eM, y, e1, e2, e3, e4]
    exact P.ext.2
  have Q := plays a
  have a' : tt (PlayRun1 code evs) = true := by simpa using a
  rw [a'] at e2 e3
  have v := P.v
  have hR := v.rd
  have hrs := hR.runs.sl
  have hlen := hR.runs.len
  generalize playRunP code evs = w at *
  have G := Q.good
  have I := G.inv
  have few := Q.few
  obtain ⟨cut, hc⟩ : ∃ cut : Nat, cut = ms.length % (evs.length + 1) := ⟨_, rfl⟩
  have hcl : cut ≤ evs.length := by have := Nat.mod_lt ms.length (show 0 < evs.length + 1 by omega); omega
  have w1 : IntKind.i64.wrap ((evs.length : Int) + 1) = (evs.length : Int) + 1 := wrapS (by omega) (by omega)
  have w2 : (ms.length : Int).tmod ((evs.length : Int) + 1) = (cut : Int) := by
    rw [Int.tmod_eq_emod_of_nonneg (by omega), hc]; simp
  have w3 : ¬ ((evs.length : Int) + 1 = 0) := by omega
  have S := P.oe.sl
  have sl := sliceA_to S (T := TTz) (t := 24) (k := .i64) (n := cut) rfl rfl hcl
  obtain ⟨_, e5, k5, c5, cs5, rfl, x5, v5⟩ := c_IPlayRun P.oc.sl P.oc.un (by have := P.short; unfold lenMost; omega) (S.cutTo hcl)
  have b : PlayRun1 code (evs.take cut) := ⟨a.1, by simp; omega⟩
  have b' : tt (PlayRun1 code (evs.take cut)) = true := by simpa using b
  rw [b'] at e5
  have v6 : WorldV k3.length k5 (playTo code evs (cut + 0)) c5 cs5 cs5 := by
    have B := (plays b).eq
    rw [playTo_take code evs cut _ (by simp; omega), show (evs.take cut).length = cut by simp; omega] at B
    rw [B] at v5; exact v5
  simp only [encW] at e5
  simp [Tryz.f4, eL, z, eM, y, e1, e2, e3, e4, eT, w1, w2, w3, sl, e5]
  refine count_wpG (σ := H × WorldC × List RunC) (evs.length - cut) (fun i g => ([.c (.bool false), .c tc, .c (.bool true), .c (ci ((cut + i : Nat)))], [encW c1, encW g.2.1], [], g.1))
    (fun i g => WorldV k3.length g.1 (playTo code evs (cut + i)) g.2.1 g.2.2 g.2.2 ∧ Ext k3 g.1) (k5, c5, cs5) (by simp) ⟨v6, x5⟩ ?_ ?_
  · rintro i ⟨g, c6, cs6⟩ hi ⟨v6, x6⟩
    simp only at v6 x6 ⊢
    have hE := P.oe.sl.ext x6
    have hm1 : cut + (i + 1) = (cut + i) + 1 := by omega
    rw [hm1]
    have hi2 : cut + i < evs.length := by omega
    obtain ⟨m, hm⟩ : ∃ m, cut + i = m := ⟨_, rfl⟩
    rw [hm] at v6 hi2 ⊢
    have wj : IntKind.i64.wrap ((m : Int) + 1) = (m : Int) + 1 := wrapS (by omega) (by omega)
    have eg : evs[m]?.getD default = evs[m] := by simp [hi2]
    obtain ⟨_, e7, k7, c7, cs7, rfl, x7, v7⟩ := c_IPlayDo v6 evs[m]
    have er : playDoP (playTo code evs m) evs[m] = playTo code evs (m + 1) := by
      unfold playDoP
      rw [if_pos (by simpa using playTo_room a.1 evs (by omega))]
      simp only [playTo, eg]
    rw [er] at v7
    have v8 := v7.low x6.1
    simp only [encW, encE] at e7
    rw [Wp_body]
    simp [hE.lenA, hi2, ixA_nat hE, hE.at, wj, e7]
    exact ⟨by kernel_rfl, k7, c7, ⟨⟨rfl, rfl, rfl, rfl, rfl, rfl, rfl⟩, rfl⟩, ⟨cs7, v8⟩, x6.trans x7⟩
  · rintro ⟨g, c6, cs6⟩ ⟨v6, x6⟩
    simp only at v6 x6 ⊢
    have hE := P.oe.sl.ext x6
    have hn : cut + (evs.length - cut) = evs.length := by omega
    rw [hn, ← Q.eq] at v6
    have e7 := c_lvWorld v6.rd (v.ext x6).rd
    rw [decide_eq_true rfl] at e7
    simp only [encW] at e7
    rw [Wp_body]
    simp [hE.lenA, hn, e7]
    exact (P.ext.trans x6).2
end Go.Proofs.YtdpffdpgcooagaaGreat
