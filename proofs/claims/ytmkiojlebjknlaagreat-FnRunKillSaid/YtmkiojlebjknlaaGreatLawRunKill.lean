/-
  Proves that the law answers true in the abstract machine, whatever it is handed that is as arguments are; under no other condition.
-/
import Derived.Test.YtmkiojlebjknlaaGreatWalkA26
import Derived.Test.YtmkiojlebjknlaaGreatWalkA25
set_option linter.all false
/-
 THE LAW FnRunKill, in the abstract machine: it answers true.
-/
set_option maxRecDepth 8000
namespace Go.Proofs.YtmkiojlebjknlaaGreat
open Go.AM
variable {h : H} {bs ms : List Int} {s s2 : Cell}
set_option maxHeartbeats 4000000 in
set_option maxRecDepth 16000 in
theorem c_law_RunKill (hS : BytesA h s bs) (hT : BytesA h s2 ms) : Dz.den 5 [.c s, .c s2] h = some (.c (.bool true), h) := by
 refine den_plain rfl Tryz.func5 rfl rfl ?_
 have eL := fun e => hS.sl.lenA (e := e)
 have eM := fun e => hT.sl.lenA (e := e)
 by_cases z : (1048576 : Int) < bs.length
 ·simp [Tryz.f5, eL, z]
 by_cases y : (1048576 : Int) < ms.length
 ·simp [Tryz.f5, eL, z, eM, y]
 obtain ⟨code, evs, sc, tc, k1, k2, k3, c1, cs1, c2, e1, e2, e3, e4, P⟩ := played hS
 have eT := fun e => P.oe.sl.lenA (e := e)
 simp only [encW] at e2 e3 e4
 by_cases a : PlayRun1 code evs
 rotate_left
 ·have a' : tt (PlayRun1 code evs) = false := by simpa using a
  rw [a'] at e2 e3
  simp [Tryz.f5, eL, z, eM, y, e1, e2, e3, e4]
  exact P.ext.2
 have Q := plays a
 have a' : tt (PlayRun1 code evs) = true := by simpa using a
 rw [a'] at e2 e3
 have v := P.v
 have hR := v.rd
 have hrs := hR.runs.sl
 have hlen := hR.runs.len
 generalize playRunP code evs = w at *
 have G := Q.good
 have I := G.inv
 have many := I.many
 obtain ⟨M, hM2⟩ : ∃ M : Nat, M = ms.length % cs1.length := ⟨_, rfl⟩
 have hM5 : M < cs1.length := by have := Nat.mod_lt ms.length (show 0 < cs1.length by omega); omega
 have w2 : (ms.length : Int).tmod (cs1.length : Int) = (M : Int) := by
  rw [Int.tmod_eq_emod_of_nonneg (by omega), hM2]; omega
 have cz : ¬ (cs1.length : Int) = 0 := by omega
 have cz2 : ¬ cs1.length = 0 := by omega
 obtain ⟨id, hid⟩ : ∃ id : Int, 1 + (M : Int) = id := ⟨_, rfl⟩
 have wM : IntKind.i64.wrap (1 + (M : Int)) = id := by rw [wrapS (by omega) (by omega)]; omega
 have rid : 1 ≤ id ∧ id ≤ w.runs.length := by omega
 have hv : valOk ⟨2, 7⟩ = true := by decide
 have hn : (⟨2, 7⟩ : PVal) ≠ ⟨2, 0⟩ := by decide
 have ps := phi_sent I
 have ss := Q.sent
 obtain ⟨_, e8, k5, c5, cs5, rfl, x5, v5⟩ := c_IPlayDo v ⟨4, id, ⟨2, 7⟩⟩
 rw [playDo_ok Q.room, kill_fall hv] at v5
 have v6 := v.ext x5
 obtain ⟨_, e9, k6, t, ts, rfl, x6, S6, T⟩ := c_IFallWith v6.rd Q.ok id
 have F := G.fallG id hv
 have FL := fun q hq => fallen (id := id) G hv (q := q) hq
 have sp := sent_phi (fallP w id ⟨2, 7⟩)
 have kp := F.k.phi
 have xl : (fallP w id ⟨2, 7⟩).runs.length = w.runs.length := by
  by_cases al : Alive w id
  ·exact (fall_stage G al hv).len
  ·unfold fallP fallN; rw [if_neg al]; rfl
 generalize fallP w id ⟨2, 7⟩ = u at *
 have HR := (v6.ext x6).rd
 have HX := (v5.ext x6).rd
 have hrs6 := HR.runs.sl
 have xrs := HX.runs.sl
 have xlen := HX.runs.len
 have e10 := c_lvPlay HX F.g (by omega)
 have e11 := c_lvState HR id
 rw [if_pos rid] at e11
 have fin := ((P.ext.trans x5).trans x6).2
 simp only [encW, encE] at e8 e9 e10 e11
 simp [Tryz.f5, eL, z, eM, y, e1, e2, e3, e4, hrs.lenA, cz, cz2, w2, wM, e8, e9]
 refine count_wp cs1.length (fun i => ([.c (.bool false), .c (.int .i64 id), .c t, .c (ci ((1 + i : Nat)))], [encW c1, encV ⟨2, 7⟩, encW c5], [], k6)) (fun _ => True) (by simp) trivial ?_ ?_
 ·intro i hi _
  have hi' : i < w.runs.length := by omega
  have xi : i < u.runs.length := by omega
  have xi' : i < cs5.length := by omega
  obtain ⟨m, hm⟩ : ∃ m, 1 + i = m := ⟨_, rfl⟩
  have hm1 : 1 + (i + 1) = m + 1 := by omega
  have im : (m : Int) = (i : Int) + 1 := by omega
  have wj : IntKind.i64.wrap ((m : Int) + 1) = (m : Int) + 1 := wrapS (by omega) (by omega)
  have wi : IntKind.i64.wrap ((m : Int) - 1) = (i : Int) := by rw [wrapS (by omega) (by omega)]; omega
  have ml : (m : Int) ≤ cs1.length := by omega
  rw [hm, hm1]
  have e12 := c_lvState HR (m : Int)
  have e13 := c_lvState HX (m : Int)
  have e14 := c_lvAmong S6 (m : Int)
  have rm : 1 ≤ (m : Int) ∧ (m : Int) ≤ w.runs.length := by omega
  rw [if_pos rm] at e12
  rw [if_pos (by omega)] at e13
  obtain ⟨f1, f2⟩ := FL m rm
  rw [fell_all hn] at f1 f2
  rw [← T m] at f1
  have f3 : (m : Int) ∈ ts → (runAt u (m : Int)).why = ⟨2, 7⟩ := fun q => f2 ((T m).1 q).1 ((T m).1 q).2
  have EX := HX.runs.each i xi
  have ru : runAt u (m : Int) = u.runs[i] := by rw [im, runAt_nat xi]
  rw [ru] at f1 f3 e13
  simp only [encW] at e12 e13
  rw [Wp_body]
  by_cases q : (m : Int) ∈ ts
  ·have b3 := f1.2 (.inr q)
   have bw := f3 q
   rw [decide_eq_true q] at e14
   rw [b3] at e13
   by_cases a3 : (runAt w (m : Int)).state = 3
   ·rw [a3] at e12
    simp [hrs6.lenA, ml, e12, e13, e14, wi, ixA_nat xrs, xi', xrs.at, EX.why, bw, wj]
    exact by unfold LexOk; kernel_rfl
   ·simp [hrs6.lenA, ml, e12, e13, e14, wi, ixA_nat xrs, xi', xrs.at, EX.why, bw, wj, a3]
    exact by unfold LexOk; kernel_rfl
  ·rw [decide_eq_false q] at e14
   by_cases a3 : (runAt w (m : Int)).state = 3
   ·have b3 := f1.2 (.inl a3)
    rw [a3] at e12
    rw [b3] at e13
    simp [hrs6.lenA, ml, e12, e13, e14, wj]
    exact by unfold LexOk; kernel_rfl
   ·have b3 : ¬ u.runs[i].state = 3 := fun hh => by
     rcases f1.1 hh with h1 | h1
     ·exact a3 h1
     ·exact q h1
    simp [hrs6.lenA, ml, e12, e13, e14, wj, a3, b3]
    exact by unfold LexOk; kernel_rfl
 ·intro _
  have mn : ¬ 1 + (cs1.length : Int) ≤ cs1.length := by omega
  rw [Wp_body]
  by_cases d3 : (runAt w id).state = 3
  ·have t0 : ts.length = 0 := by
    rw [List.length_eq_zero_iff, List.eq_nil_iff_forall_not_mem]
    exact fun q hq => ((T q).1 hq).1.2 d3
   rw [d3] at e11
   simp [hrs6.lenA, mn, S6.lenA, t0, e11, e10]
   exact fin
  ·have mem : id ∈ ts := (T id).2 ⟨⟨rid, d3⟩, .self⟩
   have t0 : ¬ ts.length = 0 := fun hh => by rw [List.length_eq_zero_iff] at hh; rw [hh] at mem; cases mem
   simp [hrs6.lenA, mn, S6.lenA, t0, e11, d3, e10]
   exact fin
end Go.Proofs.YtmkiojlebjknlaaGreat
