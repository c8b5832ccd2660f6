/-
  Proves that the law answers true in the abstract machine, whatever it is handed that is as arguments are; under no other condition.
-/
import Derived.Test.YtjopaifbpeojeaaGreatWalk23
import Derived.Test.YtjopaifbpeojeaaGreatWalk24
set_option linter.all false
/-
  THE LAW FnTurnOthers, in the abstract machine: it answers true.
-/
set_option maxRecDepth 8000
namespace Go.Proofs.YtjopaifbpeojeaaGreat
open Go.AM
variable {h : H} {bs : List Int} {s : Cell}
set_option maxHeartbeats 4000000 in
set_option maxRecDepth 16000 in
theorem c_law_TurnOthers (hS : BytesA h s bs) : Dz.den 8 [.c s] h = some (.c (.bool true), h) := by
  refine den_plain rfl Tryz.func8 rfl rfl ?_
  have eL := fun e => hS.sl.lenA (e := e)
  by_cases z : (1048576 : Int) < bs.length
  · simp [Tryz.f8, eL, z]
  obtain ⟨w, c, cs, k1, k2, k3, k4, c1, cs1, c2, c3, e1, e2, e3, e4, e5, e6, e7, P⟩ := turned hS
  have v := P.v
  have hR := v.rd
  have hrs := hR.runs.sl
  have hlen := hR.runs.len
  have seen := P.seen
  simp only [encW] at e1 e2 e3 e4 e5 e6 e7
  by_cases a : WorldOk w
  rotate_left
  · have a' : tt (WorldOk w) = false := by simpa using a
    rw [a'] at e5
    simp [Tryz.f8, eL, z, e1, e2, e3, e4, e5, e6, e7]
    exact ⟨by kernel_rfl, by kernel_rfl, (P.ext.trans P.ext4).2⟩
  have a' : tt (WorldOk w) = true := by simpa using a
  rw [a'] at e5
  have G := ((ok_iff w).1 a).1
  have I := G.inv
  have room := seen.room a
  have hx := do_ok room
  have X := P.x
  rw [hx] at X
  have qL := hR.queue.lenA (e := 3)
  have fin := P.ext.2
  by_cases q0 : w.queue = []
  · rw [q0] at qL
    simp [Tryz.f8, eL, z, e1, e2, e3, e4, e5, e6, e7, qL]
    exact ⟨by kernel_rfl, by kernel_rfl, (P.ext.trans P.ext4).2⟩
  have HX := X.rd
  have xrs := HX.runs.sl
  have xlen := HX.runs.len
  have K := G.turnG
  obtain ⟨t, eq⟩ := turn_q G q0
  obtain ⟨a0, rest, hw⟩ : ∃ a rest, w.queue = a :: rest := by
    cases hh : w.queue with
    | nil => exact absurd hh q0
    | cons a rest => exact ⟨a, rest, rfl⟩
  have ha : headQ w = a0 := by unfold headQ; rw [hw]; rfl
  have nd : a0 ∉ rest := by have := I.queue; rw [hw] at this; exact (List.nodup_cons.1 this).1
  obtain ⟨pf, hpf⟩ : ∃ pf : Int → Bool, (fun k => decide (k ≠ headQ w) && !decide ((runAt (turnP w) k).state = 3)) = pf := ⟨_, rfl⟩
  have pa : pf a0 = false := by rw [← hpf]; simp [ha]
  rw [hpf, hw, List.filter_cons, pa] at eq
  simp only [Bool.false_eq_true, ↓reduceIte] at eq
  have Q := hR.queue
  have XQ := HX.queue
  have ql : w.queue.length = rest.length + 1 := by rw [hw]; rfl
  have ne0 : ¬ w.queue.length = 0 := by omega
  have s7 := seen.queue
  simp [Tryz.f8, eL, z, e1, e2, e3, e4, e5, qL, q0, ne0]
  refine ⟨by kernel_rfl, ?_⟩
  refine count_wp rest.length (fun j => ([.c (.bool false), .c (ci (((rest.take j).filter pf).length : Nat)), .c (ci ((1 + j : Nat)))], [encW c, encW c1], [], k3)) (fun _ => True) (by simp) trivial ?_ ?_
  · intro j hj _
    have hm : rest[j] ∈ w.queue := by rw [hw]; exact List.mem_cons_of_mem _ (List.getElem_mem hj)
    have hm2 : rest[j] ∈ rest := List.getElem_mem hj
    obtain ⟨i, ei, r2, hr2, _⟩ := (I.mem _).1 hm
    have hi := (List.getElem?_eq_some_iff.1 hr2).1
    have nh : rest[j] ≠ headQ w := fun e => nd (by rw [← ha, ← e]; exact hm2)
    have rng : 1 ≤ rest[j] ∧ rest[j] ≤ w.runs.length := by omega
    have tu := turn_at G q0 (by have := seen.turns; omega) rng
    rw [if_neg nh, Int.add_zero] at tu
    have xr : w.runs.length ≤ (turnP w).runs.length := K.k.len
    have hi' : i < cs.length := by omega
    have xi : i < (turnP w).runs.length := by omega
    have xi' : i < cs1.length := by omega
    have E := hR.runs.each i hi
    have EX := HX.runs.each i xi
    have many := I.many
    have wi : IntKind.i64.wrap (rest[j] - 1) = (i : Int) := by rw [wrapS (by omega) (by omega)]; omega
    have r1 : runAt w rest[j] = w.runs[i] := runAt_some (by rw [show (rest[j] - 1).toNat = i by omega]; exact List.getElem?_eq_getElem hi)
    have r2' : runAt (turnP w) rest[j] = (turnP w).runs[i] := runAt_some (by rw [show (rest[j] - 1).toNat = i by omega]; exact List.getElem?_eq_getElem xi)
    have tt2 : cs1[i].turns = cs[i].turns := by rw [EX.turns, E.turns, ← r1, ← r2']; exact tu
    have e8 := c_lvState HX rest[j]
    rw [if_pos (by omega), r2'] at e8
    obtain ⟨j1, hj1e⟩ : ∃ j1, 1 + j = j1 := ⟨_, rfl⟩
    have hj2 : 1 + (j + 1) = j1 + 1 := by omega
    rw [hj1e, hj2]
    have hj1 : j1 < w.queue.length := by omega
    have qj : w.queue[j1]?.getD default = rest[j] := by
      subst hj1e
      rw [hw, Nat.add_comm 1 j]
      simp [hj]
    have iq := ixA_nat Q (T := TTz) (e := 3) (k := .i64) (n := j1) rfl rfl hj1
    have aq := Q.at (n := j1) (k := 0) (m := 1) hj1 (by omega)
    rw [qj] at aq
    have wj : IntKind.i64.wrap ((j1 : Int) + 1) = (j1 : Int) + 1 := wrapS (by omega) (by omega)
    have tk : (rest.take (j + 1)).filter pf = (rest.take j).filter pf ++ if pf rest[j] = true then [rest[j]] else [] := by
      rw [List.take_succ_eq_append_getElem hj, List.filter_append]
      by_cases q : pf rest[j] = true <;> simp [q]
    have pk : pf rest[j] = !decide (((turnP w).runs[i]).state = 3) := by rw [← hpf, ← r2']; simp [nh]
    have al : ((rest.take j).filter pf).length ≤ rest.length := by
      have := List.length_filter_le pf (rest.take j)
      simp at this; omega
    obtain ⟨rk, hrk⟩ : ∃ rk, rest[j] = rk := ⟨_, rfl⟩
    rw [hrk] at wi e8 aq tk pk
    simp only [encW] at e8
    simp [encI] at iq aq
    rw [Wp_body]
    by_cases d3 : ((turnP w).runs[i]).state = 3
    · have pkf : pf rk = false := by rw [pk]; simp [d3]
      rw [d3] at e8
      rw [pkf] at tk
      simp at tk
      simp [Q.lenA, hj1, iq, aq, wi, ixA_nat hrs, hi', hrs.at, ixA_nat xrs, xi', xrs.at, tt2, e8, wj, tk]
      unfold LexOk; kernel_rfl
    · have pkt : pf rk = true := by rw [pk]; simp [d3]
      rw [pkt] at tk
      simp at tk
      have wa : IntKind.i64.wrap ((((rest.take j).filter pf).length : Int) + 1) = (((rest.take j).filter pf).length : Int) + 1 := wrapS (by omega) (by omega)
      have split : rest.filter pf = (rest.take j).filter pf ++ rk :: (rest.drop (j + 1)).filter pf := by
        have : rest = rest.take j ++ rest[j] :: rest.drop (j + 1) := by rw [← List.drop_eq_getElem_cons hj, List.take_append_drop]
        rw [show rest.filter pf = (rest.take j ++ rest[j] :: rest.drop (j + 1)).filter pf from by rw [← this], List.filter_append, List.filter_cons, hrk, pkt]
        simp
      have xl : ((rest.take j).filter pf).length < (turnP w).queue.length := by rw [eq, split]; simp
      have xq : (turnP w).queue[((rest.take j).filter pf).length]?.getD default = rk := by simp [eq, split]
      have iq2 := ixA_nat XQ (T := TTz) (e := 3) (k := .i64) rfl rfl xl
      have aq2 := XQ.at (k := 0) (m := 1) xl (by omega)
      rw [xq] at aq2
      obtain ⟨af, haf⟩ : ∃ af, ((rest.take j).filter pf).length = af := ⟨_, rfl⟩
      rw [haf] at iq2 aq2 wa xl
      simp [encI] at iq2 aq2
      have xl' : ¬ (turnP w).queue.length ≤ af := by omega
      simp [Q.lenA, hj1, iq, aq, wi, ixA_nat hrs, hi', hrs.at, ixA_nat xrs, xi', xrs.at, tt2, e8, d3, wj, tk, XQ.lenA, haf, xl', iq2, aq2, wa]
      unfold LexOk; kernel_rfl
  · intro _
    rw [Wp_body]
    have : 1 + rest.length = w.queue.length := by omega
    rw [this]
    simp [Q.lenA]
    exact fin
end Go.Proofs.YtjopaifbpeojeaaGreat
