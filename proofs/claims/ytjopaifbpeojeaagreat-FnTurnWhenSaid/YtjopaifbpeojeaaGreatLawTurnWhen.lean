/-
  Proves that the law answers true in the abstract machine, whatever it is handed that is as arguments are; under no other condition.
-/
import Derived.Test.YtjopaifbpeojeaaGreatWalk23
import Derived.Test.YtjopaifbpeojeaaGreatWalk24
set_option linter.all false
/-
  THE LAW FnTurnWhen, in the abstract machine: it answers true.
-/
set_option maxRecDepth 8000
namespace Go.Proofs.YtjopaifbpeojeaaGreat
open Go.AM
variable {h : H} {bs : List Int} {s : Cell}
set_option maxHeartbeats 4000000 in
set_option maxRecDepth 16000 in
theorem c_law_TurnWhen (hS : BytesA h s bs) : Dz.den 6 [.c s] h = some (.c (.bool true), h) := by
  refine den_plain rfl Tryz.func6 rfl rfl ?_
  have eL := fun e => hS.sl.lenA (e := e)
  by_cases z : (1048576 : Int) < bs.length
  · simp [Tryz.f6, eL, z]
  obtain ⟨_, e1, k1, w, c, cs, id, rfl, x1, v, seen, id1, id2⟩ := c_DrawTurnWhen hS
  have hR := v.rd
  have e2 := c_ITurnWhen hR id
  have e3 := c_TurnWhen hR id
  have e4 := c_WorldOk hR
  simp only [encW] at e1 e2 e3 e4
  by_cases a : WorldOk w
  rotate_left
  · have a' : tt (WorldOk w) = false := by simpa using a
    rw [a'] at e2 e3 e4
    simp at e2 e3
    simp [Tryz.f6, eL, z, e1, e2, e3, e4]
    exact x1.2
  have a' : tt (WorldOk w) = true := by simpa using a
  rw [a'] at e2 e3 e4
  simp only [↓reduceIte] at e2 e3
  have G := ((ok_iff w).1 a).1
  have I := G.inv
  have room := seen.room a
  by_cases hm : id ∈ w.queue
  rotate_left
  · have w0 : whenP w id = 0 := by unfold whenP; rw [firstAt_idx, if_neg hm]; rfl
    have e5 := c_lvAmong hR.queue id
    rw [decide_eq_false hm] at e5
    rw [w0] at e2 e3
    simp [Tryz.f6, eL, z, e1, e2, e3, e4, e5]
    exact x1.2
  obtain ⟨jj, hj⟩ : ∃ j : Nat, w.queue.idxOf id = j := ⟨_, rfl⟩
  have jl : jj < w.queue.length := by rw [← hj]; exact List.idxOf_lt_length_iff.2 hm
  have wv : whenP w id = (jj : Int) + 1 := by unfold whenP; rw [firstAt_idx, if_pos hm, hj]
  rw [wv] at e2 e3
  have Q := hR.queue
  have qj : w.queue[jj]?.getD default = id := by
    rw [List.getElem?_eq_getElem jl, Option.getD_some]
    simp [← hj]
  have iq := ixA_nat Q (T := TTz) (e := 3) (k := .i64) (n := jj) rfl rfl jl
  have aq := Q.at (n := jj) (k := 0) (m := 1) jl (by omega)
  rw [qj] at aq
  simp [encI] at iq aq
  have s7 := seen.queue
  have wm : IntKind.i64.wrap ((jj : Int) + 1 - 1) = (jj : Int) := by rw [wrapS (by omega) (by omega)]; omega
  have wm' : IntKind.i64.wrap (jj : Int) = (jj : Int) := wrapS (by omega) (by omega)
  have nz : ¬ (jj : Int) + 1 = 0 := by omega
  obtain ⟨_, e5, k5, c5, cs5, rfl, x5, v5⟩ := c_ITurnDo v
  rw [do_ok room] at v5
  have K := G.turnG
  have H5 := v5.rd
  have fin := (x1.trans x5).2
  have iq5 := ixA_nat (Q.ext x5) (T := TTz) (e := 3) (k := .i64) (n := jj) rfl rfl jl
  have aq5 := (Q.ext x5).at (n := jj) (k := 0) (m := 1) jl (by omega)
  rw [qj] at aq5
  simp [encI] at iq5 aq5
  simp only [encW] at e5
  by_cases j0 : jj = 0
  · subst j0
    simp at iq5 aq5 e2 e3
    have w00 : IntKind.i64.wrap 0 = 0 := by decide
    simp [Tryz.f6, eL, z, e1, e2, e3, e4, e5, iq5, aq5, w00]
    exact fin
  have nz2 : ¬ (jj : Int) = 0 := by omega
  obtain ⟨i, ei, r2, hr2, _⟩ := (I.mem _).1 hm
  have hi := (List.getElem?_eq_some_iff.1 hr2).1
  have rng : 1 ≤ id ∧ id ≤ (turnP w).runs.length := by have := K.k.len; omega
  have e6 := c_lvState H5 id
  rw [if_pos rng] at e6
  simp only [encW] at e6
  by_cases d3 : (runAt (turnP w) id).state = 3
  · rw [d3] at e6
    simp [Tryz.f6, eL, z, e1, e2, e3, e4, e5, iq5, aq5, wm, wm', nz, nz2, e6]
    exact fin
  have hne : headQ w ≠ id := fun e => by
    have q0 : w.queue ≠ [] := fun e => by rw [e] at hm; simp at hm
    obtain ⟨a0, rest, hw⟩ : ∃ a rest, w.queue = a :: rest := by
      cases hh : w.queue with
      | nil => exact absurd hh q0
      | cons a rest => exact ⟨a, rest, rfl⟩
    have ha : headQ w = a0 := by unfold headQ; rw [hw]; rfl
    rw [hw, List.idxOf_cons, ← e, ha] at hj
    simp at hj
    omega
  obtain ⟨g1, g2⟩ := when_turn G hm hne d3
  rw [wv] at g2
  have ps := phi_sent I
  have xs := sent_phi (turnP w)
  have kp := K.k.phi
  have ss := seen.sent
  have ok5 : tt (WorldOk (turnP w)) = true := by simpa using K.g.ok (by omega)
  have e7 := c_ITurnWhen H5 id
  rw [ok5] at e7
  simp only [↓reduceIte, encW] at e7
  generalize whenP (turnP w) id = n2 at *
  have g3 : ¬ n2 < 1 := by omega
  have g4 : n2 ≤ (jj : Int) := by omega
  simp [Tryz.f6, eL, z, e1, e2, e3, e4, e5, iq5, aq5, wm, wm', nz, nz2, e6, d3, e7, g1, g4]
  exact fin
end Go.Proofs.YtjopaifbpeojeaaGreat
