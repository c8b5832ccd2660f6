/-
  Proves that the law answers true in the abstract machine, whatever it is handed that is as arguments are; under no other condition.
-/
import Derived.Test.YtjopaifbpeojeaaGreatWalk23
set_option linter.all false
/-
  THE LAW FnTick, in the abstract machine: it answers true.
-/
set_option maxRecDepth 8000
namespace Go.Proofs.YtjopaifbpeojeaaGreat
open Go.AM
variable {h : H} {bs : List Int} {s : Cell}
set_option maxHeartbeats 4000000 in
set_option maxRecDepth 16000 in
theorem c_law_Tick (hS : BytesA h s bs) : Dz.den 3 [.c s] h = some (.c (.bool true), h) := by
  refine den_plain rfl Tryz.func3 rfl rfl ?_
  have eL := fun e => hS.sl.lenA (e := e)
  by_cases z : (1048576 : Int) < bs.length
  · simp [Tryz.f3, eL, z]
  obtain ⟨w, c, cs, k1, k2, k3, k4, c1, cs1, c2, c3, e1, e2, e3, e4, e5, e6, e7, P⟩ := ticking hS
  have v := P.v
  have hR := v.rd
  have hrs := hR.runs.sl
  have hlen := hR.runs.len
  have seen := P.seen
  simp only [encW] at e1 e2 e3 e4 e5 e6 e7
  by_cases a : WorldOk w
  rotate_left
  · have a' : tt (WorldOk w) = false := by simpa using a
    rw [a'] at e5
    simp [Tryz.f3, eL, z, e1, e2, e3, e4, e5, e6, e7]
    exact ⟨by kernel_rfl, by kernel_rfl, (P.ext.trans P.ext4).2⟩
  have a' : tt (WorldOk w) = true := by simpa using a
  rw [a'] at e5
  have G := ((ok_iff w).1 a).1
  have I := G.inv
  have room := seen.room a
  have nw : ¬ (250 : Int) ≤ w.now := by have := seen.now; omega
  have nc : ¬ (250 : Int) ≤ c.now := by rw [hR.now]; exact nw
  have hx := tick_ok room
  have sp := tick_spec (w := w) (by omega)
  have X := P.x
  have Gx := G.tickG.1
  rw [hx] at X
  rw [sp] at X Gx
  have HX := X.rd
  have xrs := HX.runs.sl
  have xlen := HX.runs.len
  have many := I.many
  have now := I.now
  simp only [List.length_map] at xlen
  have wn : IntKind.i64.wrap (c.now + 1) = w.now + 1 := by rw [hR.now]; exact wrapS (by omega) (by omega)
  have xn : c1.now = w.now + 1 := HX.now
  have st : (tickP w).sent ≤ 9999 := by rw [sp]; have := seen.sent; simp only; omega
  have OX := c_IWorldOk HX
  rw [tt_fits (Gx.ok (by have := seen.sent; simp only; omega))] at OX
  obtain ⟨q0, k5, e8, F⟩ := hR.queue.cloneF (v.own.un .queue) (by have := seen.queue; unfold lenMost; omega)
  have o0 : OwnL k3.length k5 q0 1 encI w.queue := ⟨F.sl, F.wr, F.un, F.ids⟩
  simp only [encW] at OX
  simp [Tryz.f3, eL, z, e1, e2, e3, e4, e5, nc, e8]
  refine ⟨by kernel_rfl, ?_⟩
  refine count_wpG (σ := H × Cell) cs.length (fun i g => ([.c (.bool false), .c g.2, .c (ci i)], [encW c, encW c1], [], g.1))
    (fun i g => OwnL k3.length g.1 g.2 1 encI (w.queue ++ dueTo w.runs (w.now + 1) i) ∧ Ext k3 g.1) (k5, q0) (by simp) ⟨by simpa [dueTo] using o0, F.ext⟩ ?_ ?_
  · rintro i ⟨g, q⟩ hi ⟨o, x⟩
    simp only at o x ⊢
    have hi' : i < w.runs.length := by omega
    have xi : i < (w.runs.map (tickR (w.now + 1))).length := by simpa using hi'
    have xi' : i < cs1.length := by omega
    have S := hrs.ext x
    have XS := xrs.ext x
    have E := (hR.runs.ext x).each i hi'
    have EX := (HX.runs.ext x).each i xi
    have bx : (w.runs.map (tickR (w.now + 1)))[i] = tickR (w.now + 1) w.runs[i] := by simp
    rw [bx] at EX
    have wj : IntKind.i64.wrap ((i : Int) + 1) = (i : Int) + 1 := wrapS (by omega) (by omega)
    have eg : w.runs[i]?.getD default = w.runs[i] := by simp [hi']
    by_cases y : w.runs[i].state = 2 ∧ w.runs[i].due = w.now + 1
    · have br : tickR (w.now + 1) w.runs[i] = { w.runs[i] with state := 1, due := -1 } := by unfold tickR; rw [if_pos y]
      rw [br] at EX
      have dt : dueTo w.runs (w.now + 1) (i + 1) = dueTo w.runs (w.now + 1) i ++ [(i : Int) + 1] := by rw [dueTo, eg, if_pos y]
      have ll : (w.queue ++ dueTo w.runs (w.now + 1) i).length ≤ 100 := by
        have := seen.queue
        have : ∀ j, (dueTo w.runs (w.now + 1) j).length ≤ j := fun j => by
          induction j with
          | zero => simp [dueTo]
          | succ j ih => rw [dueTo, List.length_append]; split <;> simp <;> omega
        have := this i
        simp; omega
      obtain ⟨q', g2, e9, o9, c9, _⟩ := o.app2 x.1 ((i : Int) + 1) (by simp [encI]) (by unfold lenMost; omega)
      have x9 : Ext k3 g2 := ⟨Nat.le_trans x.1 c9.len, fun id hid => by rw [c9.keep id (Nat.lt_of_lt_of_le hid x.1) (fun hh => by have := o.ids id hh; omega), x.2 id hid]⟩
      have E2 := (hR.runs.ext x9).each i hi'
      have EX2 := (HX.runs.ext x9).each i xi
      rw [bx, br] at EX2
      have B : RunR g2 w.runs[i] { cs1[i] with state := cs[i].state, due := cs[i].due } := ⟨EX2.id, EX2.at_, EX2.slots, EX2.full, EX2.mail, E2.state, E2.due, EX2.links, EX2.watched, EX2.trap, EX2.why, EX2.turns⟩
      have e10 := c_lvRun B E2
      rw [decide_eq_true rfl] at e10
      have d1 : cs[i].due = w.now + 1 := by rw [E.due]; exact y.2
      have s1 : cs[i].state = 2 := by rw [E.state]; exact y.1
      have d2 : cs1[i].due = -1 := EX.due
      have s2 : cs1[i].state = 1 := EX.state
      simp only [encR] at e10
      simp only [encI] at e9
      rw [d1, s1] at e10
      rw [Wp_body]
      simp [S.lenA, XS.lenA, hi, ixA_nat S, S.at, xi', ixA_nat XS, XS.at, d1, s1, d2, s2, wn, wj, e9, e10]
      exact ⟨g2, q', ⟨rfl, rfl⟩, by rw [dt, ← List.append_assoc]; exact o9, x9⟩
    · have br : tickR (w.now + 1) w.runs[i] = w.runs[i] := by unfold tickR; rw [if_neg y]
      rw [br] at EX
      have dt : dueTo w.runs (w.now + 1) (i + 1) = dueTo w.runs (w.now + 1) i := by rw [dueTo, eg, if_neg y, List.append_nil]
      have e10 := c_lvRun EX E
      rw [decide_eq_true rfl] at e10
      simp only [encR] at e10
      rw [dt]
      rw [Wp_body]
      by_cases y1 : w.runs[i].state = 2
      · have s1 : cs[i].state = 2 := by rw [E.state]; exact y1
        have d1 : ¬ cs[i].due = w.now + 1 := by rw [E.due]; exact fun hh => y ⟨y1, hh⟩
        rw [s1] at e10
        simp [S.lenA, XS.lenA, hi, ixA_nat S, S.at, xi', ixA_nat XS, XS.at, d1, s1, wn, wj, e10]
        exact ⟨g, q, ⟨rfl, rfl⟩, o, x⟩
      · have s1 : ¬ cs[i].state = 2 := by rw [E.state]; exact y1
        simp [S.lenA, XS.lenA, hi, ixA_nat S, S.at, xi', ixA_nat XS, XS.at, s1, wn, wj, e10]
        exact ⟨g, q, ⟨rfl, rfl⟩, o, x⟩
  · rintro ⟨g, q⟩ ⟨o, x⟩
    simp only at o x ⊢
    have e9 := c_lvInts (HX.queue.ext x) (by rw [hlen] at o; exact o.sl)
    rw [decide_eq_true rfl] at e9
    have OG := c_IWorldOk (X.ext x).rd
    rw [tt_fits (Gx.ok (by have := seen.sent; simp only; omega))] at OG
    simp only [encW] at OG
    rw [xn] at OG
    rw [Wp_body]
    simp [(hrs.ext x).lenA, xn, wn, e9, OG]
    exact (P.ext.trans x).2
end Go.Proofs.YtjopaifbpeojeaaGreat
