/-
  Proves that the law answers true in the abstract machine, whatever it is handed that is as arguments are; under no other condition.
-/
import Derived.Test.YtdpffdpgcooagaaGreatWalk22
set_option linter.all false
/-
  THE LAW FnRunTurns, in the abstract machine: it answers true.
-/
set_option maxRecDepth 8000
namespace Go.Proofs.YtdpffdpgcooagaaGreat
open Go.AM
variable {h : H} {bs ms : List Int} {s s2 : Cell}
set_option maxHeartbeats 4000000 in
set_option maxRecDepth 16000 in
theorem c_law_RunTurns (hS : BytesA h s bs) : Dz.den 7 [.c s] h = some (.c (.bool true), h) := by
  refine den_plain rfl Tryz.func7 rfl rfl ?_
  have eL := fun e => hS.sl.lenA (e := e)
  by_cases z : (1048576 : Int) < bs.length
  · simp [Tryz.f7, eL, z]
  obtain ⟨code, evs, sc, tc, k1, k2, k3, c1, cs1, c2, e1, e2, e3, e4, P⟩ := played hS
  have eT := fun e => P.oe.sl.lenA (e := e)
  simp only [encW] at e2 e3 e4
  by_cases a : PlayRun1 code evs
  rotate_left
  · have a' : tt (PlayRun1 code evs) = false := by simpa using a
    rw [a'] at e2 e3
    simp [Tryz.f7, eL, z, e1, e2, e3, e4]
    exact P.ext.2
  have Q := plays a
  have a' : tt (PlayRun1 code evs) = true := by simpa using a
  rw [a'] at e2 e3
  have v := P.v
  have hR := v.rd
  have hrs := hR.runs.sl
  have hlen := hR.runs.len
  generalize playRunP code evs = w at *
  have G := Q.good
  have I := G.inv
  obtain ⟨_, e5, k4, c4, cs4, rfl, x4, v4⟩ := c_IPlayRun P.oc.sl P.oc.un (by have := P.short; unfold lenMost; omega) (t := .nils) (evs := []) ⟨by simp, rfl⟩
  have b : PlayRun1 code [] := ⟨a.1, by simp⟩
  have b' : tt (PlayRun1 code []) = true := by simpa using b
  have v5 : WorldV k3.length k4 (playTo code evs 0) c4 cs4 cs4 := by
    have : playRunP code [] = playTo code evs 0 := by unfold playRunP; rw [if_pos b]; rfl
    rw [this] at v4; exact v4
  rw [b'] at e5
  simp only [encW] at e5
  have few := Q.few
  simp [Tryz.f7, eL, z, e1, e2, e3, e4, e5, eT]
  refine count_wpG (σ := H × WorldC × List RunC) evs.length (fun i g => ([.c (.bool false), .c tc, .c (ci (turnsTo code evs i)), .c (ci i)], [encW c1, encW g.2.1], [], g.1))
    (fun i g => WorldV k3.length g.1 (playTo code evs i) g.2.1 g.2.2 g.2.2 ∧ Ext k3 g.1) (k4, c4, cs4) (by simp [turnsTo]) ⟨v5, x4⟩ ?_ ?_
  · rintro i ⟨g, c6, cs6⟩ hi ⟨v6, x6⟩
    simp only at v6 x6 ⊢
    have hE := P.oe.sl.ext x6
    have tl := turnsTo_le code evs i
    have wj : IntKind.i64.wrap ((i : Int) + 1) = (i : Int) + 1 := wrapS (by omega) (by omega)
    have wt : IntKind.i64.wrap ((turnsTo code evs i : Int) + 1) = (turnsTo code evs i : Int) + 1 := wrapS (by omega) (by omega)
    have eg : evs[i]?.getD default = evs[i] := by simp [hi]
    obtain ⟨_, e7, k7, c7, cs7, rfl, x7, v7⟩ := c_IPlayDo v6 evs[i]
    have er : playDoP (playTo code evs i) evs[i] = playTo code evs (i + 1) := by
      unfold playDoP
      rw [if_pos (by simpa using playTo_room a.1 evs (by omega))]
      simp only [playTo, eg]
    rw [er] at v7
    have v8 := v7.low x6.1
    have qL := v6.rd.queue.lenA (e := 3)
    simp only [encW, encE] at e7
    rw [Wp_body]
    by_cases q : evs[i].kind = 1
    · by_cases q2 : (playTo code evs i).queue = []
      · have tk : turnsTo code evs (i + 1) = turnsTo code evs i := by rw [turnsTo, eg, if_neg (fun hh => hh.2 q2)]; rfl
        rw [q2] at qL
        rw [q] at e7
        simp [hE.lenA, hi, ixA_nat hE, hE.at, q, qL, wj, wt, tk, e7]
        exact ⟨by kernel_rfl, k7, c7, ⟨⟨rfl, rfl, rfl, rfl, rfl, rfl, rfl⟩, rfl⟩, ⟨cs7, v8⟩, x6.trans x7⟩
      · have tk : turnsTo code evs (i + 1) = turnsTo code evs i + 1 := by rw [turnsTo, eg, if_pos ⟨q, q2⟩]
        have pos : 0 < (playTo code evs i).queue.length := List.length_pos_iff.2 q2
        rw [q] at e7
        simp [hE.lenA, hi, ixA_nat hE, hE.at, q, qL, pos, wj, wt, tk, e7]
        exact ⟨by kernel_rfl, k7, c7, ⟨⟨rfl, rfl, rfl, rfl, rfl, rfl, rfl⟩, rfl⟩, ⟨cs7, v8⟩, x6.trans x7⟩
    · have tk : turnsTo code evs (i + 1) = turnsTo code evs i := by rw [turnsTo, eg, if_neg (fun hh => q hh.1)]; rfl
      simp [hE.lenA, hi, ixA_nat hE, hE.at, q, qL, wj, wt, tk, e7]
      exact ⟨by kernel_rfl, k7, c7, ⟨⟨rfl, rfl, rfl, rfl, rfl, rfl, rfl⟩, rfl⟩, ⟨cs7, v8⟩, x6.trans x7⟩
  · rintro ⟨g, c6, cs6⟩ ⟨v6, x6⟩
    simp only at v6 x6 ⊢
    have hE := P.oe.sl.ext x6
    have S := hrs.ext x6
    have R := hR.runs.ext x6
    have many := I.many
    have tu := playTo_turns Q.safe evs evs.length (by omega)
    rw [← Q.eq] at tu
    have tn := (turnsOf_le (rs := w.runs) fun r hr => by
      obtain ⟨i, hi, rfl⟩ := List.mem_iff_getElem.1 hr
      exact (I.each i _ (List.getElem?_eq_getElem hi)).ok.turns.1)
    have tl := turnsTo_le code evs evs.length
    rw [Wp_body]
    simp [hE.lenA]
    refine count_wp cs1.length (fun i => ([.c (.bool false), .c (ci (turnsTo code evs evs.length)), .c (.int .i64 (turnsOf (w.runs.take i))), .c (ci i)], [encW c1], [], g)) (fun _ => True) (by simp [turnsOf]) trivial ?_ ?_
    · intro i hi _
      have hi' : i < w.runs.length := by omega
      have hr := R.each i hi'
      have wj : IntKind.i64.wrap ((i : Int) + 1) = (i : Int) + 1 := wrapS (by omega) (by omega)
      have t1 : turnsOf (w.runs.take (i + 1)) = turnsOf (w.runs.take i) + w.runs[i].turns := by
        rw [List.take_succ_eq_append_getElem hi', turnsOf_app]; simp [turnsOf]
      have nn : ∀ r ∈ w.runs, 0 ≤ r.turns := fun r hr => by
        obtain ⟨i, hi, rfl⟩ := List.mem_iff_getElem.1 hr
        exact (I.each i _ (List.getElem?_eq_getElem hi)).ok.turns.1
      have t2 := (turnsOf_le (rs := w.runs.take (i + 1)) fun r hr => nn r (List.mem_of_mem_take hr)).1
      have t3 : turnsOf w.runs = turnsOf (w.runs.take (i + 1)) + turnsOf (w.runs.drop (i + 1)) := by rw [← turnsOf_app, List.take_append_drop]
      have t4 := (turnsOf_le (rs := w.runs.drop (i + 1)) fun r hr => nn r (List.mem_of_mem_drop hr)).1
      have wt : IntKind.i64.wrap (turnsOf (w.runs.take i) + w.runs[i].turns) = turnsOf (w.runs.take (i + 1)) := by rw [t1]; exact wrapS (by omega) (by omega)
      rw [Wp_body]
      simp [S.lenA, hi, ixA_nat S, S.at, hr.turns, wj, wt]
    · intro _
      rw [List.take_of_length_le (by omega)]
      rw [Wp_body]
      simp [S.lenA, tu]
      exact (P.ext.trans x6).2
end Go.Proofs.YtdpffdpgcooagaaGreat
