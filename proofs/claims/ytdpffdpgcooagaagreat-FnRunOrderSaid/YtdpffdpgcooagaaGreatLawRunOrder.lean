/-
  Proves that the law answers true in the abstract machine, whatever it is handed that is as arguments are; under no other condition.
-/
import Derived.Test.YtdpffdpgcooagaaGreatWalk22
set_option linter.all false
/-
  THE LAW FnRunOrder, in the abstract machine: it answers true.
-/
set_option maxRecDepth 8000
namespace Go.Proofs.YtdpffdpgcooagaaGreat
open Go.AM
variable {h : H} {bs ms : List Int} {s s2 : Cell}
set_option maxHeartbeats 4000000 in
set_option maxRecDepth 16000 in
theorem c_law_RunOrder (hS : BytesA h s bs) (hT : BytesA h s2 ms) : Dz.den 9 [.c s, .c s2] h = some (.c (.bool true), h) := by
  refine den_plain rfl Tryz.func9 rfl rfl ?_
  have eL := fun e => hS.sl.lenA (e := e)
  have eM := fun e => hT.sl.lenA (e := e)
  by_cases z : (1048576 : Int) < bs.length
  · simp [Tryz.f9, eL, z]
  by_cases y : (1048576 : Int) < ms.length
  · simp [Tryz.f9, eL, z, eM, y]
  obtain ⟨code, evs, sc, tc, k1, k2, k3, c1, cs1, c2, e1, e2, e3, e4, P⟩ := played hS
  have eT := fun e => P.oe.sl.lenA (e := e)
  simp only [encW] at e2 e3 e4
  by_cases a : PlayRun1 code evs
  rotate_left
  · have a' : tt (PlayRun1 code evs) = false := by simpa using a
    rw [a'] at e2 e3
    simp [Tryz.f9, eL, z, eM, y, e1, e2, e3, e4]
    exact P.ext.2
  have Q := plays a
  have a' : tt (PlayRun1 code evs) = true := by simpa using a
  rw [a'] at e2 e3
  have v := P.v
  have hR := v.rd
  have hrs := hR.runs.sl
  have hlen := hR.runs.len
  generalize playRunP code evs = w at *
  have G := Q.good
  have I := G.inv
  have many := I.many
  obtain ⟨id, hid⟩ : ∃ id : Nat, id = 1 + ms.length % w.runs.length := ⟨_, rfl⟩
  have hid2 : 1 ≤ (id : Int) ∧ (id : Int) ≤ w.runs.length := by have := Nat.mod_lt ms.length (show 0 < w.runs.length by omega); omega
  have w2 : (ms.length : Int).tmod (w.runs.length : Int) = (id : Int) - 1 := by
    rw [Int.tmod_eq_emod_of_nonneg (by omega), hid]; omega
  have w3 : ¬ ((w.runs.length : Int) = 0) := by omega
  have w4 : IntKind.i64.wrap (1 + ((id : Int) - 1)) = (id : Int) := by rw [wrapS (by omega) (by omega)]; omega
  have w5 : ¬ (w.runs.length = 0) := by omega
  obtain ⟨n0, en0, hn0, er0, ei0⟩ := runAt_eq (w := w) (id := id) hid2
  have hn1 : n0 < cs1.length := by omega
  have wm : IntKind.i64.wrap ((id : Int) - 1) = (n0 : Int) := by rw [wrapS (by omega) (by omega)]; omega
  have e5 := c_lvState hR id
  rw [if_pos hid2] at e5
  have E0 := hR.runs.each n0 hn0
  have st := Q.sent
  simp only [encW] at e5
  by_cases en : (runAt w id).state = 3
  · rw [en] at e5
    simp [Tryz.f9, eL, z, eM, y, e1, e2, e3, e4, hrs.lenA, hlen, w2, w3, w4, w5, e5]
    exact P.ext.2
  have gv := gives G hid2 en
  have M0 := E0.mail
  rw [← er0] at M0
  have R0 := I.each n0 _ (List.getElem?_eq_getElem hn0)
  have room := R0.ok.room
  rw [← er0] at room
  obtain ⟨s6, k6, e6, F6⟩ := M0.cloneF (by have := v.own.un (.mail n0); rwa [show part c1 cs1 (.mail n0) = cs1[n0].mail from fld_at hn1] at this) (by unfold lenMost; omega)
  have hrs' := hrs.ext (Ext.push k3 ⟨false, 2, []⟩)
  have o6 : OwnL k3.length k6 s6 2 encV (runAt w id).mail := ⟨F6.sl, F6.wr, F6.un, F6.ids⟩
  simp [Tryz.f9, eL, z, eM, y, e1, e2, e3, e4, hrs.lenA, hlen, w2, w3, w4, w5, e5, en, wm, ixA_nat hrs', hn1, hn0, hrs'.at, e6]
  refine count_wpG (σ := H × WorldC × List RunC × Cell) 5 (fun i g => ([.c (.bool false), .c (ci id), .c g.2.2.2, .c (ci i)], [encW c1, encW g.2.1], [], g.1))
    (fun i g => WorldV k1.length g.1 (givesTo w id i) g.2.1 g.2.2.1 g.2.2.1 ∧ OwnL k3.length g.1 g.2.2.2 2 encV (mailTo5 (runAt w id).mail i) ∧ (∀ q ∈ g.2.2.2.ids, ¬ Owned (part g.2.1 g.2.2.1) q) ∧ Ext k3 g.1) (k6, c1, cs1, s6) (by simp)
    ⟨v.ext F6.ext, o6, fun q hq ho => by have := o6.ids q hq; have := v.own.owned_lt q ho; omega, F6.ext⟩ ?_ ?_
  · rintro i ⟨g, c, cs, q⟩ hi ⟨v7, o, dj, x⟩
    simp only at v7 o dj x ⊢
    have hi' : (i : Int) < 5 := by omega
    obtain ⟨G7, s7, l7, n7, m7⟩ := gv i (by omega)
    obtain ⟨_, _, _, _, m8⟩ := gv (i + 1) (by omega)
    have rm : Room (givesTo w id i) := ⟨G7.ok (by omega), by omega⟩
    have R1 : playDoP (givesTo w id i) ⟨3, id, ⟨1, i⟩⟩ = givesTo w id (i + 1) := by
      unfold playDoP
      rw [if_pos (by simpa using rm)]
      rfl
    obtain ⟨_, e8, k8, c8, cs8, rfl, x8, v8⟩ := c_IPlayDo v7 ⟨3, id, ⟨1, i⟩⟩
    rw [R1] at v8
    have o8 := o.ext x8
    have ll : (mailTo5 (runAt w id).mail i).length ≤ 12 := by rw [← m7]; exact (G7.inv.run (id := id) (by rw [l7]; exact hid2)).elim fun j hj => hj.2.2.2.2.ok.room
    obtain ⟨q', k9, e9, o9, c9, sub⟩ := o8.app2 (Nat.le_trans x.1 x8.1) (⟨1, i⟩ : PVal) (by simp) (by unfold lenMost; omega)
    have wj : IntKind.i64.wrap ((i : Int) + 1) = (i : Int) + 1 := wrapS (by omega) (by omega)
    have dj8 : ∀ p ∈ q.ids, ¬ Owned (part c8 cs8) p := fun p hp ho => by have := o.sl.ids_lt p hp; have := v8.own.owned_ge p ho; omega
    have lo8 : k1.length ≤ g.length := by have := v7.lo_le; omega
    simp only [encW, encE, encV] at e8 e9
    rw [Wp_body]
    by_cases t : (mailTo5 (runAt w id).mail i).length < 12
    · have mt : mailTo5 (runAt w id).mail (i + 1) = mailTo5 (runAt w id).mail i ++ [⟨1, i⟩] := by rw [mailTo5, if_pos t]
      have v9 := v8.chg c9 fun p ho hp => dj8 p hp ho
      have x9 : Ext k3 k9 := ⟨Nat.le_trans x.1 (Nat.le_trans x8.1 c9.len), fun p hp => by
        rw [c9.keep p (Nat.lt_of_lt_of_le hp (Nat.le_trans x.1 x8.1)) (fun hh => by have := o.ids p hh; omega), (x.trans x8).2 p hp]⟩
      have t' : ((mailTo5 (runAt w id).mail i).length : Int) < 12 := by omega
      simp [hi', e8, o8.sl.lenA, t', e9, wj]
      exact ⟨k9, c8, cs8, q', ⟨rfl, ⟨rfl, rfl, rfl, rfl, rfl, rfl, rfl⟩, rfl⟩, v9.low lo8, by rw [mt]; exact o9, fun p hp ho => by
        rcases sub p hp with hh | hh
        · exact dj8 p hh ho
        · have := v8.own.owned_lt p ho; omega, x9⟩
    · have mt : mailTo5 (runAt w id).mail (i + 1) = mailTo5 (runAt w id).mail i := by rw [mailTo5, if_neg t]
      have t' : ¬ ((mailTo5 (runAt w id).mail i).length : Int) < 12 := by omega
      simp [hi', e8, o8.sl.lenA, t', wj]
      exact ⟨k8, c8, cs8, q, ⟨rfl, ⟨rfl, rfl, rfl, rfl, rfl, rfl, rfl⟩, rfl⟩, v8.low lo8, by rw [mt]; exact o8, dj8, x.trans x8⟩
  · rintro ⟨g, c, cs, q⟩ ⟨v7, o, dj, x⟩
    simp only at v7 o dj x ⊢
    obtain ⟨G7, s7, l7, n7, m7⟩ := gv 5 (by omega)
    have H := v7.rd
    have S := H.runs.sl
    have ln := H.runs.len
    have hn2 : n0 < (givesTo w id 5).runs.length := by omega
    have hn3 : n0 < cs.length := by omega
    have E := H.runs.each n0 hn2
    have er : (givesTo w id 5).runs[n0] = runAt (givesTo w id 5) id := by
      unfold runAt; rw [ei0, List.getElem?_eq_getElem hn2]; rfl
    have M := E.mail
    rw [er, m7] at M
    have e8 := c_lvVals M o.sl
    rw [decide_eq_true rfl] at e8
    have snt : c.sent = c1.sent + 5 := by rw [H.sent, hR.sent, s7]; rfl
    have ws : IntKind.i64.wrap (c1.sent + 5) = c1.sent + 5 := by rw [hR.sent]; exact wrapS (by have := I.nn; omega) (by omega)
    rw [Wp_body]
    simp [wm, ixA_nat S, hn3, S.at, e8, snt, ws]
    exact (P.ext.trans x).2
end Go.Proofs.YtdpffdpgcooagaaGreat
