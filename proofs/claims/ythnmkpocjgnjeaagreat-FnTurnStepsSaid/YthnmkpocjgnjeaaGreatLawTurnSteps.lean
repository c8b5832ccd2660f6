/-
  Proves that the law answers true in the abstract machine, whatever it is handed that is as arguments are; under no other condition.
-/
import Derived.Test.YthnmkpocjgnjeaaGreatWalkB23
import Derived.Test.YthnmkpocjgnjeaaGreatWalkB25
set_option linter.all false
/-
 THE LAW FnTurnSteps, in the abstract machine: it answers true.
-/
set_option maxRecDepth 8000
namespace Go.Proofs.YthnmkpocjgnjeaaGreat
open Go.AM
variable {h : H} {bs : List Int} {s : Cell}
theorem byLemma {P G : Prop} (a : (Unit → P) → G) (b : P) : G := a fun _ => b
set_option maxHeartbeats 4000000 in
set_option maxRecDepth 16000 in
theorem c_law_TurnSteps (hS : BytesA h s bs) : Dz.den 4 [.c s] h = some (.c (.bool true), h) := by
 refine den_plain rfl Tryz.func4 rfl rfl ?_
 have eL := fun e => hS.sl.lenA (e := e)
 by_cases z : (1048576 : Int) < bs.length
 ·simp [Tryz.f4, eL, z]
 obtain ⟨w, c, cs, k1, k2, k3, k4, c1, cs1, c2, c3, e1, e2, e3, e4, e5, e6, e7, P⟩ := turned hS
 have v := P.v
 have hR := v.rd
 have hrs := hR.runs.sl
 have hlen := hR.runs.len
 have seen := P.seen
 simp only [encW] at e1 e2 e3 e4 e5 e6 e7
 by_cases a : WorldOk w
 rotate_left
 ·have a' : tt (WorldOk w) = false := by simpa using a
  rw [a'] at e5
  simp [Tryz.f4, eL, z, e1, e2, e3, e4, e5, e6, e7]
  exact ⟨by kernel_rfl, by kernel_rfl, (P.ext.trans P.ext4).2⟩
 have a' : tt (WorldOk w) = true := by simpa using a
 rw [a'] at e5
 have G := ((ok_iff w).1 a).1
 have I := G.inv
 have room := seen.room a
 have hx := do_ok room
 have X := P.x
 rw [hx] at X
 have qL := hR.queue.lenA (e := 3)
 have fin := P.ext.2
 by_cases q0 : w.queue = []
 ·rw [q0] at qL
  simp [Tryz.f4, eL, z, e1, e2, e3, e4, e5, e6, e7, qL]
  exact ⟨by kernel_rfl, by kernel_rfl, (P.ext.trans P.ext4).2⟩
 have HX := X.rd
 have xrs := HX.runs.sl
 have xlen := HX.runs.len
 have K := G.turnG
 obtain ⟨hid, h1⟩ := I.head q0
 have qp : ¬ w.queue.length = 0 := fun hh => q0 (List.length_eq_zero_iff.1 hh)
 obtain ⟨qi, qa, _⟩ := queue_hd q0 hR.queue
 obtain ⟨N, hN3, hgo, hst, hfin⟩ := steps_stop w (headQ w)
 have tu := turn_at G q0 (by have := seen.turns; omega) hid
 rw [if_pos rfl] at tu
 have ps := phi_sent I
 have ss := seen.sent
 have many := I.many
 simp [Tryz.f4, eL, z, e1, e2, e3, e4, e5, qL, q0, qp, qi, qa]
 refine ⟨by kernel_rfl, ?_⟩
 refine count_wpG (σ := H × WorldC × List RunC) N (fun i g => ([.c (.bool false), .c (ci (headQ w)), .c (ci i)], [encW c, encW c1, encW g.2.1], [], g.1)) (fun i g => WorldV h.length g.1 (stepI w (headQ w) i) g.2.1 g.2.2 g.2.2 ∧ Ext k3 g.1) (k3, c, cs) (by simp) ⟨v, Ext.refl _⟩ ?_ ?_
 ·rintro i ⟨g, c4, cs4⟩ hi ⟨v4, x⟩
  simp only at v4 x ⊢
  have J := stepsI G q0 i fun j hj => hgo j (by omega)
  have gi := hgo i hi
  have sp := sent_phi (stepI w (headQ w) i)
  have jp := J.phi
  have jl := J.len
  have room4 : Room (stepI w (headQ w) i) := ⟨J.good.ok (by omega), by omega⟩
  obtain ⟨hh1, hh2⟩ := (J.head gi).head
  obtain ⟨_, e8, k5, c5, cs5, rfl, x5, v5⟩ := c_ITurnStep v4
  rw [step_ok room4, if_neg hh2, hh1] at v5
  have e9 := c_lvState v4.rd (headQ w)
  rw [if_pos (by omega), gi] at e9
  obtain ⟨qi4, qa4, _⟩ := queue_hd hh2 v4.rd.queue
  rw [hh1] at qa4
  have i3 : (i : Int) < 3 := by omega
  have wj : IntKind.i64.wrap ((i : Int) + 1) = (i : Int) + 1 := wrapS (by omega) (by omega)
  simp only [encW] at e8 e9
  rw [Wp_body]
  simp [i3, e9, qi4, qa4, e8, wj]
  exact ⟨k5, c5, ⟨⟨rfl, rfl, rfl, rfl, rfl, rfl, rfl⟩, rfl⟩, ⟨cs5, v5.low (by have := v4.lo_le; omega)⟩, x.trans x5⟩
 ·rintro ⟨g, c4, cs4⟩ ⟨v4, x⟩
  simp only at v4 x ⊢
  have J := stepsI G q0 N hgo
  have jl := J.len
  obtain ⟨tz, tsn, ttk, tlo⟩ := turn_steps q0
  rw [hfin] at tz tsn ttk tlo
  have e9 := c_lvState v4.rd (headQ w)
  rw [if_pos (by omega)] at e9
  obtain ⟨y, hy⟩ : ∃ y, stepI w (headQ w) N = y := ⟨_, rfl⟩
  rw [hy] at v4 jl tz tsn ttk tlo e9 hst
  have H4 := v4.rd
  have S4 := H4.runs.sl
  have n4 := H4.runs.len
  have lz : (turnP w).runs.length = y.runs.length := by have := congrArg List.length tz; simpa using this
  have XG := X.ext x
  have HXg := XG.rd
  have xg := xrs.ext x
  have hg := hrs.ext x
  obtain ⟨i, ei, hi, er, ei2⟩ := runAt_eq (w := w) (id := headQ w) hid
  have hi' : i < cs.length := by omega
  have xi : i < (turnP w).runs.length := by have := K.k.len; omega
  have xi' : i < cs1.length := by omega
  have E := (hR.runs.ext x).each i hi
  have EX := HXg.runs.each i xi
  have rx : runAt (turnP w) (headQ w) = (turnP w).runs[i] := runAt_some (by rw [ei2]; exact List.getElem?_eq_getElem xi)
  rw [er, rx] at tu
  have tu2 : cs1[i].turns = cs[i].turns + 1 := by rw [EX.turns, E.turns]; exact tu
  have wi : IntKind.i64.wrap (headQ w - 1) = (i : Int) := by rw [wrapS (by omega) (by omega)]; omega
  have wt : IntKind.i64.wrap (cs[i].turns + 1) = cs[i].turns + 1 := by
   have := (I.each i _ (List.getElem?_eq_getElem hi)).ok.turns
   rw [E.turns]; exact wrapS (by omega) (by omega)
  have e10 := c_lvState HXg (headQ w)
  rw [if_pos (by omega)] at e10
  have OG := c_IWorldOk HXg
  rw [tt_fits (K.g.ok (by have := sent_phi (turnP w); have := K.k.phi; omega))] at OG
  have XQ := HXg.queue
  have cn1 : c1.sent = c4.sent := by rw [HXg.sent, H4.sent]; exact tsn
  have cn2 : c1.taken = c4.taken := by rw [HXg.taken, H4.taken]; exact ttk
  have cn3 : c1.lost = c4.lost := by rw [HXg.lost, H4.lost]; exact tlo
  have hdi : headQ w = (i : Int) + 1 := ei
  simp only [encW] at e9 e10 OG
  have lp : ∀ {Q0 : Prop}, Q0 → Q0 := fun q => q
  rw [Wp_body]
  have Lx : ∀ {A B : Prop}, A → B → A ∧ B := fun a b => ⟨a, b⟩
  have st2 : (N : Int) < 3 → ¬ (runAt y (headQ w)).state = 1 := fun c3 => by
   rcases hst with h3 | ng
   ·omega
   ·exact ng
  apply byLemma
  ·intro LL
   by_cases c3 : (N : Int) < 3
   ·have ng := st2 c3
    simp [c3, e9, ng, xi', hi', wi, ixA_nat xg, xg.at, ixA_nat hg, hg.at, tu2, wt, e10]
    refine ⟨by unfold LexOk; kernel_rfl, ?_⟩
    by_cases s1 : (runAt (turnP w) (headQ w)).state = 1
    ·obtain ⟨l, hl⟩ := turn_last G q0 s1
     have qn : (turnP w).queue.length = l.length + 1 := by rw [hl]; simp
     have ql := K.g.inv.qlen
     have xm := K.g.inv.many
     have iq := ixA_nat XQ (T := TTz) (e := 3) (k := .i64) (n := l.length) rfl rfl (by omega)
     have aq := XQ.at (n := l.length) (k := 0) (m := 1) (by omega) (by omega)
     rw [hl, List.getElem?_append_right (Nat.le_refl _), Nat.sub_self] at aq
     simp [encI] at iq aq
     have wl : IntKind.i64.wrap ((l.length : Int) + 1 - 1) = (l.length : Int) := by rw [wrapS (by omega) (by omega)]; omega
     have wl' : IntKind.i64.wrap (l.length : Int) = (l.length : Int) := wrapS (by omega) (by omega)
     simp [s1, XQ.lenA, qn, wl, wl', iq, aq]
     exact LL ()
    ·simp [s1]
     exact LL ()
   ·simp [c3, xi', hi', wi, ixA_nat xg, xg.at, ixA_nat hg, hg.at, tu2, wt, e10]
    refine ⟨by unfold LexOk; kernel_rfl, ?_⟩
    by_cases s1 : (runAt (turnP w) (headQ w)).state = 1
    ·obtain ⟨l, hl⟩ := turn_last G q0 s1
     have qn : (turnP w).queue.length = l.length + 1 := by rw [hl]; simp
     have ql := K.g.inv.qlen
     have xm := K.g.inv.many
     have iq := ixA_nat XQ (T := TTz) (e := 3) (k := .i64) (n := l.length) rfl rfl (by omega)
     have aq := XQ.at (n := l.length) (k := 0) (m := 1) (by omega) (by omega)
     rw [hl, List.getElem?_append_right (Nat.le_refl _), Nat.sub_self] at aq
     simp [encI] at iq aq
     have wl : IntKind.i64.wrap ((l.length : Int) + 1 - 1) = (l.length : Int) := by rw [wrapS (by omega) (by omega)]; omega
     have wl' : IntKind.i64.wrap (l.length : Int) = (l.length : Int) := wrapS (by omega) (by omega)
     simp [s1, XQ.lenA, qn, wl, wl', iq, aq]
     exact LL ()
    ·simp [s1]
     exact LL ()
  refine count_wp cs1.length (fun i => ([.c (.bool false), .c (ci i)], [encW c1, encW c4], [], g)) (fun _ => True) (by simp) trivial ?_ ?_
  ·intro j hj _
   have hj' : j < (turnP w).runs.length := by omega
   have hy' : j < y.runs.length := by omega
   have hy4 : j < cs4.length := by omega
   have xm := K.g.inv.many
   have A := HXg.runs.each j hj'
   have B := H4.runs.each j hy'
   have zz : zr (turnP w).runs[j] = zr y.runs[j] := by
    have := congrArg (fun l => l[j]?) tz
    simp [hj', hy'] at this
    exact this
   have A2 : RunR g { (turnP w).runs[j] with turns := y.runs[j].turns } { cs1[j] with turns := cs4[j].turns } := ⟨A.id, A.at_, A.slots, A.full, A.mail, A.state, A.due, A.links, A.watched, A.trap, A.why, B.turns⟩
   have e11 := c_lvRun A2 B
   rw [decide_eq_true (zr_same zz)] at e11
   simp only [encR] at e11
   have wj : IntKind.i64.wrap ((j : Int) + 1) = (j : Int) + 1 := wrapS (by omega) (by omega)
   rw [Wp_body]
   simp [xg.lenA, hj, ixA_nat xg, xg.at, ixA_nat S4, hy4, S4.at, encR, e11, wj]
   unfold LexOk; kernel_rfl
  ·intro _
   rw [Wp_body]
   rw [cn1, cn2, cn3] at OG
   simp [xg.lenA, S4.lenA, HXg.runs.len, n4, lz, cn1, cn2, cn3, OG]
   exact (P.ext.trans x).2
end Go.Proofs.YthnmkpocjgnjeaaGreat
