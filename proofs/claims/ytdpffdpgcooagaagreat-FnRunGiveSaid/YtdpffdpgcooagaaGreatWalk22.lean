/-
  What functions of the seat answer, each proved once; each under the condition that cells bear what it is given, as its statement says.
-/
import Derived.Test.YtdpffdpgcooagaaGreatWalk20
import Derived.Test.YtdpffdpgcooagaaGreatWalk21
set_option linter.all false
/-
  A LAW OF PLAYS BEGINS: what is drawn, and what both make of it.
-/
set_option maxRecDepth 8000
namespace Go.Proofs.YtdpffdpgcooagaaGreat
open Go.AM
variable {h k : H} {bs : List Int} {s : Cell}
/-- A play that was drawn, and the world behind it. -/
structure Played (h k1 k3 : H) (sc tc : Cell) (code : List POp) (evs : List PEvent) (c1 : WorldC) (cs1 : List RunC) : Prop where
  oc : OwnL h.length k3 sc 6 encO code
  short : code.length ≤ 20
  oe : OwnL h.length k3 tc 4 encE evs
  few : evs.length ≤ 81
  ext : Ext h k3
  v : WorldV k1.length k3 (playRunP code evs) c1 cs1 cs1
  lc : ∀ id ∈ sc.ids, id < k1.length
  le : ∀ id ∈ tc.ids, id < k1.length
  l1 : h.length ≤ k1.length
theorem played (hS : BytesA h s bs) : ∃ code evs sc tc k1 k2 k3 c1 cs1 c2, Dz.den 15 [.c s] h = some (.t [.c sc, .c tc], k1) ∧
    Dz.den 16 [.c sc, .c tc] k1 = some (.t [.g (encW c1), .c (.bool (tt (PlayRun1 code evs)))], k2) ∧
    Dz.den 17 [.c sc, .c tc] k2 = some (.t [.g (encW c2), .c (.bool (tt (PlayRun1 code evs)))], k3) ∧
    Dz.den 18 [.g (encW c1), .g (encW c2)] k3 = some (.c (.bool true), k3) ∧ Played h k1 k3 sc tc code evs c1 cs1 := by
  obtain ⟨_, e1, k1, sc, tc, code, evs, rfl, D⟩ := c_DrawPlayRun hS
  obtain ⟨_, e2, k2, c1, cs1, rfl, x2, v2⟩ := c_IPlayRun D.oc.sl D.oc.un (by have := D.short; unfold lenMost; omega) D.oe.sl
  obtain ⟨_, e3, k3, c2, cs2, rfl, x3, v3⟩ := c_PlayRun (D.oc.sl.ext x2) D.oc.un (by have := D.short; unfold lenMost; omega) (D.oe.sl.ext x2)
  have v4 := v2.ext x3
  have e4 := c_lvWorld v4.rd v3.rd
  rw [decide_eq_true rfl] at e4
  exact ⟨code, evs, sc, tc, k1, k2, k3, c1, cs1, c2, e1, e2, e3, e4, D.oc.ext (x2.trans x3), D.short, D.oe.ext (x2.trans x3), D.few, D.ext.trans (x2.trans x3), v4, D.oc.sl.ids_lt, D.oe.sl.ids_lt, D.ext.1⟩
/-- What holds of the world behind a play. -/
structure Plays (code : List POp) (evs : List PEvent) (w : PWorld) : Prop where
  safe : CodeSafe code
  few : evs.length ≤ 80
  eq : w = playTo code evs evs.length
  good : Good w
  sent : w.sent ≤ 3000
  code : w.code = code
theorem plays {code : List POp} {evs : List PEvent} (a : PlayRun1 code evs) : Plays code evs (playRunP code evs) := by
  have e : playRunP code evs = playTo code evs evs.length := by unfold playRunP; rw [if_pos a]
  obtain ⟨G, ph⟩ := playTo_good a.1 evs evs.length
  have := sent_phi (playTo code evs evs.length)
  have := a.2
  exact ⟨a.1, a.2, e, by rw [e]; exact G, by rw [e]; omega, by rw [e]; exact playTo_code a.1 evs _⟩
theorem Plays.ok {code : List POp} {evs : List PEvent} {w : PWorld} (P : Plays code evs w) : WorldOk w := P.good.ok (by have := P.sent; omega)
theorem Plays.room {code : List POp} {evs : List PEvent} {w : PWorld} (P : Plays code evs w) : Room w := ⟨P.ok, by have := P.sent; omega⟩
end Go.Proofs.YtdpffdpgcooagaaGreat

/-
  WHAT WorldWaits AND WorldAlive ANSWER, by the program.
-/
set_option maxRecDepth 8000
namespace Go.Proofs.YtdpffdpgcooagaaGreat
open Go.AM
variable {h k : H} {w : PWorld} {c : WorldC} {cs : List RunC}
def aliveIds (rs : List PRun) : List Int := (rs.filter fun r => decide (r.state ≠ 3)).map fun r => r.id
theorem aliveIds_len (rs : List PRun) : (aliveIds rs).length = aliveN rs := by
  unfold aliveIds aliveN
  rw [List.length_map, List.countP_eq_length_filter]
theorem tt_fits (W : WorldOk w) : tt (WorldFits w) = true := by simpa using (fits_iff w).2 W
theorem c_IWorldWaits (hw : WorldR h w c cs) (G : Good w) (hs : w.sent ≤ 9999) : Dz.den 29 [.g (encW c)] h = some (.c (.int .i64 (mailSum w.runs)), h) := by
  refine den_plain rfl Tryz.func29 rfl rfl ?_
  have e1 := c_IWorldOk hw
  have e2 := c_waiting hw
  rw [tt_fits (G.ok hs)] at e1
  simp only [encW] at e1 e2
  simp [Tryz.f29, e1, e2]
  have I := G.inv
  have h1 := mailTo_sum w w.runs.length (Nat.le_refl _)
  rw [List.take_length] at h1
  rw [waitW_eq (fun j hj => (I.each j _ (List.getElem?_eq_getElem hj)).ok.room) _ (Nat.le_refl _) I.many.2]
  exact h1
theorem c_lvPlay (hw : WorldR h w c cs) (G : Good w) (hs : w.sent ≤ 9999) : Dz.den 26 [.g (encW c)] h = some (.c (.bool true), h) := by
  refine den_plain rfl Tryz.func26 rfl rfl ?_
  have e1 := c_IWorldOk hw
  rw [tt_fits (G.ok hs)] at e1
  have nn := G.inv.nn
  have sm := G.inv.sum
  have mn := mailSum_nn w.runs
  have e2 := c_lvSum hw (by omega) (by omega) (by omega)
  rw [decide_eq_true sm] at e2
  simp only [encW] at e1 e2
  simp [Tryz.f26, e1, e2]
def AliveQ (h : H) (w : PWorld) (x : V × H) : Prop := ∃ k s, x = (.c s, k) ∧ Ext h k ∧ OwnL h.length k s 1 encI (aliveIds w.runs)
theorem OwnL.nil {α : Type} {enc : α → List Cell} {es : Nat} (lo : Nat) (k : H) : OwnL lo k .nils es enc ([] : List α) := ⟨⟨by simp, rfl⟩, fun id hid => by simp [Cell.ids] at hid, Un.nils, fun id hid => by simp [Cell.ids] at hid⟩
theorem c_IWorldAlive (hw : WorldR h w c cs) (G : Good w) (hs : w.sent ≤ 9999) : @Wp _ (Dz.den 27 [.g (encW c)] h) ⟨AliveQ h w⟩ := by
  refine den_wp rfl Tryz.func27 rfl ?_
  have e1 := c_IWorldOk hw
  rw [tt_fits (G.ok hs)] at e1
  have hS := hw.runs.sl
  have hlen := hw.runs.len
  have h6 := G.inv.many
  simp only [encW] at e1
  unfold AliveQ
  simp [Tryz.f27, e1, hS.lenA]
  refine count_wpG (σ := H × Cell) cs.length (fun i g => ([.c .nils, .c g.2, .c c.runs, .c (ci cs.length), .c (ci i)], [], [], g.1)) (fun i g => OwnL h.length g.1 g.2 1 encI (aliveIds (w.runs.take i)) ∧ Ext h g.1) (h, .nils) (by simp) ⟨OwnL.nil _ _, Ext.refl _⟩ ?_ ?_
  · rintro i ⟨g, s⟩ hi ⟨o, x⟩
    simp only at o x ⊢
    have hi' : i < w.runs.length := by omega
    have hr := hw.runs.each i hi'
    have S := hS.ext x
    have tk : aliveIds (w.runs.take (i + 1)) = aliveIds (w.runs.take i) ++ if w.runs[i].state = 3 then [] else [w.runs[i].id] := by
      rw [List.take_succ_eq_append_getElem hi']
      unfold aliveIds
      rw [List.filter_append, List.map_append]
      by_cases q : w.runs[i].state = 3 <;> simp [q]
    have wj : IntKind.i64.wrap ((i : Int) + 1) = (i : Int) + 1 := wrapS (by omega) (by omega)
    have hl : (aliveIds (w.runs.take i)).length ≤ 6 := by
      rw [aliveIds_len]
      have := aliveN_le (w.runs.take i)
      simp at this; omega
    obtain ⟨s', g2, e2, o2, c2, _⟩ := o.app2 x.1 w.runs[i].id (by simp [encI]) (by unfold lenMost; omega)
    have x2 : Ext h g2 := ⟨Nat.le_trans x.1 c2.len, fun id hid => by rw [c2.keep id (Nat.lt_of_lt_of_le hid x.1) (fun hh => by have := o.ids id hh; omega), x.2 id hid]⟩
    simp only [encI] at e2
    rw [Wp_body]
    by_cases q : w.runs[i].state = 3
    · rw [if_pos q, List.append_nil] at tk
      simp [hi, ixA_nat S, S.at, hr.state, q, wj, tk]
      exact ⟨g, s, ⟨rfl, rfl⟩, o, x⟩
    · rw [if_neg q] at tk
      simp [hi, ixA_nat S, S.at, hr.state, hr.id, q, wj, tk, e2]
      exact ⟨g2, s', ⟨rfl, rfl⟩, o2, x2⟩
  · rintro ⟨g, s⟩ ⟨o, x⟩
    simp only at o x ⊢
    rw [List.take_of_length_le (by omega)] at o
    rw [Wp_body]
    simp
    exact ⟨g, s, ⟨rfl, rfl⟩, x, o⟩
end Go.Proofs.YtdpffdpgcooagaaGreat

/-
  WORLDS IN PLAIN DATA: who is ended; what is given; the first turn.
-/
set_option maxRecDepth 8000
namespace Go.Proofs.YtdpffdpgcooagaaGreat
variable {w w' : PWorld} {id : Int}
theorem runAt_in (hid : 1 ≤ id ∧ id ≤ w.runs.length) : w.runs[(id - 1).toNat]? = some (runAt w id) := by
  obtain ⟨i, e, hi, er, ei⟩ := runAt_eq hid
  rw [ei, er]; exact List.getElem?_eq_getElem hi
theorem WK.at_ {p : Nat → Prop} {n : Nat} {k : Int} (x : WK p n k w w') (hid : 1 ≤ id ∧ id ≤ w.runs.length) (hp : ¬ p (id - 1).toNat) : RunK (runAt w id) (runAt w' id) := by
  obtain ⟨r', h1, q⟩ := x.each _ _ hp (runAt_in hid)
  rw [runAt_some h1]; exact q
theorem end_ended (hid : 1 ≤ id ∧ id ≤ w.runs.length) (why : PVal) : (runAt (endP w id why).1 id).state = 3 := by
  obtain ⟨i, e, hi, er, ei⟩ := runAt_eq hid
  have b : (endBase w id why).runs[(id - 1).toNat]? = some (unwatch id (clearRun (runAt w id) why)) := by
    unfold endBase; simp only; rw [ei]; simp [hi]
  have l : (endBase w id why).runs.length = w.runs.length := by simp [endBase]
  have x : WK (fun _ => False) 0 0 (endBase w id why) (endP w id why).1 := by
    unfold endP
    exact (endLinks_wk id why _ (endBase w id why, [])).trans0 (tell_wk id _ _)
  obtain ⟨r', h1, q⟩ := x.each _ _ (fun h => h) b
  rw [runAt_some h1]; exact q.ended rfl
theorem fall_ended (hid : 1 ≤ id ∧ id ≤ w.runs.length) (why : PVal) : (runAt (fallP w id why) id).state = 3 := by
  unfold fallP
  rw [show (64 : Nat) = 63 + 1 from rfl, fallN]
  split
  · have x := fallN_wk (id := 0) why 63 (endP w id why).1 ([] ++ (endP w id why).2)
    have l := (endP_wk (id := 0) w id why).len
    exact (x.at_ (id := id) (by omega) (fun h => h)).ended (end_ended hid why)
  · rename_i na
    have e3 : (runAt w id).state = 3 := Classical.byContradiction fun h => na ⟨hid, h⟩
    exact e3
theorem kill_ended (hid : 1 ≤ id ∧ id ≤ w.runs.length) {v : PVal} (hv : valOk v = true) : (runAt (doP w ⟨4, id, v⟩) id).state = 3 := by
  unfold doP
  simp only [hv]
  by_cases a : Alive w id
  · simp [a]; exact fall_ended hid v
  · simp [a]
    exact Classical.byContradiction fun h => a ⟨hid, h⟩
/-- What is given to who ended is lost. -/
theorem give_ended (h3 : (runAt w id).state = 3) {v : PVal} (hv : valOk v = true) : doP w ⟨3, id, v⟩ = { w with sent := w.sent + 1, lost := w.lost + 1 } := by
  unfold doP
  simp only [hv]
  have : ¬ Takes w id := fun t => t.2.1 h3
  simp
  unfold giveP
  rw [if_neg this]
def mailTo5 (m : List PVal) : Nat → List PVal
  | 0 => m
  | i + 1 => if (mailTo5 m i).length < 12 then mailTo5 m i ++ [⟨1, i⟩] else mailTo5 m i
theorem give_mail (hid : 1 ≤ id ∧ id ≤ w.runs.length) (h3 : (runAt w id).state ≠ 3) (v : PVal) : (giveP w id v).sent = w.sent + 1 ∧ (giveP w id v).runs.length = w.runs.length ∧ (runAt (giveP w id v) id).state ≠ 3 ∧
    (runAt (giveP w id v) id).mail = if (runAt w id).mail.length < 12 then (runAt w id).mail ++ [v] else (runAt w id).mail := by
  have hl : (id - 1).toNat < w.runs.length := by omega
  unfold giveP
  by_cases t : Takes w id
  · rw [if_pos t, if_pos t.2.2]
    split
    · rw [runAt_some (w := { w with sent := w.sent + 1, runs := w.runs.set (id - 1).toNat { runAt w id with mail := (runAt w id).mail ++ [v], state := 1 }, queue := w.queue ++ [id] }) (List.getElem?_set_self hl)]
      exact ⟨rfl, by simp, by simp, rfl⟩
    · rw [runAt_some (w := { w with sent := w.sent + 1, runs := w.runs.set (id - 1).toNat { runAt w id with mail := (runAt w id).mail ++ [v] } }) (List.getElem?_set_self hl)]
      exact ⟨rfl, by simp, h3, rfl⟩
  · have l : ¬ (runAt w id).mail.length < 12 := fun l => t ⟨hid, h3, l⟩
    rw [if_neg t, if_neg l]
    exact ⟨rfl, rfl, h3, rfl⟩
def givesTo (w : PWorld) (id : Int) : Nat → PWorld
  | 0 => w
  | i + 1 => doP (givesTo w id i) ⟨3, id, ⟨1, i⟩⟩
theorem gives (G : Good w) (hid : 1 ≤ id ∧ id ≤ w.runs.length) (h3 : (runAt w id).state ≠ 3) : ∀ i, i ≤ 5 → Good (givesTo w id i) ∧ (givesTo w id i).sent = w.sent + i ∧ (givesTo w id i).runs.length = w.runs.length ∧ (runAt (givesTo w id i) id).state ≠ 3 ∧
    (runAt (givesTo w id i) id).mail = mailTo5 (runAt w id).mail i
  | 0, _ => ⟨G, by simp [givesTo], rfl, h3, rfl⟩
  | i + 1, h => by
    obtain ⟨a, b, c, d, e⟩ := gives G hid h3 i (by omega)
    have hv : valOk ⟨1, (i : Int)⟩ = true := by unfold valOk; simp; omega
    have eq : givesTo w id (i + 1) = giveP (givesTo w id i) id ⟨1, i⟩ := by
      rw [givesTo]; unfold doP; simp [hv]
    obtain ⟨m1, m2, m3, m4⟩ := give_mail (w := givesTo w id i) (by omega) d ⟨1, i⟩
    rw [eq]
    refine ⟨(a.giveG id hv).g, by rw [m1, b]; omega, by rw [m2, c], m3, ?_⟩
    rw [m4, e, mailTo5]
/-- The first turn. -/
theorem firstTurn {code : List POp} (S : CodeSafe code) : let x := turnP (newP code)
    Good x ∧ x.sent ≤ 3000 ∧ 1 ≤ x.runs.length ∧ x.runs.length ≤ 4 ∧ (∀ r, x.runs[0]? = some r → r.turns = 1) ∧ ∀ (j : Nat) r, 1 ≤ j → x.runs[j]? = some r → r.turns = 0 ∧ r.slots = [⟨3, 1⟩, ⟨0, 0⟩, ⟨0, 0⟩, ⟨0, 0⟩] := by
  have G := newP_good S
  have hq : (newP code).queue ≠ [] := by simp [newP]
  have K := G.turnG
  obtain ⟨hl, x⟩ := turn_wk G.inv hq
  have hh : headQ (newP code) = 1 := rfl
  rw [hh] at x hl
  have l1 : (countP' (newP code) 1).runs.length = 1 := by simp [countP', setRun, newP]
  have ph : phi (newP code) = 12 := by simp [newP, phi, aliveN, newRun]
  have sp := sent_phi (turnP (newP code))
  have kp := K.k.phi
  refine ⟨K.g, by omega, by have := x.len; omega, by have := x.len2; omega, fun r hr => ?_, fun j r hj hr => ?_⟩
  · have h0 : (countP' (newP code) 1).runs[0]? = some { newRun 1 0 ⟨3, 1⟩ with turns := 1 } := by simp [countP', setRun, newP, runAt, newRun]; rfl
    obtain ⟨r', h1, q⟩ := x.turns 0 _ h0
    rw [hr] at h1; cases h1
    exact q
  · obtain ⟨k, to, q⟩ := x.new j r (by omega) hr
    exact ⟨q.turns, q.slots⟩
theorem sub_fin : ∀ a b : Fin 16, both a.val b.val = a.val → ∀ s : Fin 4, has a.val s.val = true → has b.val s.val = true := by decide +kernel
theorem both_sub {a b s : Int} (ha : 0 ≤ a) (ha' : a ≤ 15) (hb : 0 ≤ b) (hb' : b ≤ 15) (hs : 0 ≤ s) (hs' : s ≤ 3) (h : both a b = a) (u : has a s = true) : has b s = true := by
  have := sub_fin ⟨a.toNat, by omega⟩ ⟨b.toNat, by omega⟩
  simp only [Int.toNat_of_nonneg ha, Int.toNat_of_nonneg hb] at this
  have := this h ⟨s.toNat, by omega⟩
  simp only [Int.toNat_of_nonneg hs] at this
  exact this u
theorem codeOk_ops {code : List POp} (h : codeOk code = true) : ∀ o ∈ code, opOk o = true := by
  simp only [codeOk, Bool.and_eq_true, List.all_eq_true] at h
  exact fun o ho => (h.2 o ho).1
/-- What a run's step reads is full. -/
theorem run_uses {code : List POp} {now : Int} {n i m : Nat} {r : PRun} (S : CodeSafe code) (R : RunI code now n i r) (h3 : r.state ≠ 3) (hm : r.at_ = m) (ml : m < code.length) : ∀ u ∈ uses code[m], has r.full u = true := by
  have hops := codeOk_ops S.ok
  obtain ⟨f0, f1⟩ := R.full h3
  obtain ⟨bk, bl, _⟩ := fullR_props hops
  rw [hm, Int.toNat_natCast] at f0 f1
  have s := (S.safe m ml f0).1
  have b15 : (fullR code)[m]?.getD 0 ≤ 15 := by
    rw [List.getElem?_eq_getElem (by omega), Option.getD_some]
    exact (bk _ (List.getElem_mem _)).2
  intro u hu
  obtain ⟨u0, u3⟩ := uses_range (hops _ (List.getElem_mem ml)) u hu
  exact both_sub f0 b15 R.ok.full.1 R.ok.full.2 u0 u3 f1 (s u hu)
end Go.Proofs.YtdpffdpgcooagaaGreat
