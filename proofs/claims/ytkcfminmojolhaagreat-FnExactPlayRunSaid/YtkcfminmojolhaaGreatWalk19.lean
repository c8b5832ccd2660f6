/-
  What functions of the seat answer, each proved once; each under the condition that cells bear what it is given, as its statement says.
-/
import Derived.Test.YtkcfminmojolhaaGreatWalk18
import Derived.Test.YtkcfminmojolhaaGreatWalk7
import Derived.Test.YtkcfminmojolhaaGreatWalk9
import Derived.Test.YtkcfminmojolhaaGreatWalk12
set_option linter.all false
/-
  THE PROGRAM's TurnStep, TurnDo, PlayDo, PlayTurns: what they answer.
-/
set_option maxRecDepth 8000
namespace Go.Proofs.YtkcfminmojolhaaGreat
open Go.AM
variable {h h' : H} {lo p : Nat} {w : PWorld} {c : WorldC} {st cs : List RunC}
/-- A world of one's own in a block of its own. -/
theorem WorldV.inBlock {h1 : H} (v : WorldV h.length h1 w c cs cs) (x : Ext h h1) : WorldP h.length (h1.push ⟨false, 7, [encW c]⟩) h1.length w c cs :=
  ⟨v.ext (Ext.push _ _), get_push_self, fun ho => by have := v.own.owned_lt _ ho; omega, x.1⟩
theorem StepP.fromBlock {h1 k : H} {q q' : Key → Cell} {b : Blk} (s : StepP (h1.push b) h1.length q k q') (x : Ext h h1) (ho : ∀ id, Owned q id → h.length ≤ id) : Ext h k :=
  s.ext ho x.1 (x.trans (Ext.push _ _)) (Nat.le_refl _)
set_option maxRecDepth 16000 in
theorem c_ITurnStep (hV : WorldV lo h w c cs cs) : @Wp _ (Dz.den 38 [.g (encW c)] h) ⟨CopyWQ h (turnStepP w)⟩ := by
  refine den_wp rfl Tryz.func38 rfl ?_
  have e := c_turnOk hV.rd
  simp only [encW] at e
  unfold turnStepP
  by_cases a : Room w
  · have a' : tt (Room w) = true := by simpa using a
    rw [a'] at e ⊢
    obtain ⟨G, hs⟩ := a.good
    obtain ⟨_, e1, h1, c1, cs1, rfl, x1, v1⟩ := c_IWCopied hV a.1.le
    have P1 := v1.inBlock x1
    have hgp := P1.at_
    have hQ := P1.v.queue
    simp only [encW] at e1
    by_cases hq : w.queue = []
    · have el := fun e => hQ.lenA (e := e)
      rw [hq] at el
      simp only [List.length_nil] at el
      rw [if_pos rfl, if_pos hq]
      simp [Tryz.f38, e, e1, at_blk hgp, el]
      exact ⟨_, c1, cs1, rfl, x1.trans (Ext.push _ _), P1.v⟩
    · obtain ⟨hid, hg⟩ := G.inv.head hq
      obtain ⟨i, T⟩ := G.inv.turn hid hg
      have hln : (0 : Int) < w.queue.length := by cases hh : w.queue with | nil => exact absurd hh hq | cons a t => simp
      have hln2 : 0 < w.queue.length := by omega
      obtain ⟨_, e2, h2, c2, cs2, rfl, P2, s2⟩ := c_step P1 G.inv (by omega) hq T
      have hgp2 := P2.at_
      simp only [encW] at e2
      rw [if_pos rfl, if_neg hq]
      simp [Tryz.f38, e, e1, at_blk hgp, hQ.lenA, hln, hln2, e2, at_blk hgp2]
      exact ⟨h2, c2, cs2, rfl, s2.fromBlock x1 (fun id ho => P1.v.own.owned_ge id ho), P2.v⟩
  · have a' : tt (Room w) = false := by simpa using a
    rw [a'] at e ⊢
    simp [Tryz.f38, e]
    exact ⟨h, _, _, rfl, Ext.refl _, emptyV h⟩
set_option maxRecDepth 16000 in
theorem c_ITurnDo (hV : WorldV lo h w c cs cs) : @Wp _ (Dz.den 40 [.g (encW c)] h) ⟨CopyWQ h (turnDoP w)⟩ := by
  refine den_wp rfl Tryz.func40 rfl ?_
  have e := c_turnOk hV.rd
  simp only [encW] at e
  unfold turnDoP
  by_cases a : Room w
  · have a' : tt (Room w) = true := by simpa using a
    rw [a'] at e ⊢
    obtain ⟨G, hs⟩ := a.good
    obtain ⟨_, e1, h1, c1, cs1, rfl, x1, v1⟩ := c_IWCopied hV a.1.le
    have P1 := v1.inBlock x1
    obtain ⟨_, e2, h2, c2, cs2, rfl, P2, s2⟩ := c_turn P1 G (by omega)
    have hgp2 := P2.at_
    simp only [encW] at e1 e2
    simp [Tryz.f40, e, e1, e2, at_blk hgp2]
    exact ⟨h2, c2, cs2, rfl, s2.fromBlock x1 (fun id ho => P1.v.own.owned_ge id ho), P2.v⟩
  · have a' : tt (Room w) = false := by simpa using a
    rw [a'] at e ⊢
    simp [Tryz.f40, e]
    exact ⟨h, _, _, rfl, Ext.refl _, emptyV h⟩
set_option maxRecDepth 16000 in
theorem c_IPlayDo (hV : WorldV lo h w c cs cs) (ev : PEvent) : @Wp _ (Dz.den 26 [.g (encW c), .g (encE ev)] h) ⟨CopyWQ h (playDoP w ev)⟩ := by
  refine den_wp rfl Tryz.func26 rfl ?_
  have e := c_turnOk hV.rd
  simp only [encW] at e
  unfold playDoP
  by_cases a : Room w
  · have a' : tt (Room w) = true := by simpa using a
    rw [a'] at e ⊢
    obtain ⟨G, hs⟩ := a.good
    obtain ⟨_, e1, h1, c1, cs1, rfl, x1, v1⟩ := c_IWCopied hV a.1.le
    have P1 := v1.inBlock x1
    have hgp := P1.at_
    have x2 : Ext h (h1.push ⟨false, 7, [encW c1]⟩) := x1.trans (Ext.push _ _)
    have own := fun id ho => P1.v.own.owned_ge id ho
    simp only [encW] at e1
    rw [if_pos rfl]
    unfold doP
    by_cases k1 : ev.kind = 1
    · obtain ⟨_, e2, h2, c2, cs2, rfl, x3, v3⟩ := c_ITurnDo P1.v
      have et : turnDoP w = turnP w := by unfold turnDoP; rw [a']; rfl
      rw [et] at v3
      simp only [encW] at e2
      rw [if_pos k1]
      simp [Tryz.f26, e, e1, k1, at_blk hgp, e2]
      exact ⟨h2, c2, cs2, rfl, x2.trans x3, ⟨v3.code, v3.runs, v3.stl, v3.len, v3.each, v3.queue, v3.now, v3.sent, v3.taken, v3.lost, ⟨fun k id hid => Nat.le_trans x2.1 (v3.own.ge k id hid), v3.own.wr, v3.own.one, v3.own.un⟩, Nat.le_trans x2.1 v3.lo_le⟩⟩
    rw [if_neg k1]
    by_cases k2 : ev.kind = 2
    · obtain ⟨_, e2, h2, c2, cs2, rfl, x3, v3⟩ := c_ITurnTick P1.v
      have et : turnTickP w = tickP w := by unfold turnTickP; rw [a']; rfl
      rw [et] at v3
      simp only [encW] at e2
      rw [if_pos k2]
      simp [Tryz.f26, e, e1, k2, at_blk hgp, e2]
      exact ⟨h2, c2, cs2, rfl, x2.trans x3, ⟨v3.code, v3.runs, v3.stl, v3.len, v3.each, v3.queue, v3.now, v3.sent, v3.taken, v3.lost, ⟨fun k id hid => Nat.le_trans x2.1 (v3.own.ge k id hid), v3.own.wr, v3.own.one, v3.own.un⟩, Nat.le_trans x2.1 v3.lo_le⟩⟩
    rw [if_neg k2]
    by_cases k3 : ev.kind = 3
    · rw [if_pos k3]
      by_cases hv : valOk ev.v = true
      · obtain ⟨_, e2, h2, c2, cs2, rfl, P2, s2, _⟩ := c_give P1 (G.inv.saneI (by omega)) ev.a ev.v hv
        have hv' : valOk ⟨ev.v.k, ev.v.n⟩ = true := hv
        have hgp2 := P2.at_
        simp only [encW, encV] at e2
        rw [if_pos hv]
        simp [Tryz.f26, e, e1, k3, at_blk hgp, hv', e2, at_blk hgp2]
        exact ⟨h2, c2, cs2, rfl, s2.fromBlock x1 own, P2.v⟩
      · have hv' : valOk ⟨ev.v.k, ev.v.n⟩ = false := by simpa using hv
        rw [if_neg hv]
        simp [Tryz.f26, e, e1, k3, at_blk hgp, hv']
        exact ⟨_, c1, cs1, rfl, x2, P1.v⟩
    rw [if_neg k3]
    by_cases k4 : ev.kind = 4
    · rw [if_pos k4]
      by_cases hv : valOk ev.v = true
      · obtain ⟨_, e2, h2, c2, cs2, rfl, P2, s2, _⟩ := c_fall P1 G.inv (by omega) ev.a (why := ev.v) hv
        have hv' : valOk ⟨ev.v.k, ev.v.n⟩ = true := hv
        have hgp2 := P2.at_
        simp only [encW, encV] at e2
        have eF : (if valOk ev.v = true ∧ Alive w ev.a then fallP w ev.a ev.v else w) = fallP w ev.a ev.v := by
          by_cases al : Alive w ev.a
          · rw [if_pos ⟨hv, al⟩]
          · rw [if_neg (fun hh => al hh.2)]
            unfold fallP fallN
            rw [if_neg al]
            rfl
        rw [eF]
        simp [Tryz.f26, e, e1, k4, at_blk hgp, hv', e2, at_blk hgp2]
        exact ⟨h2, c2, cs2, rfl, s2.fromBlock x1 own, P2.v⟩
      · have hv' : valOk ⟨ev.v.k, ev.v.n⟩ = false := by simpa using hv
        rw [if_neg (fun hh => hv hh.1)]
        simp [Tryz.f26, e, e1, k4, at_blk hgp, hv']
        exact ⟨_, c1, cs1, rfl, x2, P1.v⟩
    rw [if_neg k4]
    simp [Tryz.f26, e, e1, k1, k2, k3, k4, at_blk hgp]
    exact ⟨_, c1, cs1, rfl, x2, P1.v⟩
  · have a' : tt (Room w) = false := by simpa using a
    rw [a'] at e ⊢
    simp [Tryz.f26, e]
    exact ⟨h, _, _, rfl, Ext.refl _, emptyV h⟩
set_option maxRecDepth 16000 in
theorem c_IPlayTurns (hV : WorldV lo h w c cs cs) (n : Int) : @Wp _ (Dz.den 42 [.g (encW c), .c (.int .i64 n)] h) ⟨CopyWQ h (playTurnsP w n)⟩ := by
  refine den_wp rfl Tryz.func42 rfl ?_
  have e := c_turnOk hV.rd
  simp only [encW] at e
  unfold playTurnsP
  by_cases a : Room w
  · have a' : tt (Room w) = true := by simpa using a
    rw [a'] at e
    by_cases b : 0 ≤ n ∧ n ≤ 80
    · have ab : tt (Room w ∧ 0 ≤ n ∧ n ≤ 80) = true := by simp [a, b]
      rw [if_pos ab]
      obtain ⟨G, hs⟩ := a.good
      obtain ⟨_, e1, h1, c1, cs1, rfl, x1, v1⟩ := c_IWCopied hV a.1.le
      have P1 := v1.inBlock x1
      obtain ⟨m, rfl⟩ : ∃ m : Nat, n = m := ⟨n.toNat, by omega⟩
      simp only [encW] at e1
      simp [Tryz.f42, e, b, e1]
      refine count_wpG (σ := H × WorldC × List RunC) m (fun i g => ([.c (.ptr h1.length 0 0), .c (.int .i64 m), .c (ci i)], [zeroW], [], g.1))
        (fun i g => WorldP h.length g.1 h1.length (turnsP i w) g.2.1 g.2.2 ∧ Ext h g.1) ((h1.push ⟨false, 7, [encW c1]⟩), c1, cs1) ?_ ⟨P1, x1.trans (Ext.push _ _)⟩ ?_ ?_
      · simp [zeroW]
      · rintro i ⟨k, c2, cs2⟩ hi ⟨P, x⟩
        simp only at P x ⊢
        obtain ⟨G2, ph⟩ := turnsP_good G i
        have hp0 := phi_sent G.inv
        have hs2 : (turnsP i w).sent ≤ 100000000 := by have := sent_phi (turnsP i w); omega
        obtain ⟨_, e2, k2, c3, cs3, rfl, P2, s2⟩ := c_turn P G2 hs2
        have wj : IntKind.i64.wrap ((i : Int) + 1) = (i : Int) + 1 := wrapS (by omega) (by omega)
        rw [Wp_body]
        simp [hi, e2, wj]
        exact ⟨⟨c3, cs3, P2⟩, s2.ext (fun id ho => P.v.own.owned_ge id ho) P.ge x (Nat.le_refl _)⟩
      · rintro ⟨k, c2, cs2⟩ ⟨P, x⟩
        simp only at P x ⊢
        have hgp := P.at_
        rw [Wp_body]
        simp [zeroW, at_blk hgp]
        exact ⟨k, c2, cs2, rfl, x, P.v⟩
    · have ab : ¬ tt (Room w ∧ 0 ≤ n ∧ n ≤ 80) = true := by simp [a]; omega
      rw [if_neg ab]
      simp [Tryz.f42, e, b]
      exact ⟨h, _, _, rfl, Ext.refl _, emptyV h⟩
  · have a' : tt (Room w) = false := by simpa using a
    have ab : ¬ tt (Room w ∧ 0 ≤ n ∧ n ≤ 80) = true := by simp [a]
    rw [a'] at e
    rw [if_neg ab]
    simp [Tryz.f42, e]
    exact ⟨h, _, _, rfl, Ext.refl _, emptyV h⟩
end Go.Proofs.YtkcfminmojolhaaGreat

/-
  THE LAWS' FUNCTIONS OVER WHAT HAPPENS: what they answer.
-/
set_option maxRecDepth 8000
namespace Go.Proofs.YtkcfminmojolhaaGreat
open Go.AM
variable {h : H} {s t : Cell}
theorem c_szEventS {xs : List PEvent} (hS : SlA h s 4 encE xs) (left : Int) (h0 : 0 ≤ left) (h1 : left ≤ 1048576) : Dz.den 28 [.c s, .c (.int .i64 left)] h = some (.c (.int .i64 (leftI xs.length left)), h) := by
  refine den_plain rfl Tryz.func28 rfl rfl ?_
  have := hS.len
  simp [sMost] at this
  have w : IntKind.i64.wrap (left - xs.length) = left - xs.length := wrap_i64 (by omega) (by omega)
  by_cases hn : left < xs.length
  · have : left - (xs.length : Int) < 0 := by omega
    simp [Tryz.f28, hS.lenA, w, leftI, this]
  · have : ¬ left - (xs.length : Int) < 0 := by omega
    simp [Tryz.f28, hS.lenA, w, leftI, this]
theorem c_toEvent (e : PEvent) : Dz.den 25 [.g (encE e)] h = some (.g (encE e), h) := by
  refine den_plain rfl Tryz.func25 rfl (by simp [V.plain, V.plain1]) ?_
  simp [Tryz.f25]
theorem c_toEventS {xs : List PEvent} (hS : SlA h s 4 encE xs) (hl : xs.length ≤ 1048576) : Dz.den 31 [.c s] h = some (.c (.sl h.length 0 xs.length none), h.push ⟨false, 4, xs.map encE⟩) := by
  rw [← Wp_eq]
  refine den_wp rfl Tryz.func31 rfl ?_
  have hl2 : (xs.length : Int) ≤ 4294967296 := by omega
  simp [Tryz.f31, hS.lenA, hl2]
  refine count_wp xs.length (fun i => ([.c s, .c .nils, .c (.sl h.length 0 xs.length none), .c (ci i)], [], [], h.push ⟨false, 4, fillTo encE [.int .i64 0, .int .i64 0, .int .i64 0, .int .i64 0] xs i⟩)) (fun i => True) (by simp [fillTo_zero]) trivial ?_ ?_
  · intro i hi _
    have hS' := hS.push ⟨false, 4, fillTo encE [.int .i64 0, .int .i64 0, .int .i64 0, .int .i64 0] xs i⟩
    have hW := write_fill (h := h.push ⟨false, 4, fillTo encE [.int .i64 0, .int .i64 0, .int .i64 0, .int .i64 0] xs i⟩) get_push_self hi rfl
    have e := c_toEvent (h := h.push ⟨false, 4, fillTo encE [.int .i64 0, .int .i64 0, .int .i64 0, .int .i64 0] xs i⟩) xs[i]
    rw [set_push] at hW
    simp only [encE] at hW e
    rw [Wp_body]
    simp [hS'.lenA, hi, ixA_natA hS', hS'.at, hW, wrap_succ (hS.lt hi), e]
  · intro _
    have hS' := hS.push ⟨false, 4, fillTo encE [.int .i64 0, .int .i64 0, .int .i64 0, .int .i64 0] xs xs.length⟩
    rw [Wp_body]
    simp [hS'.lenA, fillTo_len]
theorem c_eqEvent (a b : PEvent) : Dz.den 86 [.g (encE a), .g (encE b)] h = some (.c (.bool (decide (a = b))), h) := by
  refine den_plain rfl Tryz.func86 rfl (by simp [V.plain, V.plain1]) ?_
  obtain ⟨a1, a2, a3, a4⟩ := a
  obtain ⟨b1, b2, b3, b4⟩ := b
  simp [Tryz.f86]
  grind
theorem c_eqEventS {xs ys : List PEvent} (hS : Sl h s 4 encE xs) (hT : Sl h t 4 encE ys) : Dz.den 34 [.c s, .c t] h = some (.c (.bool (decide (xs = ys))), h) := by
  refine den_plain rfl Tryz.func34 rfl rfl ?_
  by_cases hl : xs.length = ys.length
  rotate_left
  · have hl' : ¬ ((xs.length : Int) = ys.length) := by omega
    have hne : ¬ xs = ys := fun e => hl (by rw [e])
    simp [Tryz.f34, hS.lenA, hT.lenA, hl', hne]
  simp [Tryz.f34, hS.lenA, hT.lenA, hl]
  refine count_wp ys.length (fun i => ([.c s, .c t, .c (.bool false), .c (ci i)], [], [], h)) (fun i => xs.take i = ys.take i) rfl (by simp) ?_ ?_
  · intro i hi hP
    have hi' : i < xs.length := by omega
    have e := c_eqEvent (h := h) xs[i] ys[i]
    simp only [encE] at e
    rw [Wp_body]
    simp [hS.lenA, hi, hi', ixA_nat hS, hS.at, ixA_nat hT, hT.at, wrap_succ (hS.lt hi'), eq_take_succ hi' hi, hP, hl, e]
    exact ⟨by unfold LexOk; kernel_rfl, fun e => ne_of_get hi' hi e⟩
  · intro hP
    rw [← hl, List.take_length] at hP
    rw [Wp_body]
    simp [hS.lenA, hl]
    rw [hP, hl, List.take_length]
set_option maxRecDepth 8000
theorem c_markEventS {xs : List PEvent} (hS : Sl h s 4 encE xs) (hw : Wr h s) {n : Int} (h0 : 0 ≤ n) (hn : n + 4 * xs.length ≤ markMost) :
    @Wp _ (Dz.den 36 [.c s, .c (.int .i64 n)] h) ⟨MarkQ encE 4 h s xs.length (n + 4 * xs.length) (fun _ => True)⟩ := by
  refine den_wp rfl Tryz.func36 rfl ?_
  unfold markMost at hn
  simp [Tryz.f36]
  refine count_wpG (σ := H × List PEvent) xs.length (fun i g => ([.c s, .c (ci (n + 4 * i)), .c (ci 0), .c (ci i)], [], [], g.1))
    (fun i g => Sl g.1 s 4 encE g.2 ∧ Wr g.1 s ∧ g.2.length = xs.length ∧ Chg h (fun id => id ∈ s.ids) g.1)
    (h, xs) (by simp) ⟨hS, hw, rfl, Chg.refl _ _⟩ ?_ ?_
  · rintro i ⟨k, zs⟩ hi ⟨q1, q2, q3, q4⟩
    simp only at q1 q2 q3 q4 ⊢
    have hi' : i < zs.length := by omega
    generalize hz : zs[i] = z
    obtain ⟨k1, e1, s1, w1, l1, c1⟩ := q1.write q2 (i := i) hi' (j := 0) (cs := [.int .i64 (n + 4 * i)]) (x := ⟨n + 4 * i, z.a, ⟨z.v.k, z.v.n⟩⟩) (by simp [splice, hz]) (by simp)
    obtain ⟨k2, e2, s2, w2, l2, c2⟩ := s1.write w1 (i := i) (by simpa using hi') (j := 1) (cs := [.int .i64 (n + 4 * i + 1)]) (x := ⟨n + 4 * i, n + 4 * i + 1, ⟨z.v.k, z.v.n⟩⟩) (by simp [splice, hz]) (by simp)
    simp only [List.set_set] at s2
    obtain ⟨k3, e3, s3, w3, l3, c3⟩ := s2.write w2 (i := i) (by simpa using hi') (j := 2) (cs := [.int .i64 (n + 4 * i + 2)]) (x := ⟨n + 4 * i, n + 4 * i + 1, ⟨n + 4 * i + 2, z.v.n⟩⟩) (by simp [splice, hz]) (by simp)
    simp only [List.set_set] at s3
    obtain ⟨k4, e4, s4, w4, l4, c4⟩ := s3.write w3 (i := i) (by simpa using hi') (j := 3) (cs := [.int .i64 (n + 4 * i + 3)]) (x := ⟨n + 4 * i, n + 4 * i + 1, ⟨n + 4 * i + 2, n + 4 * i + 3⟩⟩) (by simp [splice, hz]) (by simp)
    simp only [List.set_set] at s4
    have u1 : IntKind.i64.wrap (n + 4 * i + 1) = n + 4 * i + 1 := (wrap_i64 (by omega) (by omega)).trans (by omega)
    have u2 : IntKind.i64.wrap (n + 4 * i + 1 + 1) = n + 4 * i + 2 := (wrap_i64 (by omega) (by omega)).trans (by omega)
    have u3 : IntKind.i64.wrap (n + 4 * i + 2 + 1) = n + 4 * i + 3 := (wrap_i64 (by omega) (by omega)).trans (by omega)
    have u4 : IntKind.i64.wrap (n + 4 * i + 3 + 1) = n + 4 * ((i + 1 : Nat) : Int) := (wrap_i64 (by omega) (by omega)).trans (by omega)
    rw [Wp_body]
    simp [q1.lenA, q3, hi, hi', ixA_nat q1, ixA_nat s1, ixA_nat s2, ixA_nat s3, ixA_nat s4, e1, e2, e3, e4, u1, u2, u3, u4, wrap_succ (q1.lt hi')]
    refine ⟨zs.set i (⟨n + 4 * i, n + 4 * i + 1, ⟨n + 4 * i + 2, n + 4 * i + 3⟩⟩), s4, w4, by simp [q3], ?_⟩
    exact q4.trans (c1.trans (c2.trans (c3.trans c4 fun _ _ h => h) fun _ _ h => h) fun _ _ h => h) fun _ _ h => h
  · rintro ⟨k, zs⟩ ⟨q1, q2, q3, q4⟩
    simp only at q1 q2 q3 q4 ⊢
    rw [Wp_body]
    simp [q1.lenA, q3]
    exact ⟨k, zs, rfl, q1, q2, q3, q4, trivial⟩
end Go.Proofs.YtkcfminmojolhaaGreat

/-
  WORLDS BEHIND STEPS ARE SMALL.
-/
set_option maxRecDepth 8000
namespace Go.Proofs.YtkcfminmojolhaaGreat
open Go.AM
variable {h : H}
theorem Good.bd {w : PWorld} (G : Good w) : Bd w := by
  have I := G.inv
  have h1 := I.clen
  have h2 := I.many
  have h3 := I.qlen
  refine ⟨by omega, by omega, by omega, fun r hr => ?_⟩
  obtain ⟨i, hi, rfl⟩ := List.getElem_of_mem hr
  have R := (I.each i _ (List.getElem?_eq_getElem hi)).ok
  have l1 := R.len
  have l2 := R.room
  have l3 := R.links.len
  have l4 := R.watched.len
  exact ⟨by omega, by omega, by omega, by omega⟩
theorem emptyW_bd : Bd emptyW := ⟨by simp [emptyW], by simp [emptyW], by simp [emptyW], by simp [emptyW]⟩
theorem turnStep_bd {w : PWorld} : Bd (turnStepP w) := by
  unfold turnStepP
  split
  · rename_i a
    obtain ⟨G, _⟩ := (tt_true.1 a).good
    split
    · exact G.bd
    · rename_i hq
      obtain ⟨hid, hg⟩ := G.inv.head hq
      exact (G.stepG hid hg).g.bd
  · exact emptyW_bd
theorem turnDo_bd {w : PWorld} : Bd (turnDoP w) := by
  unfold turnDoP
  split
  · rename_i a
    obtain ⟨G, _⟩ := (tt_true.1 a).good
    exact G.turnG.g.bd
  · exact emptyW_bd
theorem playDo_bd {w : PWorld} {e : PEvent} : Bd (playDoP w e) := by
  unfold playDoP
  split
  · rename_i a
    obtain ⟨G, _⟩ := (tt_true.1 a).good
    exact (G.doG e).1.bd
  · exact emptyW_bd
theorem playTurns_bd {w : PWorld} {n : Int} : Bd (playTurnsP w n) := by
  unfold playTurnsP
  split
  · rename_i a
    obtain ⟨G, _⟩ := (tt_true.1 a).1.good
    exact (turnsP_good G _).1.bd
  · exact emptyW_bd
end Go.Proofs.YtkcfminmojolhaaGreat

/-
  WORLDS IN PLAIN DATA: a new world is a good one; what comes of things that happen.
-/
set_option maxRecDepth 8000
namespace Go.Proofs.YtkcfminmojolhaaGreat
open Go.AM
variable {w : PWorld}
theorem both_01 {a : Int} (h : a = 0 ∨ a = 1) (b : Int) : both a b = 0 ∨ both a b = 1 := by
  have z : ∀ i : Int, 0 ≤ i → i ≤ 3 → has 0 i = false := by
    intro i h0 h1
    obtain rfl | rfl | rfl | rfl : i = 0 ∨ i = 1 ∨ i = 2 ∨ i = 3 := by omega
    all_goals decide
  have o : ∀ i : Int, 1 ≤ i → i ≤ 3 → has 1 i = false := by
    intro i h0 h1
    obtain rfl | rfl | rfl : i = 1 ∨ i = 2 ∨ i = 3 := by omega
    all_goals decide
  rcases h with rfl | rfl
  · left
    simp [both, bothTo, z]
  · by_cases hb : has b 0 = true
    · right
      have : has 1 0 = true := by decide
      simp [both, bothTo, o, hb, this]
    · left
      simp [both, bothTo, o, hb]
/-- At the first step nothing is full but the first slot, if anything. -/
def Z01 (f : List Int) : Prop := f[0]?.getD 0 = 0 ∨ f[0]?.getD 0 = 1
theorem mergeF_Z {f : List Int} (h : Z01 f) (n : Nat) (b : Int) : Z01 (mergeF f n b) := by
  unfold Z01 mergeF
  rw [List.getElem?_set]
  split
  · rename_i e; subst e
    split
    · exact both_01 h b
    · exact .inl rfl
  · exact h
theorem goF_Z {f : List Int} (h : Z01 f) (o : POp) (x : Int) : Z01 (goF o f x) := by
  unfold goF
  split
  · exact mergeF_Z h _ _
  · exact h
theorem fromF_Z {f : List Int} (h : Z01 f) (o : POp) (i : Nat) : Z01 (fromF o f i) := by
  simp only [fromF]
  split
  · exact goF_Z h _ _
  · exact mergeF_Z (goF_Z h _ _) _ _
theorem passTo_Z {code : List POp} {f : List Int} (h : Z01 f) : ∀ i, Z01 (passTo code f i)
  | 0 => h
  | i + 1 => by
    simp only [passTo]
    split
    · exact fromF_Z (passTo_Z h i) _ _
    · exact passTo_Z h i
theorem fullF_Z {code : List POp} : ∀ (n : Nat) (f : List Int), wts f < n → Z01 f → Z01 (fullF code f) := by
  intro n
  induction n with
  | zero => intro f h; omega
  | succ n ih =>
    intro f hn hz
    by_cases h : wts (pass code f) < wts f
    · rw [fullF_step h]; exact ih _ (by omega) (passTo_Z hz _)
    · rw [fullF, if_neg h]; exact hz
theorem fullR_Z {code : List POp} : Z01 (fullR code) := by
  refine fullF_Z _ _ (Nat.lt_succ_self _) ?_
  unfold Z01 full0
  rw [List.getElem?_set]
  split
  · split
    · exact .inr rfl
    · exact .inl rfl
  · rename_i h; exact absurd rfl h
theorem newP_good {code : List POp} (S : CodeSafe code) : Good (newP code) := by
  have hl := (codeOk_len S.ok).1
  have hz : 0 ≤ (fullR code)[(0 : Int).toNat]?.getD 0 ∧ both ((fullR code)[(0 : Int).toNat]?.getD 0) 1 = (fullR code)[(0 : Int).toNat]?.getD 0 := by
    have := fullR_Z (code := code)
    unfold Z01 at this
    simp only [Int.toNat_zero]
    rcases this with h | h <;> rw [h] <;> decide
  have R : ∀ m, RunI code 0 m 0 (newRun 1 0 ⟨3, 1⟩) := fun m => by
    have := newRun_ok S (now := 0) (n := 0) (by omega) (to := 0) (by omega) (id := 1) (by omega) hz (m := m)
    simpa using this
  refine ⟨⟨S, by simp [newP], by simp [newP], by simp [newP], by simp [newP], fun q => ?_, fun i r hr => ?_, by simp [newP, mailSum, newRun]⟩, fun a b ha hb => ?_, fun a ha k hk => ?_⟩
  · simp only [newP, List.mem_singleton]
    constructor
    · rintro rfl
      exact ⟨0, rfl, _, rfl, rfl⟩
    · rintro ⟨i, rfl, r, hr, _⟩
      cases i with
      | zero => rfl
      | succ i => simp at hr
  · cases i with
    | zero => simp [newP] at hr; subst hr; exact R _
    | succ i => simp [newP] at hr
  · have e1 : a = 1 := by simp [newP] at ha; omega
    have e2 : b = 1 := by simp [newP] at hb; omega
    subst e1; subst e2; exact Iff.rfl
  · have e1 : a = 1 := by simp [newP] at ha; omega
    subst e1
    simp [newP, runAt, newRun] at hk
def playTo (code : List POp) (evs : List PEvent) : Nat → PWorld
  | 0 => newP code
  | i + 1 => doP (playTo code evs i) (evs[i]?.getD default)
theorem playTo_good {code : List POp} (S : CodeSafe code) (evs : List PEvent) : ∀ i, Good (playTo code evs i) ∧ phi (playTo code evs i) ≤ 12 + 36 * i
  | 0 => ⟨newP_good S, by simp [playTo, newP, phi, aliveN, newRun]⟩
  | i + 1 => by
    obtain ⟨a, b⟩ := playTo_good S evs i
    obtain ⟨c, d, _⟩ := a.doG (evs[i]?.getD default)
    exact ⟨c, by simp only [playTo]; omega⟩
def PlayRun1 (code : List POp) (evs : List PEvent) : Prop := CodeSafe code ∧ evs.length ≤ 80
open Classical in
noncomputable def playRunP (code : List POp) (evs : List PEvent) : PWorld := if PlayRun1 code evs then playTo code evs evs.length else emptyW
end Go.Proofs.YtkcfminmojolhaaGreat

/-
  NEW WORLDS: what WorldNew answers, by the reference and by the program.
-/
set_option maxRecDepth 8000
namespace Go.Proofs.YtkcfminmojolhaaGreat
open Go.AM
variable {h h' k : H} {lo : Nat} {w : PWorld} {c : WorldC} {st cs : List RunC}

open Classical in
noncomputable def worldNewP (code : List POp) : PWorld := if CodeSafe code then newP code else emptyW
theorem newV {code : List POp} {r : PRun} {cr : RunC} {sc : Cell} (hc : Sl k sc 6 encO code) (wc : Wr k sc) (uc : Un sc) (gc : ∀ id ∈ sc.ids, h.length ≤ id) (hr : RunR k r cr) (nr : RunN h.length k cr)
    (dj : ∀ f, ∀ id ∈ (rpart cr f).ids, id ∉ sc.ids) (x : Ext h k) :
    WorldV h.length ((k.push ⟨false, 13, [encR cr]⟩).push ⟨false, 1, [encI 1]⟩) ⟨code, [r], [1], 0, 0, 0, 0⟩ ⟨sc, .sl k.length 0 1 none, .sl (k.length + 1) 0 1 none, 0, 0, 0, 0⟩ [cr] [cr] := by
  have x1 : Ext k (k.push ⟨false, 13, [encR cr]⟩) := Ext.push _ _
  have x2 : Ext k ((k.push ⟨false, 13, [encR cr]⟩).push ⟨false, 1, [encI 1]⟩) := x1.trans (Ext.push _ _)
  have lt := wc.lt
  have ltr : ∀ f, ∀ id ∈ (rpart cr f).ids, id < k.length := fun f => (nr.wr f).lt
  have hx := x.1
  have l1 : (k.push ⟨false, 13, [encR cr]⟩).length = k.length + 1 := by simp
  have ids : ∀ K id, id ∈ (part ⟨sc, .sl k.length 0 1 none, .sl (k.length + 1) 0 1 none, 0, 0, 0, 0⟩ [cr] K).ids →
      (K = .code ∧ id ∈ sc.ids) ∨ (K = .runs ∧ id = k.length) ∨ (K = .queue ∧ id = k.length + 1) ∨ ∃ f, keyOf K = some (0, f) ∧ id ∈ (rpart cr f).ids := by
    intro K id hid
    cases hk : keyOf K with
    | none =>
      rcases key_none hk with rfl | rfl | rfl
      · exact .inl ⟨rfl, hid⟩
      · exact .inr (.inl ⟨rfl, by simpa [part, Cell.ids] using hid⟩)
      · exact .inr (.inr (.inl ⟨rfl, by simpa [part, Cell.ids] using hid⟩))
    | some y =>
      obtain ⟨i, f⟩ := y
      rw [part_key hk] at hid
      cases i with
      | zero => exact .inr (.inr (.inr ⟨f, rfl, by simpa using hid⟩))
      | succ i => simp [Cell.ids] at hid
  have sr := Sl.new (ro := false) (h := k) (enc := encR) (xs := [cr]) (es := 13) (by simp) (by simp [sMost])
  have sq := Sl.new (ro := false) (h := k.push ⟨false, 13, [encR cr]⟩) (enc := encI) (xs := [1]) (es := 1) (by simp) (by simp [sMost])
  simp only [List.map_cons, List.map_nil, List.length_cons, List.length_nil, l1] at sr sq
  refine ⟨hc.ext x2, sr.ext (Ext.push _ _), rfl, rfl, fun i hi => ?_, sq, rfl, rfl, rfl, rfl, ⟨fun K id hid => ?_, fun K => ?_, fun K1 K2 id h1 h2 => ?_, fun K => ?_⟩, by have := x2.1; omega⟩
  · have : i = 0 := by simpa using hi
    subst this
    exact hr.ext x2
  · rcases ids K id hid with ⟨_, h1⟩ | ⟨_, h1⟩ | ⟨_, h1⟩ | ⟨f, _, h1⟩
    · exact gc id h1
    · omega
    · omega
    · exact nr.ge f id h1
  · cases hk : keyOf K with
    | none =>
      rcases key_none hk with rfl | rfl | rfl
      · exact wc.same fun id hid => x2.2 id (lt id hid)
      · intro id hid
        have : id = k.length := by simpa [part, Cell.ids] using hid
        subst this
        exact ⟨⟨false, 13, [encR cr]⟩, by rw [get_push_lt (by rw [l1]; omega), get_push_self], rfl⟩
      · intro id hid
        have : id = (k.push ⟨false, 13, [encR cr]⟩).length := by rw [l1]; simpa [part, Cell.ids] using hid
        subst this
        exact ⟨⟨false, 1, [encI 1]⟩, get_push_self, rfl⟩
    | some y =>
      obtain ⟨i, f⟩ := y
      rw [part_key hk]
      cases i with
      | zero => exact (nr.wr f).same fun id hid => x2.2 id (ltr f id hid)
      | succ i => exact fun id hid => by simp [Cell.ids] at hid
  · have big : ∀ f, id ∈ (rpart cr f).ids → id < k.length := fun f hh => ltr f id hh
    rcases ids K1 id h1 with ⟨e1, g1⟩ | ⟨e1, g1⟩ | ⟨e1, g1⟩ | ⟨f, e1, g1⟩ <;> rcases ids K2 id h2 with ⟨e2, g2⟩ | ⟨e2, g2⟩ | ⟨e2, g2⟩ | ⟨f2, e2, g2⟩
    · rw [e1, e2]
    · have := lt id g1; omega
    · have := lt id g1; omega
    · exact absurd g1 (dj f2 id g2)
    · have := lt id g2; omega
    · rw [e1, e2]
    · omega
    · have := ltr f2 id g2; omega
    · have := lt id g2; omega
    · omega
    · rw [e1, e2]
    · have := ltr f2 id g2; omega
    · exact absurd g2 (dj f id g1)
    · have := ltr f id g1; omega
    · have := ltr f id g1; omega
    · have := nr.one f f2 id g1 g2
      subst this
      exact key_inj e1 e2
  · cases hk : keyOf K with
    | none =>
      rcases key_none hk with rfl | rfl | rfl
      · exact uc
      · exact Un.new
      · exact Un.new
    | some y =>
      obtain ⟨i, f⟩ := y
      rw [part_key hk]
      cases i with
      | zero => exact nr.un f
      | succ i => exact Un.nils
def NewWQ (h : H) (code : List POp) (x : V × H) : Prop := ∃ k c' cs', x = (.t [.g (encW c'), .c (.bool (tt (CodeSafe code)))], k) ∧ Ext h k ∧ WorldV h.length k (worldNewP code) c' cs' cs'
set_option maxRecDepth 16000 in
theorem c_WorldNew {s : Cell} {code : List POp} (hS : Sl h s 6 encO code) (hu : Un s) (hl : code.length ≤ lenMost) : @Wp _ (Dz.den 82 [.c s] h) ⟨NewWQ h code⟩ := by
  refine den_wp rfl Tryz.func82 rfl ?_
  have e := c_CodeSafe hS
  unfold NewWQ worldNewP
  by_cases a : CodeSafe code
  · have a' : tt (CodeSafe code) = true := by simpa using a
    rw [a'] at e ⊢
    obtain ⟨s1, h1, e1, f1⟩ := hS.cloneF hu hl
    obtain ⟨_, e2, h2, cr, rfl, x2, q2, n2⟩ := c_l11New (h := h1) 1 0 ⟨3, 1⟩
    have v := newV (h := h) (f1.sl.ext x2) (f1.wr.same fun id hid => x2.2 id (f1.wr.lt id hid)) f1.un f1.ids q2 ⟨fun f id hid => by have := n2.ge f id hid; have := f1.ext.1; omega, n2.wr, n2.one, n2.un⟩
      (fun f id hid hh => by have := n2.ge f id hid; have := f1.wr.lt id hh; omega) (f1.ext.trans x2)
    simp only [encV] at e2
    rw [if_pos a]
    simp [Tryz.f82, e, e1, e2]
    exact ⟨by kernel_rfl, _, ⟨s1, .sl h2.length 0 1 none, .sl (h2.length + 1) 0 1 none, 0, 0, 0, 0⟩, ⟨⟨rfl, rfl, rfl, rfl, rfl, rfl, rfl⟩, rfl⟩, (f1.ext.trans x2).trans ((Ext.push _ _).trans (Ext.push _ _)), _, v⟩
  · have a' : tt (CodeSafe code) = false := by simpa using a
    rw [a'] at e ⊢
    rw [if_neg a]
    simp [Tryz.f82, e]
    exact ⟨rfl, h, ⟨.nils, .nils, .nils, 0, 0, 0, 0⟩, ⟨⟨rfl, rfl, rfl, rfl, rfl, rfl, rfl⟩, rfl⟩, Ext.refl _, _, emptyV h⟩
set_option maxRecDepth 16000 in
theorem c_IWorldNew {s : Cell} {code : List POp} (hS : Sl h s 6 encO code) (hu : Un s) (hl : code.length ≤ lenMost) : @Wp _ (Dz.den 84 [.c s] h) ⟨NewWQ h code⟩ := by
  refine den_wp rfl Tryz.func84 rfl ?_
  have e := c_ICodeSafe hS
  unfold NewWQ worldNewP
  by_cases a : CodeSafe code
  · have a' : tt (CodeSafe code) = true := by simpa using a
    rw [a'] at e ⊢
    obtain ⟨_, e2, h2, cr, rfl, x2, q2, n2⟩ := c_RunNew (h := h) (id := 1) (at_ := 0) (v := ⟨3, 1⟩) (by omega) (by omega) (by decide)
    obtain ⟨s1, h1, e1, f1⟩ := c_CloneO (hS.ext x2) hu hl
    have v := newV (h := h) f1.sl f1.wr f1.un (fun id hid => by have := f1.ids id hid; have := x2.1; omega) (q2.ext f1.ext) ⟨n2.ge, fun f => (n2.wr f).same fun id hid => f1.ext.2 id ((n2.wr f).lt id hid), n2.one, n2.un⟩
      (fun f id hid hh => by have := (n2.wr f).lt id hid; have := f1.ids id hh; omega) (x2.trans f1.ext)
    simp only [encV] at e2
    rw [if_pos a]
    simp [Tryz.f84, e, e1, e2]
    exact ⟨by kernel_rfl, rfl, _, ⟨s1, .sl h1.length 0 1 none, .sl (h1.length + 1) 0 1 none, 0, 0, 0, 0⟩, ⟨⟨rfl, rfl, rfl, rfl, rfl, rfl, rfl⟩, rfl⟩, (x2.trans f1.ext).trans ((Ext.push _ _).trans (Ext.push _ _)), _, v⟩
  · have a' : tt (CodeSafe code) = false := by simpa using a
    rw [a'] at e ⊢
    rw [if_neg a]
    simp [Tryz.f84, e]
    exact ⟨rfl, h, ⟨.nils, .nils, .nils, 0, 0, 0, 0⟩, ⟨⟨rfl, rfl, rfl, rfl, rfl, rfl, rfl⟩, rfl⟩, Ext.refl _, _, emptyV h⟩
end Go.Proofs.YtkcfminmojolhaaGreat

/-
  WHAT PlayRun ANSWERS, by the reference and by the program.
-/
set_option maxRecDepth 8000
namespace Go.Proofs.YtkcfminmojolhaaGreat
open Go.AM
variable {h h' k : H} {lo : Nat} {w : PWorld} {c : WorldC} {st cs : List RunC}
def PlayRQ (h : H) (code : List POp) (evs : List PEvent) (x : V × H) : Prop := ∃ k c' cs', x = (.t [.g (encW c'), .c (.bool (tt (PlayRun1 code evs)))], k) ∧ Ext h k ∧ WorldV h.length k (playRunP code evs) c' cs' cs'
theorem playTo_sent {code : List POp} (S : CodeSafe code) (evs : List PEvent) {i : Nat} (hi : i ≤ 80) : (playTo code evs i).sent < 9000 := by
  obtain ⟨G, hp⟩ := playTo_good S evs i
  have := sent_phi (playTo code evs i); omega
theorem playTo_room {code : List POp} (S : CodeSafe code) (evs : List PEvent) {i : Nat} (hi : i ≤ 80) : Room (playTo code evs i) :=
  ⟨(ok_iff _).2 ⟨(playTo_good S evs i).1, by have := playTo_sent S evs hi; omega⟩, playTo_sent S evs hi⟩
set_option maxRecDepth 16000 in
theorem c_PlayRun {s t : Cell} {code : List POp} {evs : List PEvent} (hS : Sl h s 6 encO code) (hu : Un s) (hl : code.length ≤ lenMost) (hT : Sl h t 4 encE evs) : @Wp _ (Dz.den 29 [.c s, .c t] h) ⟨PlayRQ h code evs⟩ := by
  refine den_wp rfl Tryz.func29 rfl ?_
  obtain ⟨_, e1, h1, c1, cs1, rfl, x1, v1⟩ := c_WorldNew hS hu hl
  have eT := fun e => (hT.ext x1).lenA (e := e)
  unfold PlayRQ playRunP
  unfold worldNewP at v1
  by_cases a : CodeSafe code
  · have a' : tt (CodeSafe code) = true := by simpa using a
    rw [if_pos a] at v1
    rw [a'] at e1
    simp only [encW] at e1
    by_cases b : evs.length ≤ 80
    · have ab : tt (PlayRun1 code evs) = true := by simp [PlayRun1, a, b]
      have b' : ¬ (80 : Int) < evs.length := by omega
      rw [ab, if_pos (show PlayRun1 code evs from ⟨a, b⟩)]
      simp [Tryz.f29, e1, eT, b']
      refine count_wpG (σ := H × WorldC × List RunC) evs.length (fun i g => ([.c t, .c (.bool false), .c (ci i)], [zeroW, encW g.2.1], [], g.1))
        (fun i g => WorldV h.length g.1 (playTo code evs i) g.2.1 g.2.2 g.2.2 ∧ Ext h g.1) (h1, c1, cs1) ?_ ⟨v1, x1⟩ ?_ ?_
      · simp [zeroW]
      · rintro i ⟨k, c2, cs2⟩ hi ⟨v, x⟩
        simp only at v x ⊢
        obtain ⟨G2, ph⟩ := playTo_good a evs i
        have hT2 := hT.ext x
        obtain ⟨_, e2, k2, c3, cs3, rfl, v2, s2⟩ := c_l22Do v G2 (by have := sent_phi (playTo code evs i); omega) evs[i]
        have wj : IntKind.i64.wrap ((i : Int) + 1) = (i : Int) + 1 := wrapS (by omega) (by omega)
        have eg : evs[i]?.getD default = evs[i] := by simp [hi]
        simp only [encW, encE] at e2
        rw [Wp_body]
        simp [fun e => hT2.lenA (e := e), hi, ixA_nat hT2, hT2.at, e2, wj]
        refine ⟨by kernel_rfl, k2, c3, ⟨⟨rfl, rfl, rfl, rfl, rfl, rfl, rfl⟩, rfl⟩, ⟨cs3, ?_⟩, s2.ext (fun id ho => v.own.owned_ge id ho) x (Nat.le_refl _)⟩
        simp only [playTo, eg]; exact v2
      · rintro ⟨k, c2, cs2⟩ ⟨v, x⟩
        simp only at v x ⊢
        rw [Wp_body]
        simp [fun e => (hT.ext x).lenA (e := e), zeroW]
        exact ⟨rfl, k, c2, ⟨⟨rfl, rfl, rfl, rfl, rfl, rfl, rfl⟩, rfl⟩, x, cs2, v⟩
    · have nb : ¬ PlayRun1 code evs := fun hh => b hh.2
      have ab : tt (PlayRun1 code evs) = false := by simpa using nb
      have b' : (80 : Int) < evs.length := by omega
      rw [ab, if_neg nb]
      simp [Tryz.f29, e1, eT, b']
      exact ⟨rfl, h1, ⟨.nils, .nils, .nils, 0, 0, 0, 0⟩, ⟨⟨rfl, rfl, rfl, rfl, rfl, rfl, rfl⟩, rfl⟩, x1, _, (emptyV h).ext x1⟩
  · have a' : tt (CodeSafe code) = false := by simpa using a
    have nb : ¬ PlayRun1 code evs := fun hh => a hh.1
    have ab : tt (PlayRun1 code evs) = false := by simpa using nb
    rw [a'] at e1
    simp only [encW] at e1
    rw [ab, if_neg nb]
    simp [Tryz.f29, e1]
    exact ⟨rfl, h1, ⟨.nils, .nils, .nils, 0, 0, 0, 0⟩, ⟨⟨rfl, rfl, rfl, rfl, rfl, rfl, rfl⟩, rfl⟩, x1, _, (emptyV h).ext x1⟩
set_option maxRecDepth 16000 in
theorem c_IPlayRun {s t : Cell} {code : List POp} {evs : List PEvent} (hS : Sl h s 6 encO code) (hu : Un s) (hl : code.length ≤ lenMost) (hT : Sl h t 4 encE evs) : @Wp _ (Dz.den 32 [.c s, .c t] h) ⟨PlayRQ h code evs⟩ := by
  refine den_wp rfl Tryz.func32 rfl ?_
  obtain ⟨_, e1, h1, c1, cs1, rfl, x1, v1⟩ := c_IWorldNew hS hu hl
  have eT := fun e => (hT.ext x1).lenA (e := e)
  unfold PlayRQ playRunP
  unfold worldNewP at v1
  by_cases a : CodeSafe code
  · have a' : tt (CodeSafe code) = true := by simpa using a
    rw [if_pos a] at v1
    rw [a'] at e1
    simp only [encW] at e1
    by_cases b : evs.length ≤ 80
    · have ab : tt (PlayRun1 code evs) = true := by simp [PlayRun1, a, b]
      have b' : ¬ (80 : Int) < evs.length := by omega
      rw [ab, if_pos (show PlayRun1 code evs from ⟨a, b⟩)]
      simp [Tryz.f32, e1, eT, b']
      refine count_wpG (σ := H × WorldC × List RunC) evs.length (fun i g => ([.c (.bool false), .c t, .c (ci evs.length), .c (ci i)], [zeroW, encW g.2.1], [], g.1))
        (fun i g => WorldV h.length g.1 (playTo code evs i) g.2.1 g.2.2 g.2.2 ∧ Ext h g.1) (h1, c1, cs1) ?_ ⟨v1, x1⟩ ?_ ?_
      · simp [zeroW]
      · rintro i ⟨k, c2, cs2⟩ hi ⟨v, x⟩
        simp only at v x ⊢
        have hT2 := hT.ext x
        obtain ⟨_, e2, k2, c3, cs3, rfl, x2, v2⟩ := c_IPlayDo v evs[i]
        have wj : IntKind.i64.wrap ((i : Int) + 1) = (i : Int) + 1 := wrapS (by omega) (by omega)
        have eg : evs[i]?.getD default = evs[i] := by simp [hi]
        have er : playDoP (playTo code evs i) evs[i] = playTo code evs (i + 1) := by
          unfold playDoP
          rw [if_pos (by simpa using playTo_room a evs (by omega))]
          simp only [playTo, eg]
        rw [er] at v2
        simp only [encW, encE] at e2
        rw [Wp_body]
        simp [hi, ixA_nat hT2, hT2.at, e2, wj]
        exact ⟨k2, c3, ⟨⟨rfl, rfl, rfl, rfl, rfl, rfl, rfl⟩, rfl⟩, ⟨cs3, ⟨v2.code, v2.runs, v2.stl, v2.len, v2.each, v2.queue, v2.now, v2.sent, v2.taken, v2.lost, ⟨fun k id hid => Nat.le_trans x.1 (v2.own.ge k id hid), v2.own.wr, v2.own.one, v2.own.un⟩, Nat.le_trans x.1 v2.lo_le⟩⟩, x.trans x2⟩
      · rintro ⟨k, c2, cs2⟩ ⟨v, x⟩
        simp only at v x ⊢
        rw [Wp_body]
        simp [zeroW]
        exact ⟨rfl, k, c2, ⟨⟨rfl, rfl, rfl, rfl, rfl, rfl, rfl⟩, rfl⟩, x, cs2, v⟩
    · have nb : ¬ PlayRun1 code evs := fun hh => b hh.2
      have ab : tt (PlayRun1 code evs) = false := by simpa using nb
      have b' : (80 : Int) < evs.length := by omega
      rw [ab, if_neg nb]
      simp [Tryz.f32, e1, eT, b']
      exact ⟨rfl, h1, ⟨.nils, .nils, .nils, 0, 0, 0, 0⟩, ⟨⟨rfl, rfl, rfl, rfl, rfl, rfl, rfl⟩, rfl⟩, x1, _, (emptyV h).ext x1⟩
  · have a' : tt (CodeSafe code) = false := by simpa using a
    have nb : ¬ PlayRun1 code evs := fun hh => a hh.1
    have ab : tt (PlayRun1 code evs) = false := by simpa using nb
    rw [a'] at e1
    simp only [encW] at e1
    rw [ab, if_neg nb]
    simp [Tryz.f32, e1]
    exact ⟨rfl, h1, ⟨.nils, .nils, .nils, 0, 0, 0, 0⟩, ⟨⟨rfl, rfl, rfl, rfl, rfl, rfl, rfl⟩, rfl⟩, x1, _, (emptyV h).ext x1⟩
end Go.Proofs.YtkcfminmojolhaaGreat
