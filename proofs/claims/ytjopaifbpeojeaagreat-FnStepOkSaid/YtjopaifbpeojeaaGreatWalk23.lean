/-
  What functions of the seat answer, each proved once; each under the condition that cells bear what it is given, as its statement says.
-/
import Derived.Test.YtjopaifbpeojeaaGreatWalk22
import Derived.Test.YtjopaifbpeojeaaGreatWalk5
import Derived.Test.YtjopaifbpeojeaaGreatWalk7
import Derived.Test.YtjopaifbpeojeaaGreatWalk12
import Derived.Test.YtjopaifbpeojeaaGreatWalk21
import Derived.Test.YtjopaifbpeojeaaGreatWalk20
set_option linter.all false
/-
  WHAT IS DRAWN: worlds for steps, turns, ticks.
-/
set_option maxRecDepth 8000
namespace Go.Proofs.YtjopaifbpeojeaaGreat
open Go.AM
variable {h h' k : H} {p n m lo : Nat} {d : Cell} {bs : List Int} {w : PWorld} {c : WorldC} {cs : List RunC} {s : Cell}
def DrawnW (h : H) (x : V × H) : Prop := ∃ k w c cs, x = (.g (encW c), k) ∧ Ext h k ∧ WorldV h.length k w c cs cs ∧ Seen w
theorem world1 (R : Rdr h p d bs n) (hn : n ≤ 90000) : ∃ w c cs k m, Dz.den 41 [.c (.ptr p 0 0)] h = some (.g (encW c), k) ∧ WorldV h.length k w c cs cs ∧ Seen w ∧ Rdr k p d bs m ∧ m ≤ n + 3400 ∧ Chg h (fun id => id = p) k := by
  obtain ⟨_, e, _, k, m, rfl, ⟨w, c, cs, rfl, v, S⟩, R1, hm, c1⟩ := c_l72World R hn
  exact ⟨w, c, cs, k, m, e, v, S, R1, hm, c1⟩
theorem open_ext {k1 k2 : H} (x : Ext h k1) (hp : h.length < k1.length) (c : Chg k1 (fun id => id = h.length) k2) : Ext h k2 :=
  ⟨Nat.le_trans x.1 c.len, fun id hid => by rw [c.keep id (by omega) (by omega), x.2 id hid]⟩
set_option maxRecDepth 16000 in
set_option maxHeartbeats 2000000 in
theorem c_DrawTurnStep (hS : BytesA h s bs) : @Wp _ (Dz.den 32 [.c s] h) ⟨DrawnW h⟩ := by
  refine den_wp rfl Tryz.func32 rfl ?_
  obtain ⟨_, e1, k1, d, bs1, rfl, x1, R1⟩ := c_l6Open hS
  obtain ⟨w, c, cs, k2, q2, e2, v2, S2, R2, hq2, ch2⟩ := world1 R1 (by omega)
  have hp := R1.lt
  have l1 := x1.1
  simp only [encW] at e2
  simp [Tryz.f32, e1, e2]
  refine count_wpG (σ := H × WorldC × List RunC × PWorld × Nat) 4 (fun i g => ([.c (.ptr h.length 0 0), .c (ci i)], [zeroW, encW g.2.1], [], g.1))
    (fun i g => WorldV k1.length g.1 g.2.2.2.1 g.2.1 g.2.2.1 g.2.2.1 ∧ Seen g.2.2.2.1 ∧ Rdr g.1 h.length d bs1 g.2.2.2.2 ∧ g.2.2.2.2 ≤ 3400 + 3500 * i ∧ Chg k1 (fun id => id = h.length) g.1) (k2, c, cs, w, q2) (by simp [zeroW])
    ⟨v2, S2, R2, by simp only; omega, ch2⟩ ?_ ?_
  · rintro i ⟨g, c, cs, w, q⟩ hi ⟨v, S, R, hq, cg⟩
    simp only at v S R hq cg ⊢
    have hi' : (i : Int) < 4 := by omega
    have wj : IntKind.i64.wrap ((i : Int) + 1) = (i : Int) + 1 := wrapS (by omega) (by omega)
    obtain ⟨N, k3, e3, b3, R3, ch3⟩ := pick1 R (by omega) (m := 8) (by omega) (by omega)
    have v4 := v.chgp ch3 hp
    have l3 : k1.length ≤ k3.length := Nat.le_trans cg.len ch3.len
    obtain ⟨w5, c5, cs5, k5, q5, e5, v5, S5, R5, hq5, ch5⟩ := world1 R3 (by omega)
    have qL := v4.rd.queue.lenA (e := 3)
    simp only [encW] at e5
    rw [Wp_body]
    by_cases z : N = 0
    · subst z
      simp at e3
      simp [hi', e3]
      exact ⟨by simp [zeroW], k3, w, c, cs, rfl, open_ext x1 hp (cg.pp ch3), v4.low l1, S⟩
    · have z' : 0 < N := by omega
      by_cases y : w.queue = []
      · rw [y] at qL
        simp [hi', e3, z', qL, e5, wj]
        exact ⟨k5, c5, ⟨⟨rfl, rfl, rfl, rfl, rfl, rfl, rfl⟩, rfl⟩, cs5, w5, v5.low l3, S5, q5, R5, by omega, (cg.pp ch3).trans ch5 fun _ _ hh => hh⟩
      · have y' : ¬ w.queue.length = 0 := by intro hh; exact y (List.length_eq_zero_iff.1 hh)
        simp [hi', e3, z', qL, y, y']
        exact ⟨by simp [zeroW], k3, w, c, cs, rfl, open_ext x1 hp (cg.pp ch3), v4.low l1, S⟩
  · rintro ⟨g, c, cs, w, q⟩ ⟨v, S, R, hq, cg⟩
    simp only at v S R hq cg ⊢
    rw [Wp_body]
    simp [zeroW]
    exact ⟨g, w, c, cs, rfl, open_ext x1 hp cg, v.low l1, S⟩
theorem c_DrawTurnDo (hS : BytesA h s bs) : @Wp _ (Dz.den 29 [.c s] h) ⟨DrawnW h⟩ := by
  refine den_wp rfl Tryz.func29 rfl ?_
  obtain ⟨_, e1, k1, w, c, cs, rfl, x1, v1, S⟩ := c_DrawTurnStep hS
  simp only [encW] at e1
  simp [Tryz.f29, e1]
  exact ⟨k1, w, c, cs, rfl, x1, v1, S⟩
set_option maxRecDepth 16000 in
set_option maxHeartbeats 2000000 in
theorem c_DrawTurnTick (hS : BytesA h s bs) : @Wp _ (Dz.den 15 [.c s] h) ⟨DrawnW h⟩ := by
  refine den_wp rfl Tryz.func15 rfl ?_
  obtain ⟨_, e1, k1, d, bs1, rfl, x1, R1⟩ := c_l6Open hS
  obtain ⟨w, c, cs, k2, q2, e2, v2, S2, R2, hq2, ch2⟩ := world1 R1 (by omega)
  have hp := R1.lt
  have l1 := x1.1
  simp only [encW] at e2
  simp [Tryz.f15, e1, e2]
  refine count_wpG (σ := H × WorldC × List RunC × PWorld × Nat) 4 (fun i g => ([.c (.ptr h.length 0 0), .c (ci i)], [zeroW, encW g.2.1], [], g.1))
    (fun i g => WorldV k1.length g.1 g.2.2.2.1 g.2.1 g.2.2.1 g.2.2.1 ∧ Seen g.2.2.2.1 ∧ Rdr g.1 h.length d bs1 g.2.2.2.2 ∧ g.2.2.2.2 ≤ 3400 + 3500 * i ∧ Chg k1 (fun id => id = h.length) g.1) (k2, c, cs, w, q2) (by simp [zeroW])
    ⟨v2, S2, R2, by simp only; omega, ch2⟩ ?_ ?_
  · rintro i ⟨g, c, cs, w, q⟩ hi ⟨v, S, R, hq, cg⟩
    simp only at v S R hq cg ⊢
    have hi' : (i : Int) < 4 := by omega
    have wj : IntKind.i64.wrap ((i : Int) + 1) = (i : Int) + 1 := wrapS (by omega) (by omega)
    obtain ⟨N, k3, e3, b3, R3, ch3⟩ := pick1 R (by omega) (m := 8) (by omega) (by omega)
    have v4 := v.chgp ch3 hp
    have l3 : k1.length ≤ k3.length := Nat.le_trans cg.len ch3.len
    have rt := v4.rd.runs
    have hrs := rt.sl
    have hlen := rt.len
    have many := S.many
    rw [Wp_body]
    by_cases z : N = 0
    · subst z
      simp at e3
      simp [hi', e3]
      exact ⟨by simp [zeroW], k3, w, c, cs, rfl, open_ext x1 hp (cg.pp ch3), v4.low l1, S⟩
    · have z' : 0 < N := by omega
      simp [hi', e3, z']
      refine count_wp cs.length (fun j => ([.c (.ptr h.length 0 0), .c (ci i), .c (ci j)], [zeroW, encW c], [], k3)) (fun _ => True) (by simp [zeroW]) trivial ?_ ?_
      · intro j hj _
        have hj' : j < w.runs.length := by omega
        have hr := rt.each j hj'
        have wk : IntKind.i64.wrap ((j : Int) + 1) = (j : Int) + 1 := wrapS (by omega) (by omega)
        rw [Wp_body]
        by_cases s2 : w.runs[j].state = 2
        · by_cases d0 : 0 < w.runs[j].due
          · simp [hrs.lenA, hj, ixA_nat hrs, hrs.at, hr.state, hr.due, s2, d0, zeroW]
            exact ⟨k3, w, c, cs, rfl, open_ext x1 hp (cg.pp ch3), v4.low l1, S⟩
          · simp [hrs.lenA, hj, ixA_nat hrs, hrs.at, hr.state, hr.due, s2, d0, wk]
        · simp [hrs.lenA, hj, ixA_nat hrs, hrs.at, hr.state, s2, wk]
      · intro _
        obtain ⟨w5, c5, cs5, k5, q5, e5, v5, S5, R5, hq5, ch5⟩ := world1 R3 (by omega)
        simp only [encW] at e5
        rw [Wp_body]
        simp [hrs.lenA, e5, wj]
        exact ⟨k5, c5, ⟨⟨rfl, rfl, rfl, rfl, rfl, rfl, rfl⟩, rfl⟩, cs5, w5, v5.low l3, S5, q5, R5, by omega, (cg.pp ch3).trans ch5 fun _ _ hh => hh⟩
  · rintro ⟨g, c, cs, w, q⟩ ⟨v, S, R, hq, cg⟩
    simp only at v S R hq cg ⊢
    rw [Wp_body]
    simp [zeroW]
    exact ⟨g, w, c, cs, rfl, open_ext x1 hp cg, v.low l1, S⟩
def DrawnWI (h : H) (x : V × H) : Prop := ∃ k w c cs, ∃ id : Int, x = (.t [.g (encW c), .c (.int .i64 id)], k) ∧ Ext h k ∧ WorldV h.length k w c cs cs ∧ Seen w ∧ 1 ≤ id ∧ id ≤ 12
set_option maxRecDepth 16000 in
theorem c_DrawTurnWhen (hS : BytesA h s bs) : @Wp _ (Dz.den 24 [.c s] h) ⟨DrawnWI h⟩ := by
  refine den_wp rfl Tryz.func24 rfl ?_
  obtain ⟨_, e1, k1, d, bs1, rfl, x1, R1⟩ := c_l6Open hS
  obtain ⟨w, c, cs, k2, q2, e2, v2, S2, R2, hq2, ch2⟩ := world1 R1 (by omega)
  have hp := R1.lt
  have l1 := x1.1
  have many := S2.many
  have hlen := v2.len
  obtain ⟨N, k3, e3, b3, R3, ch3⟩ := pick1 R2 (by omega) (m := cs.length) (by omega) (by omega)
  obtain ⟨M, k4, e4, b4, R4, ch4⟩ := pick1 R3 (by omega) (m := 24) (by omega) (by omega)
  have v4 := (v2.chgp ch3 hp).chgp ch4 hp
  have hS2 := v2.runs
  have t1 : (M : Int).tdiv 23 = if M = 23 then 1 else 0 := by
    rw [Int.tdiv_eq_ediv_of_nonneg (by omega)]
    split <;> omega
  have w1 : IntKind.i64.wrap (1 + (N : Int)) = 1 + (N : Int) := wrapS (by omega) (by omega)
  have fin : ∀ id : Int, 1 ≤ id ∧ id ≤ 12 → DrawnWI h (.t [.g (encW c), .c (.int .i64 id)], k4) := fun id hid => ⟨k4, w, c, cs, id, rfl, open_ext x1 hp ((ch2.pp ch3).pp ch4), v4.low l1, S2, hid⟩
  simp only [encW] at e2
  by_cases y : M = 23
  · rw [if_pos y] at t1
    have w2 : IntKind.i64.wrap 1 = 1 := by decide
    have w3 : IntKind.i64.wrap 6 = 6 := by decide
    have w4 : IntKind.i64.wrap (1 + (N : Int) + 6) = 1 + (N : Int) + 6 := wrapS (by omega) (by omega)
    have f := fin (1 + (N : Int) + 6) (by omega)
    simp [Tryz.f24, e1, e2, hS2.lenA, e3, e4, t1, w1, w2, w3, w4]
    exact ⟨by kernel_rfl, by kernel_rfl, f⟩
  · rw [if_neg y] at t1
    have w2 : IntKind.i64.wrap 0 = 0 := by decide
    have w4 : IntKind.i64.wrap (1 + (N : Int) + 0) = 1 + (N : Int) := by rw [Int.add_zero]; exact w1
    have f := fin (1 + (N : Int)) (by omega)
    simp [Tryz.f24, e1, e2, hS2.lenA, e3, e4, t1, w1, w2, w4]
    exact ⟨by kernel_rfl, by kernel_rfl, f⟩
end Go.Proofs.YtjopaifbpeojeaaGreat

/-
  THE LAWS' FUNCTIONS THAT LOOK AT WORLDS: what they answer.
-/
set_option maxRecDepth 8000
namespace Go.Proofs.YtjopaifbpeojeaaGreat
open Go.AM
variable {h : H}
theorem c_lvInts {s t : Cell} {xs ys : List Int} (hS : Sl h s 1 encI xs) (hT : Sl h t 1 encI ys) : Dz.den 21 [.c s, .c t] h = some (.c (.bool (decide (xs = ys))), h) := by
  refine den_plain rfl Tryz.func21 rfl rfl ?_
  by_cases hl : xs.length = ys.length
  rotate_left
  · have hl' : ¬ ((xs.length : Int) = ys.length) := by omega
    have hne : ¬ xs = ys := fun e => hl (by rw [e])
    simp [Tryz.f21, hS.lenA, hT.lenA, hl', hne]
  simp [Tryz.f21, hS.lenA, hT.lenA, hl]
  refine count_wp ys.length (fun i => ([.c s, .c t, .c (.bool false), .c (ci i)], [], [], h)) (fun i => xs.take i = ys.take i) rfl (by simp) ?_ ?_
  · intro i hi hP
    have hi' : i < xs.length := by omega
    rw [Wp_body]
    simp [hS.lenA, hi, hi', ixA_nat hS, hS.at, ixA_nat hT, hT.at, wrap_succ (hS.lt hi'), eq_take_succ hi' hi, hP, hl]
    exact ⟨by unfold LexOk; kernel_rfl, fun e => ne_of_get hi' hi e⟩
  · intro hP
    rw [← hl, List.take_length] at hP
    rw [Wp_body]
    simp [hS.lenA, hl]
    rw [hP, hl, List.take_length]
theorem c_lvVals {s t : Cell} {xs ys : List PVal} (hS : Sl h s 2 encV xs) (hT : Sl h t 2 encV ys) : Dz.den 36 [.c s, .c t] h = some (.c (.bool (decide (xs = ys))), h) := by
  refine den_plain rfl Tryz.func36 rfl rfl ?_
  by_cases hl : xs.length = ys.length
  rotate_left
  · have hl' : ¬ ((xs.length : Int) = ys.length) := by omega
    have hne : ¬ xs = ys := fun e => hl (by rw [e])
    simp [Tryz.f36, hS.lenA, hT.lenA, hl', hne]
  simp [Tryz.f36, hS.lenA, hT.lenA, hl]
  refine count_wp ys.length (fun i => ([.c s, .c t, .c (.bool false), .c (ci i)], [], [], h)) (fun i => xs.take i = ys.take i) rfl (by simp) ?_ ?_
  · intro i hi hP
    have hi' : i < xs.length := by omega
    rw [Wp_body]
    simp [hS.lenA, hi, hi', ixA_nat hS, hS.at, ixA_nat hT, hT.at, wrap_succ (hS.lt hi'), eq_take_succ hi' hi, hP, hl]
    refine ⟨by unfold LexOk; kernel_rfl, fun e => ne_of_get hi' hi fun q => by rw [q] at e; simp at e, fun e1 e2 => ?_⟩
    cases hx : xs[i]; cases hy : ys[i]; rw [hx, hy] at e1 e2; simp at e1 e2; rw [e1, e2]
  · intro hP
    rw [← hl, List.take_length] at hP
    rw [Wp_body]
    simp [hS.lenA, hl]
    rw [hP, hl, List.take_length]
theorem c_lvOps {s t : Cell} {xs ys : List POp} (hS : Sl h s 6 encO xs) (hT : Sl h t 6 encO ys) : Dz.den 35 [.c s, .c t] h = some (.c (.bool (decide (xs = ys))), h) := by
  refine den_plain rfl Tryz.func35 rfl rfl ?_
  by_cases hl : xs.length = ys.length
  rotate_left
  · have hl' : ¬ ((xs.length : Int) = ys.length) := by omega
    have hne : ¬ xs = ys := fun e => hl (by rw [e])
    simp [Tryz.f35, hS.lenA, hT.lenA, hl', hne]
  simp [Tryz.f35, hS.lenA, hT.lenA, hl]
  refine count_wp ys.length (fun i => ([.c s, .c t, .c (.bool false), .c (ci i)], [], [], h)) (fun i => xs.take i = ys.take i) rfl (by simp) ?_ ?_
  · intro i hi hP
    have hi' : i < xs.length := by omega
    have ip : intPair TTz 34 = true := by kernel_rfl
    have ip2 : isIntT TTz 3 = true := by kernel_rfl
    rw [Wp_body]
    simp [hS.lenA, hi, hi', ixA_nat hS, hS.at, ixA_nat hT, hT.at, wrap_succ (hS.lt hi'), eq_take_succ hi' hi, hP, hl, ip, ip2]
    have op : ∀ {a b : POp}, a.kind = b.kind → a.r = b.r → a.s = b.s → a.to = b.to → a.v.k = b.v.k → a.v.n = b.v.n → a = b := by
      rintro ⟨_, _, _, _, ⟨_, _⟩⟩ ⟨_, _, _, _, ⟨_, _⟩⟩ rfl rfl rfl rfl rfl rfl; rfl
    exact ⟨by unfold LexOk; kernel_rfl, ⟨fun e => ne_of_get hi' hi fun q => by rw [q] at e; simp at e, fun e1 e2 e3 e4 e5 e6 => op e1 e2 e3 e4 e5 e6⟩⟩
  · intro hP
    rw [← hl, List.take_length] at hP
    rw [Wp_body]
    simp [hS.lenA, hl]
    rw [hP, hl, List.take_length]
set_option maxRecDepth 8000 in
theorem c_lvRun {a b : PRun} {c d : RunC} (ha : RunR h a c) (hb : RunR h b d) : Dz.den 20 [.g (encR c), .g (encR d)] h = some (.c (.bool (decide (a = b))), h) := by
  refine den_plain rfl Tryz.func20 rfl rfl ?_
  have e1 := c_lvVals ha.slots hb.slots
  have e2 := c_lvVals ha.mail hb.mail
  have e3 := c_lvInts ha.links hb.links
  have e4 := c_lvInts ha.watched hb.watched
  obtain ⟨c1, c2, c3, c4, c5, c6, c7, c8, c9, c10, ⟨c11, c12⟩, c13⟩ := c
  obtain ⟨d1, d2, d3, d4, d5, d6, d7, d8, d9, d10, ⟨d11, d12⟩, d13⟩ := d
  obtain ⟨a1, a2, a3, a4, a5, a6, a7, a8, a9, a10, ⟨a11, a12⟩, a13⟩ := a
  obtain ⟨b1, b2, b3, b4, b5, b6, b7, b8, b9, b10, ⟨b11, b12⟩, b13⟩ := b
  obtain ⟨rfl, rfl, q1, rfl, q2, rfl, rfl, q3, q4, rfl, ew, rfl⟩ := ha
  obtain ⟨rfl, rfl, q5, rfl, q6, rfl, rfl, q7, q8, rfl, ew2, rfl⟩ := hb
  clear q1 q2 q3 q4 q5 q6 q7 q8
  simp only [PVal.mk.injEq] at ew ew2
  obtain ⟨rfl, rfl⟩ := ew
  obtain ⟨rfl, rfl⟩ := ew2
  simp only at e1 e2 e3 e4
  simp +contextual [Tryz.f20, e1, e2, e3, e4]
  grind
set_option maxRecDepth 8000 in
theorem c_lvWorld {a b : PWorld} {c d : WorldC} {cs ds : List RunC} (ha : WorldR h a c cs) (hb : WorldR h b d ds) : Dz.den 17 [.g (encW c), .g (encW d)] h = some (.c (.bool (decide (a = b))), h) := by
  refine den_plain rfl Tryz.func17 rfl rfl ?_
  have e1 := c_lvOps ha.code hb.code
  have e3 := c_lvInts ha.queue hb.queue
  have hS := ha.runs.sl
  have hT := hb.runs.sl
  have l1 := ha.runs.len
  have l2 := hb.runs.len
  have hx : (a = b) ↔ a.code = b.code ∧ a.runs = b.runs ∧ a.queue = b.queue ∧ c.now = d.now ∧ c.sent = d.sent ∧ c.taken = d.taken ∧ c.lost = d.lost := by
    rw [ha.now, hb.now, ha.sent, hb.sent, ha.taken, hb.taken, ha.lost, hb.lost]
    cases a; cases b; simp
  by_cases y1 : a.code = b.code
  rotate_left
  · simp [Tryz.f17, hx, e1, y1]
  by_cases y2 : a.runs.length = b.runs.length
  rotate_left
  · have z : ¬ a.runs = b.runs := fun e => y2 (by rw [e])
    have z' : ¬ (cs.length : Int) = ds.length := by omega
    simp [Tryz.f17, hx, e1, y1, hS.lenA, hT.lenA, z, z']
  have y2' : cs.length = ds.length := by omega
  by_cases y3 : a.queue = b.queue
  rotate_left
  · simp [Tryz.f17, hx, e1, y1, hS.lenA, hT.lenA, y2', e3, y3]
  by_cases y4 : c.now = d.now
  rotate_left
  · simp [Tryz.f17, hx, e1, y1, hS.lenA, hT.lenA, y2', e3, y3, y4]
  by_cases y5 : c.sent = d.sent
  rotate_left
  · simp [Tryz.f17, hx, e1, y1, hS.lenA, hT.lenA, y2', e3, y3, y4, y5]
  by_cases y6 : c.taken = d.taken
  rotate_left
  · simp [Tryz.f17, hx, e1, y1, hS.lenA, hT.lenA, y2', e3, y3, y4, y5, y6]
  by_cases y7 : c.lost = d.lost
  rotate_left
  · simp [Tryz.f17, hx, e1, y1, hS.lenA, hT.lenA, y2', e3, y3, y4, y5, y6, y7]
  simp [Tryz.f17, hx, e1, y1, hS.lenA, hT.lenA, y2', e3, y3, y4, y5, y6, y7]
  refine count_wp ds.length (fun i => ([.c (.bool false), .c (ci i)], [[c.code, c.runs, c.queue, .int .i64 d.now, .int .i64 d.sent, .int .i64 d.taken, .int .i64 d.lost], encW d], [], h)) (fun i => a.runs.take i = b.runs.take i) rfl (by simp) ?_ ?_
  · intro i hi hP
    have hi' : i < cs.length := by omega
    have hx' : i < a.runs.length := by omega
    have hy : i < b.runs.length := by omega
    have e := c_lvRun (ha.runs.each i hx') (hb.runs.each i hy)
    simp only [encR] at e
    rw [Wp_body]
    simp [hS.lenA, hi, hi', ixA_nat hS, hS.at, ixA_nat hT, hT.at, wrap_succ (hS.lt hi'), eq_take_succ hx' hy, hP, y2', e]
    exact ⟨by unfold LexOk; kernel_rfl, fun e q => ne_of_get hx' hy e (by rw [q])⟩
  · intro hP
    rw [List.take_of_length_le (by omega), List.take_of_length_le (by omega)] at hP
    rw [Wp_body]
    simp [hS.lenA, y2']
    exact hx.2 ⟨y1, hP, y3, y4, y5, y6, y7⟩
theorem mailSum_take_le (rs : List PRun) (i : Nat) : mailSum (rs.take i) ≤ mailSum rs := by
  have h := mailSum_app (rs.take i) (rs.drop i)
  rw [List.take_append_drop] at h
  have := mailSum_nn (rs.drop i)
  omega
theorem c_lvSum {w : PWorld} {c : WorldC} {cs : List RunC} (ha : WorldR h w c cs) (hm : mailSum w.runs ≤ 1000000) (ht : 0 ≤ w.taken ∧ w.taken ≤ 1000000) (hl : 0 ≤ w.lost ∧ w.lost ≤ 1000000) :
    Dz.den 34 [.g (encW c)] h = some (.c (.bool (decide (w.sent = w.taken + w.lost + mailSum w.runs))), h) := by
  refine den_plain rfl Tryz.func34 rfl rfl ?_
  have hS := ha.runs.sl
  have hlen := ha.runs.len
  simp [Tryz.f34]
  refine count_wp cs.length (fun i => ([.c (.bool false), .c (.int .i64 (mailSum (w.runs.take i))), .c (ci i)], [encW c], [], h)) (fun _ => True) (by simp [mailSum]) trivial ?_ ?_
  · intro i hi _
    have hi' : i < w.runs.length := by omega
    have e := (ha.runs.each i hi').mail
    have n1 := mailSum_take_le w.runs (i + 1)
    have n2 := mailSum_nn (w.runs.take i)
    have n3 : mailSum (w.runs.take (i + 1)) = mailSum (w.runs.take i) + w.runs[i].mail.length := by
      rw [List.take_succ_eq_append_getElem hi', mailSum_app]; simp [mailSum]
    have w1 : IntKind.i64.wrap (mailSum (w.runs.take i) + w.runs[i].mail.length) = mailSum (w.runs.take (i + 1)) := by rw [n3]; exact wrapS (by omega) (by omega)
    rw [Wp_body]
    simp [hS.lenA, hi, hi', ixA_nat hS, hS.at, e.lenA, w1, wrap_succ (hS.lt hi)]
  · intro _
    have e1 : w.runs.take cs.length = w.runs := List.take_of_length_le (by omega)
    have n2 := mailSum_nn w.runs
    have w1 : IntKind.i64.wrap (w.taken + w.lost) = w.taken + w.lost := wrapS (by omega) (by omega)
    have w2 : IntKind.i64.wrap (w.taken + w.lost + mailSum w.runs) = w.taken + w.lost + mailSum w.runs := wrapS (by omega) (by omega)
    rw [Wp_body]
    simp [hS.lenA, e1, ha.taken, ha.lost, ha.sent, w1, w2]
theorem c_lvState {w : PWorld} {c : WorldC} {cs : List RunC} (ha : WorldR h w c cs) (id : Int) :
    Dz.den 23 [.g (encW c), .c (.int .i64 id)] h = some (.c (.int .i64 (if 1 ≤ id ∧ id ≤ w.runs.length then (runAt w id).state else 0)), h) := by
  refine den_plain rfl Tryz.func23 rfl rfl ?_
  have hS := ha.runs.sl
  have hlen := ha.runs.len
  by_cases h1 : id < 1
  · rw [if_neg (by omega)]
    simp [Tryz.f23, h1]
  by_cases h2 : (cs.length : Int) < id
  · rw [if_neg (by omega)]
    simp [Tryz.f23, h1, hS.lenA, h2]
  rw [if_pos (by omega)]
  obtain ⟨i, e, hi, er, ei⟩ := runAt_eq (w := w) (id := id) (by omega)
  have hi' : i < cs.length := by omega
  have lt := hS.lt hi'
  have w1 : IntKind.i64.wrap (id - 1) = (i : Int) := by unfold sMost at lt; rw [wrap_i64 (by omega) (by omega)]; omega
  have e2 := (ha.runs.each i hi).state
  rw [er]
  simp [Tryz.f23, h1, hS.lenA, h2, w1, ixA_nat hS, hi', hS.at, e2]
theorem c_lvAmong {s : Cell} {xs : List Int} (hS : Sl h s 1 encI xs) (n : Int) : Dz.den 27 [.c s, .c (.int .i64 n)] h = some (.c (.bool (decide (n ∈ xs))), h) := by
  refine den_plain rfl Tryz.func27 rfl rfl ?_
  simp [Tryz.f27]
  refine count_wp xs.length (fun i => ([.c s, .c (.int .i64 n), .c (.bool false), .c (ci i)], [], [], h)) (fun i => n ∉ xs.take i) (by simp) (by simp) ?_ ?_
  · intro i hi hP
    have e : n ∉ xs.take (i + 1) ↔ ¬ xs[i] = n := by
      rw [List.take_succ_eq_append_getElem hi, List.mem_append, List.mem_singleton]
      exact ⟨fun q1 q2 => q1 (.inr q2.symm), fun q1 q2 => q2.elim hP fun q3 => q1 q3.symm⟩
    rw [Wp_body]
    simp [hS.lenA, hi, ixA_nat hS, hS.at, wrap_succ (hS.lt hi), e]
    exact fun q => q ▸ List.getElem_mem _
  · intro hP
    rw [List.take_length] at hP
    rw [Wp_body]
    simp [hS.lenA, hP]
theorem c_lvBit {b s : Int} (hb : 0 ≤ b ∧ b ≤ 1000) (hs : 0 ≤ s ∧ s ≤ 1000) : Dz.den 37 [.c (.int .i64 b), .c (.int .i64 s)] h = some (.c (.bool (has b s)), h) := by
  refine den_plain rfl Tryz.func37 rfl rfl ?_
  obtain ⟨n, rfl⟩ : ∃ n : Nat, s = n := ⟨s.toNat, by omega⟩
  simp [Tryz.f37]
  refine count_wp n (fun i => ([.c (.int .i64 (b / 2 ^ i)), .c (.int .i64 n), .c (.bool false), .c (ci i)], [], [], h)) (fun _ => True) (by simp) trivial ?_ ?_
  · intro i hi _
    have w1 : IntKind.i64.wrap ((i : Int) + 1) = (i : Int) + 1 := wrapS (by omega) (by omega)
    have p1 : (0 : Int) < 2 ^ i := Int.pow_pos (by decide)
    have q0 : 0 ≤ b / 2 ^ i := Int.ediv_nonneg hb.1 (Int.le_of_lt p1)
    have q1 : b / 2 ^ i ≤ b := Int.ediv_le_self _ hb.1
    have q2 : IntKind.i64.wrap ((b / 2 ^ i).tdiv 2) = b / 2 ^ (i + 1) := by
      rw [Int.tdiv_eq_ediv_of_nonneg q0, wrapS (by omega) (by omega), Int.pow_succ, Int.ediv_ediv_of_nonneg (Int.le_of_lt p1)]
    rw [Wp_body]
    simp [hi, w1, q2]
  · intro _
    have p1 : (0 : Int) < 2 ^ n := Int.pow_pos (by decide)
    have q0 : 0 ≤ b / 2 ^ n := Int.ediv_nonneg hb.1 (Int.le_of_lt p1)
    rw [Wp_body]
    simp [has, Int.tmod_eq_emod_of_nonneg q0]
end Go.Proofs.YtjopaifbpeojeaaGreat

/-
  A LAW OF PLAYS BEGINS: what is drawn, and what both make of it.
-/
set_option maxRecDepth 8000
namespace Go.Proofs.YtjopaifbpeojeaaGreat
open Go.AM
variable {h k : H} {bs : List Int} {s : Cell}
structure Plays (code : List POp) (evs : List PEvent) (w : PWorld) : Prop where
  safe : CodeSafe code
  few : evs.length ≤ 80
  eq : w = playTo code evs evs.length
  good : Good w
  sent : w.sent ≤ 3000
  code : w.code = code
theorem Plays.ok {code : List POp} {evs : List PEvent} {w : PWorld} (P : Plays code evs w) : WorldOk w := P.good.ok (by have := P.sent; omega)
theorem Plays.room {code : List POp} {evs : List PEvent} {w : PWorld} (P : Plays code evs w) : Room w := ⟨P.ok, by have := P.sent; omega⟩
end Go.Proofs.YtjopaifbpeojeaaGreat

/-
  WHAT WorldWaits AND WorldAlive ANSWER, by the program.
-/
set_option maxRecDepth 8000
namespace Go.Proofs.YtjopaifbpeojeaaGreat
open Go.AM
variable {h k : H} {w : PWorld} {c : WorldC} {cs : List RunC}
theorem tt_fits (W : WorldOk w) : tt (WorldFits w) = true := by simpa using (fits_iff w).2 W
theorem OwnL.nil {α : Type} {enc : α → List Cell} {es : Nat} (lo : Nat) (k : H) : OwnL lo k .nils es enc ([] : List α) := ⟨⟨by simp, rfl⟩, fun id hid => by simp [Cell.ids] at hid, Un.nils, fun id hid => by simp [Cell.ids] at hid⟩
end Go.Proofs.YtjopaifbpeojeaaGreat

/-
  A LAW OF WORLDS BEGINS: what is drawn, and what both make of it.
-/
set_option maxRecDepth 8000
namespace Go.Proofs.YtjopaifbpeojeaaGreat
open Go.AM
variable {h k : H} {bs : List Int} {s : Cell}
structure Done (h k1 k3 k4 : H) (w : PWorld) (c : WorldC) (cs : List RunC) (x : PWorld) (c1 : WorldC) (cs1 : List RunC) : Prop where
  v : WorldV h.length k3 w c cs cs
  seen : Seen w
  x : WorldV k1.length k3 x c1 cs1 cs1
  ext : Ext h k3
  ext4 : Ext k3 k4
theorem Seen.room {w : PWorld} (S : Seen w) (a : WorldOk w) : Room w := ⟨a, by have := S.sent; omega⟩
theorem step_ok {w : PWorld} (r : Room w) : turnStepP w = if w.queue = [] then w else stepP w (headQ w) := by unfold turnStepP; rw [if_pos (by simpa using r)]
theorem do_ok {w : PWorld} (r : Room w) : turnDoP w = turnP w := by unfold turnDoP; rw [if_pos (by simpa using r)]
theorem tick_ok {w : PWorld} (r : Room w) : turnTickP w = tickP w := by unfold turnTickP; rw [if_pos (by simpa using r)]
theorem stepped (hS : BytesA h s bs) : ∃ w c cs k1 k2 k3 k4 c1 cs1 c2 c3, Dz.den 32 [.c s] h = some (.g (encW c), k1) ∧ Dz.den 31 [.g (encW c)] k1 = some (.g (encW c1), k2) ∧
    Dz.den 33 [.g (encW c)] k2 = some (.g (encW c2), k3) ∧ Dz.den 17 [.g (encW c1), .g (encW c2)] k3 = some (.c (.bool true), k3) ∧ Dz.den 19 [.g (encW c)] k3 = some (.c (.bool (tt (WorldOk w))), k3) ∧
    Dz.den 33 [.g (encW c)] k3 = some (.g (encW c3), k4) ∧ Dz.den 17 [.g (encW c1), .g (encW c3)] k4 = some (.c (.bool true), k4) ∧ Done h k1 k3 k4 w c cs (turnStepP w) c1 cs1 := by
  obtain ⟨_, e1, k1, w, c, cs, rfl, x1, v1, sn⟩ := c_DrawTurnStep hS
  obtain ⟨_, e2, k2, c1, cs1, rfl, x2, v2⟩ := c_ITurnStep v1
  have v3 := v1.ext x2
  obtain ⟨_, e3, k3, c2, cs2, rfl, x3, v4⟩ := c_TurnStep v3
  have v5 := v3.ext x3
  have e4 := c_lvWorld (v2.ext x3).rd v4.rd
  rw [decide_eq_true rfl] at e4
  obtain ⟨_, e6, k4, c3, cs3, rfl, x4, v6⟩ := c_TurnStep v5
  have e7 := c_lvWorld ((v2.ext x3).ext x4).rd v6.rd
  rw [decide_eq_true rfl] at e7
  exact ⟨w, c, cs, k1, k2, k3, k4, c1, cs1, c2, c3, e1, e2, e3, e4, c_WorldOk v5.rd, e6, e7, v5, sn, v2.ext x3, (x1.trans x2).trans x3, x4⟩
theorem turned (hS : BytesA h s bs) : ∃ w c cs k1 k2 k3 k4 c1 cs1 c2 c3, Dz.den 29 [.c s] h = some (.g (encW c), k1) ∧ Dz.den 28 [.g (encW c)] k1 = some (.g (encW c1), k2) ∧
    Dz.den 30 [.g (encW c)] k2 = some (.g (encW c2), k3) ∧ Dz.den 17 [.g (encW c1), .g (encW c2)] k3 = some (.c (.bool true), k3) ∧ Dz.den 19 [.g (encW c)] k3 = some (.c (.bool (tt (WorldOk w))), k3) ∧
    Dz.den 30 [.g (encW c)] k3 = some (.g (encW c3), k4) ∧ Dz.den 17 [.g (encW c1), .g (encW c3)] k4 = some (.c (.bool true), k4) ∧ Done h k1 k3 k4 w c cs (turnDoP w) c1 cs1 := by
  obtain ⟨_, e1, k1, w, c, cs, rfl, x1, v1, sn⟩ := c_DrawTurnDo hS
  obtain ⟨_, e2, k2, c1, cs1, rfl, x2, v2⟩ := c_ITurnDo v1
  have v3 := v1.ext x2
  obtain ⟨_, e3, k3, c2, cs2, rfl, x3, v4⟩ := c_TurnDo v3
  have v5 := v3.ext x3
  have e4 := c_lvWorld (v2.ext x3).rd v4.rd
  rw [decide_eq_true rfl] at e4
  obtain ⟨_, e6, k4, c3, cs3, rfl, x4, v6⟩ := c_TurnDo v5
  have e7 := c_lvWorld ((v2.ext x3).ext x4).rd v6.rd
  rw [decide_eq_true rfl] at e7
  exact ⟨w, c, cs, k1, k2, k3, k4, c1, cs1, c2, c3, e1, e2, e3, e4, c_WorldOk v5.rd, e6, e7, v5, sn, v2.ext x3, (x1.trans x2).trans x3, x4⟩
theorem ticking (hS : BytesA h s bs) : ∃ w c cs k1 k2 k3 k4 c1 cs1 c2 c3, Dz.den 15 [.c s] h = some (.g (encW c), k1) ∧ Dz.den 16 [.g (encW c)] k1 = some (.g (encW c1), k2) ∧
    Dz.den 18 [.g (encW c)] k2 = some (.g (encW c2), k3) ∧ Dz.den 17 [.g (encW c1), .g (encW c2)] k3 = some (.c (.bool true), k3) ∧ Dz.den 19 [.g (encW c)] k3 = some (.c (.bool (tt (WorldOk w))), k3) ∧
    Dz.den 18 [.g (encW c)] k3 = some (.g (encW c3), k4) ∧ Dz.den 17 [.g (encW c1), .g (encW c3)] k4 = some (.c (.bool true), k4) ∧ Done h k1 k3 k4 w c cs (turnTickP w) c1 cs1 := by
  obtain ⟨_, e1, k1, w, c, cs, rfl, x1, v1, sn⟩ := c_DrawTurnTick hS
  obtain ⟨_, e2, k2, c1, cs1, rfl, x2, v2⟩ := c_ITurnTick v1
  have v3 := v1.ext x2
  obtain ⟨_, e3, k3, c2, cs2, rfl, x3, v4⟩ := c_TurnTick v3
  have v5 := v3.ext x3
  have e4 := c_lvWorld (v2.ext x3).rd v4.rd
  rw [decide_eq_true rfl] at e4
  obtain ⟨_, e6, k4, c3, cs3, rfl, x4, v6⟩ := c_TurnTick v5
  have e7 := c_lvWorld ((v2.ext x3).ext x4).rd v6.rd
  rw [decide_eq_true rfl] at e7
  exact ⟨w, c, cs, k1, k2, k3, k4, c1, cs1, c2, c3, e1, e2, e3, e4, c_WorldOk v5.rd, e6, e7, v5, sn, v2.ext x3, (x1.trans x2).trans x3, x4⟩
end Go.Proofs.YtjopaifbpeojeaaGreat

/-
  WORLDS IN PLAIN DATA: ticks of time.
-/
set_option maxRecDepth 8000
namespace Go.Proofs.YtjopaifbpeojeaaGreat
variable {w : PWorld}
def tickR (t : Int) (r : PRun) : PRun := if r.state = 2 ∧ r.due = t then { r with state := 1, due := -1 } else r
def dueTo (rs : List PRun) (t : Int) : Nat → List Int
  | 0 => []
  | i + 1 => dueTo rs t i ++ if (rs[i]?.getD default).state = 2 ∧ (rs[i]?.getD default).due = t then [(i : Int) + 1] else []
theorem tickTo_spec (v : PWorld) : ∀ i, i ≤ v.runs.length → tickTo v i = { v with runs := (v.runs.take i).map (tickR v.now) ++ v.runs.drop i, queue := v.queue ++ dueTo v.runs v.now i }
  | 0, _ => by simp [tickTo, dueTo]
  | i + 1, h => by
    have hi : i < v.runs.length := by omega
    have ih := tickTo_spec v i (by omega)
    have hl : ((v.runs.take i).map (tickR v.now)).length = i := by simp; omega
    have hd : v.runs.drop i = v.runs[i] :: v.runs.drop (i + 1) := List.drop_eq_getElem_cons hi
    have g : ((v.runs.take i).map (tickR v.now) ++ v.runs.drop i)[i]? = some v.runs[i] := by
      rw [List.getElem?_append_right (by omega), hl, Nat.sub_self, hd]; rfl
    have ht : (v.runs.take (i + 1)).map (tickR v.now) = (v.runs.take i).map (tickR v.now) ++ [tickR v.now v.runs[i]] := by
      rw [List.take_succ_eq_append_getElem hi, List.map_append]; rfl
    have eg : v.runs[i]?.getD default = v.runs[i] := by simp [hi]
    rw [tickTo, ih]
    unfold tickAt
    simp only [g, dueTo, eg]
    by_cases c : v.runs[i].state = 2 ∧ v.runs[i].due = v.now
    · rw [if_pos c, if_pos c, ht]
      have : tickR v.now v.runs[i] = { v.runs[i] with state := 1, due := -1 } := by unfold tickR; rw [if_pos c]
      rw [this, List.set_append_right _ _ (by omega), hl, Nat.sub_self, hd, List.set_cons_zero]
      simp [List.append_assoc]
    · rw [if_neg c, if_neg c, ht]
      have : tickR v.now v.runs[i] = v.runs[i] := by unfold tickR; rw [if_neg c]
      rw [this, hd]
      simp [List.append_assoc]
theorem tick_spec (h : w.now < 250) : tickP w = { w with now := w.now + 1, runs := w.runs.map (tickR (w.now + 1)), queue := w.queue ++ dueTo w.runs (w.now + 1) w.runs.length } := by
  unfold tickP
  rw [if_neg (by omega), tickTo_spec _ _ (Nat.le_refl _)]
  simp
def ticksP (w : PWorld) : Nat → PWorld
  | 0 => w
  | n + 1 => tickP (ticksP w n)
structure Ticked (w : PWorld) (n : Nat) (v : PWorld) : Prop where
  good : Good v
  now : v.now = w.now + n
  sent : v.sent = w.sent
  len : v.runs.length = w.runs.length
  queue : w.queue.length ≤ v.queue.length
  run : ∀ (k : Nat) r, w.runs[k]? = some r → r.state = 2 → 0 < r.due → ∃ r', v.runs[k]? = some r' ∧ (r.due ≤ w.now + n → r'.state = 1) ∧ (w.now + n < r.due → r' = r)
theorem ticked (G : Good w) : ∀ n : Nat, w.now + n ≤ 250 → Ticked w n (ticksP w n)
  | 0, _ => ⟨G, by simp [ticksP], rfl, rfl, Nat.le_refl _, fun k r hr h2 h0 => ⟨r, hr, fun hd => by
      have R := G.inv.each k r hr
      rcases (R.wait h2).1 with h | h <;> omega, fun _ => rfl⟩⟩
  | n + 1, h => by
    have ih := ticked G n (by omega)
    have sp := tick_spec (w := ticksP w n) (by have := ih.now; omega)
    refine ⟨ih.good.tickG.1, ?_, ?_, ?_, ?_, fun k r hr h2 h0 => ?_⟩
    · rw [ticksP, sp]; simp only; rw [ih.now]; omega
    · rw [ticksP, sp]; exact ih.sent
    · rw [ticksP, sp]; simp only [List.length_map]; exact ih.len
    · rw [ticksP, sp]; simp only [List.length_append]; have := ih.queue; omega
    · obtain ⟨r', h1, a, b⟩ := ih.run k r hr h2 h0
      refine ⟨tickR ((ticksP w n).now + 1) r', by rw [ticksP, sp]; simp only [List.getElem?_map, h1]; rfl, fun hd => ?_, fun hd => ?_⟩
      · rw [ih.now]
        by_cases hdn : r.due ≤ w.now + n
        · have := a hdn
          unfold tickR
          rw [if_neg (by rw [this]; omega)]; exact this
        · have := b (by omega)
          subst this
          unfold tickR
          rw [if_pos ⟨h2, by omega⟩]
      · have := b (by omega)
        subst this
        unfold tickR
        rw [if_neg (by rw [ih.now]; omega)]
end Go.Proofs.YtjopaifbpeojeaaGreat

/-
  WORLDS IN PLAIN DATA: the order of turns.
-/
set_option maxRecDepth 8000
namespace Go.Proofs.YtjopaifbpeojeaaGreat
variable {w w' : PWorld} {id hd : Int}
def Dead (w : PWorld) (k : Int) : Prop := 1 ≤ k ∧ ∃ r, w.runs[(k - 1).toNat]? = some r ∧ r.state = 3
theorem WK.dead {n : Nat} {k0 : Int} (x : WK (fun _ => False) n k0 w w') {k : Int} (d : Dead w k) : Dead w' k := by
  obtain ⟨h1, r, h2, h3⟩ := d
  obtain ⟨r', h4, q⟩ := x.each _ r (fun h => h) h2
  exact ⟨h1, r', h4, q.ended h3⟩
structure QW (hd : Int) (w w' : PWorld) : Prop where
  q : ∃ (p : Int → Bool) (t : List Int), w'.queue = w.queue.filter p ++ t ∧ (∀ k ∈ w.queue, p k = false → k = hd ∨ Dead w' k) ∧ ∀ k ∈ t, k = hd ∨ ¬ Dead w k
  dead : ∀ k, k ≠ hd → Dead w k → Dead w' k
theorem filt (l : List Int) : l.filter (fun _ => true) = l := List.filter_eq_self.2 (by simp)
theorem QW.same (e : w'.queue = w.queue) (d : ∀ k, k ≠ hd → Dead w k → Dead w' k) : QW hd w w' := ⟨⟨fun _ => true, [], by rw [e, filt, List.append_nil], by simp, by simp⟩, d⟩
theorem QW.wk {n : Nat} {k0 : Int} (e : w'.queue = w.queue) (x : WK (fun _ => False) n k0 w w') : QW hd w w' := QW.same e fun _ _ d => x.dead d
theorem QW.refl (w : PWorld) : QW hd w w := QW.same rfl fun _ _ d => d
theorem QW.trans {a b c : PWorld} (x : QW hd a b) (y : QW hd b c) : QW hd a c := by
  obtain ⟨p, t, e, r, n⟩ := x.q
  obtain ⟨p', t', e', r', n'⟩ := y.q
  refine ⟨⟨fun k => p k && p' k, t.filter p' ++ t', ?_, fun k hk hp => ?_, fun k hk => ?_⟩, fun k h d => y.dead k h (x.dead k h d)⟩
  · rw [e', e, List.filter_append, List.filter_filter, List.append_assoc]
    congr 2
    funext k; exact Bool.and_comm _ _
  · by_cases hh : k = hd
    · exact .inl hh
    · right
      by_cases hpk : p k = true
      · have : k ∈ b.queue := by rw [e]; exact List.mem_append_left _ (List.mem_filter.2 ⟨hk, hpk⟩)
        have hp' : p' k = false := by simpa [hpk] using hp
        exact (r' k this hp').resolve_left hh
      · have hpf : p k = false := by simpa using hpk
        exact y.dead k hh ((r k hk hpf).resolve_left hh)
  · rcases List.mem_append.1 hk with h | h
    · exact n k (List.mem_filter.1 h).1
    · rcases n' k h with h1 | h1
      · exact .inl h1
      · by_cases hh : k = hd
        · exact .inl hh
        · exact .inr fun d => h1 (x.dead k hh d)
theorem QW.own {r' : PRun} {w2 : PWorld} (h1 : 1 ≤ hd) (er : w2.runs = w.runs.set (hd - 1).toNat r') (eq : w2.queue = w.queue ∨ w2.queue = less w.queue hd) : QW hd w w2 := by
  have dd : ∀ k, k ≠ hd → Dead w k → Dead w2 k := fun k h ⟨k1, r, h2, h3⟩ => ⟨k1, r, by rw [er, List.getElem?_set_ne (by omega)]; exact h2, h3⟩
  rcases eq with e | e
  · exact QW.same e dd
  · refine ⟨⟨fun x => decide (x ≠ hd), [], by rw [e]; simp [less], fun k hk hp => .inl (by simpa using hp), by simp⟩, dd⟩
theorem give_q (w : PWorld) (k : Int) (v : PVal) : QW hd w (giveP w k v) := by
  have dd : ∀ x, x ≠ hd → Dead w x → Dead (giveP w k v) x := fun x _ d => (give_wk (p := fun _ => False) (id := 0) w k v).dead d
  unfold giveP at dd ⊢
  split
  · rename_i t
    rw [if_pos t] at dd
    split
    · rename_i wk
      rw [if_pos wk] at dd
      refine ⟨⟨fun _ => true, [k], by rw [filt], by simp, fun x hx => ?_⟩, dd⟩
      simp at hx; subst hx
      right
      rintro ⟨_, r, h2, h3⟩
      have t2 := t.2.1
      rw [runAt_some h2] at t2
      exact t2 h3
    · rename_i wk
      rw [if_neg wk] at dd
      exact QW.same rfl dd
  · rename_i t
    rw [if_neg t] at dd
    exact QW.same rfl dd
theorem tell_q (k : Int) : ∀ (ks : List Int) (w : PWorld), QW hd w (tell k w ks)
  | [], w => QW.refl w
  | a :: ks, w => by
    unfold tell
    rw [List.foldl_cons]
    exact (give_q w a _).trans (tell_q k ks _)
theorem links_q (w : PWorld) (k : Int) (xs : List Int) : QW hd w (setRun w k { runAt w k with links := xs }) :=
  QW.wk (n := 0) (k0 := 0) rfl (WK.setRun fun r hr => .inr (by rw [hr]; exact ⟨rfl, rfl, rfl, rfl, rfl, rfl, .inr (List.prefix_refl _), fun h => h, .inl rfl, .inl rfl, .inl rfl⟩))
theorem watched_q (w : PWorld) (k : Int) (xs : List Int) : QW hd w (setRun w k { runAt w k with watched := xs }) :=
  QW.wk (n := 0) (k0 := 0) rfl (WK.setRun fun r hr => .inr (by rw [hr]; exact ⟨rfl, rfl, rfl, rfl, rfl, rfl, .inr (List.prefix_refl _), fun h => h, .inl rfl, .inl rfl, .inl rfl⟩))
theorem linkStep_q (k : Int) (why : PVal) (x : PWorld × List Int) (a : Int) : QW hd x.1 (linkStep k why x a).1 := by
  have s : QW hd x.1 (setRun x.1 a { runAt x.1 a with links := less (runAt x.1 a).links k }) := links_q _ _ _
  unfold linkStep
  split
  · exact s
  · split
    · exact s.trans (give_q _ _ _)
    · exact s
theorem endLinks_q (k : Int) (why : PVal) : ∀ (ks : List Int) (x : PWorld × List Int), QW hd x.1 (ks.foldl (linkStep k why) x).1
  | [], x => QW.refl _
  | a :: ks, x => by
    rw [List.foldl_cons]
    exact (linkStep_q k why x a).trans (endLinks_q k why ks _)
theorem endP_q (w : PWorld) {k : Int} (hk : 1 ≤ k ∧ k ≤ w.runs.length) (why : PVal) : QW hd w (endP w k why).1 := by
  obtain ⟨i, e, hi, er, ei⟩ := runAt_eq hk
  have b : QW hd w (endBase w k why) := by
    have gd : Dead (endBase w k why) k := ⟨hk.1, unwatch k (clearRun (runAt w k) why), by unfold endBase; simp only; rw [ei]; simp [hi], rfl⟩
    refine ⟨⟨fun x => decide (x ≠ k), [], by unfold endBase less; simp, fun x hx hp => ?_, by simp⟩, fun x hh d => ?_⟩
    · have : x = k := by simpa using hp
      subst this; exact .inr gd
    · by_cases hxk : x = k
      · subst hxk; exact gd
      · obtain ⟨x1, r, h2, h3⟩ := d
        refine ⟨x1, unwatch k r, ?_, h3⟩
        unfold endBase
        simp only
        rw [List.getElem?_map, List.getElem?_set_ne (by omega), h2]
        rfl
  unfold endP
  exact (b.trans (endLinks_q k why _ (endBase w k why, []))).trans (tell_q k _ _)
theorem fallN_q (why : PVal) : ∀ (n : Nat) (w : PWorld) (ks : List Int), QW hd w (fallN n w ks why)
  | 0, w, ks => QW.refl w
  | n + 1, w, [] => QW.refl w
  | n + 1, w, k :: ks => by
    unfold fallN
    split
    · rename_i a
      exact (endP_q w a.1 why).trans (fallN_q why n _ _)
    · exact fallN_q why n w ks
theorem fall_q (w : PWorld) (k : Int) (why : PVal) : QW hd w (fallP w k why) := fallN_q why 64 w [k]
theorem step_q (w : PWorld) (hid : 1 ≤ id ∧ id ≤ w.runs.length) : QW id w (stepP w id) := by
  have own : ∀ {r' : PRun}, QW id w (setRun w id r') := fun {r'} => QW.own hid.1 (r' := r') rfl (.inl rfl)
  have wait : ∀ d, QW id w (waitP w id d) := fun d => QW.own hid.1 (r' := { runAt w id with state := 2, due := d }) rfl (.inr rfl)
  unfold stepP
  simp only
  split
  · exact own
  split
  · exact own
  split
  · split
    · exact fall_q w id _
    · exact own
  split
  · exact own
  split
  · unfold beginP
    split
    · exact own
    · have a1 : QW id w (addRunP w id (codeAt w (runAt w id).at_)) := by
        refine ⟨⟨fun _ => true, [(w.runs.length : Int) + 1], by simp only [addRunP]; rw [filt], by simp, fun x hx => ?_⟩, fun x _ ⟨x1, r, h2, h3⟩ => ⟨x1, r, ?_, h3⟩⟩
        · simp at hx; subst hx
          right
          rintro ⟨_, r, h2, _⟩
          have := (List.getElem?_eq_some_iff.1 h2).1
          omega
        · simp only [addRunP]; rw [List.getElem?_append_left (List.getElem?_eq_some_iff.1 h2).1]; exact h2
      exact a1.trans (QW.own hid.1 rfl (.inl rfl))
  split
  · unfold takeP
    split
    · exact QW.own hid.1 (r' := takeRun (runAt w id) _ _) rfl (.inl rfl)
    · split
      · exact wait _
      · split
        · exact own
        · exact wait _
  split
  · exact own
  split
  · exact own
  split
  · exact own
  split
  · exact fall_q w id _
  unfold otherP
  simp only
  have nx : QW id w (setRun w id (nextRun (runAt w id))) := own
  split
  · exact fall_q w id _
  split
  · exact nx.trans (give_q _ _ _)
  split
  · exact nx.trans (give_q _ _ _)
  split
  · exact nx
  split
  · unfold watchP
    exact nx.trans (watched_q _ _ _)
  split
  · unfold linkP
    simp only
    exact (nx.trans (links_q _ _ _)).trans (links_q _ _ _)
  exact nx
theorem steps_q {id : Int} : ∀ (n : Nat) (w : PWorld), 1 ≤ id ∧ id ≤ w.runs.length → QW id w (stepsP n w id)
  | 0, w, _ => QW.refl w
  | n + 1, w, hid => by
    unfold stepsP
    split
    · have s := step_wk w (id := id) (by omega)
      exact (step_q w hid).trans (steps_q n _ (by have := s.len; omega))
    · exact QW.refl w
theorem turn_q (G : Good w) (hq : w.queue ≠ []) : ∃ (t : List Int), (turnP w).queue = (w.queue.filter fun k => decide (k ≠ headQ w) && !decide ((runAt (turnP w) k).state = 3)) ++ t := by
  have K := G.turnG
  obtain ⟨hid, h1⟩ := G.inv.head hq
  obtain ⟨C, _⟩ := G.countG hid
  have S := C.g.stepsG 3 (id := headQ w) (by have := C.k.len; omega)
  have c1 : QW (headQ w) w (countP' w (headQ w)) := QW.own hid.1 rfl (.inl rfl)
  have cs := c1.trans (steps_q (id := headQ w) 3 (countP' w (headQ w)) (by unfold countP'; rw [setRun_len]; exact hid))
  have tp : turnP w = backP (stepsP 3 (countP' w (headQ w)) (headQ w)) (headQ w) := by unfold turnP; rw [if_neg hq]
  have Gu := S.g
  generalize stepsP 3 (countP' w (headQ w)) (headQ w) = u at *
  obtain ⟨p, t, e, r, n⟩ := cs.q
  have key : ∃ p' t', (turnP w).queue = w.queue.filter p' ++ t' ∧ ∀ k ∈ w.queue, (p' k = true → k ≠ headQ w) ∧ (p' k = false → k = headQ w ∨ Dead (turnP w) k) := by
    rw [tp]
    by_cases g : (runAt u (headQ w)).state = 1
    · have eb : backP u (headQ w) = { u with queue := less u.queue (headQ w) ++ [headQ w] } := by unfold backP; rw [if_pos g]
      rw [eb]
      refine ⟨fun k => p k && decide (k ≠ headQ w), less t (headQ w) ++ [headQ w], ?_, fun k hk => ⟨fun hp => ?_, fun hp => ?_⟩⟩
      · simp only
        rw [e]
        unfold less
        rw [List.filter_append, List.filter_filter, List.append_assoc]
        congr 2
        funext k; exact Bool.and_comm _ _
      · simp at hp; exact hp.2
      · by_cases hh : k = headQ w
        · exact .inl hh
        · have : p k = false := by simpa [hh] using hp
          exact .inr ((r k hk this).resolve_left hh)
    · have eb : backP u (headQ w) = u := by unfold backP; rw [if_neg g]
      rw [eb]
      have nh : headQ w ∉ u.queue := fun hh => by
        obtain ⟨i, ei, r2, hr2, h12⟩ := (Gu.inv.mem _).1 hh
        refine g ?_
        rw [runAt_some (r := r2) (by rw [ei, show ((i : Int) + 1 - 1).toNat = i by omega]; exact hr2)]
        exact h12
      refine ⟨p, t, e, fun k hk => ⟨fun hp hh => ?_, fun hp => r k hk hp⟩⟩
      subst hh
      exact nh (by rw [e]; exact List.mem_append_left _ (List.mem_filter.2 ⟨hk, hp⟩))
  obtain ⟨p', t', e', q⟩ := key
  refine ⟨t', ?_⟩
  rw [e']
  congr 1
  apply List.filter_congr
  intro k hk
  by_cases hp : p' k = true
  · have ne := (q k hk).1 hp
    have hin : k ∈ (turnP w).queue := by rw [e']; exact List.mem_append_left _ (List.mem_filter.2 ⟨hk, hp⟩)
    obtain ⟨i, ei, r2, hr2, h12⟩ := (K.g.inv.mem _).1 hin
    have : (runAt (turnP w) k).state = 1 := by
      rw [runAt_some (r := r2) (by rw [ei, show ((i : Int) + 1 - 1).toNat = i by omega]; exact hr2)]
      exact h12
    simp [hp, ne, this]
  · have hp : p' k = false := by simpa using hp
    rcases (q k hk).2 hp with hh | ⟨_, r2, h2, h3⟩
    · rw [hp]; simp [hh]
    · rw [runAt_some h2]; simp [hp, h3]
end Go.Proofs.YtjopaifbpeojeaaGreat
