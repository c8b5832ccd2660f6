/-
  What functions of the seat answer, each proved once; each under the condition that cells bear what it is given, as its statement says.
-/
import Derived.Test.YtdpffdpgcooagaaGreatWalk4
import Derived.Test.YtdpffdpgcooagaaGreatWalk6
import Derived.Test.YtdpffdpgcooagaaGreatWalk11
import Derived.Test.YtdpffdpgcooagaaGreatWalk20
set_option linter.all false
/-
  THE LAWS' FUNCTIONS THAT LOOK AT WORLDS: what they answer.
-/
set_option maxRecDepth 8000
namespace Go.Proofs.YtdpffdpgcooagaaGreat
open Go.AM
variable {h : H}
theorem c_lvInts {s t : Cell} {xs ys : List Int} (hS : Sl h s 1 encI xs) (hT : Sl h t 1 encI ys) : Dz.den 40 [.c s, .c t] h = some (.c (.bool (decide (xs = ys))), h) := by
  refine den_plain rfl Tryz.func40 rfl rfl ?_
  by_cases hl : xs.length = ys.length
  rotate_left
  · have hl' : ¬ ((xs.length : Int) = ys.length) := by omega
    have hne : ¬ xs = ys := fun e => hl (by rw [e])
    simp [Tryz.f40, hS.lenA, hT.lenA, hl', hne]
  simp [Tryz.f40, hS.lenA, hT.lenA, hl]
  refine count_wp ys.length (fun i => ([.c s, .c t, .c (.bool false), .c (ci i)], [], [], h)) (fun i => xs.take i = ys.take i) rfl (by simp) ?_ ?_
  · intro i hi hP
    have hi' : i < xs.length := by omega
    rw [Wp_body]
    simp [hS.lenA, hi, hi', ixA_nat hS, hS.at, ixA_nat hT, hT.at, wrap_succ (hS.lt hi'), eq_take_succ hi' hi, hP, hl]
    exact ⟨by unfold LexOk; kernel_rfl, fun e => ne_of_get hi' hi e⟩
  · intro hP
    rw [← hl, List.take_length] at hP
    rw [Wp_body]
    simp [hS.lenA, hl]
    rw [hP, hl, List.take_length]
theorem c_lvVals {s t : Cell} {xs ys : List PVal} (hS : Sl h s 2 encV xs) (hT : Sl h t 2 encV ys) : Dz.den 23 [.c s, .c t] h = some (.c (.bool (decide (xs = ys))), h) := by
  refine den_plain rfl Tryz.func23 rfl rfl ?_
  by_cases hl : xs.length = ys.length
  rotate_left
  · have hl' : ¬ ((xs.length : Int) = ys.length) := by omega
    have hne : ¬ xs = ys := fun e => hl (by rw [e])
    simp [Tryz.f23, hS.lenA, hT.lenA, hl', hne]
  simp [Tryz.f23, hS.lenA, hT.lenA, hl]
  refine count_wp ys.length (fun i => ([.c s, .c t, .c (.bool false), .c (ci i)], [], [], h)) (fun i => xs.take i = ys.take i) rfl (by simp) ?_ ?_
  · intro i hi hP
    have hi' : i < xs.length := by omega
    rw [Wp_body]
    simp [hS.lenA, hi, hi', ixA_nat hS, hS.at, ixA_nat hT, hT.at, wrap_succ (hS.lt hi'), eq_take_succ hi' hi, hP, hl]
    refine ⟨by unfold LexOk; kernel_rfl, fun e => ne_of_get hi' hi fun q => by rw [q] at e; simp at e, fun e1 e2 => ?_⟩
    cases hx : xs[i]; cases hy : ys[i]; rw [hx, hy] at e1 e2; simp at e1 e2; rw [e1, e2]
  · intro hP
    rw [← hl, List.take_length] at hP
    rw [Wp_body]
    simp [hS.lenA, hl]
    rw [hP, hl, List.take_length]
theorem c_lvOps {s t : Cell} {xs ys : List POp} (hS : Sl h s 6 encO xs) (hT : Sl h t 6 encO ys) : Dz.den 20 [.c s, .c t] h = some (.c (.bool (decide (xs = ys))), h) := by
  refine den_plain rfl Tryz.func20 rfl rfl ?_
  by_cases hl : xs.length = ys.length
  rotate_left
  · have hl' : ¬ ((xs.length : Int) = ys.length) := by omega
    have hne : ¬ xs = ys := fun e => hl (by rw [e])
    simp [Tryz.f20, hS.lenA, hT.lenA, hl', hne]
  simp [Tryz.f20, hS.lenA, hT.lenA, hl]
  refine count_wp ys.length (fun i => ([.c s, .c t, .c (.bool false), .c (ci i)], [], [], h)) (fun i => xs.take i = ys.take i) rfl (by simp) ?_ ?_
  · intro i hi hP
    have hi' : i < xs.length := by omega
    have ip : intPair TTz 39 = true := by kernel_rfl
    have ip2 : isIntT TTz 3 = true := by kernel_rfl
    rw [Wp_body]
    simp [hS.lenA, hi, hi', ixA_nat hS, hS.at, ixA_nat hT, hT.at, wrap_succ (hS.lt hi'), eq_take_succ hi' hi, hP, hl, ip, ip2]
    have op : ∀ {a b : POp}, a.kind = b.kind → a.r = b.r → a.s = b.s → a.to = b.to → a.v.k = b.v.k → a.v.n = b.v.n → a = b := by
      rintro ⟨_, _, _, _, ⟨_, _⟩⟩ ⟨_, _, _, _, ⟨_, _⟩⟩ rfl rfl rfl rfl rfl rfl; rfl
    exact ⟨by unfold LexOk; kernel_rfl, ⟨fun e => ne_of_get hi' hi fun q => by rw [q] at e; simp at e, fun e1 e2 e3 e4 e5 e6 => op e1 e2 e3 e4 e5 e6⟩⟩
  · intro hP
    rw [← hl, List.take_length] at hP
    rw [Wp_body]
    simp [hS.lenA, hl]
    rw [hP, hl, List.take_length]
set_option maxRecDepth 8000 in
theorem c_lvRun {a b : PRun} {c d : RunC} (ha : RunR h a c) (hb : RunR h b d) : Dz.den 41 [.g (encR c), .g (encR d)] h = some (.c (.bool (decide (a = b))), h) := by
  refine den_plain rfl Tryz.func41 rfl rfl ?_
  have e1 := c_lvVals ha.slots hb.slots
  have e2 := c_lvVals ha.mail hb.mail
  have e3 := c_lvInts ha.links hb.links
  have e4 := c_lvInts ha.watched hb.watched
  obtain ⟨c1, c2, c3, c4, c5, c6, c7, c8, c9, c10, ⟨c11, c12⟩, c13⟩ := c
  obtain ⟨d1, d2, d3, d4, d5, d6, d7, d8, d9, d10, ⟨d11, d12⟩, d13⟩ := d
  obtain ⟨a1, a2, a3, a4, a5, a6, a7, a8, a9, a10, ⟨a11, a12⟩, a13⟩ := a
  obtain ⟨b1, b2, b3, b4, b5, b6, b7, b8, b9, b10, ⟨b11, b12⟩, b13⟩ := b
  obtain ⟨rfl, rfl, q1, rfl, q2, rfl, rfl, q3, q4, rfl, ew, rfl⟩ := ha
  obtain ⟨rfl, rfl, q5, rfl, q6, rfl, rfl, q7, q8, rfl, ew2, rfl⟩ := hb
  clear q1 q2 q3 q4 q5 q6 q7 q8
  simp only [PVal.mk.injEq] at ew ew2
  obtain ⟨rfl, rfl⟩ := ew
  obtain ⟨rfl, rfl⟩ := ew2
  simp only at e1 e2 e3 e4
  simp +contextual [Tryz.f41, e1, e2, e3, e4]
  grind
set_option maxRecDepth 8000 in
theorem c_lvWorld {a b : PWorld} {c d : WorldC} {cs ds : List RunC} (ha : WorldR h a c cs) (hb : WorldR h b d ds) : Dz.den 18 [.g (encW c), .g (encW d)] h = some (.c (.bool (decide (a = b))), h) := by
  refine den_plain rfl Tryz.func18 rfl rfl ?_
  have e1 := c_lvOps ha.code hb.code
  have e3 := c_lvInts ha.queue hb.queue
  have hS := ha.runs.sl
  have hT := hb.runs.sl
  have l1 := ha.runs.len
  have l2 := hb.runs.len
  have hx : (a = b) ↔ a.code = b.code ∧ a.runs = b.runs ∧ a.queue = b.queue ∧ c.now = d.now ∧ c.sent = d.sent ∧ c.taken = d.taken ∧ c.lost = d.lost := by
    rw [ha.now, hb.now, ha.sent, hb.sent, ha.taken, hb.taken, ha.lost, hb.lost]
    cases a; cases b; simp
  by_cases y1 : a.code = b.code
  rotate_left
  · simp [Tryz.f18, hx, e1, y1]
  by_cases y2 : a.runs.length = b.runs.length
  rotate_left
  · have z : ¬ a.runs = b.runs := fun e => y2 (by rw [e])
    have z' : ¬ (cs.length : Int) = ds.length := by omega
    simp [Tryz.f18, hx, e1, y1, hS.lenA, hT.lenA, z, z']
  have y2' : cs.length = ds.length := by omega
  by_cases y3 : a.queue = b.queue
  rotate_left
  · simp [Tryz.f18, hx, e1, y1, hS.lenA, hT.lenA, y2', e3, y3]
  by_cases y4 : c.now = d.now
  rotate_left
  · simp [Tryz.f18, hx, e1, y1, hS.lenA, hT.lenA, y2', e3, y3, y4]
  by_cases y5 : c.sent = d.sent
  rotate_left
  · simp [Tryz.f18, hx, e1, y1, hS.lenA, hT.lenA, y2', e3, y3, y4, y5]
  by_cases y6 : c.taken = d.taken
  rotate_left
  · simp [Tryz.f18, hx, e1, y1, hS.lenA, hT.lenA, y2', e3, y3, y4, y5, y6]
  by_cases y7 : c.lost = d.lost
  rotate_left
  · simp [Tryz.f18, hx, e1, y1, hS.lenA, hT.lenA, y2', e3, y3, y4, y5, y6, y7]
  simp [Tryz.f18, hx, e1, y1, hS.lenA, hT.lenA, y2', e3, y3, y4, y5, y6, y7]
  refine count_wp ds.length (fun i => ([.c (.bool false), .c (ci i)], [[c.code, c.runs, c.queue, .int .i64 d.now, .int .i64 d.sent, .int .i64 d.taken, .int .i64 d.lost], encW d], [], h)) (fun i => a.runs.take i = b.runs.take i) rfl (by simp) ?_ ?_
  · intro i hi hP
    have hi' : i < cs.length := by omega
    have hx' : i < a.runs.length := by omega
    have hy : i < b.runs.length := by omega
    have e := c_lvRun (ha.runs.each i hx') (hb.runs.each i hy)
    simp only [encR] at e
    rw [Wp_body]
    simp [hS.lenA, hi, hi', ixA_nat hS, hS.at, ixA_nat hT, hT.at, wrap_succ (hS.lt hi'), eq_take_succ hx' hy, hP, y2', e]
    exact ⟨by unfold LexOk; kernel_rfl, fun e q => ne_of_get hx' hy e (by rw [q])⟩
  · intro hP
    rw [List.take_of_length_le (by omega), List.take_of_length_le (by omega)] at hP
    rw [Wp_body]
    simp [hS.lenA, y2']
    exact hx.2 ⟨y1, hP, y3, y4, y5, y6, y7⟩
theorem mailSum_take_le (rs : List PRun) (i : Nat) : mailSum (rs.take i) ≤ mailSum rs := by
  have h := mailSum_app (rs.take i) (rs.drop i)
  rw [List.take_append_drop] at h
  have := mailSum_nn (rs.drop i)
  omega
theorem c_lvSum {w : PWorld} {c : WorldC} {cs : List RunC} (ha : WorldR h w c cs) (hm : mailSum w.runs ≤ 1000000) (ht : 0 ≤ w.taken ∧ w.taken ≤ 1000000) (hl : 0 ≤ w.lost ∧ w.lost ≤ 1000000) :
    Dz.den 28 [.g (encW c)] h = some (.c (.bool (decide (w.sent = w.taken + w.lost + mailSum w.runs))), h) := by
  refine den_plain rfl Tryz.func28 rfl rfl ?_
  have hS := ha.runs.sl
  have hlen := ha.runs.len
  simp [Tryz.f28]
  refine count_wp cs.length (fun i => ([.c (.bool false), .c (.int .i64 (mailSum (w.runs.take i))), .c (ci i)], [encW c], [], h)) (fun _ => True) (by simp [mailSum]) trivial ?_ ?_
  · intro i hi _
    have hi' : i < w.runs.length := by omega
    have e := (ha.runs.each i hi').mail
    have n1 := mailSum_take_le w.runs (i + 1)
    have n2 := mailSum_nn (w.runs.take i)
    have n3 : mailSum (w.runs.take (i + 1)) = mailSum (w.runs.take i) + w.runs[i].mail.length := by
      rw [List.take_succ_eq_append_getElem hi', mailSum_app]; simp [mailSum]
    have w1 : IntKind.i64.wrap (mailSum (w.runs.take i) + w.runs[i].mail.length) = mailSum (w.runs.take (i + 1)) := by rw [n3]; exact wrapS (by omega) (by omega)
    rw [Wp_body]
    simp [hS.lenA, hi, hi', ixA_nat hS, hS.at, e.lenA, w1, wrap_succ (hS.lt hi)]
  · intro _
    have e1 : w.runs.take cs.length = w.runs := List.take_of_length_le (by omega)
    have n2 := mailSum_nn w.runs
    have w1 : IntKind.i64.wrap (w.taken + w.lost) = w.taken + w.lost := wrapS (by omega) (by omega)
    have w2 : IntKind.i64.wrap (w.taken + w.lost + mailSum w.runs) = w.taken + w.lost + mailSum w.runs := wrapS (by omega) (by omega)
    rw [Wp_body]
    simp [hS.lenA, e1, ha.taken, ha.lost, ha.sent, w1, w2]
theorem c_lvState {w : PWorld} {c : WorldC} {cs : List RunC} (ha : WorldR h w c cs) (id : Int) :
    Dz.den 22 [.g (encW c), .c (.int .i64 id)] h = some (.c (.int .i64 (if 1 ≤ id ∧ id ≤ w.runs.length then (runAt w id).state else 0)), h) := by
  refine den_plain rfl Tryz.func22 rfl rfl ?_
  have hS := ha.runs.sl
  have hlen := ha.runs.len
  by_cases h1 : id < 1
  · rw [if_neg (by omega)]
    simp [Tryz.f22, h1]
  by_cases h2 : (cs.length : Int) < id
  · rw [if_neg (by omega)]
    simp [Tryz.f22, h1, hS.lenA, h2]
  rw [if_pos (by omega)]
  obtain ⟨i, e, hi, er, ei⟩ := runAt_eq (w := w) (id := id) (by omega)
  have hi' : i < cs.length := by omega
  have lt := hS.lt hi'
  have w1 : IntKind.i64.wrap (id - 1) = (i : Int) := by unfold sMost at lt; rw [wrap_i64 (by omega) (by omega)]; omega
  have e2 := (ha.runs.each i hi).state
  rw [er]
  simp [Tryz.f22, h1, hS.lenA, h2, w1, ixA_nat hS, hi', hS.at, e2]
theorem c_lvAmong {s : Cell} {xs : List Int} (hS : Sl h s 1 encI xs) (n : Int) : Dz.den 30 [.c s, .c (.int .i64 n)] h = some (.c (.bool (decide (n ∈ xs))), h) := by
  refine den_plain rfl Tryz.func30 rfl rfl ?_
  simp [Tryz.f30]
  refine count_wp xs.length (fun i => ([.c s, .c (.int .i64 n), .c (.bool false), .c (ci i)], [], [], h)) (fun i => n ∉ xs.take i) (by simp) (by simp) ?_ ?_
  · intro i hi hP
    have e : n ∉ xs.take (i + 1) ↔ ¬ xs[i] = n := by
      rw [List.take_succ_eq_append_getElem hi, List.mem_append, List.mem_singleton]
      exact ⟨fun q1 q2 => q1 (.inr q2.symm), fun q1 q2 => q2.elim hP fun q3 => q1 q3.symm⟩
    rw [Wp_body]
    simp [hS.lenA, hi, ixA_nat hS, hS.at, wrap_succ (hS.lt hi), e]
    exact fun q => q ▸ List.getElem_mem _
  · intro hP
    rw [List.take_length] at hP
    rw [Wp_body]
    simp [hS.lenA, hP]
theorem c_lvBit {b s : Int} (hb : 0 ≤ b ∧ b ≤ 1000) (hs : 0 ≤ s ∧ s ≤ 1000) : Dz.den 33 [.c (.int .i64 b), .c (.int .i64 s)] h = some (.c (.bool (has b s)), h) := by
  refine den_plain rfl Tryz.func33 rfl rfl ?_
  obtain ⟨n, rfl⟩ : ∃ n : Nat, s = n := ⟨s.toNat, by omega⟩
  simp [Tryz.f33]
  refine count_wp n (fun i => ([.c (.int .i64 (b / 2 ^ i)), .c (.int .i64 n), .c (.bool false), .c (ci i)], [], [], h)) (fun _ => True) (by simp) trivial ?_ ?_
  · intro i hi _
    have w1 : IntKind.i64.wrap ((i : Int) + 1) = (i : Int) + 1 := wrapS (by omega) (by omega)
    have p1 : (0 : Int) < 2 ^ i := Int.pow_pos (by decide)
    have q0 : 0 ≤ b / 2 ^ i := Int.ediv_nonneg hb.1 (Int.le_of_lt p1)
    have q1 : b / 2 ^ i ≤ b := Int.ediv_le_self _ hb.1
    have q2 : IntKind.i64.wrap ((b / 2 ^ i).tdiv 2) = b / 2 ^ (i + 1) := by
      rw [Int.tdiv_eq_ediv_of_nonneg q0, wrapS (by omega) (by omega), Int.pow_succ, Int.ediv_ediv_of_nonneg (Int.le_of_lt p1)]
    rw [Wp_body]
    simp [hi, w1, q2]
  · intro _
    have p1 : (0 : Int) < 2 ^ n := Int.pow_pos (by decide)
    have q0 : 0 ≤ b / 2 ^ n := Int.ediv_nonneg hb.1 (Int.le_of_lt p1)
    rw [Wp_body]
    simp [has, Int.tmod_eq_emod_of_nonneg q0]
end Go.Proofs.YtdpffdpgcooagaaGreat

/-
  WORLDS IN PLAIN DATA: what a change leaves of a run.
-/
set_option maxRecDepth 8000
namespace Go.Proofs.YtdpffdpgcooagaaGreat
variable {w w' : PWorld}
/-- A run is as it was, but for its mail, whom it is linked with, who watches it, and whether it goes. -/
structure RunK (r r' : PRun) : Prop where
  id : r'.id = r.id
  at_ : r'.at_ = r.at_
  full : r'.full = r.full
  slots : r'.slots = r.slots
  trap : r'.trap = r.trap
  turns : r'.turns = r.turns
  mail : r'.state = 3 ∨ r.mail <+: r'.mail
  ended : r.state = 3 → r'.state = 3
theorem RunK.refl (r : PRun) : RunK r r := ⟨rfl, rfl, rfl, rfl, rfl, rfl, .inr (List.prefix_refl _), fun h => h⟩
theorem RunK.trans {a b c : PRun} (x : RunK a b) (y : RunK b c) : RunK a c :=
  ⟨y.id.trans x.id, y.at_.trans x.at_, y.full.trans x.full, y.slots.trans x.slots, y.trap.trans x.trap, y.turns.trans x.turns, by
    rcases y.mail with h | h
    · exact .inl h
    · rcases x.mail with g | g
      · exact .inl (y.ended g)
      · exact .inr (g.trans h), fun h => y.ended (x.ended h)⟩
/-- All runs but those of 'p' are as they were; at most 'n' are new, of 'id'. -/
structure WK (p : Nat → Prop) (n : Nat) (id : Int) (w w' : PWorld) : Prop where
  len : w.runs.length ≤ w'.runs.length
  len2 : w'.runs.length ≤ w.runs.length + n
  each : ∀ (i : Nat) r, ¬ p i → w.runs[i]? = some r → ∃ r', w'.runs[i]? = some r' ∧ RunK r r'
  turns : ∀ (i : Nat) r, w.runs[i]? = some r → ∃ r', w'.runs[i]? = some r' ∧ r'.turns = r.turns
  new : ∀ (j : Nat) r', w.runs.length ≤ j → w'.runs[j]? = some r' → ∃ k to, RunK (newRun k to ⟨3, id⟩) r'
variable {p : Nat → Prop} {n m : Nat} {id : Int}
theorem WK.eq (e : w'.runs = w.runs) : WK p 0 id w w' :=
  ⟨by rw [e]; exact Nat.le_refl _, by rw [e]; exact Nat.le_refl _, fun i r _ h => ⟨r, by rw [e]; exact h, RunK.refl r⟩, fun i r h => ⟨r, by rw [e]; exact h, rfl⟩, fun j r' hj h => by
    rw [e, List.getElem?_eq_none hj] at h; cases h⟩
theorem WK.refl (w : PWorld) : WK p 0 id w w := WK.eq rfl
theorem WK.trans {a b c : PWorld} (x : WK p n id a b) (y : WK p m id b c) (hp : ∀ j, p j → j < a.runs.length) : WK p (n + m) id a c :=
  ⟨Nat.le_trans x.len y.len, by have := x.len2; have := y.len2; omega, fun i r hi h => by
    obtain ⟨r1, h1, k1⟩ := x.each i r hi h
    obtain ⟨r2, h2, k2⟩ := y.each i r1 hi h1
    exact ⟨r2, h2, k1.trans k2⟩, fun i r h => by
    obtain ⟨r1, h1, k1⟩ := x.turns i r h
    obtain ⟨r2, h2, k2⟩ := y.turns i r1 h1
    exact ⟨r2, h2, k2.trans k1⟩, fun j r2 hj h => by
    by_cases hb : b.runs.length ≤ j
    · exact y.new j r2 hb h
    · have hg : b.runs[j]? = some (b.runs[j]'(by omega)) := List.getElem?_eq_getElem (by omega)
      obtain ⟨k, to, q⟩ := x.new j _ hj hg
      obtain ⟨r3, h3, q3⟩ := y.each j _ (fun hh => by have := hp j hh; omega) hg
      rw [h] at h3; cases h3
      exact ⟨k, to, q.trans q3⟩⟩
theorem WK.mono {q : Nat → Prop} (x : WK p n id w w') (h : ∀ i, p i → q i) : WK q n id w w' := ⟨x.len, x.len2, fun i r hi hr => x.each i r (fun hh => hi (h i hh)) hr, x.turns, x.new⟩
theorem WK.le (x : WK p n id w w') (h : n ≤ m) : WK p m id w w' := ⟨x.len, by have := x.len2; omega, x.each, x.turns, x.new⟩
theorem WK.set {i : Nat} {r' : PRun} (e : w'.runs = w.runs.set i r') (h : ∀ r, w.runs[i]? = some r → (p i ∧ r'.turns = r.turns) ∨ RunK r r') : WK p 0 id w w' := by
  refine ⟨by rw [e]; simp, by rw [e]; simp, fun j r hj hr => ?_, fun j r hr => ?_, fun j r2 hj hr => ?_⟩
  · by_cases hij : i = j
    · subst hij
      have hl := (List.getElem?_eq_some_iff.1 hr).1
      refine ⟨r', by rw [e]; simp [hl], ?_⟩
      rcases h r hr with ⟨h1, _⟩ | h1
      · exact absurd h1 hj
      · exact h1
    · exact ⟨r, by rw [e, List.getElem?_set_ne hij]; exact hr, RunK.refl r⟩
  · by_cases hij : i = j
    · subst hij
      have hl := (List.getElem?_eq_some_iff.1 hr).1
      refine ⟨r', by rw [e]; simp [hl], ?_⟩
      rcases h r hr with ⟨_, h1⟩ | h1
      · exact h1
      · exact h1.turns
    · exact ⟨r, by rw [e, List.getElem?_set_ne hij]; exact hr, rfl⟩
  · rw [e, List.getElem?_eq_none (by simpa using hj)] at hr; cases hr
theorem WK.map {f : PRun → PRun} (e : w'.runs = w.runs.map f) (h : ∀ r, RunK r (f r)) : WK p 0 id w w' :=
  ⟨by rw [e]; simp, by rw [e]; simp, fun i r _ hr => ⟨f r, by rw [e, List.getElem?_map, hr]; rfl, h r⟩, fun i r hr => ⟨f r, by rw [e, List.getElem?_map, hr]; rfl, (h r).turns⟩, fun j r2 hj hr => by
    rw [e, List.getElem?_eq_none (by simpa using hj)] at hr; cases hr⟩
theorem runAt_some {k : Int} {r : PRun} (h : w.runs[(k - 1).toNat]? = some r) : runAt w k = r := by unfold runAt; rw [h]; rfl
theorem WK.setRun {k : Int} {r' : PRun} (h : ∀ r, runAt w k = r → (p (k - 1).toNat ∧ r'.turns = r.turns) ∨ RunK r r') : WK p 0 id w (setRun w k r') :=
  WK.set (i := (k - 1).toNat) rfl fun r hr => h r (runAt_some hr)
theorem give_wk (w : PWorld) (k : Int) (v : PVal) : WK p 0 id w (giveP w k v) := by
  unfold giveP
  split
  · rename_i t
    obtain ⟨_, t2, _⟩ := t
    split
    · refine WK.set rfl fun r hr => ?_
      have := runAt_some hr
      rw [this] at t2 ⊢
      exact .inr ⟨rfl, rfl, rfl, rfl, rfl, rfl, .inr (List.prefix_append _ _), fun h => absurd h t2⟩
    · refine WK.set rfl fun r hr => ?_
      have := runAt_some hr
      rw [this] at t2 ⊢
      exact .inr ⟨rfl, rfl, rfl, rfl, rfl, rfl, .inr (List.prefix_append _ _), fun h => absurd h t2⟩
  · exact WK.eq rfl
theorem WK.trans0 {a b c : PWorld} (x : WK (fun _ => False) 0 id a b) (y : WK (fun _ => False) m id b c) : WK (fun _ => False) m id a c := (x.trans y (fun _ h => h.elim)).le (by omega)
theorem tell_wk (k : Int) : ∀ (ks : List Int) (w : PWorld), WK (fun _ => False) 0 id w (tell k w ks)
  | [], w => WK.refl w
  | a :: ks, w => by
    unfold tell
    rw [List.foldl_cons]
    exact (give_wk w a _).trans0 (tell_wk k ks _)
theorem linkStep_wk (k : Int) (why : PVal) (x : PWorld × List Int) (a : Int) : WK (fun _ => False) 0 id x.1 (linkStep k why x a).1 := by
  have s : WK (fun _ => False) 0 id x.1 (setRun x.1 a { runAt x.1 a with links := less (runAt x.1 a).links k }) :=
    WK.setRun fun r hr => .inr (by rw [hr]; exact ⟨rfl, rfl, rfl, rfl, rfl, rfl, .inr (List.prefix_refl _), fun h => h⟩)
  unfold linkStep
  split
  · exact s
  · split
    · exact s.trans0 (give_wk _ _ _)
    · exact s
theorem endLinks_wk (k : Int) (why : PVal) : ∀ (ks : List Int) (x : PWorld × List Int), WK (fun _ => False) 0 id x.1 (ks.foldl (linkStep k why) x).1
  | [], x => WK.refl _
  | a :: ks, x => by
    rw [List.foldl_cons]
    exact (linkStep_wk k why x a).trans0 (endLinks_wk k why ks _)
theorem endP_wk (w : PWorld) (k : Int) (why : PVal) : WK (fun _ => False) 0 id w (endP w k why).1 := by
  have b : WK (fun _ => False) 0 id w (endBase w k why) := by
    have b1 : WK (fun _ => False) 0 id w (setRun w k (clearRun (runAt w k) why)) := WK.setRun fun r hr => .inr (by
      rw [hr]; exact ⟨rfl, rfl, rfl, rfl, rfl, rfl, .inl rfl, fun _ => rfl⟩)
    have b2 : WK (fun _ => False) 0 id (setRun w k (clearRun (runAt w k) why)) (endBase w k why) := WK.map (f := unwatch k) rfl fun r => ⟨rfl, rfl, rfl, rfl, rfl, rfl, .inr (List.prefix_refl _), fun h => h⟩
    exact b1.trans0 b2
  unfold endP
  exact (b.trans0 (endLinks_wk k why _ (endBase w k why, []))).trans0 (tell_wk k _ _)
theorem fallN_wk (why : PVal) : ∀ (n : Nat) (w : PWorld) (ks : List Int), WK (fun _ => False) 0 id w (fallN n w ks why)
  | 0, w, ks => WK.refl w
  | n + 1, w, [] => WK.refl w
  | n + 1, w, k :: ks => by
    unfold fallN
    split
    · exact (endP_wk w k why).trans0 (fallN_wk why n _ _)
    · exact fallN_wk why n w ks
theorem fall_wk (w : PWorld) (k : Int) (why : PVal) : WK (fun _ => False) 0 id w (fallP w k why) := fallN_wk why 64 w [k]
theorem tickTo_wk (w : PWorld) : ∀ i, WK (fun _ => False) 0 id w (tickTo w i)
  | 0 => WK.refl w
  | i + 1 => by
    refine (tickTo_wk w i).trans0 ?_
    rw [tickTo]
    unfold tickAt
    generalize tickTo w i = v
    cases hr : v.runs[i]? with
    | none => exact WK.refl _
    | some r =>
      simp only
      split
      · rename_i c
        refine WK.set rfl fun r2 h2 => .inr ?_
        rw [hr] at h2; cases h2
        exact ⟨rfl, rfl, rfl, rfl, rfl, rfl, .inr (List.prefix_refl _), fun h => by rw [c.1] at h; cases h⟩
      · exact WK.refl _
theorem tick_wk (w : PWorld) : WK (fun _ => False) 0 id w (tickP w) := by
  unfold tickP
  split
  · exact WK.refl w
  · exact WK.trans0 (a := w) (b := { w with now := w.now + 1 }) (WK.eq rfl) (tickTo_wk _ _)
theorem WK.any (x : WK (fun _ => False) n id w w') : WK p n id w w' := x.mono fun _ h => h.elim
/-- A step leaves the others as they are, and all turns. -/
theorem step_wk (w : PWorld) {id : Int} (hi : (id - 1).toNat < w.runs.length) : WK (fun i => i = (id - 1).toNat) 1 id w (stepP w id) := by
  have hp : ∀ j, j = (id - 1).toNat → j < w.runs.length := fun j e => by omega
  have own : ∀ {r' : PRun}, r'.turns = (runAt w id).turns → WK (fun i => i = (id - 1).toNat) 1 id w (Go.Proofs.YtdpffdpgcooagaaGreat.setRun w id r') := fun h =>
    (WK.setRun (p := fun i => i = (id - 1).toNat) (fun r hr => .inl ⟨rfl, by rw [h, hr]⟩)).le (by omega)
  have own0 : ∀ {w2 : PWorld} {r' : PRun}, w2.runs = w.runs.set (id - 1).toNat r' → r'.turns = (runAt w id).turns → WK (fun i => i = (id - 1).toNat) 0 id w w2 := fun e h =>
    WK.set e fun r hr => .inl ⟨rfl, by rw [h, runAt_some hr]⟩
  have set : ∀ slot v, WK (fun i => i = (id - 1).toNat) 1 id w (setP w id slot v) := fun slot v => own rfl
  have wait : ∀ d, WK (fun i => i = (id - 1).toNat) 1 id w (waitP w id d) := fun d => (own0 (r' := { runAt w id with state := 2, due := d }) rfl rfl).le (by omega)
  unfold stepP
  simp only
  split
  · exact set _ _
  split
  · exact set _ _
  split
  · split
    · exact ((fall_wk w id _).any).le (by omega)
    · exact set _ _
  split
  · exact set _ _
  split
  · unfold beginP
    split
    · exact set _ _
    · have a1 : WK (fun i => i = (id - 1).toNat) 1 id w (addRunP w id (codeAt w (runAt w id).at_)) := by
        refine ⟨by simp [addRunP], by simp [addRunP], fun i r _ hr => ⟨r, ?_, RunK.refl r⟩, fun i r hr => ⟨r, ?_, rfl⟩, fun j r' hj hr => ?_⟩
        · simp only [addRunP]; rw [List.getElem?_append_left (List.getElem?_eq_some_iff.1 hr).1]; exact hr
        · simp only [addRunP]; rw [List.getElem?_append_left (List.getElem?_eq_some_iff.1 hr).1]; exact hr
        · simp only [addRunP] at hr
          rw [List.getElem?_append_right hj] at hr
          cases hd : j - w.runs.length with
          | zero => rw [hd] at hr; simp at hr; subst hr; exact ⟨_, _, RunK.refl _⟩
          | succ q => rw [hd] at hr; simp at hr
      have hr : ∀ x, runAt (addRunP w id (codeAt w (runAt w id).at_)) id = x → x = runAt w id := fun x hx => by
        rw [← hx]; unfold runAt addRunP; simp only; rw [List.getElem?_append_left hi]
      exact (a1.trans (m := 0) (WK.setRun fun x hx => .inl ⟨rfl, by rw [hx]; rfl⟩) hp).le (by omega)
  split
  · unfold takeP
    split
    · exact (own0 (r' := takeRun (runAt w id) _ _) rfl rfl).le (by omega)
    · split
      · exact wait _
      · split
        · exact own rfl
        · exact wait _
  split
  · exact own rfl
  split
  · exact own rfl
  split
  · exact own rfl
  split
  · exact ((fall_wk w id _).any).le (by omega)
  unfold otherP
  simp only
  have nx : WK (fun i => i = (id - 1).toNat) 0 id w (Go.Proofs.YtdpffdpgcooagaaGreat.setRun w id (nextRun (runAt w id))) := WK.setRun fun r hr => .inl ⟨rfl, by rw [hr]; rfl⟩
  split
  · exact ((fall_wk w id _).any).le (by omega)
  split
  · exact (nx.trans (give_wk _ _ _) hp).le (by omega)
  split
  · exact (nx.trans (give_wk _ _ _) hp).le (by omega)
  split
  · exact nx.le (by omega)
  split
  · unfold watchP
    exact (nx.trans (m := 0) (WK.setRun fun r hr => .inr (by rw [hr]; exact ⟨rfl, rfl, rfl, rfl, rfl, rfl, .inr (List.prefix_refl _), fun h => h⟩)) hp).le (by omega)
  split
  · unfold linkP
    simp only
    refine ((nx.trans (m := 0) (WK.setRun fun r hr => .inr (by rw [hr]; exact ⟨rfl, rfl, rfl, rfl, rfl, rfl, .inr (List.prefix_refl _), fun h => h⟩)) hp).trans (m := 0) (WK.setRun fun r hr => .inr (by rw [hr]; exact ⟨rfl, rfl, rfl, rfl, rfl, rfl, .inr (List.prefix_refl _), fun h => h⟩)) hp).le (by omega)
  exact nx.le (by omega)
theorem steps_wk {id : Int} : ∀ (n : Nat) (w : PWorld), (id - 1).toNat < w.runs.length → WK (fun i => i = (id - 1).toNat) n id w (stepsP n w id)
  | 0, w, _ => WK.refl w
  | n + 1, w, hi => by
    unfold stepsP
    split
    · have s := step_wk w hi
      exact (s.trans (steps_wk n _ (Nat.lt_of_lt_of_le hi s.len)) fun j e => by omega).le (by omega)
    · exact (WK.refl w).le (by omega)
end Go.Proofs.YtdpffdpgcooagaaGreat

/-
  WHAT PlayRun ANSWERS, by the reference and by the program.
-/
set_option maxRecDepth 8000
namespace Go.Proofs.YtdpffdpgcooagaaGreat
open Go.AM
variable {h h' k : H} {lo : Nat} {w : PWorld} {c : WorldC} {st cs : List RunC}
def PlayRQ (h : H) (code : List POp) (evs : List PEvent) (x : V × H) : Prop := ∃ k c' cs', x = (.t [.g (encW c'), .c (.bool (tt (PlayRun1 code evs)))], k) ∧ Ext h k ∧ WorldV h.length k (playRunP code evs) c' cs' cs'
theorem playTo_sent {code : List POp} (S : CodeSafe code) (evs : List PEvent) {i : Nat} (hi : i ≤ 80) : (playTo code evs i).sent < 9000 := by
  obtain ⟨G, hp⟩ := playTo_good S evs i
  have := sent_phi (playTo code evs i); omega
theorem playTo_room {code : List POp} (S : CodeSafe code) (evs : List PEvent) {i : Nat} (hi : i ≤ 80) : Room (playTo code evs i) :=
  ⟨(ok_iff _).2 ⟨(playTo_good S evs i).1, by have := playTo_sent S evs hi; omega⟩, playTo_sent S evs hi⟩
set_option maxRecDepth 16000 in
theorem c_PlayRun {s t : Cell} {code : List POp} {evs : List PEvent} (hS : Sl h s 6 encO code) (hu : Un s) (hl : code.length ≤ lenMost) (hT : Sl h t 4 encE evs) : @Wp _ (Dz.den 17 [.c s, .c t] h) ⟨PlayRQ h code evs⟩ := by
  refine den_wp rfl Tryz.func17 rfl ?_
  obtain ⟨_, e1, h1, c1, cs1, rfl, x1, v1⟩ := c_WorldNew hS hu hl
  have eT := fun e => (hT.ext x1).lenA (e := e)
  unfold PlayRQ playRunP
  unfold worldNewP at v1
  by_cases a : CodeSafe code
  · have a' : tt (CodeSafe code) = true := by simpa using a
    rw [if_pos a] at v1
    rw [a'] at e1
    simp only [encW] at e1
    by_cases b : evs.length ≤ 80
    · have ab : tt (PlayRun1 code evs) = true := by simp [PlayRun1, a, b]
      have b' : ¬ (80 : Int) < evs.length := by omega
      rw [ab, if_pos (show PlayRun1 code evs from ⟨a, b⟩)]
      simp [Tryz.f17, e1, eT, b']
      refine count_wpG (σ := H × WorldC × List RunC) evs.length (fun i g => ([.c t, .c (.bool false), .c (ci i)], [zeroW, encW g.2.1], [], g.1))
        (fun i g => WorldV h.length g.1 (playTo code evs i) g.2.1 g.2.2 g.2.2 ∧ Ext h g.1) (h1, c1, cs1) ?_ ⟨v1, x1⟩ ?_ ?_
      · simp [zeroW]
      · rintro i ⟨k, c2, cs2⟩ hi ⟨v, x⟩
        simp only at v x ⊢
        obtain ⟨G2, ph⟩ := playTo_good a evs i
        have hT2 := hT.ext x
        obtain ⟨_, e2, k2, c3, cs3, rfl, v2, s2⟩ := c_l22Do v G2 (by have := sent_phi (playTo code evs i); omega) evs[i]
        have wj : IntKind.i64.wrap ((i : Int) + 1) = (i : Int) + 1 := wrapS (by omega) (by omega)
        have eg : evs[i]?.getD default = evs[i] := by simp [hi]
        simp only [encW, encE] at e2
        rw [Wp_body]
        simp [fun e => hT2.lenA (e := e), hi, ixA_nat hT2, hT2.at, e2, wj]
        refine ⟨by kernel_rfl, k2, c3, ⟨⟨rfl, rfl, rfl, rfl, rfl, rfl, rfl⟩, rfl⟩, ⟨cs3, ?_⟩, s2.ext (fun id ho => v.own.owned_ge id ho) x (Nat.le_refl _)⟩
        simp only [playTo, eg]; exact v2
      · rintro ⟨k, c2, cs2⟩ ⟨v, x⟩
        simp only at v x ⊢
        rw [Wp_body]
        simp [fun e => (hT.ext x).lenA (e := e), zeroW]
        exact ⟨rfl, k, c2, ⟨⟨rfl, rfl, rfl, rfl, rfl, rfl, rfl⟩, rfl⟩, x, cs2, v⟩
    · have nb : ¬ PlayRun1 code evs := fun hh => b hh.2
      have ab : tt (PlayRun1 code evs) = false := by simpa using nb
      have b' : (80 : Int) < evs.length := by omega
      rw [ab, if_neg nb]
      simp [Tryz.f17, e1, eT, b']
      exact ⟨rfl, h1, ⟨.nils, .nils, .nils, 0, 0, 0, 0⟩, ⟨⟨rfl, rfl, rfl, rfl, rfl, rfl, rfl⟩, rfl⟩, x1, _, (emptyV h).ext x1⟩
  · have a' : tt (CodeSafe code) = false := by simpa using a
    have nb : ¬ PlayRun1 code evs := fun hh => a hh.1
    have ab : tt (PlayRun1 code evs) = false := by simpa using nb
    rw [a'] at e1
    simp only [encW] at e1
    rw [ab, if_neg nb]
    simp [Tryz.f17, e1]
    exact ⟨rfl, h1, ⟨.nils, .nils, .nils, 0, 0, 0, 0⟩, ⟨⟨rfl, rfl, rfl, rfl, rfl, rfl, rfl⟩, rfl⟩, x1, _, (emptyV h).ext x1⟩
set_option maxRecDepth 16000 in
theorem c_IPlayRun {s t : Cell} {code : List POp} {evs : List PEvent} (hS : Sl h s 6 encO code) (hu : Un s) (hl : code.length ≤ lenMost) (hT : Sl h t 4 encE evs) : @Wp _ (Dz.den 16 [.c s, .c t] h) ⟨PlayRQ h code evs⟩ := by
  refine den_wp rfl Tryz.func16 rfl ?_
  obtain ⟨_, e1, h1, c1, cs1, rfl, x1, v1⟩ := c_IWorldNew hS hu hl
  have eT := fun e => (hT.ext x1).lenA (e := e)
  unfold PlayRQ playRunP
  unfold worldNewP at v1
  by_cases a : CodeSafe code
  · have a' : tt (CodeSafe code) = true := by simpa using a
    rw [if_pos a] at v1
    rw [a'] at e1
    simp only [encW] at e1
    by_cases b : evs.length ≤ 80
    · have ab : tt (PlayRun1 code evs) = true := by simp [PlayRun1, a, b]
      have b' : ¬ (80 : Int) < evs.length := by omega
      rw [ab, if_pos (show PlayRun1 code evs from ⟨a, b⟩)]
      simp [Tryz.f16, e1, eT, b']
      refine count_wpG (σ := H × WorldC × List RunC) evs.length (fun i g => ([.c (.bool false), .c t, .c (ci evs.length), .c (ci i)], [zeroW, encW g.2.1], [], g.1))
        (fun i g => WorldV h.length g.1 (playTo code evs i) g.2.1 g.2.2 g.2.2 ∧ Ext h g.1) (h1, c1, cs1) ?_ ⟨v1, x1⟩ ?_ ?_
      · simp [zeroW]
      · rintro i ⟨k, c2, cs2⟩ hi ⟨v, x⟩
        simp only at v x ⊢
        have hT2 := hT.ext x
        obtain ⟨_, e2, k2, c3, cs3, rfl, x2, v2⟩ := c_IPlayDo v evs[i]
        have wj : IntKind.i64.wrap ((i : Int) + 1) = (i : Int) + 1 := wrapS (by omega) (by omega)
        have eg : evs[i]?.getD default = evs[i] := by simp [hi]
        have er : playDoP (playTo code evs i) evs[i] = playTo code evs (i + 1) := by
          unfold playDoP
          rw [if_pos (by simpa using playTo_room a evs (by omega))]
          simp only [playTo, eg]
        rw [er] at v2
        simp only [encW, encE] at e2
        rw [Wp_body]
        simp [hi, ixA_nat hT2, hT2.at, e2, wj]
        exact ⟨k2, c3, ⟨⟨rfl, rfl, rfl, rfl, rfl, rfl, rfl⟩, rfl⟩, ⟨cs3, ⟨v2.code, v2.runs, v2.stl, v2.len, v2.each, v2.queue, v2.now, v2.sent, v2.taken, v2.lost, ⟨fun k id hid => Nat.le_trans x.1 (v2.own.ge k id hid), v2.own.wr, v2.own.one, v2.own.un⟩, Nat.le_trans x.1 v2.lo_le⟩⟩, x.trans x2⟩
      · rintro ⟨k, c2, cs2⟩ ⟨v, x⟩
        simp only at v x ⊢
        rw [Wp_body]
        simp [zeroW]
        exact ⟨rfl, k, c2, ⟨⟨rfl, rfl, rfl, rfl, rfl, rfl, rfl⟩, rfl⟩, x, cs2, v⟩
    · have nb : ¬ PlayRun1 code evs := fun hh => b hh.2
      have ab : tt (PlayRun1 code evs) = false := by simpa using nb
      have b' : (80 : Int) < evs.length := by omega
      rw [ab, if_neg nb]
      simp [Tryz.f16, e1, eT, b']
      exact ⟨rfl, h1, ⟨.nils, .nils, .nils, 0, 0, 0, 0⟩, ⟨⟨rfl, rfl, rfl, rfl, rfl, rfl, rfl⟩, rfl⟩, x1, _, (emptyV h).ext x1⟩
  · have a' : tt (CodeSafe code) = false := by simpa using a
    have nb : ¬ PlayRun1 code evs := fun hh => a hh.1
    have ab : tt (PlayRun1 code evs) = false := by simpa using nb
    rw [a'] at e1
    simp only [encW] at e1
    rw [ab, if_neg nb]
    simp [Tryz.f16, e1]
    exact ⟨rfl, h1, ⟨.nils, .nils, .nils, 0, 0, 0, 0⟩, ⟨⟨rfl, rfl, rfl, rfl, rfl, rfl, rfl⟩, rfl⟩, x1, _, (emptyV h).ext x1⟩
end Go.Proofs.YtdpffdpgcooagaaGreat

/-
  PLAYS IN PLAIN DATA: time, turns, what is taken.
-/
set_option maxRecDepth 8000
namespace Go.Proofs.YtdpffdpgcooagaaGreat
variable {w w' : PWorld} {code : List POp} {evs : List PEvent}
theorem playTo_code (S : CodeSafe code) (evs : List PEvent) : ∀ i, (playTo code evs i).code = code
  | 0 => rfl
  | i + 1 => by
    have G := (playTo_good S evs i).1
    rw [playTo, (G.doG _).2.2.1, playTo_code S evs i]
theorem Good.doNow (G : Good w) (e : PEvent) (hn : w.now < 250) : (doP w e).now = w.now + if e.kind = 2 then 1 else 0 := by
  unfold doP
  by_cases k1 : e.kind = 1
  · rw [if_pos k1, if_neg (by omega), G.turnG.k.now]; omega
  rw [if_neg k1]
  by_cases k2 : e.kind = 2
  · rw [if_pos k2, if_pos k2]
    unfold tickP
    rw [if_neg (by omega), (tickTo_len _ _).2.2]
  rw [if_neg k2, if_neg k2]
  split
  · split
    · rename_i hv; rw [(G.giveG e.a hv).k.now]; omega
    · omega
  · split
    · split
      · rename_i hv; rw [(G.fallG e.a hv.1).k.now]; omega
      · omega
    · omega
def ticksTo (evs : List PEvent) : Nat → Nat
  | 0 => 0
  | i + 1 => ticksTo evs i + if (evs[i]?.getD default).kind = 2 then 1 else 0
theorem ticksTo_le (evs : List PEvent) : ∀ i, ticksTo evs i ≤ i
  | 0 => Nat.le_refl _
  | i + 1 => by have := ticksTo_le evs i; rw [ticksTo]; split <;> omega
theorem playTo_now (S : CodeSafe code) (evs : List PEvent) : ∀ i, i ≤ 200 → (playTo code evs i).now = ticksTo evs i
  | 0, _ => rfl
  | i + 1, h => by
    have ih := playTo_now S evs i (by omega)
    have := ticksTo_le evs i
    rw [playTo, (playTo_good S evs i).1.doNow _ (by omega), ih]
    rw [ticksTo]
    split <;> omega
def turnsOf (rs : List PRun) : Int := (rs.map fun r => r.turns).sum
theorem turnsOf_app (a b : List PRun) : turnsOf (a ++ b) = turnsOf a + turnsOf b := by simp [turnsOf]
theorem turnsOf_zero : ∀ {rs : List PRun}, (∀ r ∈ rs, r.turns = 0) → turnsOf rs = 0
  | [], _ => rfl
  | a :: rs, h => by
    have := turnsOf_zero (rs := rs) fun r hr => h r (by simp [hr])
    have h0 := h a (by simp)
    simp only [turnsOf, List.map_cons, List.sum_cons] at this ⊢
    omega
theorem turnsOf_set : ∀ {rs : List PRun} {i : Nat} {r r' : PRun}, rs[i]? = some r → turnsOf (rs.set i r') = turnsOf rs + r'.turns - r.turns
  | [], i, r, r', h => by simp at h
  | a :: rs, 0, r, r', h => by simp at h; subst h; simp [turnsOf]; omega
  | a :: rs, i + 1, r, r', h => by
    have ih := turnsOf_set (rs := rs) (i := i) (r' := r') (by simpa using h)
    simp only [turnsOf, List.set_cons_succ, List.map_cons, List.sum_cons] at ih ⊢
    omega
theorem turnsOf_le : ∀ {rs : List PRun}, (∀ r ∈ rs, 0 ≤ r.turns) → 0 ≤ turnsOf rs ∧ ∀ r ∈ rs, r.turns ≤ turnsOf rs
  | [], _ => ⟨by simp [turnsOf], by simp⟩
  | a :: rs, h => by
    obtain ⟨h1, h2⟩ := turnsOf_le (rs := rs) fun r hr => h r (by simp [hr])
    have h0 := h a (by simp)
    have e : turnsOf (a :: rs) = a.turns + turnsOf rs := by simp [turnsOf]
    refine ⟨by omega, fun r hr => ?_⟩
    rcases List.mem_cons.1 hr with rfl | hr
    · omega
    · have := h2 r hr; omega
theorem WK.turnsOf {p : Nat → Prop} {n : Nat} {id : Int} (x : WK p n id w w') : turnsOf w'.runs = turnsOf w.runs := by
  have e : w'.runs = w'.runs.take w.runs.length ++ w'.runs.drop w.runs.length := (List.take_append_drop ..).symm
  rw [e, turnsOf_app, turnsOf_zero (rs := w'.runs.drop w.runs.length) fun r hr => ?_]
  · have : (w'.runs.take w.runs.length).map (fun r => r.turns) = w.runs.map (fun r => r.turns) := by
      apply List.ext_getElem?
      intro i
      rw [List.getElem?_map, List.getElem?_map]
      by_cases hi : i < w.runs.length
      · obtain ⟨r', h', q⟩ := x.turns i _ (List.getElem?_eq_getElem hi)
        rw [List.getElem?_take_of_lt hi, h', List.getElem?_eq_getElem hi]
        simp [q]
      · rw [List.getElem?_eq_none (by simp; omega), List.getElem?_eq_none (by omega)]
    unfold Go.Proofs.YtdpffdpgcooagaaGreat.turnsOf
    rw [this]; omega
  · obtain ⟨j, hj, rfl⟩ := List.mem_iff_getElem.1 hr
    rw [List.getElem_drop]
    have hl : w.runs.length + j < w'.runs.length := by simp at hj; omega
    obtain ⟨k, to, q⟩ := x.new (w.runs.length + j) _ (by omega) (List.getElem?_eq_getElem hl)
    rw [q.turns]; rfl
/-- A turn: the others are as they were. -/
theorem turn_wk (I : Inv w) (hq : w.queue ≠ []) : (headQ w - 1).toNat < w.runs.length ∧ WK (fun i => i = (headQ w - 1).toNat) 3 (headQ w) (countP' w (headQ w)) (turnP w) := by
  obtain ⟨hid, h1⟩ := I.head hq
  have hl : (headQ w - 1).toNat < w.runs.length := by omega
  have hl2 : (headQ w - 1).toNat < (countP' w (headQ w)).runs.length := by unfold countP'; rw [setRun_len]; exact hl
  refine ⟨hl, ?_⟩
  have s := steps_wk 3 (countP' w (headQ w)) hl2
  unfold turnP
  rw [if_neg hq]
  refine (s.trans (m := 0) ?_ fun j e => by omega).le (by omega)
  unfold backP
  split
  · exact WK.eq rfl
  · exact WK.refl _
theorem turnP_turns (G : Good w) (hq : w.queue ≠ []) (hb : turnsOf w.runs < 9999) : turnsOf (turnP w).runs = turnsOf w.runs + 1 := by
  obtain ⟨hl, x⟩ := turn_wk G.inv hq
  have hg : w.runs[(headQ w - 1).toNat]? = some w.runs[(headQ w - 1).toNat] := List.getElem?_eq_getElem hl
  have t := (turnsOf_le (rs := w.runs) fun r hr => by
    obtain ⟨i, hi, rfl⟩ := List.mem_iff_getElem.1 hr
    exact (G.inv.each i _ (List.getElem?_eq_getElem hi)).ok.turns.1).2 _ (List.getElem_mem hl)
  rw [x.turnsOf]
  unfold countP' setRun
  simp only
  rw [turnsOf_set hg, runAt_some hg]
  simp only
  omega
theorem doP_turns (G : Good w) (e : PEvent) (hb : turnsOf w.runs < 9999) : turnsOf (doP w e).runs = turnsOf w.runs + if e.kind = 1 ∧ w.queue ≠ [] then 1 else 0 := by
  unfold doP
  by_cases k1 : e.kind = 1
  · rw [if_pos k1]
    by_cases hq : w.queue = []
    · rw [if_neg (fun h => h.2 hq)]
      unfold turnP
      rw [if_pos hq]; omega
    · rw [if_pos ⟨k1, hq⟩, turnP_turns G hq hb]
  rw [if_neg k1, if_neg (show ¬ (e.kind = 1 ∧ w.queue ≠ []) from fun h => k1 h.1)]
  split
  · rw [(tick_wk (id := 0) w).turnsOf]; omega
  · split
    · split
      · rw [(give_wk (p := fun _ => False) (id := 0) w _ _).turnsOf]; omega
      · omega
    · split
      · split
        · rw [(fall_wk (id := 0) w _ _).turnsOf]; omega
        · omega
      · omega
def turnsTo (code : List POp) (evs : List PEvent) : Nat → Nat
  | 0 => 0
  | i + 1 => turnsTo code evs i + if (evs[i]?.getD default).kind = 1 ∧ (playTo code evs i).queue ≠ [] then 1 else 0
theorem turnsTo_le (code : List POp) (evs : List PEvent) : ∀ i, turnsTo code evs i ≤ i
  | 0 => Nat.le_refl _
  | i + 1 => by have := turnsTo_le code evs i; rw [turnsTo]; split <;> omega
theorem playTo_turns (S : CodeSafe code) (evs : List PEvent) : ∀ i, i ≤ 200 → turnsOf (playTo code evs i).runs = turnsTo code evs i
  | 0, _ => by simp [playTo, newP, turnsOf, newRun, turnsTo]
  | i + 1, h => by
    have ih := playTo_turns S evs i (by omega)
    have := turnsTo_le code evs i
    rw [playTo, doP_turns (playTo_good S evs i).1 _ (by omega), ih]
    rw [turnsTo]
    split <;> omega
theorem give_taken (w : PWorld) (k : Int) (v : PVal) : (giveP w k v).taken = w.taken := by
  unfold giveP
  split
  · split <;> rfl
  · rfl
theorem tell_taken (k : Int) : ∀ (ks : List Int) (w : PWorld), (tell k w ks).taken = w.taken
  | [], w => rfl
  | a :: ks, w => by
    unfold tell
    rw [List.foldl_cons]
    exact (tell_taken k ks _).trans (give_taken _ _ _)
theorem linkStep_taken (k : Int) (why : PVal) (x : PWorld × List Int) (a : Int) : (linkStep k why x a).1.taken = x.1.taken := by
  unfold linkStep
  split
  · rfl
  · split
    · rw [give_taken]; rfl
    · rfl
theorem endLinks_taken (k : Int) (why : PVal) : ∀ (ks : List Int) (x : PWorld × List Int), (ks.foldl (linkStep k why) x).1.taken = x.1.taken
  | [], x => rfl
  | a :: ks, x => by
    rw [List.foldl_cons]
    exact (endLinks_taken k why ks _).trans (linkStep_taken _ _ _ _)
theorem fallN_taken (why : PVal) : ∀ (n : Nat) (w : PWorld) (ks : List Int), (fallN n w ks why).taken = w.taken
  | 0, w, ks => rfl
  | n + 1, w, [] => rfl
  | n + 1, w, k :: ks => by
    unfold fallN
    split
    · rw [fallN_taken why n]
      unfold endP
      simp only
      rw [tell_taken]
      unfold endLinks
      rw [endLinks_taken]
      rfl
    · exact fallN_taken why n w ks
theorem tickTo_taken (w : PWorld) : ∀ i, (tickTo w i).taken = w.taken
  | 0 => rfl
  | i + 1 => by
    have ih := tickTo_taken w i
    rw [tickTo]
    unfold tickAt
    split
    · split
      · exact ih
      · exact ih
    · exact ih
/-- What is no turn. -/
theorem doP_quiet (w : PWorld) (e : PEvent) (h : e.kind ≠ 1) : WK (fun _ => False) 0 0 w (doP w e) ∧ (doP w e).taken = w.taken := by
  unfold doP
  rw [if_neg h]
  split
  · refine ⟨tick_wk w, ?_⟩
    unfold tickP
    split
    · rfl
    · rw [tickTo_taken]
  · split
    · split
      · exact ⟨give_wk w _ _, give_taken _ _ _⟩
      · exact ⟨WK.refl w, rfl⟩
    · split
      · split
        · exact ⟨fall_wk w _ _, fallN_taken _ _ _ _⟩
        · exact ⟨WK.refl w, rfl⟩
      · exact ⟨WK.refl w, rfl⟩
/-- Nobody goes but by turns. -/
theorem playTo_quiet (code : List POp) {evs : List PEvent} (h : ∀ e ∈ evs, e.kind ≠ 1) : ∀ i, WK (fun _ => False) 0 0 (newP code) (playTo code evs i) ∧ (playTo code evs i).taken = 0
  | 0 => ⟨WK.refl _, rfl⟩
  | i + 1 => by
    obtain ⟨a, b⟩ := playTo_quiet code h i
    have hk : (evs[i]?.getD default).kind ≠ 1 := by
      cases he : evs[i]? with
      | none => simp [show (default : PEvent).kind = 0 from rfl]
      | some e => exact h e (List.mem_of_getElem? he)
    obtain ⟨c, d⟩ := doP_quiet (playTo code evs i) _ hk
    exact ⟨a.trans0 c, by rw [playTo, d, b]⟩
theorem playTo_take (code : List POp) (evs : List PEvent) (n : Nat) : ∀ i, i ≤ n → playTo code (evs.take n) i = playTo code evs i
  | 0, _ => rfl
  | i + 1, h => by
    rw [playTo, playTo, playTo_take code evs n i (by omega), List.getElem?_take_of_lt (by omega)]
theorem nodup_len : ∀ {xs ys : List Int}, xs.Nodup → (∀ x ∈ xs, x ∈ ys) → xs.length ≤ ys.length
  | [], ys, _, _ => Nat.zero_le _
  | a :: t, ys, hn, hs => by
    have ha := hs a (by simp)
    have hn2 := List.nodup_cons.1 hn
    have ih := nodup_len (ys := ys.erase a) hn2.2 fun x hx => by
      have : x ≠ a := fun e => hn2.1 (e ▸ hx)
      exact (List.mem_erase_of_ne this).2 (hs x (by simp [hx]))
    have h0 : 0 < ys.length := List.length_pos_of_mem ha
    rw [List.length_erase_of_mem ha] at ih
    simp only [List.length_cons]
    omega
theorem queue_alive (I : Inv w) : w.queue.length ≤ aliveN w.runs := by
  have h := I.mem
  have e : aliveN w.runs = ((List.range w.runs.length).filter fun i => decide ((w.runs[i]?.getD default).state ≠ 3)).length := by
    have : w.runs = (List.range w.runs.length).map fun i => w.runs[i]?.getD default := by
      apply List.ext_getElem
      · simp
      · intro i h1 h2; simp [h1]
    unfold aliveN
    rw [← List.countP_eq_length_filter]
    conv => lhs; rw [this, List.countP_map]
    rfl
  rw [e, ← List.length_map (f := fun i : Nat => (i : Int) + 1)]
  refine nodup_len I.queue fun q hq => ?_
  obtain ⟨i, rfl, r, hr, h1⟩ := (h q).1 hq
  obtain ⟨hi, rfl⟩ := List.getElem?_eq_some_iff.1 hr
  refine List.mem_map.2 ⟨i, List.mem_filter.2 ⟨List.mem_range.2 hi, ?_⟩, rfl⟩
  simp [hi, h1]
theorem Good.linked (G : Good w) {i : Nat} (hi : i < w.runs.length) {o : Int} (ho : o ∈ w.runs[i].links) : (1 ≤ o ∧ o ≤ w.runs.length) ∧ (runAt w o).state ≠ 3 ∧ (i : Int) + 1 ∈ (runAt w o).links := by
  have I := G.inv
  have R := I.each i _ (List.getElem?_eq_getElem hi)
  have o1 : 1 ≤ o ∧ o ≤ w.runs.length := ⟨(R.ok.links.2 o ho).1, R.links o ho⟩
  have s : (i : Int) + 1 ∈ (runAt w o).links := (G.sym (i + 1) o (by omega) o1).1 (by rw [runAt_nat hi]; exact ho)
  refine ⟨o1, fun he => ?_, s⟩
  obtain ⟨j, ej, ej2, hj, hgj, Rj⟩ := I.run o1
  have : (runAt w o).links = [] := (Rj.ok.ended he).2.1
  rw [this] at s; simp at s
end Go.Proofs.YtdpffdpgcooagaaGreat
