/-
  What functions of the seat answer, each proved once; each under the condition that cells bear what it is given, as its statement says.
-/
import Derived.Test.YtmkiojlebjknlaaGreatWalkA25
import Derived.Test.YtmkiojlebjknlaaGreatWalkA23
import Derived.Test.YtmkiojlebjknlaaGreatWalkA13
import Derived.Test.YtmkiojlebjknlaaGreatWalkA22
import Derived.Test.YtmkiojlebjknlaaGreatWalkA21
set_option linter.all false
/-
 WORLDS IN PLAIN DATA: who falls with one is whom one comes to by links over those that do not trap.
-/
set_option maxRecDepth 8000
namespace Go.Proofs.YtmkiojlebjknlaaGreat
open Go.AM
variable {w u : PWorld} {id k : Int} {why : PVal} {S : Int → Prop}
inductive Falls (w : PWorld) (id : Int) : Int → Prop
 | self : Falls w id id
 | step {a b : Int} : Falls w id a → b ∈ (runAt w a).links → (runAt w b).trap = false → Falls w id b
theorem links_next {id : Int} {why : PVal} : ∀ (ks : List Int) (x : PWorld × List Int), (∀ k ∈ ks, 1 ≤ k ∧ k ≤ x.1.runs.length) → (ks.foldl (linkStep id why) x).2 = x.2 ++ (if why = ⟨2, 0⟩ then [] else ks.filter fun k => !(runAt x.1 k).trap)
 | [], x, _ => by simp
 | k :: ks, x, h => by
  have l := (linkStep_up (id := id) (why := why) (h k (by simp)) (h k (by simp)).1).2
  have tr : ∀ q, 1 ≤ q → (runAt (linkStep id why x k).1 q).trap = (runAt x.1 q).trap := fun q hq =>
   (linkStep_up (id := id) (why := why) (x := x) (h k (by simp)) hq).1.state.2.2.2.1
  have ih := links_next (id := id) (why := why) ks (linkStep id why x k) fun k' hk' => by rw [l]; exact h k' (by simp [hk'])
  simp only [List.foldl_cons]
  rw [ih]
  by_cases e : why = ⟨2, 0⟩
  ·simp [linkStep, e]
  ·have fe : ks.filter (fun q => !(runAt (linkStep id why x k).1 q).trap) = ks.filter fun q => !(runAt x.1 q).trap := List.filter_congr fun q hq => by rw [tr q (h q (by simp [hq])).1]
   rw [if_neg e, if_neg e, fe]
   by_cases t : (runAt x.1 k).trap = true
   ·simp [linkStep, e, t]
   ·simp [linkStep, e, t]
theorem Good.linkAlive (G : Good w) {a b : Int} (ha : 1 ≤ a ∧ a ≤ w.runs.length) (hb : b ∈ (runAt w a).links) : Alive w b := by
 obtain ⟨i, e, ei, hl, hg, R⟩ := G.inv.run ha
 have rb : 1 ≤ b ∧ b ≤ w.runs.length := ⟨(R.ok.links.2 b hb).1, R.links b hb⟩
 refine ⟨rb, fun h3 => ?_⟩
 obtain ⟨j, e', ej, hl', hg', R'⟩ := G.inv.run rb
 have := (G.sym a b ha rb).1 hb
 rw [(R'.ok.ended h3).2.1] at this
 cases this
theorem end_next (G : Good w) (ha : Alive w id) (why : PVal) : (endP w id why).2 = if why = ⟨2, 0⟩ then [] else (runAt w id).links.filter fun k => !(runAt w k).trap := by
 have hb : (endBase w id why).runs.length = w.runs.length := by simp [endBase]
 have hks : ∀ k ∈ (runAt w id).links, 1 ≤ k ∧ k ≤ w.runs.length := fun k hk => (G.linkAlive ha.1 hk).1
 have := links_next (id := id) (why := why) (runAt w id).links (endBase w id why, []) (by rw [hb]; exact hks)
 show (endLinks w id why _).2 = _
 unfold endLinks
 rw [this, List.nil_append]
 by_cases e : why = ⟨2, 0⟩
 ·rw [if_pos e, if_pos e]
 ·rw [if_neg e, if_neg e]
  refine List.filter_congr fun q hq => ?_
  simp only
  rw [endBase_run ha.1 (hks q hq)]
  by_cases c : q = id
  ·subst c; simp [unwatch, clearRun]
  ·simp [unwatch, c]
structure Stage (w : PWorld) (id : Int) (why : PVal) (S : Int → Prop) (u : PWorld) : Prop where
 good : Good u
 len : u.runs.length = w.runs.length
 state : ∀ q : Int, 1 ≤ q ∧ q ≤ w.runs.length → ((runAt u q).state = 3 ↔ (runAt w q).state = 3 ∨ S q)
 trap : ∀ q : Int, 1 ≤ q ∧ q ≤ w.runs.length → (runAt u q).trap = (runAt w q).trap
 links : ∀ q : Int, 1 ≤ q ∧ q ≤ w.runs.length → ∀ x, x ∈ (runAt u q).links ↔ x ∈ (runAt w q).links ∧ ¬ S x ∧ ¬ S q
 why : ∀ q, S q → (1 ≤ q ∧ q ≤ w.runs.length) ∧ (runAt u q).why = why
 falls : ∀ q, S q → Falls w id q
theorem Stage.start (G : Good w) : Stage w id why (fun _ => False) w :=
 ⟨G, rfl, fun _ _ => by simp, fun _ _ => rfl, fun _ _ _ => by simp, fun _ h => h.elim, fun _ h => h.elim⟩
theorem Stage.end (T : Stage w id why S u) (ha : Alive u k) (hk : Falls w id k) (hw : valOk why = true) : Stage w id why (fun q => S q ∨ q = k) (endP u k why).1 := by
 obtain ⟨G2, al⟩ := T.good.end ha hw
 have hl : (endP u k why).1.runs.length = w.runs.length := by rw [(T.good.inv.endP ha hw).1.len, T.len]
 have ka : 1 ≤ k ∧ k ≤ w.runs.length := by rw [← T.len]; exact ha.1
 have up := fun {q : Int} (hq : 1 ≤ q ∧ q ≤ w.runs.length) => (T.good.endRun ha why (q := q) (by rw [T.len]; exact hq)).state
 refine ⟨G2, hl, fun q hq => ?_, fun q hq => ?_, fun q hq x => ?_, fun q hs => ?_, fun q hs => ?_⟩
 ·rw [(up hq).1]
  by_cases c : q = k
  ·simp [c, clearRun]
  ·simp only [c, ↓reduceIte, or_false]; exact T.state q hq
 ·rw [(up hq).2.2.2.1]
  by_cases c : q = k
  ·subst c; simp only [↓reduceIte, clearRun]; exact T.trap q hq
  ·simp only [c, ↓reduceIte]; exact T.trap q hq
 ·rw [(up hq).2.1]
  by_cases c : q = k
  ·simp [c, clearRun]
  ·simp only [c, ↓reduceIte, mem_less, or_false, not_or, T.links q hq x]
   constructor
   ·rintro ⟨⟨a, b, d⟩, e⟩; exact ⟨a, ⟨b, e⟩, d⟩
   ·rintro ⟨a, ⟨b, e⟩, d⟩; exact ⟨⟨a, b, d⟩, e⟩
 ·rcases hs with hs | rfl
  ·obtain ⟨rq, wq⟩ := T.why q hs
   refine ⟨rq, ?_⟩
   rw [(up rq).2.2.2.2.1]
   by_cases c : q = k
   ·simp [c, clearRun]
   ·simp only [c, ↓reduceIte]; exact wq
  ·refine ⟨ka, ?_⟩
   rw [(up ka).2.2.2.2.1]
   simp [clearRun]
 ·rcases hs with hs | rfl
  ·exact T.falls q hs
  ·exact hk
theorem falls_stage (G : Good w) (hw : valOk why = true) (hn : why ≠ ⟨2, 0⟩) : ∀ (n : Nat) {S : Int → Prop} {u : PWorld} (ks : List Int), Stage w id why S u → (∀ k ∈ ks, Alive w k ∧ Falls w id k) →
  (∀ a, S a → ∀ b ∈ (runAt w a).links, (runAt w b).trap = false → S b ∨ b ∈ ks) → ks.length + 6 * aliveN u.runs ≤ n →
  ∃ S' : Int → Prop, Stage w id why S' (fallN n u ks why) ∧ (∀ q, S q → S' q) ∧ (∀ k ∈ ks, S' k) ∧ ∀ a, S' a → ∀ b ∈ (runAt w a).links, (runAt w b).trap = false → S' b
 | 0, S, u, ks, T, hk, hc, hf => by
  have : ks = [] := List.length_eq_zero_iff.1 (by omega)
  subst this
  exact ⟨S, T, fun _ h => h, by simp, fun a ha b hb ht => (hc a ha b hb ht).resolve_right (by simp)⟩
 | n + 1, S, u, [], T, hk, hc, hf => ⟨S, T, fun _ h => h, by simp, fun a ha b hb ht => (hc a ha b hb ht).resolve_right (by simp)⟩
 | n + 1, S, u, k :: ks, T, hk, hc, hf => by
  unfold fallN
  obtain ⟨ka, kf⟩ := hk k (by simp)
  by_cases al : Alive u k
  ·rw [if_pos al]
   obtain ⟨E, a1, nl⟩ := T.good.inv.endP al hw
   have T2 := T.end al kf hw
   have nx := end_next T.good al why
   rw [if_neg hn] at nx
   have nS : ¬ S k := fun h => al.2 ((T.state k ka.1).2 (.inr h))
   have ea := E.alive
   simp only [List.length_cons] at hf
   obtain ⟨S', A, B, C, D⟩ := falls_stage G hw hn n (ks ++ (endP u k why).2) T2 (fun q hq => by
    rcases List.mem_append.1 hq with hq | hq
    ·exact hk q (by simp [hq])
    ·rw [nx, List.mem_filter] at hq
     have lq := ((T.links k ka.1 q).1 hq.1).1
     have aq := G.linkAlive ka.1 lq
     refine ⟨aq, .step kf lq ?_⟩
     have := hq.2
     rw [T.trap q aq.1] at this
     simpa using this) (fun a ha b hb ht => by
    have rb : Alive w b := by
     rcases ha with ha | rfl
     ·exact G.linkAlive (T.why a ha).1 hb
     ·exact G.linkAlive ka.1 hb
    rcases ha with ha | rfl
    ·rcases hc a ha b hb ht with h | h
     ·exact .inl (.inl h)
     ·rcases List.mem_cons.1 h with h | h
      ·exact .inl (.inr h)
      ·exact .inr (List.mem_append_left _ h)
    ·by_cases sb : S b
     ·exact .inl (.inl sb)
     ·refine .inr (List.mem_append_right _ ?_)
      rw [nx, List.mem_filter]
      refine ⟨(T.links a ka.1 b).2 ⟨hb, sb, nS⟩, ?_⟩
      rw [T.trap b rb.1, ht]; rfl) (by
    rw [List.length_append]; omega)
   refine ⟨S', A, fun q h => B q (.inl h), fun q hq => ?_, D⟩
   rcases List.mem_cons.1 hq with rfl | hq
   ·exact B q (.inr rfl)
   ·exact C q (List.mem_append_left _ hq)
  ·rw [if_neg al]
   have d3 : S k := by
    have h3 : (runAt u k).state = 3 := Classical.byContradiction fun hne => al ⟨by rw [T.len]; exact ka.1, hne⟩
    exact ((T.state k ka.1).1 h3).resolve_left ka.2
   simp only [List.length_cons] at hf
   obtain ⟨S', A, B, C, D⟩ := falls_stage G hw hn n ks T (fun q hq => hk q (by simp [hq])) (fun a ha b hb ht => by
    rcases hc a ha b hb ht with h | h
    ·exact .inl h
    ·rcases List.mem_cons.1 h with rfl | h
     ·exact .inl d3
     ·exact .inr h) (by omega)
   refine ⟨S', A, B, fun q hq => ?_, D⟩
   rcases List.mem_cons.1 hq with rfl | hq
   ·exact B q d3
   ·exact C q hq
def Fell (w : PWorld) (id : Int) (why : PVal) (q : Int) : Prop := q = id ∨ why ≠ ⟨2, 0⟩ ∧ Falls w id q
theorem fall_stage (G : Good w) (ha : Alive w id) (hw : valOk why = true) : Stage w id why (Fell w id why) (fallP w id why) := by
 have many := G.inv.many
 have an := aliveN_le w.runs
 by_cases hn : why = ⟨2, 0⟩
 ·have T2 := (Stage.start (id := id) (why := why) G).end ha .self hw
  have nx := end_next G ha why
  rw [if_pos hn] at nx
  have e : fallP w id why = (endP w id why).1 := by
   unfold fallP fallN
   rw [if_pos ha, nx]
   rfl
  rw [e]
  have : Fell w id why = fun q => False ∨ q = id := by
   funext q; unfold Fell; simp [hn]
  rw [this]
  exact T2
 ·obtain ⟨S', A, B, C, D⟩ := falls_stage G hw hn 64 [id] (Stage.start (id := id) (why := why) G) (fun k hk => by simp at hk; subst hk; exact ⟨ha, .self⟩) (fun a h => h.elim) (by simp only [List.length_singleton]; omega)
  have : Fell w id why = S' := by
   funext q
   refine propext ⟨fun h => ?_, fun h => .inr ⟨hn, A.falls q h⟩⟩
   rcases h with rfl | ⟨_, h⟩
   ·exact C q (by simp)
   ·induction h with
    | self => exact C id (by simp)
    | step _ hb ht ih => exact D _ ih _ hb ht
  rw [this]
  exact A
theorem falls_in (G : Good w) (ha : Alive w id) {q : Int} (h : Falls w id q) : Alive w q := by
 induction h with
 | self => exact ha
 | step _ hb _ ih => exact G.linkAlive ih.1 hb
theorem fell_two (G : Good w) {a b : Int} (ha : Alive w a) (hb : Alive w b) (hab : ¬ Falls w a b) (hw : valOk why = true) :
  Alive (fallP w a why) b ∧ ∀ q : Int, 1 ≤ q ∧ q ≤ w.runs.length → ((runAt (fallP (fallP w a why) b why) q).state = 3 ↔ (runAt w q).state = 3 ∨ Fell w a why q ∨ Fell w b why q) := by
 have T := fall_stage G ha hw
 have nb : ¬ Fell w a why b := fun h => by
  rcases h with rfl | ⟨_, h⟩
  ·exact hab .self
  ·exact hab h
 have ab : Alive (fallP w a why) b := ⟨by rw [T.len]; exact hb.1, fun h3 => by
  rcases (T.state b hb.1).1 h3 with h | h
  ·exact hb.2 h
  ·exact nb h⟩
 refine ⟨ab, fun q hq => ?_⟩
 have T2 := fall_stage T.good ab hw
 rw [T2.state q (by rw [T.len]; exact hq), T.state q hq, or_assoc]
 have key : Fell w a why q ∨ Fell (fallP w a why) b why q ↔ Fell w a why q ∨ Fell w b why q := by
  by_cases hn : why = ⟨2, 0⟩
  ·simp [Fell, hn]
  have f1 : ∀ x : PWorld, ∀ c, Fell x c why q ↔ Falls x c q := fun x c => ⟨fun h => by
   rcases h with rfl | ⟨_, h⟩
   ·exact .self
   ·exact h, fun h => .inr ⟨hn, h⟩⟩
  have f2 : ∀ c, Fell w a why c ↔ Falls w a c := fun c => ⟨fun h => by
   rcases h with rfl | ⟨_, h⟩
   ·exact .self
   ·exact h, fun h => .inr ⟨hn, h⟩⟩
  rw [f1, f1, f1]
  constructor
  ·rintro (h | h)
   ·exact .inl h
   ·right
    clear hq
    have : Alive (fallP w a why) q ∧ Falls w b q := by
     clear f1
     induction h with
     | self => exact ⟨ab, .self⟩
     | step _ hb ht ih =>
      have r := ih.1.1
      rw [T.len] at r
      have l := ((T.links _ r _).1 hb).1
      have al := T.good.linkAlive ih.1.1 hb
      have r2 := al.1
      rw [T.len] at r2
      exact ⟨al, .step ih.2 l (by rw [← T.trap _ r2]; exact ht)⟩
    exact this.2
  ·rintro (h | h)
   ·exact .inl h
   ·have : Alive w q ∧ (Falls w a q ∨ Falls (fallP w a why) b q) := by
     clear hq f1
     induction h with
     | self => exact ⟨hb, .inr .self⟩
     | step _ hl ht ih =>
      rename_i c d _
      have al := G.linkAlive ih.1.1 hl
      refine ⟨al, ?_⟩
      by_cases fc : Falls w a c
      ·exact .inl (.step fc hl ht)
      rcases ih.2 with h | h
      ·exact absurd h fc
      by_cases fd : Falls w a d
      ·exact .inl fd
      refine .inr (.step h ((T.links c ih.1.1 d).2 ⟨hl, fun h => fd ((f2 d).1 h), fun h => fc ((f2 c).1 h)⟩) ?_)
      rw [T.trap d al.1]; exact ht
    exact this.2
 constructor
 ·rintro (h | h)
  ·exact .inl h
  ·exact .inr (key.1 h)
 ·rintro (h | h)
  ·exact .inl h
  ·exact .inr (key.2 h)
end Go.Proofs.YtmkiojlebjknlaaGreat

/-
 A LAW OF WORLDS BEGINS: a run ends, and all that fall with it.
-/
set_option maxRecDepth 8000
namespace Go.Proofs.YtmkiojlebjknlaaGreat
open Go.AM
variable {h k : H} {bs : List Int} {s : Cell}
theorem falling (hS : BytesA h s bs) : ∃ w c cs, ∃ id : Int, ∃ y : PVal, ∃ k1 k2 k3 k4 c1 cs1 c2 c3, Dz.den 8 [.c s] h = some (.t [.g (encW c), .c (.int .i64 id), .g (encV y)], k1) ∧ Dz.den 9 [.g (encW c), .c (.int .i64 id), .g (encV y)] k1 = some (.g (encW c1), k2) ∧
  Dz.den 11 [.g (encW c), .c (.int .i64 id), .g (encV y)] k2 = some (.g (encW c2), k3) ∧ Dz.den 10 [.g (encW c1), .g (encW c2)] k3 = some (.c (.bool true), k3) ∧ Dz.den 12 [.g (encW c)] k3 = some (.c (.bool (tt (WorldOk w))), k3) ∧
  Dz.den 11 [.g (encW c), .c (.int .i64 id), .g (encV y)] k3 = some (.g (encW c3), k4) ∧ Dz.den 10 [.g (encW c1), .g (encW c3)] k4 = some (.c (.bool true), k4) ∧ Done h k1 k3 k4 w c cs (fallEndP w id y) c1 cs1 ∧ 1 ≤ id ∧ id ≤ 12 := by
 obtain ⟨_, e1, k1, w, c, cs, id, y, rfl, x1, v1, sn, b1, b2⟩ := c_DrawFallEnd hS
 obtain ⟨_, e2, k2, c1, cs1, rfl, x2, v2⟩ := c_IFallEnd2 v1 id y
 have v3 := v1.ext x2
 obtain ⟨_, e3, k3, c2, cs2, rfl, x3, v4⟩ := c_FallEnd v3 id y
 have v5 := v3.ext x3
 have e4 := c_lvWorld (v2.ext x3).rd v4.rd
 rw [decide_eq_true rfl] at e4
 obtain ⟨_, e6, k4, c3, cs3, rfl, x4, v6⟩ := c_FallEnd v5 id y
 have e7 := c_lvWorld ((v2.ext x3).ext x4).rd v6.rd
 rw [decide_eq_true rfl] at e7
 exact ⟨w, c, cs, id, y, k1, k2, k3, k4, c1, cs1, c2, c3, e1, e2, e3, e4, c_WorldOk v5.rd, e6, e7, ⟨v5, sn, v2.ext x3, (x1.trans x2).trans x3, x4⟩, b1, b2⟩
end Go.Proofs.YtmkiojlebjknlaaGreat

/-
 THE LIBRARY's SORT OF A SHORT LIST: what was on the list is on it still.
-/
set_option maxRecDepth 8000
namespace Go.Proofs.YtmkiojlebjknlaaGreat
open Go.AM
variable {h k : H} {lo : Nat} {s : Cell} {xs : List Int}
theorem c_isNaN (x : Int) : Dz.den 175 [.c (.int .i64 x)] h = some (.c (.bool false), h) := by
 refine den_plain rfl Tryz.func175 rfl rfl ?_
 simp [Tryz.f175]
theorem c_Less (x y : Int) : Dz.den 141 [.c (.int .i64 x), .c (.int .i64 y)] h = some (.c (.bool (decide (x < y))), h) := by
 refine den_plain rfl Tryz.func141 rfl rfl ?_
 simp [Tryz.f141, c_isNaN]
theorem c_Len64 {n : Nat} (hn : n ≤ 6) : ∃ r : Int, Dz.den 145 [.c (.int .u64 n)] h = some (.c (.int .i64 r), h) := by
 rcases (by omega : n = 0 ∨ n = 1 ∨ n = 2 ∨ n = 3 ∨ n = 4 ∨ n = 5 ∨ n = 6) with rfl | rfl | rfl | rfl | rfl | rfl | rfl
 ·refine ⟨0, den_plain rfl Tryz.func145 rfl rfl ?_⟩
  simp [Tryz.f145, show IntKind.u8.wrap 0 = 0 from by decide]
  refine ⟨0, rfl, ?_⟩
  simp
  decide
 ·refine ⟨1, den_plain rfl Tryz.func145 rfl rfl ?_⟩
  simp [Tryz.f145, show IntKind.u8.wrap 1 = 1 from by decide]
  refine ⟨1, rfl, ?_⟩
  simp
  decide
 ·refine ⟨2, den_plain rfl Tryz.func145 rfl rfl ?_⟩
  simp [Tryz.f145, show IntKind.u8.wrap 2 = 2 from by decide]
  refine ⟨2, rfl, ?_⟩
  simp
  decide
 ·refine ⟨2, den_plain rfl Tryz.func145 rfl rfl ?_⟩
  simp [Tryz.f145, show IntKind.u8.wrap 3 = 3 from by decide]
  refine ⟨2, rfl, ?_⟩
  simp
  decide
 ·refine ⟨3, den_plain rfl Tryz.func145 rfl rfl ?_⟩
  simp [Tryz.f145, show IntKind.u8.wrap 4 = 4 from by decide]
  refine ⟨3, rfl, ?_⟩
  simp
  decide
 ·refine ⟨3, den_plain rfl Tryz.func145 rfl rfl ?_⟩
  simp [Tryz.f145, show IntKind.u8.wrap 5 = 5 from by decide]
  refine ⟨3, rfl, ?_⟩
  simp
  decide
 ·refine ⟨3, den_plain rfl Tryz.func145 rfl rfl ?_⟩
  simp [Tryz.f145, show IntKind.u8.wrap 6 = 6 from by decide]
  refine ⟨3, rfl, ?_⟩
  simp
  decide
theorem c_Len {n : Nat} (hn : n ≤ 6) : ∃ r : Int, Dz.den 88 [.c (.int .u64 n)] h = some (.c (.int .i64 r), h) := by
 obtain ⟨r, e⟩ := c_Len64 (h := h) hn
 refine ⟨r, den_plain rfl Tryz.func88 rfl rfl ?_⟩
 simp [Tryz.f88, e]
def SortQ (lo : Nat) (k : H) (s : Cell) (xs : List Int) (x : V × H) : Prop := ∃ k' ys, x = (.t [], k') ∧ OwnL lo k' s 1 encI ys ∧ ys.Perm xs ∧ Chg k (fun id => id ∈ s.ids) k'
theorem _root_.Go.AM.Chg.two {p : Nat → Prop} {h1 h2 h3 : H} (a : Chg h1 p h2) (b : Chg h2 p h3) : Chg h1 p h3 :=
 ⟨Nat.le_trans a.len b.len, fun id hid hn => by rw [b.keep id (Nat.lt_of_lt_of_le hid a.len) hn, a.keep id hid hn]⟩
theorem OwnL.swap (o : OwnL lo k s 1 encI xs) {i j : Nat} (hi : i < xs.length) (hj : j < xs.length) : ∃ k1 k2, k.write (sid s) (soff s + i) 0 [.int .i64 xs[j]] = some k1 ∧ k1.write (sid s) (soff s + j) 0 [.int .i64 xs[i]] = some k2 ∧
  OwnL lo k2 s 1 encI ((xs.set i xs[j]).set j xs[i]) ∧ Chg k (fun id => id ∈ s.ids) k2 ∧ Sl k1 s 1 encI (xs.set i xs[j]) := by
 obtain ⟨k1, e1, o1, c1, _⟩ := o.put hi (x := xs[j]) (by simp [encI])
 obtain ⟨k2, e2, o2, c2, _⟩ := o1.put (i := j) (by simpa using hj) (x := xs[i]) (by simp [encI])
 exact ⟨k1, k2, e1, e2, o2, c1.two c2, o1.sl⟩
set_option maxRecDepth 16000 in
set_option maxHeartbeats 2000000 in
theorem c_insertion (o : OwnL lo k s 1 encI xs) (hl : xs.length ≤ 6) : @Wp _ (Dz.den 135 [.c s, .c (ci 0), .c (ci xs.length)] k) ⟨SortQ lo k s xs⟩ := by
 refine den_wp rfl Tryz.func135 rfl ?_
 unfold SortQ
 simp [Tryz.f135]
 refine count_wpG (σ := H × List Int) (xs.length - 1) (fun i g => ([.c s, .c (ci 0), .c (ci xs.length), .c (ci ((i + 1 : Nat)))], [], [], g.1)) (fun i g => OwnL lo g.1 s 1 encI g.2 ∧ g.2.Perm xs ∧ Chg k (fun id => id ∈ s.ids) g.1) (k, xs) (by simp [show IntKind.i64.wrap 1 = 1 from by decide]) ⟨o, .refl _, ⟨Nat.le_refl _, fun _ _ _ => rfl⟩⟩ ?_ ?_
 ·rintro i ⟨g, ys⟩ hi ⟨o1, p1, c1⟩
  simp only at o1 p1 c1 ⊢
  obtain ⟨m, hm⟩ : ∃ m, i + 1 = m := ⟨_, rfl⟩
  rw [hm]
  have wj : IntKind.i64.wrap ((m : Int) + 1) = (m : Int) + 1 := wrapS (by omega) (by omega)
  have ml : (m : Int) < xs.length := by omega
  rw [Wp_body]
  simp [ml]
  refine loop_wp (σ := H × List Int × Nat) (fun s1 => ([.c s, .c (ci 0), .c (ci xs.length), .c (ci m), .c (ci s1.2.2)], [], [], s1.1))
   (fun s1 => OwnL lo s1.1 s 1 encI s1.2.1 ∧ s1.2.1.Perm xs ∧ Chg k (fun id => id ∈ s.ids) s1.1 ∧ s1.2.2 ≤ m) (fun s1 => s1.2.2) (g, ys, m) (by simp) ⟨o1, p1, c1, Nat.le_refl _⟩ ?_
  rintro ⟨g, ys, j⟩ ⟨o1, p1, c1, hj⟩
  simp only at o1 p1 c1 hj ⊢
  have ly := p1.length_eq
  have hS := o1.sl
  rw [Wp_body]
  by_cases z : j = 0
  ·subst z
   simp
   exact ⟨by unfold LexOk; kernel_rfl, g, ⟨wj, rfl⟩, ys, o1, p1, c1⟩
  ·obtain ⟨n, hn⟩ : ∃ n, j = n + 1 := ⟨j - 1, by omega⟩
   have z' : 0 < j := by omega
   have w1 : IntKind.i64.wrap ((j : Int) - 1) = (n : Int) := by rw [wrapS (by omega) (by omega)]; omega
   have h1 : j < ys.length := by omega
   have h2 : n < ys.length := by omega
   obtain ⟨k1, k2, e1, e2, o2, c2, S1⟩ := o1.swap (i := j) (j := n) h1 h2
   by_cases lt : ys[j] < ys[n]
   ·simp [z', w1, ixA_nat hS, ixA_nat S1, h1, h2, hS.at, c_Less, lt, e1, e2]
    exact ⟨by unfold LexOk; kernel_rfl, by kernel_rfl, k2, _, n, ⟨rfl, rfl⟩, ⟨o2, (List.set_set_perm h1 h2).trans p1, c1.two c2, by omega⟩, by omega⟩
   ·simp [z', w1, ixA_nat hS, h1, h2, hS.at, c_Less, lt]
    exact ⟨by unfold LexOk; kernel_rfl, g, ⟨wj, rfl⟩, ys, o1, p1, c1⟩
 ·rintro ⟨g, ys⟩ ⟨o1, p1, c1⟩
  simp only at o1 p1 c1 ⊢
  have nl : ¬ ((xs.length - 1 : Nat) : Int) + 1 < xs.length := by omega
  rw [Wp_body]
  simp [nl]
  exact ⟨rfl, g, ⟨rfl, rfl⟩, ys, o1, p1, c1⟩
theorem c_pdqsort (o : OwnL lo k s 1 encI xs) (hl : xs.length ≤ 6) (r : Int) : @Wp _ (Dz.den 87 [.c s, .c (ci 0), .c (ci xs.length), .c (ci r)] k) ⟨SortQ lo k s xs⟩ := by
 refine den_wp rfl Tryz.func87 rfl ?_
 obtain ⟨_, e, k1, ys, rfl, o1, p1, c1⟩ := c_insertion o hl
 have ll : (xs.length : Int) ≤ 12 := by omega
 have w : IntKind.i64.wrap (xs.length : Int) = xs.length := wrapS (by omega) (by omega)
 unfold SortQ
 simp [Tryz.f87]
 refine count_wp 0 (fun _ => ([.c s, .c (ci 0), .c (ci xs.length), .c (ci r), .c (.bool true), .c (.bool true)], [], [], k)) (fun _ => True) (by simp) trivial (fun i hi _ => by omega) ?_
 intro _
 rw [Wp_body]
 simp [w, ll, e]
 exact ⟨rfl, k1, ⟨rfl, rfl⟩, ys, o1, p1, c1⟩
theorem c_Sort (o : OwnL lo k s 1 encI xs) (hl : xs.length ≤ 6) : @Wp _ (Dz.den 50 [.c s] k) ⟨SortQ lo k s xs⟩ := by
 refine den_wp rfl Tryz.func50 rfl ?_
 obtain ⟨r, e1⟩ := c_Len (h := k) hl
 obtain ⟨_, e, k1, ys, rfl, o1, p1, c1⟩ := c_pdqsort o hl r
 have w : IntKind.u64.wrap (xs.length : Int) = xs.length := by
  rcases (by omega : xs.length = 0 ∨ xs.length = 1 ∨ xs.length = 2 ∨ xs.length = 3 ∨ xs.length = 4 ∨ xs.length = 5 ∨ xs.length = 6) with e | e | e | e | e | e | e <;> rw [e] <;> decide
 have S := o.sl
 unfold SortQ
 simp [Tryz.f50, S.lenA, w, e1, e]
 exact ⟨rfl, k1, ⟨rfl, rfl⟩, ys, o1, p1, c1⟩
end Go.Proofs.YtmkiojlebjknlaaGreat

/-
 WORLDS IN PLAIN DATA: a search by links comes to all who fall with one.
-/
set_option maxRecDepth 8000
namespace Go.Proofs.YtmkiojlebjknlaaGreat
open Go.AM
variable {w : PWorld} {id a b : Int} {i : Nat} {out : List Int}
structure Bfs (w : PWorld) (id : Int) (i : Nat) (out : List Int) : Prop where
 nd : out.Nodup
 sub : ∀ q ∈ out, Falls w id q
 self : id ∈ out
 shut : ∀ j, j < i → ∀ a, out[j]? = some a → ∀ b ∈ (runAt w a).links, (runAt w b).trap = false → b ∈ out
 le : i ≤ out.length
theorem Bfs.start : Bfs w id 0 [id] := ⟨by simp, fun q hq => by simp at hq; subst hq; exact .self, by simp, fun j hj => by omega, by simp⟩
theorem Bfs.add (B : Bfs w id i out) (hi : out[i]? = some a) (hb : b ∈ (runAt w a).links) (ht : (runAt w b).trap = false) (n : b ∉ out) : Bfs w id i (out ++ [b]) := by
 have ha : a ∈ out := List.mem_of_getElem? hi
 refine ⟨?_, fun q hq => ?_, List.mem_append_left _ B.self, fun j hj c hc x hx ht => ?_, by have := B.le; simp; omega⟩
 ·rw [List.nodup_append]
  refine ⟨B.nd, by simp, fun x hx y hy e => ?_⟩
  simp at hy
  subst hy; subst e
  exact n hx
 ·rcases List.mem_append.1 hq with hq | hq
  ·exact B.sub q hq
  ·simp at hq
   subst hq
   exact .step (B.sub a ha) hb ht
 ·rw [List.getElem?_append_left (by have := B.le; omega)] at hc
  exact List.mem_append_left _ (B.shut j hj c hc x hx ht)
theorem Bfs.next (B : Bfs w id i out) (hi : out[i]? = some a) (all : ∀ b ∈ (runAt w a).links, (runAt w b).trap = false → b ∈ out) : Bfs w id (i + 1) out := by
 refine ⟨B.nd, B.sub, B.self, fun j hj c hc x hx ht => ?_, (List.getElem?_eq_some_iff.1 hi).1⟩
 by_cases e : j = i
 ·subst e
  rw [hi] at hc
  cases hc
  exact all x hx ht
 ·exact B.shut j (by omega) c hc x hx ht
theorem Bfs.done (B : Bfs w id out.length out) (q : Int) : q ∈ out ↔ Falls w id q := by
 refine ⟨B.sub q, fun h => ?_⟩
 induction h with
 | self => exact B.self
 | step _ hb ht ih =>
  obtain ⟨j, hj, e⟩ := List.getElem_of_mem ih
  exact B.shut j hj _ (by rw [List.getElem?_eq_getElem hj, e]) _ hb ht
theorem Bfs.rng (B : Bfs w id i out) (G : Good w) (ha : Alive w id) : ∀ q ∈ out, Alive w q := fun q hq => falls_in G ha (B.sub q hq)
theorem Bfs.len (B : Bfs w id i out) (G : Good w) (ha : Alive w id) : out.length ≤ w.runs.length := by
 have := nodup_len (xs := out) (ys := (List.range w.runs.length).map fun n : Nat => (n : Int) + 1) B.nd (fun x hx => by
  obtain ⟨⟨h1, h2⟩, _⟩ := B.rng G ha x hx
  rw [List.mem_map]
  exact ⟨(x - 1).toNat, by rw [List.mem_range]; omega, by omega⟩)
 simpa using this
theorem fallen (G : Good w) {why : PVal} (hv : valOk why = true) {q : Int} (hq : 1 ≤ q ∧ q ≤ w.runs.length) :
  ((runAt (fallP w id why) q).state = 3 ↔ (runAt w q).state = 3 ∨ (Alive w id ∧ Fell w id why q)) ∧ (Alive w id → Fell w id why q → (runAt (fallP w id why) q).why = why) := by
 by_cases al : Alive w id
 ·have T := fall_stage G al hv
  refine ⟨?_, fun _ f => (T.why q f).2⟩
  rw [T.state q hq]
  simp [al]
 ·have e : fallP w id why = w := by unfold fallP fallN; rw [if_neg al]; rfl
  rw [e]
  exact ⟨by simp [al], fun a => absurd a al⟩
theorem fell_all {why : PVal} (hn : why ≠ ⟨2, 0⟩) (q : Int) : Fell w id why q ↔ Falls w id q := ⟨fun h => by
 rcases h with rfl | ⟨_, h⟩
 ·exact .self
 ·exact h, fun h => .inr ⟨hn, h⟩⟩
theorem kill_fall {v : PVal} (hv : valOk v = true) : doP w ⟨4, id, v⟩ = fallP w id v := by
 unfold doP
 simp only
 rw [if_neg (by omega), if_neg (by omega), if_neg (by omega)]
 simp only [if_true]
 by_cases al : Alive w id
 ·rw [if_pos ⟨hv, al⟩]
 ·rw [if_neg (fun h => al h.2)]
  unfold fallP fallN
  rw [if_neg al]; rfl
end Go.Proofs.YtmkiojlebjknlaaGreat

/-
 WHAT FallWith ANSWERS: a list of all who fall with one.
-/
set_option maxRecDepth 8000
namespace Go.Proofs.YtmkiojlebjknlaaGreat
open Go.AM
variable {h k : H} {w : PWorld} {c : WorldC} {cs : List RunC}
def WithQ (h : H) (w : PWorld) (id : Int) (x : V × H) : Prop := ∃ k s ts, x = (.c s, k) ∧ Ext h k ∧ Sl k s 1 encI ts ∧ ∀ q, q ∈ ts ↔ Alive w id ∧ Falls w id q
set_option maxRecDepth 16000 in
set_option maxHeartbeats 4000000 in
theorem c_IFallWith (hw : WorldR h w c cs) (a : WorldOk w) (id : Int) : @Wp _ (Dz.den 16 [.g (encW c), .c (.int .i64 id)] h) ⟨WithQ h w id⟩ := by
 refine den_wp rfl Tryz.func16 rfl ?_
 unfold WithQ
 have G := ((ok_iff w).1 a).1
 have many := G.inv.many
 have hlen := hw.runs.len
 have hw1 := hw.push ⟨false, 7, [encW c]⟩
 have hgw := get_push_self (h := h) (b := ⟨false, 7, [encW c]⟩)
 have hx := Ext.push h ⟨false, 7, [encW c]⟩
 have hl1 : (h.push ⟨false, 7, [encW c]⟩).length = h.length + 1 := by simp
 generalize hK : h.push ⟨false, 7, [encW c]⟩ = K at *
 simp only [encW] at hK
 have e1 := c_IWorldOk hw1
 rw [tt_fits a] at e1
 have e2 := c_alive hgw hw1.runs id
 simp only [encW] at e1
 by_cases al : Alive w id
 rotate_left
 ·rw [aliveC_not al] at e2
  simp at e2
  simp [Tryz.f16, hK, at_blk hgw, e1, e2]
  exact ⟨K, .nils, ⟨rfl, rfl⟩, hx, [], (OwnL.nil 0 K).sl, fun q => by simp [al]⟩
 rw [aliveC_iff.2 al] at e2
 simp at e2
 simp [Tryz.f16, hK, at_blk hgw, e1, e2]
 refine loop_wp (σ := H × Cell × List Int × Nat) (fun s => ([.c (.ptr h.length 0 0), .c .nils, .c s.2.1, .c (ci s.2.2.2)], [], [], s.1))
  (fun s => OwnL K.length s.1 s.2.1 1 encI s.2.2.1 ∧ Ext K s.1 ∧ Bfs w id s.2.2.2 s.2.2.1) (fun s => 7 - s.2.2.2) (K.push ⟨false, 1, [encI id]⟩, .sl K.length 0 1 none, [id], 0) (by simp [encI])
  ⟨OwnL.new K [id] (by simp [encI]) (by simp [sMost]), Ext.push _ _, Bfs.start⟩ ?_
 rintro ⟨g, s, out, i⟩ ⟨o, x, B⟩
 simp only at o x B ⊢
 have S := o.sl
 have l6 := B.len G al
 have hwg := hw1.ext x
 have hgg := x.get hgw
 have hrs := hwg.runs.sl
 by_cases hi : i < out.length
 rotate_left
 ·obtain rfl : i = out.length := by have := B.le; omega
  have D := B.done
  obtain ⟨_, e3, k3, ys, rfl, o3, p3, c3⟩ := c_Sort o (by omega)
  rw [Wp_body]
  simp [S.lenA, e3]
  refine ⟨k3, s, ⟨rfl, rfl⟩, hx.trans ⟨Nat.le_trans x.1 c3.len, fun id hid => by rw [c3.keep id (Nat.lt_of_lt_of_le hid x.1) (fun hh => by have := o.ids id hh; omega), x.2 id hid]⟩, ys, o3.sl, fun q => ?_⟩
  rw [p3.mem_iff, D q]
  simp [al]
 have hout : out[i] ∈ out := List.getElem_mem hi
 obtain ⟨q, hq⟩ : ∃ q, out[i] = q := ⟨_, rfl⟩
 have hq' : out[i]? = some q := by rw [List.getElem?_eq_getElem hi, hq]
 rw [hq] at hout
 have aq := B.rng G al q hout
 obtain ⟨m, em, hm, er, ei⟩ := runAt_eq (w := w) (id := q) aq.1
 have hm' : m < cs.length := by omega
 have e3 := c_run hgg hrs q
 have q1 : 1 ≤ q ∧ q ≤ cs.length := by have := aq.1; omega
 rw [if_pos q1, show (q - 1).toNat = m by omega] at e3
 have hr := hwg.runs.each m hm
 have L := hr.links
 have ln : w.runs[m].links.length ≤ 6 := (G.inv.each m _ (List.getElem?_eq_getElem hm)).ok.links.len
 have wi : IntKind.i64.wrap ((i : Int) + 1) = (i : Int) + 1 := wrapS (by omega) (by omega)
 rw [Wp_body]
 simp [S.lenA, hi, ixA_nat S, S.at, hq, e3, hrs.at, hm', L.lenA]
 refine count_wpG (σ := H × Cell × List Int) w.runs[m].links.length (fun j g => ([.c (.ptr h.length 0 0), .c .nils, .c g.2.1, .c (ci i), .c cs[m].links, .c (ci w.runs[m].links.length), .c (ci j)], [], [], g.1))
  (fun j g => OwnL K.length g.1 g.2.1 1 encI g.2.2 ∧ Ext K g.1 ∧ Bfs w id i g.2.2 ∧ g.2.2[i]? = some q ∧ ∀ b ∈ w.runs[m].links.take j, (runAt w b).trap = false → b ∈ g.2.2) (g, s, out) (by simp) ⟨o, x, B, hq', by simp⟩ ?_ ?_
 ·rintro j ⟨g, s, out⟩ hj ⟨o, x, B, hq', T⟩
  simp only at o x B hq' T ⊢
  have S := o.sl
  have l6 := B.len G al
  have hwg := hw1.ext x
  have hgg := x.get hgw
  have hrs := hwg.runs.sl
  have L := (hwg.runs.each m hm).links
  obtain ⟨b, hb⟩ : ∃ b, w.runs[m].links[j] = b := ⟨_, rfl⟩
  have hbm : b ∈ (runAt w q).links := by rw [er, ← hb]; exact List.getElem_mem hj
  have ab := G.linkAlive aq.1 hbm
  obtain ⟨n, en, hn, erb, ein⟩ := runAt_eq (w := w) (id := b) ab.1
  have hn' : n < cs.length := by omega
  have e4 := c_run hgg hrs b
  rw [if_pos (by have := ab.1; omega), show (b - 1).toNat = n by omega] at e4
  have hrb := hwg.runs.each n hn
  have wj : IntKind.i64.wrap ((j : Int) + 1) = (j : Int) + 1 := wrapS (by omega) (by omega)
  have tk : w.runs[m].links.take (j + 1) = w.runs[m].links.take j ++ [b] := by rw [List.take_succ_eq_append_getElem hj, hb]
  have hbt : (runAt w b).trap = w.runs[n].trap := by rw [erb]
  have TT : ∀ out' : List Int, (∀ x ∈ out, x ∈ out') → (w.runs[n].trap = false → b ∈ out') → ∀ y, y ∈ w.runs[m].links.take (j + 1) → (runAt w y).trap = false → y ∈ out' := fun out' h1 h2 y hy ht => by
   rw [tk] at hy
   rcases List.mem_append.1 hy with hy | hy
   ·exact h1 y (T y hy ht)
   ·simp at hy
    subst hy
    exact h2 (by rw [← hbt]; exact ht)
  rw [Wp_body]
  by_cases t : w.runs[n].trap = true
  ·simp [hj, ixA_nat L, L.at, hb, e4, hrs.at, hn', hrb.trap, t, wj]
   exact ⟨g, s, ⟨rfl, rfl⟩, out, o, x, B, hq', TT out (fun _ h => h) (fun h => by rw [t] at h; cases h)⟩
  ·have t' : w.runs[n].trap = false := by simpa using t
   have e5 := c_ContainsI S b
   by_cases on : b ∈ out
   ·rw [decide_eq_true on] at e5
    simp [hj, ixA_nat L, L.at, hb, e4, hrs.at, hn', hrb.trap, t', e5, wj]
    exact ⟨g, s, ⟨rfl, rfl⟩, out, o, x, B, hq', TT out (fun _ h => h) (fun _ => on)⟩
   ·rw [decide_eq_false on] at e5
    obtain ⟨s', g2, e6, o2, c2, _⟩ := o.app2 x.1 b (by simp [encI]) (by unfold lenMost; omega)
    simp only [encI] at e6
    simp [hj, ixA_nat L, L.at, hb, e4, hrs.at, hn', hrb.trap, t', e5, e6, wj]
    have il : i < out.length := (List.getElem?_eq_some_iff.1 hq').1
    have x2 : Ext K g2 := ⟨Nat.le_trans x.1 c2.len, fun id hid => by rw [c2.keep id (Nat.lt_of_lt_of_le hid x.1) (fun hh => by have := o.ids id hh; omega), x.2 id hid]⟩
    exact ⟨g2, s', ⟨rfl, rfl⟩, out ++ [b], o2, x2, B.add hq' hbm (by rw [hbt]; exact t') on, by rw [List.getElem?_append_left il]; exact hq', TT (out ++ [b]) (fun _ h => List.mem_append_left _ h) (fun _ => by simp)⟩
 ·rintro ⟨g, s, out⟩ ⟨o, x, B, hq', T⟩
  simp only at o x B hq' T ⊢
  rw [List.take_length] at T
  rw [Wp_body]
  simp [wi]
  have B2 := B.next hq' (fun y hy ht => T y (by rw [← er]; exact hy) ht)
  have il : i < out.length := (List.getElem?_eq_some_iff.1 hq').1
  have l7 := B2.len G al
  exact ⟨g, s, out, i + 1, ⟨⟨rfl, by omega⟩, rfl⟩, ⟨o, x, B2⟩, by omega⟩
end Go.Proofs.YtmkiojlebjknlaaGreat
