/-
  What functions of the seat answer, each proved once; each under the condition that cells bear what it is given, as its statement says.
-/
import Derived.Test.YtmkiojlebjknlaaGreatWalkA2
import Derived.Test.YtmkiojlebjknlaaGreatWalkA1
import Derived.Test.YtmkiojlebjknlaaGreatAm6
set_option linter.all false
/-
 THE REFERENCE'S WorldOk, TurnWhen: what they answer.
-/
set_option maxRecDepth 8000
namespace Go.Proofs.YtmkiojlebjknlaaGreat
open Go.AM
variable {h : H}
def mailTo (w : PWorld) : Nat → Nat
 | 0 => 0
 | i + 1 => mailTo w i + (w.runs[i]?.getD default).mail.length
structure WorldOk (w : PWorld) : Prop where
 safe : CodeSafe w.code
 many : 1 ≤ w.runs.length ∧ w.runs.length ≤ 6
 now : 0 ≤ w.now ∧ w.now ≤ 300
 sent : 0 ≤ w.sent ∧ w.sent ≤ 9999
 taken : 0 ≤ w.taken ∧ w.taken ≤ 9999
 lost : 0 ≤ w.lost ∧ w.lost ≤ 9999
 queue : IdsOk w.queue 0
 each : ∀ i (hi : i < w.runs.length), RunIn w (fullR w.code) i w.runs[i]
 queueTo : ∀ q ∈ w.queue, q ≤ w.runs.length
 links : ∀ a b (ha : a < w.runs.length) (hb : b < a), (b : Int) + 1 ∈ w.runs[a].links ↔ (a : Int) + 1 ∈ (w.runs[b]'(by omega)).links
 sum : w.sent = w.taken + w.lost + mailTo w w.runs.length
theorem mailTo_le {w : PWorld} : ∀ i, (∀ j (hj : j < w.runs.length), j < i → (w.runs[j]).mail.length ≤ 12) → mailTo w i ≤ 12 * i
 | 0, _ => by simp [mailTo]
 | i + 1, h => by
  have := mailTo_le i fun j hj hi => h j hj (by omega)
  simp only [mailTo]
  by_cases hl : i < w.runs.length
  ·have h2 := h i hl (by omega)
   rw [List.getElem?_eq_getElem hl, Option.getD_some]; omega
  ·rw [List.getElem?_eq_none (by omega)]
   simp only [Option.getD_none]
   change _ + 0 ≤ _
   omega
theorem RunR.ext {r : PRun} {c : RunC} {h h' : H} (hr : RunR h r c) (x : Ext h h') : RunR h' r c := ⟨hr.id, hr.at_, hr.slots.ext x, hr.full, hr.mail.ext x, hr.state, hr.due, hr.links.ext x, hr.watched.ext x, hr.trap, hr.why, hr.turns⟩
theorem RunsR.ext {s : Cell} {rs : List PRun} {cs : List RunC} {h h' : H} (hr : RunsR h s rs cs) (x : Ext h h') : RunsR h' s rs cs := ⟨hr.sl.ext x, hr.len, fun i hi => (hr.each i hi).ext x⟩
theorem WorldR.ext {c : WorldC} {w : PWorld} {cs : List RunC} {h h' : H} (hw : WorldR h w c cs) (x : Ext h h') : WorldR h' w c cs := ⟨hw.code.ext x, hw.runs.ext x, hw.queue.ext x, hw.now, hw.sent, hw.taken, hw.lost⟩
theorem WorldR.push {c : WorldC} {w : PWorld} {cs : List RunC} {h : H} (hw : WorldR h w c cs) (b : Blk) : WorldR (h.push b) w c cs := hw.ext (Ext.push h b)
set_option maxHeartbeats 2000000 in
set_option maxRecDepth 8000 in
theorem c_WorldOk {c : WorldC} {w : PWorld} {cs : List RunC} (hw : WorldR h w c cs) :
  Dz.den 12 [.g (encW c)] h = some (.c (.bool (tt (WorldOk w))), h) := by
 refine den_plain rfl Tryz.func12 rfl rfl ?_
 have e1 := c_CodeSafe hw.code
 have e2 := c_l11Ids hw.queue 0
 have hS := hw.runs.sl
 have hcl := hw.runs.len
 have lr := fun e => hS.lenA (e := e)
 by_cases h1 : CodeSafe w.code
 rotate_left
 ·have kk : ¬ WorldOk w := fun k => h1 k.safe
  simp [Tryz.f12, e1, h1, kk]
 by_cases h2 : 1 ≤ w.runs.length ∧ w.runs.length ≤ 6
 rotate_left
 ·have kk : ¬ WorldOk w := fun k => h2 k.many
  have h2' : ¬ (1 ≤ (cs.length : Int) ∧ (cs.length : Int) ≤ 6) := by omega
  simp [Tryz.f12, e1, h1, kk, lr, h2']
 have h2' : 1 ≤ (cs.length : Int) ∧ (cs.length : Int) ≤ 6 := by omega
 by_cases h3 : 0 ≤ w.now ∧ w.now ≤ 300
 rotate_left
 ·have kk : ¬ WorldOk w := fun k => h3 k.now
  simp [Tryz.f12, e1, h1, kk, lr, h2', hw.now, h3]
 by_cases h4 : 0 ≤ w.sent ∧ w.sent ≤ 9999
 rotate_left
 ·have kk : ¬ WorldOk w := fun k => h4 k.sent
  simp [Tryz.f12, e1, h1, kk, lr, h2', hw.now, h3, hw.sent, h4]
 by_cases h5 : 0 ≤ w.taken ∧ w.taken ≤ 9999
 rotate_left
 ·have kk : ¬ WorldOk w := fun k => h5 k.taken
  simp [Tryz.f12, e1, h1, kk, lr, h2', hw.now, h3, hw.sent, h4, hw.taken, h5]
 by_cases h6 : 0 ≤ w.lost ∧ w.lost ≤ 9999
 rotate_left
 ·have kk : ¬ WorldOk w := fun k => h6 k.lost
  simp [Tryz.f12, e1, h1, kk, lr, h2', hw.now, h3, hw.sent, h4, hw.taken, h5, hw.lost, h6]
 by_cases h7 : IdsOk w.queue 0
 rotate_left
 ·have kk : ¬ WorldOk w := fun k => h7 k.queue
  simp [Tryz.f12, e1, h1, kk, lr, h2', hw.now, h3, hw.sent, h4, hw.taken, h5, hw.lost, h6, e2, h7]
 have hop := codeOk_op h1.ok
 have hcl2 := codeOk_len h1.ok
 have e3 := c_l3Full hw.code hop (by omega) hcl2.2
 obtain ⟨p1, p2, p3⟩ := fullR_props hop
 simp [Tryz.f12, e1, h1, lr, h2', hw.now, h3, hw.sent, h4, hw.taken, h5, hw.lost, h6, e2, h7, e3]
 have hwk : WorldR (h.push (blkI (fullR w.code))) w c cs := hw.push _
 have hg : (h.push (blkI (fullR w.code))).get h.length = some (blkI (fullR w.code)) := get_push_self
 generalize hk : h.push (blkI (fullR w.code)) = k at *
 have hkk : h.keeps k := by rw [← hk]; simp
 have hSk := hwk.runs.sl
 have lrk := fun e => hSk.lenA (e := e)
 generalize hn : cs.length = n at *
 refine count_wp n (fun i => ([.c (.bool false), .c (.sl h.length 0 w.code.length none), .c (ci (mailTo w i)), .c (ci i)], [encW c], [], k)) (fun i => ∀ j (hj : j < w.runs.length), j < i → RunIn w (fullR w.code) j w.runs[j]) (by simp [mailTo, hw.now, hw.sent, hw.taken, hw.lost]) (by simp) ?_ ?_
 ·intro i hi hP
  have er := c_l12Run (i := i) (m := i) rfl hwk (by omega) h2.2 hg p1 p2
  rw [p2] at er
  simp at er
  have hi2 : i < cs.length := by omega
  have hi3 : i < w.runs.length := by omega
  have hml := fun e => (hwk.runs.each i hi3).mail.lenA (e := e)
  have hmx := mailTo_le i fun j hj hji => (hP j hj hji).ok.room
  rw [Wp_body]
  by_cases hin : RunIn w (fullR w.code) i w.runs[i]
  rotate_left
  ·have kk : ¬ WorldOk w := fun kw => hin (kw.each i hi3)
   simp [lrk, hn, hi, er, hin, kk, hkk]
  have hrm := hin.ok.room
  have wm : IntKind.i64.wrap ((mailTo w i : Int) + (w.runs[i]).mail.length) = (mailTo w i : Int) + (w.runs[i]).mail.length := wrap_i64 (by omega) (by omega)
  simp [lrk, hn, hi, er, hin, ixA_nat hSk, hSk.at, hi2, hml, mailTo, hi3, wm, wrap_succ (show i < sMost by simp [sMost]; omega)]
  intro j hj hji
  rcases Nat.lt_succ_iff_lt_or_eq.1 hji with e | rfl
  ·exact hP j hj e
  ·exact hin
 ·intro hP
  have hP' : ∀ j (hj : j < w.runs.length), RunIn w (fullR w.code) j w.runs[j] := fun j hj => hP j hj (by omega)
  have hmx := mailTo_le n fun j hj hji => (hP j hj hji).ok.room
  have hq := hwk.queue
  rw [Wp_body]
  simp [lrk, hn]
  refine count_wp w.queue.length (fun i => ([.c (.bool false), .c (ci (mailTo w n)), .c (ci i)], [encW c], [], k)) (fun i => AllTo w.queue i fun q => q ≤ w.runs.length) (by simp) (by simp) ?_ ?_
  ·intro i hi hQ
   rw [Wp_body]
   simp [hq.lenA, hi, ixA_nat hq, hq.at, lrk, wrap_succ (hq.lt hi), allTo_succ hi, hQ, hcl]
   refine ⟨by unfold LexOk; kernel_rfl, fun hlt => ⟨fun kw => ?_, hkk⟩⟩
   have := kw.queueTo _ (List.getElem_mem hi); omega
  ·intro hQ
   rw [allTo_len] at hQ
   rw [Wp_body]
   simp [hq.lenA]
   refine count_wp n (fun i => ([.c (.bool false), .c (ci (mailTo w n)), .c (ci i)], [encW c], [], k)) (fun i => ∀ a b (ha : a < w.runs.length) (hb : b < a), a < i → ((b : Int) + 1 ∈ w.runs[a].links ↔ (a : Int) + 1 ∈ (w.runs[b]'(by omega)).links)) (by simp) (by simp) ?_ ?_
   ·intro a ha hL
    rw [Wp_body]
    simp [lrk, hn, ha]
    refine count_wp a (fun b => ([.c (.bool false), .c (ci (mailTo w n)), .c (ci a), .c (ci b)], [encW c], [], k)) (fun i => ∀ b (hb : b < a), b < i → ((b : Int) + 1 ∈ (w.runs[a]'(by omega)).links ↔ (a : Int) + 1 ∈ (w.runs[b]'(by omega)).links)) (by simp) (by simp) ?_ ?_
    ·intro b hb hM
     have el := c_l12Linked (a := a) (b := b) (ma := a) (mb := b) rfl rfl hwk (by omega) (by omega) h2.2
     simp at el
     rw [Wp_body]
     simp [hb, el, wrap_succ (show b < sMost by simp [sMost]; omega)]
     refine ⟨fun e b' hb' hlt => ?_, fun e => ⟨fun kw => e (kw.links a b (by omega) hb), hkk⟩⟩
     rcases Nat.lt_succ_iff_lt_or_eq.1 hlt with e' | rfl
     ·exact hM b' hb' e'
     ·exact e
    ·intro hM
     rw [Wp_body]
     simp [wrap_succ (show a < sMost by simp [sMost]; omega)]
     intro a' b' ha' hb' hlt
     rcases Nat.lt_succ_iff_lt_or_eq.1 hlt with e' | rfl
     ·exact hL a' b' ha' hb' e'
     ·exact hM b' hb' hb'
   ·intro hL
    have w1 : IntKind.i64.wrap (w.taken + w.lost) = w.taken + w.lost := wrap_i64 (by omega) (by omega)
    have w2 : IntKind.i64.wrap (w.taken + w.lost + mailTo w n) = w.taken + w.lost + mailTo w n := wrap_i64 (by omega) (by omega)
    rw [Wp_body]
    simp [lrk, hn, hw.sent, hw.taken, hw.lost, w1, w2, hkk]
    rw [tt_eq, decide_eq_true_iff]
    exact ⟨fun e => ⟨h1, h2, h3, h4, h5, h6, h7, hP', hQ, fun a b ha hb => hL a b ha hb (by omega), by rw [e, hcl]⟩, fun kw => by rw [kw.sum, hcl]⟩
end Go.Proofs.YtmkiojlebjknlaaGreat

/-
 THE PROGRAM'S SEARCHES IN SLICES: what they answer.
-/
set_option maxRecDepth 8000
namespace Go.Proofs.YtmkiojlebjknlaaGreat
open Go.AM
variable {h : H}
def Answers (h : H) (f : FuncId) (caps : List (Nat × Nat × Nat)) {α : Type} (enc : α → List Cell) (xs : List α) (p : α → Bool) : Prop := ∀ x ∈ xs, Dz.den f (.g (enc x) :: V.caps caps) h = some (.c (.bool (p x)), h)
def Answers1 (h : H) (f : FuncId) (caps : List (Nat × Nat × Nat)) (xs : List Int) (p : Int → Bool) : Prop := ∀ x ∈ xs, Dz.den f (.c (.int .i64 x) :: V.caps caps) h = some (.c (.bool (p x)), h)
theorem c_IndexI {s : Cell} {xs : List Int} (hS : Sl h s 1 encI xs) (n : Int) : Dz.den 86 [.c s, .c (.int .i64 n)] h = some (.c (.int .i64 (firstAt (fun x => decide (n = x)) xs)), h) := by
 refine den_plain rfl Tryz.func86 rfl rfl ?_
 simp [Tryz.f86, hS.lenA]
 refine count_wp xs.length (fun i => ([.c s, .c (ci n), .c (ci 0), .c (ci xs.length), .c (ci i)], [], [], h)) (fun i => AllTo xs i fun x => decide (n = x) = false) rfl (by simp) ?_ ?_
 ·intro i hi hP
  rw [Wp_body]
  simp [ixA_nat hS, hS.at, hi, wrap_succ (hS.lt hi), allTo_succ hi]
  refine ⟨fun e => ?_, fun e => ⟨by simpa using hP, e⟩⟩
  rw [firstAt_some hi hP (by simpa using e)]
 ·intro hP
  rw [Wp_body]
  simp
  rw [firstAt_none (allTo_len.1 hP)]
theorem firstAt_ge {α : Type} (p : α → Bool) (xs : List α) : (0 ≤ firstAt p xs) ↔ ∃ x ∈ xs, p x = true := by
 unfold firstAt
 cases h : xs.findIdx? p with
 | none =>
  rw [List.findIdx?_eq_none_iff] at h
  simp only [show ¬ (0 : Int) ≤ -1 by omega, false_iff]
  rintro ⟨x, hx, hp⟩
  rw [h x hx] at hp; cases hp
 | some i =>
  rw [List.findIdx?_eq_some_iff_getElem] at h
  obtain ⟨h1, h2, _⟩ := h
  simp only [Int.natCast_nonneg, true_iff]
  exact ⟨_, List.getElem_mem h1, h2⟩
theorem c_ContainsI {s : Cell} {xs : List Int} (hS : Sl h s 1 encI xs) (n : Int) : Dz.den 49 [.c s, .c (.int .i64 n)] h = some (.c (.bool (decide (n ∈ xs))), h) := by
 refine den_plain rfl Tryz.func49 rfl rfl ?_
 simp [Tryz.f49, c_IndexI hS, firstAt_ge]
theorem c_IndexFuncI {s : Cell} {xs : List Int} (hS : Sl h s 1 encI xs) {f : FuncId} {caps : List (Nat × Nat × Nat)} {p : Int → Bool} (ha : Answers1 h f caps xs p) :
  Dz.den 150 [.c s, .c (.fn f caps)] h = some (.c (.int .i64 (firstAt p xs)), h) := by
 refine den_plain rfl Tryz.func150 rfl rfl ?_
 simp [Tryz.f150, hS.lenA]
 refine count_wp xs.length (fun i => ([.c s, .c (.fn f caps), .c (ci 0), .c (ci xs.length), .c (ci i)], [], [], h)) (fun i => AllTo xs i fun x => p x = false) rfl (by simp) ?_ ?_
 ·intro i hi hP
  have e := ha _ (List.getElem_mem hi)
  rw [Wp_body]
  simp [ixA_nat hS, hS.at, hi, wrap_succ (hS.lt hi), allTo_succ hi, e, hP]
  exact fun e => by rw [firstAt_some hi hP e]
 ·intro hP
  rw [Wp_body]
  simp
  rw [firstAt_none (allTo_len.1 hP)]
theorem c_ContainsFuncI {s : Cell} {xs : List Int} (hS : Sl h s 1 encI xs) {f : FuncId} {caps : List (Nat × Nat × Nat)} {p : Int → Bool} (ha : Answers1 h f caps xs p) :
  Dz.den 90 [.c s, .c (.fn f caps)] h = some (.c (.bool (xs.any p)), h) := by
 refine den_plain rfl Tryz.func90 rfl rfl ?_
 simp [Tryz.f90, c_IndexFuncI hS ha, firstAt_ge]
 rw [Bool.eq_iff_iff]; simp
theorem c_IndexFuncO {s : Cell} {xs : List POp} (hS : Sl h s 6 encO xs) {f : FuncId} {caps : List (Nat × Nat × Nat)} {p : POp → Bool} (ha : Answers h f caps encO xs p) :
  Dz.den 179 [.c s, .c (.fn f caps)] h = some (.c (.int .i64 (firstAt p xs)), h) := by
 refine den_plain rfl Tryz.func179 rfl rfl ?_
 simp [Tryz.f179, hS.lenA]
 refine count_wp xs.length (fun i => ([.c s, .c (.fn f caps), .c (ci 0), .c (ci xs.length), .c (ci i)], [], [], h)) (fun i => AllTo xs i fun x => p x = false) rfl (by simp) ?_ ?_
 ·intro i hi hP
  have e := ha _ (List.getElem_mem hi)
  simp at e
  rw [Wp_body]
  simp [ixA_nat hS, hS.at, hi, wrap_succ (hS.lt hi), allTo_succ hi, e, hP]
  exact fun e => by rw [firstAt_some hi hP e]
 ·intro hP
  rw [Wp_body]
  simp
  rw [firstAt_none (allTo_len.1 hP)]
theorem c_ContainsFuncO {s : Cell} {xs : List POp} (hS : Sl h s 6 encO xs) {f : FuncId} {caps : List (Nat × Nat × Nat)} {p : POp → Bool} (ha : Answers h f caps encO xs p) :
  Dz.den 149 [.c s, .c (.fn f caps)] h = some (.c (.bool (xs.any p)), h) := by
 refine den_plain rfl Tryz.func149 rfl rfl ?_
 simp [Tryz.f149, c_IndexFuncO hS ha, firstAt_ge]
 rw [Bool.eq_iff_iff]; simp
theorem c_IndexFuncV {s : Cell} {xs : List PVal} (hS : Sl h s 2 encV xs) {f : FuncId} {caps : List (Nat × Nat × Nat)} {p : PVal → Bool} (ha : Answers h f caps encV xs p) :
  Dz.den 120 [.c s, .c (.fn f caps)] h = some (.c (.int .i64 (firstAt p xs)), h) := by
 refine den_plain rfl Tryz.func120 rfl rfl ?_
 simp [Tryz.f120, hS.lenA]
 refine count_wp xs.length (fun i => ([.c s, .c (.fn f caps), .c (ci 0), .c (ci xs.length), .c (ci i)], [], [], h)) (fun i => AllTo xs i fun x => p x = false) rfl (by simp) ?_ ?_
 ·intro i hi hP
  have e := ha _ (List.getElem_mem hi)
  simp at e
  rw [Wp_body]
  simp [ixA_nat hS, hS.at, hi, wrap_succ (hS.lt hi), allTo_succ hi, e, hP]
  exact fun e => by rw [firstAt_some hi hP e]
 ·intro hP
  rw [Wp_body]
  simp
  rw [firstAt_none (allTo_len.1 hP)]
theorem c_ContainsFuncV {s : Cell} {xs : List PVal} (hS : Sl h s 2 encV xs) {f : FuncId} {caps : List (Nat × Nat × Nat)} {p : PVal → Bool} (ha : Answers h f caps encV xs p) :
  Dz.den 165 [.c s, .c (.fn f caps)] h = some (.c (.bool (xs.any p)), h) := by
 refine den_plain rfl Tryz.func165 rfl rfl ?_
 simp [Tryz.f165, c_IndexFuncV hS ha, firstAt_ge]
 rw [Bool.eq_iff_iff]; simp
end Go.Proofs.YtmkiojlebjknlaaGreat

/-
 THE PROGRAM'S CodeOk, OpUses: what they answer.
-/
set_option maxRecDepth 8000
namespace Go.Proofs.YtmkiojlebjknlaaGreat
open Go.AM
variable {h : H}
def wrongP (n : Nat) (o : POp) : Bool := !opOk o || (hasT o.kind && decide ((n : Int) ≤ o.to))
theorem c_wrong {id : Nat} {s : Cell} {c : List POp} (hg : h.get id = some ⟨false, 1, [[s]]⟩) (hS : Sl h s 6 encO c) (o : POp) :
  Dz.den 146 [.g (encO o), .c (.ptr id 0 0)] h = some (.c (.bool (wrongP c.length o)), h) := by
 refine den_plain rfl Tryz.func146 rfl rfl ?_
 have e1 := c_IOpOk (h := h) o
 have e2 := c_hasT (h := h) o
 simp at e1 e2
 simp [Tryz.f146, e1, e2, H.cellsAt, hg, hS.lenA, wrongP]
 cases opOk o <;> cases hasT o.kind <;> simp
theorem codeOk_any (c : List POp) : codeOk c = (decide (1 ≤ c.length ∧ c.length ≤ 16) && !(c.any (wrongP c.length))) := by
 unfold codeOk
 congr 1
 rw [Bool.eq_iff_iff]
 simp only [List.all_eq_true, Bool.not_eq_true', List.any_eq_false, wrongP, Bool.and_eq_true, Bool.or_eq_true, decide_eq_true_eq]
 constructor
 ·intro h x hx
  have := h x hx
  rw [this.1]
  rcases this.2 with h2 | h2
  ·simp [h2]
  ·simp; intro _; omega
 ·intro h x hx
  have := h x hx
  cases h1 : opOk x <;> cases h2 : hasT x.kind <;> simp [h1, h2] at this ⊢
  omega
theorem c_ICodeOk {s : Cell} {c : List POp} (hS : Sl h s 6 encO c) : Dz.den 89 [.c s] h = some (.c (.bool (codeOk c)), h) := by
 refine den_plain rfl Tryz.func89 rfl rfl ?_
 have hg : (h.push ⟨false, 1, [[s]]⟩).get h.length = some ⟨false, 1, [[s]]⟩ := get_push_self
 have hS' := hS.push ⟨false, 1, [[s]]⟩
 have e := c_ContainsFuncO hS' (f := 146) (caps := [(h.length, 0, 0)]) (p := wrongP c.length) (fun x _ => c_wrong hg hS' x)
 rw [codeOk_any]
 simp [Tryz.f89, hg, hS'.lenA, e]
 grind
end Go.Proofs.YtmkiojlebjknlaaGreat

/-
 THE PROGRAM'S OpUses: what it answers.
-/
set_option maxRecDepth 8000
namespace Go.Proofs.YtmkiojlebjknlaaGreat
open Go.AM
variable {h : H}
theorem Sl.new1 {h : H} {n : Nat} (hn : n = h.length) (xs : List Int) (hl : xs.length ≤ sMost) : Sl (h.push ⟨false, 1, xs.map encI⟩) (.sl n 0 xs.length none) 1 encI xs := by
 subst hn; exact Sl.new (by simp) hl
theorem uses_reads (o : POp) (hk : 1 ≤ o.kind ∧ o.kind ≤ 14) : uses o = (if o.kind = 2 then [83] else if o.kind = 3 ∨ o.kind = 6 then [82, 83] else if o.kind = 10 ∨ o.kind = 11 ∨ o.kind = 12 ∨ o.kind = 14 then [82] else ([] : List UInt8)).map fun b => if b = 82 then o.r else o.s := by
 unfold uses
 split
 ·rfl
 ·split
  ·rfl
  ·split <;> rfl
theorem bytes_eq {s : ByteArray} {l : List UInt8} (h : s.data.toList = l) : s = ⟨⟨l⟩⟩ := by
 obtain ⟨⟨d⟩⟩ := s; simp at h; rw [h]
set_option maxRecDepth 8000 in
theorem c_OpUses (o : POp) (hok : opOk o = true) : @Wp _ (Dz.den 91 [.g (encO o)] h) ⟨fun r => ∃ s, r.1 = .c s ∧ Ext h r.2 ∧ Sl r.2 s 1 encI (uses o)⟩ := by
 refine den_wp rfl Tryz.func91 rfl ?_
 have hk : 1 ≤ o.kind ∧ o.kind ≤ 14 := by simp [opOk] at hok; exact hok.1.1.1.1
 have e1 := c_IOpOk (h := h) o
 obtain ⟨wd, hs, rd, fl, hm, e2⟩ := c_how (h := h) o
 have hr := hm.reads
 have hu := uses_reads o hk
 rw [← hr] at hu
 rw [hu]
 simp at e1 e2
 simp [Tryz.f91, e1, hok, e2]
 have cases : rd.data.toList = [83] ∨ rd.data.toList = [82, 83] ∨ rd.data.toList = [82] ∨ rd.data.toList = [] := by
  rw [hr]; split
  ·simp
  ·split
   ·simp
   ·split <;> simp
 have e83 : ∀ l, (⟨⟨83 :: l⟩⟩ : ByteArray) ≠ ByteArray.empty := fun l e => by cases e
 rcases cases with hc | hc | hc | hc
 ·obtain rfl := bytes_eq hc
  have d0 : Utf8.decode ⟨⟨[83]⟩⟩ 0 = (83, 1) := by decide
  have ds : (⟨⟨[83]⟩⟩ : ByteArray).size = 1 := rfl
  have dn : ¬ (⟨⟨[83]⟩⟩ : ByteArray) = ByteArray.empty := fun e => by cases e
  clear hu hr
  refine Wp_round ?_
  rw [Wp_body]
  simp [d0, ds, dn, appendA, elemsOf, H.elems, lenMost]
  refine Wp_round ?_
  rw [Wp_body]
  simp [d0, ds, dn]
  exact ⟨(Ext.push _ _).trans (Ext.push _ _), Sl.new1 (by simp) [o.s] (by simp [sMost])⟩
 ·obtain rfl := bytes_eq hc
  have d0 : Utf8.decode ⟨⟨[82, 83]⟩⟩ 0 = (82, 1) := by decide
  have d1 : Utf8.decode ⟨⟨[82, 83]⟩⟩ 1 = (83, 1) := by decide
  have ds : (⟨⟨[82, 83]⟩⟩ : ByteArray).size = 2 := rfl
  have dn : ¬ (⟨⟨[82, 83]⟩⟩ : ByteArray) = ByteArray.empty := fun e => by cases e
  clear hu hr
  refine Wp_round ?_
  rw [Wp_body]
  simp [d0, d1, ds, dn, appendA, elemsOf, H.elems, lenMost]
  have hx : Ext h ((h.push ⟨false, 1, [[.int .i64 o.r]]⟩).push ⟨false, 1, [[.int .i64 o.r]]⟩) := (Ext.push _ _).trans (Ext.push _ _)
  have hS : Sl ((h.push ⟨false, 1, [[.int .i64 o.r]]⟩).push ⟨false, 1, [[.int .i64 o.r]]⟩) (.sl (h.length + 1) 0 1 none) 1 encI [o.r] := Sl.new1 (by simp) [o.r] (by simp [sMost])
  have hW : ((h.push ⟨false, 1, [[.int .i64 o.r]]⟩).push ⟨false, 1, [[.int .i64 o.r]]⟩).get (h.length + 1) = some ⟨false, 1, [[.int .i64 o.r]]⟩ := by
   have := get_push_self (h := h.push ⟨false, 1, [[.int .i64 o.r]]⟩) (b := ⟨false, 1, [[.int .i64 o.r]]⟩)
   rwa [length_push] at this
  have hKl : (((h.push ⟨false, 1, [[.int .i64 o.r]]⟩).push ⟨false, 1, [[.int .i64 o.r]]⟩) : H).length = h.length + 2 := by simp
  generalize hK : (h.push ⟨false, 1, [[.int .i64 o.r]]⟩).push ⟨false, 1, [[.int .i64 o.r]]⟩ = K at *
  have hT : elemsOf (K.push ⟨false, 1, [[.int .i64 o.s]]⟩) (.c (.sl (h.length + 1 + 1) 0 1 none)) = some ([o.s].map encI) := by
   rw [show h.length + 1 + 1 = K.length by omega]
   simp [elemsOf, H.elems]
  obtain ⟨s', k', e3, A⟩ := appendS_ok (enc := encI) (ys := [o.s]) (hS.push ⟨false, 1, [[.int .i64 o.s]]⟩) (fun id hid => by
   simp only [Cell.ids, List.mem_singleton] at hid; subst hid; exact ⟨_, get_push_some hW, rfl⟩) (fun _ _ _ _ e => by cases e) hT (by simp) (by simp [lenMost])
  refine Wp_round ?_
  rw [Wp_body]
  simp [d0, d1, ds, dn, e3, hKl]
  refine Wp_round ?_
  rw [Wp_body]
  simp [ds, dn]
  refine ⟨⟨?_, fun id hid => ?_⟩, A.sl⟩
  ·have := A.len; simp at this; omega
  ·rw [A.keep id (by simp; omega) (by simp [Cell.ids]; omega), get_push_lt (by omega), hx.2 id hid]
 ·obtain rfl := bytes_eq hc
  have d0 : Utf8.decode ⟨⟨[82]⟩⟩ 0 = (82, 1) := by decide
  have ds : (⟨⟨[82]⟩⟩ : ByteArray).size = 1 := rfl
  have dn : ¬ (⟨⟨[82]⟩⟩ : ByteArray) = ByteArray.empty := fun e => by cases e
  clear hu hr
  refine Wp_round ?_
  rw [Wp_body]
  simp [d0, ds, dn, appendA, elemsOf, H.elems, lenMost]
  refine Wp_round ?_
  rw [Wp_body]
  simp [d0, ds, dn]
  exact ⟨(Ext.push _ _).trans (Ext.push _ _), Sl.new1 (by simp) [o.r] (by simp [sMost])⟩
 ·obtain rfl := bytes_eq hc
  have ds : (⟨⟨[]⟩⟩ : ByteArray).size = 0 := rfl
  clear hu hr
  refine Wp_round ?_
  rw [Wp_body]
  simp [ds]
  exact ⟨Ext.refl _, by simp, rfl⟩
end Go.Proofs.YtmkiojlebjknlaaGreat

/-
 THE PROGRAM'S arrows: what it answers.
-/
set_option maxRecDepth 8000
namespace Go.Proofs.YtmkiojlebjknlaaGreat
open Go.AM
variable {h : H}
theorem orW_fin : ∀ x : Fin 16, ∀ r : Fin 4, IntKind.i64.wrap ↑(((x.val : Int) % 2 ^ IntKind.i64.bits).toNat ||| (IntKind.i64.wrap (2 ^ min r.val IntKind.i64.bits) % 2 ^ IntKind.i64.bits).toNat) = withB x.val r.val := by decide +kernel
theorem orW {x r : Int} (h0 : 0 ≤ x) (h1 : x ≤ 15) (r0 : 0 ≤ r) (r1 : r ≤ 3) : IntKind.i64.wrap ↑((x % 2 ^ IntKind.i64.bits).toNat ||| (IntKind.i64.wrap (2 ^ min r.toNat IntKind.i64.bits) % 2 ^ IntKind.i64.bits).toNat) = withB x r := by
 have := orW_fin ⟨x.toNat, by omega⟩ ⟨r.toNat, by omega⟩
 simp only at this
 rwa [show ((x.toNat : Nat) : Int) = x by omega, show ((r.toNat : Nat) : Int) = r by omega] at this
theorem andW_fin : ∀ x : Fin 17, ∀ y : Fin 16, IntKind.i64.wrap ↑((((x.val : Int) - 1) % 2 ^ IntKind.i64.bits).toNat &&& ((y.val : Int) % 2 ^ IntKind.i64.bits).toNat) = both ((x.val : Int) - 1) y.val := by decide +kernel
theorem andW {x y : Int} (h0 : -1 ≤ x) (h1 : x ≤ 15) (r0 : 0 ≤ y) (r1 : y ≤ 15) : IntKind.i64.wrap ↑((x % 2 ^ IntKind.i64.bits).toNat &&& (y % 2 ^ IntKind.i64.bits).toNat) = both x y := by
 have := andW_fin ⟨(x + 1).toNat, by omega⟩ ⟨y.toNat, by omega⟩
 simp only at this
 rwa [show (((x + 1).toNat : Nat) : Int) - 1 = x by omega, show ((y.toNat : Nat) : Int) = y by omega] at this
theorem c_same (x : Int) : Dz.den 152 [.c (.int .i64 x)] h = some (.c (.int .i64 x), h) := by
 refine den_plain rfl Tryz.func152 rfl rfl ?_
 simp [Tryz.f152]
theorem c_one (x : Int) : Dz.den 154 [.c (.int .i64 x)] h = some (.c (.int .i64 1), h) := by
 refine den_plain rfl Tryz.func154 rfl rfl ?_
 simp [Tryz.f154]
theorem c_filled {id : Nat} {o : POp} (hg : h.get id = some ⟨false, 6, [encO o]⟩) (x : Int) (h0 : 0 ≤ x) (h1 : x ≤ 15) (r0 : 0 ≤ o.r) (r1 : o.r ≤ 3) :
  Dz.den 153 [.c (.int .i64 x), .c (.ptr id 0 0)] h = some (.c (.int .i64 (withB x o.r)), h) := by
 refine den_plain rfl Tryz.func153 rfl rfl ?_
 simp [Tryz.f153, H.cellsAt, hg]
 exact ⟨r0, fun _ => orW h0 h1 r0 r1⟩
abbrev Arrow := Int × (Int → Int)
def nexts (o : POp) (n i : Nat) : List Arrow := if o.kind ≠ 9 ∧ o.kind ≠ 14 ∧ i + 1 < n then [((i : Int) + 1, fun x => if fillsM o.kind then withB x o.r else x)] else []
def tos (o : POp) : List Arrow := if o.kind = 5 then [(o.to, fun _ => 1)] else if hasT o.kind then [(o.to, fun x => x)] else []
def ArrowR (lo : Nat) (k : H) (c : List Cell) (a : Arrow) : Prop := ∃ f caps, c = [.int .i64 a.1, .fn f caps] ∧ (∀ p ∈ caps, lo ≤ p.1) ∧
 ∀ k' : H, (∀ id, lo ≤ id → id < k.length → k'.get id = k.get id) → ∀ x, 0 ≤ x → x ≤ 15 → Dz.den f (.c (.int .i64 x) :: V.caps caps) k' = some (.c (.int .i64 (a.2 x)), k')
structure ArrowsR (lo : Nat) (k : H) (s : Cell) (ws : List Arrow) (cs : List (List Cell)) : Prop where
 sl : Sl k s 2 id cs
 len : cs.length = ws.length
 each : ∀ j (hj : j < ws.length), ArrowR lo k (cs[j]'(by omega)) ws[j]
 ids : ∀ id ∈ s.ids, lo ≤ id
def ArrQ (h : H) (ws : List Arrow) (r : V × H) : Prop := ∃ s' cs, r.1 = .c s' ∧ Ext h r.2 ∧ ArrowsR h.length r.2 s' ws cs
theorem arrow_same (lo : Nat) (k : H) (to : Int) : ArrowR lo k [.int .i64 to, .fn 152 []] (to, fun x => x) := ⟨_, _, rfl, by simp, fun k' _ x _ _ => c_same x⟩
theorem arrow_one (lo : Nat) (k : H) (to : Int) : ArrowR lo k [.int .i64 to, .fn 154 []] (to, fun _ => 1) := ⟨_, _, rfl, by simp, fun k' _ x _ _ => c_one x⟩
theorem arrow_filled {lo : Nat} {k : H} {id : Nat} {o : POp} (hid : lo ≤ id) (hg : k.get id = some ⟨false, 6, [encO o]⟩) (r0 : 0 ≤ o.r) (r1 : o.r ≤ 3) (to : Int) : ArrowR lo k [.int .i64 to, .fn 153 [(id, 0, 0)]] (to, fun x => withB x o.r) :=
 ⟨_, _, rfl, by simpa using hid, fun k' hx x h0 h1 => c_filled (by rw [hx id hid (H.get_lt hg), hg]) x h0 h1 r0 r1⟩
theorem arrows_one {lo : Nat} {k : H} {n : Nat} (hlo : lo ≤ n) (hn : n = k.length) {c : List Cell} {a : Arrow} (hc : c.length = 2) (ha : ArrowR lo (k.push ⟨false, 2, [c]⟩) c a) : ArrowsR lo (k.push ⟨false, 2, [c]⟩) (.sl n 0 1 none) [a] [c] := by
 subst hn
 refine ⟨⟨by simpa using hc, rfl, by simp [sMost], _, get_push_self, rfl, by simp, by simp⟩, rfl, fun j hj => ?_, by simpa [Cell.ids] using hlo⟩
 simp at hj; subst hj; exact ha
theorem opOk_r {o : POp} (ho : opOk o = true) (hf : fillsM o.kind = true) : 0 ≤ o.r ∧ o.r ≤ 3 := by
 simp only [opOk, Bool.and_eq_true, decide_eq_true_eq] at ho
 obtain ⟨⟨⟨⟨_, hr⟩, _⟩, _⟩, _⟩ := ho
 have : hasR o.kind = true := by simp [fillsM, hasR] at hf ⊢; omega
 rw [if_pos this] at hr
 simpa using hr
theorem second_arrow {h K : H} (hkl : K.length = h.length + 1) (c c2 : List Cell) (hc : c.length = 2) (hc2 : c2.length = 2) :
  ∃ s' k', appendA 2 (((K.push ⟨false, 2, [c]⟩).push ⟨false, 2, [c]⟩).push ⟨false, 2, [c2]⟩) (.c (.sl (h.length + 1 + 1) 0 1 none)) (.c (.sl (h.length + 1 + 1 + 1) 0 1 none)) = some (.c s', k') ∧ Ext K k' ∧
   ∀ a a2, ArrowR h.length k' c a → ArrowR h.length k' c2 a2 → ArrowsR h.length k' s' [a, a2] [c, c2] := by
 have hS : Sl ((K.push ⟨false, 2, [c]⟩).push ⟨false, 2, [c]⟩) (.sl (h.length + 1 + 1) 0 1 none) 2 id [c] :=
  ⟨by simpa using hc, rfl, by simp [sMost], ⟨false, 2, [c]⟩, by rw [show h.length + 1 + 1 = (K.push ⟨false, 2, [c]⟩ : H).length by simp; omega]; exact get_push_self, rfl, by simp, by simp⟩
 have hg : ((K.push ⟨false, 2, [c]⟩).push ⟨false, 2, [c]⟩).get (h.length + 1 + 1) = some ⟨false, 2, [c]⟩ := by
  rw [show h.length + 1 + 1 = (K.push ⟨false, 2, [c]⟩ : H).length by simp; omega]; exact get_push_self
 have hT : elemsOf (((K.push ⟨false, 2, [c]⟩).push ⟨false, 2, [c]⟩).push ⟨false, 2, [c2]⟩) (.c (.sl (h.length + 1 + 1 + 1) 0 1 none)) = some ([c2].map id) := by
  rw [show h.length + 1 + 1 + 1 = ((K.push ⟨false, 2, [c]⟩).push ⟨false, 2, [c]⟩ : H).length by simp; omega]
  have := elems_of (n := 1) (i := 0) (get_push_self (h := ((K.push ⟨false, 2, [c]⟩).push ⟨false, 2, [c]⟩)) (b := ⟨false, 2, [c2]⟩)) (by simp)
  simp only [elemsOf, this]; rfl
 obtain ⟨s', k', e, A⟩ := appendS_ok (enc := id) (ys := [c2]) (hS.push ⟨false, 2, [c2]⟩) (fun id hid => by
   simp only [Cell.ids, List.mem_singleton] at hid; subst hid; exact ⟨_, get_push_some hg, rfl⟩) (fun _ _ _ _ e => by cases e) hT (by simpa using hc2) (by simp [lenMost])
 refine ⟨s', k', e, ⟨by have := A.len; simp at this; omega, fun id hid => ?_⟩, fun a a2 h1 h2 => ⟨A.sl, rfl, fun j hj => ?_, fun id hid => ?_⟩⟩
 ·rw [A.keep id (by simp; omega) (by simp [Cell.ids]; omega), get_push_lt (by simp; omega), get_push_lt (by simp; omega), get_push_lt hid]
 ·simp at hj
  obtain rfl | rfl : j = 0 ∨ j = 1 := by omega
  ·exact h1
  ·exact h2
 ·rcases A.ids id hid with h3 | h3
  ·simp [Cell.ids] at h3; omega
  ·simp at h3; omega
set_option maxHeartbeats 1000000 in
theorem c_arrows {s : Cell} {code : List POp} {i : Nat} (hc : Sl h s 6 encO code) (hi : i < code.length) (ho : opOk code[i] = true) (hl : code.length ≤ 16) :
  @Wp _ (Dz.den 93 [.c s, .c (.int .i64 i)] h) ⟨ArrQ h (nexts code[i] code.length i ++ tos code[i])⟩ := by
 refine den_wp rfl Tryz.func93 rfl ?_
 have ws := wrap_succ (hc.lt hi)
 generalize hoo : code[i] = o at *
 have hg : (h.push ⟨false, 6, [encO o]⟩).get h.length = some ⟨false, 6, [encO o]⟩ := get_push_self
 have hc' := hc.push ⟨false, 6, [encO o]⟩
 have hx : Ext h (h.push ⟨false, 6, [encO o]⟩) := Ext.push _ _
 have hkl : (h.push ⟨false, 6, [encO o]⟩ : H).length = h.length + 1 := by simp
 simp [Tryz.f93, ixA_nat hc, hc.at, hi, hoo]
 simp only [encO] at hg hc' hx hkl
 generalize hK : h.push ⟨false, 6, [[.int .i64 o.kind, .int .i64 o.r, .int .i64 o.s, .int .i64 o.to, .int .i64 o.v.k, .int .i64 o.v.n]]⟩ = K at *
 have eT := fun k => c_hasT (h := k) o
 obtain ⟨wd, hs, rd, fl, hm, e2⟩ := c_how (h := K) o
 have hfl := hm.fills
 simp only [encO] at eT e2
 have hlc := hc'.lenA (e := 80)
 have hlc := fun e => hc'.lenA (e := e)
 have hg1 := fun b => get_push_some (b := b) hg
 have hg2 := fun b c => get_push_some (b := c) (hg1 b)
 by_cases hN : o.kind ≠ 9 ∧ o.kind ≠ 14 ∧ i + 1 < code.length
 rotate_left
 ·have hnx : nexts o code.length i = [] := by simp only [nexts]; rw [if_neg hN]
  rw [hnx, List.nil_append]
  have hN' : ¬ o.kind = 9 → ¬ o.kind = 14 → ¬ ((i : Int) + 1 < code.length) := fun a b c => hN ⟨a, b, by omega⟩
  by_cases k5 : o.kind = 5
  ·have hN2 : ¬ ((i : Int) + 1 < code.length) := hN' (by omega) (by omega)
   have h9 : ¬ o.kind = 9 := by omega
   have h14 : ¬ o.kind = 14 := by omega
   simp at ws
   simp [eq_true k5, h9, h14, hlc, ws, hN2, appendA, elemsOf, H.elems, H.cellsAt, hg, lenMost, tos]
   refine ⟨_, _, rfl, ?_, arrows_one (by omega) (by simp [hkl]) (by simp) (arrow_one _ _ _)⟩
   exact hx.trans ((Ext.push _ _).trans (Ext.push _ _))
  by_cases kT : hasT o.kind = true
  ·by_cases h9 : o.kind = 9
   ·simp [eq_true h9, k5, eT, kT, appendA, elemsOf, H.elems, H.cellsAt, hg, lenMost, tos]
    refine ⟨_, _, rfl, ?_, arrows_one (by omega) (by simp [hkl]) (by simp) (arrow_same _ _ _)⟩
    exact hx.trans ((Ext.push _ _).trans (Ext.push _ _))
   ·have h14 : ¬ o.kind = 14 := by simp [hasT] at kT; omega
    have hN2 : ¬ ((i : Int) + 1 < code.length) := hN' h9 h14
    simp at ws
    simp [h9, h14, k5, eT, kT, hlc, ws, hN2, appendA, elemsOf, H.elems, H.cellsAt, hg, lenMost, tos]
    refine ⟨_, _, rfl, ?_, arrows_one (by omega) (by simp [hkl]) (by simp) (arrow_same _ _ _)⟩
    exact hx.trans ((Ext.push _ _).trans (Ext.push _ _))
  ·by_cases h9 : o.kind = 9
   ·exact absurd (by simp [hasT, h9]) kT
   by_cases h14 : o.kind = 14
   ·simp [h9, eq_true h14, k5, eT, kT, H.cellsAt, hg, tos]
    exact ⟨_, [], rfl, hx, ⟨by simp, rfl⟩, rfl, fun j hj => by simp at hj, by simp [Cell.ids]⟩
   ·have hN2 : ¬ ((i : Int) + 1 < code.length) := hN' h9 h14
    simp at ws
    simp [h9, h14, k5, eT, kT, hlc, ws, hN2, H.cellsAt, hg, tos]
    exact ⟨_, [], rfl, hx, ⟨by simp, rfl⟩, rfl, fun j hj => by simp at hj, by simp [Cell.ids]⟩
 ·have hnx : nexts o code.length i = [((i : Int) + 1, fun x => if fillsM o.kind then withB x o.r else x)] := by simp only [nexts]; rw [if_pos hN]
  obtain ⟨h9, h14, hN2⟩ := hN
  have hN2 : (i : Int) + 1 < code.length := by omega
  simp at ws
  have A0 : ∀ fv : Cell, appendA 2 (K.push ⟨false, 2, [[.int .i64 ((i : Int) + 1), fv]]⟩) (.c .nils) (.c (.sl (h.length + 1) 0 1 none)) = some (.c (.sl (h.length + 1 + 1) 0 1 none), (K.push ⟨false, 2, [[.int .i64 ((i : Int) + 1), fv]]⟩).push ⟨false, 2, [[.int .i64 ((i : Int) + 1), fv]]⟩) := fun fv => by
   rw [← hkl]; simp [appendA, elemsOf, H.elems, lenMost]
  by_cases hf : fillsM o.kind = true
  ·have hr := opOk_r ho hf
   rw [hf] at hfl
   subst hfl
   simp only [hf, ↓reduceIte] at hnx
   rw [hnx]
   by_cases k5 : o.kind = 5
   ·obtain ⟨s', k', e3, hext, fin⟩ := second_arrow hkl [.int .i64 ((i : Int) + 1), .fn 153 [(h.length, 0, 0)]] [.int .i64 o.to, .fn 154 []] rfl rfl
    simp [h9, h14, hlc, ws, hN2, e2, H.cellsAt, hg, A0, eq_true k5, hg2, hkl, e3, tos]
    exact ⟨s', _, rfl, hx.trans hext, fin _ _ (arrow_filled (Nat.le_refl _) (hext.get hg) hr.1 hr.2 _) (arrow_one _ _ _)⟩
   by_cases kT : hasT o.kind = true
   ·obtain ⟨s', k', e3, hext, fin⟩ := second_arrow hkl [.int .i64 ((i : Int) + 1), .fn 153 [(h.length, 0, 0)]] [.int .i64 o.to, .fn 152 []] rfl rfl
    simp [h9, h14, hlc, ws, hN2, e2, H.cellsAt, hg, A0, k5, hg2, hkl, e3, eT, kT, tos]
    exact ⟨s', _, rfl, hx.trans hext, fin _ _ (arrow_filled (Nat.le_refl _) (hext.get hg) hr.1 hr.2 _) (arrow_same _ _ _)⟩
   ·simp [h9, h14, hlc, ws, hN2, e2, H.cellsAt, hg, A0, k5, hg2, hkl, eT, kT, tos]
    exact ⟨_, _, rfl, hx.trans ((Ext.push _ _).trans (Ext.push _ _)), arrows_one (by omega) (by simp [hkl]) (by simp) (arrow_filled (Nat.le_refl _) (get_push_some (hg1 _)) hr.1 hr.2 _)⟩
  ·have hf' : fillsM o.kind = false := by simpa using hf
   rw [hf'] at hfl
   subst hfl
   simp only [hf', Bool.false_eq_true, ↓reduceIte] at hnx
   rw [hnx]
   have k5 : ¬ o.kind = 5 := fun e => by simp [fillsM, e] at hf'
   by_cases kT : hasT o.kind = true
   ·obtain ⟨s', k', e3, hext, fin⟩ := second_arrow hkl [.int .i64 ((i : Int) + 1), .fn 152 []] [.int .i64 o.to, .fn 152 []] rfl rfl
    simp [h9, h14, hlc, ws, hN2, e2, H.cellsAt, hg, A0, k5, hg2, hkl, e3, eT, kT, tos]
    exact ⟨s', _, rfl, hx.trans hext, fin _ _ (arrow_same _ _ _) (arrow_same _ _ _)⟩
   ·simp [h9, h14, hlc, ws, hN2, e2, H.cellsAt, hg, A0, k5, hg2, hkl, eT, kT, tos]
    exact ⟨_, _, rfl, hx.trans ((Ext.push _ _).trans (Ext.push _ _)), arrows_one (by omega) (by simp [hkl]) (by simp) (arrow_same _ _ _)⟩
end Go.Proofs.YtmkiojlebjknlaaGreat

/-
 PLAIN: the ways of a step, one behind the other, come to the same as the reference's step.
-/
set_option maxRecDepth 8000
namespace Go.Proofs.YtmkiojlebjknlaaGreat
open Go.AM
theorem both_comm_fin : ∀ v : Fin 17, ∀ x y : Fin 16, both (both ((v.val : Int) - 1) x.val) y.val = both (both ((v.val : Int) - 1) y.val) x.val := by decide +kernel
theorem both_comm {v x y : Int} (hv : -1 ≤ v) (hv' : v ≤ 15) (hx : 0 ≤ x) (hx' : x ≤ 15) (hy : 0 ≤ y) (hy' : y ≤ 15) : both (both v x) y = both (both v y) x := by
 have := both_comm_fin ⟨(v + 1).toNat, by omega⟩ ⟨x.toNat, by omega⟩ ⟨y.toNat, by omega⟩
 simp only at this
 rwa [show (((v + 1).toNat : Nat) : Int) - 1 = v by omega, show ((x.toNat : Nat) : Int) = x by omega, show ((y.toNat : Nat) : Int) = y by omega] at this
theorem merge_comm {f : List Int} (hf : BitsOk f) (a b : Nat) {x y : Int} (hx : 0 ≤ x) (hx' : x ≤ 15) (hy : 0 ≤ y) (hy' : y ≤ 15) : mergeF (mergeF f a x) b y = mergeF (mergeF f b y) a x := by
 unfold mergeF
 by_cases hab : a = b
 ·subst hab
  by_cases hn : a < f.length
  ·have hv := hf _ (List.getElem_mem hn)
   simp only [List.getElem?_set, ↓reduceIte, hn, List.set_set, Option.getD_some, List.getElem?_eq_getElem hn]
   rw [both_comm hv.1 hv.2 hx hx' hy hy']
  ·simp only [List.set_eq_of_length_le (show f.length ≤ a by omega)]
 ·simp only [List.getElem?_set_ne hab, List.getElem?_set_ne (Ne.symm hab)]
  rw [List.set_comm _ _ hab]
def arrowF (f : List Int) (i : Nat) (a : Arrow) : List Int := mergeF f a.1.toNat (a.2 (f[i]?.getD 0))
def foldA (f : List Int) (i : Nat) (ws : List Arrow) : List Int := ws.foldl (fun f a => arrowF f i a) f
theorem foldA_from {o : POp} {f : List Int} {i : Nat} (hf : BitsOk f) (ho : opOk o = true) (hi : i < f.length) (h0 : 0 ≤ f[i]) : foldA f i (nexts o f.length i ++ tos o) = fromF o f i := by
 have hb := hf _ (List.getElem_mem hi)
 have hfi : f[i]?.getD 0 = f[i] := by simp [hi]
 have hgo : ∀ g : List Int, g[i]?.getD 0 = f[i] → foldA g i (tos o) = goF o g f[i] := by
  intro g hg
  unfold foldA tos goF goesTo
  by_cases k5 : o.kind = 5
  ·rw [if_pos k5, if_pos k5]; rfl
  ·rw [if_neg k5, if_neg k5]
   by_cases kT : hasT o.kind = true
   ·have : o.kind = 8 ∨ o.kind = 9 ∨ o.kind = 10 := by simp [hasT] at kT; omega
    rw [if_pos kT, if_pos this]
    simp only [List.foldl_cons, List.foldl_nil, arrowF, hg]
   ·have : ¬ (o.kind = 8 ∨ o.kind = 9 ∨ o.kind = 10) := by simp [hasT] at kT; omega
    rw [if_neg kT, if_neg this]; rfl
 have happ : ∀ ws ws', foldA f i (ws ++ ws') = foldA (foldA f i ws) i ws' := fun ws ws' => by unfold foldA; rw [List.foldl_append]
 rw [happ]
 simp only [fromF, hfi]
 by_cases hk : o.kind = 9 ∨ o.kind = 14
 ·rw [if_pos hk]
  have : nexts o f.length i = [] := by unfold nexts; rw [if_neg (by omega)]
  rw [this]
  exact hgo f hfi
 ·rw [if_neg hk]
  have hon := onward_range ho h0 hb.2
  by_cases hn : i + 1 < f.length
  ·have : nexts o f.length i = [((i : Int) + 1, fun x => if fillsM o.kind then withB x o.r else x)] := by unfold nexts; rw [if_pos (by omega)]
   rw [this]
   have e1 : foldA f i [((i : Int) + 1, fun x => if fillsM o.kind then withB x o.r else x)] = mergeF f (i + 1) (onward o f[i]) := by
    simp only [foldA, List.foldl_cons, List.foldl_nil, arrowF, hfi]
    rw [show ((i : Int) + 1).toNat = i + 1 by omega]; rfl
   rw [e1, hgo _ (by simp [mergeF, hi])]
   unfold goF
   cases hg : goesTo o f[i] with
   | none => rfl
   | some b =>
    have := goesTo_range h0 hb.2 hg
    simp only
    exact merge_comm hf _ _ hon.1 hon.2 this.1 this.2
  ·have : nexts o f.length i = [] := by unfold nexts; rw [if_neg (by omega)]
   rw [this]
   have e : mergeF (goF o f f[i]) (i + 1) (onward o f[i]) = goF o f f[i] := by
    unfold mergeF
    rw [List.set_eq_of_length_le]
    have := (goF_props (o := o) hf h0 hb.2).2.1
    omega
   rw [e]
   exact hgo f hfi
theorem arrow_ranges {o : POp} {n i : Nat} (ho : opOk o = true) : ∀ a ∈ nexts o n i ++ tos o, 0 ≤ a.1 ∧ ∀ x, 0 ≤ x → x ≤ 15 → 0 ≤ a.2 x ∧ a.2 x ≤ 15 := by
 intro a ha
 rcases List.mem_append.1 ha with ha | ha
 ·unfold nexts at ha
  split at ha
  ·simp at ha; subst ha
   refine ⟨by simp only; omega, fun x h0 h1 => ?_⟩
   have := onward_range (x := x) ho h0 h1
   unfold onward at this
   exact this
  ·cases ha
 ·unfold tos at ha
  have ht : hasT o.kind = true → 0 ≤ o.to := by
   intro hT
   simp only [opOk, Bool.and_eq_true] at ho
   have := ho.1.2
   rw [if_pos hT] at this
   simp at this; exact this.1
  split at ha
  ·rename_i k5
   simp at ha; subst ha
   exact ⟨ht (by simp [hasT, k5]), fun x _ _ => by simp⟩
  ·split at ha
   ·rename_i kT
    simp at ha; subst ha
    exact ⟨ht kT, fun x h0 h1 => ⟨h0, h1⟩⟩
   ·cases ha
theorem arrow_to {code : List POp} (hok : codeOk code = true) {i : Nat} (hi : i < code.length) : ∀ a ∈ nexts code[i] code.length i ++ tos code[i], a.1 < code.length := by
 intro a ha
 have hT : hasT code[i].kind = true → code[i].to < code.length := by
  intro h
  simp only [codeOk, Bool.and_eq_true, List.all_eq_true] at hok
  have := (hok.2 _ (List.getElem_mem hi)).2
  simp [h] at this; exact this
 rcases List.mem_append.1 ha with ha | ha
 ·unfold nexts at ha
  split at ha
  ·simp at ha; subst ha; simp only; omega
  ·cases ha
 ·unfold tos at ha
  split at ha
  ·rename_i k5
   simp at ha; subst ha
   exact hT (by simp [hasT, k5])
  ·split at ha
   ·rename_i kT
    simp at ha; subst ha; exact hT kT
   ·cases ha
theorem arrowF_props {f : List Int} {i : Nat} {a : Arrow} (hf : BitsOk f) (h0 : 0 ≤ f[i]?.getD 0) (h1 : f[i]?.getD 0 ≤ 15) (ha : ∀ x, 0 ≤ x → x ≤ 15 → 0 ≤ a.2 x ∧ a.2 x ≤ 15) : BitsOk (arrowF f i a) ∧ (arrowF f i a).length = f.length ∧ Dec f (arrowF f i a) := by
 have := ha _ h0 h1
 exact ⟨mergeF_ok hf this.1 this.2, mergeF_length, mergeF_dec hf this.1 this.2⟩
theorem foldA_take {f : List Int} {i j : Nat} {ws : List Arrow} (hj : j < ws.length) : foldA f i (ws.take (j + 1)) = arrowF (foldA f i (ws.take j)) i ws[j] := by
 rw [List.take_succ_eq_append_getElem hj]; unfold foldA; rw [List.foldl_append]; rfl
theorem foldA_props {f : List Int} {i : Nat} {ws : List Arrow} (hf : BitsOk f) (hi : i < f.length) (h0 : 0 ≤ f[i]) (ha : ∀ a ∈ ws, ∀ x, 0 ≤ x → x ≤ 15 → 0 ≤ a.2 x ∧ a.2 x ≤ 15) : ∀ j, j ≤ ws.length →
  BitsOk (foldA f i (ws.take j)) ∧ (foldA f i (ws.take j)).length = f.length ∧ Dec f (foldA f i (ws.take j)) ∧ 0 ≤ (foldA f i (ws.take j))[i]?.getD 0 ∧ (foldA f i (ws.take j))[i]?.getD 0 ≤ 15
 | 0, _ => by
  have := (hf _ (List.getElem_mem hi)).2
  simp [foldA, hi, hf, h0, this, Dec.refl]
 | j + 1, hj => by
  obtain ⟨h1, h2, h3, h4, h5⟩ := foldA_props hf hi h0 ha j (by omega)
  have hj' : j < ws.length := by omega
  rw [foldA_take hj']
  have hr := ha _ (List.getElem_mem hj')
  obtain ⟨g1, g2, g3⟩ := arrowF_props (i := i) (a := ws[j]) h1 h4 h5 hr
  refine ⟨g1, by omega, h3.trans g3, ?_⟩
  have hr2 := hr _ h4 h5
  generalize hF : foldA f i (ws.take j) = F at *
  have hiF : i < F.length := by omega
  simp only [arrowF, mergeF, List.getElem?_set]
  split
  ·rename_i e
   rw [if_pos (by omega), Option.getD_some]
   rw [e]
   have := both_range h5 hr2.1 hr2.2
   exact this
  ·exact ⟨h4, h5⟩
end Go.Proofs.YtmkiojlebjknlaaGreat
