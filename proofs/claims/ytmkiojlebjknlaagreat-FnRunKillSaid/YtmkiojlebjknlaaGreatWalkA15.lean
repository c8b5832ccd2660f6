/-
  What functions of the seat answer, each proved once; each under the condition that cells bear what it is given, as its statement says.
-/
import Derived.Test.YtmkiojlebjknlaaGreatWalkA14
import Derived.Test.YtmkiojlebjknlaaGreatWalkA12
set_option linter.all false
/-
 TEXTS: the codes of the five are safe.
-/
set_option maxRecDepth 8000
namespace Go.Proofs.YtmkiojlebjknlaaGreat
open Go.AM
def fullN (code : List POp) : Nat → List Int → List Int
 | 0, f => f
 | n + 1, f => if wts (pass code f) < wts f then fullN code n (pass code f) else f
theorem fullF_fullN {code : List POp} : ∀ (n : Nat) (f : List Int), wts f < n → fullF code f = fullN code n f
 | 0, f, h => by omega
 | n + 1, f, h => by
  by_cases c : wts (pass code f) < wts f
  ·rw [fullF_step c, fullN, if_pos c]; exact fullF_fullN n _ (by omega)
  ·rw [fullF, if_neg c, fullN, if_neg c]
theorem fullR_fullN (code : List POp) : fullR code = fullN code (wts (full0 code.length) + 1) (full0 code.length) := fullF_fullN _ _ (Nat.lt_succ_self _)
def stepB (n : Nat) (x : Int) (i : Nat) (o : POp) : Bool := decide (x < 0) || ((uses o).all (fun u => has x u) && (decide (i + 1 ≠ n) || decide (o.kind = 9 ∨ o.kind = 14)))
theorem stepB_ok {n : Nat} {x : Int} {i : Nat} {o : POp} (h : stepB n x i o = true) : stepSafe n x i o := by
 intro h0
 simp only [stepB, Bool.or_eq_true, Bool.and_eq_true, decide_eq_true_eq, List.all_eq_true] at h
 rcases h with h | ⟨h1, h2⟩
 ·omega
 ·exact ⟨h1, fun e => h2.resolve_left (fun hh => hh e)⟩
def safeL (code : List POp) (f : List Int) : Bool := (List.range code.length).all fun i => stepB code.length (f[i]?.getD 0) i (code[i]?.getD default)
def safeB (code : List POp) : Bool := codeOk code && safeL code (fullN code (wts (full0 code.length) + 1) (full0 code.length))
theorem safeB_ok {code : List POp} (h : safeB code = true) : CodeSafe code := by
 simp only [safeB, Bool.and_eq_true, safeL, List.all_eq_true, List.mem_range] at h
 refine ⟨h.1, fun i hi => ?_⟩
 have := stepB_ok (h.2 i hi)
 rw [fullR_fullN]
 simpa [hi] using this
set_option maxRecDepth 100000
theorem texts_safe : texts.all (fun s => safeB (opsOf s)) = true := by kernel_rfl
end Go.Proofs.YtmkiojlebjknlaaGreat

/-
 WHAT IS DRAWN: safe code.
-/
set_option maxRecDepth 8000
namespace Go.Proofs.YtmkiojlebjknlaaGreat
open Go.AM
variable {h k : H} {p n m lo : Nat} {d : Cell} {bs : List Int}
set_option maxRecDepth 16000
theorem c_of (R : Rdr h p d bs n) (hn : n ≤ 100000000) {c : Cell} {ts : List ByteArray} (o : OwnL lo h c 1 encS ts) (hp : p < lo) (h0 : 1 ≤ ts.length ∧ ts.length ≤ 1000) :
  @Wp _ (Dz.den 156 [.c (.ptr p 0 0), .c c] h) ⟨DrawQ h p d bs n 1 (fun v _ => ∃ t ∈ ts, v = .c (.str t))⟩ := by
 refine den_wp rfl Tryz.func156 rfl ?_
 obtain ⟨j, k1, e1, g1, R1, c1⟩ := pick1 R (by omega) (m := ts.length) (by omega) (by omega)
 have hj : j < ts.length := by omega
 have S := (o.chgp c1 hp).sl
 have iW := ixA_nat S (T := TTz) (e := 9) (k := .i64) (n := j) rfl rfl hj
 have aW := S.at (n := j) (k := 0) (m := 1) hj (by omega)
 simp [encS, hj] at iW aW
 simp [Tryz.f156, o.sl.lenA, e1, iW, aW]
 exact ⟨_, k1, n + 1, rfl, ⟨ts[j], List.getElem_mem hj, rfl⟩, R1, Nat.le_refl _, c1⟩
def SafeP (lo : Nat) (v : V) (k : H) : Prop := ∃ s, ∃ code : List POp, v = .c s ∧ OwnL lo k s 6 encO code ∧ CodeSafe code
set_option maxHeartbeats 4000000 in
theorem c_l71Safe (R : Rdr h p d bs n) (hn : n ≤ 100000) : @Wp _ (Dz.den 96 [.c (.ptr p 0 0)] h) ⟨DrawQ h p d bs n 2000 (SafeP h.length)⟩ := by
 refine den_wp rfl Tryz.func96 rfl ?_
 have hp := R.lt
 have hd := R.dlt
 simp [Tryz.f96]
 refine count_wpG (σ := H × Nat) 3 (fun i g => ([.c (.ptr p 0 0), .c .nils, .c (ci i)], [], [], g.1)) (fun i g => Rdr g.1 p d bs g.2 ∧ g.2 ≤ n + 300 * i ∧ Chg h (fun id => id = p) g.1) (h, n) (by simp) ⟨R, by simp, Chg.refl _ _⟩ ?_ ?_
 ·rintro i ⟨g, q⟩ hi ⟨Rg, hq, cg⟩
  simp only at Rg hq cg ⊢
  have hi' : (i : Int) < 3 := by omega
  obtain ⟨_, e1, _, k1, q1, rfl, ⟨c1, code, rfl, o1, _, _⟩, R1, hq1, ch1⟩ := c_l71Random Rg (by omega)
  have e2 := c_CodeSafe o1.sl
  have wj : IntKind.i64.wrap ((i : Int) + 1) = (i : Int) + 1 := wrapS (by omega) (by omega)
  rw [Wp_body]
  by_cases a : CodeSafe code
  ·have a' : tt (CodeSafe code) = true := by simpa using a
   rw [a'] at e2
   simp [hi', e1, e2]
   exact ⟨_, k1, q1, rfl, ⟨c1, code, rfl, o1.low cg.len, a⟩, R1, by omega, cg.pp ch1⟩
  ·have a' : tt (CodeSafe code) = false := by simpa using a
   rw [a'] at e2
   simp [hi', e1, e2, wj]
   exact ⟨q1, R1, by omega, cg.pp ch1⟩
 ·rintro ⟨g, q⟩ ⟨Rg, hq, cg⟩
  simp only at Rg hq cg ⊢
  have e1 := c_l71Texts (h := g)
  have oT := OwnL.new (enc := encS) (es := 1) g texts (by simp) (by rw [texts_len]; simp [sMost])
  rw [texts_len] at oT
  obtain ⟨_, e2, _, k2, q2, rfl, ⟨tx, htx, rfl⟩, R2, hq2, ch2⟩ := c_of (Rg.ext (Ext.push g ⟨false, 1, texts.map encS⟩)) (by omega) oT Rg.lt (by rw [texts_len]; omega)
  have rd := readsB_ok (List.all_eq_true.1 texts_read tx htx)
  have sf := safeB_ok (List.all_eq_true.1 texts_safe tx htx)
  obtain ⟨_, e3, c3, k3, rfl, o3, x3⟩ := c_CodeRead (h := k2) rd
  rw [Wp_body]
  simp [e1, e2, e3]
  have l3 : h.length ≤ k3.length := Nat.le_trans cg.len (Nat.le_trans (by simp) (Nat.le_trans ch2.len x3.1))
  refine count_wpG (σ := H × Cell × List POp × Nat) 4 (fun i g => ([.c (.ptr p 0 0), .c .nils, .c g.2.1, .c (ci i)], [], [], g.1))
   (fun i g => OwnL h.length g.1 g.2.1 6 encO g.2.2.1 ∧ CodeSafe g.2.2.1 ∧ Rdr g.1 p d bs g.2.2.2 ∧ g.2.2.2 ≤ n + 901 + 30 * i ∧ Chg h (fun id => id = p) g.1) (k3, c3, opsOf tx, q2) (by simp)
   ⟨o3.low (Nat.le_trans cg.len (Nat.le_trans (by simp) ch2.len)), sf, R2.ext x3, by simp only; omega, (cg.pp (Chg.of_ext (Ext.push _ _) _)).pp (ch2.pp (Chg.of_ext x3 _))⟩ ?_ ?_
  ·rintro i ⟨g4, c4, code, q4⟩ hi ⟨o4, s4, R4, hq4, cg4⟩
   simp only at o4 s4 R4 hq4 cg4 ⊢
   have hl := codeOk_len s4.ok
   have hi' : (i : Int) < 4 := by omega
   have wj : IntKind.i64.wrap ((i : Int) + 1) = (i : Int) + 1 := wrapS (by omega) (by omega)
   obtain ⟨c5, g5, e5, F5⟩ := o4.sl.cloneF o4.un (by unfold lenMost; omega)
   have o5 : OwnL g4.length g5 c5 6 encO code := ⟨F5.sl, F5.wr, F5.un, F5.ids⟩
   obtain ⟨j, g6, e6, b6, R6, ch6⟩ := pick1 (R4.ext F5.ext) (by omega) (m := code.length) (by omega) (by omega)
   have o6 := o5.chgp ch6 R4.lt
   obtain ⟨x, g7, q7, e7, R7, hq7, ch7⟩ := op1 R6 (by omega) (w := code.length) (by omega)
   have o7 := o6.chgp ch7 R4.lt
   have hj : j < code.length := by omega
   obtain ⟨g8, e8, o8, ch8, _⟩ := o7.put hj (x := x) (by simp)
   have R8 := R7.own o7 ch8 R4.lt R4.dlt
   have c58 : Chg g4 (fun id => id = p) g8 := (((Chg.of_ext F5.ext _).pp ch6).pp ch7).own o7 ch8 (Nat.le_refl _)
   have o48 : OwnL h.length g8 c4 6 encO code := by
    have hk : ∀ id ∈ c4.ids, g8.get id = g4.get id := fun id hid => c58.keep id (o4.sl.ids_lt id hid) fun e => by have := o4.ids id hid; omega
    exact ⟨o4.sl.same hk, o4.wr.same hk, o4.un, o4.ids⟩
   obtain ⟨j2, g9, e9, b9, R9, ch9⟩ := pick1 R8 (by omega) (m := 2) (by omega) (by omega)
   have es := c_CodeSafe o8.sl
   simp only [encO] at e7 e8
   rw [Wp_body]
   by_cases sf2 : CodeSafe (code.set j x)
   ·have a' : tt (CodeSafe (code.set j x)) = true := by simpa using sf2
    rw [a'] at es
    by_cases z : j2 = 0
    ·subst z
     simp at e9
     simp [hi', e5, o5.sl.lenA, o6.sl.lenA, o7.sl.lenA, e6, e7, ixA_nat o7.sl, hj, e8, es, e9, wj]
     refine ⟨g9, c5, ⟨rfl, rfl⟩, ?_⟩
     exact ⟨code.set j x, (o8.low cg4.len).chgp ch9 hp, sf2, q7 + 1, R9, by omega, (cg4.pp c58).pp ch9⟩
    ·have z' : ¬ (j2 : Int) = 0 := by omega
     simp [hi', e5, o5.sl.lenA, o6.sl.lenA, o7.sl.lenA, e6, e7, ixA_nat o7.sl, hj, e8, es, e9, z, z', wj]
     refine ⟨g9, c4, ⟨rfl, rfl⟩, ?_⟩
     exact ⟨code, o48.chgp ch9 hp, s4, q7 + 1, R9, by omega, (cg4.pp c58).pp ch9⟩
   ·have a' : tt (CodeSafe (code.set j x)) = false := by simpa using sf2
    rw [a'] at es
    simp [hi', e5, o5.sl.lenA, o6.sl.lenA, o7.sl.lenA, e6, e7, ixA_nat o7.sl, hj, e8, es, wj]
    refine ⟨g8, c4, ⟨rfl, rfl⟩, ?_⟩
    exact ⟨code, o48, s4, q7, R8, by omega, cg4.pp c58⟩
  ·rintro ⟨g4, c4, code, q4⟩ ⟨o4, s4, R4, hq4, cg4⟩
   simp only at o4 s4 R4 hq4 cg4 ⊢
   rw [Wp_body]
   simp
   exact ⟨_, g4, q4, rfl, ⟨c4, code, rfl, o4, s4⟩, R4, by omega, cg4⟩
end Go.Proofs.YtmkiojlebjknlaaGreat

/-
 THE REFERENCE'S STEPS: what they answer.
-/
set_option maxRecDepth 8000
namespace Go.Proofs.YtmkiojlebjknlaaGreat
open Go.AM
variable {h h' : H} {lo : Nat} {w : PWorld} {c : WorldC} {st cs : List RunC}
theorem setRun_at {i : Nat} {r : PRun} : setRun w ((i : Int) + 1) r = { w with runs := w.runs.set i r } := by
 unfold setRun; rw [show ((i : Int) + 1 - 1).toNat = i by omega]
theorem setP_at {i : Nat} (hi : i < w.runs.length) {slot : Int} {v : PVal} : setP w ((i : Int) + 1) slot v = { w with runs := w.runs.set i (nextRun (putRun w.runs[i] slot v)) } := by
 unfold setP; rw [setRun_at, runAt_nat hi]
theorem waitP_at {i : Nat} (hi : i < w.runs.length) {due : Int} : waitP w ((i : Int) + 1) due = { w with runs := w.runs.set i { w.runs[i] with state := 2, due := due }, queue := less w.queue ((i : Int) + 1) } := by
 unfold waitP; rw [setRun_at, runAt_nat hi]
theorem list_set_self {α : Type} {xs : List α} {i : Nat} (hi : i < xs.length) : xs.set i xs[i] = xs := by simp
theorem WorldV.slotPut (hV : WorldV lo h w c cs cs) {i : Nat} (hi : i < w.runs.length) {n : Nat} (hn : n < w.runs[i].slots.length) (v : PVal) :
  ∃ h', h.write (sid (cs[i]'(by have := hV.len; omega)).slots) (soff (cs[i]'(by have := hV.len; omega)).slots + n) 0 [.int .i64 v.k, .int .i64 v.n] = some h' ∧
   WorldV lo h' { w with runs := w.runs.set i { w.runs[i] with slots := w.runs[i].slots.set n v } } c cs cs ∧ StepV h (part c cs) h' (part c cs) := by
 have hi' : i < cs.length := by have := hV.len; omega
 have wr : Wr h cs[i].slots := by have := hV.own.wr (.slots i); simpa [part, fld_at hi'] using this
 have un : Un cs[i].slots := by have := hV.own.un (.slots i); simpa [part, fld_at hi'] using this
 obtain ⟨h', e, S, W, l, C⟩ := (hV.each i hi).slots.write wr hn (j := 0) (cs := [.int .i64 v.k, .int .i64 v.n]) (x := v) (by simp [splice]) (by simp)
 obtain ⟨v1, g1⟩ := hV.newSlots hi C S W un (fun id hid => .inl hid)
 rw [show cs.set i { cs[i] with slots := cs[i].slots } = cs from list_set_self hi'] at v1 g1
 exact ⟨h', e, v1, g1⟩
theorem c_l21Next {r : RunC} {a : Int} (ha : r.at_ = a) (h0 : 0 ≤ a ∧ a ≤ 1000) : Dz.den 161 [.g (encR r)] h = some (.g (encR { r with at_ := a + 1 }), h) := by
 rw [← Wp_eq]
 refine den_wp rfl Tryz.func161 rfl ?_
 have w1 : IntKind.i64.wrap (a + 1) = a + 1 := wrapS (by omega) (by omega)
 simp [Tryz.f161, ha, w1]
theorem c_l11Put (hV : WorldV lo h w c cs cs) {i : Nat} (hi : i < w.runs.length) (h4 : w.runs[i].slots.length = 4) (hf : 0 ≤ w.runs[i].full ∧ w.runs[i].full ≤ 15) {slot : Int} (h0 : 0 ≤ slot ∧ slot ≤ 3) (v : PVal) :
  ∃ h', Dz.den 162 [.g (encR (cs[i]'(by have := hV.len; omega))), .c (.int .i64 slot), .g (encV v)] h = some (.g (encR { (cs[i]'(by have := hV.len; omega)) with full := withB w.runs[i].full slot }), h') ∧
   WorldV lo h' { w with runs := w.runs.set i { w.runs[i] with slots := w.runs[i].slots.set slot.toNat v } } c cs cs ∧ StepV h (part c cs) h' (part c cs) := by
 have hi' : i < cs.length := by have := hV.len; omega
 obtain ⟨n, hn⟩ : ∃ n : Nat, slot = n := ⟨slot.toNat, by omega⟩
 have hn4 : n < w.runs[i].slots.length := by omega
 obtain ⟨h', e, v1, g1⟩ := hV.slotPut hi hn4 v
 have hr := hV.each i hi
 have hS := hr.slots
 have ef := fun k => c_l3With (h := k) w.runs[i].full slot hf.1 hf.2 h0.1 h0.2
 refine ⟨h', ?_, ?_, g1⟩
 ·rw [← Wp_eq]
  refine den_wp rfl Tryz.func162 rfl ?_
  subst hn
  simp [Tryz.f162, ixA_nat hS, hn4, e, hr.full, ef]
 ·rw [show slot.toNat = n by omega]; exact v1
set_option maxRecDepth 16000 in
theorem c_l21Set (hV : WorldV lo h w c cs cs) {i : Nat} (hi : i < w.runs.length) (h6 : i < 6) (h4 : w.runs[i].slots.length = 4) (hf : 0 ≤ w.runs[i].full ∧ w.runs[i].full ≤ 15) (ha : 0 ≤ w.runs[i].at_ ∧ w.runs[i].at_ ≤ 15) {slot : Int} (h0 : 0 ≤ slot ∧ slot ≤ 3) (v : PVal) :
  @Wp _ (Dz.den 112 [.g (encW c), .c (.int .i64 ((i : Int) + 1)), .c (.int .i64 slot), .g (encV v)] h) ⟨StepQ lo h (part c cs) (setP w ((i : Int) + 1) slot v)⟩ := by
 refine den_wp rfl Tryz.func112 rfl ?_
 have hlen := hV.len
 have hi' : i < cs.length := by omega
 have hr := hV.each i hi
 have hS := hV.runs
 obtain ⟨h1, e1, v1, g1⟩ := c_l11Put hV hi h4 hf h0 v
 have q := v1.each i (by simpa using hi)
 simp only [List.getElem_set_self] at q
 have e2 := c_l21Next (h := h1) (r := { cs[i] with full := withB w.runs[i].full slot }) (a := w.runs[i].at_) hr.at_ (by omega)
 obtain ⟨v2, p2⟩ := v1.flat (i := i) (by simpa using hi) (r := nextRun (putRun w.runs[i] slot v)) (r' := { cs[i] with full := withB w.runs[i].full slot, at_ := w.runs[i].at_ + 1 }) ⟨q.id, rfl, q.slots, rfl, q.mail, q.state, q.due, q.links, q.watched, q.trap, q.why, q.turns⟩ rfl rfl rfl rfl
 simp only [List.set_set] at v2
 obtain ⟨h3, e3, v3, g3⟩ := v2.lay (i := i) (by simpa using hi) (j := 0) (xs := encR { cs[i] with full := withB w.runs[i].full slot, at_ := w.runs[i].at_ + 1 }) (r' := { cs[i] with full := withB w.runs[i].full slot, at_ := w.runs[i].at_ + 1 }) (by simp [splice]) (by simp)
 have wi : IntKind.i64.wrap (i : Int) = i := wrapS (by omega) (by omega)
 have hS1 := v1.runs
 simp only [encR, encV] at e1 e2 e3
 simp [Tryz.f112, wi, hi', ixA_nat hS, hS.at, e1, e2, ixA_nat hS1, e3]
 refine ⟨by kernel_rfl, h3, c, cs.set i { cs[i] with full := withB w.runs[i].full slot, at_ := w.runs[i].at_ + 1 }, rfl, ?_, ?_⟩
 ·rw [setP_at hi]; exact v3
 ·refine StepV.trans ?_ g3
  rw [p2]; exact g1
set_option maxRecDepth 16000 in
theorem c_l21Wait (hV : WorldV lo h w c cs cs) {i : Nat} (hi : i < w.runs.length) (h6 : i < 6) (hq : w.queue.length ≤ 2097152) (due : Int) :
  @Wp _ (Dz.den 164 [.g (encW c), .c (.int .i64 ((i : Int) + 1)), .c (.int .i64 due)] h) ⟨StepQ lo h (part c cs) (waitP w ((i : Int) + 1) due)⟩ := by
 refine den_wp rfl Tryz.func164 rfl ?_
 have hlen := hV.len
 have hi' : i < cs.length := by omega
 have hr := hV.each i hi
 have hS := hV.runs
 obtain ⟨h1, e1, v1, g1⟩ := hV.put (i := i) hi (j := 5) (xs := [.int .i64 2]) (r := { w.runs[i] with state := 2 }) (r' := { cs[i] with state := 2 }) (by simp [splice]) (by simp) (fun _ q => ⟨q.id, q.at_, q.slots, q.full, q.mail, rfl, q.due, q.links, q.watched, q.trap, q.why, q.turns⟩) rfl rfl rfl rfl
 obtain ⟨h2, e2, v2, g2⟩ := v1.put (i := i) (by simpa using hi) (j := 6) (xs := [.int .i64 due]) (r := { w.runs[i] with state := 2, due := due }) (r' := { cs[i] with state := 2, due := due }) (by simp [splice]) (by simp) (fun _ q => by simp only [List.getElem_set_self] at q; exact ⟨q.id, q.at_, q.slots, q.full, q.mail, q.state, rfl, q.links, q.watched, q.trap, q.why, q.turns⟩) (by simp) (by simp) (by simp) (by simp)
 simp only [List.set_set] at v2 g2
 obtain ⟨_, e3, h3, s3, rfl, f3⟩ := c_l13Less v2.queue ((i : Int) + 1) hq
 obtain ⟨v3, g3⟩ := v2.freshQueue f3
 have wi : IntKind.i64.wrap (i : Int) = i := wrapS (by omega) (by omega)
 have hS1 := v1.runs
 simp [Tryz.f164, wi, hi', ixA_nat hS, e1, ixA_nat hS1, e2, e3]
 refine ⟨h3, { c with queue := s3 }, cs.set i { cs[i] with state := 2, due := due }, rfl, ?_, g1.trans (g2.trans g3)⟩
 rw [waitP_at hi]; exact v3
end Go.Proofs.YtmkiojlebjknlaaGreat

/-
 TAKING A VALUE FROM MAIL, BY THE REFERENCE: what it answers.
-/
set_option maxRecDepth 8000
namespace Go.Proofs.YtmkiojlebjknlaaGreat
open Go.AM
variable {h h' : H} {lo : Nat} {w : PWorld} {c : WorldC} {st cs : List RunC}
theorem sliceA_from {k : H} {s : Cell} {es : Nat} {α : Type} {enc : α → List Cell} {xs : List α} (hS : Sl k s es enc xs) {T : TT} {t e : TypeId} {kk : IntKind} (ht : T.td t = .slice e) (ho : isOther T e = false) (he : T.size e = es) {n : Nat} (h0 : 0 < xs.length) (hn : n ≤ xs.length) :
  ∃ s', sliceA T k t (.c s) (some (.c (.int kk n))) none none = some (.c s') ∧ Sl k s' es enc (xs.drop n) ∧ s'.ids = s.ids ∧ ∀ id i n c, s' ≠ .sl id i n (some c) := by
 obtain ⟨id, i, b, rfl, hg, hes, hle, hel⟩ := hS.cons (n := 0) h0
 have hlen := hS.len
 have hcap : capOk k id i xs.length none = true := by simp [capOk, hg]; omega
 have hx : ∀ y ∈ xs.drop n, (enc y).length = es := fun y hy => hS.1 y (List.mem_of_mem_drop hy)
 have hb : (n : Int) ≤ (xs.length : Int) := by omega
 have hd : ∀ m, i + n + m ≤ b.el.length → m = xs.length - n → (b.el.drop (i + n)).take m = (xs.drop n).map enc := fun m _ hm => by
  rw [List.map_drop, ← hel, ← List.drop_drop, List.drop_take, hm]
 by_cases z : n = 0
 ·subst z
  exact ⟨.sl id i xs.length none, by simp [sliceA, ht, ho, hcap, lowOf, bound, cutA], by simpa using hS, rfl, by simp⟩
 ·by_cases h1 : n < b.el.length - i
  ·refine ⟨.sl id (i + n) (xs.length - n) none, ?_, ⟨hx, by simp, by omega, b, hg, hes, by omega, hd _ (by omega) rfl⟩, rfl, by simp⟩
   simp [sliceA, ht, ho, hcap, lowOf, bound, cutA, hg, hes, he, h1, hb, z]
  ·have hnl : n = xs.length := by omega
   subst hnl
   refine ⟨.sle id i xs.length, ?_, ⟨by simp, by simp, b, hg, hes, hle⟩, rfl, by simp⟩
   have h1' : ¬ xs.length < b.el.length - i := h1
   simp [sliceA, ht, ho, hcap, lowOf, bound, cutA, hg, hes, he, h1', z]
theorem sliceA_same {k k' : H} {s : Cell} (hk : ∀ id ∈ s.ids, k'.get id = k.get id) (hc : ∀ id i n c, s ≠ .sl id i n (some c)) {T : TT} {t : TypeId} {a b d : Option V} : sliceA T k' t (.c s) a b d = sliceA T k t (.c s) a b d := by
 cases s with
 | sl id i len cap =>
  cases cap with
  | some c => exact absurd rfl (hc _ _ _ _)
  | none =>
   have := hk id (by simp [Cell.ids])
   unfold sliceA capOk cutA beyondA threeA
   cases T.td t <;> first | rfl | simp only [this]
 | _ => unfold sliceA; cases T.td t <;> rfl
theorem _root_.Go.AM.Fresh.appS {α : Type} {enc : α → List Cell} {zs ys : List α} {es : Nat} {s t : Cell} {k : H} (f : Fresh h es enc zs s k) (hT : Sl k t es enc ys) (ht : ∀ id i n c, t ≠ .sl id i n (some c)) (hl : zs.length + ys.length ≤ lenMost) :
  ∃ s' k', appendA es k (.c s) (.c t) = some (.c s', k') ∧ Fresh h es enc (zs ++ ys) s' k' := by
 obtain ⟨s', k', e, a⟩ := appendS_ok f.sl f.wr f.un.1 (hT.elemsOf ht) hT.1 hl
 obtain ⟨s2, e2, u⟩ := appendA_un f.un e
 simp only [V.c.injEq] at e2
 subst e2
 have l := f.ext.1
 refine ⟨s', k', e, a.sl, a.wr, u, ⟨Nat.le_trans l a.len, fun id hid => ?_⟩, fun id hid => ?_⟩
 ·rw [a.keep id (by omega) (fun hh => by have := f.ids id hh; omega), f.ext.2 id hid]
 ·rcases a.ids id hid with hh | hh
  ·exact f.ids id hh
  ·omega
set_option maxRecDepth 16000 in
theorem c_l11Take {r : PRun} {cr : RunC} (hm : Sl h cr.mail 2 encV r.mail) (hu : Un cr.mail) {n : Nat} (hn : n < r.mail.length) (h12 : r.mail.length ≤ 1000) :
  ∃ h' s', Dz.den 163 [.g (encR cr), .c (.int .i64 n)] h = some (.t [.g (encR { cr with mail := s' }), .g (encV (r.mail[n]?.getD default))], h') ∧ Fresh h 2 encV (r.mail.eraseIdx n) s' h' := by
 have f0 := Fresh.empty h 2 encV
 have hm1 := hm.ext f0.ext
 have e1 := sliceA_to (k := .i64) (n := n) (T := TTz) (t := 40) (e := 29) hm1 rfl rfl (Nat.le_of_lt hn)
 have hc1 := hm1.cutTo (Nat.le_of_lt hn)
 have hcap : ∀ id i n' c, cutTo cr.mail n ≠ .sl id i n' (some c) := by
  obtain ⟨id, i, b, e, _⟩ := hm.cons hn
  rw [e]; simp [cutTo]
 obtain ⟨s1, h1, a1, f1⟩ := f0.appS hc1 hcap (by rw [List.length_take]; simp only [List.length_nil]; unfold lenMost; omega)
 have hm2 := hm.ext f1.ext
 obtain ⟨s2, a2, S2, i2, c2⟩ := sliceA_from hm2 (T := TTz) (t := 40) (e := 29) (kk := .i64) (n := n + 1) rfl rfl rfl (by omega) (by omega)
 obtain ⟨s3, h3, a3, f3⟩ := f1.appS S2 c2 (by simp only [List.nil_append, List.length_take, List.length_drop]; unfold lenMost; omega)
 refine ⟨h3, s3, ?_, ?_⟩
 ·have wn : IntKind.i64.wrap ((n : Int) + 1) = ((n + 1 : Nat) : Int) := by rw [wrapS (by omega) (by omega)]; omega
  rw [← Wp_eq]
  refine den_wp rfl Tryz.func163 rfl ?_
  have a20 : sliceA TTz h 40 (.c cr.mail) (some (.c (.int .i64 ((n : Int) + 1)))) none none = some (.c s2) := by
   rw [← a2]; exact (sliceA_same (fun id hid => f1.ext.2 id (hm.ids_lt id hid)) hu.1).symm
  have a21 : sliceA TTz (h.push ⟨false, 2, []⟩) 40 (.c cr.mail) (some (.c (.int .i64 ((n : Int) + 1)))) none none = some (.c s2) := by
   rw [← a20]; exact sliceA_same (fun id hid => f0.ext.2 id (hm.ids_lt id hid)) hu.1
  have a22 : sliceA TTz h1 40 (.c cr.mail) (some (.c (.int .i64 ((n : Int) + 1)))) none none = some (.c s2) := a2
  have e10 : sliceA TTz h 40 (.c cr.mail) none (some (.c (.int .i64 n))) none = some (.c (cutTo cr.mail n)) := by
   rw [← e1]; exact (sliceA_same (fun id hid => f0.ext.2 id (hm.ids_lt id hid)) hu.1).symm
  simp [Tryz.f163, ixA_nat hm, hn, hm.at, e1, a1, wn, a20, a21, a22, a3, e10]
  exact ⟨by kernel_rfl, by kernel_rfl, rfl⟩
 ·rw [List.eraseIdx_eq_take_drop_succ]; simpa using f3
end Go.Proofs.YtmkiojlebjknlaaGreat

/-
 THE REFERENCE'S l21Take, l21Begin: what they answer.
-/
set_option maxRecDepth 8000
namespace Go.Proofs.YtmkiojlebjknlaaGreat
open Go.AM
variable {h h' : H} {lo : Nat} {w : PWorld} {c : WorldC} {st cs : List RunC}
theorem Turn.runs {id : Int} {i : Nat} {r : PRun} {o : POp} (T : Turn w id i r o) : ∃ hi : i < w.runs.length, w.runs[i] = r := ⟨T.hi, by have := T.get; rw [List.getElem?_eq_getElem T.hi] at this; simpa using this⟩
theorem takeP_at {i : Nat} (hi : i < w.runs.length) {o : POp} {n : Nat} (hn : mailAt w.runs[i] o.s = n) : takeP w ((i : Int) + 1) o =
  setP { w with runs := w.runs.set i { w.runs[i] with mail := w.runs[i].mail.eraseIdx n, due := 0 }, taken := w.taken + 1 } ((i : Int) + 1) o.r (w.runs[i].mail[n]?.getD default) := by
 rw [setP_at (by simpa using hi)]
 unfold takeP
 rw [runAt_nat hi, hn, if_pos (by omega), setRun_at, Int.toNat_natCast]
 simp [takeRun, nextRun, putRun]
set_option maxRecDepth 16000 in
set_option maxHeartbeats 1000000 in
theorem c_l21Take (hV : WorldV lo h w c cs cs) {id : Int} {i : Nat} {r : PRun} {o : POp} (T : Turn w id i r o) (I : Inv w) (hs : w.sent ≤ 100000000000) (hk : o.kind = 7 ∨ o.kind = 8) :
  @Wp _ (Dz.den 115 [.g (encW c), .c (.int .i64 id), .g (encO o)] h) ⟨StepQ lo h (part c cs) (takeP w id o)⟩ := by
 refine den_wp rfl Tryz.func115 rfl ?_
 obtain ⟨hi, hri⟩ := T.runs
 have e0 := T.e0
 subst e0
 subst hri
 have hlen := hV.len
 have hi' : i < cs.length := by omega
 have hr := hV.each i hi
 have hS := hV.runs
 have R := T.run.ok
 obtain ⟨i1, i2, i3⟩ := T.idr I
 have h6 : i < 6 := by omega
 have wi : IntKind.i64.wrap (i : Int) = i := wrapS (by omega) (by omega)
 have e1 := c_l11First (h := h) (c := cs[i]) (r := w.runs[i]) hr.mail o.s
 have hop := op_r T.ok
 obtain ⟨n1, n2, n3⟩ := I.nn
 have htk : w.taken ≤ w.sent := by have := I.sum; have := mailSum_nn w.runs; omega
 have wt : IntKind.i64.wrap (c.taken + 1) = w.taken + 1 := by rw [hV.taken]; exact wrapS (by omega) (by omega)
 have hdue := hr.due
 simp only [encR] at e1
 by_cases f0 : 0 ≤ mailAt w.runs[i] o.s
 ·obtain ⟨n, hn⟩ : ∃ n : Nat, mailAt w.runs[i] o.s = n := ⟨(mailAt w.runs[i] o.s).toNat, by omega⟩
  have hnl : n < w.runs[i].mail.length := by have := firstAt_lt (show 0 ≤ firstAt (fits o.s) w.runs[i].mail from f0); unfold mailAt at hn; omega
  have e1' : firstAt (fits o.s) w.runs[i].mail = n := hn
  rw [e1'] at e1
  obtain ⟨h1, s1, e2, f2⟩ := c_l11Take (cr := cs[i]) hr.mail (by have := hV.run_un hi' 1; exact this) hnl (by have := R.room; omega)
  obtain ⟨v1, g1⟩ := hV.newMail hi (Chg.of_ext f2.ext _) f2.sl f2.wr f2.un (fun id hid => .inr (f2.ids id hid))
  have q := v1.each i (by simpa using hi)
  simp only [List.getElem_set_self] at q
  obtain ⟨v2, p2⟩ := v1.flat (i := i) (by simpa using hi) (r := { w.runs[i] with mail := w.runs[i].mail.eraseIdx n, due := 0 }) (r' := { cs[i] with mail := s1, due := 0 }) ⟨q.id, q.at_, q.slots, q.full, q.mail, q.state, rfl, q.links, q.watched, q.trap, q.why, q.turns⟩ (by simp) (by simp) (by simp) (by simp)
  simp only [List.set_set] at v2 p2
  obtain ⟨h3, e3, v3, g3⟩ := v2.lay (i := i) (by simpa using hi) (j := 0) (xs := encR { cs[i] with mail := s1, due := 0 }) (r' := { cs[i] with mail := s1, due := 0 }) (by simp [splice]) (by simp)
  have v4 := v3.nums w.now w.sent (w.taken + 1) w.lost
  obtain ⟨_, e5, h5, c5, cs5, rfl, v5, g5⟩ := c_l21Set v4 (i := i) (by simpa using hi) h6 (by simp [R.len]) (by simpa using R.full) (by simpa using R.at_) hop w.runs[i].mail[n]
  rw [numsPart] at g5
  have hS1 := v1.runs
  have eT := takeP_at hi hn
  have dn : w.runs[i].mail[n]?.getD default = w.runs[i].mail[n] := by rw [List.getElem?_eq_getElem hnl]; rfl
  rw [dn] at eT
  simp only [encR, encW, encV, dn] at e2 e3 e5
  rw [eT]
  simp [Tryz.f115, wi, hi', ixA_nat hS, hS.at, e1, e2, ixA_nat hS1, e3, wt, hV.now, hV.sent, hV.lost, e5]
  exact ⟨h5, c5, cs5, rfl, v5, g1.trans (by rw [← p2]; exact g3.trans g5)⟩
 ·have f0' : ¬ 0 ≤ firstAt (fits o.s) w.runs[i].mail := f0
  by_cases h7 : o.kind = 7
  ·obtain ⟨_, e2, h2, c2, cs2, rfl, v2, g2⟩ := c_l21Wait hV hi h6 (by have := I.qlen; omega) 0
   simp only [encW] at e2
   unfold takeP
   rw [runAt_nat hi, if_neg f0, if_pos h7]
   simp [Tryz.f115, wi, hi', ixA_nat hS, hS.at, e1, f0', h7, e2]
   exact ⟨h2, c2, cs2, rfl, v2, g2⟩
  ·by_cases hd : w.runs[i].due < 0
   ·obtain ⟨h1, e2, v1, g1⟩ := hV.put (i := i) hi (j := 6) (xs := [.int .i64 0]) (r := { w.runs[i] with due := 0 }) (r' := { cs[i] with due := 0 }) (by simp [splice]) (by simp) (fun _ q => ⟨q.id, q.at_, q.slots, q.full, q.mail, q.state, rfl, q.links, q.watched, q.trap, q.why, q.turns⟩) rfl rfl rfl rfl
    obtain ⟨h2, e3, v2, g2⟩ := v1.put (i := i) (by simpa using hi) (j := 1) (xs := [.int .i64 o.to]) (r := { w.runs[i] with due := 0, at_ := o.to }) (r' := { cs[i] with due := 0, at_ := o.to }) (by simp [splice]) (by simp) (fun _ q => by simp only [List.getElem_set_self] at q; exact ⟨q.id, rfl, q.slots, q.full, q.mail, q.state, q.due, q.links, q.watched, q.trap, q.why, q.turns⟩) (by simp) (by simp) (by simp) (by simp)
    simp only [List.set_set] at v2 g2
    have hS1 := v1.runs
    have hd' : cs[i].due < 0 := by rw [hdue]; exact hd
    unfold takeP
    rw [runAt_nat hi, if_neg f0, if_neg h7, if_pos hd, setRun_at]
    simp [Tryz.f115, wi, hi', ixA_nat hS, hS.at, e1, f0', h7, hd', e2, ixA_nat hS1, e3]
    exact ⟨h2, c, cs.set i { cs[i] with due := 0, at_ := o.to }, rfl, v2, g1.trans g2⟩
   ·have h8 : o.kind = 8 := by omega
    have ha := op_after T.ok h8
    have hnow := I.now
    have wn : IntKind.i64.wrap (c.now + o.v.n) = w.now + o.v.n := by rw [hV.now]; exact wrapS (by omega) (by omega)
    obtain ⟨_, e2, h2, c2, cs2, rfl, v2, g2⟩ := c_l21Wait hV hi h6 (by have := I.qlen; omega) (w.now + o.v.n)
    have hd' : ¬ cs[i].due < 0 := by rw [hdue]; exact hd
    simp only [encW] at e2
    unfold takeP
    rw [runAt_nat hi, if_neg f0, if_neg h7, if_neg hd]
    simp [Tryz.f115, wi, hi', ixA_nat hS, hS.at, e1, f0', h7, hd', wn, e2]
    exact ⟨h2, c2, cs2, rfl, v2, g2⟩
end Go.Proofs.YtmkiojlebjknlaaGreat

/-
 NEW RUNS, NEW LINKS; the reference's l11New, l21Begin: what they answer.
-/
set_option maxRecDepth 8000
namespace Go.Proofs.YtmkiojlebjknlaaGreat
open Go.AM
variable {h h' : H} {lo : Nat} {w : PWorld} {c : WorldC} {st cs : List RunC}
theorem _root_.Go.AM.Fresh.mk' {α : Type} (h : H) (es : Nat) (enc : α → List Cell) (ys : List α) (hy : ∀ y ∈ ys, (enc y).length = es) (hl : ys.length ≤ sMost) : Fresh h es enc ys (.sl h.length 0 ys.length none) (h.push ⟨false, es, ys.map enc⟩) :=
 ⟨Sl.new hy hl, fun id hid => by simp only [Cell.ids, List.mem_singleton] at hid; subst hid; exact ⟨_, get_push_self, rfl⟩, Un.new, Ext.push _ _, fun id hid => by simp only [Cell.ids, List.mem_singleton] at hid; omega⟩
def NewQ (h : H) (r : PRun) (x : V × H) : Prop := ∃ k cr, x = (.g (encR cr), k) ∧ Ext h k ∧ RunR k r cr ∧ RunN h.length k cr
theorem c_l11New (id at_ : Int) (v : PVal) : @Wp _ (Dz.den 100 [.c (.int .i64 id), .c (.int .i64 at_), .g (encV v)] h) ⟨NewQ h (newRun id at_ v)⟩ := by
 refine den_wp rfl Tryz.func100 rfl ?_
 have f1 := Fresh.mk' h 2 encV [v, ⟨0, 0⟩, ⟨0, 0⟩, ⟨0, 0⟩] (by simp) (by simp [sMost])
 have f2 := Fresh.empty (h.push ⟨false, 2, [v, ⟨0, 0⟩, ⟨0, 0⟩, ⟨0, 0⟩].map encV⟩) 2 encV
 have f3 := Fresh.empty ((h.push ⟨false, 2, [v, ⟨0, 0⟩, ⟨0, 0⟩, ⟨0, 0⟩].map encV⟩).push ⟨false, 2, []⟩) 1 encI
 have f4 := Fresh.empty (((h.push ⟨false, 2, [v, ⟨0, 0⟩, ⟨0, 0⟩, ⟨0, 0⟩].map encV⟩).push ⟨false, 2, []⟩).push ⟨false, 1, []⟩) 1 encI
 obtain ⟨x, q, n⟩ := run_new (r := newRun id at_ v) (cr := ⟨id, at_, .nils, 1, .nils, 1, 0, .nils, .nils, false, ⟨0, 0⟩, 0⟩) f1 f2 f3 f4 rfl rfl rfl rfl rfl rfl rfl rfl
 simp [Tryz.f100]
 refine ⟨_, _, ?_, x, q, n⟩
 simp
theorem WorldV.linksAdd (hV : WorldV lo h w c cs cs) {i : Nat} (hi : i < w.runs.length) (x : Int) (hl : w.runs[i].links.length + 1 ≤ lenMost) :
  ∃ s' h1 h2, appendA 1 (h.push ⟨false, 1, [encI x]⟩) (.c (cs[i]'(by have := hV.len; omega)).links) (.c (.sl h.length 0 1 none)) = some (.c s', h1) ∧ h1.write (sid c.runs) (soff c.runs + i) 7 [s'] = some h2 ∧
   Sl h1 c.runs 13 encR cs ∧ WorldV lo h2 { w with runs := w.runs.set i { w.runs[i] with links := w.runs[i].links ++ [x] } } c (cs.set i { (cs[i]'(by have := hV.len; omega)) with links := s' }) (cs.set i { (cs[i]'(by have := hV.len; omega)) with links := s' }) ∧
   StepV h (part c cs) h2 (part c (cs.set i { (cs[i]'(by have := hV.len; omega)) with links := s' })) ∧ ∀ q, q < h.length → q ≠ sid c.runs → q ∉ (cs[i]'(by have := hV.len; omega)).links.ids → h1.get q = h.get q := by
 have hi' : i < cs.length := by have := hV.len; omega
 have hpk : part c cs (.links i) = cs[i].links := fld_at hi'
 obtain ⟨s', h1, e1, G⟩ := (hV.each i hi).links.append_new (by rw [← hpk]; exact hV.own.wr _) (by rw [← hpk]; exact hV.own.un _) (ys := [x]) (by simp) (by simpa using hl)
 obtain ⟨v1, g1⟩ := hV.newLinks hi G.chg G.sl G.wr G.un G.ids
 obtain ⟨h2, e2, v2, g2⟩ := v1.lay (i := i) (by simpa using hi) (j := 7) (xs := [s']) (r' := { cs[i] with links := s' }) (by simp [splice]) (by simp)
 exact ⟨s', h1, h2, e1, e2, v1.runs, v2, g1.trans g2, fun q hq _ hn => G.chg.keep q hq hn⟩
theorem WorldV.watchedAdd (hV : WorldV lo h w c cs cs) {i : Nat} (hi : i < w.runs.length) (x : Int) (hl : w.runs[i].watched.length + 1 ≤ lenMost) :
  ∃ s' h1 h2, appendA 1 (h.push ⟨false, 1, [encI x]⟩) (.c (cs[i]'(by have := hV.len; omega)).watched) (.c (.sl h.length 0 1 none)) = some (.c s', h1) ∧ h1.write (sid c.runs) (soff c.runs + i) 8 [s'] = some h2 ∧
   Sl h1 c.runs 13 encR cs ∧ WorldV lo h2 { w with runs := w.runs.set i { w.runs[i] with watched := w.runs[i].watched ++ [x] } } c (cs.set i { (cs[i]'(by have := hV.len; omega)) with watched := s' }) (cs.set i { (cs[i]'(by have := hV.len; omega)) with watched := s' }) ∧
   StepV h (part c cs) h2 (part c (cs.set i { (cs[i]'(by have := hV.len; omega)) with watched := s' })) ∧ ∀ q, q < h.length → q ≠ sid c.runs → q ∉ (cs[i]'(by have := hV.len; omega)).watched.ids → h1.get q = h.get q := by
 have hi' : i < cs.length := by have := hV.len; omega
 have hpk : part c cs (.watched i) = cs[i].watched := fld_at hi'
 obtain ⟨s', h1, e1, G⟩ := (hV.each i hi).watched.append_new (by rw [← hpk]; exact hV.own.wr _) (by rw [← hpk]; exact hV.own.un _) (ys := [x]) (by simp) (by simpa using hl)
 obtain ⟨v1, g1⟩ := hV.newWatched hi G.chg G.sl G.wr G.un G.ids
 obtain ⟨h2, e2, v2, g2⟩ := v1.lay (i := i) (by simpa using hi) (j := 8) (xs := [s']) (r' := { cs[i] with watched := s' }) (by simp [splice]) (by simp)
 exact ⟨s', h1, h2, e1, e2, v1.runs, v2, g1.trans g2, fun q hq _ hn => G.chg.keep q hq hn⟩
theorem WorldV.oneMore (hV : WorldV lo h w c cs cs) {r : PRun} {cr : RunC} {k : H} (x : Ext h k) (hr : RunR k r cr) (hn : RunN h.length k cr) (hl : w.runs.length + 1 ≤ lenMost) :
  ∃ s' h', appendA 13 (k.push ⟨false, 13, [encR cr]⟩) (.c c.runs) (.c (.sl k.length 0 1 none)) = some (.c s', h') ∧ WorldV lo h' { w with runs := w.runs ++ [r] } { c with runs := s' } (cs ++ [cr]) (cs ++ [cr]) ∧ StepV h (part c cs) h' (part { c with runs := s' } (cs ++ [cr])) := by
 have v1 := hV.ext x
 have hlo := hV.lo_le
 obtain ⟨s', h', e, v, ch, sub⟩ := v1.addRun hr ⟨fun f id hid => by have := hn.ge f id hid; omega, hn.wr, hn.one, hn.un⟩ (fun f id hid ho => by have := hn.ge f id hid; have := hV.own.owned_lt id ho; omega) hl
 refine ⟨s', h', e, v, ⟨⟨Nat.le_trans x.1 ch.len, fun id hid ho => by rw [ch.keep id (Nat.lt_of_lt_of_le hid x.1) ho, x.2 id hid]⟩, fun id ho => ?_⟩⟩
 rcases sub id ho with h1 | ⟨f, h1⟩ | h1
 ·exact .inl h1
 ·exact .inr (hn.ge f id h1)
 ·exact .inr (Nat.le_trans x.1 h1)
set_option maxRecDepth 16000 in
set_option maxHeartbeats 1000000 in
theorem c_l21Begin (hV : WorldV lo h w c cs cs) {id : Int} {i : Nat} {r : PRun} {o : POp} (T : Turn w id i r o) (I : Inv w) (hk : o.kind = 5) :
  @Wp _ (Dz.den 114 [.g (encW c), .c (.int .i64 id), .g (encO o)] h) ⟨StepQ lo h (part c cs) (beginP w id o)⟩ := by
 refine den_wp rfl Tryz.func114 rfl ?_
 obtain ⟨hi, hri⟩ := T.runs
 have e0 := T.e0
 subst e0
 subst hri
 have hlen := hV.len
 have hi' : i < cs.length := by omega
 have hS := hV.runs
 have R := T.run.ok
 obtain ⟨i1, i2, i3⟩ := T.idr I
 have h6 : i < 6 := by omega
 have hm := I.many
 have hop := op_r T.ok
 have wn : IntKind.i64.wrap ((w.runs.length : Int) + 1) = (w.runs.length : Int) + 1 := wrapS (by omega) (by omega)
 by_cases hn : 6 < w.runs.length + 1
 ·have hn' : (6 : Int) < (w.runs.length : Int) + 1 := by omega
  obtain ⟨_, e2, h2, c2, cs2, rfl, v2, g2⟩ := c_l21Set hV hi h6 R.len R.full R.at_ hop ⟨0, 0⟩
  simp only [encW, encV] at e2
  unfold beginP
  rw [if_pos hn]
  simp [Tryz.f114, hS.lenA, hlen, wn, hn', e2]
  exact ⟨h2, c2, cs2, rfl, v2, g2⟩
 ·have hn' : ¬ (6 : Int) < (w.runs.length : Int) + 1 := by omega
  obtain ⟨_, e1, h1, cr, rfl, x1, q1, n1⟩ := c_l11New (h := h) ((w.runs.length : Int) + 1) o.to ⟨3, (i : Int) + 1⟩
  obtain ⟨s2, h2, e2, v2, g2⟩ := hV.oneMore x1 q1 n1 (by unfold lenMost; omega)
  obtain ⟨s3, h3, e3, v3, g3⟩ := v2.queueApp (ys := [(w.runs.length : Int) + 1]) (by have := I.qlen; simp only [List.length_singleton]; unfold lenMost; omega)
  have hi2 : i < (addRunP w ((i : Int) + 1) o).runs.length := by simp [addRunP]; omega
  have hri2 : (addRunP w ((i : Int) + 1) o).runs[i] = w.runs[i] := by simp only [addRunP]; rw [List.getElem_append_left hi]
  obtain ⟨_, e4, h4, c4, cs4, rfl, v4, g4⟩ := c_l21Set (w := addRunP w ((i : Int) + 1) o) v3 hi2 h6 (by rw [hri2]; exact R.len) (by rw [hri2]; exact R.full) (by rw [hri2]; exact R.at_) hop ⟨3, (w.runs.length : Int) + 1⟩
  simp only [encW, encV, encR, List.map_cons, List.map_nil, encI, List.length_cons, List.length_nil] at e1 e2 e3 e4
  unfold beginP
  rw [if_neg hn]
  simp [Tryz.f114, hS.lenA, hlen, wn, hn', e1, e2, e3, e4]
  exact ⟨by kernel_rfl, h4, c4, cs4, rfl, v4, g2.trans (g3.trans g4)⟩
end Go.Proofs.YtmkiojlebjknlaaGreat
