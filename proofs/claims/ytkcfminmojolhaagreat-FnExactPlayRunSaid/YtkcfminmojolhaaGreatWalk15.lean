/-
  What functions of the seat answer, each proved once; each under the condition that cells bear what it is given, as its statement says.
-/
import Derived.Test.YtkcfminmojolhaaGreatWalk14
import Derived.Test.YtkcfminmojolhaaGreatWalk13
set_option linter.all false
/-
  THE PROGRAM's fall: what it answers.
-/
set_option maxRecDepth 8000
namespace Go.Proofs.YtkcfminmojolhaaGreat
open Go.AM
variable {h h' : H} {lo p : Nat} {w : PWorld} {c : WorldC} {st cs : List RunC}
theorem aliveC_iff {id : Int} : aliveC w.runs id = true ↔ Alive w id := by
  simp only [aliveC, Bool.and_eq_true, decide_eq_true_eq]
  exact Iff.rfl
theorem aliveC_not {id : Int} (h : ¬ Alive w id) : aliveC w.runs id = false := by
  cases e : aliveC w.runs id
  · rfl
  · exact absurd (aliveC_iff.1 e) h
set_option maxRecDepth 16000 in
set_option maxHeartbeats 2000000 in
theorem c_fall (hP : WorldP lo h p w c cs) (I : Inv w) (hs : w.sent ≤ 10000000000) (id : Int) {why : PVal} (hw : valOk why = true) :
    @Wp _ (Dz.den 81 [.c (.ptr p 0 0), .c (.int .i64 id), .g (encV why)] h) ⟨DoneQ lo h p (fallP w id why) c cs⟩ := by
  refine den_wp rfl Tryz.func81 rfl ?_
  simp [Tryz.f81]
  have hr6 := I.many.2
  have hal := aliveN_le w.runs
  refine loop_wp (σ := (H × WorldC × List RunC × Cell) × PWorld × List Int × Nat) (fun s => ([.c (.ptr p 0 0), .c s.1.2.2.2], [encV why], [], s.1.1))
    (fun s => WorldP lo s.1.1 p s.2.1 s.1.2.1 s.1.2.2.1 ∧ StepP h p (part c cs) s.1.1 (part s.1.2.1 s.1.2.2.1) ∧ Mine h.length (OwnP p (part s.1.2.1 s.1.2.2.1)) s.1.1 s.2.2.1 s.1.2.2.2 ∧ Inv s.2.1 ∧ s.2.1.runs.length = w.runs.length ∧
      s.2.1.sent + 12 * s.2.2.2 ≤ 20000000000 ∧ fallN s.2.2.2 s.2.1 s.2.2.1 why = fallP w id why ∧ s.2.2.1.length + 7 * aliveN s.2.1.runs ≤ s.2.2.2 ∧ s.2.2.2 ≤ 64 ∧ s.1.2.1.runs = c.runs)
    (fun s => s.2.2.2) ((h.push ⟨false, 1, [encI id]⟩, c, cs, .sl h.length 0 1 none), w, [id], 64) rfl ⟨?_, ?_, ?_, I, rfl, by simp only; omega, rfl, by simp only [List.length_singleton]; omega, by simp, rfl⟩ ?_
  · exact hP.ext (Ext.push _ _)
  · exact (StepV.of_ext (Ext.push _ _)).toP
  · refine ⟨⟨⟨by simp, by simp, by simp [sMost], _, get_push_self, rfl, by simp, by simp⟩, fun q hq ho => ?_, by simp⟩, fun q hq => ?_, fun q hq => ?_⟩
    · simp only [Cell.ids, List.mem_singleton] at hq
      have := hP.own_lt q ho; omega
    · simp only [Cell.ids, List.mem_singleton] at hq; subst hq; exact ⟨_, get_push_self, rfl⟩
    · simp only [Cell.ids, List.mem_singleton] at hq; omega
  · rintro ⟨⟨k, c1, cs1, s1⟩, w1, ks, n⟩ ⟨P, s, mm, I1, l1, b1, f1, m1, n1, cr⟩
    simp only at P s mm I1 l1 b1 f1 m1 n1 cr ⊢
    cases ks with
    | nil =>
      have e0 : fallN n w1 [] why = w1 := by cases n <;> rfl
      rw [e0] at f1
      rw [Wp_body]
      simp [mm.a.sl.lenA]
      exact ⟨rfl, k, c1, cs1, rfl, by rw [← f1]; exact P, s, cr⟩
    | cons q rest =>
      obtain ⟨n, rfl⟩ : ∃ n', n = n' + 1 := ⟨n - 1, by simp only [List.length_cons] at m1; omega⟩
      have v := P.v
      have hS := v.runs
      simp only [fallN] at f1
      have hsl := mm.a.sl
      have hx1 : ixA TTz k (.slice 3) (.c s1) (.c (.int .i64 0)) = some (.c (.ptr (sid s1) (soff s1) 0)) := ixA_nat hsl (n := 0) rfl rfl (by simp)
      have hx2 : k.cellsAt (sid s1) (soff s1) 0 1 = some [.int .i64 q] := by have := hsl.at (n := 0) (k := 0) (m := 1) (by simp) (by omega); simpa using this
      simp only [List.length_cons] at m1
      have ea := c_alive (ro := false) P.at_ v.rd.runs q
      by_cases na : Alive w1 q
      · rw [if_pos na] at f1
        rw [if_pos (aliveC_iff.2 na)] at ea
        obtain ⟨E, al1, nl⟩ := I1.endP na hw
        obtain ⟨_, e3, k3, c3, cs3, s3, rfl, P3, g3, r3, ap3⟩ := c_end P I1 (by omega) na hw
        have m3 := mm.stepP g3
        obtain ⟨s4, k4, e4, ma⟩ := m3.app (lo := h.length) ap3.sl ap3.cap (by simp only [List.length_cons]; unfold lenMost; omega)
        have hl3 := Nat.le_trans s.chg.len g3.chg.len
        have m4 := ma.mine m3 (fun id h => P3.own_lt id h) hl3
        have P4 := P3.chg ma.chg fun id ho hid => m3.a.out id hid ho
        have S4 := (s.trans g3).then ma.chg fun q hq => m3.ge q hq
        obtain ⟨s5, e5, m5⟩ := Mine.rest (x := q) (xs := rest ++ (endP w1 q why).2) m4 (T := TTz) (t := 24) (e := 3) (kk := .i64) rfl rfl rfl
        simp only [encV] at e3
        rw [Wp_body]
        simp [hsl.lenA, hx1, hx2, ea, e3, e4, e5]
        refine ⟨by kernel_rfl, k4, c3, cs3, s5, ⟨rfl, rfl⟩, _, _, n, ⟨P4, S4, m5, E.inv, by rw [E.len, l1], by have := E.sent; omega, f1, ?_, by omega, r3.trans cr⟩, by omega⟩
        have := E.alive; simp only [List.length_append]; omega
      · rw [if_neg na] at f1
        have nc := aliveC_not na
        rw [nc] at ea
        obtain ⟨s2, es, m2⟩ := mm.rest (T := TTz) (t := 24) (e := 3) (kk := .i64) rfl rfl rfl
        rw [Wp_body]
        simp [hsl.lenA, hx1, hx2, ea, es]
        exact ⟨k, c1, cs1, s2, ⟨rfl, rfl⟩, w1, rest, n, ⟨P, s, m2, I1, l1, by omega, f1, by omega, by omega, cr⟩, by omega⟩
end Go.Proofs.YtkcfminmojolhaaGreat

/-
  THE REFERENCE'S STEPS: what they answer.
-/
set_option maxRecDepth 8000
namespace Go.Proofs.YtkcfminmojolhaaGreat
open Go.AM
variable {h h' : H} {lo : Nat} {w : PWorld} {c : WorldC} {st cs : List RunC}
theorem setRun_at {i : Nat} {r : PRun} : setRun w ((i : Int) + 1) r = { w with runs := w.runs.set i r } := by
  unfold setRun; rw [show ((i : Int) + 1 - 1).toNat = i by omega]
theorem setP_at {i : Nat} (hi : i < w.runs.length) {slot : Int} {v : PVal} : setP w ((i : Int) + 1) slot v = { w with runs := w.runs.set i (nextRun (putRun w.runs[i] slot v)) } := by
  unfold setP; rw [setRun_at, runAt_nat hi]
theorem waitP_at {i : Nat} (hi : i < w.runs.length) {due : Int} : waitP w ((i : Int) + 1) due = { w with runs := w.runs.set i { w.runs[i] with state := 2, due := due }, queue := less w.queue ((i : Int) + 1) } := by
  unfold waitP; rw [setRun_at, runAt_nat hi]
theorem list_set_self {α : Type} {xs : List α} {i : Nat} (hi : i < xs.length) : xs.set i xs[i] = xs := by simp
/-- A slot of a run is written in its place. -/
theorem WorldV.slotPut (hV : WorldV lo h w c cs cs) {i : Nat} (hi : i < w.runs.length) {n : Nat} (hn : n < w.runs[i].slots.length) (v : PVal) :
    ∃ h', h.write (sid (cs[i]'(by have := hV.len; omega)).slots) (soff (cs[i]'(by have := hV.len; omega)).slots + n) 0 [.int .i64 v.k, .int .i64 v.n] = some h' ∧
      WorldV lo h' { w with runs := w.runs.set i { w.runs[i] with slots := w.runs[i].slots.set n v } } c cs cs ∧ StepV h (part c cs) h' (part c cs) := by
  have hi' : i < cs.length := by have := hV.len; omega
  have wr : Wr h cs[i].slots := by have := hV.own.wr (.slots i); simpa [part, fld_at hi'] using this
  have un : Un cs[i].slots := by have := hV.own.un (.slots i); simpa [part, fld_at hi'] using this
  obtain ⟨h', e, S, W, l, C⟩ := (hV.each i hi).slots.write wr hn (j := 0) (cs := [.int .i64 v.k, .int .i64 v.n]) (x := v) (by simp [splice]) (by simp)
  obtain ⟨v1, g1⟩ := hV.newSlots hi C S W un (fun id hid => .inl hid)
  rw [show cs.set i { cs[i] with slots := cs[i].slots } = cs from list_set_self hi'] at v1 g1
  exact ⟨h', e, v1, g1⟩
theorem c_l21Next {r : RunC} {a : Int} (ha : r.at_ = a) (h0 : 0 ≤ a ∧ a ≤ 1000) : Dz.den 171 [.g (encR r)] h = some (.g (encR { r with at_ := a + 1 }), h) := by
  rw [← Wp_eq]
  refine den_wp rfl Tryz.func171 rfl ?_
  have w1 : IntKind.i64.wrap (a + 1) = a + 1 := wrapS (by omega) (by omega)
  simp [Tryz.f171, ha, w1]
theorem c_l11Put (hV : WorldV lo h w c cs cs) {i : Nat} (hi : i < w.runs.length) (h4 : w.runs[i].slots.length = 4) (hf : 0 ≤ w.runs[i].full ∧ w.runs[i].full ≤ 15) {slot : Int} (h0 : 0 ≤ slot ∧ slot ≤ 3) (v : PVal) :
    ∃ h', Dz.den 172 [.g (encR (cs[i]'(by have := hV.len; omega))), .c (.int .i64 slot), .g (encV v)] h = some (.g (encR { (cs[i]'(by have := hV.len; omega)) with full := withB w.runs[i].full slot }), h') ∧
      WorldV lo h' { w with runs := w.runs.set i { w.runs[i] with slots := w.runs[i].slots.set slot.toNat v } } c cs cs ∧ StepV h (part c cs) h' (part c cs) := by
  have hi' : i < cs.length := by have := hV.len; omega
  obtain ⟨n, hn⟩ : ∃ n : Nat, slot = n := ⟨slot.toNat, by omega⟩
  have hn4 : n < w.runs[i].slots.length := by omega
  obtain ⟨h', e, v1, g1⟩ := hV.slotPut hi hn4 v
  have hr := hV.each i hi
  have hS := hr.slots
  have ef := fun k => c_l3With (h := k) w.runs[i].full slot hf.1 hf.2 h0.1 h0.2
  refine ⟨h', ?_, ?_, g1⟩
  · rw [← Wp_eq]
    refine den_wp rfl Tryz.func172 rfl ?_
    subst hn
    simp [Tryz.f172, ixA_nat hS, hn4, e, hr.full, ef]
  · rw [show slot.toNat = n by omega]; exact v1
set_option maxRecDepth 16000 in
theorem c_l21Set (hV : WorldV lo h w c cs cs) {i : Nat} (hi : i < w.runs.length) (h6 : i < 6) (h4 : w.runs[i].slots.length = 4) (hf : 0 ≤ w.runs[i].full ∧ w.runs[i].full ≤ 15) (ha : 0 ≤ w.runs[i].at_ ∧ w.runs[i].at_ ≤ 15) {slot : Int} (h0 : 0 ≤ slot ∧ slot ≤ 3) (v : PVal) :
    @Wp _ (Dz.den 130 [.g (encW c), .c (.int .i64 ((i : Int) + 1)), .c (.int .i64 slot), .g (encV v)] h) ⟨StepQ lo h (part c cs) (setP w ((i : Int) + 1) slot v)⟩ := by
  refine den_wp rfl Tryz.func130 rfl ?_
  have hlen := hV.len
  have hi' : i < cs.length := by omega
  have hr := hV.each i hi
  have hS := hV.runs
  obtain ⟨h1, e1, v1, g1⟩ := c_l11Put hV hi h4 hf h0 v
  have q := v1.each i (by simpa using hi)
  simp only [List.getElem_set_self] at q
  have e2 := c_l21Next (h := h1) (r := { cs[i] with full := withB w.runs[i].full slot }) (a := w.runs[i].at_) hr.at_ (by omega)
  obtain ⟨v2, p2⟩ := v1.flat (i := i) (by simpa using hi) (r := nextRun (putRun w.runs[i] slot v)) (r' := { cs[i] with full := withB w.runs[i].full slot, at_ := w.runs[i].at_ + 1 }) ⟨q.id, rfl, q.slots, rfl, q.mail, q.state, q.due, q.links, q.watched, q.trap, q.why, q.turns⟩ rfl rfl rfl rfl
  simp only [List.set_set] at v2
  obtain ⟨h3, e3, v3, g3⟩ := v2.lay (i := i) (by simpa using hi) (j := 0) (xs := encR { cs[i] with full := withB w.runs[i].full slot, at_ := w.runs[i].at_ + 1 }) (r' := { cs[i] with full := withB w.runs[i].full slot, at_ := w.runs[i].at_ + 1 }) (by simp [splice]) (by simp)
  have wi : IntKind.i64.wrap (i : Int) = i := wrapS (by omega) (by omega)
  have hS1 := v1.runs
  simp only [encR, encV] at e1 e2 e3
  simp [Tryz.f130, wi, hi', ixA_nat hS, hS.at, e1, e2, ixA_nat hS1, e3]
  refine ⟨by kernel_rfl, h3, c, cs.set i { cs[i] with full := withB w.runs[i].full slot, at_ := w.runs[i].at_ + 1 }, rfl, ?_, ?_⟩
  · rw [setP_at hi]; exact v3
  · refine StepV.trans ?_ g3
    rw [p2]; exact g1
set_option maxRecDepth 16000 in
theorem c_l21Wait (hV : WorldV lo h w c cs cs) {i : Nat} (hi : i < w.runs.length) (h6 : i < 6) (hq : w.queue.length ≤ 2097152) (due : Int) :
    @Wp _ (Dz.den 175 [.g (encW c), .c (.int .i64 ((i : Int) + 1)), .c (.int .i64 due)] h) ⟨StepQ lo h (part c cs) (waitP w ((i : Int) + 1) due)⟩ := by
  refine den_wp rfl Tryz.func175 rfl ?_
  have hlen := hV.len
  have hi' : i < cs.length := by omega
  have hr := hV.each i hi
  have hS := hV.runs
  obtain ⟨h1, e1, v1, g1⟩ := hV.put (i := i) hi (j := 5) (xs := [.int .i64 2]) (r := { w.runs[i] with state := 2 }) (r' := { cs[i] with state := 2 }) (by simp [splice]) (by simp) (fun _ q => ⟨q.id, q.at_, q.slots, q.full, q.mail, rfl, q.due, q.links, q.watched, q.trap, q.why, q.turns⟩) rfl rfl rfl rfl
  obtain ⟨h2, e2, v2, g2⟩ := v1.put (i := i) (by simpa using hi) (j := 6) (xs := [.int .i64 due]) (r := { w.runs[i] with state := 2, due := due }) (r' := { cs[i] with state := 2, due := due }) (by simp [splice]) (by simp) (fun _ q => by simp only [List.getElem_set_self] at q; exact ⟨q.id, q.at_, q.slots, q.full, q.mail, q.state, rfl, q.links, q.watched, q.trap, q.why, q.turns⟩) (by simp) (by simp) (by simp) (by simp)
  simp only [List.set_set] at v2 g2
  obtain ⟨_, e3, h3, s3, rfl, f3⟩ := c_l13Less v2.queue ((i : Int) + 1) hq
  obtain ⟨v3, g3⟩ := v2.freshQueue f3
  have wi : IntKind.i64.wrap (i : Int) = i := wrapS (by omega) (by omega)
  have hS1 := v1.runs
  simp [Tryz.f175, wi, hi', ixA_nat hS, e1, ixA_nat hS1, e2, e3]
  refine ⟨h3, { c with queue := s3 }, cs.set i { cs[i] with state := 2, due := due }, rfl, ?_, g1.trans (g2.trans g3)⟩
  rw [waitP_at hi]; exact v3
end Go.Proofs.YtkcfminmojolhaaGreat

/-
  TAKING A VALUE FROM MAIL, BY THE REFERENCE: what it answers.
-/
set_option maxRecDepth 8000
namespace Go.Proofs.YtkcfminmojolhaaGreat
open Go.AM
variable {h h' : H} {lo : Nat} {w : PWorld} {c : WorldC} {st cs : List RunC}
/-- A slice from a place on. -/
theorem sliceA_from {k : H} {s : Cell} {es : Nat} {α : Type} {enc : α → List Cell} {xs : List α} (hS : Sl k s es enc xs) {T : TT} {t e : TypeId} {kk : IntKind} (ht : T.td t = .slice e) (ho : isOther T e = false) (he : T.size e = es) {n : Nat} (h0 : 0 < xs.length) (hn : n ≤ xs.length) :
    ∃ s', sliceA T k t (.c s) (some (.c (.int kk n))) none none = some (.c s') ∧ Sl k s' es enc (xs.drop n) ∧ s'.ids = s.ids ∧ ∀ id i n c, s' ≠ .sl id i n (some c) := by
  obtain ⟨id, i, b, rfl, hg, hes, hle, hel⟩ := hS.cons (n := 0) h0
  have hlen := hS.len
  have hcap : capOk k id i xs.length none = true := by simp [capOk, hg]; omega
  have hx : ∀ y ∈ xs.drop n, (enc y).length = es := fun y hy => hS.1 y (List.mem_of_mem_drop hy)
  have hb : (n : Int) ≤ (xs.length : Int) := by omega
  have hd : ∀ m, i + n + m ≤ b.el.length → m = xs.length - n → (b.el.drop (i + n)).take m = (xs.drop n).map enc := fun m _ hm => by
    rw [List.map_drop, ← hel, ← List.drop_drop, List.drop_take, hm]
  by_cases z : n = 0
  · subst z
    exact ⟨.sl id i xs.length none, by simp [sliceA, ht, ho, hcap, lowOf, bound, cutA], by simpa using hS, rfl, by simp⟩
  · by_cases h1 : n < b.el.length - i
    · refine ⟨.sl id (i + n) (xs.length - n) none, ?_, ⟨hx, by simp, by omega, b, hg, hes, by omega, hd _ (by omega) rfl⟩, rfl, by simp⟩
      simp [sliceA, ht, ho, hcap, lowOf, bound, cutA, hg, hes, he, h1, hb, z]
    · have hnl : n = xs.length := by omega
      subst hnl
      refine ⟨.sle id i xs.length, ?_, ⟨by simp, by simp, b, hg, hes, hle⟩, rfl, by simp⟩
      have h1' : ¬ xs.length < b.el.length - i := h1
      simp [sliceA, ht, ho, hcap, lowOf, bound, cutA, hg, hes, he, h1', z]
theorem sliceA_same {k k' : H} {s : Cell} (hk : ∀ id ∈ s.ids, k'.get id = k.get id) (hc : ∀ id i n c, s ≠ .sl id i n (some c)) {T : TT} {t : TypeId} {a b d : Option V} : sliceA T k' t (.c s) a b d = sliceA T k t (.c s) a b d := by
  cases s with
  | sl id i len cap =>
    cases cap with
    | some c => exact absurd rfl (hc _ _ _ _)
    | none =>
      have := hk id (by simp [Cell.ids])
      unfold sliceA capOk cutA beyondA threeA
      cases T.td t <;> first | rfl | simp only [this]
  | _ => unfold sliceA; cases T.td t <;> rfl
theorem _root_.Go.AM.Fresh.appS {α : Type} {enc : α → List Cell} {zs ys : List α} {es : Nat} {s t : Cell} {k : H} (f : Fresh h es enc zs s k) (hT : Sl k t es enc ys) (ht : ∀ id i n c, t ≠ .sl id i n (some c)) (hl : zs.length + ys.length ≤ lenMost) :
    ∃ s' k', appendA es k (.c s) (.c t) = some (.c s', k') ∧ Fresh h es enc (zs ++ ys) s' k' := by
  obtain ⟨s', k', e, a⟩ := appendS_ok f.sl f.wr f.un.1 (hT.elemsOf ht) hT.1 hl
  obtain ⟨s2, e2, u⟩ := appendA_un f.un e
  simp only [V.c.injEq] at e2
  subst e2
  have l := f.ext.1
  refine ⟨s', k', e, a.sl, a.wr, u, ⟨Nat.le_trans l a.len, fun id hid => ?_⟩, fun id hid => ?_⟩
  · rw [a.keep id (by omega) (fun hh => by have := f.ids id hh; omega), f.ext.2 id hid]
  · rcases a.ids id hid with hh | hh
    · exact f.ids id hh
    · omega
set_option maxRecDepth 16000 in
theorem c_l11Take {r : PRun} {cr : RunC} (hm : Sl h cr.mail 2 encV r.mail) (hu : Un cr.mail) {n : Nat} (hn : n < r.mail.length) (h12 : r.mail.length ≤ 1000) :
    ∃ h' s', Dz.den 174 [.g (encR cr), .c (.int .i64 n)] h = some (.t [.g (encR { cr with mail := s' }), .g (encV (r.mail[n]?.getD default))], h') ∧ Fresh h 2 encV (r.mail.eraseIdx n) s' h' := by
  have f0 := Fresh.empty h 2 encV
  have hm1 := hm.ext f0.ext
  have e1 := sliceA_to (k := .i64) (n := n) (T := TTz) (t := 65) (e := 43) hm1 rfl rfl (Nat.le_of_lt hn)
  have hc1 := hm1.cutTo (Nat.le_of_lt hn)
  have hcap : ∀ id i n' c, cutTo cr.mail n ≠ .sl id i n' (some c) := by
    obtain ⟨id, i, b, e, _⟩ := hm.cons hn
    rw [e]; simp [cutTo]
  obtain ⟨s1, h1, a1, f1⟩ := f0.appS hc1 hcap (by rw [List.length_take]; simp only [List.length_nil]; unfold lenMost; omega)
  have hm2 := hm.ext f1.ext
  obtain ⟨s2, a2, S2, i2, c2⟩ := sliceA_from hm2 (T := TTz) (t := 65) (e := 43) (kk := .i64) (n := n + 1) rfl rfl rfl (by omega) (by omega)
  obtain ⟨s3, h3, a3, f3⟩ := f1.appS S2 c2 (by simp only [List.nil_append, List.length_take, List.length_drop]; unfold lenMost; omega)
  refine ⟨h3, s3, ?_, ?_⟩
  · have wn : IntKind.i64.wrap ((n : Int) + 1) = ((n + 1 : Nat) : Int) := by rw [wrapS (by omega) (by omega)]; omega
    rw [← Wp_eq]
    refine den_wp rfl Tryz.func174 rfl ?_
    have a20 : sliceA TTz h 65 (.c cr.mail) (some (.c (.int .i64 ((n : Int) + 1)))) none none = some (.c s2) := by
      rw [← a2]; exact (sliceA_same (fun id hid => f1.ext.2 id (hm.ids_lt id hid)) hu.1).symm
    have a21 : sliceA TTz (h.push ⟨false, 2, []⟩) 65 (.c cr.mail) (some (.c (.int .i64 ((n : Int) + 1)))) none none = some (.c s2) := by
      rw [← a20]; exact sliceA_same (fun id hid => f0.ext.2 id (hm.ids_lt id hid)) hu.1
    have a22 : sliceA TTz h1 65 (.c cr.mail) (some (.c (.int .i64 ((n : Int) + 1)))) none none = some (.c s2) := a2
    have e10 : sliceA TTz h 65 (.c cr.mail) none (some (.c (.int .i64 n))) none = some (.c (cutTo cr.mail n)) := by
      rw [← e1]; exact (sliceA_same (fun id hid => f0.ext.2 id (hm.ids_lt id hid)) hu.1).symm
    simp [Tryz.f174, ixA_nat hm, hn, hm.at, e1, a1, wn, a20, a21, a22, a3, e10]
    exact ⟨by kernel_rfl, by kernel_rfl, rfl⟩
  · rw [List.eraseIdx_eq_take_drop_succ]; simpa using f3
end Go.Proofs.YtkcfminmojolhaaGreat

/-
  THE REFERENCE'S l21Take, l21Begin: what they answer.
-/
set_option maxRecDepth 8000
namespace Go.Proofs.YtkcfminmojolhaaGreat
open Go.AM
variable {h h' : H} {lo : Nat} {w : PWorld} {c : WorldC} {st cs : List RunC}
theorem Turn.runs {id : Int} {i : Nat} {r : PRun} {o : POp} (T : Turn w id i r o) : ∃ hi : i < w.runs.length, w.runs[i] = r := ⟨T.hi, by have := T.get; rw [List.getElem?_eq_getElem T.hi] at this; simpa using this⟩
theorem takeP_at {i : Nat} (hi : i < w.runs.length) {o : POp} {n : Nat} (hn : mailAt w.runs[i] o.s = n) : takeP w ((i : Int) + 1) o =
    setP { w with runs := w.runs.set i { w.runs[i] with mail := w.runs[i].mail.eraseIdx n, due := 0 }, taken := w.taken + 1 } ((i : Int) + 1) o.r (w.runs[i].mail[n]?.getD default) := by
  rw [setP_at (by simpa using hi)]
  unfold takeP
  rw [runAt_nat hi, hn, if_pos (by omega), setRun_at, Int.toNat_natCast]
  simp [takeRun, nextRun, putRun]
set_option maxRecDepth 16000 in
set_option maxHeartbeats 1000000 in
theorem c_l21Take (hV : WorldV lo h w c cs cs) {id : Int} {i : Nat} {r : PRun} {o : POp} (T : Turn w id i r o) (I : Inv w) (hs : w.sent ≤ 100000000000) (hk : o.kind = 7 ∨ o.kind = 8) :
    @Wp _ (Dz.den 133 [.g (encW c), .c (.int .i64 id), .g (encO o)] h) ⟨StepQ lo h (part c cs) (takeP w id o)⟩ := by
  refine den_wp rfl Tryz.func133 rfl ?_
  obtain ⟨hi, hri⟩ := T.runs
  have e0 := T.e0
  subst e0
  subst hri
  have hlen := hV.len
  have hi' : i < cs.length := by omega
  have hr := hV.each i hi
  have hS := hV.runs
  have R := T.run.ok
  obtain ⟨i1, i2, i3⟩ := T.idr I
  have h6 : i < 6 := by omega
  have wi : IntKind.i64.wrap (i : Int) = i := wrapS (by omega) (by omega)
  have e1 := c_l11First (h := h) (c := cs[i]) (r := w.runs[i]) hr.mail o.s
  have hop := op_r T.ok
  obtain ⟨n1, n2, n3⟩ := I.nn
  have htk : w.taken ≤ w.sent := by have := I.sum; have := mailSum_nn w.runs; omega
  have wt : IntKind.i64.wrap (c.taken + 1) = w.taken + 1 := by rw [hV.taken]; exact wrapS (by omega) (by omega)
  have hdue := hr.due
  simp only [encR] at e1
  by_cases f0 : 0 ≤ mailAt w.runs[i] o.s
  · obtain ⟨n, hn⟩ : ∃ n : Nat, mailAt w.runs[i] o.s = n := ⟨(mailAt w.runs[i] o.s).toNat, by omega⟩
    have hnl : n < w.runs[i].mail.length := by have := firstAt_lt (show 0 ≤ firstAt (fits o.s) w.runs[i].mail from f0); unfold mailAt at hn; omega
    have e1' : firstAt (fits o.s) w.runs[i].mail = n := hn
    rw [e1'] at e1
    obtain ⟨h1, s1, e2, f2⟩ := c_l11Take (cr := cs[i]) hr.mail (by have := hV.run_un hi' 1; exact this) hnl (by have := R.room; omega)
    obtain ⟨v1, g1⟩ := hV.newMail hi (Chg.of_ext f2.ext _) f2.sl f2.wr f2.un (fun id hid => .inr (f2.ids id hid))
    have q := v1.each i (by simpa using hi)
    simp only [List.getElem_set_self] at q
    obtain ⟨v2, p2⟩ := v1.flat (i := i) (by simpa using hi) (r := { w.runs[i] with mail := w.runs[i].mail.eraseIdx n, due := 0 }) (r' := { cs[i] with mail := s1, due := 0 }) ⟨q.id, q.at_, q.slots, q.full, q.mail, q.state, rfl, q.links, q.watched, q.trap, q.why, q.turns⟩ (by simp) (by simp) (by simp) (by simp)
    simp only [List.set_set] at v2 p2
    obtain ⟨h3, e3, v3, g3⟩ := v2.lay (i := i) (by simpa using hi) (j := 0) (xs := encR { cs[i] with mail := s1, due := 0 }) (r' := { cs[i] with mail := s1, due := 0 }) (by simp [splice]) (by simp)
    have v4 := v3.nums w.now w.sent (w.taken + 1) w.lost
    obtain ⟨_, e5, h5, c5, cs5, rfl, v5, g5⟩ := c_l21Set v4 (i := i) (by simpa using hi) h6 (by simp [R.len]) (by simpa using R.full) (by simpa using R.at_) hop w.runs[i].mail[n]
    rw [numsPart] at g5
    have hS1 := v1.runs
    have eT := takeP_at hi hn
    have dn : w.runs[i].mail[n]?.getD default = w.runs[i].mail[n] := by rw [List.getElem?_eq_getElem hnl]; rfl
    rw [dn] at eT
    simp only [encR, encW, encV, dn] at e2 e3 e5
    rw [eT]
    simp [Tryz.f133, wi, hi', ixA_nat hS, hS.at, e1, e2, ixA_nat hS1, e3, wt, hV.now, hV.sent, hV.lost, e5]
    exact ⟨h5, c5, cs5, rfl, v5, g1.trans (by rw [← p2]; exact g3.trans g5)⟩
  · have f0' : ¬ 0 ≤ firstAt (fits o.s) w.runs[i].mail := f0
    by_cases h7 : o.kind = 7
    · obtain ⟨_, e2, h2, c2, cs2, rfl, v2, g2⟩ := c_l21Wait hV hi h6 (by have := I.qlen; omega) 0
      simp only [encW] at e2
      unfold takeP
      rw [runAt_nat hi, if_neg f0, if_pos h7]
      simp [Tryz.f133, wi, hi', ixA_nat hS, hS.at, e1, f0', h7, e2]
      exact ⟨h2, c2, cs2, rfl, v2, g2⟩
    · by_cases hd : w.runs[i].due < 0
      · obtain ⟨h1, e2, v1, g1⟩ := hV.put (i := i) hi (j := 6) (xs := [.int .i64 0]) (r := { w.runs[i] with due := 0 }) (r' := { cs[i] with due := 0 }) (by simp [splice]) (by simp) (fun _ q => ⟨q.id, q.at_, q.slots, q.full, q.mail, q.state, rfl, q.links, q.watched, q.trap, q.why, q.turns⟩) rfl rfl rfl rfl
        obtain ⟨h2, e3, v2, g2⟩ := v1.put (i := i) (by simpa using hi) (j := 1) (xs := [.int .i64 o.to]) (r := { w.runs[i] with due := 0, at_ := o.to }) (r' := { cs[i] with due := 0, at_ := o.to }) (by simp [splice]) (by simp) (fun _ q => by simp only [List.getElem_set_self] at q; exact ⟨q.id, rfl, q.slots, q.full, q.mail, q.state, q.due, q.links, q.watched, q.trap, q.why, q.turns⟩) (by simp) (by simp) (by simp) (by simp)
        simp only [List.set_set] at v2 g2
        have hS1 := v1.runs
        have hd' : cs[i].due < 0 := by rw [hdue]; exact hd
        unfold takeP
        rw [runAt_nat hi, if_neg f0, if_neg h7, if_pos hd, setRun_at]
        simp [Tryz.f133, wi, hi', ixA_nat hS, hS.at, e1, f0', h7, hd', e2, ixA_nat hS1, e3]
        exact ⟨h2, c, cs.set i { cs[i] with due := 0, at_ := o.to }, rfl, v2, g1.trans g2⟩
      · have h8 : o.kind = 8 := by omega
        have ha := op_after T.ok h8
        have hnow := I.now
        have wn : IntKind.i64.wrap (c.now + o.v.n) = w.now + o.v.n := by rw [hV.now]; exact wrapS (by omega) (by omega)
        obtain ⟨_, e2, h2, c2, cs2, rfl, v2, g2⟩ := c_l21Wait hV hi h6 (by have := I.qlen; omega) (w.now + o.v.n)
        have hd' : ¬ cs[i].due < 0 := by rw [hdue]; exact hd
        simp only [encW] at e2
        unfold takeP
        rw [runAt_nat hi, if_neg f0, if_neg h7, if_neg hd]
        simp [Tryz.f133, wi, hi', ixA_nat hS, hS.at, e1, f0', h7, hd', wn, e2]
        exact ⟨h2, c2, cs2, rfl, v2, g2⟩
end Go.Proofs.YtkcfminmojolhaaGreat

/-
  NEW RUNS, NEW LINKS; the reference's l11New, l21Begin: what they answer.
-/
set_option maxRecDepth 8000
namespace Go.Proofs.YtkcfminmojolhaaGreat
open Go.AM
variable {h h' : H} {lo : Nat} {w : PWorld} {c : WorldC} {st cs : List RunC}
theorem _root_.Go.AM.Fresh.mk' {α : Type} (h : H) (es : Nat) (enc : α → List Cell) (ys : List α) (hy : ∀ y ∈ ys, (enc y).length = es) (hl : ys.length ≤ sMost) : Fresh h es enc ys (.sl h.length 0 ys.length none) (h.push ⟨false, es, ys.map enc⟩) :=
  ⟨Sl.new hy hl, fun id hid => by simp only [Cell.ids, List.mem_singleton] at hid; subst hid; exact ⟨_, get_push_self, rfl⟩, Un.new, Ext.push _ _, fun id hid => by simp only [Cell.ids, List.mem_singleton] at hid; omega⟩
def NewQ (h : H) (r : PRun) (x : V × H) : Prop := ∃ k cr, x = (.g (encR cr), k) ∧ Ext h k ∧ RunR k r cr ∧ RunN h.length k cr
theorem c_l11New (id at_ : Int) (v : PVal) : @Wp _ (Dz.den 127 [.c (.int .i64 id), .c (.int .i64 at_), .g (encV v)] h) ⟨NewQ h (newRun id at_ v)⟩ := by
  refine den_wp rfl Tryz.func127 rfl ?_
  have f1 := Fresh.mk' h 2 encV [v, ⟨0, 0⟩, ⟨0, 0⟩, ⟨0, 0⟩] (by simp) (by simp [sMost])
  have f2 := Fresh.empty (h.push ⟨false, 2, [v, ⟨0, 0⟩, ⟨0, 0⟩, ⟨0, 0⟩].map encV⟩) 2 encV
  have f3 := Fresh.empty ((h.push ⟨false, 2, [v, ⟨0, 0⟩, ⟨0, 0⟩, ⟨0, 0⟩].map encV⟩).push ⟨false, 2, []⟩) 1 encI
  have f4 := Fresh.empty (((h.push ⟨false, 2, [v, ⟨0, 0⟩, ⟨0, 0⟩, ⟨0, 0⟩].map encV⟩).push ⟨false, 2, []⟩).push ⟨false, 1, []⟩) 1 encI
  obtain ⟨x, q, n⟩ := run_new (r := newRun id at_ v) (cr := ⟨id, at_, .nils, 1, .nils, 1, 0, .nils, .nils, false, ⟨0, 0⟩, 0⟩) f1 f2 f3 f4 rfl rfl rfl rfl rfl rfl rfl rfl
  simp [Tryz.f127]
  refine ⟨_, _, ?_, x, q, n⟩
  simp
/-- What one adds to a list of a run, and lays. -/
theorem WorldV.linksAdd (hV : WorldV lo h w c cs cs) {i : Nat} (hi : i < w.runs.length) (x : Int) (hl : w.runs[i].links.length + 1 ≤ lenMost) :
    ∃ s' h1 h2, appendA 1 (h.push ⟨false, 1, [encI x]⟩) (.c (cs[i]'(by have := hV.len; omega)).links) (.c (.sl h.length 0 1 none)) = some (.c s', h1) ∧ h1.write (sid c.runs) (soff c.runs + i) 7 [s'] = some h2 ∧
      Sl h1 c.runs 13 encR cs ∧ WorldV lo h2 { w with runs := w.runs.set i { w.runs[i] with links := w.runs[i].links ++ [x] } } c (cs.set i { (cs[i]'(by have := hV.len; omega)) with links := s' }) (cs.set i { (cs[i]'(by have := hV.len; omega)) with links := s' }) ∧
      StepV h (part c cs) h2 (part c (cs.set i { (cs[i]'(by have := hV.len; omega)) with links := s' })) ∧ ∀ q, q < h.length → q ≠ sid c.runs → q ∉ (cs[i]'(by have := hV.len; omega)).links.ids → h1.get q = h.get q := by
  have hi' : i < cs.length := by have := hV.len; omega
  have hpk : part c cs (.links i) = cs[i].links := fld_at hi'
  obtain ⟨s', h1, e1, G⟩ := (hV.each i hi).links.append_new (by rw [← hpk]; exact hV.own.wr _) (by rw [← hpk]; exact hV.own.un _) (ys := [x]) (by simp) (by simpa using hl)
  obtain ⟨v1, g1⟩ := hV.newLinks hi G.chg G.sl G.wr G.un G.ids
  obtain ⟨h2, e2, v2, g2⟩ := v1.lay (i := i) (by simpa using hi) (j := 7) (xs := [s']) (r' := { cs[i] with links := s' }) (by simp [splice]) (by simp)
  exact ⟨s', h1, h2, e1, e2, v1.runs, v2, g1.trans g2, fun q hq _ hn => G.chg.keep q hq hn⟩
theorem WorldV.watchedAdd (hV : WorldV lo h w c cs cs) {i : Nat} (hi : i < w.runs.length) (x : Int) (hl : w.runs[i].watched.length + 1 ≤ lenMost) :
    ∃ s' h1 h2, appendA 1 (h.push ⟨false, 1, [encI x]⟩) (.c (cs[i]'(by have := hV.len; omega)).watched) (.c (.sl h.length 0 1 none)) = some (.c s', h1) ∧ h1.write (sid c.runs) (soff c.runs + i) 8 [s'] = some h2 ∧
      Sl h1 c.runs 13 encR cs ∧ WorldV lo h2 { w with runs := w.runs.set i { w.runs[i] with watched := w.runs[i].watched ++ [x] } } c (cs.set i { (cs[i]'(by have := hV.len; omega)) with watched := s' }) (cs.set i { (cs[i]'(by have := hV.len; omega)) with watched := s' }) ∧
      StepV h (part c cs) h2 (part c (cs.set i { (cs[i]'(by have := hV.len; omega)) with watched := s' })) ∧ ∀ q, q < h.length → q ≠ sid c.runs → q ∉ (cs[i]'(by have := hV.len; omega)).watched.ids → h1.get q = h.get q := by
  have hi' : i < cs.length := by have := hV.len; omega
  have hpk : part c cs (.watched i) = cs[i].watched := fld_at hi'
  obtain ⟨s', h1, e1, G⟩ := (hV.each i hi).watched.append_new (by rw [← hpk]; exact hV.own.wr _) (by rw [← hpk]; exact hV.own.un _) (ys := [x]) (by simp) (by simpa using hl)
  obtain ⟨v1, g1⟩ := hV.newWatched hi G.chg G.sl G.wr G.un G.ids
  obtain ⟨h2, e2, v2, g2⟩ := v1.lay (i := i) (by simpa using hi) (j := 8) (xs := [s']) (r' := { cs[i] with watched := s' }) (by simp [splice]) (by simp)
  exact ⟨s', h1, h2, e1, e2, v1.runs, v2, g1.trans g2, fun q hq _ hn => G.chg.keep q hq hn⟩
/-- A run that owns its lists is one more. -/
theorem WorldV.oneMore (hV : WorldV lo h w c cs cs) {r : PRun} {cr : RunC} {k : H} (x : Ext h k) (hr : RunR k r cr) (hn : RunN h.length k cr) (hl : w.runs.length + 1 ≤ lenMost) :
    ∃ s' h', appendA 13 (k.push ⟨false, 13, [encR cr]⟩) (.c c.runs) (.c (.sl k.length 0 1 none)) = some (.c s', h') ∧ WorldV lo h' { w with runs := w.runs ++ [r] } { c with runs := s' } (cs ++ [cr]) (cs ++ [cr]) ∧ StepV h (part c cs) h' (part { c with runs := s' } (cs ++ [cr])) := by
  have v1 := hV.ext x
  have hlo := hV.lo_le
  obtain ⟨s', h', e, v, ch, sub⟩ := v1.addRun hr ⟨fun f id hid => by have := hn.ge f id hid; omega, hn.wr, hn.one, hn.un⟩ (fun f id hid ho => by have := hn.ge f id hid; have := hV.own.owned_lt id ho; omega) hl
  refine ⟨s', h', e, v, ⟨⟨Nat.le_trans x.1 ch.len, fun id hid ho => by rw [ch.keep id (Nat.lt_of_lt_of_le hid x.1) ho, x.2 id hid]⟩, fun id ho => ?_⟩⟩
  rcases sub id ho with h1 | ⟨f, h1⟩ | h1
  · exact .inl h1
  · exact .inr (hn.ge f id h1)
  · exact .inr (Nat.le_trans x.1 h1)
set_option maxRecDepth 16000 in
set_option maxHeartbeats 1000000 in
theorem c_l21Begin (hV : WorldV lo h w c cs cs) {id : Int} {i : Nat} {r : PRun} {o : POp} (T : Turn w id i r o) (I : Inv w) (hk : o.kind = 5) :
    @Wp _ (Dz.den 132 [.g (encW c), .c (.int .i64 id), .g (encO o)] h) ⟨StepQ lo h (part c cs) (beginP w id o)⟩ := by
  refine den_wp rfl Tryz.func132 rfl ?_
  obtain ⟨hi, hri⟩ := T.runs
  have e0 := T.e0
  subst e0
  subst hri
  have hlen := hV.len
  have hi' : i < cs.length := by omega
  have hS := hV.runs
  have R := T.run.ok
  obtain ⟨i1, i2, i3⟩ := T.idr I
  have h6 : i < 6 := by omega
  have hm := I.many
  have hop := op_r T.ok
  have wn : IntKind.i64.wrap ((w.runs.length : Int) + 1) = (w.runs.length : Int) + 1 := wrapS (by omega) (by omega)
  by_cases hn : 6 < w.runs.length + 1
  · have hn' : (6 : Int) < (w.runs.length : Int) + 1 := by omega
    obtain ⟨_, e2, h2, c2, cs2, rfl, v2, g2⟩ := c_l21Set hV hi h6 R.len R.full R.at_ hop ⟨0, 0⟩
    simp only [encW, encV] at e2
    unfold beginP
    rw [if_pos hn]
    simp [Tryz.f132, hS.lenA, hlen, wn, hn', e2]
    exact ⟨h2, c2, cs2, rfl, v2, g2⟩
  · have hn' : ¬ (6 : Int) < (w.runs.length : Int) + 1 := by omega
    obtain ⟨_, e1, h1, cr, rfl, x1, q1, n1⟩ := c_l11New (h := h) ((w.runs.length : Int) + 1) o.to ⟨3, (i : Int) + 1⟩
    obtain ⟨s2, h2, e2, v2, g2⟩ := hV.oneMore x1 q1 n1 (by unfold lenMost; omega)
    obtain ⟨s3, h3, e3, v3, g3⟩ := v2.queueApp (ys := [(w.runs.length : Int) + 1]) (by have := I.qlen; simp only [List.length_singleton]; unfold lenMost; omega)
    have hi2 : i < (addRunP w ((i : Int) + 1) o).runs.length := by simp [addRunP]; omega
    have hri2 : (addRunP w ((i : Int) + 1) o).runs[i] = w.runs[i] := by simp only [addRunP]; rw [List.getElem_append_left hi]
    obtain ⟨_, e4, h4, c4, cs4, rfl, v4, g4⟩ := c_l21Set (w := addRunP w ((i : Int) + 1) o) v3 hi2 h6 (by rw [hri2]; exact R.len) (by rw [hri2]; exact R.full) (by rw [hri2]; exact R.at_) hop ⟨3, (w.runs.length : Int) + 1⟩
    simp only [encW, encV, encR, List.map_cons, List.map_nil, encI, List.length_cons, List.length_nil] at e1 e2 e3 e4
    unfold beginP
    rw [if_neg hn]
    simp [Tryz.f132, hS.lenA, hlen, wn, hn', e1, e2, e3, e4]
    exact ⟨by kernel_rfl, h4, c4, cs4, rfl, v4, g2.trans (g3.trans g4)⟩
end Go.Proofs.YtkcfminmojolhaaGreat
