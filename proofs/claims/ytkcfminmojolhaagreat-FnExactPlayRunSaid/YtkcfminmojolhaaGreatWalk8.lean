/-
  What functions of the seat answer, each proved once; each under the condition that cells bear what it is given, as its statement says.
-/
import Derived.Test.YtkcfminmojolhaaGreatWalk7
set_option linter.all false
/-
  THE LAWS' FUNCTIONS THAT MARK AND FIND MARKS, in runs and worlds: what they answer.
-/
set_option maxRecDepth 8000
namespace Go.Proofs.YtkcfminmojolhaaGreat
open Go.AM
variable {h : H} {lo : Nat} {w : PWorld} {c : WorldC} {st cs : List RunC}
def sizeR (r : PRun) : Int := 9 + 2 * r.slots.length + 2 * r.mail.length + r.links.length + r.watched.length
def sizeTo (rs : List PRun) : Nat → Int
  | 0 => 0
  | i + 1 => sizeTo rs i + sizeR (rs[i]?.getD default)
structure RunBd (r : PRun) : Prop where
  slots : r.slots.length ≤ 2097152
  mail : r.mail.length ≤ 2097152
  links : r.links.length ≤ 2097152
  watched : r.watched.length ≤ 2097152
theorem sizeR_range {r : PRun} (h : RunBd r) : 9 ≤ sizeR r ∧ sizeR r ≤ 16777216 := by
  obtain ⟨a, b, c, d⟩ := h
  unfold sizeR; omega
theorem sizeTo_range {rs : List PRun} (h : ∀ r ∈ rs, RunBd r) : ∀ i, i ≤ rs.length → 0 ≤ sizeTo rs i ∧ sizeTo rs i ≤ 16777216 * i
  | 0, _ => ⟨Int.le_refl _, by simp [sizeTo]⟩
  | i + 1, hi => by
    obtain ⟨a, b⟩ := sizeTo_range h i (by omega)
    have hi' : i < rs.length := hi
    have := sizeR_range (h _ (List.getElem_mem hi'))
    rw [sizeTo, List.getElem?_eq_getElem hi', Option.getD_some]
    omega
theorem sizeTo_succ {rs : List PRun} {i : Nat} (hi : i < rs.length) : sizeTo rs (i + 1) = sizeTo rs i + sizeR rs[i] := by rw [sizeTo, List.getElem?_eq_getElem hi, Option.getD_some]
/-- Two rows of runs whose lists are as long. -/
def Alike (a b : List PRun) : Prop := a.length = b.length ∧ ∀ i (ha : i < a.length) (hb : i < b.length), a[i].slots.length = b[i].slots.length ∧ a[i].mail.length = b[i].mail.length ∧ a[i].links.length = b[i].links.length ∧ a[i].watched.length = b[i].watched.length
theorem Alike.refl (a : List PRun) : Alike a a := ⟨rfl, fun _ _ _ => ⟨rfl, rfl, rfl, rfl⟩⟩
theorem Alike.size {a b : List PRun} (h : Alike a b) : ∀ i, i ≤ a.length → sizeTo a i = sizeTo b i
  | 0, _ => rfl
  | i + 1, hi => by
    have hb : i < b.length := by have := h.1; omega
    obtain ⟨x, y, z, t⟩ := h.2 i hi hb
    rw [sizeTo_succ hi, sizeTo_succ hb, h.size i (by omega), sizeR, sizeR, x, y, z, t]
theorem Alike.bd {a b : List PRun} (h : Alike a b) (hb : ∀ r ∈ b, RunBd r) : ∀ r ∈ a, RunBd r := fun r hr => by
  obtain ⟨i, hi, rfl⟩ := List.getElem_of_mem hr
  have hi2 : i < b.length := by have := h.1; omega
  obtain ⟨x, y, z, t⟩ := h.2 i hi hi2
  obtain ⟨p, q, u, v⟩ := hb _ (List.getElem_mem hi2)
  exact ⟨by omega, by omega, by omega, by omega⟩
theorem Alike.set {a b : List PRun} (h : Alike a b) {i : Nat} (hi : i < b.length) {r : PRun} (hr : r.slots.length = b[i].slots.length ∧ r.mail.length = b[i].mail.length ∧ r.links.length = b[i].links.length ∧ r.watched.length = b[i].watched.length) : Alike (a.set i r) b := by
  refine ⟨by simp [h.1], fun j ha hb => ?_⟩
  by_cases e : i = j
  · subst e; simpa using hr
  · simpa [List.getElem_set, e] using h.2 j (by simpa using ha) hb
structure HeldR (n : Int) (r : PRun) : Prop where
  id : r.id = n
  at_ : r.at_ = n + 1
  slots : HeldV (n + 2) r.slots
  full : r.full = n + 2 + 2 * r.slots.length
  mail : HeldV (n + 3 + 2 * r.slots.length) r.mail
  state : r.state = n + 3 + 2 * r.slots.length + 2 * r.mail.length
  due : r.due = n + 4 + 2 * r.slots.length + 2 * r.mail.length
  links : HeldI (n + 5 + 2 * r.slots.length + 2 * r.mail.length) r.links
  watched : HeldI (n + 5 + 2 * r.slots.length + 2 * r.mail.length + r.links.length) r.watched
  trap : r.trap = decide ((n + 5 + 2 * r.slots.length + 2 * r.mail.length + r.links.length + r.watched.length).tmod 3 = 0)
  why : r.why = ⟨n + 6 + 2 * r.slots.length + 2 * r.mail.length + r.links.length + r.watched.length, n + 7 + 2 * r.slots.length + 2 * r.mail.length + r.links.length + r.watched.length⟩
  turns : r.turns = n + 8 + 2 * r.slots.length + 2 * r.mail.length + r.links.length + r.watched.length
def HeldRs (n : Int) (rs : List PRun) : Prop := ∀ j (hj : j < rs.length), HeldR (n + sizeTo rs j) rs[j]
def MarkRQ (lo : Nat) (h : H) (w : PWorld) (c : WorldC) (cs : List RunC) (n : Int) (x : V × H) : Prop :=
  ∃ k rs cs', x = (.c (.int .i64 (n + sizeTo w.runs w.runs.length)), k) ∧ WorldV lo k { w with runs := rs } c cs' cs' ∧ StepV h (part c cs) k (part c cs') ∧ Alike rs w.runs ∧ HeldRs n rs
end Go.Proofs.YtkcfminmojolhaaGreat

/-
  THE LAWS' markRunS: what it answers.
-/
set_option maxRecDepth 8000
namespace Go.Proofs.YtkcfminmojolhaaGreat
open Go.AM
variable {h h' : H} {lo : Nat} {w : PWorld} {c : WorldC} {st cs : List RunC} {rs : List PRun} {r : PRun} {c1 s0 s1 : RunC} {i : Nat}
/-- A run lies in its row anew, where another lay. -/
theorem WorldV.layAt (hV : WorldV lo h w c (st.set i s0) cs) (hi : i < w.runs.length) {j : Nat} {xs : List Cell} (hx : encR s1 = splice (encR s0) j xs) (hj : j + xs.length ≤ 13) :
    ∃ h', h.write (sid c.runs) (soff c.runs + i) j xs = some h' ∧ WorldV lo h' w c (st.set i s1) cs ∧ StepV h (part c cs) h' (part c cs) := by
  obtain ⟨h', e, v, s⟩ := hV.lay (i := i) hi (j := j) (xs := xs) (r' := s1) (by rw [List.getElem_set_self]; exact hx) hj
  rw [List.set_set] at v
  exact ⟨h', e, v, s⟩
theorem set_at_self {α : Type} {l : List α} {a : α} {i : Nat} (h : i < l.length) (h' : i < (l.set i a).length) : (l.set i a)[i] = a := List.getElem_set_self ..
theorem part_at (hi : i < cs.length) : part c (cs.set i c1) (.slots i) = c1.slots ∧ part c (cs.set i c1) (.mail i) = c1.mail ∧ part c (cs.set i c1) (.links i) = c1.links ∧ part c (cs.set i c1) (.watched i) = c1.watched := by
  simp [part, fld_set, hi]
theorem WorldV.runAt (hV : WorldV lo h { w with runs := rs.set i r } c st (cs.set i c1)) (hi : i < rs.length) : RunR h r c1 := by
  have := hV.each i (by simpa using hi)
  simpa only [List.getElem_set_self] using this
theorem WorldV.wrSlots (hV : WorldV lo h { w with runs := rs.set i r } c st (cs.set i c1)) (hi : i < cs.length) : Wr h c1.slots := by
  have := hV.own.wr (.slots i)
  rw [(part_at hi).1] at this; exact this
theorem WorldV.reSlots (hV : WorldV lo h { w with runs := rs.set i r } c st (cs.set i c1)) (hi : i < rs.length) (hi' : i < cs.length) {ys : List PVal} (S : Sl h' c1.slots 2 encV ys) (W : Wr h' c1.slots) (C : Chg h (fun id => id ∈ c1.slots.ids) h') :
    WorldV lo h' { w with runs := rs.set i { r with slots := ys } } c st (cs.set i c1) ∧ StepV h (part c (cs.set i c1)) h' (part c (cs.set i c1)) := by
  have g : (cs.set i c1)[i]'(by simpa using hi') = c1 := List.getElem_set_self ..
  have g2 : (rs.set i r)[i]'(by simpa using hi) = r := List.getElem_set_self ..
  have u := hV.own.un (.slots i)
  rw [(part_at hi').1] at u
  obtain ⟨v, s⟩ := hV.newSlots (i := i) (by simpa using hi) (q := ys) (s' := c1.slots) (by rw [g]; exact C) S W u (fun id hid => .inl (by rw [g]; exact hid))
  rw [g] at v s
  simp only [g2, List.set_set] at v s
  exact ⟨v, s⟩
theorem WorldV.wrMail (hV : WorldV lo h { w with runs := rs.set i r } c st (cs.set i c1)) (hi : i < cs.length) : Wr h c1.mail := by
  have := hV.own.wr (.mail i)
  rw [(part_at hi).2.1] at this; exact this
theorem WorldV.reMail (hV : WorldV lo h { w with runs := rs.set i r } c st (cs.set i c1)) (hi : i < rs.length) (hi' : i < cs.length) {ys : List PVal} (S : Sl h' c1.mail 2 encV ys) (W : Wr h' c1.mail) (C : Chg h (fun id => id ∈ c1.mail.ids) h') :
    WorldV lo h' { w with runs := rs.set i { r with mail := ys } } c st (cs.set i c1) ∧ StepV h (part c (cs.set i c1)) h' (part c (cs.set i c1)) := by
  have g : (cs.set i c1)[i]'(by simpa using hi') = c1 := List.getElem_set_self ..
  have g2 : (rs.set i r)[i]'(by simpa using hi) = r := List.getElem_set_self ..
  have u := hV.own.un (.mail i)
  rw [(part_at hi').2.1] at u
  obtain ⟨v, s⟩ := hV.newMail (i := i) (by simpa using hi) (q := ys) (s' := c1.mail) (by rw [g]; exact C) S W u (fun id hid => .inl (by rw [g]; exact hid))
  rw [g] at v s
  simp only [g2, List.set_set] at v s
  exact ⟨v, s⟩
theorem WorldV.wrLinks (hV : WorldV lo h { w with runs := rs.set i r } c st (cs.set i c1)) (hi : i < cs.length) : Wr h c1.links := by
  have := hV.own.wr (.links i)
  rw [(part_at hi).2.2.1] at this; exact this
theorem WorldV.reLinks (hV : WorldV lo h { w with runs := rs.set i r } c st (cs.set i c1)) (hi : i < rs.length) (hi' : i < cs.length) {ys : List Int} (S : Sl h' c1.links 1 encI ys) (W : Wr h' c1.links) (C : Chg h (fun id => id ∈ c1.links.ids) h') :
    WorldV lo h' { w with runs := rs.set i { r with links := ys } } c st (cs.set i c1) ∧ StepV h (part c (cs.set i c1)) h' (part c (cs.set i c1)) := by
  have g : (cs.set i c1)[i]'(by simpa using hi') = c1 := List.getElem_set_self ..
  have g2 : (rs.set i r)[i]'(by simpa using hi) = r := List.getElem_set_self ..
  have u := hV.own.un (.links i)
  rw [(part_at hi').2.2.1] at u
  obtain ⟨v, s⟩ := hV.newLinks (i := i) (by simpa using hi) (q := ys) (s' := c1.links) (by rw [g]; exact C) S W u (fun id hid => .inl (by rw [g]; exact hid))
  rw [g] at v s
  simp only [g2, List.set_set] at v s
  exact ⟨v, s⟩
theorem WorldV.wrWatched (hV : WorldV lo h { w with runs := rs.set i r } c st (cs.set i c1)) (hi : i < cs.length) : Wr h c1.watched := by
  have := hV.own.wr (.watched i)
  rw [(part_at hi).2.2.2] at this; exact this
theorem WorldV.reWatched (hV : WorldV lo h { w with runs := rs.set i r } c st (cs.set i c1)) (hi : i < rs.length) (hi' : i < cs.length) {ys : List Int} (S : Sl h' c1.watched 1 encI ys) (W : Wr h' c1.watched) (C : Chg h (fun id => id ∈ c1.watched.ids) h') :
    WorldV lo h' { w with runs := rs.set i { r with watched := ys } } c st (cs.set i c1) ∧ StepV h (part c (cs.set i c1)) h' (part c (cs.set i c1)) := by
  have g : (cs.set i c1)[i]'(by simpa using hi') = c1 := List.getElem_set_self ..
  have g2 : (rs.set i r)[i]'(by simpa using hi) = r := List.getElem_set_self ..
  have u := hV.own.un (.watched i)
  rw [(part_at hi').2.2.2] at u
  obtain ⟨v, s⟩ := hV.newWatched (i := i) (by simpa using hi) (q := ys) (s' := c1.watched) (by rw [g]; exact C) S W u (fun id hid => .inl (by rw [g]; exact hid))
  rw [g] at v s
  simp only [g2, List.set_set] at v s
  exact ⟨v, s⟩
set_option maxRecDepth 16000 in
set_option maxHeartbeats 4000000 in
theorem c_markRunS (hV : WorldV lo h w c cs cs) (hb : ∀ r ∈ w.runs, RunBd r) (hl : w.runs.length ≤ 2097152) {n : Int} (h0 : 0 ≤ n) (hn : n ≤ 576460752303423488) : @Wp _ (Dz.den 72 [.c c.runs, .c (.int .i64 n)] h) ⟨MarkRQ lo h w c cs n⟩ := by
  refine den_wp rfl Tryz.func72 rfl ?_
  have hlen := hV.len
  simp [Tryz.f72]
  refine count_wpG (σ := H × List PRun × List RunC) w.runs.length (fun i g => ([.c c.runs, .c (ci (n + sizeTo w.runs i)), .c (ci 0), .c (ci i)], [], [], g.1))
    (fun i g => WorldV lo g.1 { w with runs := g.2.1 } c g.2.2 g.2.2 ∧ StepV h (part c cs) g.1 (part c g.2.2) ∧ Alike g.2.1 w.runs ∧ ∀ j (hj : j < g.2.1.length), j < i → HeldR (n + sizeTo w.runs j) g.2.1[j])
    (h, w.runs, cs) (by simp [sizeTo]) ⟨hV, StepV.refl _ _, Alike.refl _, fun j hj hi => by omega⟩ ?_ ?_
  · rintro i ⟨k0, rs, cs1⟩ hi ⟨v, s, al, hd⟩
    simp only at v s al hd ⊢
    have hlr := al.1
    have hl1 : cs1.length = rs.length := v.len
    have hir : i < rs.length := by omega
    have hi' : i < cs1.length := by omega
    obtain ⟨bS, bM, bL, bW⟩ := al.bd hb _ (List.getElem_mem hir)
    obtain ⟨rg1, rg2⟩ := sizeTo_range hb i (by omega)
    have hs1 : sizeTo w.runs (i + 1) = sizeTo w.runs i + sizeR rs[i] := by rw [← al.size i (by omega), ← al.size (i + 1) (by omega), sizeTo_succ hir]
    unfold sizeR at hs1
    have hr := v.each i hir
    have R0 := v.runs
    have hset : cs1.set i cs1[i] = cs1 := List.set_getElem_self hi'
    obtain ⟨x0, hx0⟩ : ∃ x, x = n + sizeTo w.runs i := ⟨_, rfl⟩
    obtain ⟨x1, hx1⟩ : ∃ x, x = x0 + 1 := ⟨_, rfl⟩
    obtain ⟨x2, hx2⟩ : ∃ x, x = x1 + 1 := ⟨_, rfl⟩
    obtain ⟨x3, hx3⟩ : ∃ x, x = x2 + 2 * (rs[i].slots.length : Int) := ⟨_, rfl⟩
    obtain ⟨x4, hx4⟩ : ∃ x, x = x3 + 1 := ⟨_, rfl⟩
    obtain ⟨x5, hx5⟩ : ∃ x, x = x4 + 2 * (rs[i].mail.length : Int) := ⟨_, rfl⟩
    obtain ⟨x6, hx6⟩ : ∃ x, x = x5 + 1 := ⟨_, rfl⟩
    obtain ⟨x7, hx7⟩ : ∃ x, x = x6 + 1 := ⟨_, rfl⟩
    obtain ⟨x8, hx8⟩ : ∃ x, x = x7 + (rs[i].links.length : Int) := ⟨_, rfl⟩
    obtain ⟨x9, hx9⟩ : ∃ x, x = x8 + (rs[i].watched.length : Int) := ⟨_, rfl⟩
    obtain ⟨x10, hx10⟩ : ∃ x, x = x9 + 1 := ⟨_, rfl⟩
    obtain ⟨x11, hx11⟩ : ∃ x, x = x10 + 1 := ⟨_, rfl⟩
    obtain ⟨x12, hx12⟩ : ∃ x, x = x11 + 1 := ⟨_, rfl⟩
    obtain ⟨x13, hx13⟩ : ∃ x, x = x12 + 1 := ⟨_, rfl⟩
    have u0 : IntKind.i64.wrap (x0 + 1) = x1 := by rw [wrap_i64 (by omega) (by omega)]; omega
    have u1 : IntKind.i64.wrap (x1 + 1) = x2 := by rw [wrap_i64 (by omega) (by omega)]; omega
    have u3 : IntKind.i64.wrap (x3 + 1) = x4 := by rw [wrap_i64 (by omega) (by omega)]; omega
    have u5 : IntKind.i64.wrap (x5 + 1) = x6 := by rw [wrap_i64 (by omega) (by omega)]; omega
    have u6 : IntKind.i64.wrap (x6 + 1) = x7 := by rw [wrap_i64 (by omega) (by omega)]; omega
    have u9 : IntKind.i64.wrap (x9 + 1) = x10 := by rw [wrap_i64 (by omega) (by omega)]; omega
    have u10 : IntKind.i64.wrap (x10 + 1) = x11 := by rw [wrap_i64 (by omega) (by omega)]; omega
    have u11 : IntKind.i64.wrap (x11 + 1) = x12 := by rw [wrap_i64 (by omega) (by omega)]; omega
    have u12 : IntKind.i64.wrap (x12 + 1) = x13 := by rw [wrap_i64 (by omega) (by omega)]; omega
    have hfin : n + sizeTo w.runs (i + 1) = x13 := by omega
    obtain ⟨r0, hr0⟩ : ∃ r : PRun, r = { rs[i] with id := x0, at_ := x1, full := x3, state := x5, due := x6, trap := decide (x9.tmod 3 = 0), why := ⟨x10, x11⟩, turns := x12 } := ⟨_, rfl⟩
    obtain ⟨c1, hc1⟩ : ∃ r : RunC, r = { cs1[i] with id := x0, at_ := x1, full := x3, state := x5, due := x6, trap := decide (x9.tmod 3 = 0), why := ⟨x10, x11⟩, turns := x12 } := ⟨_, rfl⟩
    obtain ⟨v0, p0⟩ := v.flat (i := i) hir (r := r0) (r' := c1) (by subst hr0; subst hc1; exact ⟨rfl, rfl, hr.slots, rfl, hr.mail, rfl, rfl, hr.links, hr.watched, rfl, rfl, rfl⟩) (by rw [hc1]) (by rw [hc1]) (by rw [hc1]) (by rw [hc1])
    have q_slots : c1.slots = cs1[i].slots := by rw [hc1]
    have q_mail : c1.mail = cs1[i].mail := by rw [hc1]
    have q_links : c1.links = cs1[i].links := by rw [hc1]
    have q_watched : c1.watched = cs1[i].watched := by rw [hc1]
    have v0 : WorldV lo k0 { w with runs := rs.set i r0 } c (cs1.set i cs1[i]) (cs1.set i c1) := by rw [hset]; exact v0
    have P0 := v0.runAt hir
    obtain ⟨k1, e0, v1, g1⟩ := v0.layAt (s1 := { cs1[i] with id := x0 }) (by simpa using hir) (j := 0) (xs := [.int .i64 x0]) (by simp [splice]) (by simp)
    obtain ⟨k2, e1, v2, g2⟩ := v1.layAt (s1 := { cs1[i] with id := x0, at_ := x1 }) (by simpa using hir) (j := 1) (xs := [.int .i64 x1]) (by simp [splice]) (by simp)
    have P102 := v2.runAt hir
    have z2 : r0.slots = rs[i].slots := by subst_vars; rfl
    obtain ⟨_, e2, k3, ys2, rfl, S2, W2, L2, C2, H2⟩ := c_markValS P102.slots (v2.wrSlots hi') (n := x2) (by omega) (by rw [z2]; unfold markMost; omega)
    rw [z2, ← hx3, q_slots] at e2
    obtain ⟨v3, g3⟩ := v2.reSlots hir hi' S2 W2 C2
    obtain ⟨r3, hr3⟩ : ∃ r : PRun, r = { r0 with slots := ys2 } := ⟨_, rfl⟩
    rw [← hr3] at v3
    obtain ⟨k4, e3, v4, g4⟩ := v3.layAt (s1 := { cs1[i] with id := x0, at_ := x1, full := x3 }) (by simpa using hir) (j := 3) (xs := [.int .i64 x3]) (by simp [splice]) (by simp)
    have P104 := v4.runAt hir
    have z4 : r3.mail = rs[i].mail := by subst_vars; rfl
    obtain ⟨_, e4, k5, ys4, rfl, S4, W4, L4, C4, H4⟩ := c_markValS P104.mail (v4.wrMail hi') (n := x4) (by omega) (by rw [z4]; unfold markMost; omega)
    rw [z4, ← hx5, q_mail] at e4
    obtain ⟨v5, g5⟩ := v4.reMail hir hi' S4 W4 C4
    obtain ⟨r5, hr5⟩ : ∃ r : PRun, r = { r3 with mail := ys4 } := ⟨_, rfl⟩
    rw [← hr5] at v5
    obtain ⟨k6, e5, v6, g6⟩ := v5.layAt (s1 := { cs1[i] with id := x0, at_ := x1, full := x3, state := x5 }) (by simpa using hir) (j := 5) (xs := [.int .i64 x5]) (by simp [splice]) (by simp)
    obtain ⟨k7, e6, v7, g7⟩ := v6.layAt (s1 := { cs1[i] with id := x0, at_ := x1, full := x3, state := x5, due := x6 }) (by simpa using hir) (j := 6) (xs := [.int .i64 x6]) (by simp [splice]) (by simp)
    have P107 := v7.runAt hir
    have z7 : r5.links = rs[i].links := by subst_vars; rfl
    obtain ⟨_, e7, k8, ys7, rfl, S7, W7, L7, C7, H7⟩ := c_markIntS P107.links (v7.wrLinks hi') (n := x7) (by omega) (by rw [z7]; unfold markMost; omega)
    rw [z7, ← hx8, q_links] at e7
    obtain ⟨v8, g8⟩ := v7.reLinks hir hi' S7 W7 C7
    obtain ⟨r8, hr8⟩ : ∃ r : PRun, r = { r5 with links := ys7 } := ⟨_, rfl⟩
    rw [← hr8] at v8
    have P108 := v8.runAt hir
    have z8 : r8.watched = rs[i].watched := by subst_vars; rfl
    obtain ⟨_, e8, k9, ys8, rfl, S8, W8, L8, C8, H8⟩ := c_markIntS P108.watched (v8.wrWatched hi') (n := x8) (by omega) (by rw [z8]; unfold markMost; omega)
    rw [z8, ← hx9, q_watched] at e8
    obtain ⟨v9, g9⟩ := v8.reWatched hir hi' S8 W8 C8
    obtain ⟨r9, hr9⟩ : ∃ r : PRun, r = { r8 with watched := ys8 } := ⟨_, rfl⟩
    rw [← hr9] at v9
    obtain ⟨k10, e9, v10, g10⟩ := v9.layAt (s1 := { cs1[i] with id := x0, at_ := x1, full := x3, state := x5, due := x6, trap := decide (x9.tmod 3 = 0) }) (by simpa using hir) (j := 9) (xs := [.bool (decide (x9.tmod 3 = 0))]) (by simp [splice]) (by simp)
    obtain ⟨k11, e10, v11, g11⟩ := v10.layAt (s1 := { cs1[i] with id := x0, at_ := x1, full := x3, state := x5, due := x6, trap := decide (x9.tmod 3 = 0), why := ⟨x10, cs1[i].why.n⟩ }) (by simpa using hir) (j := 10) (xs := [.int .i64 x10]) (by simp [splice]) (by simp)
    obtain ⟨k12, e11, v12, g12⟩ := v11.layAt (s1 := { cs1[i] with id := x0, at_ := x1, full := x3, state := x5, due := x6, trap := decide (x9.tmod 3 = 0), why := ⟨x10, x11⟩ }) (by simpa using hir) (j := 11) (xs := [.int .i64 x11]) (by simp [splice]) (by simp)
    obtain ⟨k13, e12, v13, g13⟩ := v12.layAt (s1 := { cs1[i] with id := x0, at_ := x1, full := x3, state := x5, due := x6, trap := decide (x9.tmod 3 = 0), why := ⟨x10, x11⟩, turns := x12 }) (by simpa using hir) (j := 12) (xs := [.int .i64 x12]) (by simp [splice]) (by simp)
    have R1 := v1.runs
    have R2 := v2.runs
    have R3 := v3.runs
    have R4 := v4.runs
    have R5 := v5.runs
    have R6 := v6.runs
    have R7 := v7.runs
    have R8 := v8.runs
    have R9 := v9.runs
    have R10 := v10.runs
    have R11 := v11.runs
    have R12 := v12.runs
    have R13 := v13.runs
    rw [Wp_body]
    rw [← hx0, hfin]
    have r3 : (3 : Int) ≠ 0 := by decide
    simp [R0.lenA, hlr, hl1, hi, hi', hir, ixA_nat R0, ixA_nat R1, ixA_nat R2, ixA_nat R3, ixA_nat R4, ixA_nat R5, ixA_nat R6, ixA_nat R7, ixA_nat R8, ixA_nat R9, ixA_nat R10, ixA_nat R11, ixA_nat R12, R2.at, R4.at, R7.at, R8.at, e0, e1, e2, e3, e4, e5, e6, e7, e8, e9, e10, e11, e12, u0, u1, u3, u5, u6, u9, u10, u11, u12, wrap_succ (R0.lt hi')]
    obtain ⟨aS, aM, aL, aW⟩ := al.2 i hir hi
    have lS : ys2.length = rs[i].slots.length := by rw [L2, z2]
    have lM : ys4.length = rs[i].mail.length := by rw [L4, z4]
    have lL : ys7.length = rs[i].links.length := by rw [L7, z7]
    have lW : ys8.length = rs[i].watched.length := by rw [L8, z8]
    have er : r9 = ⟨x0, x1, ys2, x3, ys4, x5, x6, ys7, ys8, decide (x9.tmod 3 = 0), ⟨x10, x11⟩, x12⟩ := by rw [hr9, hr8, hr5, hr3, hr0]
    rw [← hc1] at v13
    refine ⟨rs.set i r9, cs1.set i c1, v13, ?_, al.set hi (by rw [er]; exact ⟨lS.trans aS, lM.trans aM, lL.trans aL, lW.trans aW⟩), fun j hj hji => ?_⟩
    · refine s.trans ?_
      rw [← p0]
      exact g1.trans (g2.trans (g3.trans (g4.trans (g5.trans (g6.trans (g7.trans (g8.trans (g9.trans (g10.trans (g11.trans (g12.trans g13)))))))))))
    · by_cases e : i = j
      · subst e
        rw [List.getElem_set_self, ← hx0, er]
        refine ⟨rfl, hx1, ?_, ?_, ?_, ?_, ?_, ?_, ?_, ?_, ?_, ?_⟩
        · have := H2; rwa [show x2 = x0 + 2 by omega] at this
        · show x3 = _; simp only [lS]; omega
        · have := H4; rwa [show x4 = x0 + 3 + 2 * (ys2.length : Int) by omega] at this
        · show x5 = _; simp only [lS, lM]; omega
        · show x6 = _; simp only [lS, lM]; omega
        · have := H7; rwa [show x7 = x0 + 5 + 2 * (ys2.length : Int) + 2 * (ys4.length : Int) by omega] at this
        · have := H8; rwa [show x8 = x0 + 5 + 2 * (ys2.length : Int) + 2 * (ys4.length : Int) + (ys7.length : Int) by omega] at this
        · show decide (x9.tmod 3 = 0) = _; rw [show x9 = x0 + 5 + 2 * (ys2.length : Int) + 2 * (ys4.length : Int) + (ys7.length : Int) + (ys8.length : Int) by omega]
        · show (⟨x10, x11⟩ : PVal) = _; rw [show x10 = x0 + 6 + 2 * (ys2.length : Int) + 2 * (ys4.length : Int) + (ys7.length : Int) + (ys8.length : Int) by omega, show x11 = x0 + 7 + 2 * (ys2.length : Int) + 2 * (ys4.length : Int) + (ys7.length : Int) + (ys8.length : Int) by omega]
        · show x12 = _; simp only; omega
      · rw [List.getElem_set_ne e]
        exact hd j (by simpa using hj) (by omega)
  · rintro ⟨k, rs, cs1⟩ ⟨v, s, al, hd⟩
    simp only at v s al hd ⊢
    have hlr := al.1
    have hl1 : cs1.length = rs.length := v.len
    have R0 := v.runs
    rw [Wp_body]
    simp [R0.lenA, hl1, hlr]
    exact ⟨k, rs, cs1, rfl, v, s, al, fun j hj => by rw [al.size j (by omega)]; exact hd j hj (by omega)⟩
end Go.Proofs.YtkcfminmojolhaaGreat

/-
  THE LAWS' heldRunS, markWorld, heldWorld: what they answer.
-/
set_option maxRecDepth 8000
namespace Go.Proofs.YtkcfminmojolhaaGreat
open Go.AM
variable {h h' : H} {lo : Nat} {w : PWorld} {c : WorldC} {st cs : List RunC} {rs : List PRun} {s : Cell}
set_option maxRecDepth 16000 in
set_option maxHeartbeats 4000000 in
theorem c_heldRunS (hR : RunsR h s rs cs) (hb : ∀ r ∈ rs, RunBd r) (hl : rs.length ≤ 2097152) {n : Int} (h0 : 0 ≤ n) (hn : n ≤ 576460752303423488) (hH : HeldRs n rs) :
    Dz.den 75 [.c s, .c (.int .i64 n)] h = some (.c (.int .i64 (n + sizeTo rs rs.length)), h) := by
  refine den_plain rfl Tryz.func75 rfl rfl ?_
  have hS := hR.sl
  have hlen := hR.len
  simp [Tryz.f75]
  refine count_wp rs.length (fun i => ([.c s, .c (ci (n + sizeTo rs i)), .c (ci 0), .c (ci i)], [], [], h)) (fun _ => True) (by simp [sizeTo]) trivial ?_ ?_
  · intro i hi _
    have hi' : i < cs.length := by omega
    have hr := hR.each i hi
    have hh := hH i hi
    obtain ⟨bS, bM, bL, bW⟩ := hb _ (List.getElem_mem hi)
    obtain ⟨rg1, rg2⟩ := sizeTo_range hb i (by omega)
    have hs1 : sizeTo rs (i + 1) = sizeTo rs i + sizeR rs[i] := sizeTo_succ hi
    unfold sizeR at hs1
    obtain ⟨x0, hx0⟩ : ∃ x, x = n + sizeTo rs i := ⟨_, rfl⟩
    rw [← hx0] at hh
    obtain ⟨x1, hx1⟩ : ∃ x, x = x0 + 1 := ⟨_, rfl⟩
    obtain ⟨x2, hx2⟩ : ∃ x, x = x1 + 1 := ⟨_, rfl⟩
    obtain ⟨x3, hx3⟩ : ∃ x, x = x2 + 2 * (rs[i].slots.length : Int) := ⟨_, rfl⟩
    obtain ⟨x4, hx4⟩ : ∃ x, x = x3 + 1 := ⟨_, rfl⟩
    obtain ⟨x5, hx5⟩ : ∃ x, x = x4 + 2 * (rs[i].mail.length : Int) := ⟨_, rfl⟩
    obtain ⟨x6, hx6⟩ : ∃ x, x = x5 + 1 := ⟨_, rfl⟩
    obtain ⟨x7, hx7⟩ : ∃ x, x = x6 + 1 := ⟨_, rfl⟩
    obtain ⟨x8, hx8⟩ : ∃ x, x = x7 + (rs[i].links.length : Int) := ⟨_, rfl⟩
    obtain ⟨x9, hx9⟩ : ∃ x, x = x8 + (rs[i].watched.length : Int) := ⟨_, rfl⟩
    obtain ⟨x10, hx10⟩ : ∃ x, x = x9 + 1 := ⟨_, rfl⟩
    obtain ⟨x11, hx11⟩ : ∃ x, x = x10 + 1 := ⟨_, rfl⟩
    obtain ⟨x12, hx12⟩ : ∃ x, x = x11 + 1 := ⟨_, rfl⟩
    obtain ⟨x13, hx13⟩ : ∃ x, x = x12 + 1 := ⟨_, rfl⟩
    have u0 : IntKind.i64.wrap (x0 + 1) = x1 := by rw [wrap_i64 (by omega) (by omega)]; omega
    have u1 : IntKind.i64.wrap (x1 + 1) = x2 := by rw [wrap_i64 (by omega) (by omega)]; omega
    have u3 : IntKind.i64.wrap (x3 + 1) = x4 := by rw [wrap_i64 (by omega) (by omega)]; omega
    have u5 : IntKind.i64.wrap (x5 + 1) = x6 := by rw [wrap_i64 (by omega) (by omega)]; omega
    have u6 : IntKind.i64.wrap (x6 + 1) = x7 := by rw [wrap_i64 (by omega) (by omega)]; omega
    have u9 : IntKind.i64.wrap (x9 + 1) = x10 := by rw [wrap_i64 (by omega) (by omega)]; omega
    have u10 : IntKind.i64.wrap (x10 + 1) = x11 := by rw [wrap_i64 (by omega) (by omega)]; omega
    have u11 : IntKind.i64.wrap (x11 + 1) = x12 := by rw [wrap_i64 (by omega) (by omega)]; omega
    have u12 : IntKind.i64.wrap (x12 + 1) = x13 := by rw [wrap_i64 (by omega) (by omega)]; omega
    have hfin : n + sizeTo rs (i + 1) = x13 := by omega
    have f0 : cs[i].id = x0 := by rw [hr.id, hh.id]
    have f1 : cs[i].at_ = x1 := by rw [hr.at_, hh.at_]; omega
    have e2 := c_heldValS hr.slots (n := x2) (by omega) (by unfold markMost; omega) (by have := hh.slots; rwa [show x0 + 2 = x2 by omega] at this)
    rw [← hx3] at e2
    have m2 : ¬ x3 < 0 := by omega
    have f3 : cs[i].full = x3 := by rw [hr.full, hh.full]; omega
    have e4 := c_heldValS hr.mail (n := x4) (by omega) (by unfold markMost; omega) (by have := hh.mail; rwa [show x0 + 3 + 2 * (rs[i].slots.length : Int) = x4 by omega] at this)
    rw [← hx5] at e4
    have m4 : ¬ x5 < 0 := by omega
    have f5 : cs[i].state = x5 := by rw [hr.state, hh.state]; omega
    have f6 : cs[i].due = x6 := by rw [hr.due, hh.due]; omega
    have e7 := c_heldIntS hr.links (n := x7) (by omega) (by unfold markMost; omega) (by have := hh.links; rwa [show x0 + 5 + 2 * (rs[i].slots.length : Int) + 2 * (rs[i].mail.length : Int) = x7 by omega] at this)
    rw [← hx8] at e7
    have m7 : ¬ x8 < 0 := by omega
    have e8 := c_heldIntS hr.watched (n := x8) (by omega) (by unfold markMost; omega) (by have := hh.watched; rwa [show x0 + 5 + 2 * (rs[i].slots.length : Int) + 2 * (rs[i].mail.length : Int) + (rs[i].links.length : Int) = x8 by omega] at this)
    rw [← hx9] at e8
    have m8 : ¬ x9 < 0 := by omega
    have f9 : cs[i].trap = decide (x9.tmod 3 = 0) := by rw [hr.trap, hh.trap, show x9 = x0 + 5 + 2 * (rs[i].slots.length : Int) + 2 * (rs[i].mail.length : Int) + (rs[i].links.length : Int) + (rs[i].watched.length : Int) by omega]
    have f10 : cs[i].why.k = x10 := by rw [hr.why, hh.why]; show _ = x10; simp only; omega
    have f11 : cs[i].why.n = x11 := by rw [hr.why, hh.why]; show _ = x11; simp only; omega
    have f12 : cs[i].turns = x12 := by rw [hr.turns, hh.turns]; omega
    rw [Wp_body]
    rw [← hx0, hfin]
    simp [hS.lenA, hlen, hi, hi', ixA_nat hS, hS.at, e2, e4, e7, e8, m2, m4, m7, m8, u0, u1, u3, u5, u6, u9, u10, u11, u12, f0, f1, f3, f5, f6, f9, f10, f11, f12, wrap_succ (hS.lt hi')]
  · intro _
    rw [Wp_body]
    simp [hS.lenA, hlen]
end Go.Proofs.YtkcfminmojolhaaGreat

/-
  THE LAWS' markWorld, heldWorld: what they answer.
-/
set_option maxRecDepth 8000
namespace Go.Proofs.YtkcfminmojolhaaGreat
open Go.AM
variable {h h' : H} {lo : Nat} {w : PWorld} {c : WorldC} {st cs : List RunC} {rs : List PRun} {s : Cell}
/-- The lists of a world are of a length. -/
structure Bd (w : PWorld) : Prop where
  code : w.code.length ≤ 2097152
  runs : w.runs.length ≤ 2097152
  queue : w.queue.length ≤ 2097152
  each : ∀ r ∈ w.runs, RunBd r
def sizeW (w : PWorld) : Int := 6 * w.code.length + sizeTo w.runs w.runs.length + w.queue.length
structure HeldW (n : Int) (w : PWorld) : Prop where
  code : HeldO n w.code
  runs : HeldRs (n + 6 * w.code.length) w.runs
  queue : HeldI (n + 6 * w.code.length + sizeTo w.runs w.runs.length) w.queue
def MarkWQ (lo : Nat) (h : H) (w : PWorld) (c : WorldC) (cs : List RunC) (x : V × H) : Prop :=
  ∃ k w' cs', x = (.c (.int .i64 (1 + sizeW w)), k) ∧ WorldV lo k w' c cs' cs' ∧ StepV h (part c cs) k (part c cs') ∧ HeldW 1 w' ∧ sizeW w' = sizeW w ∧ Bd w'
theorem sizeW_range {w : PWorld} (hb : Bd w) : 0 ≤ sizeW w ∧ sizeW w ≤ 35184400000000 := by
  have := sizeTo_range hb.each w.runs.length (Nat.le_refl _)
  have h1 := hb.code
  have h2 := hb.runs
  have h3 := hb.queue
  unfold sizeW; omega
/-- The code's cells are otherwise. -/
theorem WorldV.reCode (hV : WorldV lo h w c st cs) {ys : List POp} (S : Sl h' c.code 6 encO ys) (W : Wr h' c.code) (C : Chg h (fun id => id ∈ c.code.ids) h') :
    WorldV lo h' { w with code := ys } c st cs ∧ StepV h (part c cs) h' (part c cs) := by
  have o := hV.own.upd (p' := part c cs) hV.lo_le .code (fun _ _ => rfl) C W (hV.own.un .code) fun id hid => .inl hid
  have ne : ∀ {k : Key}, k ≠ .code → ∀ id ∈ (part c cs k).ids, h'.get id = h.get id := fun hk id hid => C.keep id (hV.own.lt id hid) fun hh => hk (hV.own.one _ _ _ hid hh)
  refine ⟨⟨S, hV.runs.same (ne (k := .runs) (by simp)), hV.stl, hV.len, fun q hq => ?_, hV.queue.same (ne (k := .queue) (by simp)), hV.now, hV.sent, hV.taken, hV.lost, o, Nat.le_trans hV.lo_le C.len⟩, StepV.one .code (fun _ _ => rfl) C fun id hid => .inl hid⟩
  have hq' : q < cs.length := by rw [hV.len]; exact hq
  exact (hV.each q hq).same4 (fun id hid => ne (k := .slots q) (by simp) id (by simpa [part, fld_at hq'] using hid)) (fun id hid => ne (k := .mail q) (by simp) id (by simpa [part, fld_at hq'] using hid)) (fun id hid => ne (k := .links q) (by simp) id (by simpa [part, fld_at hq'] using hid)) (fun id hid => ne (k := .watched q) (by simp) id (by simpa [part, fld_at hq'] using hid))
theorem c_markWorld (hV : WorldV lo h w c cs cs) (hb : Bd w) : @Wp _ (Dz.den 22 [.g (encW c), .c (.int .i64 1)] h) ⟨MarkWQ lo h w c cs⟩ := by
  refine den_wp rfl Tryz.func22 rfl ?_
  have h1 := hb.code
  have h2 := hb.runs
  have h3 := hb.queue
  have hz := sizeTo_range hb.each w.runs.length (Nat.le_refl _)
  obtain ⟨_, e1, k1, os, rfl, S1, W1, L1, C1, H1⟩ := c_markOpS hV.code (hV.own.wr .code) (n := 1) (by omega) (by unfold markMost; omega)
  obtain ⟨v1, g1⟩ := hV.reCode S1 W1 C1
  obtain ⟨_, e2, k2, rs, cs2, rfl, v2, g2, al, H2⟩ := c_markRunS v1 hb.each hb.runs (n := 1 + 6 * w.code.length) (by omega) (by omega)
  obtain ⟨_, e3, k3, qs, rfl, S3, W3, L3, C3, H3⟩ := c_markIntS v2.queue (v2.own.wr .queue) (n := 1 + 6 * w.code.length + sizeTo w.runs w.runs.length) (by omega) (by unfold markMost; show _ + (w.queue.length : Int) ≤ _; omega)
  obtain ⟨v3, g3⟩ := v2.newQueue (s' := c.queue) C3 S3 W3 (v2.own.un .queue) (fun id hid => .inl hid)
  simp only at e2 e3
  simp [Tryz.f22, e1, e2, e3]
  have hl : rs.length = w.runs.length := al.1
  have hz1 := al.size w.runs.length (by omega)
  refine ⟨k3, _, cs2, ?_, v3, g1.trans (g2.trans g3), ⟨H1, ?_, ?_⟩, ?_, ⟨?_, ?_, ?_, al.bd hb.each⟩⟩
  · unfold sizeW; simp only [Prod.mk.injEq, V.c.injEq, Cell.int.injEq, true_and, and_true]; omega
  · show HeldRs (1 + 6 * (os.length : Int)) rs
    rw [L1]; exact H2
  · show HeldI (1 + 6 * (os.length : Int) + sizeTo rs rs.length) qs
    rw [L1, hl, hz1]; exact H3
  · show 6 * (os.length : Int) + sizeTo rs rs.length + (qs.length : Int) = _
    rw [L1, hl, hz1, L3]; rfl
  · show os.length ≤ _; omega
  · show rs.length ≤ _; omega
  · show qs.length ≤ _; rw [L3]; exact h3
theorem c_heldWorld (hw : WorldR h w c cs) (hb : Bd w) (hH : HeldW 1 w) : Dz.den 23 [.g (encW c), .c (.int .i64 1)] h = some (.c (.int .i64 (1 + sizeW w)), h) := by
  refine den_plain rfl Tryz.func23 rfl rfl ?_
  have h1 := hb.code
  have h2 := hb.runs
  have h3 := hb.queue
  have hz := sizeTo_range hb.each w.runs.length (Nat.le_refl _)
  have e1 := c_heldOpS hw.code (n := 1) (by omega) (by unfold markMost; omega) hH.code
  have e2 := c_heldRunS hw.runs hb.each hb.runs (n := 1 + 6 * w.code.length) (by omega) (by omega) hH.runs
  have e3 := c_heldIntS hw.queue (n := 1 + 6 * w.code.length + sizeTo w.runs w.runs.length) (by omega) (by unfold markMost; omega) hH.queue
  have m1 : ¬ (1 + 6 * (w.code.length : Int) < 0) := by omega
  have m2 : ¬ (1 + 6 * (w.code.length : Int) + sizeTo w.runs w.runs.length < 0) := by omega
  have m3 : ¬ (1 + 6 * (w.code.length : Int) + sizeTo w.runs w.runs.length + w.queue.length < 0) := by omega
  simp [Tryz.f23, e1, e2, e3, m1, m2, m3]
  unfold sizeW; omega
end Go.Proofs.YtkcfminmojolhaaGreat

/-
  COPIES, BY THE PROGRAM: what they answer.
-/
set_option maxRecDepth 8000
namespace Go.Proofs.YtkcfminmojolhaaGreat
open Go.AM
variable {h h' : H} {lo : Nat} {w : PWorld} {c : WorldC} {st cs : List RunC}
theorem Fresh.of_nils {α : Type} {enc : α → List Cell} {ys : List α} {es : Nat} (hT : Sl h .nils es enc ys) : Fresh h es enc ys .nils h := by
  have : ys = [] := hT.2
  subst this; exact Fresh.nils _ _ _
theorem c_CloneI {t : Cell} {ys : List Int} (hT : Sl h t 1 encI ys) (hu : Un t) (hl : ys.length ≤ lenMost) : ∃ s' h', Dz.den 121 [.c t] h = some (.c s', h') ∧ Fresh h 1 encI ys s' h' := by
  have eq := hT.eqNil hu (T := TTz) (t := 24) ⟨_, rfl⟩
  by_cases ht : t = .nils
  · subst ht
    refine ⟨.nils, h, ?_, Fresh.of_nils hT⟩
    rw [← Wp_eq]
    refine den_wp rfl Tryz.func121 rfl ?_
    simp [Tryz.f121, eq]
  · obtain ⟨s', h', e, f⟩ := hT.cloneF hu hl
    refine ⟨s', h', ?_, f⟩
    rw [← Wp_eq]
    refine den_wp rfl Tryz.func121 rfl ?_
    simp [Tryz.f121, eq, ht, e]
theorem c_CloneO {t : Cell} {ys : List POp} (hT : Sl h t 6 encO ys) (hu : Un t) (hl : ys.length ≤ lenMost) : ∃ s' h', Dz.den 120 [.c t] h = some (.c s', h') ∧ Fresh h 6 encO ys s' h' := by
  have eq := hT.eqNil hu (T := TTz) (t := 29) ⟨_, rfl⟩
  by_cases ht : t = .nils
  · subst ht
    refine ⟨.nils, h, ?_, Fresh.of_nils hT⟩
    rw [← Wp_eq]
    refine den_wp rfl Tryz.func120 rfl ?_
    simp [Tryz.f120, eq]
  · obtain ⟨s', h', e, f⟩ := hT.cloneF hu hl
    refine ⟨s', h', ?_, f⟩
    rw [← Wp_eq]
    refine den_wp rfl Tryz.func120 rfl ?_
    simp [Tryz.f120, eq, ht, e]
theorem c_CloneV {t : Cell} {ys : List PVal} (hT : Sl h t 2 encV ys) (hu : Un t) (hl : ys.length ≤ lenMost) : ∃ s' h', Dz.den 169 [.c t] h = some (.c s', h') ∧ Fresh h 2 encV ys s' h' := by
  have eq := hT.eqNil hu (T := TTz) (t := 65) ⟨_, rfl⟩
  by_cases ht : t = .nils
  · subst ht
    refine ⟨.nils, h, ?_, Fresh.of_nils hT⟩
    rw [← Wp_eq]
    refine den_wp rfl Tryz.func169 rfl ?_
    simp [Tryz.f169, eq]
  · obtain ⟨s', h', e, f⟩ := hT.cloneF hu hl
    refine ⟨s', h', ?_, f⟩
    rw [← Wp_eq]
    refine den_wp rfl Tryz.func169 rfl ?_
    simp [Tryz.f169, eq, ht, e]
end Go.Proofs.YtkcfminmojolhaaGreat

/-
  COPIES OF RUNS AND WORLDS, BY THE PROGRAM: what they answer.
-/
set_option maxRecDepth 8000
namespace Go.Proofs.YtkcfminmojolhaaGreat
open Go.AM
variable {h h' : H} {lo : Nat} {w : PWorld} {c : WorldC} {st cs : List RunC}
set_option maxRecDepth 8000 in
theorem c_ICopied {r : PRun} {cr : RunC} (hr : RunR h r cr) (hu : ∀ f, Un (rpart cr f)) (hl : RunLe r) : @Wp _ (Dz.den 119 [.g (encR cr)] h) ⟨CopyQ h r⟩ := by
  refine den_wp rfl Tryz.func119 rfl ?_
  obtain ⟨s1, h1, e1, f1⟩ := c_CloneV hr.slots (hu 0) hl.1
  obtain ⟨s2, h2, e2, f2⟩ := c_CloneV (hr.mail.ext f1.ext) (hu 1) hl.2.1
  have x2 := f1.ext.trans f2.ext
  obtain ⟨s3, h3, e3, f3⟩ := c_CloneI (hr.links.ext x2) (hu 2) hl.2.2.1
  have x3 := x2.trans f3.ext
  obtain ⟨s4, h4, e4, f4⟩ := c_CloneI (hr.watched.ext x3) (hu 3) hl.2.2.2
  obtain ⟨x, q, n⟩ := run_of_fresh hr f1 f2 f3 f4
  simp [Tryz.f119, e1, e2, e3, e4]
  exact ⟨by kernel_rfl, by kernel_rfl, h4, _, rfl, x, q, n⟩
set_option maxRecDepth 8000 in
set_option maxHeartbeats 1000000 in
theorem c_IWCopied (hV : WorldV lo h w c cs cs) (hl : WorldLe w) : @Wp _ (Dz.den 70 [.g (encW c)] h) ⟨CopyWQ h w⟩ := by
  refine den_wp rfl Tryz.func70 rfl ?_
  have hlen := hV.len
  have hS := hV.runs
  simp [Tryz.f70, hS.lenA, hlen]
  refine count_wpG (σ := H × Cell × List RunC) w.runs.length (fun i g => ([.c g.2.1, .c c.runs, .c (ci w.runs.length), .c (ci i)], [encW c, zeroW], [], g.1))
    (fun i g => WorldV h.length g.1 (onlyR w (w.runs.take i)) ⟨.nils, g.2.1, .nils, w.now, w.sent, w.taken, w.lost⟩ g.2.2 g.2.2 ∧ Ext h g.1)
    (h, .nils, []) ?_ ⟨WorldV.start _ (Fresh.nils _ _ _), Ext.refl _⟩ ?_ ?_
  · rfl
  · rintro i ⟨k, s, csl⟩ hi ⟨v, x⟩
    simp only at v x ⊢
    have hi' : i < cs.length := by omega
    have hS' := hS.ext x
    obtain ⟨_, e, k1, c1, rfl, x1, q1, n1⟩ := c_ICopied ((hV.each i hi).ext x) (hV.run_un hi') (hl.each _ (List.getElem_mem hi))
    have v1 := v.ext x1
    obtain ⟨s', k2, e2, v2, g2, d2⟩ := v1.addRun q1 ⟨fun f id hid => by have := n1.ge f id hid; have := x.1; omega, n1.wr, n1.one, n1.un⟩ (fun f id hid ⟨kk, ho⟩ => by have := n1.ge f id hid; have := v.own.lt id ho; omega) (by have := hl.runs; rw [onlyR_len, List.length_take]; omega)
    simp only [encR] at e e2
    rw [Wp_body]
    simp [hS'.lenA, hi, hi', ixA_nat hS', hS'.at, e, e2, wrap_succ (hS.lt hi')]
    refine ⟨k2, s', ⟨rfl, rfl⟩, ⟨csl ++ [c1], ?_⟩, ?_⟩
    · rw [List.take_succ_eq_append_getElem hi]; exact v2
    · have y := x.trans x1
      exact ⟨Nat.le_trans y.1 g2.len, fun id hid => by rw [g2.keep id (Nat.lt_of_lt_of_le hid y.1) (fun ⟨kk, ho⟩ => by have := v1.own.ge kk id ho; omega), y.2 id hid]⟩
  · rintro ⟨k, s, csl⟩ ⟨v, x⟩
    simp only at v x ⊢
    rw [List.take_length] at v
    have hS' := hS.ext x
    obtain ⟨s1, k1, e1, f1⟩ := c_CloneO (hV.code.ext x) (hV.own.un .code) hl.code
    obtain ⟨v1, g1⟩ := v.newCode f1
    have y1 := x.trans f1.ext
    obtain ⟨s2, k2, e2, f2⟩ := c_CloneI (hV.queue.ext y1) (hV.own.un .queue) hl.queue
    obtain ⟨v2, g2⟩ := v1.freshQueue f2
    rw [Wp_body]
    simp [hS'.lenA, hlen, e1, e2, zeroW]
    rw [hV.now, hV.sent, hV.taken, hV.lost]
    exact ⟨by kernel_rfl, k2, ⟨s1, s, s2, w.now, w.sent, w.taken, w.lost⟩, csl, rfl, y1.trans f2.ext, v2⟩
end Go.Proofs.YtkcfminmojolhaaGreat

/-
  WORLDS BEHIND POINTERS; a run that goes on.
-/
set_option maxRecDepth 8000
namespace Go.Proofs.YtkcfminmojolhaaGreat
open Go.AM
variable {h h' : H} {lo p : Nat} {w : PWorld} {c : WorldC} {st cs : List RunC}
@[simp] theorem encW_length (c : WorldC) : (encW c).length = 7 := id rfl
theorem at_blk {ro : Bool} {es : Nat} {xs : List Cell} (hg : h.get p = some ⟨ro, es, [xs]⟩) {j m : Nat} (hk : j + m ≤ xs.length) : h.cellsAt p 0 j m = some ((xs.drop j).take m) := by
  simp [H.cellsAt, hg, hk]
/-- A world in a block of its own. -/
structure WorldP (lo : Nat) (h : H) (p : Nat) (w : PWorld) (c : WorldC) (cs : List RunC) : Prop where
  v : WorldV lo h w c cs cs
  at_ : h.get p = some ⟨false, 7, [encW c]⟩
  out : ¬ Owned (part c cs) p
  ge : lo ≤ p
theorem StepV.away {q q' : Key → Cell} (s : StepV h q h' q') (hp : p < h.length) (ho : ¬ Owned q p) : h'.get p = h.get p ∧ ¬ Owned q' p := by
  refine ⟨s.chg.keep p hp ho, fun hh => ?_⟩
  rcases s.sub p hh with h1 | h1
  · exact ho h1
  · omega
theorem wr_blk {es : Nat} {ys zs : List Cell} (hg : h.get p = some ⟨false, es, [ys]⟩) {j : Nat} {xs : List Cell} (hx : zs = splice ys j xs) (hj : j + xs.length ≤ ys.length) :
    ∃ h', h.write p 0 j xs = some h' ∧ h'.get p = some ⟨false, es, [zs]⟩ ∧ Chg h (fun id => id = p) h' ∧ h'.length = h.length := by
  have hl := H.get_lt hg
  refine ⟨List.set h p (some ⟨false, es, [zs]⟩), ?_, get_set_self hl, ⟨by simp, fun id _ hn => get_set_ne hn⟩, by simp⟩
  simp [H.write, hg, hj, hx]
/-- What a function that changes a world behind a pointer may change. -/
structure StepP (h : H) (p : Nat) (q : Key → Cell) (h' : H) (q' : Key → Cell) : Prop where
  chg : Chg h (fun id => Owned q id ∨ id = p) h'
  sub : ∀ id, Owned q' id → Owned q id ∨ h.length ≤ id
theorem StepP.refl (h : H) (p : Nat) (q : Key → Cell) : StepP h p q h q := ⟨Chg.refl _ _, fun _ h => .inl h⟩
theorem StepV.toP {q q' : Key → Cell} (s : StepV h q h' q') : StepP h p q h' q' := ⟨s.chg.mono fun _ _ h => .inl h, s.sub⟩
theorem StepP.trans {h1 h2 h3 : H} {q1 q2 q3 : Key → Cell} (a : StepP h1 p q1 h2 q2) (b : StepP h2 p q2 h3 q3) : StepP h1 p q1 h3 q3 := by
  refine ⟨a.chg.trans b.chg fun id hid ho => ?_, fun id ho => ?_⟩
  · rcases ho with ho | ho
    · rcases a.sub id ho with h | h
      · exact .inl h
      · omega
    · exact .inr ho
  · rcases b.sub id ho with h | h
    · exact a.sub id h
    · right; have := a.chg.len; omega
theorem StepP.of_chg {q : Key → Cell} (x : Chg h (fun id => id = p) h') : StepP h p q h' q := ⟨x.mono fun _ _ h => .inr h, fun _ h => .inl h⟩
theorem StepP.ext {q q' : Key → Cell} (a : StepP h p q h' q') {lo : Nat} (o : ∀ id, Owned q id → lo ≤ id) (hp : lo ≤ p) {h0 : H} (x : Ext h0 h) (hl : h0.length ≤ lo) : Ext h0 h' := by
  refine ⟨Nat.le_trans x.1 a.chg.len, fun id hid => ?_⟩
  rw [a.chg.keep id (Nat.lt_of_lt_of_le hid x.1) (fun h => ?_), x.2 id hid]
  rcases h with h | h
  · have := o id h; omega
  · omega
theorem WorldP.lt (hP : WorldP lo h p w c cs) : p < h.length := H.get_lt hP.at_
/-- The world's own cells are written: so it lies there. -/
theorem WorldV.home {c0 : WorldC} (hV : WorldV lo h w c cs cs) (hg : h.get p = some ⟨false, 7, [encW c0]⟩) (ho : ¬ Owned (part c cs) p) (hp : lo ≤ p) {j : Nat} {xs : List Cell} (hx : encW c = splice (encW c0) j xs) (hj : j + xs.length ≤ 7) :
    ∃ h', h.write p 0 j xs = some h' ∧ WorldP lo h' p w c cs ∧ Chg h (fun id => id = p) h' := by
  obtain ⟨h', e, g, ch, _⟩ := wr_blk hg hx (by simpa using hj)
  exact ⟨h', e, ⟨hV.chg ch fun id h1 h2 => ho (by rw [← h2]; exact h1), g, ho, hp⟩, ch⟩
/-- What is not the world's own cells is changed. -/
theorem WorldP.move {w' : PWorld} {cs' : List RunC} (hP : WorldP lo h p w c cs) (v : WorldV lo h' w' c cs' cs') (s : StepV h (part c cs) h' (part c cs')) : WorldP lo h' p w' c cs' := by
  obtain ⟨a, b⟩ := s.away hP.lt hP.out
  exact ⟨v, by rw [a]; exact hP.at_, b, hP.ge⟩
/-- A run goes on. -/
def wakeP (w : PWorld) (i : Nat) : PWorld :=
  match w.runs[i]? with
  | some r => { w with runs := w.runs.set i { r with state := 1 }, queue := w.queue ++ [r.id] }
  | none => w
def WakeQ (lo : Nat) (h : H) (p : Nat) (w : PWorld) (c : WorldC) (cs : List RunC) (i : Nat) (x : V × H) : Prop :=
  ∃ k q, x = (.t [], k) ∧ WorldP lo k p (wakeP w i) { c with queue := q } (cs.set i { (cs[i]?.getD default) with state := 1 }) ∧ StepP h p (part c cs) k (part { c with queue := q } (cs.set i { (cs[i]?.getD default) with state := 1 }))
theorem c_wake (hP : WorldP lo h p w c cs) {i : Nat} (hi : i < w.runs.length) (hl : w.queue.length + 1 ≤ lenMost) :
    @Wp _ (Dz.den 71 [.c (.ptr p 0 0), .c (.ptr (sid c.runs) (soff c.runs + i) 0)] h) ⟨WakeQ lo h p w c cs i⟩ := by
  refine den_wp rfl Tryz.func71 rfl ?_
  have hlen := hP.v.len
  have hi' : i < cs.length := by omega
  have hr := hP.v.each i hi
  obtain ⟨k1, e1, v1, s1⟩ := hP.v.put hi (j := 5) (xs := [.int .i64 1]) (r := { w.runs[i] with state := 1 }) (r' := { cs[i] with state := 1 }) (by simp [splice]) (by simp) (fun _ q => ⟨q.id, q.at_, q.slots, q.full, q.mail, rfl, q.due, q.links, q.watched, q.trap, q.why, q.turns⟩) rfl rfl rfl rfl
  have P1 := hP.move v1 s1
  obtain ⟨q3, k3, e3, v3, s3⟩ := v1.queueApp (ys := [w.runs[i].id]) (by simp only [List.length_singleton]; exact hl)
  obtain ⟨a3, b3⟩ := s3.away P1.lt P1.out
  rw [P1.at_] at a3
  obtain ⟨k4, e4, P4, ch4⟩ := v3.home a3 b3 hP.ge (j := 2) (xs := [q3]) (by simp [splice]) (by simp)
  have hS1 := v1.runs
  have hgp := P1.at_
  simp only [List.map_cons, List.map_nil, encI, List.length_cons, List.length_nil] at e3
  have ap : ∀ b j m, j + m ≤ 7 → (k1.push b).cellsAt p 0 j m = some (((encW c).drop j).take m) := fun b j m hk => at_blk (get_push_some hgp) (by simpa using hk)
  simp [Tryz.f71, e1, at_blk hgp, ap, hS1.at, hi', hr.id, e3, e4]
  refine ⟨by kernel_rfl, rfl, k4, q3, rfl, ?_, ?_⟩
  · rw [List.getElem?_eq_getElem hi', Option.getD_some]
    unfold wakeP
    rw [List.getElem?_eq_getElem hi]
    exact P4
  · rw [List.getElem?_eq_getElem hi', Option.getD_some]
    exact (s1.trans s3).toP.trans (StepP.of_chg ch4)
end Go.Proofs.YtkcfminmojolhaaGreat
