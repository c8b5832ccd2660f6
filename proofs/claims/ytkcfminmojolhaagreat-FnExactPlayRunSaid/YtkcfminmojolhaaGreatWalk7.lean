/-
  What functions of the seat answer, each proved once; each under the condition that cells bear what it is given, as its statement says.
-/
import Derived.Test.YtkcfminmojolhaaGreatWalk6
set_option linter.all false
/-
  COPIES OF RUNS AND WORLDS, BY THE REFERENCE: what they answer.
-/
set_option maxRecDepth 8000
namespace Go.Proofs.YtkcfminmojolhaaGreat
open Go.AM
variable {h h' : H} {lo : Nat} {w : PWorld} {c : WorldC} {st cs : List RunC}
def rpart (c : RunC) : Fin 4 → Cell
  | 0 => c.slots | 1 => c.mail | 2 => c.links | 3 => c.watched
/-- A run that owns its lists. -/
structure RunN (lo : Nat) (h : H) (c : RunC) : Prop where
  ge : ∀ f, ∀ id ∈ (rpart c f).ids, lo ≤ id
  wr : ∀ f, Wr h (rpart c f)
  one : ∀ f g id, id ∈ (rpart c f).ids → id ∈ (rpart c g).ids → f = g
  un : ∀ f, Un (rpart c f)
def keyOf : Key → Option (Nat × Fin 4)
  | .slots i => some (i, 0) | .mail i => some (i, 1) | .links i => some (i, 2) | .watched i => some (i, 3) | _ => none
theorem part_old {k : Key} (h : ∀ f, keyOf k ≠ some (cs.length, f)) {s' : Cell} {cr : RunC} (hr : k ≠ .runs) : part { c with runs := s' } (cs ++ [cr]) k = part c cs k := by
  have e : ∀ (f : RunC → Cell) (i : Nat), i ≠ cs.length → fld (cs ++ [cr]) i f = fld cs i f := fun f i hi => by
    unfold fld
    rcases Nat.lt_or_ge i cs.length with hlt | hge
    · rw [List.getElem?_append_left hlt]
    · rw [List.getElem?_append_right hge, List.getElem?_eq_none (l := cs) hge, List.getElem?_eq_none (by simp; omega)]
  cases k with
  | code => rfl
  | runs => exact absurd rfl hr
  | queue => rfl
  | slots i => exact e _ i fun hi => h 0 (by simp [keyOf, hi])
  | mail i => exact e _ i fun hi => h 1 (by simp [keyOf, hi])
  | links i => exact e _ i fun hi => h 2 (by simp [keyOf, hi])
  | watched i => exact e _ i fun hi => h 3 (by simp [keyOf, hi])
theorem part_new {k : Key} {f : Fin 4} (h : keyOf k = some (cs.length, f)) {s' : Cell} {cr : RunC} : part { c with runs := s' } (cs ++ [cr]) k = rpart cr f ∧ part c cs k = .nils := by
  cases k <;> simp [keyOf] at h <;> obtain ⟨rfl, rfl⟩ := h <;> simp [part, fld, rpart]
/-- One more run. -/
theorem WorldV.addRun (hV : WorldV lo h w c st cs) {r : PRun} {cr : RunC} (hr : RunR h r cr) (hn : RunN lo h cr) (hd : ∀ f, ∀ id ∈ (rpart cr f).ids, ¬ Owned (part c cs) id) (hl : w.runs.length + 1 ≤ lenMost) :
    ∃ s' h', appendA 13 (h.push ⟨false, 13, [encR cr]⟩) (.c c.runs) (.c (.sl h.length 0 1 none)) = some (.c s', h') ∧ WorldV lo h' { w with runs := w.runs ++ [r] } { c with runs := s' } (st ++ [cr]) (cs ++ [cr]) ∧ Chg h (Owned (part c cs)) h' ∧
      (∀ id, Owned (part { c with runs := s' } (cs ++ [cr])) id → Owned (part c cs) id ∨ (∃ f, id ∈ (rpart cr f).ids) ∨ h.length ≤ id) := by
  obtain ⟨s', h', e, g⟩ := hV.runs.append_new (hV.own.wr .runs) (hV.own.un .runs) (ys := [cr]) (by simp) (by rw [hV.stl]; exact hl)
  have nlt : ∀ f, ∀ id ∈ (rpart cr f).ids, id < h.length := fun f => (hn.wr f).lt
  have cls : ∀ k, k = .runs ∨ (∃ f, keyOf k = some (cs.length, f)) ∨ (k ≠ .runs ∧ ∀ f, keyOf k ≠ some (cs.length, f)) := fun k => by
    by_cases h1 : k = .runs
    · exact .inl h1
    · by_cases h2 : ∃ f, keyOf k = some (cs.length, f)
      · exact .inr (.inl h2)
      · exact .inr (.inr ⟨h1, fun f hf => h2 ⟨f, hf⟩⟩)
  have pr : part { c with runs := s' } (cs ++ [cr]) .runs = s' := rfl
  have keep : ∀ {k : Key}, k ≠ .runs → ∀ id ∈ (part c cs k).ids, h'.get id = h.get id := fun hk id hid => g.chg.keep id (hV.own.lt id hid) fun hh => hk (hV.own.one _ _ _ hid hh)
  have keepN : ∀ f, ∀ id ∈ (rpart cr f).ids, h'.get id = h.get id := fun f id hid => g.chg.keep id (nlt f id hid) fun hh => hd f id hid ⟨.runs, hh⟩
  have sid' : ∀ id ∈ s'.ids, id ∈ c.runs.ids ∨ h.length ≤ id := g.ids
  have own : OwnK lo h' (part { c with runs := s' } (cs ++ [cr])) := by
    refine ⟨fun k id hid => ?_, fun k => ?_, fun k1 k2 id h1 h2 => ?_, fun k => ?_⟩
    · rcases cls k with rfl | ⟨f, hf⟩ | ⟨hk, hf⟩
      · rcases sid' id hid with hh | hh
        · exact hV.own.ge .runs id hh
        · have := hV.lo_le; omega
      · rw [(part_new hf).1] at hid; exact hn.ge f id hid
      · rw [part_old hf hk] at hid; exact hV.own.ge k id hid
    · rcases cls k with rfl | ⟨f, hf⟩ | ⟨hk, hf⟩
      · exact g.wr
      · rw [(part_new hf).1]; exact (hn.wr f).same (keepN f)
      · rw [part_old hf hk]; exact (hV.own.wr k).same (keep hk)
    · have a1 : ∀ id ∈ s'.ids, (∀ f, id ∉ (rpart cr f).ids) ∧ ∀ k, k ≠ .runs → id ∉ (part c cs k).ids := fun id hid => by
        refine ⟨fun f hf => ?_, fun k hk hh => ?_⟩
        · rcases sid' id hid with hh | hh
          · exact hd f id hf ⟨.runs, hh⟩
          · have := nlt f id hf; omega
        · rcases sid' id hid with h3 | h3
          · exact hk (hV.own.one _ _ _ hh h3)
          · have := hV.own.lt id hh; omega
      rcases cls k1 with rfl | ⟨f1, hf1⟩ | ⟨hk1, hf1⟩
      · rcases cls k2 with rfl | ⟨f2, hf2⟩ | ⟨hk2, hf2⟩
        · rfl
        · rw [(part_new hf2).1] at h2; exact absurd h2 ((a1 id h1).1 f2)
        · rw [part_old hf2 hk2] at h2; exact absurd h2 ((a1 id h1).2 k2 hk2)
      · rw [(part_new hf1).1] at h1
        rcases cls k2 with rfl | ⟨f2, hf2⟩ | ⟨hk2, hf2⟩
        · exact absurd h1 ((a1 id h2).1 f1)
        · rw [(part_new hf2).1] at h2
          have := hn.one _ _ _ h1 h2
          subst this
          rw [← hf2] at hf1
          revert hf1; cases k1 <;> cases k2 <;> simp [keyOf] at hf2 ⊢ <;> grind
        · rw [part_old hf2 hk2] at h2; exact absurd ⟨k2, h2⟩ (hd f1 id h1)
      · rw [part_old hf1 hk1] at h1
        rcases cls k2 with rfl | ⟨f2, hf2⟩ | ⟨hk2, hf2⟩
        · exact absurd h1 ((a1 id h2).2 k1 hk1)
        · rw [(part_new hf2).1] at h2; exact absurd ⟨k1, h1⟩ (hd f2 id h2)
        · rw [part_old hf2 hk2] at h2; exact hV.own.one _ _ _ h1 h2
    · rcases cls k with rfl | ⟨f, hf⟩ | ⟨hk, hf⟩
      · exact g.un
      · rw [(part_new hf).1]; exact hn.un f
      · rw [part_old hf hk]; exact hV.own.un k
  refine ⟨s', h', e, ⟨hV.code.same (keep (k := .code) (by simp)), g.sl, by simp [hV.stl], by simp [hV.len], fun q hq => ?_, hV.queue.same (keep (k := .queue) (by simp)), hV.now, hV.sent, hV.taken, hV.lost, own, Nat.le_trans hV.lo_le g.chg.len⟩, g.chg.mono fun id _ hid => ⟨.runs, hid⟩, fun id ⟨k, hid⟩ => ?_⟩
  · have hlen := hV.len
    simp only [List.length_append, List.length_singleton] at hq
    by_cases hqi : q < w.runs.length
    · have hq' : q < cs.length := by omega
      rw [List.getElem_append_left hqi, List.getElem_append_left hq']
      exact (hV.each q hqi).same4 (fun id hid => keep (k := .slots q) (by simp) id (by simpa [part, fld_at hq'] using hid)) (fun id hid => keep (k := .mail q) (by simp) id (by simpa [part, fld_at hq'] using hid)) (fun id hid => keep (k := .links q) (by simp) id (by simpa [part, fld_at hq'] using hid)) (fun id hid => keep (k := .watched q) (by simp) id (by simpa [part, fld_at hq'] using hid))
    · rw [List.getElem_append_right (by omega), List.getElem_append_right (by omega)]
      simp only [List.getElem_singleton]
      exact hr.same4 (keepN 0) (keepN 1) (keepN 2) (keepN 3)
  · rcases cls k with rfl | ⟨f, hf⟩ | ⟨hk, hf⟩
    · rcases sid' id hid with hh | hh
      · exact .inl ⟨.runs, hh⟩
      · exact .inr (.inr hh)
    · rw [(part_new hf).1] at hid; exact .inr (.inl ⟨f, hid⟩)
    · rw [part_old hf hk] at hid; exact .inl ⟨k, hid⟩
/-- New code. -/
theorem WorldV.newCode (hV : WorldV lo h w c st cs) {q : List POp} {s' : Cell} (hF : Fresh h 6 encO q s' h') :
    WorldV lo h' { w with code := q } { c with code := s' } st cs ∧ StepV h (part c cs) h' (part { c with code := s' } cs) := by
  have hp : ∀ k', k' ≠ Key.code → part { c with code := s' } cs k' = part c cs k' := fun k' hk => by cases k' <;> first | rfl | exact absurd rfl hk
  have hc : Chg h (fun id => id ∈ (part c cs .code).ids) h' := Chg.of_ext hF.ext _
  have o := hV.own.upd (p' := part { c with code := s' } cs) hV.lo_le .code hp hc hF.wr hF.un fun id hid => .inr (hF.ids id hid)
  have hV' := hV.ext hF.ext
  exact ⟨⟨hF.sl, hV'.runs, hV.stl, hV.len, hV'.each, hV'.queue, hV.now, hV.sent, hV.taken, hV.lost, o, hV'.lo_le⟩, StepV.one .code hp hc fun id hid => .inr (hF.ids id hid)⟩
theorem WorldV.freshQueue (hV : WorldV lo h w c st cs) {q : List Int} {s' : Cell} (hF : Fresh h 1 encI q s' h') :
    WorldV lo h' { w with queue := q } { c with queue := s' } st cs ∧ StepV h (part c cs) h' (part { c with queue := s' } cs) :=
  hV.newQueue (Chg.of_ext hF.ext _) hF.sl hF.wr hF.un fun id hid => .inr (hF.ids id hid)
/-- A copy of a run. -/
def CopyQ (h : H) (r : PRun) (x : V × H) : Prop := ∃ k c', x = (.g (encR c'), k) ∧ Ext h k ∧ RunR k r c' ∧ RunN h.length k c'
def RunLe (r : PRun) : Prop := r.slots.length ≤ lenMost ∧ r.mail.length ≤ lenMost ∧ r.links.length ≤ lenMost ∧ r.watched.length ≤ lenMost
theorem runN_of_fresh {h1 h2 h3 h4 : H} {a b : List PVal} {d e : List Int} {cr : RunC} {s1 s2 s3 s4 : Cell} (f1 : Fresh h 2 encV a s1 h1) (f2 : Fresh h1 2 encV b s2 h2) (f3 : Fresh h2 1 encI d s3 h3) (f4 : Fresh h3 1 encI e s4 h4) :
    RunN h.length h4 { cr with slots := s1, mail := s2, links := s3, watched := s4 } := by
  have x14 := f2.ext.trans (f3.ext.trans f4.ext)
  have x24 := f3.ext.trans f4.ext
  have l1 := f1.ext.1
  have l2 := f2.ext.1
  have l3 := f3.ext.1
  have w1 : Wr h4 s1 := f1.wr.same fun id hid => x14.2 id (f1.wr.lt id hid)
  have w2 : Wr h4 s2 := f2.wr.same fun id hid => x24.2 id (f2.wr.lt id hid)
  have w3 : Wr h4 s3 := f3.wr.same fun id hid => f4.ext.2 id (f3.wr.lt id hid)
  have k1 := f1.wr.lt
  have k2 := f2.wr.lt
  have k3 := f3.wr.lt
  have g1 := f1.ids
  have g2 := f2.ids
  have g3 := f3.ids
  have g4 := f4.ids
  refine ⟨fun f id hid => ?_, fun f => ?_, fun f g id hf hg => ?_, fun f => ?_⟩
  · match f, hid with
    | 0, hid => exact g1 id hid
    | 1, hid => have := g2 id hid; omega
    | 2, hid => have := g3 id hid; omega
    | 3, hid => have := g4 id hid; omega
  · match f with
    | 0 => exact w1
    | 1 => exact w2
    | 2 => exact w3
    | 3 => exact f4.wr
  · match f, g, hf, hg with
    | 0, 0, _, _ => rfl
    | 1, 1, _, _ => rfl
    | 2, 2, _, _ => rfl
    | 3, 3, _, _ => rfl
    | 0, 1, hf, hg => have := k1 id hf; have := g2 id hg; omega
    | 0, 2, hf, hg => have := k1 id hf; have := g3 id hg; omega
    | 0, 3, hf, hg => have := k1 id hf; have := g4 id hg; omega
    | 1, 2, hf, hg => have := k2 id hf; have := g3 id hg; omega
    | 1, 3, hf, hg => have := k2 id hf; have := g4 id hg; omega
    | 2, 3, hf, hg => have := k3 id hf; have := g4 id hg; omega
    | 1, 0, hf, hg => have := k1 id hg; have := g2 id hf; omega
    | 2, 0, hf, hg => have := k1 id hg; have := g3 id hf; omega
    | 3, 0, hf, hg => have := k1 id hg; have := g4 id hf; omega
    | 2, 1, hf, hg => have := k2 id hg; have := g3 id hf; omega
    | 3, 1, hf, hg => have := k2 id hg; have := g4 id hf; omega
    | 3, 2, hf, hg => have := k3 id hg; have := g4 id hf; omega
  · match f with
    | 0 => exact f1.un
    | 1 => exact f2.un
    | 2 => exact f3.un
    | 3 => exact f4.un
theorem run_new {h1 h2 h3 h4 : H} {r : PRun} {cr : RunC} {s1 s2 s3 s4 : Cell} (f1 : Fresh h 2 encV r.slots s1 h1) (f2 : Fresh h1 2 encV r.mail s2 h2) (f3 : Fresh h2 1 encI r.links s3 h3) (f4 : Fresh h3 1 encI r.watched s4 h4)
    (e1 : cr.id = r.id) (e2 : cr.at_ = r.at_) (e3 : cr.full = r.full) (e4 : cr.state = r.state) (e5 : cr.due = r.due) (e6 : cr.trap = r.trap) (e7 : cr.why = r.why) (e8 : cr.turns = r.turns) :
    Ext h h4 ∧ RunR h4 r { cr with slots := s1, mail := s2, links := s3, watched := s4 } ∧ RunN h.length h4 { cr with slots := s1, mail := s2, links := s3, watched := s4 } := by
  have x14 := f2.ext.trans (f3.ext.trans f4.ext)
  have x24 := f3.ext.trans f4.ext
  exact ⟨f1.ext.trans x14, ⟨e1, e2, f1.sl.ext x14, e3, f2.sl.ext x24, e4, e5, f3.sl.ext f4.ext, f4.sl, e6, e7, e8⟩, runN_of_fresh f1 f2 f3 f4⟩
theorem run_of_fresh {h1 h2 h3 h4 : H} {r : PRun} {cr : RunC} (hr : RunR h r cr) {s1 s2 s3 s4 : Cell} (f1 : Fresh h 2 encV r.slots s1 h1) (f2 : Fresh h1 2 encV r.mail s2 h2) (f3 : Fresh h2 1 encI r.links s3 h3) (f4 : Fresh h3 1 encI r.watched s4 h4) :
    Ext h h4 ∧ RunR h4 r { cr with slots := s1, mail := s2, links := s3, watched := s4 } ∧ RunN h.length h4 { cr with slots := s1, mail := s2, links := s3, watched := s4 } :=
  run_new f1 f2 f3 f4 hr.id hr.at_ hr.full hr.state hr.due hr.trap hr.why hr.turns
set_option maxRecDepth 8000 in
theorem c_l11Copy {r : PRun} {cr : RunC} (hr : RunR h r cr) (hu : ∀ f, Un (rpart cr f)) (hl : RunLe r) : @Wp _ (Dz.den 118 [.g (encR cr)] h) ⟨CopyQ h r⟩ := by
  refine den_wp rfl Tryz.func118 rfl ?_
  obtain ⟨s1, h1, e1, f1⟩ := hr.slots.cloneF (hu 0) hl.1
  obtain ⟨s2, h2, e2, f2⟩ := (hr.mail.ext f1.ext).cloneF (hu 1) hl.2.1
  have x2 := f1.ext.trans f2.ext
  obtain ⟨s3, h3, e3, f3⟩ := (hr.links.ext x2).cloneF (hu 2) hl.2.2.1
  have x3 := x2.trans f3.ext
  obtain ⟨s4, h4, e4, f4⟩ := (hr.watched.ext x3).cloneF (hu 3) hl.2.2.2
  obtain ⟨x, q, n⟩ := run_of_fresh hr f1 f2 f3 f4
  simp [Tryz.f118, e1, e2, e3, e4]
  exact ⟨h4, _, rfl, x, q, n⟩
end Go.Proofs.YtkcfminmojolhaaGreat

/-
  A COPY OF A WORLD, BY THE REFERENCE: what it answers.
-/
set_option maxRecDepth 8000
namespace Go.Proofs.YtkcfminmojolhaaGreat
open Go.AM
variable {h h' : H} {lo : Nat} {w : PWorld} {c : WorldC} {st cs : List RunC}
structure WorldLe (w : PWorld) : Prop where
  code : w.code.length ≤ lenMost
  runs : w.runs.length + 1 ≤ lenMost
  queue : w.queue.length ≤ lenMost
  each : ∀ r ∈ w.runs, RunLe r
def CopyWQ (h : H) (w : PWorld) (x : V × H) : Prop := ∃ k c' cs', x = (.g (encW c'), k) ∧ Ext h k ∧ WorldV h.length k w c' cs' cs'
theorem WorldV.run_un (hV : WorldV lo h w c st cs) {i : Nat} (hi : i < cs.length) : ∀ f, Un (rpart cs[i] f)
  | 0 => by have := hV.own.un (.slots i); simpa [part, fld_at hi, rpart] using this
  | 1 => by have := hV.own.un (.mail i); simpa [part, fld_at hi, rpart] using this
  | 2 => by have := hV.own.un (.links i); simpa [part, fld_at hi, rpart] using this
  | 3 => by have := hV.own.un (.watched i); simpa [part, fld_at hi, rpart] using this
/-- A world of runs alone. -/
def onlyR (w : PWorld) (rs : List PRun) : PWorld := { w with code := [], runs := rs, queue := [] }
theorem WorldV.start (s : Cell) (hs : Fresh h 13 encR [] s h') : WorldV h.length h' (onlyR w []) ⟨.nils, s, .nils, w.now, w.sent, w.taken, w.lost⟩ [] [] := by
  have e : ∀ (f : RunC → Cell) i, fld [] i f = .nils := fun f i => by simp [fld]
  refine ⟨⟨by simp [onlyR], rfl⟩, hs.sl, rfl, rfl, fun i hi => by simp [onlyR] at hi, ⟨by simp [onlyR], rfl⟩, rfl, rfl, rfl, rfl, ⟨fun k id hid => ?_, fun k => ?_, fun k1 k2 id h1 h2 => ?_, fun k => ?_⟩, hs.ext.1⟩
  · cases k <;> simp [part, e, Cell.ids] at hid
    exact hs.ids id hid
  · cases k <;> first | exact hs.wr | (simp only [part, e]; exact fun id hid => by simp [Cell.ids] at hid)
  · cases k1 <;> simp [part, e, Cell.ids] at h1
    cases k2 <;> simp [part, e, Cell.ids] at h2
    rfl
  · cases k <;> first | exact hs.un | (simp only [part, e]; exact Un.nils)
def zeroW : List Cell := [.nils, .nils, .nils, .int .i64 0, .int .i64 0, .int .i64 0, .int .i64 0]
theorem onlyR_len {rs : List PRun} : (onlyR w rs).runs = rs := id rfl
set_option maxRecDepth 8000 in
set_option maxHeartbeats 1000000 in
theorem c_l12Copy (hV : WorldV lo h w c cs cs) (hl : WorldLe w) : @Wp _ (Dz.den 68 [.g (encW c)] h) ⟨CopyWQ h w⟩ := by
  refine den_wp rfl Tryz.func68 rfl ?_
  have hlen := hV.len
  have hS := hV.runs
  simp [Tryz.f68]
  refine count_wpG (σ := H × Cell × List RunC) w.runs.length (fun i g => ([.c g.2.1, .c (ci i)], [encW c, zeroW], [], g.1))
    (fun i g => WorldV h.length g.1 (onlyR w (w.runs.take i)) ⟨.nils, g.2.1, .nils, w.now, w.sent, w.taken, w.lost⟩ g.2.2 g.2.2 ∧ Ext h g.1)
    (h.push ⟨false, 13, []⟩, .sl h.length 0 0 none, []) rfl ⟨?_, Ext.push _ _⟩ ?_ ?_
  · refine WorldV.start _ ⟨⟨by simp, rfl, by simp, _, get_push_self, rfl, by simp, rfl⟩, fun id hid => ?_, Un.new, Ext.push _ _, fun id hid => ?_⟩
    · simp [Cell.ids] at hid; subst hid; exact ⟨_, get_push_self, rfl⟩
    · simp [Cell.ids] at hid; omega
  · rintro i ⟨k, s, csl⟩ hi ⟨v, x⟩
    simp only at v x ⊢
    have hi' : i < cs.length := by omega
    have hS' := hS.ext x
    obtain ⟨_, e, k1, c1, rfl, x1, q1, n1⟩ := c_l11Copy ((hV.each i hi).ext x) (hV.run_un hi') (hl.each _ (List.getElem_mem hi))
    have v1 := v.ext x1
    obtain ⟨s', k2, e2, v2, g2, d2⟩ := v1.addRun q1 ⟨fun f id hid => by have := n1.ge f id hid; have := x.1; omega, n1.wr, n1.one, n1.un⟩ (fun f id hid ⟨kk, ho⟩ => by have := n1.ge f id hid; have := v.own.lt id ho; omega) (by have := hl.runs; rw [onlyR_len, List.length_take]; omega)
    have x2 : Ext k1 k2 ∨ True := .inr trivial
    simp only [encR] at e e2
    rw [Wp_body]
    simp [hS'.lenA, hi', ixA_nat hS', hS'.at, e, e2, wrap_succ (hS.lt hi')]
    refine ⟨k2, s', ⟨rfl, rfl⟩, ⟨csl ++ [c1], ?_⟩, ?_⟩
    · rw [List.take_succ_eq_append_getElem hi]; exact v2
    · have y := x.trans x1
      exact ⟨Nat.le_trans y.1 g2.len, fun id hid => by rw [g2.keep id (Nat.lt_of_lt_of_le hid y.1) (fun ⟨kk, ho⟩ => by have := v1.own.ge kk id ho; omega), y.2 id hid]⟩
  · rintro ⟨k, s, csl⟩ ⟨v, x⟩
    simp only at v x ⊢
    rw [List.take_length] at v
    have hS' := hS.ext x
    obtain ⟨s1, k1, e1, f1⟩ := (hV.code.ext x).cloneF (hV.own.un .code) hl.code
    obtain ⟨v1, g1⟩ := v.newCode f1
    have y1 := x.trans f1.ext
    obtain ⟨s2, k2, e2, f2⟩ := (hV.queue.ext y1).cloneF (hV.own.un .queue) hl.queue
    obtain ⟨v2, g2⟩ := v1.freshQueue f2
    rw [Wp_body]
    simp [hS'.lenA, hlen, e1, e2, zeroW]
    rw [hV.now, hV.sent, hV.taken, hV.lost]
    exact ⟨k2, ⟨s1, s, s2, w.now, w.sent, w.taken, w.lost⟩, csl, rfl, y1.trans f2.ext, v2⟩
end Go.Proofs.YtkcfminmojolhaaGreat

/-
  A TICK OF TIME, BY THE REFERENCE: what it answers.
-/
set_option maxRecDepth 8000
namespace Go.Proofs.YtkcfminmojolhaaGreat
open Go.AM
variable {h h' : H} {lo : Nat} {w : PWorld} {c : WorldC} {st cs : List RunC}
/-- Some cells of a run are written that are no lists. -/
theorem WorldV.put (hV : WorldV lo h w c cs cs) {i : Nat} (hi : i < w.runs.length) {j : Nat} {xs : List Cell} {r : PRun} {r' : RunC} (hx : encR r' = splice (encR (cs[i]'(by have := hV.len; omega))) j xs) (hj : j + xs.length ≤ 13)
    (hr : ∀ k, RunR k w.runs[i] (cs[i]'(by have := hV.len; omega)) → RunR k r r') (h1 : r'.slots = (cs[i]'(by have := hV.len; omega)).slots) (h2 : r'.mail = (cs[i]'(by have := hV.len; omega)).mail) (h3 : r'.links = (cs[i]'(by have := hV.len; omega)).links) (h4 : r'.watched = (cs[i]'(by have := hV.len; omega)).watched) :
    ∃ h', h.write (sid c.runs) (soff c.runs + i) j xs = some h' ∧ WorldV lo h' { w with runs := w.runs.set i r } c (cs.set i r') (cs.set i r') ∧ StepV h (part c cs) h' (part c (cs.set i r')) := by
  obtain ⟨h', e, v, s⟩ := hV.lay hi hx hj
  obtain ⟨v2, hp⟩ := v.flat hi (hr _ (v.each i hi)) h1 h2 h3 h4
  exact ⟨h', e, v2, by rw [hp]; exact s⟩
/-- One run at a tick. -/
def tickAt (w : PWorld) (i : Nat) : PWorld :=
  match w.runs[i]? with
  | some r => if r.state = 2 ∧ r.due = w.now then { w with runs := w.runs.set i { r with state := 1, due := -1 }, queue := w.queue ++ [(i : Int) + 1] } else w
  | none => w
def tickTo (w : PWorld) : Nat → PWorld
  | 0 => w
  | i + 1 => tickAt (tickTo w i) i
def tickP (w : PWorld) : PWorld := if 250 ≤ w.now then w else tickTo { w with now := w.now + 1 } w.runs.length
theorem tickAt_len (w : PWorld) (i : Nat) : (tickAt w i).runs.length = w.runs.length ∧ (tickAt w i).queue.length ≤ w.queue.length + 1 ∧ (tickAt w i).now = w.now := by
  unfold tickAt
  split
  · split <;> simp
  · simp
theorem tickTo_len (w : PWorld) : ∀ i, (tickTo w i).runs.length = w.runs.length ∧ (tickTo w i).queue.length ≤ w.queue.length + i ∧ (tickTo w i).now = w.now
  | 0 => ⟨rfl, by simp [tickTo], rfl⟩
  | i + 1 => by
    obtain ⟨a, b, d⟩ := tickTo_len w i
    obtain ⟨a2, b2, d2⟩ := tickAt_len (tickTo w i) i
    exact ⟨by rw [tickTo, a2, a], by rw [tickTo]; omega, by rw [tickTo, d2, d]⟩
def StepQ (lo : Nat) (h : H) (p : Key → Cell) (w' : PWorld) (x : V × H) : Prop := ∃ k c' cs', x = (.g (encW c'), k) ∧ WorldV lo k w' c' cs' cs' ∧ StepV h p k (part c' cs')
set_option maxRecDepth 8000 in
set_option maxHeartbeats 1000000 in
theorem c_l21Tick (hV : WorldV lo h w c cs cs) (hn : 0 ≤ w.now ∧ w.now ≤ 300) (hq : w.queue.length + w.runs.length ≤ lenMost) : @Wp _ (Dz.den 67 [.g (encW c)] h) ⟨StepQ lo h (part c cs) (tickP w)⟩ := by
  refine den_wp rfl Tryz.func67 rfl ?_
  have hnow := hV.now
  by_cases h250 : (250 : Int) ≤ w.now
  · have h250' : (250 : Int) ≤ c.now := by rw [hnow]; exact h250
    simp [Tryz.f67, h250']
    refine ⟨h, c, cs, rfl, ?_, StepV.refl _ _⟩
    unfold tickP; rw [if_pos h250]; exact hV
  have h250' : ¬ (250 : Int) ≤ c.now := by rw [hnow]; exact h250
  have hw1 : IntKind.i64.wrap (c.now + 1) = w.now + 1 := by rw [hnow]; exact wrap_i64 (by omega) (by omega)
  unfold tickP
  rw [if_neg h250]
  simp [Tryz.f67, h250', hw1]
  have v0 := hV.nums (w.now + 1) w.sent w.taken w.lost
  have hpc : part { c with now := w.now + 1, sent := w.sent, taken := w.taken, lost := w.lost } cs = part c cs := by funext k; cases k <;> rfl
  generalize hw0 : ({ w with now := w.now + 1 } : PWorld) = w0
  have v0' : WorldV lo h w0 { c with now := w.now + 1, sent := w.sent, taken := w.taken, lost := w.lost } cs cs := by subst hw0; exact v0
  have hr0 : w.runs.length = w0.runs.length := by subst hw0; rfl
  have hq0 : w0.queue.length + w0.runs.length ≤ lenMost := by subst hw0; exact hq
  rw [hr0]
  refine count_wpG (σ := H × WorldC × List RunC) w0.runs.length (fun i g => ([.c (ci i)], [encW g.2.1, zeroW], [], g.1))
    (fun i g => WorldV lo g.1 (tickTo w0 i) g.2.1 g.2.2 g.2.2 ∧ StepV h (part c cs) g.1 (part g.2.1 g.2.2))
    (h, { c with now := w.now + 1, sent := w.sent, taken := w.taken, lost := w.lost }, cs) ?_ ⟨v0', by rw [hpc]; exact StepV.refl _ _⟩ ?_ ?_
  · simp [zeroW, hV.sent, hV.taken, hV.lost]
  · rintro i ⟨k, c1, cs1⟩ hi ⟨v, s⟩
    simp only at v s ⊢
    obtain ⟨tl, tq, tn⟩ := tickTo_len w0 i
    have hlen := v.len
    have hS := v.runs
    have hi' : i < cs1.length := by omega
    have hiw : i < (tickTo w0 i).runs.length := by omega
    have hr := v.each i hiw
    have eAt : tickTo w0 (i + 1) = tickAt (tickTo w0 i) i := rfl
    generalize hwi : tickTo w0 i = wi at *
    have hg : wi.runs[i]? = some wi.runs[i] := List.getElem?_eq_getElem hiw
    have hst := hr.state
    have hdu := hr.due
    have hnw := v.now
    rw [Wp_body]
    by_cases a : wi.runs[i].state = 2
    · by_cases b : wi.runs[i].due = wi.now
      · obtain ⟨k1, e1, v1, s1⟩ := v.put hiw (j := 5) (xs := [.int .i64 1]) (r := { wi.runs[i] with state := 1 }) (r' := { cs1[i] with state := 1 }) (by simp [splice]) (by simp) (fun _ q => ⟨q.id, q.at_, q.slots, q.full, q.mail, rfl, q.due, q.links, q.watched, q.trap, q.why, q.turns⟩) rfl rfl rfl rfl
        obtain ⟨k2, e2, v2, s2⟩ := v1.put (i := i) (by simpa using hiw) (j := 6) (xs := [.int .i64 (-1)]) (r := { wi.runs[i] with state := 1, due := -1 }) (r' := { cs1[i] with state := 1, due := -1 }) (by simp [splice]) (by simp) (fun _ q => by simp at q; exact ⟨q.id, q.at_, q.slots, q.full, q.mail, q.state, rfl, q.links, q.watched, q.trap, q.why, q.turns⟩) (by simp) (by simp) (by simp) (by simp)
        simp only [List.set_set] at v2 s2
        obtain ⟨q3, k3, e3, v3, s3⟩ := v2.queueApp (ys := [(i : Int) + 1]) (by simp only [List.length_singleton]; omega)
        have hS1 := v1.runs
        have hS2 := v2.runs
        have a' : cs1[i].state = 2 := by rw [hst, a]
        have b' : cs1[i].due = c1.now := by rw [hdu, b, hnw]
        simp only [List.map_cons, List.map_nil, encI, List.length_cons, List.length_nil] at e3
        simp [hS.lenA, hi', ixA_nat hS, hS.at, a', b', e1, ixA_nat hS1, e2, e3, wrap_succ (hS.lt hi')]
        refine ⟨by unfold LexOk; kernel_rfl, k3, { c1 with queue := q3 }, ⟨⟨rfl, rfl, rfl, rfl, rfl, rfl, rfl⟩, rfl⟩, _, ?_, s.trans (s1.trans (s2.trans s3))⟩
        rw [eAt]
        unfold tickAt
        simp only [hg, a, b, and_self, ↓reduceIte]
        exact v3
      · have a' : cs1[i].state = 2 := by rw [hst, a]
        have b' : ¬ cs1[i].due = c1.now := by rw [hdu, hnw]; exact b
        simp [hS.lenA, hi', ixA_nat hS, hS.at, a', b', wrap_succ (hS.lt hi')]
        refine ⟨by unfold LexOk; kernel_rfl, k, c1, ⟨⟨rfl, rfl, rfl, rfl, rfl, rfl, rfl⟩, rfl⟩, cs1, ?_, s⟩
        rw [eAt]
        unfold tickAt
        simp only [hg, b, and_false, ↓reduceIte]
        exact v
    · have a' : ¬ cs1[i].state = 2 := by rw [hst]; exact a
      simp [hS.lenA, hi', ixA_nat hS, hS.at, a', wrap_succ (hS.lt hi')]
      refine ⟨by unfold LexOk; kernel_rfl, k, c1, ⟨⟨rfl, rfl, rfl, rfl, rfl, rfl, rfl⟩, rfl⟩, cs1, ?_, s⟩
      rw [eAt]
      unfold tickAt
      simp only [hg, a, false_and, ↓reduceIte]
      exact v
  · rintro ⟨k, c1, cs1⟩ ⟨v, s⟩
    simp only at v s ⊢
    obtain ⟨tl, tq, tn⟩ := tickTo_len w0 w0.runs.length
    have hlen := v.len
    have hS := v.runs
    rw [Wp_body]
    simp [hS.lenA, hlen, tl, zeroW]
    exact ⟨k, _, _, rfl, v, s⟩
end Go.Proofs.YtkcfminmojolhaaGreat

/-
  TurnTick, by the reference: what it answers.
-/
set_option maxRecDepth 8000
namespace Go.Proofs.YtkcfminmojolhaaGreat
open Go.AM
variable {h h' : H} {lo : Nat} {w : PWorld} {c : WorldC} {st cs : List RunC}
theorem WorldOk.le (hw : WorldOk w) : WorldLe w := by
  have h1 := hw.safe.ok
  simp only [codeOk, Bool.and_eq_true, decide_eq_true_eq] at h1
  have h2 := hw.many
  have h3 := hw.queue.len
  refine ⟨by unfold lenMost; omega, by unfold lenMost; omega, by unfold lenMost; omega, fun r hr => ?_⟩
  obtain ⟨i, hi, rfl⟩ := List.getElem_of_mem hr
  have q := (hw.each i hi).ok
  have l1 := q.links.len
  have l2 := q.watched.len
  have l3 := q.len
  have l4 := q.room
  exact ⟨by unfold lenMost; omega, by unfold lenMost; omega, by unfold lenMost; omega, by unfold lenMost; omega⟩
/-- There is room for a turn. -/
def Room (w : PWorld) : Prop := WorldOk w ∧ w.sent < 9000
def emptyW : PWorld := ⟨[], [], [], 0, 0, 0, 0⟩
theorem emptyV (h : H) : WorldV h.length h emptyW ⟨.nils, .nils, .nils, 0, 0, 0, 0⟩ [] [] := by
  have e : ∀ k, part ⟨.nils, .nils, .nils, 0, 0, 0, 0⟩ [] k = .nils := fun k => by cases k <;> simp [part, fld]
  refine ⟨⟨by simp [emptyW], rfl⟩, ⟨by simp, rfl⟩, rfl, rfl, fun i hi => by simp [emptyW] at hi, ⟨by simp [emptyW], rfl⟩, rfl, rfl, rfl, rfl, ⟨fun k id hid => ?_, fun k id hid => ?_, fun k1 k2 id h1 h2 => ?_, fun k => ?_⟩, Nat.le_refl _⟩
  · rw [e] at hid; simp [Cell.ids] at hid
  · rw [e] at hid; simp [Cell.ids] at hid
  · rw [e] at h1; simp [Cell.ids] at h1
  · rw [e]; exact Un.nils
theorem c_l21Room (hw : WorldR h w c cs) : Dz.den 66 [.g (encW c)] h = some (.c (.bool (tt (Room w))), h) := by
  refine den_plain rfl Tryz.func66 rfl rfl ?_
  have e := c_WorldOk hw
  simp only [encW, hw.sent] at e
  by_cases a : WorldOk w
  · have a' : tt (WorldOk w) = true := by simpa using a
    rw [a'] at e
    simp [Tryz.f66, e, hw.sent, tt_eq, Room, a]
  · have a' : tt (WorldOk w) = false := by simpa using a
    rw [a'] at e
    simp [Tryz.f66, e, hw.sent, tt_eq, Room, a]
noncomputable def turnTickP (w : PWorld) : PWorld := if tt (Room w) then tickP w else emptyW
/-- A copy, and then a step of one's own. -/
theorem copy_step {h1 h2 : H} {c1 c2 : WorldC} {cs1 cs2 : List RunC} (x : Ext h h1) (v1 : WorldV h.length h1 w c1 cs1 cs1) (s : StepV h1 (part c1 cs1) h2 (part c2 cs2)) : Ext h h2 :=
  s.ext (fun id ho => v1.own.owned_ge id ho) x (Nat.le_refl _)
theorem c_TurnTick (hV : WorldV lo h w c cs cs) : @Wp _ (Dz.den 20 [.g (encW c)] h) ⟨CopyWQ h (turnTickP w)⟩ := by
  refine den_wp rfl Tryz.func20 rfl ?_
  have e := c_l21Room hV.rd
  simp only [encW] at e
  unfold turnTickP
  by_cases a : Room w
  · have a' : tt (Room w) = true := by simpa using a
    rw [a'] at e ⊢
    obtain ⟨_, e1, h1, c1, cs1, rfl, x1, v1⟩ := c_l12Copy hV a.1.le
    obtain ⟨_, e2, h2, c2, cs2, rfl, v2, s2⟩ := c_l21Tick v1 a.1.now (by have := a.1.le; have q1 := a.1.queue.len; have q2 := a.1.many; unfold lenMost; omega)
    simp only [encW] at e1 e2
    simp [Tryz.f20, e, e1, e2]
    exact ⟨h2, c2, cs2, rfl, copy_step x1 v1 s2, v2⟩
  · have a' : tt (Room w) = false := by simpa using a
    rw [a'] at e ⊢
    simp [Tryz.f20, e]
    exact ⟨h, _, _, rfl, Ext.refl _, emptyV h⟩
end Go.Proofs.YtkcfminmojolhaaGreat

/-
  THE LAWS' FUNCTIONS THAT MARK AND FIND MARKS, in lists: what they answer.
-/
set_option maxRecDepth 8000
namespace Go.Proofs.YtkcfminmojolhaaGreat
open Go.AM
variable {h : H} {s : Cell}
/-- The greatest mark. -/
def markMost : Int := 1152921504606846976
def HeldI (n : Int) (ys : List Int) : Prop := ∀ j (hj : j < ys.length), ys[j] = n + j
def HeldV (n : Int) (ys : List PVal) : Prop := ∀ j (hj : j < ys.length), ys[j] = ⟨n + 2 * j, n + 2 * j + 1⟩
def HeldO (n : Int) (ys : List POp) : Prop := ∀ j (hj : j < ys.length), ys[j] = ⟨n + 6 * j, n + 6 * j + 1, n + 6 * j + 2, n + 6 * j + 3, ⟨n + 6 * j + 4, n + 6 * j + 5⟩⟩
def MarkQ {α : Type} (enc : α → List Cell) (es : Nat) (h : H) (s : Cell) (len : Nat) (m : Int) (P : List α → Prop) (x : V × H) : Prop :=
  ∃ k ys, x = (.c (.int .i64 m), k) ∧ Sl k s es enc ys ∧ Wr k s ∧ ys.length = len ∧ Chg h (fun id => id ∈ s.ids) k ∧ P ys
set_option maxRecDepth 8000
theorem c_markIntS {xs : List Int} (hS : Sl h s 1 encI xs) (hw : Wr h s) {n : Int} (h0 : 0 ≤ n) (hn : n + xs.length ≤ markMost) :
    @Wp _ (Dz.den 73 [.c s, .c (.int .i64 n)] h) ⟨MarkQ encI 1 h s xs.length (n + xs.length) (HeldI n)⟩ := by
  refine den_wp rfl Tryz.func73 rfl ?_
  unfold markMost at hn
  simp [Tryz.f73]
  refine count_wpG (σ := H × List Int) xs.length (fun i g => ([.c s, .c (ci (n + i)), .c (ci 0), .c (ci i)], [], [], g.1))
    (fun i g => Sl g.1 s 1 encI g.2 ∧ Wr g.1 s ∧ g.2.length = xs.length ∧ Chg h (fun id => id ∈ s.ids) g.1 ∧ ∀ j (hj : j < g.2.length), j < i → g.2[j] = n + j)
    (h, xs) (by simp) ⟨hS, hw, rfl, Chg.refl _ _, fun j hj hi => by omega⟩ ?_ ?_
  · rintro i ⟨k, zs⟩ hi ⟨q1, q2, q3, q4, q5⟩
    simp only at q1 q2 q3 q4 q5 ⊢
    have hi' : i < zs.length := by omega
    generalize hz : zs[i] = z
    obtain ⟨k1, e1, s1, w1, l1, c1⟩ := q1.write q2 (i := i) hi' (j := 0) (cs := [.int .i64 (n + i)]) (x := n + i) (by simp [splice, hz]) (by simp)
    have u1 : IntKind.i64.wrap (n + i + 1) = n + ((i + 1 : Nat) : Int) := (wrap_i64 (by omega) (by omega)).trans (by omega)
    rw [Wp_body]
    simp [q1.lenA, q3, hi, hi', ixA_nat q1, ixA_nat s1, e1, u1, wrap_succ (q1.lt hi')]
    refine ⟨zs.set i (n + i), s1, w1, by simp [q3], ?_, fun j hj hji => ?_⟩
    · exact q4.trans (c1) fun _ _ h => h
    · by_cases e : i = j
      · subst e; simp
      · simpa [List.getElem_set, e] using q5 j (by simpa using hj) (by omega)
  · rintro ⟨k, zs⟩ ⟨q1, q2, q3, q4, q5⟩
    simp only at q1 q2 q3 q4 q5 ⊢
    rw [Wp_body]
    simp [q1.lenA, q3]
    exact ⟨k, zs, rfl, q1, q2, q3, q4, fun j hj => q5 j hj (by omega)⟩
theorem c_heldIntS {ys : List Int} (hS : Sl h s 1 encI ys) {n : Int} (h0 : 0 ≤ n) (hn : n + ys.length ≤ markMost) (hH : HeldI n ys) :
    Dz.den 76 [.c s, .c (.int .i64 n)] h = some (.c (.int .i64 (n + ys.length)), h) := by
  refine den_plain rfl Tryz.func76 rfl rfl ?_
  unfold markMost at hn
  simp [Tryz.f76]
  refine count_wp ys.length (fun i => ([.c s, .c (ci (n + i)), .c (ci 0), .c (ci i)], [], [], h)) (fun _ => True) (by simp) trivial ?_ ?_
  · intro i hi _
    have u1 : IntKind.i64.wrap (n + i + 1) = n + ((i + 1 : Nat) : Int) := (wrap_i64 (by omega) (by omega)).trans (by omega)
    have e := hH i hi
    rw [Wp_body]
    simp [hS.lenA, hi, ixA_nat hS, hS.at, e, u1, wrap_succ (hS.lt hi)]
  · intro _
    rw [Wp_body]
    simp [hS.lenA]
theorem c_markValS {xs : List PVal} (hS : Sl h s 2 encV xs) (hw : Wr h s) {n : Int} (h0 : 0 ≤ n) (hn : n + 2 * xs.length ≤ markMost) :
    @Wp _ (Dz.den 122 [.c s, .c (.int .i64 n)] h) ⟨MarkQ encV 2 h s xs.length (n + 2 * xs.length) (HeldV n)⟩ := by
  refine den_wp rfl Tryz.func122 rfl ?_
  unfold markMost at hn
  simp [Tryz.f122]
  refine count_wpG (σ := H × List PVal) xs.length (fun i g => ([.c s, .c (ci (n + 2 * i)), .c (ci 0), .c (ci i)], [], [], g.1))
    (fun i g => Sl g.1 s 2 encV g.2 ∧ Wr g.1 s ∧ g.2.length = xs.length ∧ Chg h (fun id => id ∈ s.ids) g.1 ∧ ∀ j (hj : j < g.2.length), j < i → g.2[j] = ⟨n + 2 * j, n + 2 * j + 1⟩)
    (h, xs) (by simp) ⟨hS, hw, rfl, Chg.refl _ _, fun j hj hi => by omega⟩ ?_ ?_
  · rintro i ⟨k, zs⟩ hi ⟨q1, q2, q3, q4, q5⟩
    simp only at q1 q2 q3 q4 q5 ⊢
    have hi' : i < zs.length := by omega
    generalize hz : zs[i] = z
    obtain ⟨k1, e1, s1, w1, l1, c1⟩ := q1.write q2 (i := i) hi' (j := 0) (cs := [.int .i64 (n + 2 * i)]) (x := ⟨n + 2 * i, z.n⟩) (by simp [splice, hz]) (by simp)
    obtain ⟨k2, e2, s2, w2, l2, c2⟩ := s1.write w1 (i := i) (by simpa using hi') (j := 1) (cs := [.int .i64 (n + 2 * i + 1)]) (x := ⟨n + 2 * i, n + 2 * i + 1⟩) (by simp [splice, hz]) (by simp)
    simp only [List.set_set] at s2
    have u1 : IntKind.i64.wrap (n + 2 * i + 1) = n + 2 * i + 1 := (wrap_i64 (by omega) (by omega)).trans (by omega)
    have u2 : IntKind.i64.wrap (n + 2 * i + 1 + 1) = n + 2 * ((i + 1 : Nat) : Int) := (wrap_i64 (by omega) (by omega)).trans (by omega)
    rw [Wp_body]
    simp [q1.lenA, q3, hi, hi', ixA_nat q1, ixA_nat s1, ixA_nat s2, e1, e2, u1, u2, wrap_succ (q1.lt hi')]
    refine ⟨zs.set i (⟨n + 2 * i, n + 2 * i + 1⟩), s2, w2, by simp [q3], ?_, fun j hj hji => ?_⟩
    · exact q4.trans (c1.trans (c2) fun _ _ h => h) fun _ _ h => h
    · by_cases e : i = j
      · subst e; simp
      · simpa [List.getElem_set, e] using q5 j (by simpa using hj) (by omega)
  · rintro ⟨k, zs⟩ ⟨q1, q2, q3, q4, q5⟩
    simp only at q1 q2 q3 q4 q5 ⊢
    rw [Wp_body]
    simp [q1.lenA, q3]
    exact ⟨k, zs, rfl, q1, q2, q3, q4, fun j hj => q5 j hj (by omega)⟩
theorem c_heldValS {ys : List PVal} (hS : Sl h s 2 encV ys) {n : Int} (h0 : 0 ≤ n) (hn : n + 2 * ys.length ≤ markMost) (hH : HeldV n ys) :
    Dz.den 123 [.c s, .c (.int .i64 n)] h = some (.c (.int .i64 (n + 2 * ys.length)), h) := by
  refine den_plain rfl Tryz.func123 rfl rfl ?_
  unfold markMost at hn
  simp [Tryz.f123]
  refine count_wp ys.length (fun i => ([.c s, .c (ci (n + 2 * i)), .c (ci 0), .c (ci i)], [], [], h)) (fun _ => True) (by simp) trivial ?_ ?_
  · intro i hi _
    have u1 : IntKind.i64.wrap (n + 2 * i + 1) = n + 2 * i + 1 := (wrap_i64 (by omega) (by omega)).trans (by omega)
    have u2 : IntKind.i64.wrap (n + 2 * i + 1 + 1) = n + 2 * ((i + 1 : Nat) : Int) := (wrap_i64 (by omega) (by omega)).trans (by omega)
    have e := hH i hi
    rw [Wp_body]
    simp [hS.lenA, hi, ixA_nat hS, hS.at, e, u1, u2, wrap_succ (hS.lt hi)]
  · intro _
    rw [Wp_body]
    simp [hS.lenA]
theorem c_markOpS {xs : List POp} (hS : Sl h s 6 encO xs) (hw : Wr h s) {n : Int} (h0 : 0 ≤ n) (hn : n + 6 * xs.length ≤ markMost) :
    @Wp _ (Dz.den 35 [.c s, .c (.int .i64 n)] h) ⟨MarkQ encO 6 h s xs.length (n + 6 * xs.length) (HeldO n)⟩ := by
  refine den_wp rfl Tryz.func35 rfl ?_
  unfold markMost at hn
  simp [Tryz.f35]
  refine count_wpG (σ := H × List POp) xs.length (fun i g => ([.c s, .c (ci (n + 6 * i)), .c (ci 0), .c (ci i)], [], [], g.1))
    (fun i g => Sl g.1 s 6 encO g.2 ∧ Wr g.1 s ∧ g.2.length = xs.length ∧ Chg h (fun id => id ∈ s.ids) g.1 ∧ ∀ j (hj : j < g.2.length), j < i → g.2[j] = ⟨n + 6 * j, n + 6 * j + 1, n + 6 * j + 2, n + 6 * j + 3, ⟨n + 6 * j + 4, n + 6 * j + 5⟩⟩)
    (h, xs) (by simp) ⟨hS, hw, rfl, Chg.refl _ _, fun j hj hi => by omega⟩ ?_ ?_
  · rintro i ⟨k, zs⟩ hi ⟨q1, q2, q3, q4, q5⟩
    simp only at q1 q2 q3 q4 q5 ⊢
    have hi' : i < zs.length := by omega
    generalize hz : zs[i] = z
    obtain ⟨k1, e1, s1, w1, l1, c1⟩ := q1.write q2 (i := i) hi' (j := 0) (cs := [.int .i64 (n + 6 * i)]) (x := ⟨n + 6 * i, z.r, z.s, z.to, ⟨z.v.k, z.v.n⟩⟩) (by simp [splice, hz]) (by simp)
    obtain ⟨k2, e2, s2, w2, l2, c2⟩ := s1.write w1 (i := i) (by simpa using hi') (j := 1) (cs := [.int .i64 (n + 6 * i + 1)]) (x := ⟨n + 6 * i, n + 6 * i + 1, z.s, z.to, ⟨z.v.k, z.v.n⟩⟩) (by simp [splice, hz]) (by simp)
    simp only [List.set_set] at s2
    obtain ⟨k3, e3, s3, w3, l3, c3⟩ := s2.write w2 (i := i) (by simpa using hi') (j := 2) (cs := [.int .i64 (n + 6 * i + 2)]) (x := ⟨n + 6 * i, n + 6 * i + 1, n + 6 * i + 2, z.to, ⟨z.v.k, z.v.n⟩⟩) (by simp [splice, hz]) (by simp)
    simp only [List.set_set] at s3
    obtain ⟨k4, e4, s4, w4, l4, c4⟩ := s3.write w3 (i := i) (by simpa using hi') (j := 3) (cs := [.int .i64 (n + 6 * i + 3)]) (x := ⟨n + 6 * i, n + 6 * i + 1, n + 6 * i + 2, n + 6 * i + 3, ⟨z.v.k, z.v.n⟩⟩) (by simp [splice, hz]) (by simp)
    simp only [List.set_set] at s4
    obtain ⟨k5, e5, s5, w5, l5, c5⟩ := s4.write w4 (i := i) (by simpa using hi') (j := 4) (cs := [.int .i64 (n + 6 * i + 4)]) (x := ⟨n + 6 * i, n + 6 * i + 1, n + 6 * i + 2, n + 6 * i + 3, ⟨n + 6 * i + 4, z.v.n⟩⟩) (by simp [splice, hz]) (by simp)
    simp only [List.set_set] at s5
    obtain ⟨k6, e6, s6, w6, l6, c6⟩ := s5.write w5 (i := i) (by simpa using hi') (j := 5) (cs := [.int .i64 (n + 6 * i + 5)]) (x := ⟨n + 6 * i, n + 6 * i + 1, n + 6 * i + 2, n + 6 * i + 3, ⟨n + 6 * i + 4, n + 6 * i + 5⟩⟩) (by simp [splice, hz]) (by simp)
    simp only [List.set_set] at s6
    have u1 : IntKind.i64.wrap (n + 6 * i + 1) = n + 6 * i + 1 := (wrap_i64 (by omega) (by omega)).trans (by omega)
    have u2 : IntKind.i64.wrap (n + 6 * i + 1 + 1) = n + 6 * i + 2 := (wrap_i64 (by omega) (by omega)).trans (by omega)
    have u3 : IntKind.i64.wrap (n + 6 * i + 2 + 1) = n + 6 * i + 3 := (wrap_i64 (by omega) (by omega)).trans (by omega)
    have u4 : IntKind.i64.wrap (n + 6 * i + 3 + 1) = n + 6 * i + 4 := (wrap_i64 (by omega) (by omega)).trans (by omega)
    have u5 : IntKind.i64.wrap (n + 6 * i + 4 + 1) = n + 6 * i + 5 := (wrap_i64 (by omega) (by omega)).trans (by omega)
    have u6 : IntKind.i64.wrap (n + 6 * i + 5 + 1) = n + 6 * ((i + 1 : Nat) : Int) := (wrap_i64 (by omega) (by omega)).trans (by omega)
    rw [Wp_body]
    simp [q1.lenA, q3, hi, hi', ixA_nat q1, ixA_nat s1, ixA_nat s2, ixA_nat s3, ixA_nat s4, ixA_nat s5, ixA_nat s6, e1, e2, e3, e4, e5, e6, u1, u2, u3, u4, u5, u6, wrap_succ (q1.lt hi')]
    refine ⟨zs.set i (⟨n + 6 * i, n + 6 * i + 1, n + 6 * i + 2, n + 6 * i + 3, ⟨n + 6 * i + 4, n + 6 * i + 5⟩⟩), s6, w6, by simp [q3], ?_, fun j hj hji => ?_⟩
    · exact q4.trans (c1.trans (c2.trans (c3.trans (c4.trans (c5.trans (c6) fun _ _ h => h) fun _ _ h => h) fun _ _ h => h) fun _ _ h => h) fun _ _ h => h) fun _ _ h => h
    · by_cases e : i = j
      · subst e; simp
      · simpa [List.getElem_set, e] using q5 j (by simpa using hj) (by omega)
  · rintro ⟨k, zs⟩ ⟨q1, q2, q3, q4, q5⟩
    simp only at q1 q2 q3 q4 q5 ⊢
    rw [Wp_body]
    simp [q1.lenA, q3]
    exact ⟨k, zs, rfl, q1, q2, q3, q4, fun j hj => q5 j hj (by omega)⟩
theorem c_heldOpS {ys : List POp} (hS : Sl h s 6 encO ys) {n : Int} (h0 : 0 ≤ n) (hn : n + 6 * ys.length ≤ markMost) (hH : HeldO n ys) :
    Dz.den 74 [.c s, .c (.int .i64 n)] h = some (.c (.int .i64 (n + 6 * ys.length)), h) := by
  refine den_plain rfl Tryz.func74 rfl rfl ?_
  unfold markMost at hn
  simp [Tryz.f74]
  refine count_wp ys.length (fun i => ([.c s, .c (ci (n + 6 * i)), .c (ci 0), .c (ci i)], [], [], h)) (fun _ => True) (by simp) trivial ?_ ?_
  · intro i hi _
    have u1 : IntKind.i64.wrap (n + 6 * i + 1) = n + 6 * i + 1 := (wrap_i64 (by omega) (by omega)).trans (by omega)
    have u2 : IntKind.i64.wrap (n + 6 * i + 1 + 1) = n + 6 * i + 2 := (wrap_i64 (by omega) (by omega)).trans (by omega)
    have u3 : IntKind.i64.wrap (n + 6 * i + 2 + 1) = n + 6 * i + 3 := (wrap_i64 (by omega) (by omega)).trans (by omega)
    have u4 : IntKind.i64.wrap (n + 6 * i + 3 + 1) = n + 6 * i + 4 := (wrap_i64 (by omega) (by omega)).trans (by omega)
    have u5 : IntKind.i64.wrap (n + 6 * i + 4 + 1) = n + 6 * i + 5 := (wrap_i64 (by omega) (by omega)).trans (by omega)
    have u6 : IntKind.i64.wrap (n + 6 * i + 5 + 1) = n + 6 * ((i + 1 : Nat) : Int) := (wrap_i64 (by omega) (by omega)).trans (by omega)
    have e := hH i hi
    rw [Wp_body]
    simp [hS.lenA, hi, ixA_nat hS, hS.at, e, u1, u2, u3, u4, u5, u6, wrap_succ (hS.lt hi)]
  · intro _
    rw [Wp_body]
    simp [hS.lenA]
end Go.Proofs.YtkcfminmojolhaaGreat
