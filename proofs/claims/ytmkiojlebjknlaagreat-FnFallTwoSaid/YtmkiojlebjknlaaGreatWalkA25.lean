/-
  What functions of the seat answer, each proved once; each under the condition that cells bear what it is given, as its statement says.
-/
import Derived.Test.YtmkiojlebjknlaaGreatWalkA24
import Derived.Test.YtmkiojlebjknlaaGreatWalkA20
import Derived.Test.YtmkiojlebjknlaaGreatWalkA23
import Derived.Test.YtmkiojlebjknlaaGreatWalkA21
set_option linter.all false
/-
 WORLDS IN PLAIN DATA: everybody has a turn in time.
-/
set_option maxRecDepth 8000
namespace Go.Proofs.YtmkiojlebjknlaaGreat
variable {w : PWorld}
end Go.Proofs.YtmkiojlebjknlaaGreat

/-
 WORLDS IN PLAIN DATA: a turn is some steps.
-/
set_option maxRecDepth 8000
namespace Go.Proofs.YtmkiojlebjknlaaGreat
variable {w : PWorld} {id : Int}
end Go.Proofs.YtmkiojlebjknlaaGreat

/-
 WORLDS IN PLAIN DATA: all are ended.
-/
set_option maxRecDepth 8000
namespace Go.Proofs.YtmkiojlebjknlaaGreat
variable {w : PWorld}
end Go.Proofs.YtmkiojlebjknlaaGreat

/-
 WORLDS IN PLAIN DATA: steps that send, link, watch, end.
-/
set_option maxRecDepth 8000
namespace Go.Proofs.YtmkiojlebjknlaaGreat
variable {w w' : PWorld} {id : Int} {i : Nat} {r b : PRun} {o : POp}
theorem Turn.step_other (T : Turn w id i r o) (k : o.kind = 6 ∨ o.kind = 11 ∨ o.kind = 12) : stepP w id = otherP w id o := by
 unfold stepP
 simp only [T.at_, T.op]
 rw [if_neg (by omega), if_neg (by omega), if_neg (by omega), if_neg (by omega), if_neg (by omega), if_neg (by omega), if_neg (by omega), if_neg (by omega), if_neg (by omega), if_neg (by omega)]
theorem Turn.rng (T : Turn w id i r o) : 1 ≤ id ∧ id ≤ w.runs.length := by have := T.e0; have := T.hi; omega
def St3 (u : PWorld) (i : Nat) : Prop := ∀ b, u.runs[i]? = some b → b.state ≠ 3
theorem St3.set {u u2 : PWorld} (s : St3 u i) {j : Nat} {r' : PRun} (e : u2.runs = u.runs.set j r') (h : ∀ q, u.runs[j]? = some q → q.state ≠ 3 → r'.state ≠ 3) : St3 u2 i := fun b hb => by
 rw [e] at hb
 by_cases hj : j = i
 ·subst hj
  have hl : j < u.runs.length := by
   have := (List.getElem?_eq_some_iff.1 hb).1
   simpa using this
  rw [List.getElem?_set_self hl] at hb
  cases hb
  exact h _ (List.getElem?_eq_getElem hl) (s _ (List.getElem?_eq_getElem hl))
 ·rw [List.getElem?_set_ne hj] at hb
  exact s b hb
theorem St3.give {u : PWorld} (s : St3 u i) (k : Int) (v : PVal) : St3 (giveP u k v) i := by
 unfold giveP
 split
 ·split
  ·exact s.set rfl fun q _ _ => by simp
  ·exact s.set (j := (k - 1).toNat) rfl fun q hq h3 => by rw [runAt_some hq]; exact h3
 ·exact s
theorem OwnS.on (S : OwnS w id r o b) (k : o.kind = 6 ∨ o.kind = 11 ∨ o.kind = 12) (t : (slotAt r o.r).k = 3) : b.at_ = r.at_ + 1 := by
 cases S with
 | fall _ v k2 q e y =>
  rcases k2 with k2 | k2 | k2
  ·omega
  ·omega
  ·exact absurd t k2.2.1
 | other _ k2 t2 q => exact q.at_
 | _ => omega
theorem give_links {u : PWorld} (k : Int) (v : PVal) (a : Int) : (runAt (giveP u k v) a).links = (runAt u a).links ∧ (runAt (giveP u k v) a).watched = (runAt u a).watched := by
 have go : ∀ (r' : PRun), r'.links = (runAt u k).links → r'.watched = (runAt u k).watched → ∀ u2 : PWorld, u2.runs = u.runs.set (k - 1).toNat r' → (runAt u2 a).links = (runAt u a).links ∧ (runAt u2 a).watched = (runAt u a).watched := fun r' e1 e2 u2 e => by
  unfold runAt at e1 e2 ⊢
  rw [e, List.getElem?_set]
  by_cases h : (k - 1).toNat = (a - 1).toNat
  ·rw [if_pos h]
   by_cases hl : (k - 1).toNat < u.runs.length
   ·rw [if_pos hl]
    rw [← h]
    exact ⟨e1, e2⟩
   ·rw [if_neg hl, List.getElem?_eq_none (by omega)]
    exact ⟨rfl, rfl⟩
  ·rw [if_neg h]; exact ⟨rfl, rfl⟩
 unfold giveP
 split
 ·split
  ·exact go { runAt u k with mail := (runAt u k).mail ++ [v], state := 1 } rfl rfl _ rfl
  ·exact go { runAt u k with mail := (runAt u k).mail ++ [v] } rfl rfl _ rfl
 ·exact ⟨rfl, rfl⟩
theorem give_sent (u : PWorld) (k : Int) (v : PVal) : (giveP u k v).sent = u.sent + 1 := by
 unfold giveP
 split
 ·split <;> rfl
 ·rfl
def There (w : PWorld) (id k : Int) : Prop := Alive w k ∧ k ≠ id
theorem Turn.link_step (T : Turn w id i r o) (G : Good w) (k : o.kind = 11) (t : (slotAt r o.r).k = 3) :
  (¬ There w id (slotAt r o.r).n → (runAt (stepP w id) id).links = r.links) ∧ (There w id (slotAt r o.r).n → (slotAt r o.r).n ∈ (runAt (stepP w id) id).links ∧ id ∈ (runAt (stepP w id) (slotAt r o.r).n).links) := by
 have hid := T.rng
 rw [T.step_other (.inr (.inl k))]
 unfold otherP
 simp only [T.at_]
 rw [if_neg (by simp [t]), if_neg (by omega), if_neg (by omega)]
 generalize hto : (slotAt r o.r).n = to
 have l1 : (setRun w id (nextRun r)).runs.length = w.runs.length := setRun_len
 have s1 : runAt (setRun w id (nextRun r)) id = nextRun r := by rw [runAt_set hid hid.1, if_pos rfl]
 constructor
 ·intro nt
  have c : to = id ∨ ¬ Alive w to := by
   by_cases e : to = id
   ·exact .inl e
   ·exact .inr fun a => nt ⟨a, e⟩
  rw [if_pos c, s1]; rfl
 ·rintro ⟨al, ne⟩
  have s2 : runAt (setRun w id (nextRun r)) to = runAt w to := by rw [runAt_set hid al.1.1, if_neg ne]
  rw [if_neg (fun h => h.elim ne fun q => q al), if_neg (by omega)]
  by_cases m : to ∈ r.links
  ·rw [if_neg (fun h => h.2 m), s1, s2]
   exact ⟨m, (G.sym id to hid al.1).1 (by rw [T.at_]; exact m)⟩
  ·rw [if_pos ⟨k, m⟩]
   unfold linkP
   simp only
   generalize hw1 : setRun w id (nextRun r) = w1 at *
   have r1 : 1 ≤ id ∧ id ≤ w1.runs.length := by rw [l1]; exact hid
   have r2 : 1 ≤ to ∧ to ≤ (setRun w1 id { runAt w1 id with links := (runAt w1 id).links ++ [to] }).runs.length := by rw [setRun_len, l1]; exact al.1
   rw [runAt_set r2 hid.1, if_neg (fun e => ne e.symm), runAt_set r1 hid.1, if_pos rfl, runAt_set r2 al.1.1, if_pos rfl]
   exact ⟨by simp, by simp⟩
theorem Turn.watch_step (T : Turn w id i r o) (k : o.kind = 12) (t : (slotAt r o.r).k = 3) :
  (¬ There w id (slotAt r o.r).n → (runAt (stepP w id) id).links = r.links ∧ ((slotAt r o.r).n = id ∨ (stepP w id).sent = w.sent + 1)) ∧ (There w id (slotAt r o.r).n → id ∈ (runAt (stepP w id) (slotAt r o.r).n).watched ∧ (stepP w id).sent = w.sent) := by
 have hid := T.rng
 rw [T.step_other (.inr (.inr k))]
 unfold otherP
 simp only [T.at_]
 rw [if_neg (by simp [t]), if_neg (by omega)]
 generalize hto : (slotAt r o.r).n = to
 have l1 : (setRun w id (nextRun r)).runs.length = w.runs.length := setRun_len
 have s1 : runAt (setRun w id (nextRun r)) id = nextRun r := by rw [runAt_set hid hid.1, if_pos rfl]
 constructor
 ·intro nt
  by_cases a : Alive w to
  ·have e : to = id := Classical.byContradiction fun q => nt ⟨a, q⟩
   rw [if_neg (fun h => h.2 a), if_pos (.inl e), s1]
   exact ⟨rfl, .inl e⟩
  ·rw [if_pos ⟨k, a⟩, (give_links _ _ _).1, s1, give_sent]
   exact ⟨rfl, .inr rfl⟩
 ·rintro ⟨al, ne⟩
  have s2 : runAt (setRun w id (nextRun r)) to = runAt w to := by rw [runAt_set hid al.1.1, if_neg ne]
  rw [if_neg (fun h => h.2 al), if_neg (fun h => h.elim ne fun q => q al)]
  by_cases m : id ∈ (runAt w to).watched
  ·rw [if_neg (fun h => h.2 m), if_neg (by omega), s2]
   exact ⟨m, rfl⟩
  ·rw [if_pos ⟨k, m⟩]
   unfold watchP
   rw [runAt_set (by rw [l1]; exact al.1) al.1.1, if_pos rfl]
   exact ⟨by simp, rfl⟩
end Go.Proofs.YtmkiojlebjknlaaGreat

/-
 A LAW OF WORLDS BEGINS: what happens, many turns.
-/
set_option maxRecDepth 8000
namespace Go.Proofs.YtmkiojlebjknlaaGreat
open Go.AM
variable {h k : H} {bs : List Int} {s : Cell}
theorem playDo_ok {w : PWorld} (r : Room w) (e : PEvent) : playDoP w e = doP w e := by unfold playDoP; rw [if_pos (by simpa using r)]
end Go.Proofs.YtmkiojlebjknlaaGreat

/-
 WHAT RunFirst AND RunTake ANSWER.
-/
set_option maxRecDepth 8000
namespace Go.Proofs.YtmkiojlebjknlaaGreat
open Go.AM
variable {h k : H} {r : PRun} {c : RunC}
theorem c_IRunFirst (hr : RunR h r c) (ok : RunOk r) {kind : Int} (hk : 0 ≤ kind ∧ kind ≤ 3) :
  Dz.den 28 [.g (encR c), .c (.int .i64 kind)] h = some (.t [.c (.int .i64 (if 0 ≤ mailAt r kind then mailAt r kind else 0)), .c (.bool (decide (0 ≤ mailAt r kind)))], h) := by
 refine den_plain rfl Tryz.func28 rfl (by simp [V.plain, V.plain1]) ?_
 have e := c_IRunOk hr
 rw [show tt (RunOk r) = true by simpa using ok] at e
 have e2 := c_first (r := r) hr.mail ok.mail kind
 rw [show firstAt (fits kind) r.mail = mailAt r kind from rfl] at e2
 simp only [encR] at e e2
 by_cases f : 0 ≤ mailAt r kind
 ·have f' : ¬ mailAt r kind < 0 := by omega
  simp [Tryz.f28, e, e2, hk, f, f']
  rfl
 ·have f' : mailAt r kind < 0 := by omega
  simp [Tryz.f28, e, e2, hk, f, f']
  rfl
theorem write_box {h : H} {p es : Nat} {xs ys : List Cell} (hg : h.get p = some ⟨false, es, [xs]⟩) {j : Nat} (hj : j + ys.length ≤ xs.length) (he : xs.length = es) :
  h.write p 0 j ys = some (h.set p (some ⟨false, es, [splice xs j ys]⟩)) := by
 unfold H.write
 rw [hg]
 have hj' : j + ys.length ≤ es := he ▸ hj
 simp [splice, hj', he]
theorem c_takeB {p : Nat} (hg : h.get p = some ⟨false, 13, [encR c]⟩) (hm : Sl h c.mail 2 encV r.mail) (wr : Wr h c.mail) (hp : p ∉ c.mail.ids) {n : Nat} (hn : n < r.mail.length) (h12 : r.mail.length ≤ 12) :
  ∃ h' s', Dz.den 72 [.c (.ptr p 0 0), .c (.int .i64 n)] h = some (.g (encV r.mail[n]), h') ∧ h'.get p = some ⟨false, 13, [encR { c with mail := s' }]⟩ ∧ Sl h' s' 2 encV (r.mail.eraseIdx n) ∧ Chg h (fun id => id = p ∨ id ∈ c.mail.ids) h' := by
 obtain ⟨s', h1, e1, f1⟩ := c_DeleteV hm wr hn (by omega)
 have hlt := H.get_lt hg
 have g1 : h1.get p = some ⟨false, 13, [encR c]⟩ := by rw [f1.chg.keep p hlt hp]; exact hg
 have hlt1 := H.get_lt g1
 have ew := write_box (ys := [s']) g1 (j := 4) (by simp) (by simp)
 have wn : IntKind.i64.wrap ((n : Int) + 1) = (n : Int) + 1 := wrapS (by omega) (by omega)
 have hps : p ∉ s'.ids := fun hh => hp (f1.ids p hh)
 refine ⟨h1.set p (some ⟨false, 13, [encR { c with mail := s' }]⟩), s', ?_, get_set_self hlt1, f1.sl.same fun id hid => get_set_ne (fun e => hps (e ▸ hid)), ⟨?_, ?_⟩⟩
 ·rw [← Wp_eq]
  refine den_wp rfl Tryz.func72 rfl ?_
  simp [splice] at ew
  simp [Tryz.f72, at_blk hg, at_blk g1, ixA_nat hm, hm.at, hn, wn, e1, ew]
 ·simpa using f1.chg.len
 ·intro id hid hn
  rw [get_set_ne (fun e => hn (.inl e)), f1.chg.keep id hid fun hh => hn (.inr hh)]
def TakeQ (h : H) (r : PRun) (n : Nat) (x : V × H) : Prop := ∃ k c', x = (.t [.g (encR c'), .g (encV (r.mail[n]?.getD default)), .c (.bool true)], k) ∧ Ext h k ∧ Sl k c'.mail 2 encV (r.mail.eraseIdx n)
set_option maxRecDepth 16000 in
theorem c_IRunTake (hr : RunR h r c) (hu : ∀ f, Un (rpart c f)) (ok : RunOk r) {kind : Int} (hk : 0 ≤ kind ∧ kind ≤ 3) (f : 0 ≤ mailAt r kind) :
  @Wp _ (Dz.den 29 [.g (encR c), .c (.int .i64 kind)] h) ⟨TakeQ h r (mailAt r kind).toNat⟩ := by
 refine den_wp rfl Tryz.func29 rfl ?_
 have e1 := c_IRunFirst hr ok hk
 rw [if_pos f, decide_eq_true f] at e1
 have rm := ok.room
 have ln := ok.len
 have ll := ok.links.len
 have lw := ok.watched.len
 obtain ⟨n, hn⟩ : ∃ n : Nat, mailAt r kind = n := ⟨(mailAt r kind).toNat, by omega⟩
 have hnl : n < r.mail.length := by
  have := firstAt_lt (p := fits kind) (xs := r.mail) f
  rw [show firstAt (fits kind) r.mail = mailAt r kind from rfl, hn] at this
  simpa using this
 rw [hn] at e1
 obtain ⟨_, e2, k2, c2, rfl, x2, r2, n2⟩ := c_ICopied hr hu ⟨by unfold lenMost; omega, by unfold lenMost; omega, by unfold lenMost; omega, by unfold lenMost; omega⟩
 have hg := get_push_self (h := k2) (b := ⟨false, 13, [encR c2]⟩)
 have xp := Ext.push k2 ⟨false, 13, [encR c2]⟩
 have ml := r2.mail
 have wr : Wr k2 c2.mail := n2.wr 1
 have ge : ∀ id ∈ c2.mail.ids, h.length ≤ id := n2.ge 1
 obtain ⟨h3, s3, e3, g3, S3, ch3⟩ := c_takeB hg (ml.ext xp) (wr.same fun id hid => xp.2 id (ml.ids_lt id hid)) (fun hh => by have := ml.ids_lt _ hh; omega) hnl rm
 have ext : Ext h h3 := ⟨by have := ch3.len; have := x2.1; simp at *; omega, fun id hid => by
  have l2 := x2.1
  rw [ch3.keep id (by simp; omega) (fun hh => by
   rcases hh with hh | hh
   ·omega
   ·have := ge id hh; omega), xp.2 id (by omega), x2.2 id hid]⟩
 simp only [encR] at e1 e2 e3 g3
 simp [Tryz.f29, e1, e2, e3, at_blk g3]
 exact ⟨by kernel_rfl, rfl, h3, { c2 with mail := s3 }, by simp [hn, hnl], ext, by simpa [hn] using S3⟩
end Go.Proofs.YtmkiojlebjknlaaGreat

/-
 WORLDS IN PLAIN DATA: steps that take.
-/
set_option maxRecDepth 8000
namespace Go.Proofs.YtmkiojlebjknlaaGreat
open Go.AM
variable {w : PWorld} {id : Int} {i : Nat} {r b : PRun} {o : POp}
theorem Turn.step_take (T : Turn w id i r o) (k : o.kind = 7 ∨ o.kind = 8) : stepP w id = takeP w id o := by
 unfold stepP
 simp only [T.at_, T.op]
 rw [if_neg (by omega), if_neg (by omega), if_neg (by omega), if_neg (by omega), if_neg (by omega), if_pos k]
theorem Turn.took (T : Turn w id i r o) (k : o.kind = 7 ∨ o.kind = 8) (f : 0 ≤ mailAt r o.s) : (stepP w id).taken = w.taken + 1 := by
 rw [T.step_take k]
 unfold takeP
 rw [T.at_, if_pos f]
theorem Turn.waits (T : Turn w id i r o) (k : o.kind = 7 ∨ o.kind = 8) (f : ¬ 0 ≤ mailAt r o.s) (d : o.kind = 8 → ¬ r.due < 0) : id ∉ (stepP w id).queue := by
 have e : ∀ due, id ∉ (waitP w id due).queue := fun due hh => by
  have : id ∈ less w.queue id := hh
  exact (mem_less.1 this).2 rfl
 rw [T.step_take k]
 unfold takeP
 rw [T.at_, if_neg f]
 split
 ·exact e _
 ·rename_i k7
  have k8 : o.kind = 8 := by omega
  rw [if_neg (d k8)]
  exact e _
theorem OwnS.tookRun (S : OwnS w id r o b) (k : o.kind = 7 ∨ o.kind = 8) (f : 0 ≤ mailAt r o.s) : b = takeRun r o.r (mailAt r o.s).toNat := by
 cases S with
 | take _ _ => rfl
 | wait d _ m => exact absurd f m
 | after _ m _ => exact absurd f m
 | set1 h => omega
 | set2 h => omega
 | add v h _ => omega
 | self h => omega
 | start h => omega
 | fall _ v h _ _ _ => omega
 | go h => omega
 | cond h => omega
 | trap h => omega
 | other _ h _ _ => omega
theorem OwnS.waitRun (S : OwnS w id r o b) (k : o.kind = 7 ∨ o.kind = 8) (f : ¬ 0 ≤ mailAt r o.s) (hg : r.state = 1) : (o.kind = 8 ∧ r.due < 0 ∧ b.at_ = o.to ∧ b.state = 1 ∧ b.due = 0) ∨
  ((o.kind = 8 → ¬ r.due < 0) ∧ b.state = 2 ∧ b.at_ = r.at_ ∧ (o.kind = 7 ∧ b.due = 0 ∨ o.kind = 8 ∧ b.due = w.now + o.v.n)) := by
 cases S with
 | take _ m => exact absurd m f
 | wait d h m =>
  right
  refine ⟨fun k8 => ?_, rfl, rfl, ?_⟩
  ·rcases h with ⟨h, _⟩ | ⟨_, h, _⟩
   ·omega
   ·exact h
  ·rcases h with ⟨h, e⟩ | ⟨h, _, e⟩
   ·exact .inl ⟨h, e⟩
   ·exact .inr ⟨h, e⟩
 | after h m d => exact .inl ⟨h, d, rfl, hg, rfl⟩
 | set1 h => omega
 | set2 h => omega
 | add v h _ => omega
 | self h => omega
 | start h => omega
 | fall _ v h _ _ _ => omega
 | go h => omega
 | cond h => omega
 | trap h => omega
 | other _ h _ _ => omega
end Go.Proofs.YtmkiojlebjknlaaGreat

/-
 WHAT IS DRAWN: a world, often one with links; a run, and how it ends.
-/
set_option maxRecDepth 8000
namespace Go.Proofs.YtmkiojlebjknlaaGreat
open Go.AM
variable {h h' k : H} {p n m lo : Nat} {d : Cell} {bs : List Int} {w : PWorld} {c : WorldC} {cs : List RunC} {s : Cell}
set_option maxRecDepth 16000 in
set_option maxHeartbeats 4000000 in
theorem c_l72Linked (R : Rdr h p d bs n) (hn : n ≤ 60000) : @Wp _ (Dz.den 32 [.c (.ptr p 0 0)] h) ⟨DrawQ h p d bs n 24000 (SeenP h.length)⟩ := by
 refine den_wp rfl Tryz.func32 rfl ?_
 have hp := R.lt
 obtain ⟨w, c, cs, k2, q2, e2, v2, S2, R2, hq2, ch2⟩ := world1 R (by omega)
 simp only [encW] at e2
 simp [Tryz.f32, e2]
 refine count_wpG (σ := H × WorldC × List RunC × PWorld × Nat) 5 (fun i g => ([.c (.ptr p 0 0), .c (ci i)], [encW ⟨.nils, .nils, .nils, 0, 0, 0, 0⟩, encW g.2.1], [], g.1))
  (fun i g => WorldV h.length g.1 g.2.2.2.1 g.2.1 g.2.2.1 g.2.2.1 ∧ Seen g.2.2.2.1 ∧ Rdr g.1 p d bs g.2.2.2.2 ∧ g.2.2.2.2 ≤ n + 3400 + 3500 * i ∧ Chg h (fun id => id = p) g.1) (k2, c, cs, w, q2) (by simp)
  ⟨v2, S2, R2, by simp only; omega, ch2⟩ ?_ ?_
 ·rintro i ⟨g, c, cs, w, q⟩ hi ⟨v, S, R, hq, cg⟩
  simp only at v S R hq cg ⊢
  have hi' : (i : Int) < 5 := by omega
  have wj : IntKind.i64.wrap ((i : Int) + 1) = (i : Int) + 1 := wrapS (by omega) (by omega)
  obtain ⟨N, k3, e3, b3, R3, ch3⟩ := pick1 R (by omega) (m := 8) (by omega) (by omega)
  have v4 := v.chgp ch3 hp
  have l3 : h.length ≤ k3.length := Nat.le_trans cg.len ch3.len
  have rt := v4.rd.runs
  have hrs := rt.sl
  have hlen := rt.len
  have many := S.many
  rw [Wp_body]
  by_cases z : N = 0
  ·subst z
   simp at e3
   simp [hi', e3]
   exact ⟨_, k3, _, rfl, ⟨w, c, cs, rfl, v4, S⟩, R3, by omega, cg.pp ch3⟩
  ·have z' : 0 < N := by omega
   simp [hi', e3, z']
   refine count_wpG (σ := Int) cs.length (fun j g => ([.c (.ptr p 0 0), .c (ci i), .c (ci g), .c (ci j)], [encW ⟨.nils, .nils, .nils, 0, 0, 0, 0⟩, encW c], [], k3)) (fun _ _ => True) 0 (by simp) trivial ?_ ?_
   ·intro j g hj _
    have hj' : j < w.runs.length := by omega
    have hr := rt.each j hj'
    have wk : IntKind.i64.wrap ((j : Int) + 1) = (j : Int) + 1 := wrapS (by omega) (by omega)
    rw [Wp_body]
    simp [hrs.lenA, hj, ixA_nat hrs, hrs.at, hr.links.lenA, hr.watched.lenA, wk]
    exact by unfold LexOk; kernel_rfl
   ·intro g _
    obtain ⟨w5, c5, cs5, k5, q5, e5, v5, S5, R5, hq5, ch5⟩ := world1 R3 (by omega)
    simp only [encW] at e5
    rw [Wp_body]
    by_cases g1 : 1 < g
    ·simp [hrs.lenA, g1]
     exact ⟨_, k3, _, rfl, ⟨w, c, cs, rfl, v4, S⟩, R3, by omega, cg.pp ch3⟩
    ·simp [hrs.lenA, g1, e5, wj]
     exact ⟨k5, c5, ⟨⟨rfl, rfl, rfl, rfl, rfl, rfl, rfl⟩, rfl⟩, cs5, w5, v5.low l3, S5, q5, R5, by omega, (cg.pp ch3).pp ch5⟩
 ·rintro ⟨g, c, cs, w, q⟩ ⟨v, S, R, hq, cg⟩
  simp only at v S R hq cg ⊢
  rw [Wp_body]
  simp
  exact ⟨_, g, _, rfl, ⟨w, c, cs, rfl, v, S⟩, R, by omega, cg⟩
def DrawnWF (h : H) (x : V × H) : Prop := ∃ k w c cs, ∃ id : Int, ∃ y : PVal, x = (.t [.g (encW c), .c (.int .i64 id), .g (encV y)], k) ∧ Ext h k ∧ WorldV h.length k w c cs cs ∧ Seen w ∧ 1 ≤ id ∧ id ≤ 12
set_option maxRecDepth 16000 in
set_option maxHeartbeats 4000000 in
theorem c_DrawFallEnd (hS : BytesA h s bs) : @Wp _ (Dz.den 8 [.c s] h) ⟨DrawnWF h⟩ := by
 refine den_wp rfl Tryz.func8 rfl ?_
 obtain ⟨_, e1, k1, d, bs1, rfl, x1, R1⟩ := c_l6Open hS
 obtain ⟨_, e2, _, k2, q2, rfl, ⟨w, c, cs, rfl, v2, S2⟩, R2, hq2, ch2⟩ := c_l72Linked R1 (by omega)
 have hp := R1.lt
 have l1 := x1.1
 have many := S2.many
 have hlen := v2.len
 obtain ⟨N, k3, e3, b3, R3, ch3⟩ := pick1 R2 (by omega) (m := cs.length) (by omega) (by omega)
 obtain ⟨M, k4, e4, b4, R4, ch4⟩ := pick1 R3 (by omega) (m := 24) (by omega) (by omega)
 obtain ⟨A, k5, e5, b5, R5, ch5⟩ := pick1 R4 (by omega) (m := 3) (by omega) (by omega)
 obtain ⟨B, k6, e6, b6, R6, ch6⟩ := pick1 R5 (by omega) (m := 24) (by omega) (by omega)
 have v6 := (((v2.chgp ch3 hp).chgp ch4 hp).chgp ch5 hp).chgp ch6 hp
 have hS2 := v2.runs
 have w1 : IntKind.i64.wrap (1 + (N : Int)) = 1 + (N : Int) := wrapS (by omega) (by omega)
 have fin : ∀ (id : Int) (y : PVal), 1 ≤ id ∧ id ≤ 12 → DrawnWF h (.t [.g (encW c), .c (.int .i64 id), .g (encV y)], k6) := fun id y hid => ⟨k6, w, c, cs, id, y, rfl, open_ext x1 hp ((((ch2.pp ch3).pp ch4).pp ch5).pp ch6), v6.low l1, S2, hid⟩
 simp only [encW] at e2
 have td : ∀ M : Nat, M < 24 → ∃ u : Int, IntKind.i64.wrap ((M : Int) / 23) = u ∧ 0 ≤ u ∧ u ≤ 1 := fun M hM => ⟨(M : Int) / 23, wrapS (by omega) (by omega), by omega, by omega⟩
 obtain ⟨u1, hu1⟩ := td M (by omega)
 obtain ⟨u2, hu2⟩ := td B (by omega)
 have w2 : IntKind.i64.wrap (u1 * 6) = u1 * 6 := wrapS (by omega) (by omega)
 have w3 : IntKind.i64.wrap (1 + (N : Int) + u1 * 6) = 1 + (N : Int) + u1 * 6 := wrapS (by omega) (by omega)
 have w4 : IntKind.i64.wrap (u2 * 10) = u2 * 10 := wrapS (by omega) (by omega)
 have w5 : IntKind.i64.wrap ((A : Int) + u2 * 10) = (A : Int) + u2 * 10 := wrapS (by omega) (by omega)
 have f := fin (1 + (N : Int) + u1 * 6) ⟨2, (A : Int) + u2 * 10⟩ (by omega)
 simp [Tryz.f8, e1, e2, hS2.lenA, e3, e4, e5, e6, hu1.1, hu2.1, w1, w2, w3, w4, w5]
 exact ⟨by kernel_rfl, rfl, f⟩
end Go.Proofs.YtmkiojlebjknlaaGreat

/-
 WHAT FallEnd ANSWERS, whatever the world.
-/
set_option maxRecDepth 8000
namespace Go.Proofs.YtmkiojlebjknlaaGreat
open Go.AM
variable {h k : H} {lo : Nat} {w : PWorld} {c : WorldC} {cs : List RunC}
noncomputable def fallEndP (w : PWorld) (id : Int) (v : PVal) : PWorld := if tt (WorldOk w ∧ valOk v = true ∧ w.sent < 9900) then fallP w id v else emptyW
theorem fall_none {id : Int} (a : ¬ Alive w id) (v : PVal) : fallP w id v = w := by unfold fallP fallN; rw [if_neg a]; rfl
set_option maxRecDepth 16000 in
theorem c_FallEnd (hV : WorldV lo h w c cs cs) (id : Int) (v : PVal) : @Wp _ (Dz.den 11 [.g (encW c), .c (.int .i64 id), .g (encV v)] h) ⟨CopyWQ h (fallEndP w id v)⟩ := by
 refine den_wp rfl Tryz.func11 rfl ?_
 have e := c_WorldOk hV.rd
 have hrs := hV.runs
 have hlen := hV.len
 simp only [encW] at e
 unfold fallEndP
 by_cases a : WorldOk w
 rotate_left
 ·have a' : tt (WorldOk w) = false := by simpa using a
  rw [a'] at e
  rw [if_neg (by simp [a])]
  simp [Tryz.f11, e]
  exact ⟨h, _, _, rfl, Ext.refl _, emptyV h⟩
 have a' : tt (WorldOk w) = true := by simpa using a
 rw [a'] at e
 by_cases hv : valOk v = true
 rotate_left
 ·have hv' : valOk ⟨v.k, v.n⟩ = false := by simpa using hv
  rw [if_neg (by simp [hv])]
  simp [Tryz.f11, e, hv']
  exact ⟨h, _, _, rfl, Ext.refl _, emptyV h⟩
 have hv' : valOk ⟨v.k, v.n⟩ = true := hv
 by_cases hs : 9900 ≤ w.sent
 ·have hs' : (9900 : Int) ≤ c.sent := by rw [hV.sent]; exact hs
  have hs2 : ¬ w.sent < 9900 := by omega
  rw [if_neg (by simp [hs2])]
  simp [Tryz.f11, e, hv', hs']
  exact ⟨h, _, _, rfl, Ext.refl _, emptyV h⟩
 have hs' : ¬ (9900 : Int) ≤ c.sent := by rw [hV.sent]; exact hs
 have hs2 : w.sent < 9900 := by omega
 rw [if_pos (by simp [a, hv, hs2])]
 have G := ((ok_iff w).1 a).1
 have many := G.inv.many
 obtain ⟨_, e1, h1, c1, cs1, rfl, x1, v1⟩ := c_l12Copy hV a.le
 simp only [encW] at e1
 by_cases hid : 1 ≤ id ∧ id ≤ w.runs.length
 rotate_left
 ·rw [fall_none (fun q => hid q.1)]
  have hid' : ¬ (1 ≤ id ∧ id ≤ (cs.length : Int)) := by omega
  simp [Tryz.f11, e, hv', hs', hrs.lenA, hid', e1]
  exact ⟨h1, c1, cs1, rfl, x1, v1⟩
 obtain ⟨i, ei, hi, er, ei2⟩ := runAt_eq (w := w) (id := id) hid
 have hi' : i < cs.length := by omega
 have E := hV.each i hi
 have hid' : 1 ≤ id ∧ id ≤ (cs.length : Int) := by omega
 have wi : IntKind.i64.wrap (id - 1) = (i : Int) := by rw [wrapS (by omega) (by omega)]; omega
 by_cases s3 : w.runs[i].state = 3
 ·rw [fall_none (fun q => q.2 (by rw [er]; exact s3))]
  simp [Tryz.f11, e, hv', hs', hrs.lenA, hid', wi, ixA_nat hrs, hi', hrs.at, E.state, s3, e1]
  exact ⟨h1, c1, cs1, rfl, x1, v1⟩
 obtain ⟨_, e2, h2, c2, cs2, rfl, v2, s2⟩ := c_l13End v1 G.inv (by omega) hid hv
 simp only [encW, encV] at e2
 simp [Tryz.f11, e, hv', hs', hrs.lenA, hid', wi, ixA_nat hrs, hi', hrs.at, E.state, s3, e1, e2]
 exact ⟨by kernel_rfl, h2, c2, cs2, rfl, copy_step x1 v1 s2, v2⟩
set_option maxRecDepth 16000 in
theorem c_IFallEnd2 (hV : WorldV lo h w c cs cs) (id : Int) (v : PVal) : @Wp _ (Dz.den 9 [.g (encW c), .c (.int .i64 id), .g (encV v)] h) ⟨CopyWQ h (fallEndP w id v)⟩ := by
 by_cases q : WorldOk w ∧ valOk v = true ∧ w.sent < 9900
 ·refine den_wp rfl Tryz.func9 rfl ?_
  obtain ⟨a, hv, hs⟩ := q
  have e := c_IWorldOk hV.rd
  rw [tt_fits a] at e
  unfold fallEndP
  rw [if_pos (by simp [a, hv, hs])]
  have G := ((ok_iff w).1 a).1
  obtain ⟨_, e1, h1, c1, cs1, rfl, x1, v1⟩ := c_IWCopied hV a.le
  have P1 := v1.inBlock x1
  have hgp := P1.at_
  have own := fun id ho => P1.v.own.owned_ge id ho
  obtain ⟨_, e2, h2, c2, cs2, rfl, P2, s2, _⟩ := c_fall P1 G.inv (by omega) id (why := v) hv
  have hv' : valOk ⟨v.k, v.n⟩ = true := hv
  have hgp2 := P2.at_
  have hs' : ¬ (9900 : Int) ≤ c.sent := by rw [hV.sent]; omega
  simp only [encW, encV] at e e1 e2
  simp [Tryz.f9, e, hv', hs', e1, at_blk hgp, e2, at_blk hgp2]
  exact ⟨h2, c2, cs2, rfl, s2.fromBlock x1 own, P2.v⟩
 ·refine den_wp rfl Tryz.func9 rfl ?_
  unfold fallEndP
  rw [if_neg (by simpa using q)]
  have e := c_IWorldOk hV.rd
  simp only [encW] at e
  by_cases a : WorldOk w
  ·rw [tt_fits a] at e
   by_cases hv : valOk v = true
   ·have hv' : valOk ⟨v.k, v.n⟩ = true := hv
    have hs' : (9900 : Int) ≤ c.sent := by rw [hV.sent]; exact Classical.byContradiction fun n => q ⟨a, hv, by omega⟩
    simp [Tryz.f9, e, hv', hs']
    exact ⟨h, _, _, rfl, Ext.refl _, emptyV h⟩
   ·have hv' : valOk ⟨v.k, v.n⟩ = false := by simpa using hv
    simp [Tryz.f9, e, hv']
    exact ⟨h, _, _, rfl, Ext.refl _, emptyV h⟩
  ·have a' : tt (WorldFits w) = false := by
    have b : ¬ WorldFits w := fun q => a ((fits_iff w).1 q)
    simpa using b
   rw [a'] at e
   simp [Tryz.f9, e]
   exact ⟨h, _, _, rfl, Ext.refl _, emptyV h⟩
end Go.Proofs.YtmkiojlebjknlaaGreat
