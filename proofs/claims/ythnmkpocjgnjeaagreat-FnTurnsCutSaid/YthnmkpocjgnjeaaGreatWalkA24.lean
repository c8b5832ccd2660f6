/-
  What functions of the seat answer, each proved once; each under the condition that cells bear what it is given, as its statement says.
-/
import Derived.Test.YthnmkpocjgnjeaaGreatWalkA23
import Derived.Test.YthnmkpocjgnjeaaGreatWalkA21
set_option linter.all false
/-
 WHAT IS DRAWN: worlds with turns, with what happens, idle ones.
-/
set_option maxRecDepth 8000
namespace Go.Proofs.YthnmkpocjgnjeaaGreat
open Go.AM
variable {h h' k : H} {p n m lo : Nat} {d : Cell} {bs : List Int} {w : PWorld} {c : WorldC} {cs : List RunC} {s : Cell}
def DrawnWN (h : H) (x : V × H) : Prop := ∃ k w c cs, ∃ n : Int, x = (.t [.g (encW c), .c (.int .i64 n)], k) ∧ Ext h k ∧ WorldV h.length k w c cs cs ∧ Seen w ∧ -12 ≤ n ∧ n ≤ 11
set_option maxRecDepth 16000 in
theorem c_DrawPlayTurns (hS : BytesA h s bs) : @Wp _ (Dz.den 26 [.c s] h) ⟨DrawnWN h⟩ := by
 refine den_wp rfl Tryz.func26 rfl ?_
 obtain ⟨_, e1, k1, d, bs1, rfl, x1, R1⟩ := c_l6Open hS
 obtain ⟨w, c, cs, k2, q2, e2, v2, S2, R2, hq2, ch2⟩ := world1 R1 (by omega)
 have hp := R1.lt
 have l1 := x1.1
 obtain ⟨N, k3, e3, b3, R3, ch3⟩ := pick1 R2 (by omega) (m := 12) (by omega) (by omega)
 obtain ⟨M, k4, e4, b4, R4, ch4⟩ := pick1 R3 (by omega) (m := 24) (by omega) (by omega)
 have v4 := (v2.chgp ch3 hp).chgp ch4 hp
 have t1 : (M : Int).tdiv 23 = if M = 23 then 1 else 0 := by
  rw [Int.tdiv_eq_ediv_of_nonneg (by omega)]
  split <;> omega
 have fin : ∀ n : Int, -12 ≤ n ∧ n ≤ 11 → DrawnWN h (.t [.g (encW c), .c (.int .i64 n)], k4) := fun n hn => ⟨k4, w, c, cs, n, rfl, open_ext x1 hp ((ch2.pp ch3).pp ch4), v4.low l1, S2, hn⟩
 simp only [encW] at e2
 by_cases y : M = 23
 ·rw [if_pos y] at t1
  have w2 : IntKind.i64.wrap 1 = 1 := by decide
  have w3 : IntKind.i64.wrap 12 = 12 := by decide
  have w4 : IntKind.i64.wrap ((N : Int) - 12) = (N : Int) - 12 := wrap_i64 (by omega) (by omega)
  have f := fin ((N : Int) - 12) (by omega)
  simp [Tryz.f26, e1, e2, e3, e4, t1, w2, w3, w4]
  exact ⟨by kernel_rfl, f⟩
 ·rw [if_neg y] at t1
  have w2 : IntKind.i64.wrap 0 = 0 := by decide
  have w4 : IntKind.i64.wrap ((N : Int) - 0) = (N : Int) := by rw [Int.sub_zero]; exact wrapS (by omega) (by omega)
  have w4' : IntKind.i64.wrap (N : Int) = (N : Int) := wrapS (by omega) (by omega)
  have f := fin (N : Int) (by omega)
  simp [Tryz.f26, e1, e2, e3, e4, t1, w2, w4, w4']
  exact ⟨by kernel_rfl, f⟩
def DrawnWE (h : H) (x : V × H) : Prop := ∃ k w c cs, ∃ e : PEvent, x = (.t [.g (encW c), .g (encE e)], k) ∧ Ext h k ∧ WorldV h.length k w c cs cs ∧ Seen w
set_option maxRecDepth 16000 in
set_option maxHeartbeats 2000000 in
theorem c_DrawPlayDo (hS : BytesA h s bs) : @Wp _ (Dz.den 29 [.c s] h) ⟨DrawnWE h⟩ := by
 refine den_wp rfl Tryz.func29 rfl ?_
 obtain ⟨_, e1, k1, d, bs1, rfl, x1, R1⟩ := c_l6Open hS
 obtain ⟨w, c, cs, k2, q2, e2, v2, S2, R2, hq2, ch2⟩ := world1 R1 (by omega)
 have hp := R1.lt
 have l1 := x1.1
 have many := S2.many
 have hlen := v2.len
 obtain ⟨_, e3, _, k3, q3, rfl, ⟨x, rfl⟩, R3, hq3, ch3⟩ := c_l72Event R2 (by omega) v2.runs (by omega)
 obtain ⟨N, k4, e4, b4, R4, ch4⟩ := pick1 R3 (by omega) (m := 20) (by omega) (by omega)
 have v4 := (v2.chgp ch3 hp).chgp ch4 hp
 have C4 := (ch2.pp ch3).pp ch4
 have fin : ∀ (g : H) (x : PEvent), Chg k4 (fun id => id = h.length) g → DrawnWE h (.t [.g (encW c), .g (encE x)], g) := fun g x cg => ⟨g, w, c, cs, x, rfl, open_ext x1 hp (C4.pp cg), (v4.chgp cg hp).low l1, S2⟩
 simp only [encW, encE] at e2 e3
 by_cases y0 : N = 0
 ·subst y0
  obtain ⟨j, k5, hj, e5, R5, c5, i5, a5⟩ := pickRow R4 (by omega) [(0 : Int), 5, -1] (by simp) (by simp)
  have f := fin k5 ⟨[(0 : Int), 5, -1][j], x.a, x.v⟩ c5
  simp at e4 e5 i5 a5
  simp [Tryz.f29, e1, e2, e3, e4, e5, i5, a5]
  exact ⟨by kernel_rfl, by kernel_rfl, f⟩
 have y0' : ¬ (N : Int) = 0 := by omega
 by_cases y1 : N = 1
 ·subst y1
  obtain ⟨j, k5, hj, e5, R5, c5, i5, a5⟩ := pickRow R4 (by omega) [(0 : Int), 7] (by simp) (by simp)
  have f := fin k5 ⟨x.kind, [(0 : Int), 7][j], x.v⟩ c5
  simp at e4 e5 i5 a5
  simp [Tryz.f29, e1, e2, e3, e4, e5, i5, a5]
  exact ⟨by kernel_rfl, by kernel_rfl, f⟩
 have y1' : ¬ (N : Int) = 1 := by omega
 by_cases y2 : N = 2
 ·subst y2
  obtain ⟨_, e5, _, k5, q5, rfl, ⟨u, rfl⟩, R5, hq5, c5⟩ := c_l71Val R4 (by omega)
  have f := fin k5 ⟨x.kind, x.a, u⟩ c5
  simp at e4
  simp only [encV] at e5
  simp [Tryz.f29, e1, e2, e3, e4, e5]
  exact ⟨by kernel_rfl, by kernel_rfl, f⟩
 have y2' : ¬ (N : Int) = 2 := by omega
 have f := fin k4 x (Chg.refl _ _)
 simp [Tryz.f29, e1, e2, e3, e4, y0, y0', y1, y1', y2, y2']
 exact ⟨by kernel_rfl, by kernel_rfl, f⟩
end Go.Proofs.YthnmkpocjgnjeaaGreat

/-
 WHAT WorldGive, FallEnd, WorldIdle ANSWER.
-/
set_option maxRecDepth 8000
namespace Go.Proofs.YthnmkpocjgnjeaaGreat
open Go.AM
variable {h k : H} {lo : Nat} {w : PWorld} {c : WorldC} {cs : List RunC}
set_option maxRecDepth 16000 in
theorem c_IWorldGive (hV : WorldV lo h w c cs cs) (a : WorldOk w) (hs : w.sent < 9000) (id : Int) {v : PVal} (hv : valOk v = true) : @Wp _ (Dz.den 25 [.g (encW c), .c (.int .i64 id), .g (encV v)] h) ⟨CopyWQ h (giveP w id v)⟩ := by
 refine den_wp rfl Tryz.func25 rfl ?_
 have e := c_IWorldOk hV.rd
 rw [tt_fits a] at e
 have G := ((ok_iff w).1 a).1
 obtain ⟨_, e1, h1, c1, cs1, rfl, x1, v1⟩ := c_IWCopied hV a.le
 have P1 := v1.inBlock x1
 have hgp := P1.at_
 have own := fun id ho => P1.v.own.owned_ge id ho
 obtain ⟨_, e2, h2, c2, cs2, rfl, P2, s2, _⟩ := c_give P1 (G.inv.saneI (by omega)) id v hv
 have hv' : valOk ⟨v.k, v.n⟩ = true := hv
 have hgp2 := P2.at_
 have hs' : ¬ (9990 : Int) ≤ c.sent := by rw [hV.sent]; omega
 simp only [encW, encV] at e e1 e2
 simp [Tryz.f25, e, hv', hs', e1, at_blk hgp, e2, at_blk hgp2]
 exact ⟨h2, c2, cs2, rfl, s2.fromBlock x1 own, P2.v⟩
set_option maxRecDepth 16000 in
theorem c_IFallEnd (hV : WorldV lo h w c cs cs) (a : WorldOk w) (hs : w.sent < 9000) (id : Int) {v : PVal} (hv : valOk v = true) : @Wp _ (Dz.den 24 [.g (encW c), .c (.int .i64 id), .g (encV v)] h) ⟨CopyWQ h (fallP w id v)⟩ := by
 refine den_wp rfl Tryz.func24 rfl ?_
 have e := c_IWorldOk hV.rd
 rw [tt_fits a] at e
 have G := ((ok_iff w).1 a).1
 obtain ⟨_, e1, h1, c1, cs1, rfl, x1, v1⟩ := c_IWCopied hV a.le
 have P1 := v1.inBlock x1
 have hgp := P1.at_
 have own := fun id ho => P1.v.own.owned_ge id ho
 obtain ⟨_, e2, h2, c2, cs2, rfl, P2, s2, _⟩ := c_fall P1 G.inv (by omega) id (why := v) hv
 have hv' : valOk ⟨v.k, v.n⟩ = true := hv
 have hgp2 := P2.at_
 have hs' : ¬ (9900 : Int) ≤ c.sent := by rw [hV.sent]; omega
 simp only [encW, encV] at e e1 e2
 simp [Tryz.f24, e, hv', hs', e1, at_blk hgp, e2, at_blk hgp2]
 exact ⟨h2, c2, cs2, rfl, s2.fromBlock x1 own, P2.v⟩
end Go.Proofs.YthnmkpocjgnjeaaGreat

/-
 WORLDS IN PLAIN DATA: the order of turns.
-/
set_option maxRecDepth 8000
namespace Go.Proofs.YthnmkpocjgnjeaaGreat
variable {w w' : PWorld} {id hd : Int}
def Dead (w : PWorld) (k : Int) : Prop := 1 ≤ k ∧ ∃ r, w.runs[(k - 1).toNat]? = some r ∧ r.state = 3
theorem WK.dead {n : Nat} {k0 : Int} (x : WK (fun _ => False) n k0 w w') {k : Int} (d : Dead w k) : Dead w' k := by
 obtain ⟨h1, r, h2, h3⟩ := d
 obtain ⟨r', h4, q⟩ := x.each _ r (fun h => h) h2
 exact ⟨h1, r', h4, q.ended h3⟩
structure QW (hd : Int) (w w' : PWorld) : Prop where
 q : ∃ (p : Int → Bool) (t : List Int), w'.queue = w.queue.filter p ++ t ∧ (∀ k ∈ w.queue, p k = false → k = hd ∨ Dead w' k) ∧ ∀ k ∈ t, k = hd ∨ ¬ Dead w k
 dead : ∀ k, k ≠ hd → Dead w k → Dead w' k
theorem filt (l : List Int) : l.filter (fun _ => true) = l := List.filter_eq_self.2 (by simp)
theorem QW.same (e : w'.queue = w.queue) (d : ∀ k, k ≠ hd → Dead w k → Dead w' k) : QW hd w w' := ⟨⟨fun _ => true, [], by rw [e, filt, List.append_nil], by simp, by simp⟩, d⟩
theorem QW.wk {n : Nat} {k0 : Int} (e : w'.queue = w.queue) (x : WK (fun _ => False) n k0 w w') : QW hd w w' := QW.same e fun _ _ d => x.dead d
theorem QW.refl (w : PWorld) : QW hd w w := QW.same rfl fun _ _ d => d
theorem QW.trans {a b c : PWorld} (x : QW hd a b) (y : QW hd b c) : QW hd a c := by
 obtain ⟨p, t, e, r, n⟩ := x.q
 obtain ⟨p', t', e', r', n'⟩ := y.q
 refine ⟨⟨fun k => p k && p' k, t.filter p' ++ t', ?_, fun k hk hp => ?_, fun k hk => ?_⟩, fun k h d => y.dead k h (x.dead k h d)⟩
 ·rw [e', e, List.filter_append, List.filter_filter, List.append_assoc]
  congr 2
  funext k; exact Bool.and_comm _ _
 ·by_cases hh : k = hd
  ·exact .inl hh
  ·right
   by_cases hpk : p k = true
   ·have : k ∈ b.queue := by rw [e]; exact List.mem_append_left _ (List.mem_filter.2 ⟨hk, hpk⟩)
    have hp' : p' k = false := by simpa [hpk] using hp
    exact (r' k this hp').resolve_left hh
   ·have hpf : p k = false := by simpa using hpk
    exact y.dead k hh ((r k hk hpf).resolve_left hh)
 ·rcases List.mem_append.1 hk with h | h
  ·exact n k (List.mem_filter.1 h).1
  ·rcases n' k h with h1 | h1
   ·exact .inl h1
   ·by_cases hh : k = hd
    ·exact .inl hh
    ·exact .inr fun d => h1 (x.dead k hh d)
theorem QW.own {r' : PRun} {w2 : PWorld} (h1 : 1 ≤ hd) (er : w2.runs = w.runs.set (hd - 1).toNat r') (eq : w2.queue = w.queue ∨ w2.queue = less w.queue hd) : QW hd w w2 := by
 have dd : ∀ k, k ≠ hd → Dead w k → Dead w2 k := fun k h ⟨k1, r, h2, h3⟩ => ⟨k1, r, by rw [er, List.getElem?_set_ne (by omega)]; exact h2, h3⟩
 rcases eq with e | e
 ·exact QW.same e dd
 ·refine ⟨⟨fun x => decide (x ≠ hd), [], by rw [e]; simp [less], fun k hk hp => .inl (by simpa using hp), by simp⟩, dd⟩
theorem give_q (w : PWorld) (k : Int) (v : PVal) : QW hd w (giveP w k v) := by
 have dd : ∀ x, x ≠ hd → Dead w x → Dead (giveP w k v) x := fun x _ d => (give_wk (p := fun _ => False) (id := 0) w k v).dead d
 unfold giveP at dd ⊢
 split
 ·rename_i t
  rw [if_pos t] at dd
  split
  ·rename_i wk
   rw [if_pos wk] at dd
   refine ⟨⟨fun _ => true, [k], by rw [filt], by simp, fun x hx => ?_⟩, dd⟩
   simp at hx; subst hx
   right
   rintro ⟨_, r, h2, h3⟩
   have t2 := t.2.1
   rw [runAt_some h2] at t2
   exact t2 h3
  ·rename_i wk
   rw [if_neg wk] at dd
   exact QW.same rfl dd
 ·rename_i t
  rw [if_neg t] at dd
  exact QW.same rfl dd
theorem tell_q (k : Int) : ∀ (ks : List Int) (w : PWorld), QW hd w (tell k w ks)
 | [], w => QW.refl w
 | a :: ks, w => by
  unfold tell
  rw [List.foldl_cons]
  exact (give_q w a _).trans (tell_q k ks _)
theorem links_q (w : PWorld) (k : Int) (xs : List Int) : QW hd w (setRun w k { runAt w k with links := xs }) :=
 QW.wk (n := 0) (k0 := 0) rfl (WK.setRun fun r hr => .inr (by rw [hr]; exact ⟨rfl, rfl, rfl, rfl, rfl, rfl, .inr (List.prefix_refl _), fun h => h, .inl rfl, .inl rfl, .inl rfl⟩))
theorem watched_q (w : PWorld) (k : Int) (xs : List Int) : QW hd w (setRun w k { runAt w k with watched := xs }) :=
 QW.wk (n := 0) (k0 := 0) rfl (WK.setRun fun r hr => .inr (by rw [hr]; exact ⟨rfl, rfl, rfl, rfl, rfl, rfl, .inr (List.prefix_refl _), fun h => h, .inl rfl, .inl rfl, .inl rfl⟩))
theorem linkStep_q (k : Int) (why : PVal) (x : PWorld × List Int) (a : Int) : QW hd x.1 (linkStep k why x a).1 := by
 have s : QW hd x.1 (setRun x.1 a { runAt x.1 a with links := less (runAt x.1 a).links k }) := links_q _ _ _
 unfold linkStep
 split
 ·exact s
 ·split
  ·exact s.trans (give_q _ _ _)
  ·exact s
theorem endLinks_q (k : Int) (why : PVal) : ∀ (ks : List Int) (x : PWorld × List Int), QW hd x.1 (ks.foldl (linkStep k why) x).1
 | [], x => QW.refl _
 | a :: ks, x => by
  rw [List.foldl_cons]
  exact (linkStep_q k why x a).trans (endLinks_q k why ks _)
theorem endP_q (w : PWorld) {k : Int} (hk : 1 ≤ k ∧ k ≤ w.runs.length) (why : PVal) : QW hd w (endP w k why).1 := by
 obtain ⟨i, e, hi, er, ei⟩ := runAt_eq hk
 have b : QW hd w (endBase w k why) := by
  have gd : Dead (endBase w k why) k := ⟨hk.1, unwatch k (clearRun (runAt w k) why), by unfold endBase; simp only; rw [ei]; simp [hi], rfl⟩
  refine ⟨⟨fun x => decide (x ≠ k), [], by unfold endBase less; simp, fun x hx hp => ?_, by simp⟩, fun x hh d => ?_⟩
  ·have : x = k := by simpa using hp
   subst this; exact .inr gd
  ·by_cases hxk : x = k
   ·subst hxk; exact gd
   ·obtain ⟨x1, r, h2, h3⟩ := d
    refine ⟨x1, unwatch k r, ?_, h3⟩
    unfold endBase
    simp only
    rw [List.getElem?_map, List.getElem?_set_ne (by omega), h2]
    rfl
 unfold endP
 exact (b.trans (endLinks_q k why _ (endBase w k why, []))).trans (tell_q k _ _)
theorem fallN_q (why : PVal) : ∀ (n : Nat) (w : PWorld) (ks : List Int), QW hd w (fallN n w ks why)
 | 0, w, ks => QW.refl w
 | n + 1, w, [] => QW.refl w
 | n + 1, w, k :: ks => by
  unfold fallN
  split
  ·rename_i a
   exact (endP_q w a.1 why).trans (fallN_q why n _ _)
  ·exact fallN_q why n w ks
theorem fall_q (w : PWorld) (k : Int) (why : PVal) : QW hd w (fallP w k why) := fallN_q why 64 w [k]
theorem step_q (w : PWorld) (hid : 1 ≤ id ∧ id ≤ w.runs.length) : QW id w (stepP w id) := by
 have own : ∀ {r' : PRun}, QW id w (setRun w id r') := fun {r'} => QW.own hid.1 (r' := r') rfl (.inl rfl)
 have wait : ∀ d, QW id w (waitP w id d) := fun d => QW.own hid.1 (r' := { runAt w id with state := 2, due := d }) rfl (.inr rfl)
 unfold stepP
 simp only
 split
 ·exact own
 split
 ·exact own
 split
 ·split
  ·exact fall_q w id _
  ·exact own
 split
 ·exact own
 split
 ·unfold beginP
  split
  ·exact own
  ·have a1 : QW id w (addRunP w id (codeAt w (runAt w id).at_)) := by
    refine ⟨⟨fun _ => true, [(w.runs.length : Int) + 1], by simp only [addRunP]; rw [filt], by simp, fun x hx => ?_⟩, fun x _ ⟨x1, r, h2, h3⟩ => ⟨x1, r, ?_, h3⟩⟩
    ·simp at hx; subst hx
     right
     rintro ⟨_, r, h2, _⟩
     have := (List.getElem?_eq_some_iff.1 h2).1
     omega
    ·simp only [addRunP]; rw [List.getElem?_append_left (List.getElem?_eq_some_iff.1 h2).1]; exact h2
   exact a1.trans (QW.own hid.1 rfl (.inl rfl))
 split
 ·unfold takeP
  split
  ·exact QW.own hid.1 (r' := takeRun (runAt w id) _ _) rfl (.inl rfl)
  ·split
   ·exact wait _
   ·split
    ·exact own
    ·exact wait _
 split
 ·exact own
 split
 ·exact own
 split
 ·exact own
 split
 ·exact fall_q w id _
 unfold otherP
 simp only
 have nx : QW id w (setRun w id (nextRun (runAt w id))) := own
 split
 ·exact fall_q w id _
 split
 ·exact nx.trans (give_q _ _ _)
 split
 ·exact nx.trans (give_q _ _ _)
 split
 ·exact nx
 split
 ·unfold watchP
  exact nx.trans (watched_q _ _ _)
 split
 ·unfold linkP
  simp only
  exact (nx.trans (links_q _ _ _)).trans (links_q _ _ _)
 exact nx
theorem steps_q {id : Int} : ∀ (n : Nat) (w : PWorld), 1 ≤ id ∧ id ≤ w.runs.length → QW id w (stepsP n w id)
 | 0, w, _ => QW.refl w
 | n + 1, w, hid => by
  unfold stepsP
  split
  ·have s := step_wk w (id := id) (by omega)
   exact (step_q w hid).trans (steps_q n _ (by have := s.len; omega))
  ·exact QW.refl w
theorem turn_q (G : Good w) (hq : w.queue ≠ []) : ∃ (t : List Int), (turnP w).queue = (w.queue.filter fun k => decide (k ≠ headQ w) && !decide ((runAt (turnP w) k).state = 3)) ++ t := by
 have K := G.turnG
 obtain ⟨hid, h1⟩ := G.inv.head hq
 obtain ⟨C, _⟩ := G.countG hid
 have S := C.g.stepsG 3 (id := headQ w) (by have := C.k.len; omega)
 have c1 : QW (headQ w) w (countP' w (headQ w)) := QW.own hid.1 rfl (.inl rfl)
 have cs := c1.trans (steps_q (id := headQ w) 3 (countP' w (headQ w)) (by unfold countP'; rw [setRun_len]; exact hid))
 have tp : turnP w = backP (stepsP 3 (countP' w (headQ w)) (headQ w)) (headQ w) := by unfold turnP; rw [if_neg hq]
 have Gu := S.g
 generalize stepsP 3 (countP' w (headQ w)) (headQ w) = u at *
 obtain ⟨p, t, e, r, n⟩ := cs.q
 have key : ∃ p' t', (turnP w).queue = w.queue.filter p' ++ t' ∧ ∀ k ∈ w.queue, (p' k = true → k ≠ headQ w) ∧ (p' k = false → k = headQ w ∨ Dead (turnP w) k) := by
  rw [tp]
  by_cases g : (runAt u (headQ w)).state = 1
  ·have eb : backP u (headQ w) = { u with queue := less u.queue (headQ w) ++ [headQ w] } := by unfold backP; rw [if_pos g]
   rw [eb]
   refine ⟨fun k => p k && decide (k ≠ headQ w), less t (headQ w) ++ [headQ w], ?_, fun k hk => ⟨fun hp => ?_, fun hp => ?_⟩⟩
   ·simp only
    rw [e]
    unfold less
    rw [List.filter_append, List.filter_filter, List.append_assoc]
    congr 2
    funext k; exact Bool.and_comm _ _
   ·simp at hp; exact hp.2
   ·by_cases hh : k = headQ w
    ·exact .inl hh
    ·have : p k = false := by simpa [hh] using hp
     exact .inr ((r k hk this).resolve_left hh)
  ·have eb : backP u (headQ w) = u := by unfold backP; rw [if_neg g]
   rw [eb]
   have nh : headQ w ∉ u.queue := fun hh => by
    obtain ⟨i, ei, r2, hr2, h12⟩ := (Gu.inv.mem _).1 hh
    refine g ?_
    rw [runAt_some (r := r2) (by rw [ei, show ((i : Int) + 1 - 1).toNat = i by omega]; exact hr2)]
    exact h12
   refine ⟨p, t, e, fun k hk => ⟨fun hp hh => ?_, fun hp => r k hk hp⟩⟩
   subst hh
   exact nh (by rw [e]; exact List.mem_append_left _ (List.mem_filter.2 ⟨hk, hp⟩))
 obtain ⟨p', t', e', q⟩ := key
 refine ⟨t', ?_⟩
 rw [e']
 congr 1
 apply List.filter_congr
 intro k hk
 by_cases hp : p' k = true
 ·have ne := (q k hk).1 hp
  have hin : k ∈ (turnP w).queue := by rw [e']; exact List.mem_append_left _ (List.mem_filter.2 ⟨hk, hp⟩)
  obtain ⟨i, ei, r2, hr2, h12⟩ := (K.g.inv.mem _).1 hin
  have : (runAt (turnP w) k).state = 1 := by
   rw [runAt_some (r := r2) (by rw [ei, show ((i : Int) + 1 - 1).toNat = i by omega]; exact hr2)]
   exact h12
  simp [hp, ne, this]
 ·have hp : p' k = false := by simpa using hp
  rcases (q k hk).2 hp with hh | ⟨_, r2, h2, h3⟩
  ·rw [hp]; simp [hh]
  ·rw [runAt_some h2]; simp [hp, h3]
end Go.Proofs.YthnmkpocjgnjeaaGreat

/-
 WORLDS IN PLAIN DATA: what a step makes of the run whose step it is.
-/
set_option maxRecDepth 8000
namespace Go.Proofs.YthnmkpocjgnjeaaGreat
variable {w w' : PWorld} {id : Int} {i : Nat} {r : PRun} {o : POp}
inductive OwnS (w : PWorld) (id : Int) (r : PRun) (o : POp) : PRun → Prop
 | set1 (k : o.kind = 1) : OwnS w id r o (nextRun (putRun r o.r o.v))
 | set2 (k : o.kind = 2) : OwnS w id r o (nextRun (putRun r o.r (slotAt r o.s)))
 | add (v : PVal) (k : o.kind = 3) (h : addP (slotAt r o.r) (slotAt r o.s) = some v) : OwnS w id r o (nextRun (putRun r o.r v))
 | self (k : o.kind = 4) : OwnS w id r o (nextRun (putRun r o.r ⟨3, id⟩))
 | start (k : o.kind = 5) : OwnS w id r o (nextRun (putRun r o.r (if 6 < w.runs.length + 1 then ⟨0, 0⟩ else ⟨3, w.runs.length + 1⟩)))
 | fall (b : PRun) (v : PVal) (k : o.kind = 3 ∧ addP (slotAt r o.r) (slotAt r o.s) = none ∧ v = ⟨2, 1⟩ ∨ o.kind = 14 ∧ v = slotAt r o.r ∨ (o.kind = 6 ∨ o.kind = 11 ∨ o.kind = 12) ∧ (slotAt r o.r).k ≠ 3 ∧ v = ⟨2, 2⟩) (q : RunK r b) (e : b.state = 3) (y : b.why = v) : OwnS w id r o b
 | take (k : o.kind = 7 ∨ o.kind = 8) (m : 0 ≤ mailAt r o.s) : OwnS w id r o (takeRun r o.r (mailAt r o.s).toNat)
 | wait (d : Int) (k : o.kind = 7 ∧ d = 0 ∨ o.kind = 8 ∧ ¬ r.due < 0 ∧ d = w.now + o.v.n) (m : ¬ 0 ≤ mailAt r o.s) : OwnS w id r o { r with state := 2, due := d }
 | after (k : o.kind = 8) (m : ¬ 0 ≤ mailAt r o.s) (d : r.due < 0) : OwnS w id r o { r with due := 0, at_ := o.to }
 | go (k : o.kind = 9) : OwnS w id r o { r with at_ := o.to }
 | cond (k : o.kind = 10) : OwnS w id r o { r with at_ := if slotAt r o.r = o.v then o.to else r.at_ + 1 }
 | trap (k : o.kind = 13) : OwnS w id r o { r with trap := decide (o.v.n = 1), at_ := r.at_ + 1 }
 | other (b : PRun) (k : o.kind = 6 ∨ o.kind = 11 ∨ o.kind = 12) (t : (slotAt r o.r).k = 3) (q : RunK (nextRun r) b) : OwnS w id r o b
theorem Turn.alive (T : Turn w id i r o) : Alive w id := ⟨by have := T.e0; have := T.hi; omega, by rw [T.at_, T.going]; decide⟩
theorem Turn.step_own (T : Turn w id i r o) : ∃ b, (stepP w id).runs[i]? = some b ∧ OwnS w id r o b := by
 have hi := T.hi
 have own : ∀ (r' : PRun), (setRun w id r').runs[i]? = some r' := fun r' => by unfold setRun; simp only; rw [T.ei]; simp [hi]
 have hop := T.op
 have ok := T.ok
 have h14 := op_kind ok
 have fall : ∀ v, ∃ b, (fallP w id v).runs[i]? = some b ∧ RunK r b ∧ b.state = 3 ∧ b.why = v := fun v => by
  have x := fall_wk (id := 0) w id v
  obtain ⟨b, h1, q⟩ := x.each i r (fun h => h) T.get
  have eb : runAt (fallP w id v) id = b := runAt_some (by rw [T.ei]; exact h1)
  exact ⟨b, h1, q, by rw [← eb]; exact fall_ended T.alive.1 v, by rw [← eb]; exact fall_why T.alive v⟩
 unfold stepP
 simp only [T.at_, T.op]
 split
 ·rename_i k; exact ⟨_, own _, by rw [T.at_]; exact .set1 k⟩
 split
 ·rename_i k; exact ⟨_, own _, by rw [T.at_]; exact .set2 k⟩
 split
 ·rename_i k
  split
  ·rename_i hn
   obtain ⟨b, h1, q, e, y⟩ := fall ⟨2, 1⟩
   exact ⟨b, h1, .fall b _ (.inl ⟨k, hn, rfl⟩) q e y⟩
  ·rename_i v hv
   exact ⟨_, own _, by rw [T.at_]; exact .add v k hv⟩
 split
 ·rename_i k; exact ⟨_, own _, by rw [T.at_]; exact .self k⟩
 split
 ·rename_i k
  have st := OwnS.start (w := w) (id := id) (r := r) k
  unfold beginP
  split
  ·rename_i c
   rw [if_pos c] at st
   exact ⟨_, own _, by rw [T.at_]; exact st⟩
  ·rename_i c
   rw [if_neg c] at st
   have e : runAt (addRunP w id o) id = r := by
    rw [← T.at_]
    unfold runAt addRunP; simp only; rw [T.ei, List.getElem?_append_left hi]
   refine ⟨_, ?_, st⟩
   unfold setP setRun
   simp only
   rw [T.ei, e]
   rw [List.getElem?_set_self (by simp [addRunP]; omega)]
 split
 ·rename_i k78
  unfold takeP
  rw [T.at_]
  split
  ·rename_i m
   refine ⟨_, ?_, .take k78 m⟩
   unfold setRun; simp only; rw [T.ei]; simp [hi]
  ·rename_i m
   split
   ·rename_i k7
    refine ⟨_, ?_, .wait 0 (.inl ⟨k7, rfl⟩) m⟩
    unfold waitP setRun; simp only; rw [T.ei, T.at_]; simp [hi]
   ·rename_i k7
    have k8 : o.kind = 8 := by rcases k78 with h | h; exact absurd h k7; exact h
    split
    ·rename_i d
     exact ⟨_, own _, .after k8 m d⟩
    ·rename_i d
     refine ⟨_, ?_, .wait (w.now + o.v.n) (.inr ⟨k8, d, rfl⟩) m⟩
     unfold waitP setRun; simp only; rw [T.ei, T.at_]; simp [hi]
 split
 ·rename_i k; exact ⟨_, own _, .go k⟩
 split
 ·rename_i k; exact ⟨_, own _, .cond k⟩
 split
 ·rename_i k; exact ⟨_, own _, .trap k⟩
 split
 ·rename_i k
  obtain ⟨b, h1, q, e, y⟩ := fall (slotAt r o.r)
  exact ⟨b, h1, .fall b _ (.inr (.inl ⟨k, rfl⟩)) q e y⟩
 have ks : o.kind = 6 ∨ o.kind = 11 ∨ o.kind = 12 := by omega
 unfold otherP
 simp only [T.at_]
 have nx := own (nextRun r)
 have via : ∀ {w2 : PWorld}, WK (fun _ => False) 0 0 (setRun w id (nextRun r)) w2 → ∀ (t : (slotAt r o.r).k = 3), ∃ b, w2.runs[i]? = some b ∧ OwnS w id r o b := fun {w2} x t => by
  obtain ⟨b, h1, q⟩ := x.each i _ (fun h => h) nx
  exact ⟨b, h1, .other b ks t q⟩
 split
 ·rename_i t
  obtain ⟨b, h1, q, e, y⟩ := fall ⟨2, 2⟩
  exact ⟨b, h1, .fall b _ (.inr (.inr ⟨ks, t, rfl⟩)) q e y⟩
 rename_i t
 have t : (slotAt r o.r).k = 3 := Classical.byContradiction t
 split
 ·exact via (give_wk _ _ _) t
 split
 ·exact via (give_wk _ _ _) t
 split
 ·exact via (WK.refl _) t
 split
 ·unfold watchP
  exact via (WK.setRun fun r hr => .inr (by rw [hr]; exact ⟨rfl, rfl, rfl, rfl, rfl, rfl, .inr (List.prefix_refl _), fun h => h, .inl rfl, .inl rfl, .inl rfl⟩)) t
 split
 ·unfold linkP
  simp only
  exact via (WK.trans0 (WK.setRun fun r hr => .inr (by rw [hr]; exact ⟨rfl, rfl, rfl, rfl, rfl, rfl, .inr (List.prefix_refl _), fun h => h, .inl rfl, .inl rfl, .inl rfl⟩)) (WK.setRun fun r hr => .inr (by rw [hr]; exact ⟨rfl, rfl, rfl, rfl, rfl, rfl, .inr (List.prefix_refl _), fun h => h, .inl rfl, .inl rfl, .inl rfl⟩))) t
 exact via (WK.refl _) t
end Go.Proofs.YthnmkpocjgnjeaaGreat

/-
 WORLDS IN PLAIN DATA: what the laws of steps and turns ask.
-/
set_option maxRecDepth 8000
namespace Go.Proofs.YthnmkpocjgnjeaaGreat
variable {w w' : PWorld} {id : Int} {i : Nat} {r b : PRun} {o : POp}
theorem hasP {f s k : Int} (hf : 0 ≤ f ∧ f ≤ 15) (hs : 0 ≤ s ∧ s ≤ 3) (hk : 0 ≤ k ∧ k ≤ 3) (h : k ≠ s) : has (withB f s) k = has f k := by
 rw [hasW hf.1 hf.2 hs.1 hs.2 hk.1 hk.2]
 have hn : ¬ s = k := fun e => h e.symm
 simp [hn]
structure OwnT (r b : PRun) (o : POp) : Prop where
 slots : ∀ k : Nat, k ≤ 3 → (k : Int) ≠ o.r → b.slots[k]? = r.slots[k]? ∧ has b.full k = has r.full k
 at_ : b.state = 3 ∨ b.at_ = r.at_ + 1 ∨ b.at_ = o.to ∨ b.state = 2 ∧ b.at_ = r.at_
theorem OwnS.t (S : OwnS w id r o b) (R : RunOk r) (ok : opOk o = true) : OwnT r b o := by
 have hr := op_r ok
 have put : ∀ v, ∀ k : Nat, k ≤ 3 → (k : Int) ≠ o.r → (putRun r o.r v).slots[k]? = r.slots[k]? ∧ has (putRun r o.r v).full k = has r.full k := fun v k hk hne => by
  refine ⟨?_, hasP R.full hr (by omega) hne⟩
  simp only [putRun]
  rw [List.getElem?_set_ne (by omega)]
 cases S with
 | set1 k => exact ⟨put _, .inr (.inl rfl)⟩
 | set2 k => exact ⟨put _, .inr (.inl rfl)⟩
 | add v k h => exact ⟨put _, .inr (.inl rfl)⟩
 | self k => exact ⟨put _, .inr (.inl rfl)⟩
 | start k => exact ⟨put _, .inr (.inl rfl)⟩
 | fall _ v k q e y => exact ⟨fun k _ _ => by rw [q.slots, q.full]; exact ⟨rfl, rfl⟩, .inl e⟩
 | take k m => exact ⟨put _, .inr (.inl rfl)⟩
 | wait d k m => exact ⟨fun _ _ _ => ⟨rfl, rfl⟩, .inr (.inr (.inr ⟨rfl, rfl⟩))⟩
 | after k m d => exact ⟨fun _ _ _ => ⟨rfl, rfl⟩, .inr (.inr (.inl rfl))⟩
 | go k => exact ⟨fun _ _ _ => ⟨rfl, rfl⟩, .inr (.inr (.inl rfl))⟩
 | cond k =>
  refine ⟨fun _ _ _ => ⟨rfl, rfl⟩, ?_⟩
  by_cases c : slotAt r o.r = o.v
  ·exact .inr (.inr (.inl (by simp only; rw [if_pos c])))
  ·exact .inr (.inl (by simp only; rw [if_neg c]))
 | trap k => exact ⟨fun _ _ _ => ⟨rfl, rfl⟩, .inr (.inl rfl)⟩
 | other _ k t q => exact ⟨fun k _ _ => by rw [q.slots, q.full]; exact ⟨rfl, rfl⟩, .inr (.inl (by rw [q.at_]; rfl))⟩
structure SetF (id : Int) (r b : PRun) (o : POp) : Prop where
 k1 : o.kind = 1 → b.slots[o.r.toNat]?.getD default = o.v
 k2 : o.kind = 2 → b.slots[o.r.toNat]?.getD default = r.slots[o.s.toNat]?.getD default
 k4 : o.kind = 4 → b.slots[o.r.toNat]?.getD default = ⟨3, id⟩
 k3 : o.kind = 3 → match addP (slotAt r o.r) (slotAt r o.s) with | none => b.state = 3 ∧ b.why = ⟨2, 1⟩ | some v => b.slots[o.r.toNat]?.getD default = v
theorem OwnS.setfacts (S : OwnS w id r o b) (R : RunOk r) (ok : opOk o = true) : SetF id r b o := by
 have hr := op_r ok
 have hl := R.len
 have put : ∀ v, (nextRun (putRun r o.r v)).slots[o.r.toNat]?.getD default = v := fun v => by
  show (r.slots.set o.r.toNat v)[o.r.toNat]?.getD default = v
  rw [List.getElem?_set_self (by omega)]; rfl
 cases S with
 | set1 k => exact ⟨fun _ => put _, fun h => by omega, fun h => by omega, fun h => by omega⟩
 | set2 k => exact ⟨fun h => by omega, fun _ => put _, fun h => by omega, fun h => by omega⟩
 | add v k h => exact ⟨fun h => by omega, fun h => by omega, fun h => by omega, fun _ => by rw [h]; exact put v⟩
 | self k => exact ⟨fun h => by omega, fun h => by omega, fun _ => put _, fun h => by omega⟩
 | fall _ v k q e y => exact ⟨fun h => by omega, fun h => by omega, fun h => by omega, fun h => by
   rcases k with k | k | k
   ·rw [k.2.1]; exact ⟨e, by rw [y, k.2.2]⟩
   ·omega
   ·omega⟩
 | _ => exact ⟨fun h => by omega, fun h => by omega, fun h => by omega, fun h => by omega⟩
theorem OwnS.k5 (S : OwnS w id r o b) (R : RunOk r) (ok : opOk o = true) (h : o.kind = 5) : b.slots[o.r.toNat]?.getD default = if 6 < w.runs.length + 1 then ⟨0, 0⟩ else ⟨3, w.runs.length + 1⟩ := by
 have hr := op_r ok
 have hl := R.len
 cases S with
 | start k =>
  show (r.slots.set o.r.toNat _)[o.r.toNat]?.getD default = _
  rw [List.getElem?_set_self (by omega)]; rfl
 | _ => omega
end Go.Proofs.YthnmkpocjgnjeaaGreat
