/-
  What functions of the seat answer, each proved once; each under the condition that cells bear what it is given, as its statement says.
-/
import Derived.Test.YtmkiojlebjknlaaGreatWalkA3
set_option linter.all false
/-
 THE PROGRAM'S full: what it answers.
-/
set_option maxRecDepth 8000
namespace Go.Proofs.YtmkiojlebjknlaaGreat
open Go.AM
variable {h : H}
def rowI (n : Nat) : Nat → List Int
 | 0 => List.replicate n 0
 | i + 1 => (rowI n i).set i (-1)
@[simp] theorem rowI_length (n : Nat) : ∀ i, (rowI n i).length = n
 | 0 => by simp [rowI]
 | i + 1 => by simp [rowI, rowI_length n i]
theorem rowI_get (n : Nat) : ∀ i k, k < n → (rowI n i)[k]? = some (if k < i then -1 else 0)
 | 0, k, hk => by simp [rowI, hk]
 | i + 1, k, hk => by
  simp only [rowI, List.getElem?_set, rowI_length]
  by_cases e : i = k
  ·subst e; simp [hk]
  ·rw [if_neg e, rowI_get n i k hk]; congr 1; split <;> split <;> first | rfl | omega
theorem rowI_full (n : Nat) : (rowI n n).set 0 1 = full0 n := by
 apply List.ext_getElem?
 intro k
 by_cases hk : k < n
 ·simp only [full0, List.getElem?_set, rowI_length, List.length_replicate, rowI_get n _ k hk, List.getElem?_replicate, hk, ↓reduceIte]
 ·rw [List.getElem?_eq_none (by simp; omega), List.getElem?_eq_none (by simp [full0]; omega)]
def FullQ (h : H) (code : List POp) (r : V × H) : Prop := r.1 = .c (.sl h.length 0 code.length none) ∧ Ext h r.2 ∧ r.2.get h.length = some (blkI (fullR code))
set_option maxHeartbeats 2000000 in
theorem c_IFull {s : Cell} {code : List POp} (hc : Sl h s 6 encO code) (hok : codeOk code = true) : @Wp _ (Dz.den 54 [.c s] h) ⟨FullQ h code⟩ := by
 refine den_wp rfl Tryz.func54 rfl ?_
 have hcl := codeOk_len hok
 have hop := codeOk_op hok
 have hl : (code.length : Int) ≤ 4294967296 := by omega
 simp [Tryz.f54, hc.lenA, hl]
 have hp0 : (h.push ⟨false, 1, List.replicate code.length [.int .i64 0]⟩) = h.push (blkI (rowI code.length 0)) := by simp [blkI, rowI]
 rw [hp0]
 have hP : ∀ f, Sl (h.push (blkI f)) s 6 encO code := fun f => hc.push _
 have hG : ∀ f, (h.push (blkI f)).get h.length = some (blkI f) := fun f => get_push_self
 have W : ∀ f m x, m < List.length f → (h.push (blkI f)).write h.length m 0 [.int .i64 x] = some (h.push (blkI (f.set m x))) := fun f m x hm => by rw [write_blkI (hG f) hm, set_push]
 refine count_wp code.length (fun i => ([.c s, .c .nils, .c (.sl h.length 0 code.length none), .c (ci code.length), .c (ci i)], [], [], h.push (blkI (rowI code.length i)))) (fun i => True) rfl trivial ?_ ?_
 ·intro i hi _
  rw [Wp_body]
  simp [hi, W, wrap_succ (show i < sMost by simp [sMost]; omega), rowI]
 ·intro _
  have h0 : 0 < code.length := by omega
  rw [Wp_body]
  simp [W, h0, rowI_full]
  refine loop_wp (σ := List Int × Bool × H) (fun s1 => ([.c s, .c .nils, .c (.sl h.length 0 code.length none), .c (.bool s1.2.1)], [], [], s1.2.2))
   (fun s1 => (Ext h s1.2.2 ∧ s1.2.2.get h.length = some (blkI s1.1)) ∧ BitsOk s1.1 ∧ s1.1.length = code.length ∧ fullF code s1.1 = fullR code ∧ (s1.2.1 = false → s1.1 = fullR code)) (fun s1 => wts s1.1 + if s1.2.1 then 1 else 0)
   (full0 code.length, true, h.push (blkI (full0 code.length))) rfl ⟨⟨Ext.push _ _, get_push_self⟩, full0_ok _, full0_length _, rfl, by simp⟩ ?_
  rintro ⟨f, mv, g⟩ ⟨⟨x1, x2⟩, p1, p2, p3, p4⟩
  simp only at x1 x2 p1 p2 p3 p4 ⊢
  rw [Wp_body]
  cases mv
  ·simp
   exact ⟨rfl, x1, by rw [← p4 rfl]; exact x2⟩
  simp [(hc.ext x1).lenA]
  have q := fun i hi => passTo_props (code := code) (f := f) hop p1 p2 i hi
  refine count_wpG (σ := H) code.length (fun i g => ([.c s, .c .nils, .c (.sl h.length 0 code.length none), .c (.bool (tt (passTo code f i ≠ f))), .c (ci code.length), .c (ci i)], [], [], g)) (fun i g => Ext h g ∧ g.get h.length = some (blkI (passTo code f i))) g (by simp [passTo]) ⟨x1, x2⟩ ?_ ?_
  ·rintro i g hi ⟨y1, y2⟩
   obtain ⟨q1, q2, q3⟩ := q i (by omega)
   have hig : i < (passTo code f i).length := by omega
   have C := cells_blkI y2 hig
   have hcg := hc.ext y1
   have hir : (passTo code f i)[i]?.getD 0 = (passTo code f i)[i] := by simp [hig]
   have hbb := q1 _ (List.getElem_mem hig)
   rw [Wp_body]
   by_cases h0 : 0 ≤ (passTo code f i)[i]
   rotate_left
   ·have hneg : (passTo code f i)[i] < 0 := by omega
    simp [hi, C, hig, y2, hneg, hir, passTo, h0, wrap_succ (show i < sMost by simp [sMost]; omega)]
    exact y1
   have hneg : ¬ (passTo code f i)[i] < 0 := by omega
   obtain ⟨⟨v, k⟩, e, s', cs, e2, hx, hR⟩ := c_arrows hcg hi (hop _ (List.getElem_mem hi)) hcl.2
   simp only at e2
   subst e2
   simp only at hx hR
   simp [hi, C, hig, y2, hneg, hir, e, hR.sl.lenA]
   have hgl := H.get_lt y2
   have hkl := H.get_lt (hx.get y2)
   have hok2 := arrow_ranges (n := code.length) (i := i) (hop _ (List.getElem_mem hi))
   have hto := arrow_to hok hi
   have hfrom := foldA_from q1 (hop _ (List.getElem_mem hi)) hig h0
   rw [show (passTo code f i).length = code.length by omega] at hfrom
   have hws := hR.len
   have hpr := foldA_props q1 hig h0 (fun a ha => (hok2 a ha).2)
   generalize hwsE : nexts code[i] code.length i ++ tos code[i] = ws at *
   generalize hf1 : passTo code f i = f1 at *
   refine count_wp cs.length (fun j => ([.c s, .c .nils, .c (.sl h.length 0 code.length none), .c (.bool (tt (foldA f1 i (ws.take j) ≠ f))), .c (ci i), .c (ci code.length), .c (ci i), .c s', .c (ci cs.length), .c (ci j)], [], [], List.set k h.length (some (blkI (foldA f1 i (ws.take j)))))) (fun j => True) ?_ trivial ?_ ?_
   ·simp only [List.take_zero, foldA, List.foldl_nil, set_same (hx.get y2)]; rfl
   ·intro j hj _
    have hjw : j < ws.length := by omega
    obtain ⟨r1, r2, r3, r4, r5⟩ := hpr j (by omega)
    have ht0 := (hok2 _ (List.getElem_mem hjw)).1
    have hty := (hok2 _ (List.getElem_mem hjw)).2 _ r4 r5
    have htl := hto _ (List.getElem_mem hjw)
    obtain ⟨fid, caps, ec, _, ecall⟩ := hR.each j hjw
    have hnext := foldA_take (f := f1) (i := i) hjw
    generalize hw : ws[j] = w at *
    generalize hfj : foldA f1 i (ws.take j) = fj at *
    obtain ⟨t, htn⟩ : ∃ t : Nat, w.1 = t := ⟨w.1.toNat, by omega⟩
    have htl' : t < fj.length := by omega
    have hil : i < fj.length := by omega
    have hgK : H.get (List.set k h.length (some (blkI fj))) h.length = some (blkI fj) := get_set_self hkl
    have C1 := cells_blkI hgK htl'
    have C2 := cells_blkI hgK hil
    have e5 := ecall (List.set k h.length (some (blkI fj))) (fun id a b => get_set_ne (by omega)) _ r4 r5
    have hSK : Sl (List.set k h.length (some (blkI fj))) s' 2 id cs := hR.sl.same fun id hid => by
     have := hR.ids id hid
     exact get_set_ne (by omega)
    have hix : fj[i]?.getD 0 = fj[i] := by simp [hil]
    have htx : fj[t]?.getD 0 = fj[t] := by simp [htl']
    rw [hix] at e5 hty r4 r5
    have hbt := r1 _ (List.getElem_mem htl')
    have hand := andW hbt.1 hbt.2 hty.1 hty.2
    have hW := write_blkI (x := both fj[t] (w.2 fj[i])) hgK htl'
    rw [List.set_set] at hW
    have harr : arrowF fj i w = fj.set t (both fj[t] (w.2 fj[i])) := by
     simp only [arrowF, mergeF, hix]
     rw [show w.1.toNat = t by omega, htx]
    rw [Wp_body]
    simp [hj, ixA_nat hSK, hSK.at, ec, htn, hgK, C1, C2, htl', hil, e5, hand, hW]
    have hwj := wrap_succ (hR.sl.lt hj)
    simp at hwj
    have hset : fj.set t (both fj[t] (w.2 fj[i])) = foldA f1 i (ws.take (j + 1)) := by rw [hnext, harr]
    have hd := (arrowF_props (i := i) (a := w) r1 (by rw [hix]; exact r4) (by rw [hix]; exact r5) (by rw [← hw]; exact (hok2 _ (List.getElem_mem hjw)).2)).2.2
    rw [← hnext] at hd
    have hne := (q3.trans r3).ne hd
    refine ⟨by unfold LexOk; kernel_rfl, by omega, by omega, by omega, fun eq => ?_, fun ne => ⟨by omega, ⟨?_, hwj⟩, by rw [hset]⟩⟩
    ·have : foldA f1 i (ws.take (j + 1)) = fj := by rw [← hset, eq]; simp
     rw [this]
     exact ⟨⟨rfl, hwj⟩, rfl⟩
    ·refine hne.2 (.inr fun eq => ne ?_)
     rw [← hset] at eq
     have := congrArg (fun l => l[t]?) eq
     simpa [htl'] using this
   ·intro _
    rw [Wp_body]
    simp
    have e1 : foldA f1 i (ws.take cs.length) = passTo code f (i + 1) := by
     rw [List.take_of_length_le (by omega), hfrom]
     simp only [passTo]
     rw [hf1, hir, if_pos h0]
     simp [hi]
    rw [e1]
    refine ⟨_, ⟨⟨rfl, by have := wrap_succ (show i < sMost by simp [sMost]; omega); simpa using this⟩, rfl⟩, ?_, get_set_self hkl⟩
    exact (y1.trans hx).set (Nat.le_refl _) _
  ·rintro g ⟨y1, y2⟩
   obtain ⟨q1, q2, q3⟩ := q code.length (by omega)
   rw [Wp_body]
   simp
   have hps : passTo code f code.length = pass code f := rfl
   rw [hps] at q1 q2 q3 y2 ⊢
   refine ⟨pass code f, ?_⟩
   by_cases e : pass code f = f
   ·left
    have := fullF_stop e
    exact ⟨g, ⟨e, rfl⟩, ⟨⟨y1, y2⟩, q1, by omega, by rw [e, p3], by rw [e, ← p3, this]⟩, by rw [e]; omega⟩
   ·right
    have hd : wts (pass code f) < wts f := by
     rcases q3 with q3 | q3
     ·exact absurd q3 e
     ·exact q3
    exact ⟨g, ⟨e, rfl⟩, ⟨⟨y1, y2⟩, q1, by omega, by rw [← p3, fullF_step hd]⟩, hd⟩
end Go.Proofs.YtmkiojlebjknlaaGreat

/-
 THE PROGRAM'S CodeSafe: what it answers.
-/
set_option maxRecDepth 8000
namespace Go.Proofs.YtmkiojlebjknlaaGreat
open Go.AM
variable {h : H}
theorem shr_fin : ∀ x : Fin 16, ∀ u : Fin 4, decide (IntKind.i64.wrap ↑((Int.fdiv (x.val : Int) (2 ^ min u.val IntKind.i64.bits) % 2 ^ IntKind.i64.bits).toNat &&& (1 % 2 ^ IntKind.i64.bits)) = 0) = !has (x.val : Int) (u.val : Int) := by decide +kernel
theorem shrW {x : Int} {u : Nat} (h0 : 0 ≤ x) (h1 : x ≤ 15) (u1 : u ≤ 3) : decide (IntKind.i64.wrap ↑((Int.fdiv x (2 ^ min u IntKind.i64.bits) % 2 ^ IntKind.i64.bits).toNat &&& (1 % 2 ^ IntKind.i64.bits)) = 0) = !has x (u : Int) := by
 have := shr_fin ⟨x.toNat, by omega⟩ ⟨u, by omega⟩
 simp only at this
 rwa [show ((x.toNat : Nat) : Int) = x by omega] at this
theorem c_empty {id : Nat} {x : Int} (hg : h.get id = some ⟨false, 1, [[.int .i64 x]]⟩) (u : Int) (h0 : 0 ≤ x) (h1 : x ≤ 15) (u0 : 0 ≤ u) (u1 : u ≤ 3) :
  Dz.den 92 [.c (.int .i64 u), .c (.ptr id 0 0)] h = some (.c (.bool (!has x u)), h) := by
 refine den_plain rfl Tryz.func92 rfl rfl ?_
 simp [Tryz.f92, H.cellsAt, hg]
 refine ⟨u0, fun _ => ?_⟩
 have := shrW (u := u.toNat) h0 h1 (by omega)
 rw [show ((u.toNat : Nat) : Int) = u by omega] at this
 exact this
set_option maxHeartbeats 2000000 in
theorem c_ICodeSafe {s : Cell} {code : List POp} (hc : Sl h s 6 encO code) : Dz.den 51 [.c s] h = some (.c (.bool (tt (CodeSafe code))), h) := by
 refine den_plain rfl Tryz.func51 rfl rfl ?_
 by_cases hok : codeOk code = true
 rotate_left
 ·have kk : ¬ CodeSafe code := fun k => hok k.ok
  simp [Tryz.f51, c_ICodeOk hc, hok, kk]
 have hl := codeOk_len hok
 have hop := codeOk_op hok
 obtain ⟨p1, p2, p3⟩ := fullR_props hop
 obtain ⟨⟨v, k⟩, e, e2, hx, hg⟩ := c_IFull hc hok
 simp only at e2 hx hg
 subst e2
 simp [Tryz.f51, c_ICodeOk hc, hok, e]
 obtain ⟨n, hn⟩ : ∃ n, code.length = n := ⟨_, rfl⟩
 rw [hn]
 refine count_wpG (σ := H) n (fun i g => ([.c s, .c (.bool false), .c (.sl h.length 0 n none), .c (ci n), .c (ci (i : Nat))], [], [], g)) (fun i g => Ext k g ∧ AllIx code i (fun j o => stepSafe n ((fullR code)[j]?.getD 0) j o)) k rfl ⟨Ext.refl _, by simp⟩ ?_ ?_
 ·rintro i g hi ⟨hx2, hP⟩
  have hx3 := hx.trans hx2
  have hg2 := hx2.get hg
  have hi' : i < code.length := by omega
  have hif : i < (fullR code).length := by omega
  have C := cells_blkI hg2 hif
  have hb := p1 _ (List.getElem_mem hif)
  have hir : (fullR code)[i]?.getD 0 = (fullR code)[i] := by simp [hif]
  have ws := wrap_succ (show i < sMost by simp [sMost]; omega)
  simp at ws
  rw [Wp_body]
  by_cases hneg : (fullR code)[i] < 0
  ·simp [hi, hg2, C, hir, hneg, ws, allIx_succ hi', hP]
   exact ⟨hx2.trans (Ext.push _ _), fun h0 => by omega⟩
  have hc1 := (hc.ext hx3).push ⟨false, 1, [[.int .i64 (fullR code)[i]]]⟩
  have hge := get_push_self (h := g) (b := ⟨false, 1, [[.int .i64 (fullR code)[i]]]⟩)
  have hxg := Ext.push g ⟨false, 1, [[.int .i64 (fullR code)[i]]]⟩
  have ho := hop _ (List.getElem_mem hi')
  have wm : IntKind.i64.wrap ((n : Int) - 1) = n - 1 := wrap_i64 (by omega) (by omega)
  have hhn : ¬ (fullR code)[i] < 0 := hneg
  have hur := uses_range ho
  obtain ⟨⟨v2, k2⟩, e3, s2, e4, hx4, hS2⟩ := c_OpUses (h := g.push ⟨false, 1, [[.int .i64 (fullR code)[i]]]⟩) code[i] ho
  simp only at e4 hx4 hS2
  subst e4
  have hge2 := hx4.get hge
  have e5 := c_ContainsFuncI hS2 (f := 92) (caps := [(g.length, 0, 0)]) (p := fun u => !has (fullR code)[i] u) (fun u hu => by
   have := hur u hu
   exact c_empty hge2 u (by omega) hb.2 this.1 this.2)
  simp only [encO] at e3
  simp [hi, hg2, C, hir, hneg, hc1.lenA, hn, ixA_nat hc1, hc1.at, hi', wm, e3, e5, ws]
  have hx5 : Ext k k2 := hx2.trans (hxg.trans hx4)
  have key : (i + 1 = n → code[i].kind = 9 ∨ code[i].kind = 14) → ((∀ u, u ∈ uses code[i] → has (fullR code)[i] u = true) → Ext k k2 ∧ AllIx code (i + 1) fun j o => stepSafe n ((fullR code)[j]?.getD 0) j o) := by
   intro a1 a2
   refine ⟨hx5, (allIx_succ hi').2 ⟨hP, fun _ => ⟨?_, a1⟩⟩⟩
   rw [hir]; exact a2
  have bad : ∀ u, u ∈ uses code[i] → has (fullR code)[i] u = false → ¬ CodeSafe code := by
   intro u hu hf ks
   have := (ks.safe i hi' (by rw [hir]; omega)).1 u hu
   rw [hir, hf] at this; cases this
  have both : (i + 1 = n → code[i].kind = 9 ∨ code[i].kind = 14) → (∀ x, x ∈ uses code[i] → has (fullR code)[i] x = false → ¬CodeSafe code ∧ h.keeps k2) ∧
    ((∀ x, x ∈ uses code[i] → has (fullR code)[i] x = true) → Ext k k2 ∧ AllIx code (i + 1) fun j o => stepSafe n ((fullR code)[j]?.getD 0) j o) :=
   fun a => ⟨fun u hu hf => ⟨bad u hu hf, (hx.trans hx5).2⟩, key a⟩
  refine ⟨fun e1 => ⟨fun e2 => both fun _ => .inl e2, fun e2 => ⟨fun e3 => both fun _ => .inr e3, fun e3 => ⟨fun ks => ?_, (hx3.trans hxg).2⟩⟩⟩, fun e1 => both fun e => absurd e (by omega)⟩
  rcases (ks.safe i hi' (by rw [hir]; omega)).2 (by omega) with e | e
  ·exact e2 e
  ·exact e3 e
 ·rintro g ⟨hx2, hP⟩
  rw [Wp_body]
  simp
  refine ⟨⟨hok, ?_⟩, (hx.trans hx2).2⟩
  subst hn
  exact allIx_len.1 hP
end Go.Proofs.YtmkiojlebjknlaaGreat

/-
 THE PROGRAM'S RunOk: what it answers.
-/
set_option maxRecDepth 8000
namespace Go.Proofs.YtmkiojlebjknlaaGreat
open Go.AM
variable {h : H}
theorem c_valNot (k n : Int) : Dz.den 166 [.g [.int .i64 k, .int .i64 n]] h = some (.c (.bool (!valOk ⟨k, n⟩)), h) := by
 refine den_plain rfl Tryz.func166 rfl rfl ?_
 simp [Tryz.f166]
theorem c_valsOk {s : Cell} {xs : List PVal} (hS : Sl h s 2 encV xs) : Dz.den 118 [.c s] h = some (.c (.bool (xs.all valOk)), h) := by
 refine den_plain rfl Tryz.func118 rfl rfl ?_
 have e := c_ContainsFuncV hS (f := 166) (caps := []) (p := fun v => !valOk v) (fun v _ => c_valNot v.k v.n)
 simp [Tryz.f118, e]
 rw [Bool.eq_iff_iff]; simp
theorem c_othersOk {s : Cell} {xs : List Int} (hS : Sl h s 1 encI xs) (own : Int) : Dz.den 119 [.c s, .c (.int .i64 own)] h = some (.c (.bool (tt (IdsOk xs own))), h) := by
 unfold IdsOk
 refine den_plain rfl Tryz.func119 rfl rfl ?_
 simp [Tryz.f119, hS.lenA]
 refine count_wp xs.length (fun i => ([.c s, .c (ci own), .c (.bool false), .c s, .c (ci xs.length), .c (ci i)], [], [], h)) (fun i => (xs.take i).Nodup ∧ AllTo xs i fun x => 1 ≤ x ∧ x ≤ 6 ∧ x ≠ own) rfl (by simp) ?_ ?_
 ·intro i hi hP
  rw [Wp_body]
  simp [ixA_nat hS, hS.at, hi, wrap_succ (hS.lt hi), allTo_succ hi, hP, sliceA_to hS, Nat.le_of_lt hi, c_ContainsI (hS.cutTo (Nat.le_of_lt hi))]
  have hm : xs[i] ∈ xs := List.getElem_mem hi
  refine ⟨fun h1 _ => ⟨_, hm, by omega⟩, fun h1 h2 => ⟨fun h3 _ => ⟨_, hm, by omega⟩, fun h3 => ⟨fun h4 h5 => ?_, fun h4 => ⟨?_, h1, h2, h3⟩⟩⟩⟩
  ·exfalso
   obtain ⟨j, hj, e⟩ := List.getElem_of_mem h4
   simp only [List.length_take] at hj
   rw [List.getElem_take] at e
   have := (List.getElem_inj h5).1 e
   omega
  ·rw [List.take_succ_eq_append_getElem hi, List.nodup_append]
   exact ⟨hP.1, by simp, by rintro a ha b hb rfl; simp only [List.mem_singleton] at hb; subst hb; exact h4 ha⟩
 ·intro hP
  rw [Wp_body]
  simp
  rw [List.take_length, allTo_len] at hP
  exact hP
def slotsP (r : PRun) : Prop := r.slots.length = 4 ∧ (0 ≤ r.full ∧ r.full ≤ 15) ∧ ∀ i (hi : i < r.slots.length), valOk r.slots[i] = true ∧ (has r.full i = false → r.slots[i] = ⟨0, 0⟩)
theorem c_slotsOk {c : RunC} {r : PRun} (hr : RunR h r c) : Dz.den 117 [.g (encR c)] h = some (.c (.bool (tt (slotsP r))), h) := by
 refine den_plain rfl Tryz.func117 rfl rfl ?_
 have hS := hr.slots
 have ls := fun e => hS.lenA (e := e)
 have ev := c_valsOk hS
 by_cases h1 : r.slots.length = 4
 rotate_left
 ·have kk : ¬ slotsP r := fun k => h1 k.1
  have h1' : ¬ ((r.slots.length : Int) = 4) := by omega
  simp [Tryz.f117, ls, h1', kk]
 have h1' : ((r.slots.length : Int) = 4) := by omega
 by_cases h2 : ∀ v ∈ r.slots, valOk v = true
 rotate_left
 ·have kk : ¬ slotsP r := fun k => h2 fun v hv => by
   obtain ⟨i, hi, rfl⟩ := List.getElem_of_mem hv
   exact (k.2.2 i hi).1
  have h2' : r.slots.all valOk = false := by
   rw [Bool.eq_false_iff]; intro e; rw [List.all_eq_true] at e; exact h2 e
  rw [h2'] at ev
  simp [Tryz.f117, ls, h1', ev, kk]
 have h2' : r.slots.all valOk = true := by rw [List.all_eq_true]; exact h2
 rw [h2'] at ev
 by_cases h3 : 0 ≤ r.full ∧ r.full ≤ 15
 rotate_left
 ·have kk : ¬ slotsP r := fun k => h3 k.2.1
  simp [Tryz.f117, ls, h1', ev, hr.full, h3, kk]
 simp [Tryz.f117, ls, h1', ev, hr.full, h3]
 refine count_wp 4 (fun i => ([.c (.bool false), .c c.slots, .c (ci 4), .c (ci i)], [encR c], [], h)) (fun i => AllIx r.slots i fun j v => valOk v = true ∧ (has r.full j = false → v = ⟨0, 0⟩)) (by simp [hr.full]) (by simp) ?_ ?_
 ·intro i hi hP
  have hi' : i < r.slots.length := by omega
  have hi2 : (i : Int) < 4 := by omega
  have hh := shrW (u := i) h3.1 h3.2 (by omega)
  have hv := h2 _ (List.getElem_mem hi')
  rw [Wp_body]
  cases hb : has r.full i
  ·rw [hb] at hh
   simp at hh
   simp [ixA_nat hS, hS.at, hi', hi2, wrap_succ (hS.lt hi'), allIx_succ hi', hP, hr.full, hh, hv, hb]
   refine ⟨fun hne k => ?_, fun e1 e2 => by rw [← eta_val r.slots[i], e1, e2]⟩
   have := (k.2.2 i hi').2 hb
   rw [this] at hne
   simp at hne
  ·rw [hb] at hh
   simp at hh
   simp [ixA_nat hS, hS.at, hi', hi2, wrap_succ (hS.lt hi'), allIx_succ hi', hP, hr.full, hh, hv, hb]
 ·intro hP
  rw [Wp_body]
  simp
  rw [← h1, allIx_len] at hP
  exact ⟨h1, h3, hP⟩
theorem runOk_split (r : PRun) : RunOk r ↔ (1 ≤ r.id ∧ r.id ≤ 6) ∧ (0 ≤ r.at_ ∧ r.at_ ≤ 15) ∧ slotsP r ∧ r.mail.length ≤ 12 ∧ (∀ v ∈ r.mail, valOk v = true) ∧ (1 ≤ r.state ∧ r.state ≤ 3) ∧ (-1 ≤ r.due ∧ r.due ≤ 400) ∧ (0 ≤ r.turns ∧ r.turns ≤ 9999) ∧
  IdsOk r.links r.id ∧ IdsOk r.watched r.id ∧ (if r.state = 3 then r.mail = [] ∧ r.links = [] ∧ r.watched = [] ∧ valOk r.why = true else r.why = ⟨0, 0⟩) := by
 constructor
 ·intro k
  refine ⟨k.id, k.at_, ⟨k.len, k.full, k.slots⟩, k.room, k.mail, k.state, k.due, k.turns, k.links, k.watched, ?_⟩
  split
  ·rename_i e; obtain ⟨a, b, c⟩ := k.ended e; exact ⟨a, b, c, k.why⟩
  ·rename_i e; exact k.live e
 ·rintro ⟨a1, a2, ⟨a3, a4, a5⟩, a6, a7, a8, a9, a10, a11, a12, a13⟩
  refine ⟨a1, a2, a3, a4, a6, a8, a9, a10, a5, a7, a11, a12, ?_, ?_, ?_⟩
  ·split at a13
   ·exact a13.2.2.2
   ·rw [a13]; rfl
  ·intro e; rw [if_pos e] at a13; exact ⟨a13.1, a13.2.1, a13.2.2.1⟩
  ·intro e; rw [if_neg e] at a13; exact a13
set_option maxHeartbeats 1000000 in
set_option maxRecDepth 4000 in
theorem c_IRunOk {c : RunC} {r : PRun} (hr : RunR h r c) : Dz.den 69 [.g (encR c)] h = some (.c (.bool (tt (RunOk r))), h) := by
 refine den_plain rfl Tryz.func69 rfl rfl ?_
 rw [tt_congr (runOk_split r)]
 have ls := fun e => hr.slots.lenA (e := e)
 have lm := fun e => hr.mail.lenA (e := e)
 have li := fun e => hr.links.lenA (e := e)
 have lw := fun e => hr.watched.lenA (e := e)
 have e1 := c_slotsOk hr
 have e2 := c_valsOk hr.mail
 have e3 := c_othersOk hr.links r.id
 have e4 := c_othersOk hr.watched r.id
 simp [hr.id, hr.at_, hr.full, hr.state, hr.due, hr.turns, hr.why] at e1
 have hR := hr.id
 have h5 : r.mail.length ≤ 12 ↔ ¬ (12 < (r.mail.length : Int)) := by omega
 by_cases h1 : 1 ≤ r.id ∧ r.id ≤ 6
 rotate_left
 ·simp [Tryz.f69, hr.id, h1]
 by_cases h2 : 0 ≤ r.at_ ∧ r.at_ ≤ 15
 rotate_left
 ·simp [Tryz.f69, hr.id, h1, hr.at_, h2]
 by_cases h3 : slotsP r
 rotate_left
 ·simp [Tryz.f69, hr.id, h1, hr.at_, h2, h3, e1, hr.full, hr.state, hr.due, hr.turns, hr.why]
 by_cases h4 : 12 < (r.mail.length : Int)
 ·simp [Tryz.f69, hr.id, h1, hr.at_, h2, h3, e1, hr.full, hr.state, hr.due, hr.turns, hr.why, lm, h4, h5]
 by_cases h6 : ∀ v ∈ r.mail, valOk v = true
 rotate_left
 ·have h6' : r.mail.all valOk = false := by
   rw [Bool.eq_false_iff]; intro e; rw [List.all_eq_true] at e; exact h6 e
  rw [h6'] at e2
  simp [Tryz.f69, hr.id, h1, hr.at_, h2, h3, e1, hr.full, hr.state, hr.due, hr.turns, hr.why, lm, h4, h5, e2, h6]
 have h6' : r.mail.all valOk = true := by rw [List.all_eq_true]; exact h6
 rw [h6'] at e2
 by_cases h7 : 1 ≤ r.state ∧ r.state ≤ 3
 rotate_left
 ·simp [Tryz.f69, hr.id, h1, hr.at_, h2, h3, e1, hr.full, hr.state, hr.due, hr.turns, hr.why, lm, h4, h5, e2, h6, h7]
 by_cases h8 : -1 ≤ r.due ∧ r.due ≤ 400
 rotate_left
 ·simp [Tryz.f69, hr.id, h1, hr.at_, h2, h3, e1, hr.full, hr.state, hr.due, hr.turns, hr.why, lm, h4, h5, e2, h6, h7, h8]
 by_cases h9 : 0 ≤ r.turns ∧ r.turns ≤ 9999
 rotate_left
 ·simp [Tryz.f69, hr.id, h1, hr.at_, h2, h3, e1, hr.full, hr.state, hr.due, hr.turns, hr.why, lm, h4, h5, e2, h6, h7, h8, h9]
 by_cases h10 : IdsOk r.links r.id
 rotate_left
 ·simp [Tryz.f69, hr.id, h1, hr.at_, h2, h3, e1, hr.full, hr.state, hr.due, hr.turns, hr.why, lm, h4, h5, e2, h6, h7, h8, h9, e3, h10]
 by_cases h11 : IdsOk r.watched r.id
 rotate_left
 ·simp [Tryz.f69, hr.id, h1, hr.at_, h2, h3, e1, hr.full, hr.state, hr.due, hr.turns, hr.why, lm, h4, h5, e2, h6, h7, h8, h9, e3, h10, e4, h11]
 have z1 : ((r.mail.length : Int) = 0) ↔ r.mail = [] := by simp
 have z2 : ((r.links.length : Int) = 0) ↔ r.links = [] := by simp
 have z3 : ((r.watched.length : Int) = 0) ↔ r.watched = [] := by simp
 by_cases h12 : r.state = 3
 ·simp [Tryz.f69, hr.id, h1, hr.at_, h2, h3, e1, hr.full, hr.state, hr.due, hr.turns, hr.why, lm, li, lw, h4, h5, e2, h6, h8, h9, e3, h10, e4, h11, eq_true h12, h7]
  simp only [tt_eq]
  grind
 ·simp [Tryz.f69, hr.id, h1, hr.at_, h2, h3, e1, hr.full, hr.state, hr.due, hr.turns, hr.why, lm, li, lw, h4, h5, e2, h6, h7, h8, h9, e3, h10, e4, h11, h12]
  simp only [tt_eq, Bool.and_eq_true, decide_eq_true_eq]
  refine ⟨fun e => ⟨h6, ?_⟩, fun e => by rw [e.2]; simp⟩
  rw [← eta_val r.why, e.1, e.2]
end Go.Proofs.YtmkiojlebjknlaaGreat

/-
 THE PROGRAM'S first, waitsOk, run, alive, runOk: what they answer.
-/
set_option maxRecDepth 8000
namespace Go.Proofs.YtmkiojlebjknlaaGreat
open Go.AM
variable {h : H}
theorem c_ValFits (k n kind : Int) : Dz.den 106 [.g [.int .i64 k, .int .i64 n], .c (.int .i64 kind)] h = some (.c (.bool (valOk ⟨k, n⟩ && fits kind ⟨k, n⟩)), h) := by
 refine den_plain rfl Tryz.func106 rfl rfl ?_
 simp [Tryz.f106]
 grind [fits]
theorem c_fitsC {id : Nat} {kind : Int} (hg : h.get id = some ⟨false, 1, [[.int .i64 kind]]⟩) (k n : Int) :
  Dz.den 121 [.g [.int .i64 k, .int .i64 n], .c (.ptr id 0 0)] h = some (.c (.bool (valOk ⟨k, n⟩ && fits kind ⟨k, n⟩)), h) := by
 refine den_plain rfl Tryz.func121 rfl rfl ?_
 simp [Tryz.f121, H.cellsAt, hg, c_ValFits]
theorem c_first {c : RunC} {r : PRun} (hm : Sl h c.mail 2 encV r.mail) (hv : ∀ v ∈ r.mail, valOk v = true) (kind : Int) : Dz.den 70 [.g (encR c), .c (.int .i64 kind)] h = some (.c (.int .i64 (firstAt (fits kind) r.mail)), h) := by
 refine den_plain rfl Tryz.func70 rfl rfl ?_
 have hg := get_push_self (h := h) (b := ⟨false, 1, [[.int .i64 kind]]⟩)
 have e := c_IndexFuncV (hm.push ⟨false, 1, [[.int .i64 kind]]⟩) (f := 121) (caps := [(h.length, 0, 0)]) (p := fits kind) (fun v hv' => by
  have := c_fitsC hg v.k v.n
  have h2 := hv v hv'
  simp only [eta_val, h2, Bool.true_and] at this
  exact this)
 simp [Tryz.f70, e]
theorem c_waitsOk {c : WorldC} {w : PWorld} {cs : List RunC} {rc : RunC} {r : PRun} (hw : WorldR h w c cs) (hr : RunR h r rc) (h0 : 0 ≤ r.at_) (h1 : r.at_ < w.code.length) (hv : ∀ v ∈ r.mail, valOk v = true) :
  Dz.den 94 [.g (encW c), .g (encR rc)] h = some (.c (.bool (tt (WaitsOk w r))), h) := by
 refine den_plain rfl Tryz.func94 rfl rfl ?_
 have hc := hw.code
 obtain ⟨n, hn⟩ : ∃ n : Nat, r.at_ = n := ⟨r.at_.toNat, by omega⟩
 have hn1 : n < w.code.length := by omega
 have e := c_first (h := h) (r := r) hr.mail hv (w.code[n]?.getD default).s
 simp [hn1, hr.at_, hn, hr.due] at e
 simp [Tryz.f94, hr.at_, hn, hn1, ixA_nat hc, hc.at, hr.due, hw.now, e, WaitsOk]
 simp only [tt_eq, decide_eq_true_eq]
 grind
theorem c_run {c : WorldC} {wid : Nat} {cs : List RunC} {ro : Bool} (hg : h.get wid = some ⟨ro, 7, [encW c]⟩) (hS : Sl h c.runs 13 encR cs) (id : Int) :
  Dz.den 48 [.c (.ptr wid 0 0), .c (.int .i64 id)] h = some (.c (if 1 ≤ id ∧ id ≤ cs.length then .ptr (sid c.runs) (soff c.runs + (id - 1).toNat) 0 else .nilp), h) := by
 rw [← Wp_eq]
 refine den_wp rfl Tryz.func48 rfl ?_
 have hm : (cs.length : Int) ≤ 4611686018427387904 := by have := hS.len; simp [sMost] at this; omega
 by_cases h1 : 1 ≤ id ∧ id ≤ cs.length
 ·obtain ⟨n, hn⟩ : ∃ n : Nat, id = n + 1 := ⟨(id - 1).toNat, by omega⟩
  have hw : IntKind.i64.wrap (id - 1) = n := by rw [wrap_i64 (by omega) (by omega)]; omega
  have hnl : n < cs.length := by omega
  have h2 : (id - 1).toNat = n := by omega
  simp [Tryz.f48, H.cellsAt, hg, hS.lenA, h1, hw, ixA_nat hS, hnl, h2]
 ·simp [Tryz.f48, H.cellsAt, hg, hS.lenA, h1]
end Go.Proofs.YtmkiojlebjknlaaGreat

/-
 THE PROGRAM'S alive, runOk: what they answer.
-/
set_option maxRecDepth 8000
namespace Go.Proofs.YtmkiojlebjknlaaGreat
open Go.AM
variable {h : H}
def aliveC (rs : List PRun) (id : Int) : Bool := decide (1 ≤ id ∧ id ≤ rs.length) && decide ((rs[(id - 1).toNat]?.getD default).state ≠ 3)
theorem c_alive {c : WorldC} {wid : Nat} {cs : List RunC} {rs : List PRun} {ro : Bool} (hg : h.get wid = some ⟨ro, 7, [encW c]⟩) (hR : RunsR h c.runs rs cs) (id : Int) :
  Dz.den 47 [.c (.ptr wid 0 0), .c (.int .i64 id)] h = some (.c (if aliveC rs id then .ptr (sid c.runs) (soff c.runs + (id - 1).toNat) 0 else .nilp), h) := by
 rw [← Wp_eq]
 refine den_wp rfl Tryz.func47 rfl ?_
 have e := c_run hg hR.sl id
 have hl := hR.len
 have hS := hR.sl
 by_cases h1 : 1 ≤ id ∧ id ≤ cs.length
 ·obtain ⟨n, hn⟩ : ∃ n : Nat, id = n + 1 := ⟨(id - 1).toNat, by omega⟩
  have hnl : n < cs.length := by omega
  have hnl' : n < rs.length := by omega
  have h2 : (id - 1).toNat = n := by omega
  rw [if_pos h1, h2] at e
  have hs := (hR.each n hnl').state
  have h1' : 1 ≤ id ∧ id ≤ rs.length := by omega
  simp [Tryz.f47, e, hS.at, hnl, hs, aliveC, h1', h2, hnl']
 ·rw [if_neg h1] at e
  have h1' : ¬ (1 ≤ id ∧ id ≤ rs.length) := by omega
  simp [Tryz.f47, e, aliveC, h1']
theorem c_gone {c : WorldC} {wid : Nat} {cs : List RunC} {rs : List PRun} {ro : Bool} (hg : h.get wid = some ⟨ro, 7, [encW c]⟩) (hR : RunsR h c.runs rs cs) (id : Int) :
  Dz.den 95 [.c (.int .i64 id), .c (.ptr wid 0 0)] h = some (.c (.bool (!aliveC rs id)), h) := by
 refine den_plain rfl Tryz.func95 rfl rfl ?_
 have e := c_alive hg hR id
 cases ha : aliveC rs id
 ·rw [ha] at e
  simp at e
  simp [Tryz.f95, e]
 ·rw [ha] at e
  simp at e
  simp [Tryz.f95, e]
structure RunFits (w : PWorld) (full : List Int) (r : PRun) : Prop where
 ok : RunOk r
 at_ : r.at_ < w.code.length
 wait : r.state = 2 → WaitsOk w r
 others : r.state ≠ 3 → ∀ k ∈ r.links ++ r.watched, aliveC w.runs k = true
 full : r.state ≠ 3 → 0 ≤ full[r.at_.toNat]?.getD 0 ∧ both (full[r.at_.toNat]?.getD 0) r.full = full[r.at_.toNat]?.getD 0
theorem both_sym_fin : ∀ x y : Fin 16, both (x.val : Int) y.val = both (y.val : Int) x.val := by decide +kernel
theorem both_sym {x y : Int} (hx : 0 ≤ x) (hx' : x ≤ 15) (hy : 0 ≤ y) (hy' : y ≤ 15) : both x y = both y x := by
 have := both_sym_fin ⟨x.toNat, by omega⟩ ⟨y.toNat, by omega⟩
 simp only at this
 rwa [show ((x.toNat : Nat) : Int) = x by omega, show ((y.toNat : Nat) : Int) = y by omega] at this
set_option maxHeartbeats 2000000 in
set_option maxRecDepth 8000 in
theorem c_runOk {c : WorldC} {w : PWorld} {cs : List RunC} {rc : RunC} {r : PRun} {id : Nat} {f : List Int} (hw : WorldR h w c cs) (hr : RunR h r rc)
  (hg : h.get id = some (blkI f)) (hf : BitsOk f) (hfl : f.length = w.code.length) :
  Dz.den 55 [.g (encW c), .g (encR rc), .c (.sl id 0 f.length none)] h = some (.c (.bool (tt (RunFits w f r))), h) := by
 refine den_plain rfl Tryz.func55 rfl rfl ?_
 have hw1 := hw.push ⟨false, 7, [encW c]⟩
 have hr1 := hr.ext (Ext.push h ⟨false, 7, [encW c]⟩)
 have hgw := get_push_self (h := h) (b := ⟨false, 7, [encW c]⟩)
 have hg1 := get_push_some (b := ⟨false, 7, [encW c]⟩) hg
 have hkk : h.keeps (h.push ⟨false, 7, [encW c]⟩) := by simp
 generalize hK : h.push ⟨false, 7, [encW c]⟩ = K at *
 simp only [encW] at hK
 have e1 := c_IRunOk hr1
 simp [hr.id, hr.at_, hr.full, hr.state, hr.due] at e1
 by_cases h1 : RunOk r
 rotate_left
 ·have kk : ¬ RunFits w f r := fun k => h1 k.ok
  simp [Tryz.f55, hK, kk, hr.id, hr.at_, hr.full, hr.state, hr.due, e1, h1, hkk]
 by_cases h3 : r.at_ < w.code.length
 rotate_left
 ·have kk : ¬ RunFits w f r := fun k => h3 k.at_
  have h3' : (w.code.length : Int) ≤ r.at_ := by omega
  simp [Tryz.f55, hK, kk, hr.id, hr.at_, hr.full, hr.state, hr.due, e1, h1, hw1.code.lenA, h3', hkk, H.cellsAt, hgw]
 have h3' : ¬ ((w.code.length : Int) ≤ r.at_) := by omega
 have e3 := c_waitsOk hw1 hr1 h1.at_.1 h3 h1.mail
 simp [hr.id, hr.at_, hr.full, hr.state, hr.due] at e3
 by_cases h5 : r.state = 2 → WaitsOk w r
 rotate_left
 ·have kk : ¬ RunFits w f r := fun k => h5 k.wait
  have h6 : r.state = 2 := Classical.byContradiction fun e => h5 fun e' => absurd e' e
  have h7 : ¬ WaitsOk w r := fun e => h5 fun _ => e
  simp [Tryz.f55, hK, kk, hr.id, hr.at_, hr.full, hr.state, hr.due, e1, h1, hw1.code.lenA, h3', hkk, H.cellsAt, hgw, eq_true h6, h7, e3]
 by_cases h6 : r.state = 3
 ·have kk : RunFits w f r := ⟨h1, h3, h5, fun e => absurd h6 e, fun e => absurd h6 e⟩
  have h7 : ¬ r.state = 2 := by omega
  simp [Tryz.f55, hK, kk, hr.id, hr.at_, hr.full, hr.state, hr.due, e1, h1, hw1.code.lenA, h3', hkk, H.cellsAt, hgw, eq_true h6, h7]
 have eg := fun x => c_gone hgw hw1.runs x
 have el := c_ContainsFuncI hr1.links (f := 95) (caps := [(h.length, 0, 0)]) (p := fun k => !aliveC w.runs k) (fun x _ => eg x)
 have ew := c_ContainsFuncI hr1.watched (f := 95) (caps := [(h.length, 0, 0)]) (p := fun k => !aliveC w.runs k) (fun x _ => eg x)
 by_cases h8 : ∀ k ∈ r.links, aliveC w.runs k = true
 rotate_left
 ·have kk : ¬ RunFits w f r := fun k => h8 fun x hx => k.others h6 x (List.mem_append_left _ hx)
  have h8' : (r.links.any fun k => !aliveC w.runs k) = true := by
   rw [List.any_eq_true]
   obtain ⟨x, hx⟩ := Classical.not_forall.1 h8
   obtain ⟨hx, hn⟩ := Classical.not_imp.1 hx
   exact ⟨x, hx, by simpa using hn⟩
  rw [h8'] at el
  by_cases h7 : r.state = 2
  ·simp [Tryz.f55, hK, kk, hr.id, hr.at_, hr.full, hr.state, hr.due, e1, h1, hw1.code.lenA, h3', hkk, H.cellsAt, hgw, h6, eq_true h7, e3, h5 h7, el]
  ·simp [Tryz.f55, hK, kk, hr.id, hr.at_, hr.full, hr.state, hr.due, e1, h1, hw1.code.lenA, h3', hkk, H.cellsAt, hgw, h6, h7, e3, el]
 have h8' : (r.links.any fun k => !aliveC w.runs k) = false := by
  rw [List.any_eq_false]; intro x hx; simp [h8 x hx]
 rw [h8'] at el
 by_cases h9 : ∀ k ∈ r.watched, aliveC w.runs k = true
 rotate_left
 ·have kk : ¬ RunFits w f r := fun k => h9 fun x hx => k.others h6 x (List.mem_append_right _ hx)
  have h9' : (r.watched.any fun k => !aliveC w.runs k) = true := by
   rw [List.any_eq_true]
   obtain ⟨x, hx⟩ := Classical.not_forall.1 h9
   obtain ⟨hx, hn⟩ := Classical.not_imp.1 hx
   exact ⟨x, hx, by simpa using hn⟩
  rw [h9'] at ew
  by_cases h7 : r.state = 2
  ·simp [Tryz.f55, hK, kk, hr.id, hr.at_, hr.full, hr.state, hr.due, e1, h1, hw1.code.lenA, h3', hkk, H.cellsAt, hgw, h6, eq_true h7, e3, h5 h7, el, ew]
  ·simp [Tryz.f55, hK, kk, hr.id, hr.at_, hr.full, hr.state, hr.due, e1, h1, hw1.code.lenA, h3', hkk, H.cellsAt, hgw, h6, h7, e3, el, ew]
 have h9' : (r.watched.any fun k => !aliveC w.runs k) = false := by
  rw [List.any_eq_false]; intro x hx; simp [h9 x hx]
 rw [h9'] at ew
 obtain ⟨n, hn⟩ : ∃ n : Nat, r.at_ = n := ⟨r.at_.toNat, by have := h1.at_.1; omega⟩
 have hnf : n < f.length := by omega
 have hnf' : n < w.code.length := by omega
 have hat : r.at_.toNat = n := by omega
 have hnl : ¬ (w.code.length ≤ n) := by omega
 have C := cells_blkI hg1 hnf
 have hb := hf _ (List.getElem_mem hnf)
 rw [hn] at e1 e3
 have hfin : 0 ≤ f[n] → IntKind.i64.wrap ↑((r.full % 2 ^ IntKind.i64.bits).toNat &&& (f[n] % 2 ^ IntKind.i64.bits).toNat) = both f[n] r.full := fun h0 => by
  rw [andW (by have := h1.full.1; omega) h1.full.2 h0 hb.2]; exact both_sym h1.full.1 h1.full.2 h0 hb.2
 have hall : ∀ k ∈ r.links ++ r.watched, aliveC w.runs k = true := fun k hk => by
  rcases List.mem_append.1 hk with hk | hk
  ·exact h8 k hk
  ·exact h9 k hk
 have hfx : f[r.at_.toNat]?.getD 0 = f[n] := by rw [hat]; simp [hnf]
 have hrf : RunFits w f r ↔ 0 ≤ f[n] ∧ both f[n] r.full = f[n] :=
  ⟨fun k => by have := k.full h6; rwa [hfx] at this, fun k => ⟨h1, h3, h5, fun _ => hall, fun _ => by rw [hfx]; exact k⟩⟩
 rw [tt_congr hrf]
 by_cases h7 : r.state = 2
 ·simp [Tryz.f55, hK, hr.id, hr.at_, hn, hr.full, hr.state, hr.due, e1, h1, hw1.code.lenA, hnl, hkk, H.cellsAt, hgw, h6, eq_true h7, e3, h5 h7, el, ew, hg1, hnf, hfl, hnf']
  refine ⟨fun h0 => ?_, fun a b => by omega⟩
  rw [hfin h0, tt_eq, decide_eq_true_iff]
  exact ⟨fun e => ⟨h0, e⟩, fun e => e.2⟩
 ·simp [Tryz.f55, hK, hr.id, hr.at_, hn, hr.full, hr.state, hr.due, e1, h1, hw1.code.lenA, hnl, hkk, H.cellsAt, hgw, h6, h7, e3, el, ew, hg1, hnf, hfl, hnf']
  refine ⟨fun h0 => ?_, fun a b => by omega⟩
  rw [hfin h0, tt_eq, decide_eq_true_iff]
  exact ⟨fun e => ⟨h0, e⟩, fun e => e.2⟩
end Go.Proofs.YtmkiojlebjknlaaGreat
