/-
  What functions of the seat answer, each proved once; each under the condition that cells bear what it is given, as its statement says.
-/
import Derived.Test.YtdpffdpgcooagaaGreatWalk2
set_option linter.all false
/-
  THE PROGRAM'S arrows: what it answers.
-/
set_option maxRecDepth 8000
namespace Go.Proofs.YtdpffdpgcooagaaGreat
open Go.AM
variable {h : H}
theorem orW_fin : ∀ x : Fin 16, ∀ r : Fin 4, IntKind.i64.wrap ↑(((x.val : Int) % 2 ^ IntKind.i64.bits).toNat ||| (IntKind.i64.wrap (2 ^ min r.val IntKind.i64.bits) % 2 ^ IntKind.i64.bits).toNat) = withB x.val r.val := by decide +kernel
theorem orW {x r : Int} (h0 : 0 ≤ x) (h1 : x ≤ 15) (r0 : 0 ≤ r) (r1 : r ≤ 3) : IntKind.i64.wrap ↑((x % 2 ^ IntKind.i64.bits).toNat ||| (IntKind.i64.wrap (2 ^ min r.toNat IntKind.i64.bits) % 2 ^ IntKind.i64.bits).toNat) = withB x r := by
  have := orW_fin ⟨x.toNat, by omega⟩ ⟨r.toNat, by omega⟩
  simp only at this
  rwa [show ((x.toNat : Nat) : Int) = x by omega, show ((r.toNat : Nat) : Int) = r by omega] at this
theorem andW_fin : ∀ x : Fin 17, ∀ y : Fin 16, IntKind.i64.wrap ↑((((x.val : Int) - 1) % 2 ^ IntKind.i64.bits).toNat &&& ((y.val : Int) % 2 ^ IntKind.i64.bits).toNat) = both ((x.val : Int) - 1) y.val := by decide +kernel
theorem andW {x y : Int} (h0 : -1 ≤ x) (h1 : x ≤ 15) (r0 : 0 ≤ y) (r1 : y ≤ 15) : IntKind.i64.wrap ↑((x % 2 ^ IntKind.i64.bits).toNat &&& (y % 2 ^ IntKind.i64.bits).toNat) = both x y := by
  have := andW_fin ⟨(x + 1).toNat, by omega⟩ ⟨y.toNat, by omega⟩
  simp only at this
  rwa [show (((x + 1).toNat : Nat) : Int) - 1 = x by omega, show ((y.toNat : Nat) : Int) = y by omega] at this
theorem c_same (x : Int) : Dz.den 108 [.c (.int .i64 x)] h = some (.c (.int .i64 x), h) := by
  refine den_plain rfl Tryz.func108 rfl rfl ?_
  simp [Tryz.f108]
theorem c_one (x : Int) : Dz.den 110 [.c (.int .i64 x)] h = some (.c (.int .i64 1), h) := by
  refine den_plain rfl Tryz.func110 rfl rfl ?_
  simp [Tryz.f110]
theorem c_filled {id : Nat} {o : POp} (hg : h.get id = some ⟨false, 6, [encO o]⟩) (x : Int) (h0 : 0 ≤ x) (h1 : x ≤ 15) (r0 : 0 ≤ o.r) (r1 : o.r ≤ 3) :
    Dz.den 109 [.c (.int .i64 x), .c (.ptr id 0 0)] h = some (.c (.int .i64 (withB x o.r)), h) := by
  refine den_plain rfl Tryz.func109 rfl rfl ?_
  simp [Tryz.f109, H.cellsAt, hg]
  exact ⟨r0, fun _ => orW h0 h1 r0 r1⟩
/-- A way from a step: where to, and what is full there. -/
abbrev Arrow := Int × (Int → Int)
def nexts (o : POp) (n i : Nat) : List Arrow := if o.kind ≠ 9 ∧ o.kind ≠ 14 ∧ i + 1 < n then [((i : Int) + 1, fun x => if fillsM o.kind then withB x o.r else x)] else []
def tos (o : POp) : List Arrow := if o.kind = 5 then [(o.to, fun _ => 1)] else if hasT o.kind then [(o.to, fun x => x)] else []
/-- A cell pair bears a way; what it holds lies at or behind 'lo'. -/
def ArrowR (lo : Nat) (k : H) (c : List Cell) (a : Arrow) : Prop := ∃ f caps, c = [.int .i64 a.1, .fn f caps] ∧ (∀ p ∈ caps, lo ≤ p.1) ∧
  ∀ k' : H, (∀ id, lo ≤ id → id < k.length → k'.get id = k.get id) → ∀ x, 0 ≤ x → x ≤ 15 → Dz.den f (.c (.int .i64 x) :: V.caps caps) k' = some (.c (.int .i64 (a.2 x)), k')
structure ArrowsR (lo : Nat) (k : H) (s : Cell) (ws : List Arrow) (cs : List (List Cell)) : Prop where
  sl : Sl k s 2 id cs
  len : cs.length = ws.length
  each : ∀ j (hj : j < ws.length), ArrowR lo k (cs[j]'(by omega)) ws[j]
  ids : ∀ id ∈ s.ids, lo ≤ id

def ArrQ (h : H) (ws : List Arrow) (r : V × H) : Prop := ∃ s' cs, r.1 = .c s' ∧ Ext h r.2 ∧ ArrowsR h.length r.2 s' ws cs
theorem arrow_same (lo : Nat) (k : H) (to : Int) : ArrowR lo k [.int .i64 to, .fn 108 []] (to, fun x => x) := ⟨_, _, rfl, by simp, fun k' _ x _ _ => c_same x⟩
theorem arrow_one (lo : Nat) (k : H) (to : Int) : ArrowR lo k [.int .i64 to, .fn 110 []] (to, fun _ => 1) := ⟨_, _, rfl, by simp, fun k' _ x _ _ => c_one x⟩
theorem arrow_filled {lo : Nat} {k : H} {id : Nat} {o : POp} (hid : lo ≤ id) (hg : k.get id = some ⟨false, 6, [encO o]⟩) (r0 : 0 ≤ o.r) (r1 : o.r ≤ 3) (to : Int) : ArrowR lo k [.int .i64 to, .fn 109 [(id, 0, 0)]] (to, fun x => withB x o.r) :=
  ⟨_, _, rfl, by simpa using hid, fun k' hx x h0 h1 => c_filled (by rw [hx id hid (H.get_lt hg), hg]) x h0 h1 r0 r1⟩
theorem arrows_one {lo : Nat} {k : H} {n : Nat} (hlo : lo ≤ n) (hn : n = k.length) {c : List Cell} {a : Arrow} (hc : c.length = 2) (ha : ArrowR lo (k.push ⟨false, 2, [c]⟩) c a) : ArrowsR lo (k.push ⟨false, 2, [c]⟩) (.sl n 0 1 none) [a] [c] := by
  subst hn
  refine ⟨⟨by simpa using hc, rfl, by simp [sMost], _, get_push_self, rfl, by simp, by simp⟩, rfl, fun j hj => ?_, by simpa [Cell.ids] using hlo⟩
  simp at hj; subst hj; exact ha
theorem opOk_r {o : POp} (ho : opOk o = true) (hf : fillsM o.kind = true) : 0 ≤ o.r ∧ o.r ≤ 3 := by
  simp only [opOk, Bool.and_eq_true, decide_eq_true_eq] at ho
  obtain ⟨⟨⟨⟨_, hr⟩, _⟩, _⟩, _⟩ := ho
  have : hasR o.kind = true := by simp [fillsM, hasR] at hf ⊢; omega
  rw [if_pos this] at hr
  simpa using hr

theorem second_arrow {h K : H} (hkl : K.length = h.length + 1) (c c2 : List Cell) (hc : c.length = 2) (hc2 : c2.length = 2) :
    ∃ s' k', appendA 2 (((K.push ⟨false, 2, [c]⟩).push ⟨false, 2, [c]⟩).push ⟨false, 2, [c2]⟩) (.c (.sl (h.length + 1 + 1) 0 1 none)) (.c (.sl (h.length + 1 + 1 + 1) 0 1 none)) = some (.c s', k') ∧ Ext K k' ∧
      ∀ a a2, ArrowR h.length k' c a → ArrowR h.length k' c2 a2 → ArrowsR h.length k' s' [a, a2] [c, c2] := by
  have hS : Sl ((K.push ⟨false, 2, [c]⟩).push ⟨false, 2, [c]⟩) (.sl (h.length + 1 + 1) 0 1 none) 2 id [c] :=
    ⟨by simpa using hc, rfl, by simp [sMost], ⟨false, 2, [c]⟩, by rw [show h.length + 1 + 1 = (K.push ⟨false, 2, [c]⟩ : H).length by simp; omega]; exact get_push_self, rfl, by simp, by simp⟩
  have hg : ((K.push ⟨false, 2, [c]⟩).push ⟨false, 2, [c]⟩).get (h.length + 1 + 1) = some ⟨false, 2, [c]⟩ := by
    rw [show h.length + 1 + 1 = (K.push ⟨false, 2, [c]⟩ : H).length by simp; omega]; exact get_push_self
  have hT : elemsOf (((K.push ⟨false, 2, [c]⟩).push ⟨false, 2, [c]⟩).push ⟨false, 2, [c2]⟩) (.c (.sl (h.length + 1 + 1 + 1) 0 1 none)) = some ([c2].map id) := by
    rw [show h.length + 1 + 1 + 1 = ((K.push ⟨false, 2, [c]⟩).push ⟨false, 2, [c]⟩ : H).length by simp; omega]
    have := elems_of (n := 1) (i := 0) (get_push_self (h := ((K.push ⟨false, 2, [c]⟩).push ⟨false, 2, [c]⟩)) (b := ⟨false, 2, [c2]⟩)) (by simp)
    simp only [elemsOf, this]; rfl
  obtain ⟨s', k', e, A⟩ := appendS_ok (enc := id) (ys := [c2]) (hS.push ⟨false, 2, [c2]⟩) (fun id hid => by
      simp only [Cell.ids, List.mem_singleton] at hid; subst hid; exact ⟨_, get_push_some hg, rfl⟩) (fun _ _ _ _ e => by cases e) hT (by simpa using hc2) (by simp [lenMost])
  refine ⟨s', k', e, ⟨by have := A.len; simp at this; omega, fun id hid => ?_⟩, fun a a2 h1 h2 => ⟨A.sl, rfl, fun j hj => ?_, fun id hid => ?_⟩⟩
  · rw [A.keep id (by simp; omega) (by simp [Cell.ids]; omega), get_push_lt (by simp; omega), get_push_lt (by simp; omega), get_push_lt hid]
  · simp at hj
    obtain rfl | rfl : j = 0 ∨ j = 1 := by omega
    · exact h1
    · exact h2
  · rcases A.ids id hid with h3 | h3
    · simp [Cell.ids] at h3; omega
    · simp at h3; omega

set_option maxHeartbeats 1000000 in
theorem c_arrows {s : Cell} {code : List POp} {i : Nat} (hc : Sl h s 6 encO code) (hi : i < code.length) (ho : opOk code[i] = true) (hl : code.length ≤ 16) :
    @Wp _ (Dz.den 75 [.c s, .c (.int .i64 i)] h) ⟨ArrQ h (nexts code[i] code.length i ++ tos code[i])⟩ := by
  refine den_wp rfl Tryz.func75 rfl ?_
  have ws := wrap_succ (hc.lt hi)
  generalize hoo : code[i] = o at *
  have hg : (h.push ⟨false, 6, [encO o]⟩).get h.length = some ⟨false, 6, [encO o]⟩ := get_push_self
  have hc' := hc.push ⟨false, 6, [encO o]⟩
  have hx : Ext h (h.push ⟨false, 6, [encO o]⟩) := Ext.push _ _
  have hkl : (h.push ⟨false, 6, [encO o]⟩ : H).length = h.length + 1 := by simp
  simp [Tryz.f75, ixA_nat hc, hc.at, hi, hoo]
  simp only [encO] at hg hc' hx hkl
  generalize hK : h.push ⟨false, 6, [[.int .i64 o.kind, .int .i64 o.r, .int .i64 o.s, .int .i64 o.to, .int .i64 o.v.k, .int .i64 o.v.n]]⟩ = K at *
  have eT := fun k => c_hasT (h := k) o
  obtain ⟨wd, hs, rd, fl, hm, e2⟩ := c_how (h := K) o
  have hfl := hm.fills
  simp only [encO] at eT e2
  have hlc := hc'.lenA (e := 80)
  have hlc := fun e => hc'.lenA (e := e)
  have hg1 := fun b => get_push_some (b := b) hg
  have hg2 := fun b c => get_push_some (b := c) (hg1 b)
  by_cases hN : o.kind ≠ 9 ∧ o.kind ≠ 14 ∧ i + 1 < code.length
  rotate_left
  · have hnx : nexts o code.length i = [] := by simp only [nexts]; rw [if_neg hN]
    rw [hnx, List.nil_append]
    have hN' : ¬ o.kind = 9 → ¬ o.kind = 14 → ¬ ((i : Int) + 1 < code.length) := fun a b c => hN ⟨a, b, by omega⟩
    by_cases k5 : o.kind = 5
    · have hN2 : ¬ ((i : Int) + 1 < code.length) := hN' (by omega) (by omega)
      have h9 : ¬ o.kind = 9 := by omega
      have h14 : ¬ o.kind = 14 := by omega
      simp at ws
      simp [eq_true k5, h9, h14, hlc, ws, hN2, appendA, elemsOf, H.elems, H.cellsAt, hg, lenMost, tos]
      refine ⟨_, _, rfl, ?_, arrows_one (by omega) (by simp [hkl]) (by simp) (arrow_one _ _ _)⟩
      exact hx.trans ((Ext.push _ _).trans (Ext.push _ _))
    by_cases kT : hasT o.kind = true
    · by_cases h9 : o.kind = 9
      · simp [eq_true h9, k5, eT, kT, appendA, elemsOf, H.elems, H.cellsAt, hg, lenMost, tos]
        refine ⟨_, _, rfl, ?_, arrows_one (by omega) (by simp [hkl]) (by simp) (arrow_same _ _ _)⟩
        exact hx.trans ((Ext.push _ _).trans (Ext.push _ _))
      · have h14 : ¬ o.kind = 14 := by simp [hasT] at kT; omega
        have hN2 : ¬ ((i : Int) + 1 < code.length) := hN' h9 h14
        simp at ws
        simp [h9, h14, k5, eT, kT, hlc, ws, hN2, appendA, elemsOf, H.elems, H.cellsAt, hg, lenMost, tos]
        refine ⟨_, _, rfl, ?_, arrows_one (by omega) (by simp [hkl]) (by simp) (arrow_same _ _ _)⟩
        exact hx.trans ((Ext.push _ _).trans (Ext.push _ _))
    · by_cases h9 : o.kind = 9
      · exact absurd (by simp [hasT, h9]) kT
      by_cases h14 : o.kind = 14
      · simp [h9, eq_true h14, k5, eT, kT, H.cellsAt, hg, tos]
        exact ⟨_, [], rfl, hx, ⟨by simp, rfl⟩, rfl, fun j hj => by simp at hj, by simp [Cell.ids]⟩
      · have hN2 : ¬ ((i : Int) + 1 < code.length) := hN' h9 h14
        simp at ws
        simp [h9, h14, k5, eT, kT, hlc, ws, hN2, H.cellsAt, hg, tos]
        exact ⟨_, [], rfl, hx, ⟨by simp, rfl⟩, rfl, fun j hj => by simp at hj, by simp [Cell.ids]⟩
  · have hnx : nexts o code.length i = [((i : Int) + 1, fun x => if fillsM o.kind then withB x o.r else x)] := by simp only [nexts]; rw [if_pos hN]
    obtain ⟨h9, h14, hN2⟩ := hN
    have hN2 : (i : Int) + 1 < code.length := by omega
    simp at ws
    have A0 : ∀ fv : Cell, appendA 2 (K.push ⟨false, 2, [[.int .i64 ((i : Int) + 1), fv]]⟩) (.c .nils) (.c (.sl (h.length + 1) 0 1 none)) = some (.c (.sl (h.length + 1 + 1) 0 1 none), (K.push ⟨false, 2, [[.int .i64 ((i : Int) + 1), fv]]⟩).push ⟨false, 2, [[.int .i64 ((i : Int) + 1), fv]]⟩) := fun fv => by
      rw [← hkl]; simp [appendA, elemsOf, H.elems, lenMost]
    by_cases hf : fillsM o.kind = true
    · have hr := opOk_r ho hf
      rw [hf] at hfl
      subst hfl
      simp only [hf, ↓reduceIte] at hnx
      rw [hnx]
      by_cases k5 : o.kind = 5
      · obtain ⟨s', k', e3, hext, fin⟩ := second_arrow hkl [.int .i64 ((i : Int) + 1), .fn 109 [(h.length, 0, 0)]] [.int .i64 o.to, .fn 110 []] rfl rfl
        simp [h9, h14, hlc, ws, hN2, e2, H.cellsAt, hg, A0, eq_true k5, hg2, hkl, e3, tos]
        exact ⟨s', _, rfl, hx.trans hext, fin _ _ (arrow_filled (Nat.le_refl _) (hext.get hg) hr.1 hr.2 _) (arrow_one _ _ _)⟩
      by_cases kT : hasT o.kind = true
      · obtain ⟨s', k', e3, hext, fin⟩ := second_arrow hkl [.int .i64 ((i : Int) + 1), .fn 109 [(h.length, 0, 0)]] [.int .i64 o.to, .fn 108 []] rfl rfl
        simp [h9, h14, hlc, ws, hN2, e2, H.cellsAt, hg, A0, k5, hg2, hkl, e3, eT, kT, tos]
        exact ⟨s', _, rfl, hx.trans hext, fin _ _ (arrow_filled (Nat.le_refl _) (hext.get hg) hr.1 hr.2 _) (arrow_same _ _ _)⟩
      · simp [h9, h14, hlc, ws, hN2, e2, H.cellsAt, hg, A0, k5, hg2, hkl, eT, kT, tos]
        exact ⟨_, _, rfl, hx.trans ((Ext.push _ _).trans (Ext.push _ _)), arrows_one (by omega) (by simp [hkl]) (by simp) (arrow_filled (Nat.le_refl _) (get_push_some (hg1 _)) hr.1 hr.2 _)⟩
    · have hf' : fillsM o.kind = false := by simpa using hf
      rw [hf'] at hfl
      subst hfl
      simp only [hf', Bool.false_eq_true, ↓reduceIte] at hnx
      rw [hnx]
      have k5 : ¬ o.kind = 5 := fun e => by simp [fillsM, e] at hf'
      by_cases kT : hasT o.kind = true
      · obtain ⟨s', k', e3, hext, fin⟩ := second_arrow hkl [.int .i64 ((i : Int) + 1), .fn 108 []] [.int .i64 o.to, .fn 108 []] rfl rfl
        simp [h9, h14, hlc, ws, hN2, e2, H.cellsAt, hg, A0, k5, hg2, hkl, e3, eT, kT, tos]
        exact ⟨s', _, rfl, hx.trans hext, fin _ _ (arrow_same _ _ _) (arrow_same _ _ _)⟩
      · simp [h9, h14, hlc, ws, hN2, e2, H.cellsAt, hg, A0, k5, hg2, hkl, eT, kT, tos]
        exact ⟨_, _, rfl, hx.trans ((Ext.push _ _).trans (Ext.push _ _)), arrows_one (by omega) (by simp [hkl]) (by simp) (arrow_same _ _ _)⟩
end Go.Proofs.YtdpffdpgcooagaaGreat

/-
  PLAIN: the ways of a step, one behind the other, come to the same as the reference's step.
-/
set_option maxRecDepth 8000
namespace Go.Proofs.YtdpffdpgcooagaaGreat
open Go.AM
theorem both_comm_fin : ∀ v : Fin 17, ∀ x y : Fin 16, both (both ((v.val : Int) - 1) x.val) y.val = both (both ((v.val : Int) - 1) y.val) x.val := by decide +kernel
theorem both_comm {v x y : Int} (hv : -1 ≤ v) (hv' : v ≤ 15) (hx : 0 ≤ x) (hx' : x ≤ 15) (hy : 0 ≤ y) (hy' : y ≤ 15) : both (both v x) y = both (both v y) x := by
  have := both_comm_fin ⟨(v + 1).toNat, by omega⟩ ⟨x.toNat, by omega⟩ ⟨y.toNat, by omega⟩
  simp only at this
  rwa [show (((v + 1).toNat : Nat) : Int) - 1 = v by omega, show ((x.toNat : Nat) : Int) = x by omega, show ((y.toNat : Nat) : Int) = y by omega] at this
theorem merge_comm {f : List Int} (hf : BitsOk f) (a b : Nat) {x y : Int} (hx : 0 ≤ x) (hx' : x ≤ 15) (hy : 0 ≤ y) (hy' : y ≤ 15) : mergeF (mergeF f a x) b y = mergeF (mergeF f b y) a x := by
  unfold mergeF
  by_cases hab : a = b
  · subst hab
    by_cases hn : a < f.length
    · have hv := hf _ (List.getElem_mem hn)
      simp only [List.getElem?_set, ↓reduceIte, hn, List.set_set, Option.getD_some, List.getElem?_eq_getElem hn]
      rw [both_comm hv.1 hv.2 hx hx' hy hy']
    · simp only [List.set_eq_of_length_le (show f.length ≤ a by omega)]
  · simp only [List.getElem?_set_ne hab, List.getElem?_set_ne (Ne.symm hab)]
    rw [List.set_comm _ _ hab]
def arrowF (f : List Int) (i : Nat) (a : Arrow) : List Int := mergeF f a.1.toNat (a.2 (f[i]?.getD 0))
def foldA (f : List Int) (i : Nat) (ws : List Arrow) : List Int := ws.foldl (fun f a => arrowF f i a) f
theorem foldA_from {o : POp} {f : List Int} {i : Nat} (hf : BitsOk f) (ho : opOk o = true) (hi : i < f.length) (h0 : 0 ≤ f[i]) : foldA f i (nexts o f.length i ++ tos o) = fromF o f i := by
  have hb := hf _ (List.getElem_mem hi)
  have hfi : f[i]?.getD 0 = f[i] := by simp [hi]
  have hgo : ∀ g : List Int, g[i]?.getD 0 = f[i] → foldA g i (tos o) = goF o g f[i] := by
    intro g hg
    unfold foldA tos goF goesTo
    by_cases k5 : o.kind = 5
    · rw [if_pos k5, if_pos k5]; rfl
    · rw [if_neg k5, if_neg k5]
      by_cases kT : hasT o.kind = true
      · have : o.kind = 8 ∨ o.kind = 9 ∨ o.kind = 10 := by simp [hasT] at kT; omega
        rw [if_pos kT, if_pos this]
        simp only [List.foldl_cons, List.foldl_nil, arrowF, hg]
      · have : ¬ (o.kind = 8 ∨ o.kind = 9 ∨ o.kind = 10) := by simp [hasT] at kT; omega
        rw [if_neg kT, if_neg this]; rfl
  have happ : ∀ ws ws', foldA f i (ws ++ ws') = foldA (foldA f i ws) i ws' := fun ws ws' => by unfold foldA; rw [List.foldl_append]
  rw [happ]
  simp only [fromF, hfi]
  by_cases hk : o.kind = 9 ∨ o.kind = 14
  · rw [if_pos hk]
    have : nexts o f.length i = [] := by unfold nexts; rw [if_neg (by omega)]
    rw [this]
    exact hgo f hfi
  · rw [if_neg hk]
    have hon := onward_range ho h0 hb.2
    by_cases hn : i + 1 < f.length
    · have : nexts o f.length i = [((i : Int) + 1, fun x => if fillsM o.kind then withB x o.r else x)] := by unfold nexts; rw [if_pos (by omega)]
      rw [this]
      have e1 : foldA f i [((i : Int) + 1, fun x => if fillsM o.kind then withB x o.r else x)] = mergeF f (i + 1) (onward o f[i]) := by
        simp only [foldA, List.foldl_cons, List.foldl_nil, arrowF, hfi]
        rw [show ((i : Int) + 1).toNat = i + 1 by omega]; rfl
      rw [e1, hgo _ (by simp [mergeF, hi])]
      unfold goF
      cases hg : goesTo o f[i] with
      | none => rfl
      | some b =>
        have := goesTo_range h0 hb.2 hg
        simp only
        exact merge_comm hf _ _ hon.1 hon.2 this.1 this.2
    · have : nexts o f.length i = [] := by unfold nexts; rw [if_neg (by omega)]
      rw [this]
      have e : mergeF (goF o f f[i]) (i + 1) (onward o f[i]) = goF o f f[i] := by
        unfold mergeF
        rw [List.set_eq_of_length_le]
        have := (goF_props (o := o) hf h0 hb.2).2.1
        omega
      rw [e]
      exact hgo f hfi
theorem arrow_ranges {o : POp} {n i : Nat} (ho : opOk o = true) : ∀ a ∈ nexts o n i ++ tos o, 0 ≤ a.1 ∧ ∀ x, 0 ≤ x → x ≤ 15 → 0 ≤ a.2 x ∧ a.2 x ≤ 15 := by
  intro a ha
  rcases List.mem_append.1 ha with ha | ha
  · unfold nexts at ha
    split at ha
    · simp at ha; subst ha
      refine ⟨by simp only; omega, fun x h0 h1 => ?_⟩
      have := onward_range (x := x) ho h0 h1
      unfold onward at this
      exact this
    · cases ha
  · unfold tos at ha
    have ht : hasT o.kind = true → 0 ≤ o.to := by
      intro hT
      simp only [opOk, Bool.and_eq_true] at ho
      have := ho.1.2
      rw [if_pos hT] at this
      simp at this; exact this.1
    split at ha
    · rename_i k5
      simp at ha; subst ha
      exact ⟨ht (by simp [hasT, k5]), fun x _ _ => by simp⟩
    · split at ha
      · rename_i kT
        simp at ha; subst ha
        exact ⟨ht kT, fun x h0 h1 => ⟨h0, h1⟩⟩
      · cases ha
theorem arrow_to {code : List POp} (hok : codeOk code = true) {i : Nat} (hi : i < code.length) : ∀ a ∈ nexts code[i] code.length i ++ tos code[i], a.1 < code.length := by
  intro a ha
  have hT : hasT code[i].kind = true → code[i].to < code.length := by
    intro h
    simp only [codeOk, Bool.and_eq_true, List.all_eq_true] at hok
    have := (hok.2 _ (List.getElem_mem hi)).2
    simp [h] at this; exact this
  rcases List.mem_append.1 ha with ha | ha
  · unfold nexts at ha
    split at ha
    · simp at ha; subst ha; simp only; omega
    · cases ha
  · unfold tos at ha
    split at ha
    · rename_i k5
      simp at ha; subst ha
      exact hT (by simp [hasT, k5])
    · split at ha
      · rename_i kT
        simp at ha; subst ha; exact hT kT
      · cases ha
theorem arrowF_props {f : List Int} {i : Nat} {a : Arrow} (hf : BitsOk f) (h0 : 0 ≤ f[i]?.getD 0) (h1 : f[i]?.getD 0 ≤ 15) (ha : ∀ x, 0 ≤ x → x ≤ 15 → 0 ≤ a.2 x ∧ a.2 x ≤ 15) : BitsOk (arrowF f i a) ∧ (arrowF f i a).length = f.length ∧ Dec f (arrowF f i a) := by
  have := ha _ h0 h1
  exact ⟨mergeF_ok hf this.1 this.2, mergeF_length, mergeF_dec hf this.1 this.2⟩
theorem foldA_take {f : List Int} {i j : Nat} {ws : List Arrow} (hj : j < ws.length) : foldA f i (ws.take (j + 1)) = arrowF (foldA f i (ws.take j)) i ws[j] := by
  rw [List.take_succ_eq_append_getElem hj]; unfold foldA; rw [List.foldl_append]; rfl
/-- In the midst of a step's ways. -/
theorem foldA_props {f : List Int} {i : Nat} {ws : List Arrow} (hf : BitsOk f) (hi : i < f.length) (h0 : 0 ≤ f[i]) (ha : ∀ a ∈ ws, ∀ x, 0 ≤ x → x ≤ 15 → 0 ≤ a.2 x ∧ a.2 x ≤ 15) : ∀ j, j ≤ ws.length →
    BitsOk (foldA f i (ws.take j)) ∧ (foldA f i (ws.take j)).length = f.length ∧ Dec f (foldA f i (ws.take j)) ∧ 0 ≤ (foldA f i (ws.take j))[i]?.getD 0 ∧ (foldA f i (ws.take j))[i]?.getD 0 ≤ 15
  | 0, _ => by
    have := (hf _ (List.getElem_mem hi)).2
    simp [foldA, hi, hf, h0, this, Dec.refl]
  | j + 1, hj => by
    obtain ⟨h1, h2, h3, h4, h5⟩ := foldA_props hf hi h0 ha j (by omega)
    have hj' : j < ws.length := by omega
    rw [foldA_take hj']
    have hr := ha _ (List.getElem_mem hj')
    obtain ⟨g1, g2, g3⟩ := arrowF_props (i := i) (a := ws[j]) h1 h4 h5 hr
    refine ⟨g1, by omega, h3.trans g3, ?_⟩
    have hr2 := hr _ h4 h5
    generalize hF : foldA f i (ws.take j) = F at *
    have hiF : i < F.length := by omega
    simp only [arrowF, mergeF, List.getElem?_set]
    split
    · rename_i e
      rw [if_pos (by omega), Option.getD_some]
      rw [e]
      have := both_range h5 hr2.1 hr2.2
      exact this
    · exact ⟨h4, h5⟩
end Go.Proofs.YtdpffdpgcooagaaGreat

/-
  THE PROGRAM'S full: what it answers.
-/
set_option maxRecDepth 8000
namespace Go.Proofs.YtdpffdpgcooagaaGreat
open Go.AM
variable {h : H}
def rowI (n : Nat) : Nat → List Int
  | 0 => List.replicate n 0
  | i + 1 => (rowI n i).set i (-1)
@[simp] theorem rowI_length (n : Nat) : ∀ i, (rowI n i).length = n
  | 0 => by simp [rowI]
  | i + 1 => by simp [rowI, rowI_length n i]
theorem rowI_get (n : Nat) : ∀ i k, k < n → (rowI n i)[k]? = some (if k < i then -1 else 0)
  | 0, k, hk => by simp [rowI, hk]
  | i + 1, k, hk => by
    simp only [rowI, List.getElem?_set, rowI_length]
    by_cases e : i = k
    · subst e; simp [hk]
    · rw [if_neg e, rowI_get n i k hk]; congr 1; split <;> split <;> first | rfl | omega
theorem rowI_full (n : Nat) : (rowI n n).set 0 1 = full0 n := by
  apply List.ext_getElem?
  intro k
  by_cases hk : k < n
  · simp only [full0, List.getElem?_set, rowI_length, List.length_replicate, rowI_get n _ k hk, List.getElem?_replicate, hk, ↓reduceIte]
  · rw [List.getElem?_eq_none (by simp; omega), List.getElem?_eq_none (by simp [full0]; omega)]

def FullQ (h : H) (code : List POp) (r : V × H) : Prop := r.1 = .c (.sl h.length 0 code.length none) ∧ Ext h r.2 ∧ r.2.get h.length = some (blkI (fullR code))

set_option maxHeartbeats 2000000 in
theorem c_IFull {s : Cell} {code : List POp} (hc : Sl h s 6 encO code) (hok : codeOk code = true) : @Wp _ (Dz.den 43 [.c s] h) ⟨FullQ h code⟩ := by
  refine den_wp rfl Tryz.func43 rfl ?_
  have hcl := codeOk_len hok
  have hop := codeOk_op hok
  have hl : (code.length : Int) ≤ 4294967296 := by omega
  simp [Tryz.f43, hc.lenA, hl]
  have hp0 : (h.push ⟨false, 1, List.replicate code.length [.int .i64 0]⟩) = h.push (blkI (rowI code.length 0)) := by simp [blkI, rowI]
  rw [hp0]
  have hP : ∀ f, Sl (h.push (blkI f)) s 6 encO code := fun f => hc.push _
  have hG : ∀ f, (h.push (blkI f)).get h.length = some (blkI f) := fun f => get_push_self
  have W : ∀ f m x, m < List.length f → (h.push (blkI f)).write h.length m 0 [.int .i64 x] = some (h.push (blkI (f.set m x))) := fun f m x hm => by rw [write_blkI (hG f) hm, set_push]
  refine count_wp code.length (fun i => ([.c s, .c .nils, .c (.sl h.length 0 code.length none), .c (ci code.length), .c (ci i)], [], [], h.push (blkI (rowI code.length i)))) (fun i => True) rfl trivial ?_ ?_
  · intro i hi _
    rw [Wp_body]
    simp [hi, W, wrap_succ (show i < sMost by simp [sMost]; omega), rowI]
  · intro _
    have h0 : 0 < code.length := by omega
    rw [Wp_body]
    simp [W, h0, rowI_full]
    refine loop_wp (σ := List Int × Bool × H) (fun s1 => ([.c s, .c .nils, .c (.sl h.length 0 code.length none), .c (.bool s1.2.1)], [], [], s1.2.2))
      (fun s1 => (Ext h s1.2.2 ∧ s1.2.2.get h.length = some (blkI s1.1)) ∧ BitsOk s1.1 ∧ s1.1.length = code.length ∧ fullF code s1.1 = fullR code ∧ (s1.2.1 = false → s1.1 = fullR code)) (fun s1 => wts s1.1 + if s1.2.1 then 1 else 0)
      (full0 code.length, true, h.push (blkI (full0 code.length))) rfl ⟨⟨Ext.push _ _, get_push_self⟩, full0_ok _, full0_length _, rfl, by simp⟩ ?_
    rintro ⟨f, mv, g⟩ ⟨⟨x1, x2⟩, p1, p2, p3, p4⟩
    simp only at x1 x2 p1 p2 p3 p4 ⊢
    rw [Wp_body]
    cases mv
    · simp
      exact ⟨rfl, x1, by rw [← p4 rfl]; exact x2⟩
    simp [(hc.ext x1).lenA]
    have q := fun i hi => passTo_props (code := code) (f := f) hop p1 p2 i hi
    refine count_wpG (σ := H) code.length (fun i g => ([.c s, .c .nils, .c (.sl h.length 0 code.length none), .c (.bool (tt (passTo code f i ≠ f))), .c (ci code.length), .c (ci i)], [], [], g)) (fun i g => Ext h g ∧ g.get h.length = some (blkI (passTo code f i))) g (by simp [passTo]) ⟨x1, x2⟩ ?_ ?_
    · rintro i g hi ⟨y1, y2⟩
      obtain ⟨q1, q2, q3⟩ := q i (by omega)
      have hig : i < (passTo code f i).length := by omega
      have C := cells_blkI y2 hig
      have hcg := hc.ext y1
      have hir : (passTo code f i)[i]?.getD 0 = (passTo code f i)[i] := by simp [hig]
      have hbb := q1 _ (List.getElem_mem hig)
      rw [Wp_body]
      by_cases h0 : 0 ≤ (passTo code f i)[i]
      rotate_left
      · have hneg : (passTo code f i)[i] < 0 := by omega
        simp [hi, C, hig, y2, hneg, hir, passTo, h0, wrap_succ (show i < sMost by simp [sMost]; omega)]
        exact y1
      have hneg : ¬ (passTo code f i)[i] < 0 := by omega
      obtain ⟨⟨v, k⟩, e, s', cs, e2, hx, hR⟩ := c_arrows hcg hi (hop _ (List.getElem_mem hi)) hcl.2
      simp only at e2
      subst e2
      simp only at hx hR
      simp [hi, C, hig, y2, hneg, hir, e, hR.sl.lenA]
      have hgl := H.get_lt y2
      have hkl := H.get_lt (hx.get y2)
      have hok2 := arrow_ranges (n := code.length) (i := i) (hop _ (List.getElem_mem hi))
      have hto := arrow_to hok hi
      have hfrom := foldA_from q1 (hop _ (List.getElem_mem hi)) hig h0
      rw [show (passTo code f i).length = code.length by omega] at hfrom
      have hws := hR.len
      have hpr := foldA_props q1 hig h0 (fun a ha => (hok2 a ha).2)
      generalize hwsE : nexts code[i] code.length i ++ tos code[i] = ws at *
      generalize hf1 : passTo code f i = f1 at *
      refine count_wp cs.length (fun j => ([.c s, .c .nils, .c (.sl h.length 0 code.length none), .c (.bool (tt (foldA f1 i (ws.take j) ≠ f))), .c (ci i), .c (ci code.length), .c (ci i), .c s', .c (ci cs.length), .c (ci j)], [], [], List.set k h.length (some (blkI (foldA f1 i (ws.take j)))))) (fun j => True) ?_ trivial ?_ ?_
      · simp only [List.take_zero, foldA, List.foldl_nil, set_same (hx.get y2)]; rfl
      · intro j hj _
        have hjw : j < ws.length := by omega
        obtain ⟨r1, r2, r3, r4, r5⟩ := hpr j (by omega)
        have ht0 := (hok2 _ (List.getElem_mem hjw)).1
        have hty := (hok2 _ (List.getElem_mem hjw)).2 _ r4 r5
        have htl := hto _ (List.getElem_mem hjw)
        obtain ⟨fid, caps, ec, _, ecall⟩ := hR.each j hjw
        have hnext := foldA_take (f := f1) (i := i) hjw
        generalize hw : ws[j] = w at *
        generalize hfj : foldA f1 i (ws.take j) = fj at *
        obtain ⟨t, htn⟩ : ∃ t : Nat, w.1 = t := ⟨w.1.toNat, by omega⟩
        have htl' : t < fj.length := by omega
        have hil : i < fj.length := by omega
        have hgK : H.get (List.set k h.length (some (blkI fj))) h.length = some (blkI fj) := get_set_self hkl
        have C1 := cells_blkI hgK htl'
        have C2 := cells_blkI hgK hil
        have e5 := ecall (List.set k h.length (some (blkI fj))) (fun id a b => get_set_ne (by omega)) _ r4 r5
        have hSK : Sl (List.set k h.length (some (blkI fj))) s' 2 id cs := hR.sl.same fun id hid => by
          have := hR.ids id hid
          exact get_set_ne (by omega)
        have hix : fj[i]?.getD 0 = fj[i] := by simp [hil]
        have htx : fj[t]?.getD 0 = fj[t] := by simp [htl']
        rw [hix] at e5 hty r4 r5
        have hbt := r1 _ (List.getElem_mem htl')
        have hand := andW hbt.1 hbt.2 hty.1 hty.2
        have hW := write_blkI (x := both fj[t] (w.2 fj[i])) hgK htl'
        rw [List.set_set] at hW
        have harr : arrowF fj i w = fj.set t (both fj[t] (w.2 fj[i])) := by
          simp only [arrowF, mergeF, hix]
          rw [show w.1.toNat = t by omega, htx]
        rw [Wp_body]
        simp [hj, ixA_nat hSK, hSK.at, ec, htn, hgK, C1, C2, htl', hil, e5, hand, hW]
        have hwj := wrap_succ (hR.sl.lt hj)
        simp at hwj
        have hset : fj.set t (both fj[t] (w.2 fj[i])) = foldA f1 i (ws.take (j + 1)) := by rw [hnext, harr]
        have hd := (arrowF_props (i := i) (a := w) r1 (by rw [hix]; exact r4) (by rw [hix]; exact r5) (by rw [← hw]; exact (hok2 _ (List.getElem_mem hjw)).2)).2.2
        rw [← hnext] at hd
        have hne := (q3.trans r3).ne hd
        refine ⟨by unfold LexOk; kernel_rfl, by omega, by omega, by omega, fun eq => ?_, fun ne => ⟨by omega, ⟨?_, hwj⟩, by rw [hset]⟩⟩
        · have : foldA f1 i (ws.take (j + 1)) = fj := by rw [← hset, eq]; simp
          rw [this]
          exact ⟨⟨rfl, hwj⟩, rfl⟩
        · refine hne.2 (.inr fun eq => ne ?_)
          rw [← hset] at eq
          have := congrArg (fun l => l[t]?) eq
          simpa [htl'] using this
      · intro _
        rw [Wp_body]
        simp
        have e1 : foldA f1 i (ws.take cs.length) = passTo code f (i + 1) := by
          rw [List.take_of_length_le (by omega), hfrom]
          simp only [passTo]
          rw [hf1, hir, if_pos h0]
          simp [hi]
        rw [e1]
        refine ⟨_, ⟨⟨rfl, by have := wrap_succ (show i < sMost by simp [sMost]; omega); simpa using this⟩, rfl⟩, ?_, get_set_self hkl⟩
        exact (y1.trans hx).set (Nat.le_refl _) _
    · rintro g ⟨y1, y2⟩
      obtain ⟨q1, q2, q3⟩ := q code.length (by omega)
      rw [Wp_body]
      simp
      have hps : passTo code f code.length = pass code f := rfl
      rw [hps] at q1 q2 q3 y2 ⊢
      refine ⟨pass code f, ?_⟩
      by_cases e : pass code f = f
      · left
        have := fullF_stop e
        exact ⟨g, ⟨e, rfl⟩, ⟨⟨y1, y2⟩, q1, by omega, by rw [e, p3], by rw [e, ← p3, this]⟩, by rw [e]; omega⟩
      · right
        have hd : wts (pass code f) < wts f := by
          rcases q3 with q3 | q3
          · exact absurd q3 e
          · exact q3
        exact ⟨g, ⟨e, rfl⟩, ⟨⟨y1, y2⟩, q1, by omega, by rw [← p3, fullF_step hd]⟩, hd⟩
end Go.Proofs.YtdpffdpgcooagaaGreat

/-
  THE PROGRAM'S CodeSafe: what it answers.
-/
set_option maxRecDepth 8000
namespace Go.Proofs.YtdpffdpgcooagaaGreat
open Go.AM
variable {h : H}
theorem shr_fin : ∀ x : Fin 16, ∀ u : Fin 4, decide (IntKind.i64.wrap ↑((Int.fdiv (x.val : Int) (2 ^ min u.val IntKind.i64.bits) % 2 ^ IntKind.i64.bits).toNat &&& (1 % 2 ^ IntKind.i64.bits)) = 0) = !has (x.val : Int) (u.val : Int) := by decide +kernel
theorem shrW {x : Int} {u : Nat} (h0 : 0 ≤ x) (h1 : x ≤ 15) (u1 : u ≤ 3) : decide (IntKind.i64.wrap ↑((Int.fdiv x (2 ^ min u IntKind.i64.bits) % 2 ^ IntKind.i64.bits).toNat &&& (1 % 2 ^ IntKind.i64.bits)) = 0) = !has x (u : Int) := by
  have := shr_fin ⟨x.toNat, by omega⟩ ⟨u, by omega⟩
  simp only at this
  rwa [show ((x.toNat : Nat) : Int) = x by omega] at this
theorem c_empty {id : Nat} {x : Int} (hg : h.get id = some ⟨false, 1, [[.int .i64 x]]⟩) (u : Int) (h0 : 0 ≤ x) (h1 : x ≤ 15) (u0 : 0 ≤ u) (u1 : u ≤ 3) :
    Dz.den 45 [.c (.int .i64 u), .c (.ptr id 0 0)] h = some (.c (.bool (!has x u)), h) := by
  refine den_plain rfl Tryz.func45 rfl rfl ?_
  simp [Tryz.f45, H.cellsAt, hg]
  refine ⟨u0, fun _ => ?_⟩
  have := shrW (u := u.toNat) h0 h1 (by omega)
  rw [show ((u.toNat : Nat) : Int) = u by omega] at this
  exact this

set_option maxHeartbeats 2000000 in
theorem c_ICodeSafe {s : Cell} {code : List POp} (hc : Sl h s 6 encO code) : Dz.den 19 [.c s] h = some (.c (.bool (tt (CodeSafe code))), h) := by
  refine den_plain rfl Tryz.func19 rfl rfl ?_
  by_cases hok : codeOk code = true
  rotate_left
  · have kk : ¬ CodeSafe code := fun k => hok k.ok
    simp [Tryz.f19, c_ICodeOk hc, hok, kk]
  have hl := codeOk_len hok
  have hop := codeOk_op hok
  obtain ⟨p1, p2, p3⟩ := fullR_props hop
  obtain ⟨⟨v, k⟩, e, e2, hx, hg⟩ := c_IFull hc hok
  simp only at e2 hx hg
  subst e2
  simp [Tryz.f19, c_ICodeOk hc, hok, e]
  obtain ⟨n, hn⟩ : ∃ n, code.length = n := ⟨_, rfl⟩
  rw [hn]
  refine count_wpG (σ := H) n (fun i g => ([.c s, .c (.bool false), .c (.sl h.length 0 n none), .c (ci n), .c (ci (i : Nat))], [], [], g)) (fun i g => Ext k g ∧ AllIx code i (fun j o => stepSafe n ((fullR code)[j]?.getD 0) j o)) k rfl ⟨Ext.refl _, by simp⟩ ?_ ?_
  · rintro i g hi ⟨hx2, hP⟩
    have hx3 := hx.trans hx2
    have hg2 := hx2.get hg
    have hi' : i < code.length := by omega
    have hif : i < (fullR code).length := by omega
    have C := cells_blkI hg2 hif
    have hb := p1 _ (List.getElem_mem hif)
    have hir : (fullR code)[i]?.getD 0 = (fullR code)[i] := by simp [hif]
    have ws := wrap_succ (show i < sMost by simp [sMost]; omega)
    simp at ws
    rw [Wp_body]
    by_cases hneg : (fullR code)[i] < 0
    · simp [hi, hg2, C, hir, hneg, ws, allIx_succ hi', hP]
      exact ⟨hx2.trans (Ext.push _ _), fun h0 => by omega⟩
    have hc1 := (hc.ext hx3).push ⟨false, 1, [[.int .i64 (fullR code)[i]]]⟩
    have hge := get_push_self (h := g) (b := ⟨false, 1, [[.int .i64 (fullR code)[i]]]⟩)
    have hxg := Ext.push g ⟨false, 1, [[.int .i64 (fullR code)[i]]]⟩
    have ho := hop _ (List.getElem_mem hi')
    have wm : IntKind.i64.wrap ((n : Int) - 1) = n - 1 := wrap_i64 (by omega) (by omega)
    have hhn : ¬ (fullR code)[i] < 0 := hneg
    have hur := uses_range ho
    obtain ⟨⟨v2, k2⟩, e3, s2, e4, hx4, hS2⟩ := c_OpUses (h := g.push ⟨false, 1, [[.int .i64 (fullR code)[i]]]⟩) code[i] ho
    simp only at e4 hx4 hS2
    subst e4
    have hge2 := hx4.get hge
    have e5 := c_ContainsFuncI hS2 (f := 45) (caps := [(g.length, 0, 0)]) (p := fun u => !has (fullR code)[i] u) (fun u hu => by
      have := hur u hu
      exact c_empty hge2 u (by omega) hb.2 this.1 this.2)
    simp only [encO] at e3
    simp [hi, hg2, C, hir, hneg, hc1.lenA, hn, ixA_nat hc1, hc1.at, hi', wm, e3, e5, ws]
    have hx5 : Ext k k2 := hx2.trans (hxg.trans hx4)
    have key : (i + 1 = n → code[i].kind = 9 ∨ code[i].kind = 14) → ((∀ u, u ∈ uses code[i] → has (fullR code)[i] u = true) → Ext k k2 ∧ AllIx code (i + 1) fun j o => stepSafe n ((fullR code)[j]?.getD 0) j o) := by
      intro a1 a2
      refine ⟨hx5, (allIx_succ hi').2 ⟨hP, fun _ => ⟨?_, a1⟩⟩⟩
      rw [hir]; exact a2
    have bad : ∀ u, u ∈ uses code[i] → has (fullR code)[i] u = false → ¬ CodeSafe code := by
      intro u hu hf ks
      have := (ks.safe i hi' (by rw [hir]; omega)).1 u hu
      rw [hir, hf] at this; cases this
    have both : (i + 1 = n → code[i].kind = 9 ∨ code[i].kind = 14) → (∀ x, x ∈ uses code[i] → has (fullR code)[i] x = false → ¬CodeSafe code ∧ h.keeps k2) ∧
        ((∀ x, x ∈ uses code[i] → has (fullR code)[i] x = true) → Ext k k2 ∧ AllIx code (i + 1) fun j o => stepSafe n ((fullR code)[j]?.getD 0) j o) :=
      fun a => ⟨fun u hu hf => ⟨bad u hu hf, (hx.trans hx5).2⟩, key a⟩
    refine ⟨fun e1 => ⟨fun e2 => both fun _ => .inl e2, fun e2 => ⟨fun e3 => both fun _ => .inr e3, fun e3 => ⟨fun ks => ?_, (hx3.trans hxg).2⟩⟩⟩, fun e1 => both fun e => absurd e (by omega)⟩
    rcases (ks.safe i hi' (by rw [hir]; omega)).2 (by omega) with e | e
    · exact e2 e
    · exact e3 e
  · rintro g ⟨hx2, hP⟩
    rw [Wp_body]
    simp
    refine ⟨⟨hok, ?_⟩, (hx.trans hx2).2⟩
    subst hn
    exact allIx_len.1 hP
end Go.Proofs.YtdpffdpgcooagaaGreat

/-
  THE PROGRAM'S RunOk: what it answers.
-/
set_option maxRecDepth 8000
namespace Go.Proofs.YtdpffdpgcooagaaGreat
open Go.AM
variable {h : H}
theorem c_valNot (k n : Int) : Dz.den 142 [.g [.int .i64 k, .int .i64 n]] h = some (.c (.bool (!valOk ⟨k, n⟩)), h) := by
  refine den_plain rfl Tryz.func142 rfl rfl ?_
  simp [Tryz.f142]
theorem c_valsOk {s : Cell} {xs : List PVal} (hS : Sl h s 2 encV xs) : Dz.den 122 [.c s] h = some (.c (.bool (xs.all valOk)), h) := by
  refine den_plain rfl Tryz.func122 rfl rfl ?_
  have e := c_ContainsFuncV hS (f := 142) (caps := []) (p := fun v => !valOk v) (fun v _ => c_valNot v.k v.n)
  simp [Tryz.f122, e]
  rw [Bool.eq_iff_iff]; simp
theorem c_othersOk {s : Cell} {xs : List Int} (hS : Sl h s 1 encI xs) (own : Int) : Dz.den 123 [.c s, .c (.int .i64 own)] h = some (.c (.bool (tt (IdsOk xs own))), h) := by
  unfold IdsOk
  refine den_plain rfl Tryz.func123 rfl rfl ?_
  simp [Tryz.f123, hS.lenA]
  refine count_wp xs.length (fun i => ([.c s, .c (ci own), .c (.bool false), .c s, .c (ci xs.length), .c (ci i)], [], [], h)) (fun i => (xs.take i).Nodup ∧ AllTo xs i fun x => 1 ≤ x ∧ x ≤ 6 ∧ x ≠ own) rfl (by simp) ?_ ?_
  · intro i hi hP
    rw [Wp_body]
    simp [ixA_nat hS, hS.at, hi, wrap_succ (hS.lt hi), allTo_succ hi, hP, sliceA_to hS, Nat.le_of_lt hi, c_ContainsI (hS.cutTo (Nat.le_of_lt hi))]
    have hm : xs[i] ∈ xs := List.getElem_mem hi
    refine ⟨fun h1 _ => ⟨_, hm, by omega⟩, fun h1 h2 => ⟨fun h3 _ => ⟨_, hm, by omega⟩, fun h3 => ⟨fun h4 h5 => ?_, fun h4 => ⟨?_, h1, h2, h3⟩⟩⟩⟩
    · exfalso
      obtain ⟨j, hj, e⟩ := List.getElem_of_mem h4
      simp only [List.length_take] at hj
      rw [List.getElem_take] at e
      have := (List.getElem_inj h5).1 e
      omega
    · rw [List.take_succ_eq_append_getElem hi, List.nodup_append]
      exact ⟨hP.1, by simp, by rintro a ha b hb rfl; simp only [List.mem_singleton] at hb; subst hb; exact h4 ha⟩
  · intro hP
    rw [Wp_body]
    simp
    rw [List.take_length, allTo_len] at hP
    exact hP
def slotsP (r : PRun) : Prop := r.slots.length = 4 ∧ (0 ≤ r.full ∧ r.full ≤ 15) ∧ ∀ i (hi : i < r.slots.length), valOk r.slots[i] = true ∧ (has r.full i = false → r.slots[i] = ⟨0, 0⟩)
theorem c_slotsOk {c : RunC} {r : PRun} (hr : RunR h r c) : Dz.den 121 [.g (encR c)] h = some (.c (.bool (tt (slotsP r))), h) := by
  refine den_plain rfl Tryz.func121 rfl rfl ?_
  have hS := hr.slots
  have ls := fun e => hS.lenA (e := e)
  have ev := c_valsOk hS
  by_cases h1 : r.slots.length = 4
  rotate_left
  · have kk : ¬ slotsP r := fun k => h1 k.1
    have h1' : ¬ ((r.slots.length : Int) = 4) := by omega
    simp [Tryz.f121, ls, h1', kk]
  have h1' : ((r.slots.length : Int) = 4) := by omega
  by_cases h2 : ∀ v ∈ r.slots, valOk v = true
  rotate_left
  · have kk : ¬ slotsP r := fun k => h2 fun v hv => by
      obtain ⟨i, hi, rfl⟩ := List.getElem_of_mem hv
      exact (k.2.2 i hi).1
    have h2' : r.slots.all valOk = false := by
      rw [Bool.eq_false_iff]; intro e; rw [List.all_eq_true] at e; exact h2 e
    rw [h2'] at ev
    simp [Tryz.f121, ls, h1', ev, kk]
  have h2' : r.slots.all valOk = true := by rw [List.all_eq_true]; exact h2
  rw [h2'] at ev
  by_cases h3 : 0 ≤ r.full ∧ r.full ≤ 15
  rotate_left
  · have kk : ¬ slotsP r := fun k => h3 k.2.1
    simp [Tryz.f121, ls, h1', ev, hr.full, h3, kk]
  simp [Tryz.f121, ls, h1', ev, hr.full, h3]
  refine count_wp 4 (fun i => ([.c (.bool false), .c c.slots, .c (ci 4), .c (ci i)], [encR c], [], h)) (fun i => AllIx r.slots i fun j v => valOk v = true ∧ (has r.full j = false → v = ⟨0, 0⟩)) (by simp [hr.full]) (by simp) ?_ ?_
  · intro i hi hP
    have hi' : i < r.slots.length := by omega
    have hi2 : (i : Int) < 4 := by omega
    have hh := shrW (u := i) h3.1 h3.2 (by omega)
    have hv := h2 _ (List.getElem_mem hi')
    rw [Wp_body]
    cases hb : has r.full i
    · rw [hb] at hh
      simp at hh
      simp [ixA_nat hS, hS.at, hi', hi2, wrap_succ (hS.lt hi'), allIx_succ hi', hP, hr.full, hh, hv, hb]
      refine ⟨fun hne k => ?_, fun e1 e2 => by rw [← eta_val r.slots[i], e1, e2]⟩
      have := (k.2.2 i hi').2 hb
      rw [this] at hne
      simp at hne
    · rw [hb] at hh
      simp at hh
      simp [ixA_nat hS, hS.at, hi', hi2, wrap_succ (hS.lt hi'), allIx_succ hi', hP, hr.full, hh, hv, hb]
  · intro hP
    rw [Wp_body]
    simp
    rw [← h1, allIx_len] at hP
    exact ⟨h1, h3, hP⟩
theorem runOk_split (r : PRun) : RunOk r ↔ (1 ≤ r.id ∧ r.id ≤ 6) ∧ (0 ≤ r.at_ ∧ r.at_ ≤ 15) ∧ slotsP r ∧ r.mail.length ≤ 12 ∧ (∀ v ∈ r.mail, valOk v = true) ∧ (1 ≤ r.state ∧ r.state ≤ 3) ∧ (-1 ≤ r.due ∧ r.due ≤ 400) ∧ (0 ≤ r.turns ∧ r.turns ≤ 9999) ∧
    IdsOk r.links r.id ∧ IdsOk r.watched r.id ∧ (if r.state = 3 then r.mail = [] ∧ r.links = [] ∧ r.watched = [] ∧ valOk r.why = true else r.why = ⟨0, 0⟩) := by
  constructor
  · intro k
    refine ⟨k.id, k.at_, ⟨k.len, k.full, k.slots⟩, k.room, k.mail, k.state, k.due, k.turns, k.links, k.watched, ?_⟩
    split
    · rename_i e; obtain ⟨a, b, c⟩ := k.ended e; exact ⟨a, b, c, k.why⟩
    · rename_i e; exact k.live e
  · rintro ⟨a1, a2, ⟨a3, a4, a5⟩, a6, a7, a8, a9, a10, a11, a12, a13⟩
    refine ⟨a1, a2, a3, a4, a6, a8, a9, a10, a5, a7, a11, a12, ?_, ?_, ?_⟩
    · split at a13
      · exact a13.2.2.2
      · rw [a13]; rfl
    · intro e; rw [if_pos e] at a13; exact ⟨a13.1, a13.2.1, a13.2.2.1⟩
    · intro e; rw [if_neg e] at a13; exact a13
set_option maxHeartbeats 1000000 in
set_option maxRecDepth 4000 in
theorem c_IRunOk {c : RunC} {r : PRun} (hr : RunR h r c) : Dz.den 86 [.g (encR c)] h = some (.c (.bool (tt (RunOk r))), h) := by
  refine den_plain rfl Tryz.func86 rfl rfl ?_
  rw [tt_congr (runOk_split r)]
  have ls := fun e => hr.slots.lenA (e := e)
  have lm := fun e => hr.mail.lenA (e := e)
  have li := fun e => hr.links.lenA (e := e)
  have lw := fun e => hr.watched.lenA (e := e)
  have e1 := c_slotsOk hr
  have e2 := c_valsOk hr.mail
  have e3 := c_othersOk hr.links r.id
  have e4 := c_othersOk hr.watched r.id
  simp [hr.id, hr.at_, hr.full, hr.state, hr.due, hr.turns, hr.why] at e1
  have hR := hr.id
  have h5 : r.mail.length ≤ 12 ↔ ¬ (12 < (r.mail.length : Int)) := by omega
  by_cases h1 : 1 ≤ r.id ∧ r.id ≤ 6
  rotate_left
  · simp [Tryz.f86, hr.id, h1]
  by_cases h2 : 0 ≤ r.at_ ∧ r.at_ ≤ 15
  rotate_left
  · simp [Tryz.f86, hr.id, h1, hr.at_, h2]
  by_cases h3 : slotsP r
  rotate_left
  · simp [Tryz.f86, hr.id, h1, hr.at_, h2, h3, e1, hr.full, hr.state, hr.due, hr.turns, hr.why]
  by_cases h4 : 12 < (r.mail.length : Int)
  · simp [Tryz.f86, hr.id, h1, hr.at_, h2, h3, e1, hr.full, hr.state, hr.due, hr.turns, hr.why, lm, h4, h5]
  by_cases h6 : ∀ v ∈ r.mail, valOk v = true
  rotate_left
  · have h6' : r.mail.all valOk = false := by
      rw [Bool.eq_false_iff]; intro e; rw [List.all_eq_true] at e; exact h6 e
    rw [h6'] at e2
    simp [Tryz.f86, hr.id, h1, hr.at_, h2, h3, e1, hr.full, hr.state, hr.due, hr.turns, hr.why, lm, h4, h5, e2, h6]
  have h6' : r.mail.all valOk = true := by rw [List.all_eq_true]; exact h6
  rw [h6'] at e2
  by_cases h7 : 1 ≤ r.state ∧ r.state ≤ 3
  rotate_left
  · simp [Tryz.f86, hr.id, h1, hr.at_, h2, h3, e1, hr.full, hr.state, hr.due, hr.turns, hr.why, lm, h4, h5, e2, h6, h7]
  by_cases h8 : -1 ≤ r.due ∧ r.due ≤ 400
  rotate_left
  · simp [Tryz.f86, hr.id, h1, hr.at_, h2, h3, e1, hr.full, hr.state, hr.due, hr.turns, hr.why, lm, h4, h5, e2, h6, h7, h8]
  by_cases h9 : 0 ≤ r.turns ∧ r.turns ≤ 9999
  rotate_left
  · simp [Tryz.f86, hr.id, h1, hr.at_, h2, h3, e1, hr.full, hr.state, hr.due, hr.turns, hr.why, lm, h4, h5, e2, h6, h7, h8, h9]
  by_cases h10 : IdsOk r.links r.id
  rotate_left
  · simp [Tryz.f86, hr.id, h1, hr.at_, h2, h3, e1, hr.full, hr.state, hr.due, hr.turns, hr.why, lm, h4, h5, e2, h6, h7, h8, h9, e3, h10]
  by_cases h11 : IdsOk r.watched r.id
  rotate_left
  · simp [Tryz.f86, hr.id, h1, hr.at_, h2, h3, e1, hr.full, hr.state, hr.due, hr.turns, hr.why, lm, h4, h5, e2, h6, h7, h8, h9, e3, h10, e4, h11]
  have z1 : ((r.mail.length : Int) = 0) ↔ r.mail = [] := by simp
  have z2 : ((r.links.length : Int) = 0) ↔ r.links = [] := by simp
  have z3 : ((r.watched.length : Int) = 0) ↔ r.watched = [] := by simp
  by_cases h12 : r.state = 3
  · simp [Tryz.f86, hr.id, h1, hr.at_, h2, h3, e1, hr.full, hr.state, hr.due, hr.turns, hr.why, lm, li, lw, h4, h5, e2, h6, h8, h9, e3, h10, e4, h11, eq_true h12, h7]
    simp only [tt_eq]
    grind
  · simp [Tryz.f86, hr.id, h1, hr.at_, h2, h3, e1, hr.full, hr.state, hr.due, hr.turns, hr.why, lm, li, lw, h4, h5, e2, h6, h7, h8, h9, e3, h10, e4, h11, h12]
    simp only [tt_eq, Bool.and_eq_true, decide_eq_true_eq]
    refine ⟨fun e => ⟨h6, ?_⟩, fun e => by rw [e.2]; simp⟩
    rw [← eta_val r.why, e.1, e.2]
end Go.Proofs.YtdpffdpgcooagaaGreat
