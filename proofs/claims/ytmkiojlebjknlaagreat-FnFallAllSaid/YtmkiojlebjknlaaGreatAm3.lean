/-
  Proves that a small evaluator over abstract cells and the machine of the model come to the same, and what the calculus of its answers says; under no condition.
-/
import Derived.Test.YtmkiojlebjknlaaGreatAm2
set_option linter.all false
/-
 THE ABSTRACT MACHINE, 10: append, all its ways.
-/
namespace Go.AM
section
variable {T : TT} {P : Program} (ok : T.Ok P)
variable {B : Nat} {h0 : H} {ι0 : Plan} {w0 : World} {ι : Plan} {β γ : Nat → Nat} {nt : Nat} {st : St} {a : Act} {w : World}
include ok
theorem behind {es : Nat} {cur : Array Value} {base i len : Nat} {el xs : List (List Cell)} (hel : ∀ e ∈ el, e.length = es) (hxs : ∀ e ∈ xs, e.length = es) (hlen : i + len ≤ el.length)
  (hcon : ∀ (j : Nat) (e : List Cell) (k : Nat) (x : Cell), el[j]? = some e → e[k]? = some x → cur[base + j * es + k]? = some (x.conc ι))
  (hroom : base + (i + len) * es + xs.length * es ≤ cur.size) :
  let cs' := (cur.toList.take (base + (i + len) * es) ++ xs.flatten.map (Cell.conc ι) ++ cur.toList.drop (base + (i + len) * es + (xs.flatten.map (Cell.conc ι)).length)).toArray
  (∀ (j : Nat) (e : List Cell) (k : Nat) (x : Cell), (el.take (i + len))[j]? = some e → e[k]? = some x → cs'[base + j * es + k]? = some (x.conc ι)) ∧
  (∀ (j : Nat) (e : List Cell) (k : Nat) (x : Cell), xs[j]? = some e → e[k]? = some x → cs'[base + (i + len + j) * es + k]? = some (x.conc ι)) ∧
  (∀ (j : Nat) (e : List Cell) (k : Nat) (x : Cell), i + len + xs.length ≤ j → el[j]? = some e → e[k]? = some x → cs'[base + j * es + k]? = some (x.conc ι)) ∧ cs'.size = cur.size := by
 intro cs'
 have hf : (xs.flatten.map (Cell.conc ι)).length = xs.length * es := by rw [List.length_map, flatten_length xs hxs]
 have hg : ∀ j, cs'[j]? = if j < base + (i + len) * es then cur[j]? else if j < base + (i + len) * es + xs.length * es then (xs.flatten.map (Cell.conc ι))[j - (base + (i + len) * es)]? else cur[j]? := by
  intro j
  have := splice_get cur.toList (xs.flatten.map (Cell.conc ι)) (base + (i + len) * es) (by rw [hf]; simpa using hroom) j
  rw [hf] at this
  simp only [cs', hf, List.getElem?_toArray, this, Array.getElem?_toList]
 refine ⟨fun j e k x hj hk => ?_, fun j e k x hj hk => ?_, fun j e k x hle hj hk => ?_, ?_⟩
 ·rw [List.getElem?_take] at hj
  split at hj
  ·rename_i hlt
   have hk2 : k < es := by have := (List.getElem?_eq_some_iff.1 hk).1; rw [hel e (List.mem_of_getElem? hj)] at this; exact this
   have : (j + 1) * es ≤ (i + len) * es := Nat.mul_le_mul_right _ hlt
   rw [Nat.add_mul] at this
   rw [hg, if_pos (by omega)]
   exact hcon j e k x hj hk
  ·cases hj
 ·have hk2 : k < es := by have := (List.getElem?_eq_some_iff.1 hk).1; rw [hxs e (List.mem_of_getElem? hj)] at this; exact this
  have hj2 := (List.getElem?_eq_some_iff.1 hj).1
  have : (j + 1) * es ≤ xs.length * es := Nat.mul_le_mul_right _ hj2
  rw [Nat.add_mul] at this
  rw [Nat.add_mul (i + len) j]
  rw [hg, if_neg (by omega), if_pos (by omega), show base + ((i + len) * es + j * es) + k - (base + (i + len) * es) = j * es + k by omega, List.getElem?_map, flatten_at xs hxs j k e x hj hk]
  rfl
 ·have : (i + len + xs.length) * es ≤ j * es := Nat.mul_le_mul_right _ hle
  rw [Nat.add_mul (i + len)] at this
  rw [hg, if_neg (by omega), if_neg (by omega)]
  exact hcon j e k x hj hk
 ·simp only [cs', List.size_toArray, List.length_append, List.length_take, List.length_drop, Array.length_toList, hf]
  omega
set_option maxHeartbeats 1000000 in
theorem append_ok {t t' e e' : TypeId} (ht : T.td t = .slice e) (ht' : T.td t' = .slice e') (he : isOther T e = false) {s x v : V} {u ux : Value} {h' : H} {ty : TypeId}
  (h : appendA (T.size e) st.h s x = some (v, h')) (hs : s.rel ι st.h.length u) (hx : x.rel ι st.h.length ux) (hw : WRs B h0 ι0 w0 ι β γ st w) :
  ∃ w' ι', (Builtin.append_ #[t, t'] ty #[u, ux]).run P w = .ok (v.conc ι') w' ∧ WR B h0 ι0 w0 ι' β γ h' st.bx st.its w' ∧ Agree st.h.length ι ι' ∧ v.ok h'.length ∧ st.h.length ≤ h'.length := by
 have hpos : 0 < T.size e := by obtain ⟨_, _, _, _, hp, _⟩ := ok.inf e he; exact hp
 unfold appendA at h
 split at h
 ·cases h
 ·rename_i xs hxs
  split at h
  ·rename_i hc
   simp only [Bool.and_eq_true, List.all_eq_true, beq_iff_eq, decide_eq_true_eq] at hc
   obtain ⟨hl, hmx⟩ := hc
   have happ := fun w (hw : WRs B h0 ι0 w0 ι β γ st w) => run_appended ok hxs hl hx hw
   have hlen : ∀ w, (Builtin.lenOf ux).run P w = .ok xs.length w := by
    intro w1
    have := (happ w hw).1
    cases ux <;> simp [Builtin.lenOf] at this ⊢ <;> exact this
   have hbel := (happ w hw).2.2
   have hwd : WRs B h0 ι0 w0 ι β γ st w.drew := hw.same rfl rfl rfl rfl
   have hnewd := (happ w.drew hwd).2.1
   have hnew := (happ w hw).2.1
   have fresh : ∀ (base : Option Addr) (sLen sCap : Nat) (olds : List (List Cell)) (h1 : H), sCap < sLen + xs.length → sLen + xs.length ≤ lenMost → u = .slice base sLen sCap → olds.length = sLen →
     (∀ y ∈ olds, y.length = T.size e) → (∀ y ∈ olds, ∀ z ∈ y, z.below st.h.length) → h1.length = st.h.length → WR B h0 ι0 w0 ι β γ h1 st.bx st.its w.drew →
     (Builtin.firstCells (T.size e) sLen (.slice base sLen sCap)).run P w.drew = .ok (olds.flatten.map (Cell.conc ι)).toArray w.drew →
     ∃ w' ι', (Builtin.append_ #[t, t'] ty #[u, ux]).run P w = .ok ((V.c (.sl st.h.length 0 (sLen + xs.length) none)).conc ι') w' ∧ WR B h0 ι0 w0 ι' β γ (H.push h1 ⟨false, T.size e, olds ++ xs⟩) st.bx st.its w' ∧ Agree st.h.length ι ι' := by
    intro base sLen sCap olds h1 hlt hm hu hol ho1 ho2 hh1 hw1 hold
    obtain ⟨cap, rest, hcap, hrest, hrun⟩ := run_append_new ok ht ht' he (ty := ty) hlt hm hlen hold hnewd
    have hp := push_grown ok (st := { st with h := h1 }) (w := w.drew) (el := olds ++ xs) (rest := rest) (e := e) (cap := cap) hpos (fun y hy => by
      rcases List.mem_append.1 hy with h | h
      ·exact ho1 y h
      ·exact hl y h) (fun y hy z hz => by
      show z.below h1.length
      rw [hh1]
      rcases List.mem_append.1 hy with h | h
      ·exact ho2 y h z hz
      ·exact hbel y h z hz) (by simp only [List.length_append]; omega) (by simp only [List.length_append]; rw [hrest, hol]) hw1
    refine ⟨_, _, ?_, hp, by simp only [hh1]; exact Plan.set_agree _ _ _⟩
    rw [hu, hrun]
    simp only [hh1, V.conc, V.conc1, Cell.conc, Plan.set_same, Nat.zero_mul, Nat.add_zero, Nat.sub_zero]
    congr 2
    simp
   split at h
   · -- onto nothing
    obtain ⟨rfl, _⟩ := V.rel_c hs
    split at h
    ·rename_i hemp
     cases h
     have hxe : xs = [] := by simpa using hemp
     subst hxe
     exact ⟨w, ι, run_append_none ok ht ht' he hlen (by simpa using hnew), hw, Agree.refl _ _, trivial, Nat.le_refl _⟩
    ·rename_i hemp
     cases h
     have hxl : 0 < xs.length := by cases xs <;> simp at hemp ⊢
     obtain ⟨w', ι', h1, h2, h3⟩ := fresh none 0 0 [] st.h (by omega) (by omega) rfl rfl (by simp) (by simp) rfl hwd rfl
     exact ⟨w', ι', by simpa using h1, by simpa using h2, h3, by show _ < _; simp [H.push], by simp [H.push]⟩
   · -- onto a slice
    rename_i id i len cap
    obtain ⟨rfl, hidl⟩ := V.rel_c hs
    split at h
    ·cases h
    ·rename_i b hb
     split at h
     ·rename_i hc
      simp only [Bool.and_eq_true, beq_iff_eq, decide_eq_true_eq] at hc
      obtain ⟨⟨hil, hes⟩, hm⟩ := hc
      obtain ⟨cur, et, fz, hh, hies, _, hlenb, hcapb, hroom, hcon, hB⟩ := hw.hr.live id b hb
      have hies' : (ι id).es = T.size e := by rw [hies, hes]
      have helems : st.h.elems id i len = some ((b.el.drop i).take len) := by unfold H.elems; rw [hb]; simp [hil]
      have holdl : ((b.el.drop i).take len).length = len := by simp; omega
      have hold1 : ∀ y ∈ (b.el.drop i).take len, y.length = T.size e := fun y hy => by rw [hlenb y (mem_take_drop hy), hes]
      obtain ⟨hrunold, _, _, hbelold⟩ := run_elems ok helems hwd
      rw [hies'] at hrunold
      cases cap with
      | some c =>
       simp only at h
       split at h
       ·rename_i hemp
        split at h
        ·rename_i hlc
         cases h
         have hxe : xs = [] := by simpa using hemp
         subst hxe
         refine ⟨w, ι, ?_, hw, Agree.refl _ _, hidl, Nat.le_refl _⟩
         exact run_append_in ok ht ht' he (n := 0) (by simpa using hlc) hlen (by simpa using hnew) rfl
        ·cases h
       ·split at h
        ·rename_i hlt
         cases h
         obtain ⟨w', ι', h1, h2, h3⟩ := fresh (some ⟨(ι id).blk, (ι id).base + i * (ι id).es, none⟩) len c _ st.h hlt hm rfl holdl hold1 hbelold rfl hwd (by
          simp only [Builtin.firstCells, hies']; exact hrunold)
         exact ⟨w', ι', h1, h2, h3, by show _ < _; simp [H.push], by simp [H.push]⟩
        ·cases h
      | none =>
       simp only at h
       split at h
       ·cases h
       ·rename_i hro
        simp only [Bool.not_eq_true] at hro
        obtain ⟨_, rfl⟩ := hB hro
        have hcapi : b.el.length * b.es ≤ (ι id).cap * b.es := Nat.mul_le_mul_right _ hcapb
        split at h
        · -- in the middle
         rename_i hmid
         cases h
         have hmm : (i + len) * T.size e + xs.length * T.size e ≤ (ι id).cap * b.es := by
          rw [← Nat.add_mul, ← hes]; exact Nat.le_trans (Nat.mul_le_mul_right _ hmid) hcapi
         have hfl : (xs.flatten.map (Cell.conc ι)).length = xs.length * T.size e := by rw [List.length_map, flatten_length xs hl]
         obtain ⟨w', hr, hh', ho, hsz, h1, h2, h3⟩ := run_storeCells_gen (P := P) (ι id).blk ((ι id).base + (i + len) * T.size e) et (xs.flatten.map (Cell.conc ι)) 0 _ w hh (by rw [hfl]; omega) (conc_all_one _)
         obtain ⟨g1, g2, g3, g4⟩ := behind ok (ι := ι) (cur := cur) (base := (ι id).base) (i := i) (len := len) (el := b.el) (xs := xs) (es := T.size e) (fun y hy => by rw [hlenb y hy, hes]) hl hil (by rw [← hes]; exact fun j e k x h1 h2 => (hcon j e k x h1 h2).1) (by omega)
         refine ⟨w', ι, ?_, hw.write (b' := { b with el := b.el.take (i + len) ++ xs ++ b.el.drop (i + len + xs.length) }) hb hro hro rfl (fun y hy => ?_) ?_ hh' ?_ ho hsz h1 h2 h3 (fun y hy z hz => ?_) (fun j y k z hj hk => ?_), Agree.refl _ _, by simpa [V.ok, V.ok1, Cell.below] using hidl, by simp⟩
         ·have hrun := run_append_in ok ht ht' he (ty := ty) (g := (ι id).blk) (o := (ι id).base + i * T.size e) (sLen := len) (sCap := (ι id).cap - i) (n := xs.length) (new := xs.flatten.map (Cell.conc ι)) (w' := w') (by omega) hlen hnew (by
           rw [show (ι id).base + i * T.size e + len * T.size e = (ι id).base + (i + len) * T.size e by rw [Nat.add_mul]; omega]
           exact hr)
          simp only [Cell.conc, V.conc, V.conc1, hies']
          exact hrun
         ·simp only [List.mem_append] at hy
          rcases hy with (hy | hy) | hy
          ·exact hlenb y (List.mem_of_mem_take hy)
          ·rw [hl y hy, hes]
          ·exact hlenb y (List.mem_of_mem_drop hy)
         ·simp only [List.length_append, List.length_take, List.length_drop]; omega
         ·have := g4; simp only [Nat.add_zero] at this ⊢; rw [this]; exact hroom
         ·simp only [List.mem_append] at hy
          have hin : ∀ y ∈ b.el, ∀ z ∈ y, z.below st.h.length := fun y hy z hz => by
           obtain ⟨q, hq⟩ := List.getElem?_of_mem hy
           obtain ⟨r, hr'⟩ := List.getElem?_of_mem hz
           exact (hcon q y r z hq hr').2
          rcases hy with (hy | hy) | hy
          ·exact hin y (List.mem_of_mem_take hy) z hz
          ·exact hbel y hy z hz
          ·exact hin y (List.mem_of_mem_drop hy) z hz
         ·rw [hes]
          simp only [Nat.add_zero]
          have hsp := splice_get b.el xs (i + len) hmid j
          simp only at hj
          rw [hsp] at hj
          split at hj
          ·rename_i c1; exact g1 j y k z (by rw [List.getElem?_take, if_pos c1]; exact hj) hk
          ·split at hj
           ·rename_i c1 c2
            have := g2 (j - (i + len)) y k z hj hk
            rw [show i + len + (j - (i + len)) = j by omega] at this
            exact this
           ·rename_i c1 c2
            exact g3 j y k z (by omega) hj hk
        · -- taken over
         rename_i hmid
         cases h
         have hwk : WR B h0 ι0 w0 ι β γ (st.h.set id none) st.bx st.its w.drew := hwd.kill id
         by_cases hfit : len + xs.length ≤ (ι id).cap - i
         ·have hmm : (i + len) * T.size e + xs.length * T.size e ≤ (ι id).cap * b.es := by
           rw [← Nat.add_mul, ← hes]; exact Nat.mul_le_mul_right _ (by omega)
          have hfl : (xs.flatten.map (Cell.conc ι)).length = xs.length * T.size e := by rw [List.length_map, flatten_length xs hl]
          obtain ⟨w', hr, hh', ho, hsz, h1, h2, h3⟩ := run_storeCells_gen (P := P) (ι id).blk ((ι id).base + (i + len) * T.size e) et (xs.flatten.map (Cell.conc ι)) 0 _ w hh (by rw [hfl]; omega) (conc_all_one _)
          obtain ⟨g1, g2, _, g4⟩ := behind ok (ι := ι) (cur := cur) (base := (ι id).base) (i := i) (len := len) (el := b.el) (xs := xs) (es := T.size e) (fun y hy => by rw [hlenb y hy, hes]) hl hil (by rw [← hes]; exact fun j e k x h1 h2 => (hcon j e k x h1 h2).1) (by omega)
          have hmv := hw.move (b' := ⟨false, T.size e, (b.el.drop i).take len ++ xs⟩) (base := (ι id).base + i * T.size e) (cap := (ι id).cap - i) hb hro rfl hes.symm (fun y hy => by
            rcases List.mem_append.1 hy with h | h
            ·rw [hold1 y h, hes]
            ·rw [hl y h, hes]) (by simp only [List.length_append, holdl]; exact hfit) hh' (by
            have := g4
            simp only [Nat.add_zero] at this ⊢
            rw [this]
            have : i * b.es + ((ι id).cap - i) * b.es = (ι id).cap * b.es := by rw [← Nat.add_mul]; congr 1; omega
            rw [← hes]; omega) ho hsz h1 h2 h3 (fun y hy z hz => by
            rcases List.mem_append.1 hy with h | h
            ·exact hbelold y h z hz
            ·exact hbel y h z hz) (fun j y k z hj hk => by
            simp only [Nat.add_zero]
            rw [hes]
            rw [List.getElem?_append] at hj
            split at hj
            ·rename_i c1
             rw [holdl] at c1
             obtain ⟨hj', _⟩ := getElem?_take_drop hj
             have := g1 (i + j) y k z (by rw [List.getElem?_take, if_pos (by omega)]; exact hj') hk
             rw [show (ι id).base + i * T.size e + j * T.size e + k = (ι id).base + (i + j) * T.size e + k by rw [Nat.add_mul]; omega]
             exact this
            ·rename_i c1
             rw [holdl] at c1 hj
             have := g2 (j - len) y k z hj hk
             rw [show i + len + (j - len) = i + j by omega] at this
             rw [show (ι id).base + i * T.size e + j * T.size e + k = (ι id).base + (i + j) * T.size e + k by rw [Nat.add_mul]; omega]
             exact this)
          rw [hes] at hmv
          refine ⟨w', _, ?_, hmv, Plan.set_agree _ _ _, by show _ < _; simp [H.push], by simp [H.push]⟩
          simp only [Cell.conc, V.conc, V.conc1, hies', Plan.set_same, Nat.zero_mul, Nat.add_zero, Nat.sub_zero]
          exact run_append_in ok ht ht' he (ty := ty) (g := (ι id).blk) (o := (ι id).base + i * T.size e) (sLen := len) (sCap := (ι id).cap - i) (n := xs.length) (new := xs.flatten.map (Cell.conc ι)) (w' := w') hfit hlen hnew (by
           rw [show (ι id).base + i * T.size e + len * T.size e = (ι id).base + (i + len) * T.size e by rw [Nat.add_mul]; omega]
           exact hr)
         ·obtain ⟨w', ι', h1, h2, h3⟩ := fresh (some ⟨(ι id).blk, (ι id).base + i * (ι id).es, none⟩) len ((ι id).cap - i) _ (st.h.set id none) (by omega) hm rfl holdl hold1 hbelold (by simp) hwk (by
           simp only [Builtin.firstCells, hies']; exact hrunold)
          exact ⟨w', ι', h1, h2, h3, by show _ < _; simp [H.push], by simp [H.push]⟩
     ·cases h
   · -- onto an empty tail
    rename_i id i l
    obtain ⟨rfl, hidl⟩ := V.rel_c hs
    split at h
    ·cases h
    ·rename_i b hb
     split at h
     ·cases h
     ·rename_i hro
      simp only [Bool.not_eq_true] at hro
      split at h
      ·rename_i hc
       simp only [Bool.and_eq_true, beq_iff_eq, decide_eq_true_eq] at hc
       obtain ⟨hil, hes⟩ := hc
       obtain ⟨cur, et, fz, hh, hies, _, hlenb, hcapb, hroom, hcon, hB⟩ := hw.hr.live id b hb
       obtain ⟨_, rfl⟩ := hB hro
       have hies' : (ι id).es = T.size e := by rw [hies, hes]
       split at h
       ·rename_i hemp
        cases h
        have hxe : xs = [] := by simpa using hemp
        subst hxe
        refine ⟨w, ι, ?_, hw, Agree.refl _ _, hidl, Nat.le_refl _⟩
        simp only [Cell.conc, V.conc, V.conc1]
        split
        ·exact run_append_in ok ht ht' he (n := 0) (by omega) hlen (by simpa using hnew) rfl
        ·exact run_append_in ok ht ht' he (n := 0) (by omega) hlen (by simpa using hnew) rfl
       ·rename_i hemp
        cases h
        have hxl : 0 < xs.length := by cases xs <;> simp at hemp ⊢
        have hwk : WR B h0 ι0 w0 ι β γ (st.h.set id none) st.bx st.its w.drew := hwd.kill id
        have fc : ∀ (base : Option Addr) (c : Nat), (Builtin.firstCells (T.size e) 0 (.slice base 0 c)).run P w.drew = .ok #[] w.drew := fun base c => by
         cases base <;> simp [Builtin.firstCells, loadCells, loadCellsFrom]
        by_cases hfit : i + l ≠ (ι id).cap ∧ xs.length ≤ (ι id).cap - (i + l)
        ·obtain ⟨hne, hfit⟩ := hfit
         have hmm : (i + l) * T.size e + xs.length * T.size e ≤ (ι id).cap * b.es := by
          rw [← Nat.add_mul, ← hes]; exact Nat.mul_le_mul_right _ (by omega)
         have hfl : (xs.flatten.map (Cell.conc ι)).length = xs.length * T.size e := by rw [List.length_map, flatten_length xs hl]
         obtain ⟨w', hr, hh', ho, hsz, h1, h2, h3⟩ := run_storeCells_gen (P := P) (ι id).blk ((ι id).base + (i + l) * T.size e) et (xs.flatten.map (Cell.conc ι)) 0 _ w hh (by rw [hfl]; omega) (conc_all_one _)
         obtain ⟨_, g2, _, g4⟩ := behind ok (ι := ι) (cur := cur) (base := (ι id).base) (i := i) (len := l) (el := b.el) (xs := xs) (es := T.size e) (fun y hy => by rw [hlenb y hy, hes]) hl hil (by rw [← hes]; exact fun j e k x h1 h2 => (hcon j e k x h1 h2).1) (by omega)
         have hmv := hw.move (b' := ⟨false, T.size e, xs⟩) (base := (ι id).base + (i + l) * T.size e) (cap := (ι id).cap - (i + l)) hb hro rfl hes.symm (fun y hy => by rw [hl y hy, hes]) hfit hh' (by
           have := g4
           simp only [Nat.add_zero] at this ⊢
           rw [this]
           have : (i + l) * b.es + ((ι id).cap - (i + l)) * b.es = (ι id).cap * b.es := by rw [← Nat.add_mul]; congr 1; omega
           rw [← hes]; omega) ho hsz h1 h2 h3 hbel (fun j y k z hj hk => by
           simp only [Nat.add_zero]
           rw [hes]
           have := g2 j y k z hj hk
           rw [show (ι id).base + (i + l) * T.size e + j * T.size e + k = (ι id).base + (i + l + j) * T.size e + k by rw [Nat.add_mul (i + l) j]; omega]
           exact this)
         rw [hes] at hmv
         refine ⟨w', _, ?_, hmv, Plan.set_agree _ _ _, by show _ < _; simp [H.push], by simp [H.push]⟩
         simp only [Cell.conc, V.conc, V.conc1, hies', Plan.set_same, Nat.zero_mul, Nat.add_zero, Nat.sub_zero]
         rw [if_neg hne]
         have := run_append_in ok ht ht' he (ty := ty) (g := (ι id).blk) (o := (ι id).base + (i + l) * T.size e) (sLen := 0) (sCap := (ι id).cap - (i + l)) (by omega) hlen hnew (by simpa using hr)
         rw [Nat.zero_add] at this
         exact this
        ·have key : ∃ base c, Cell.conc ι (.sle id i l) = .slice base 0 c ∧ c < xs.length := by
          simp only [Cell.conc]
          split
          ·exact ⟨_, _, rfl, hxl⟩
          ·rename_i hne; exact ⟨_, _, rfl, by omega⟩
         obtain ⟨base, c, hk1, hk2⟩ := key
         obtain ⟨w', ι', h1, h2, h3⟩ := fresh base 0 c [] (st.h.set id none) (by omega) (by omega) hk1 rfl (by simp) (by simp) (by simp) hwk (fc _ _)
         rw [Nat.zero_add] at h1
         exact ⟨w', ι', h1, h2, h3, by show _ < _; simp [H.push], by simp [H.push]⟩
      ·cases h
   ·cases h
  ·cases h
end
end Go.AM

/-
 THE ABSTRACT MACHINE, 11: one operation, whatever it is.
-/
namespace Go.AM
def SimCall (P : Program) (f : FuncId) (args : List V) (h : H) (r : V) (h' : H) : Prop :=
 ∀ (B : Nat) (ι : Plan) (w : World) (cargs : List Value), HR B ι h w → cargs.length = args.length → (∀ (j : Nat) (v : V) (u : Value), args[j]? = some v → cargs[j]? = some u → v.rel ι h.length u) →
  Calls P f cargs.toArray w fun e w' => ∃ (x : Value) (ι' : Plan), e = .returned x ∧ HR B ι' h' w' ∧ FR h ι w h' ι' w' ∧ r.rel ι' h'.length x
def CallOk (P : Program) (call : CallF) : Prop := ∀ f args h r h', call f args h = some (r, h') →
 SimCall P f args h r h' ∧ ∃ fn, P.funcs[f]? = some fn ∧ fn.body.isSome = true ∧ fn.name ≠ "runtime.NumGoroutine"
section
variable {T : TT} {P : Program} (ok : T.Ok P)
variable {B : Nat} {h0 : H} {ι0 : Plan} {w0 : World} {ι : Plan} {β γ : Nat → Nat} {nt : Nat} {st : St} {a : Act} {w : World}
include ok
def SR (B : Nat) (h0 : H) (ι0 : Plan) (w0 : World) (nt : Nat) (st : St) (a : Act) (w : World) : Prop :=
 ∃ ι β γ, ER nt ι β γ st.h.length st.bx st.its st.env a ∧ WRs B h0 ι0 w0 ι β γ st w
omit ok in
theorem dstOk_lt {o : Oper} (h : dstOk nt o = true) : ∀ d, o.dst = some d → d < nt := fun d hd => by
 unfold dstOk at h; rw [hd] at h; simpa using h
omit ok in
theorem wp_value {o : Oper} {K : Act → World → Prop} {Q : Exit → Act → World → Prop} {x : Value} {w' : World} (h : (execOp a.eval o).run P w = .ok (.value x) w') (hK : K (a.put o.dst x) w') : o.wp P a w K Q := by
 unfold Oper.wp; rw [h]; exact hK
omit ok in
theorem wp_skipO {o : Oper} {K : Act → World → Prop} {Q : Exit → Act → World → Prop} {w' : World} (h : (execOp a.eval o).run P w = .ok .skip w') (hK : K (a.put o.dst undef) w') : o.wp P a w K Q := by
 unfold Oper.wp; rw [h]; exact hK
omit ok in
theorem bind_value' {s : Sem Value} {x : Value} {w' : World} (h : s.run P w = .ok x w') : (do let v ← s; pure (Next.value v) : Sem Next).run P w = .ok (.value x) w' := by
 simp only [Sem.run_bind, h, Result.andThen_ok, Sem.run_pure]
omit ok in
theorem WRs_put {d : Option Tmp} {s : Slot} (hw : WRs B h0 ι0 w0 ι β γ st w) : WRs B h0 ι0 w0 ι β γ (st.put d s) w := by
 cases d <;> exact hw
omit ok in
theorem bind_skip {s : Sem Unit} {w' : World} (h : s.run P w = .ok () w') : (do s; pure Next.skip : Sem Next).run P w = .ok .skip w' := by
 simp only [Sem.run_bind, h, Result.andThen_ok, Sem.run_pure]
omit ok in
theorem undef_rel (n : Nat) : undefV.rel ι n undef := ⟨rfl, fun v hv => by cases hv⟩
theorem SR.val {ι' : Plan} {o : Oper} {v : V} {x : Value} {h' : H} {w' : World} (her : ER nt ι β γ st.h.length st.bx st.its st.env a) (hd : dstOk nt o = true) (hw' : WR B h0 ι0 w0 ι' β γ h' st.bx st.its w')
  (hag : Agree st.h.length ι ι') (hle : st.h.length ≤ h'.length) (hv : v.rel ι' h'.length x) : SR B h0 ι0 w0 nt { st.put o.dst (.val v) with h := h' } (a.put o.dst x) w' := by
 refine ⟨ι', β, γ, ?_, by simpa using hw'⟩
 have := (her.grow hag hle (fun _ h => h) (fun _ h => h)).putO (st := st) (dst := o.dst) (s := .val v) (x := x) (dstOk_lt hd) (fun _ _ => hv)
 simpa using this
omit ok in
theorem flatten_replicate (z : List Cell) (n : Nat) : ((List.replicate n z).flatten.map (Cell.conc ι)).toArray = (Array.range (n * z.length)).map fun i => ((z.map (Cell.conc ι)).toArray)[i % (z.map (Cell.conc ι)).toArray.size]! := by
 by_cases hz : z.length = 0
 ·have : z = [] := by simpa using hz
  subst this
  simp
 ·apply Array.ext'
  apply List.ext_getElem?
  intro j
  have hlen : ((List.replicate n z).flatten).length = n * z.length := by rw [flatten_length (es := z.length) _ (fun e he => by rw [(List.mem_replicate.1 he).2])]; simp
  simp only [List.getElem?_map, Array.toList_map, Array.toList_range, List.getElem?_range, List.size_toArray, List.length_map]
  by_cases hj : j < n * z.length
  ·have hpos : 0 < z.length := by omega
   have hm : j % z.length < z.length := Nat.mod_lt _ hpos
   have hd : j / z.length < n := by rw [Nat.div_lt_iff_lt_mul hpos]; exact hj
   have := flatten_at (es := z.length) (List.replicate n z) (fun e he => by rw [(List.mem_replicate.1 he).2]) (j / z.length) (j % z.length) z z[j % z.length] (by rw [List.getElem?_replicate, if_pos hd]) (by simp [hm])
   rw [show j / z.length * z.length + j % z.length = j by have := Nat.div_add_mod j z.length; rw [Nat.mul_comm]; exact this] at this
   rw [this, List.getElem?_range hj]
   simp [hm, getElem!_pos]
  ·rw [List.getElem?_eq_none (by omega), List.getElem?_eq_none (by simpa using hj)]
   rfl
omit ok in
theorem fillE_ok {es n : Nat} : ∀ (ps : List (Nat × V)) (us : List (Nat × Value)) (acc r : List (List Cell)), fillE es ps acc = some r → (∀ e ∈ acc, e.length = es) → (∀ e ∈ acc, ∀ x ∈ e, x.below n) → ps.length = us.length →
  (∀ (j i : Nat) (v : V), ps[j]? = some (i, v) → ∃ u, us[j]? = some (i, u) ∧ v.rel ι n u) →
  r.length = acc.length ∧ (∀ e ∈ r, e.length = es) ∧ (∀ e ∈ r, ∀ x ∈ e, x.below n) ∧ Instr.fill (fun i => some (i * es, es)) (acc.flatten.map (Cell.conc ι)).toArray us = some (r.flatten.map (Cell.conc ι)).toArray
 | [], us, acc, r, h, h1, h2, hl, _ => by
  have : us = [] := by cases us <;> simp_all
  subst this
  simp only [fillE, Option.some.injEq] at h; subst h
  exact ⟨rfl, h1, h2, rfl⟩
 | (i, v) :: ps, us, acc, r, h, h1, h2, hl, hrel => by
  cases us with
  | nil => simp at hl
  | cons q us =>
   obtain ⟨u, hu, hvr⟩ := hrel 0 i v rfl
   simp only [List.getElem?_cons_zero, Option.some.injEq] at hu
   subst hu
   simp only [fillE] at h
   split at h
   ·rename_i cs hc
    split at h
    ·rename_i hsz
     obtain ⟨hcs, hi⟩ := hsz
     obtain ⟨hcells, hcb⟩ := V.cells_rel hc hvr
     obtain ⟨k1, k2, k3, k4⟩ := fillE_ok ps us (acc.set i cs) r h (fun e he => by
       rcases List.mem_or_eq_of_mem_set he with h | rfl
       ·exact h1 e h
       ·exact hcs) (fun e he x hx => by
       rcases List.mem_or_eq_of_mem_set he with h | rfl
       ·exact h2 e h x hx
       ·exact hcb x hx) (by simpa using hl) (fun j i' v' hj => hrel (j + 1) i' v' (by simpa using hj))
     refine ⟨by simpa using k1, k2, k3, ?_⟩
     rw [← k4]
     have hfl := flatten_length acc h1
     have hle : (i + 1) * es ≤ acc.length * es := Nat.mul_le_mul_right _ hi
     rw [Nat.add_mul] at hle
     simp only [Instr.fill, hcells]
     rw [if_neg (by simp only [List.size_toArray, List.length_map, hfl, hcs]; simp; omega)]
     congr 1
     have := fill_one (cs.map (Cell.conc ι)) 0 (i * es) (acc.flatten.map (Cell.conc ι)).toArray (by simp only [List.size_toArray, List.length_map, hfl, hcs]; omega)
     simp only [List.toList_toArray, Nat.add_zero, List.length_map] at this
     have hset : (acc.set i cs).flatten.map (Cell.conc ι) = (acc.flatten.map (Cell.conc ι)).take (i * es) ++ cs.map (Cell.conc ι) ++ (acc.flatten.map (Cell.conc ι)).drop (i * es + cs.length) := by
      rw [← List.map_take, ← List.map_drop, ← List.map_append, ← List.map_append]
      congr 1
      have hsl : ∀ e ∈ acc.set i cs, e.length = es := fun e he => by
       rcases List.mem_or_eq_of_mem_set he with h | rfl
       ·exact h1 e h
       ·exact hcs
      apply List.ext_getElem?
      intro j
      rw [splice_get acc.flatten cs (i * es) (by rw [hfl, hcs]; omega) j]
      have hes : 0 < es ∨ es = 0 := by omega
      rcases hes with hes | hes
      ·by_cases hj : j < acc.length * es
       ·have hd : j / es < acc.length := by rw [Nat.div_lt_iff_lt_mul hes]; exact hj
        have hm : j % es < es := Nat.mod_lt _ hes
        have hjj : j / es * es + j % es = j := by have := Nat.div_add_mod j es; rw [Nat.mul_comm]; exact this
        have hacc : (acc[j / es]).length = es := h1 _ (List.getElem_mem _)
        by_cases hij : j / es = i
        ·have hA := flatten_at (acc.set i cs) hsl i (j % es) cs cs[j % es] (by simp [hi]) (by simp [hcs, hm])
         rw [hij] at hjj
         rw [hjj] at hA
         rw [hA, if_neg (by omega), if_pos (by omega), show j - i * es = j % es by omega]
         simp [hcs, hm]
        ·have hA := flatten_at (acc.set i cs) hsl (j / es) (j % es) acc[j / es] (acc[j / es])[j % es] (by rw [List.getElem?_set_ne (Ne.symm hij)]; simp [hd]) (by simp [hacc, hm])
         have hB := flatten_at acc h1 (j / es) (j % es) acc[j / es] (acc[j / es])[j % es] (by simp [hd]) (by simp [hacc, hm])
         rw [hjj] at hA hB
         rw [hA, hB]
         rcases Nat.lt_or_gt_of_ne hij with hlt | hgt
         ·have : (j / es + 1) * es ≤ i * es := Nat.mul_le_mul_right _ hlt
          rw [Nat.add_mul] at this
          rw [if_pos (by omega)]
         ·have : (i + 1) * es ≤ j / es * es := Nat.mul_le_mul_right _ hgt
          rw [Nat.add_mul] at this
          rw [if_neg (by omega), if_neg (by omega)]
       ·have hsf := flatten_length (acc.set i cs) hsl
        rw [List.length_set] at hsf
        rw [List.getElem?_eq_none (by omega), if_neg (by omega), if_neg (by omega), List.getElem?_eq_none (by omega)]
      ·have hi0 : i * es = 0 := by rw [hes, Nat.mul_zero]
       have hsf := flatten_length (acc.set i cs) hsl
       rw [List.length_set, hes] at hsf
       rw [hes] at hfl
       rw [List.getElem?_eq_none (by omega), if_neg (by omega), if_neg (by omega), List.getElem?_eq_none (by omega)]
     rw [hset, ← this]
     simp [← Array.foldl_toList]
    ·cases h
   ·cases h
theorem run_zero {t : TypeId} (h : isOther T t = false) (w : World) : ∃ z, (zeroValue t).run P w = .ok z w ∧ z.cells = ((T.zero t).map (Cell.conc ι)).toArray := by
 obtain ⟨i, z, hi, _, _, hz, hzc, _⟩ := ok.inf t h
 exact ⟨z, by simp [zeroValue, typeInfo, hi, hz], hzc ι⟩
theorem push_row {el : List (List Cell)} {e : TypeId} {es : Nat} (hes : 0 < es) (hl : ∀ x ∈ el, x.length = es) (hbel : ∀ x ∈ el, ∀ y ∈ x, y.below st.h.length) (hw : WRs B h0 ι0 w0 ι β γ st w) :
  WR B h0 ι0 w0 (ι.set st.h.length ⟨w.heap.size, 0, el.length, es, none⟩) β γ (st.h.push ⟨false, es, el⟩) st.bx st.its (w.alloc (.cells (el.flatten.map (Cell.conc ι)).toArray e)) := by
 have := push_grown ok (rest := []) (e := e) (cap := el.length) hes hl hbel (Nat.le_refl _) (by simp) hw
 simpa using this
omit ok in
theorem lk_dropLoc (d : Nat) : ∀ (env : List (Nat × Slot)) (t : Nat) (s : Slot), lk (dropLoc d env) t = some s → s = .val .u ∨ (lk env t = some s ∧ ∀ k, s ≠ .loc d k)
 | [], _, _, h => by simp [dropLoc, lk] at h
 | (t', .loc b k) :: env, t, s, h => by
  simp only [dropLoc] at h
  rw [lk_cons]
  split at h
  ·rw [lk_cons] at h
   split at h
   ·cases h; exact .inl rfl
   ·rename_i e; rw [if_neg e]; exact lk_dropLoc d env t s h
  ·rename_i hb
   rw [lk_cons] at h
   split at h
   ·rename_i e; rw [if_pos e]; cases h; exact .inr ⟨rfl, fun k' e => by cases e; simp at hb⟩
   ·rename_i e; rw [if_neg e]; exact lk_dropLoc d env t s h
 | (t', .val v) :: env, t, s, h => by
  simp only [dropLoc] at h
  rw [lk_cons] at h ⊢
  split at h
  ·rename_i e; rw [if_pos e]; cases h; exact .inr ⟨rfl, fun k e => by cases e⟩
  ·rename_i e; rw [if_neg e]; exact lk_dropLoc d env t s h
 | (t', .iter) :: env, t, s, h => by
  simp only [dropLoc] at h
  rw [lk_cons] at h ⊢
  split at h
  ·rename_i e; rw [if_pos e]; cases h; exact .inr ⟨rfl, fun k e => by cases e⟩
  ·rename_i e; rw [if_neg e]; exact lk_dropLoc d env t s h
theorem newBox_ok {d : Nat} {cs : List Cell} {et : TypeId} (her : ER nt ι β γ st.h.length st.bx st.its st.env a) (hd : d < nt) (hw : WRs B h0 ι0 w0 ι β γ st w) (hbel : ∀ x ∈ cs, x.below st.h.length) :
  SR B h0 ι0 w0 nt (st.newBox d cs) (a.put (some d) (.pointer (some ⟨w.heap.size, 0, none⟩))) (w.alloc (.cells (cs.map (Cell.conc ι)).toArray et)) := by
 have hw' := hw.newBox d (et := et) hbel
 have key : ∀ env', (∀ t s, lk env' t = some s → s = .val .u ∨ (lk st.env t = some s ∧ ∀ k, s ≠ .loc d k)) →
   ER nt ι (fun x => if x = d then w.heap.size else β x) γ st.h.length ((d, cs) :: st.bx) st.its ((d, .loc d 0) :: env') (a.put (some d) (.pointer (some ⟨w.heap.size, 0, none⟩))) := by
  intro env' henv
  refine ⟨her.df, by simp [Act.put, her.nt], fun t s hl => ?_⟩
  rw [getD_put a d _ t (by rw [her.nt]; exact hd)]
  rw [lk_cons] at hl
  by_cases e : d = t
  ·subst e; simp only [↓reduceIte, Option.some.injEq] at hl; subst hl
   exact ⟨by simp, by simp [lk_cons]⟩
  ·rw [if_neg e] at hl ⊢
   rcases henv t s hl with rfl | ⟨h1, h2⟩
   ·trivial
   ·have := her.slot t s h1
    cases s with
    | val v => exact this
    | loc b k =>
     have hne : b ≠ d := fun e => h2 k (by rw [e])
     refine ⟨by simp only [hne, ↓reduceIte]; exact this.1, ?_⟩
     simp only [lk_cons, Ne.symm hne, ↓reduceIte]; exact this.2
    | iter => exact this
 unfold St.newBox
 split
 ·rename_i hn
  refine ⟨ι, _, γ, key st.env fun t s hl => .inr ⟨hl, fun k e => ?_⟩, hw'⟩
  subst e
  have := (her.slot t _ hl).2
  rw [hn] at this; cases this
 ·exact ⟨ι, _, γ, key _ fun t s hl => lk_dropLoc d st.env t s hl, hw'⟩
omit ok in
theorem map_two {α β : Type} {l : Array α} {f : α → β} {x y : β} (h : l.toList.map f = [x, y]) : ∃ a b, l = #[a, b] ∧ f a = x ∧ f b = y := by
 obtain ⟨l⟩ := l
 rcases l with _ | ⟨a, _ | ⟨b, _ | ⟨c, l⟩⟩⟩ <;> simp at h
 exact ⟨a, b, rfl, h.1, h.2⟩
omit ok in
theorem map_one {α β : Type} {l : Array α} {f : α → β} {x : β} (h : l.toList.map f = [x]) : ∃ a, l = #[a] ∧ f a = x := by
 obtain ⟨l⟩ := l
 rcases l with _ | ⟨a, _ | ⟨b, l⟩⟩ <;> simp at h
 exact ⟨a, rfl, h⟩
omit ok in
theorem WR.afterCall {h h' : H} {bx : List (Nat × List Cell)} {its : List (Nat × ByteArray × Nat)} {ι' : Plan} {w' : World} (hw : WR B h0 ι0 w0 ι β γ h bx its w) (hr : HR B ι' h' w') (fr : FR h ι w h' ι' w') : WR B h0 ι0 w0 ι' β γ h' bx its w' := by
 have keepBox : ∀ d cs, lk bx d = some cs → w'.heap[β d]? = w.heap[β d]? := fun d cs hd => fr.keep _ (box_lt hw hd) fun id bl hg _ => hw.br.away d cs id bl hd hg
 refine ⟨hr, ⟨fun d cs hd => ?_, hw.br.bapart, fun d cs id b hd hg => ?_, fun d s p hd => ?_, hw.br.iapart⟩, hw.fr.trans fr⟩
 ·obtain ⟨⟨et, hh⟩, h1, h2⟩ := hw.br.box d cs hd
  exact ⟨⟨et, by rw [keepBox d cs hd, cells_agree fr.agree h1]; exact hh⟩, fun x hx => Cell.below_mono fr.len (h1 x hx), h2⟩
 ·cases hro : b.ro with
  | false =>
   rcases fr.origin id b hg hro with h1 | ⟨id0, bl0, hg0, _, e⟩
   ·have := box_lt hw hd; omega
   ·rw [e]; exact hw.br.away d cs id0 bl0 hd hg0
  | true =>
   have hg0 := fr.rofix id b hg hro
   rw [fr.agree id (H.get_lt hg0)]
   exact hw.br.away d cs id b hd hg0
 ·obtain ⟨h1, h2⟩ := hw.br.it d s p hd
  exact ⟨by rw [fr.keep _ (it_lt hw hd) fun id bl hg _ => blk_ne_it hw hg hd]; exact h1, h2⟩
theorem clear_ok {t e : TypeId} (ht : T.td t = .slice e) {x : V} {u : Value} {h' : H} {ty : TypeId} (h : clearA T e st.h x = some h') (hx : x.rel ι st.h.length u) (hw : WRs B h0 ι0 w0 ι β γ st w) :
  ∃ w', (Builtin.clear_ #[t] ty #[u]).run P w = .ok undef w' ∧ WR B h0 ι0 w0 ι β γ h' st.bx st.its w' ∧ h'.length = st.h.length := by
 unfold clearA at h
 split at h
 ·cases h; obtain ⟨rfl, _⟩ := V.rel_c hx
  exact ⟨w, by simp [Builtin.clear_, run_und ok (slice_of ok ht), Cell.conc, undef], hw, rfl⟩
 ·cases h; obtain ⟨rfl, _⟩ := V.rel_c hx
  refine ⟨w, ?_, hw, rfl⟩
  simp only [Cell.conc]
  split <;> simp [Builtin.clear_, run_und ok (slice_of ok ht), undef]
 ·rename_i id i len cap
  obtain ⟨rfl, hid⟩ := V.rel_c hx
  split at h
  ·cases h
  ·rename_i b hb
   split at h
   ·rename_i hc
    obtain ⟨hro, hil, hzl, ho⟩ := hc
    cases h
    obtain ⟨cur, et, fz, hh, hes, hpos, hlen, hcap, hroom, hcon, hB⟩ := hw.hr.live id b hb
    obtain ⟨_, rfl⟩ := hB hro
    obtain ⟨z, hz, hzc⟩ := run_zero ok (ι := ι) ho w
    obtain ⟨_, _, _, _, _, _, _, _, _, hfl⟩ := ok.inf e ho
    have hrl : ∀ y ∈ List.replicate len (T.zero e), y.length = b.es := fun y hy => by rw [(List.mem_replicate.1 hy).2]; exact hzl
    have hfr := flatten_replicate (ι := ι) (T.zero e) len
    have hflen : ((List.replicate len (T.zero e)).flatten.map (Cell.conc ι)).length = len * b.es := by rw [List.length_map, flatten_length _ hrl, List.length_replicate]
    have hb1 : (i + len) * b.es ≤ (ι id).cap * b.es := Nat.mul_le_mul_right _ (by omega)
    rw [Nat.add_mul] at hb1
    obtain ⟨w', hr, hh', hoth, hs, h1, h2, h3⟩ := run_storeCells_gen (P := P) (ι id).blk ((ι id).base + i * b.es) et ((List.replicate len (T.zero e)).flatten.map (Cell.conc ι)) 0 cur w hh (by rw [hflen]; omega) (conc_all_one _)
    obtain ⟨g1, g2, g3, g4⟩ := behind ok (ι := ι) (cur := cur) (base := (ι id).base) (i := i) (len := 0) (el := b.el) (xs := List.replicate len (T.zero e)) (es := b.es) hlen hrl (by omega) (fun j e k x q1 q2 => (hcon j e k x q1 q2).1) (by simp; omega)
    simp only [Nat.add_zero] at g1 g2 g3 g4
    refine ⟨w', ?_, hw.write (b' := { b with el := b.el.take i ++ List.replicate len (T.zero e) ++ b.el.drop (i + len) }) hb hro hro rfl (fun y hy => ?_) (by simp; omega) hh' (by simp only [Nat.add_zero] at g4 ⊢; rw [g4]; exact hroom) hoth hs h1 h2 h3 (fun y hy x hx => ?_) (fun j y k x hj hk => ?_), by simp⟩
    ·simp only [Cell.conc]
     have hzz : (Builtin.zeroCells z.cells len).toList = (List.replicate len (T.zero e)).flatten.map (Cell.conc ι) := by
      have : Builtin.zeroCells z.cells len = ((List.replicate len (T.zero e)).flatten.map (Cell.conc ι)).toArray := by
       rw [hfr, hzc]; simp [Builtin.zeroCells]
      rw [this]
     cases len with
     | zero =>
      simp at hr
      have : w' = w := by simpa [storeCells] using hr.symm
      subst this
      simp [Builtin.clear_, run_und ok (slice_of ok ht), undef]
     | succ n =>
      have hst : (storeCells ⟨(ι id).blk, (ι id).base + i * (ι id).es, none⟩ (Builtin.zeroCells z.cells (n + 1)).toList).run P w = .ok () w' := by rw [hzz, hes]; exact hr
      simp only [Builtin.clear_, show (#[t] : Array TypeId)[0]? = some t from rfl, List.getElem?_toArray, Sem.run_bind, run_und ok (slice_of ok ht), Result.andThen_ok]
      simp only [List.getElem?_cons_zero, Sem.run_bind, run_und ok (slice_of ok ht), Result.andThen_ok, hz, hst, Sem.run_pure]
      rfl
    ·simp only [List.mem_append] at hy
     rcases hy with (hy | hy) | hy
     ·exact hlen y (List.mem_of_mem_take hy)
     ·exact hrl y hy
     ·exact hlen y (List.mem_of_mem_drop hy)
    ·simp only [List.mem_append] at hy
     have hin : ∀ y ∈ b.el, ∀ z ∈ y, z.below st.h.length := fun y hy z hz => by
      obtain ⟨q, hq⟩ := List.getElem?_of_mem hy
      obtain ⟨r, hr'⟩ := List.getElem?_of_mem hz
      exact (hcon q y r z hq hr').2
     rcases hy with (hy | hy) | hy
     ·exact hin y (List.mem_of_mem_take hy) x hx
     ·rw [(List.mem_replicate.1 hy).2] at hx; exact Cell.flat_below (hfl x hx) _
     ·exact hin y (List.mem_of_mem_drop hy) x hx
    ·simp only [Nat.add_zero]
     have hsp := splice_get b.el (List.replicate len (T.zero e)) i (by simp; omega) j
     simp only [List.length_replicate] at hsp g3
     simp only at hj
     rw [hsp] at hj
     split at hj
     ·rename_i c1; exact g1 j y k x (by rw [List.getElem?_take, if_pos c1]; exact hj) hk
     ·split at hj
      ·rename_i c1 c2
       have := g2 (j - i) y k x hj hk
       rw [show i + (j - i) = j by omega] at this
       exact this
      ·rename_i c1 c2
       exact g3 j y k x (by omega) hj hk
   ·cases h
 ·cases h
set_option maxHeartbeats 1000000 in
theorem op_ok {call : CallF} (hcall : CallOk P call) {esc : List Tmp} {o : Oper} {st' : St} (her : ER nt ι β γ st.h.length st.bx st.its st.env a) (hw : WRs B h0 ι0 w0 ι β γ st w) (hd : dstOk nt o = true)
  (h : evalOp T call esc o st = some st') {Q : Exit → Act → World → Prop} : o.wp P a w (SR B h0 ι0 w0 nt st') Q := by
 by_cases hq : readOp o.op = true
 ·obtain ⟨s, x, rfl, hs, hx⟩ := reads_op ok her hw h hq
  exact wp_value (hx w hw) ⟨ι, β, γ, by simpa using her.putO (dstOk_lt hd) hs, WRs_put hw⟩
 ·have hlt := dstOk_lt hd
  obtain ⟨dst, op, type, pos, after, guard⟩ := o
  cases op <;> simp only [readOp, not_true_eq_false] at hq <;> simp only [evalOp] at h <;> (try cases h; done)
  case alloc t =>
   split at h
   ·cases h
   ·rename_i d
    split at h
    ·cases h
    ·rename_i ho
     have ho' : isOther T t = false := by simpa using ho
     obtain ⟨z, hz, hzc⟩ := run_zero ok (ι := ι) ho' w
     obtain ⟨_, _, _, _, hpos, _, _, hzl, _, hfl⟩ := ok.inf t ho'
     have hrun : (execOp a.eval ⟨some d, .alloc t, type, pos, after, guard⟩).run P w = .ok (.value (.pointer (some ⟨w.heap.size, 0, none⟩))) (w.alloc (.cells ((T.zero t).map (Cell.conc ι)).toArray t)) := by
      refine bind_value' ?_
      simp [Instr.alloc, hz, newVar, newRow, hzc]
     split at h
     ·cases h
      have hp := push_row ok (el := [T.zero t]) (e := t) hpos (by simpa using hzl) (by simpa using fun y hy => Cell.flat_below (hfl y hy) _) hw
      refine wp_value hrun ⟨_, β, γ, ?_, by simpa using hp⟩
      refine (her.grow (Plan.set_agree _ _ _) (by simp [H.push]) (fun _ h => h) (fun _ h => h)).put (hlt d rfl) ?_
      refine V.rel_mk (v := .c (.ptr st.h.length 0 0)) ?_ (by show _ < _; simp [H.push])
      simp [V.conc, V.conc1, Cell.conc, ptrV, Plan.set_same]
     ·cases h
      exact wp_value hrun (newBox_ok ok her (hlt d rfl) hw fun y hy => Cell.flat_below (hfl y hy) _)
  case box t x =>
   split at h
   ·rename_i d cs hc
    obtain ⟨hcells, hbel⟩ := V.cells_rel hc (her.val x)
    have hrun : (execOp a.eval ⟨some d, .box t x, type, pos, after, guard⟩).run P w = .ok (.value (.pointer (some ⟨w.heap.size, 0, none⟩))) (w.alloc (.cells (cs.map (Cell.conc ι)).toArray t)) := by
     refine bind_value' ?_
     simp [Instr.box, newVar, newRow, hcells]
    split at h
    ·split at h
     ·cases h
     ·rename_i hne
      cases h
      have hpos : 0 < cs.length := by cases cs <;> simp at hne ⊢
      have hp := push_row ok (el := [cs]) (e := t) hpos (by simp) (by simpa using hbel) hw
      refine wp_value hrun ⟨_, β, γ, ?_, by simpa using hp⟩
      refine (her.grow (Plan.set_agree _ _ _) (by simp [H.push]) (fun _ h => h) (fun _ h => h)).put (hlt d rfl) ?_
      refine V.rel_mk (v := .c (.ptr st.h.length 0 0)) ?_ (by show _ < _; simp [H.push])
      simp [V.conc, V.conc1, Cell.conc, ptrV, Plan.set_same]
    ·cases h
     exact wp_value hrun (newBox_ok ok her (hlt d rfl) hw hbel)
   ·cases h
  case buildSlice t len ps =>
   split at h
   ·rename_i e ht
    split at h
    ·cases h
    ·rename_i hc
     simp only [Bool.or_eq_true, not_or, Bool.not_eq_true, decide_eq_true_eq, decide_eq_false_iff_not] at hc
     obtain ⟨⟨ho, hm1⟩, hm2⟩ := hc
     split at h
     ·rename_i el hel
      cases h
      obtain ⟨z, hz, hzc⟩ := run_zero ok (ι := ι) ho w
      obtain ⟨_, _, _, _, hpos, _, _, hzl, _, hfl⟩ := ok.inf e ho
      obtain ⟨k1, k2, k3, k4⟩ := fillE_ok (ι := ι) (n := st.h.length) _ (ps.toList.map fun p => (p.1, a.eval p.2)) _ _ hel (fun y hy => by rw [(List.mem_replicate.1 hy).2]; exact hzl)
       (fun y hy z hz => by rw [(List.mem_replicate.1 hy).2] at hz; exact Cell.flat_below (hfl z hz) _) (by simp) (fun j i v hj => by
        rw [List.getElem?_map] at hj ⊢
        cases hp : ps.toList[j]? with
        | none => simp [hp] at hj
        | some p =>
         simp only [hp, Option.map_some, Option.some.injEq, Prod.mk.injEq] at hj ⊢
         obtain ⟨rfl, rfl⟩ := hj
         exact ⟨_, ⟨rfl, rfl⟩, her.val p.2⟩)
      rw [List.length_replicate] at k1
      have hp := push_row ok (el := el) (e := e) hpos k2 k3 hw
      have hrun : (execOp a.eval ⟨dst, .buildSlice t len ps, type, pos, after, guard⟩).run P w = .ok (.value (.slice (some ⟨w.heap.size, 0, none⟩) len len)) (w.alloc (.cells (el.flatten.map (Cell.conc ι)).toArray e)) := by
       refine bind_value' ?_
       have hsz := run_size ok ho w
       have e2 : (ps.map fun x => (x.1, a.eval x.2)).toList = ps.toList.map fun p => (p.1, a.eval p.2) := by simp
       simp only [Instr.buildSlice, Sem.run_bind, run_und ok (slice_of ok ht), Result.andThen_ok, hsz, Sem.run_ite]
       rw [if_neg hm2]
       have hfr := flatten_replicate (ι := ι) (T.zero e) len
       rw [hzl] at hfr
       rw [hfr] at k4
       by_cases hl0 : len * T.size e = 0
       ·rw [if_pos hl0]
        simp only [Sem.run_pure, Result.andThen_ok, e2]
        rw [hl0] at k4 ⊢
        have hr0 : ∀ f : Nat → Value, (Array.range 0).map f = #[] := fun f => by simp
        rw [hr0] at k4 ⊢
        rw [k4]
        simp [newRow]
       ·rw [if_neg hl0]
        simp only [hz, Sem.run_pure, Result.andThen_ok, e2, hzc, k4]
        simp [newRow]
      refine wp_value hrun (SR.val ok her hd hp (Plan.set_agree _ _ _) (by simp [H.push]) ?_)
      refine V.rel_mk (v := .c (.sl st.h.length 0 len none)) ?_ (by show _ < _; simp [H.push])
      simp [V.conc, V.conc1, Cell.conc, Plan.set_same, k1]
     ·cases h
   ·cases h
  case store t x y =>
   obtain ⟨st1, h1, rfl⟩ := Option.map_eq_some_iff.1 h
   obtain ⟨w', hr, hw', e1, e2, e3, e4⟩ := store_ok ok her hw (her.val y) h1
   refine wp_skipO (bind_skip hr) ⟨ι, β, γ, ?_, WRs_put hw'⟩
   have := (her.grow (ι' := ι) (n' := st1.h.length) (bx' := st1.bx) (its' := st1.its) (Agree.refl _ _) (by omega) e4 (by rw [e2]; exact fun _ h => h))
   rw [← e1] at this
   simpa using this.putO (st := st1) (dst := dst) (s := .val undefV) (x := undef) hlt (fun _ _ => undef_rel _)
  case makeSlice t l c =>
   split at h
   ·rename_i e n m ht hl' hc'
    split at h
    ·rename_i hc
     cases h
     obtain ⟨ho, hn0, rfl, hm⟩ := hc
     obtain ⟨i, z, hi, hsz, hpos, hz, hzc, hzl, hby, hfl⟩ := ok.inf e ho
     have hp := push_row ok (el := List.replicate n.toNat (T.zero e)) (e := e) hpos (fun y hy => by rw [(List.mem_replicate.1 hy).2]; exact hzl)
       (fun y hy z hz => by rw [(List.mem_replicate.1 hy).2] at hz; exact Cell.flat_below (hfl z hz) _) hw
     rw [List.length_replicate] at hp
     have hlv := her.val l
     have hcv := her.val c
     rw [hl'] at hlv; rw [hc'] at hcv
     obtain ⟨hl1, _⟩ := V.rel_c hlv
     obtain ⟨hc1, _⟩ := V.rel_c hcv
     have hrun : (execOp a.eval ⟨dst, .makeSlice t l c, type, pos, after, guard⟩).run P w = .ok (.value (.slice (some ⟨w.heap.size, 0, none⟩) n.toNat n.toNat)) (w.alloc (.cells ((List.replicate n.toNat (T.zero e)).flatten.map (Cell.conc ι)).toArray e)) := by
      refine bind_value' ?_
      have hfr := flatten_replicate (ι := ι) (T.zero e) n.toNat
      rw [hzl] at hfr
      have := run_make w t e i z (slice_of ok ht) hi hz .i64 .i64 n n hn0 (Int.le_refl _) (by
       unfold lenMost at hm
       have : (i.bytes : Int) * n ≤ 4096 * 4294967296 := Int.mul_le_mul (by omega) (by omega) hn0 (by omega)
       omega) (by unfold lenMost at hm; omega)
      simp only [hl1, hc1, Cell.conc]
      rw [this, hfr, hsz]
      simp only [madeCells, hzc ι]
     refine wp_value hrun (SR.val ok her hd hp (Plan.set_agree _ _ _) (by simp [H.push]) ?_)
     refine V.rel_mk (v := .c (.sl st.h.length 0 n.toNat none)) ?_ (by show _ < _; simp [H.push])
     simp [V.conc, V.conc1, Cell.conc, Plan.set_same]
    ·cases h
   ·cases h
  case range t x =>
   split at h
   ·rename_i s ht hx
    split at h
    ·rename_i d
     cases h
     have hxr := her.val x
     rw [hx] at hxr
     obtain ⟨h1, _⟩ := V.rel_c hxr
     have hrun : (execOp a.eval ⟨some d, .range t x, type, pos, after, guard⟩).run P w = .ok (.value (.pointer (some ⟨w.heap.size, 0, none⟩))) (w.alloc (.stringIter s 0)) := by
      refine bind_value' ?_
      simp [Instr.range, run_und ok (str_of ok ht), h1, Cell.conc]
     refine wp_value hrun ⟨ι, β, _, ?_, hw.newIt d s 0⟩
     refine ⟨her.df, by simp [Act.put, her.nt], fun t' s' hl => ?_⟩
     rw [getD_put a d _ t' (by rw [her.nt]; exact hlt d rfl)]
     simp only at hl
     rw [lk_cons] at hl
     by_cases e : d = t'
     ·subst e; simp only [↓reduceIte, Option.some.injEq] at hl; subst hl
      exact ⟨by simp, by simp [lk_cons]⟩
     ·rw [if_neg e] at hl ⊢
      have := her.slot t' s' hl
      cases s' with
      | val v => exact this
      | loc b k => exact this
      | iter =>
       refine ⟨by simp only [Ne.symm e, ↓reduceIte]; exact this.1, ?_⟩
       simp only [lk_cons, e, ↓reduceIte]; exact this.2
    ·cases h
   ·cases h
  case next it isS =>
   split at h
   ·rename_i t
    split at h
    ·rename_i s p hit hits
     have hsl := her.slot t _ hit
     have hg := (hw.br.it t s p hits).1
     have hev : a.eval (.tmp t) = .pointer (some ⟨γ t, 0, none⟩) := hsl.1
     split at h
     ·rename_i hp
      cases h
      let w' : World := { w with heap := w.heap.setIfInBounds (γ t) (.stringIter s (p + (Utf8.decode s p).2)) }
      have hlt' : γ t < w.heap.size := it_lt hw hits
      have hw' := hw.setIt (p' := p + (Utf8.decode s p).2) hits (w' := w') (by simp [w', hlt']) (fun k hk => by simp [w', Array.getElem?_setIfInBounds, Ne.symm hk]) (by simp [w']) rfl rfl rfl
      have hrun : (execOp a.eval ⟨dst, .next (.tmp t) true, type, pos, after, guard⟩).run P w = .ok (.value (.tuple #[.bool true, goInt p, .int .i32 (Utf8.decode s p).1])) w' := by
       refine bind_value' ?_
       simp [hev, Instr.next, getObj, Sem.run, setObj, hg, hp, w']
      refine wp_value hrun ⟨ι, β, γ, ?_, WRs_put hw'⟩
      have := (her.grow (ι' := ι) (n' := st.h.length) (bx' := st.bx) (its' := (t, s, p + (Utf8.decode s p).2) :: st.its) (Agree.refl _ _) (Nat.le_refl _) (fun _ h => h) (fun d hd => by
       rw [lk_cons]; split
       ·rfl
       ·exact hd))
      simpa using this.putO (st := { st with its := (t, s, p + (Utf8.decode s p).2) :: st.its }) (dst := dst) (s := .val (.t [.c (.bool true), .c (.int .i64 p), .c (.int .i32 (Utf8.decode s p).1)])) (x := .tuple #[.bool true, goInt p, .int .i32 (Utf8.decode s p).1]) hlt (fun _ _ => ⟨rfl, fun v hv => by
       simp at hv; rcases hv with rfl | rfl | rfl <;> trivial⟩)
     ·rename_i hp
      cases h
      have hrun : (execOp a.eval ⟨dst, .next (.tmp t) true, type, pos, after, guard⟩).run P w = .ok (.value (.tuple #[.bool false])) w := by
       refine bind_value' ?_
       simp [hev, Instr.next, getObj, Sem.run, hg, hp]
      refine wp_value hrun ⟨ι, β, γ, ?_, WRs_put hw⟩
      simpa using her.putO (st := st) (dst := dst) (s := .val (.t [.c (.bool false)])) (x := .tuple #[.bool false]) hlt (fun _ _ => ⟨rfl, fun v hv => by simp at hv; subst hv; trivial⟩)
    ·cases h
   ·cases h
  case call cl =>
   obtain ⟨callee, args, argTypes⟩ := cl
   cases callee <;> simp only at hq h
   case invoke r m => cases h
   case builtin b =>
    cases b <;> simp only [not_true_eq_false] at hq <;> simp only at h <;> (try cases h; done)
    case append =>
     split at h
     ·rename_i s x e e' hx hd'
      split at h
      ·cases h
      ·rename_i ho
       obtain ⟨r, hr, rfl⟩ := Option.map_eq_some_iff.1 h
       obtain ⟨xo, yo, rfl, hxo, hyo⟩ : ∃ xo yo, args = #[xo, yo] ∧ st.val xo = s ∧ st.val yo = x := by
        obtain ⟨l⟩ := args
        match l, hx with
        | [xo, yo], hx => simp at hx; exact ⟨xo, yo, rfl, hx.1, hx.2⟩
       obtain ⟨t, t', rfl, htd, htd'⟩ := map_two hd'
       have hxr := her.val xo
       have hyr := her.val yo
       rw [hxo] at hxr; rw [hyo] at hyr
       obtain ⟨w', ι', k1, k2, k3, k4, k5⟩ := append_ok ok (ty := type) htd htd' (by simpa using ho) hr hxr hyr hw
       have hrun : (execOp a.eval ⟨dst, .call ⟨.builtin .append, #[xo, yo], #[t, t']⟩, type, pos, after, guard⟩).run P w = .ok (.value (r.1.conc ι')) w' := by
        simp [execOp, resolve, invoke, Go.builtin, k1]
       exact wp_value hrun (SR.val ok her hd k2 k3 k5 (V.rel_mk rfl k4))
     ·cases h
    case clear =>
     split at h
     ·rename_i x e hx hd'
      obtain ⟨h', hr, rfl⟩ := Option.map_eq_some_iff.1 h
      obtain ⟨xo, rfl, hxo⟩ : ∃ xo, args = #[xo] ∧ st.val xo = x := by
       obtain ⟨l⟩ := args
       match l, hx with
       | [xo], hx => exact ⟨xo, rfl, by simpa using hx⟩
      obtain ⟨t, rfl, htd⟩ := map_one hd'
      have hxr := her.val xo
      rw [hxo] at hxr
      obtain ⟨w', k1, k2, k3⟩ := clear_ok ok (ty := type) htd hr hxr hw
      have hrun : (execOp a.eval ⟨dst, .call ⟨.builtin .clear, #[xo], #[t]⟩, type, pos, after, guard⟩).run P w = .ok (.value undef) w' := by
       simp [execOp, resolve, invoke, Go.builtin, k1]
      exact wp_value hrun (SR.val ok her hd k2 (Agree.refl _ _) (by omega) (undef_rel _))
     ·cases h
   case value f =>
    split at h
    ·rename_i fid l hf
     obtain ⟨r, hr, rfl⟩ := Option.map_eq_some_iff.1 h
     obtain ⟨hsim, fn, hfn, hbody, hname⟩ := hcall _ _ _ _ _ hr
     have hfr := her.val f
     rw [hf] at hfr
     obtain ⟨hf1, hf2⟩ := V.rel_c hfr
     simp only [Cell.conc] at hf1
     let cargs : List Value := args.toList.map a.eval ++ l.map (ptrV ι)
     have hcaps : ∀ l : List (Nat × Nat × Nat), (V.caps l).length = l.length ∧ ∀ (j : Nat) (v : V), (V.caps l)[j]? = some v → ∃ x : Nat × Nat × Nat, l[j]? = some x ∧ v = V.c (.ptr x.1 x.2.1 x.2.2) := by
      intro l
      induction l with
      | nil => exact ⟨rfl, fun j v hj => by simp [V.caps] at hj⟩
      | cons x l ih =>
       obtain ⟨x1, x2, x3⟩ := x
       refine ⟨by simp [V.caps, ih.1], fun j v hj => ?_⟩
       cases j with
       | zero => simp [V.caps] at hj; exact ⟨_, rfl, hj.symm⟩
       | succ j => simp [V.caps] at hj; obtain ⟨x, h1, h2⟩ := ih.2 j v hj; exact ⟨x, by simpa using h1, h2⟩
     have hrun : (execOp a.eval ⟨dst, .call ⟨.value f, args, argTypes⟩, type, pos, after, guard⟩).run P w = .ok (.enter fid cargs.toArray) w := by
      have hb : fn.body ≠ none := by cases hq : fn.body <;> simp [hq] at hbody ⊢
      have e1 : (args.map a.eval ++ (l.map (ptrV ι)).toArray) = cargs.toArray := by apply Array.ext'; simp [cargs]
      simp [execOp, resolve, hf1, Deferred.ofValue, invoke, callFunc, hfn, hb, hname, e1]
     unfold Oper.wp
     rw [hrun]
     simp only [Oper.upon]
     refine (hsim B ι w cargs hw.hr (by simp [cargs, (hcaps l).1]) (fun j v u hj hu => ?_)).mono fun e w' ⟨x, ι', he, k1, k2, k3⟩ => ?_
     ·simp only [cargs] at hu
      rw [List.getElem?_append] at hj hu
      simp only [List.length_map] at hj hu
      split at hj
      ·rename_i hlt'
       rw [if_pos hlt'] at hu
       rw [List.getElem?_map] at hj hu
       cases ha : args.toList[j]? with
       | none => simp [ha] at hj
       | some o =>
        simp [ha] at hj hu
        subst hj; subst hu
        exact her.val o
      ·rename_i hlt'
       rw [if_neg hlt'] at hu
       obtain ⟨y, hy1, rfl⟩ := (hcaps l).2 _ _ hj
       rw [List.getElem?_map, hy1] at hu
       simp at hu; subst hu
       exact V.rel_mk rfl (hf2 y (List.mem_of_getElem? hy1))
     ·subst he
      have hw' : WR B h0 ι0 w0 ι' β γ r.2 st.bx st.its w' := hw.afterCall k1 k2
      exact SR.val ok her hd hw' k2.agree k2.len k3
    ·cases h
end
end Go.AM

/-
 THE ABSTRACT MACHINE, D0: a block that stands ready in the world and is taken into the plan later.
-/
namespace Go.AM
section
variable {T : TT} {P : Program} (ok : T.Ok P)
variable {B N : Nat} {h0 : H} {ι0 : Plan} {w0 : World} {ι : Plan} {β γ : Nat → Nat} {nt : Nat} {st : St} {a : Act} {w : World} {h : H} {bx : List (Nat × List Cell)} {its : List (Nat × ByteArray × Nat)}
structure PD (B N : Nat) (ι : Plan) (β : Nat → Nat) (h : H) (bx : List (Nat × List Cell)) (w : World) (c : Nat) (vs : Array Value) (et : TypeId) : Prop where
 cell : w.heap[c]? = some (.cells vs et (0, 0))
 blk : ∀ id b, h.get id = some b → (ι id).blk ≠ c
 box : ∀ d cs, lk bx d = some cs → β d ≠ c
 lo : N ≤ c
 lb : B ≤ c
theorem PD.lt {c : Nat} {vs : Array Value} {et : TypeId} (hp : PD B N ι β h bx w c vs et) : c < w.heap.size := (Array.getElem?_eq_some_iff.1 hp.cell).1
theorem WR.adopt (hw : WR B h0 ι0 w0 ι β γ h bx its w) {el : List (List Cell)} {es c : Nat} {et : TypeId} (hes : 0 < es) (hlen : ∀ x ∈ el, x.length = es) (hbel : ∀ x ∈ el, ∀ y ∈ x, y.below h.length)
  (hp : PD B w0.heap.size ι β h bx w c (el.flatten.map (Cell.conc ι)).toArray et) : WR B h0 ι0 w0 (ι.set h.length ⟨c, 0, el.length, es, none⟩) β γ (h.push ⟨false, es, el⟩) bx its w := by
 have hag : Agree h.length ι (ι.set h.length ⟨c, 0, el.length, es, none⟩) := Plan.set_agree _ _ _
 have old : ∀ id b', id ≠ h.length → (h.push ⟨false, es, el⟩).get id = some b' → h.get id = some b' := fun id b' hne hg => by rw [H.get_push, if_neg hne] at hg; exact hg
 constructor
 ·constructor
  ·exact hw.hr.size
  ·intro id b' hg
   by_cases e : id = h.length
   ·subst e
    rw [H.get_push, if_pos rfl] at hg
    cases hg
    rw [Plan.set_same]
    refine ⟨_, et, (0, 0), hp.cell, rfl, hes, hlen, Nat.le_refl _, by simp only [List.size_toArray, List.length_map, flatten_length el hlen]; omega, fun i e k x hi hk => ?_, fun _ => ⟨hp.lb, rfl⟩⟩
    have hb := hbel e (List.mem_of_getElem? hi) x (List.mem_of_getElem? hk)
    rw [Cell.conc_agree hag hb]
    refine ⟨?_, Cell.below_mono (by simp [H.length_push]) hb⟩
    have := flatten_at el hlen i k e x hi hk
    simp only [Nat.zero_add, List.getElem?_toArray, List.getElem?_map, this, Option.map_some]
   ·have hg' := old id b' e hg
    obtain ⟨cs', et, fz, hh, h1, h2, h3, h4, h5, h6, h7⟩ := hw.hr.live id b' hg'
    rw [Plan.set_ne _ _ _ e]
    refine ⟨cs', et, fz, hh, h1, h2, h3, h4, h5, fun i e k x hi hk => ?_, h7⟩
    obtain ⟨h8, h9⟩ := h6 i e k x hi hk
    rw [Cell.conc_agree hag h9]
    exact ⟨h8, Cell.below_mono (by simp [H.length_push]) h9⟩
  ·intro id id' b1 b2 hne hg hg' hr
   by_cases e : id = h.length
   ·subst e
    rw [Plan.set_same, Plan.set_ne _ _ _ (Ne.symm hne)]
    exact Ne.symm (hp.blk id' b2 (old id' b2 (Ne.symm hne) hg'))
   ·by_cases e' : id' = h.length
    ·subst e'
     rw [Plan.set_same, Plan.set_ne _ _ _ hne]
     exact hp.blk id b1 (old id b1 hne hg)
    ·rw [Plan.set_ne _ _ _ e, Plan.set_ne _ _ _ e']
     exact hw.hr.apart id id' b1 b2 hne (old _ _ e hg) (old _ _ e' hg') hr
 ·constructor
  ·intro d cs' hd
   obtain ⟨⟨et, hh⟩, h1, h2⟩ := hw.br.box d cs' hd
   refine ⟨⟨et, ?_⟩, fun x hx => Cell.below_mono (by simp [H.length_push]) (h1 x hx), h2⟩
   rw [cells_agree hag h1]; exact hh
  ·exact hw.br.bapart
  ·intro d cs' id b' hd hg
   by_cases e : id = h.length
   ·subst e; rw [Plan.set_same]; exact Ne.symm (hp.box d cs' hd)
   ·rw [Plan.set_ne _ _ _ e]; exact hw.br.away d cs' id b' hd (old _ _ e hg)
  ·exact hw.br.it
  ·exact hw.br.iapart
 ·obtain ⟨f1, f2, f3, f4, f5, f6, f7, f8, f9⟩ := hw.fr
  refine ⟨f1, f2, f3, f4, by rw [H.length_push]; omega, f6.trans hag f5, f7, fun id bl hg hr => ?_, fun id bl hg hr => ?_⟩
  ·by_cases e : id = h.length
   ·subst e; rw [Plan.set_same]; exact .inl hp.lo
   ·rw [Plan.set_ne _ _ _ e]; exact f8 id bl (old _ _ e hg) hr
  ·by_cases e : id = h.length
   ·subst e; rw [H.get_push, if_pos rfl] at hg; cases hg; cases hr
   ·exact f9 id bl (old _ _ e hg) hr
theorem WR.adoptBox (hw : WR B h0 ι0 w0 ι β γ h bx its w) (d : Nat) {cs : List Cell} {et : TypeId} {c : Nat} (hbel : ∀ x ∈ cs, x.below h.length) (hp : PD B w0.heap.size ι β h bx w c (cs.map (Cell.conc ι)).toArray et) :
  WR B h0 ι0 w0 ι (fun x => if x = d then c else β x) γ h ((d, cs) :: bx) its w := by
 refine ⟨hw.hr, ⟨?_, ?_, ?_, hw.br.it, hw.br.iapart⟩, hw.fr⟩
 ·intro d' cs' hd
  rw [lk_cons] at hd
  split at hd
  ·rename_i e; subst e; cases hd
   simp only [↓reduceIte]
   exact ⟨⟨et, hp.cell⟩, hbel, hp.lo⟩
  ·rename_i e
   simp only [Ne.symm e, ↓reduceIte]
   exact hw.br.box d' cs' hd
 ·intro d1 d2 c1 c2 hne hd1 hd2
  rw [lk_cons] at hd1 hd2
  split at hd1
  ·rename_i e; subst e
   rw [if_neg hne] at hd2
   simp only [↓reduceIte, Ne.symm hne]
   exact Ne.symm (hp.box d2 c2 hd2)
  ·rename_i e
   split at hd2
   ·rename_i e2; subst e2
    simp only [↓reduceIte, hne]
    exact hp.box d1 c1 hd1
   ·rename_i e2
    simp only [Ne.symm e, Ne.symm e2, ↓reduceIte]
    exact hw.br.bapart d1 d2 c1 c2 hne hd1 hd2
 ·intro d1 c1 id b hd hg
  rw [lk_cons] at hd
  split at hd
  ·rename_i e; subst e
   simp only [↓reduceIte]
   exact hp.blk id b hg
  ·rename_i e
   simp only [Ne.symm e, ↓reduceIte]
   exact hw.br.away d1 c1 id b hd hg
theorem PD.afterCall {c : Nat} {vs : Array Value} {et : TypeId} (hp : PD B N ι β h bx w c vs et) {h' : H} {ι' : Plan} {w' : World} (fr : FR h ι w h' ι' w') : PD B N ι' β h' bx w' c vs et := by
 refine ⟨by rw [fr.keep c hp.lt fun id bl hg _ => hp.blk id bl hg]; exact hp.cell, fun id b hg => ?_, hp.box, hp.lo, hp.lb⟩
 cases hro : b.ro with
 | false =>
  rcases fr.origin id b hg hro with h1 | ⟨id0, bl0, hg0, _, e⟩
  ·have := hp.lt; omega
  ·rw [e]; exact hp.blk id0 bl0 hg0
 | true =>
  have hg0 := fr.rofix id b hg hro
  rw [fr.agree id (H.get_lt hg0)]
  exact hp.blk id b hg0
include ok in
theorem op_okP {call : CallF} (hcall : CallOk P call) {esc : List Tmp} {o : Oper} {st' : St} (her : ER nt ι β γ st.h.length st.bx st.its st.env a) (hw : WRs B h0 ι0 w0 ι β γ st w) (hd : dstOk nt o = true)
  (h : evalOp T call esc o st = some st') (hk : readOp o.op = true ∨ callsVal o.op = true) {Q : Exit → Act → World → Prop} :
  o.wp P a w (fun a' w' => ∃ ι', ER nt ι' β γ st'.h.length st'.bx st'.its st'.env a' ∧ WRs B h0 ι0 w0 ι' β γ st' w' ∧ Agree st.h.length ι ι' ∧ st.h.length ≤ st'.h.length ∧ (∀ t, o.dst ≠ some t → a'.tmps.getD t undef = a.tmps.getD t undef) ∧
   ∀ c vs et, PD B w0.heap.size ι β st.h st.bx w c vs et → PD B w0.heap.size ι' β st'.h st'.bx w' c vs et) Q := by
 have keep : ∀ (x : Value) (t : Tmp), o.dst ≠ some t → (a.put o.dst x).tmps.getD t undef = a.tmps.getD t undef := by
  intro x t ht
  cases hdd : o.dst with
  | none => rfl
  | some d =>
   rw [getD_put a d _ t (by rw [her.nt]; exact dstOk_lt hd d hdd), if_neg (fun e => ht (by rw [hdd, e]))]
 by_cases hq : readOp o.op = true
 ·obtain ⟨s, x, rfl, hs, hx⟩ := reads_op ok her hw h hq
  exact wp_value (hx w hw) ⟨ι, by simpa using her.putO (dstOk_lt hd) hs, WRs_put hw, Agree.refl _ _, by simp, keep x, fun c vs et hp => by simpa using hp⟩
 ·have hc : callsVal o.op = true := by
   rcases hk with hk | hk
   ·exact absurd hk hq
   ·exact hk
  have hlt := dstOk_lt hd
  obtain ⟨dst, op, type, pos, after, guard⟩ := o
  cases op <;> simp only [callsVal, Bool.false_eq_true] at hc
  rename_i cl
  obtain ⟨callee, args, argTypes⟩ := cl
  cases callee <;> simp only [Bool.false_eq_true] at hc
  rename_i f
  simp only [evalOp] at h
  split at h
  ·rename_i fid l hf
   obtain ⟨r, hr, rfl⟩ := Option.map_eq_some_iff.1 h
   obtain ⟨hsim, fn, hfn, hbody, hname⟩ := hcall _ _ _ _ _ hr
   have hfr := her.val f
   rw [hf] at hfr
   obtain ⟨hf1, hf2⟩ := V.rel_c hfr
   simp only [Cell.conc] at hf1
   let cargs : List Value := args.toList.map a.eval ++ l.map (ptrV ι)
   have hcaps : ∀ l : List (Nat × Nat × Nat), (V.caps l).length = l.length ∧ ∀ (j : Nat) (v : V), (V.caps l)[j]? = some v → ∃ x : Nat × Nat × Nat, l[j]? = some x ∧ v = V.c (.ptr x.1 x.2.1 x.2.2) := by
    intro l
    induction l with
    | nil => exact ⟨rfl, fun j v hj => by simp [V.caps] at hj⟩
    | cons x l ih =>
     obtain ⟨x1, x2, x3⟩ := x
     refine ⟨by simp [V.caps, ih.1], fun j v hj => ?_⟩
     cases j with
     | zero => simp [V.caps] at hj; exact ⟨_, rfl, hj.symm⟩
     | succ j => simp [V.caps] at hj; obtain ⟨x, h1, h2⟩ := ih.2 j v hj; exact ⟨x, by simpa using h1, h2⟩
   have hrun : (execOp a.eval ⟨dst, .call ⟨.value f, args, argTypes⟩, type, pos, after, guard⟩).run P w = .ok (.enter fid cargs.toArray) w := by
    have hb : fn.body ≠ none := by cases hq : fn.body <;> simp [hq] at hbody ⊢
    have e1 : (args.map a.eval ++ (l.map (ptrV ι)).toArray) = cargs.toArray := by apply Array.ext'; simp [cargs]
    simp [execOp, resolve, hf1, Deferred.ofValue, invoke, callFunc, hfn, hb, hname, e1]
   unfold Oper.wp
   rw [hrun]
   simp only [Oper.upon]
   refine (hsim B ι w cargs hw.hr (by simp [cargs, (hcaps l).1]) (fun j v u hj hu => ?_)).mono fun e w' ⟨x, ι', he, k1, k2, k3⟩ => ?_
   ·simp only [cargs] at hu
    rw [List.getElem?_append] at hj hu
    simp only [List.length_map] at hj hu
    split at hj
    ·rename_i hlt'
     rw [if_pos hlt'] at hu
     rw [List.getElem?_map] at hj hu
     cases ha : args.toList[j]? with
     | none => simp [ha] at hj
     | some o =>
      simp [ha] at hj hu
      subst hj; subst hu
      exact her.val o
    ·rename_i hlt'
     rw [if_neg hlt'] at hu
     obtain ⟨y, hy1, rfl⟩ := (hcaps l).2 _ _ hj
     rw [List.getElem?_map, hy1] at hu
     simp at hu; subst hu
     exact V.rel_mk rfl (hf2 y (List.mem_of_getElem? hy1))
   ·subst he
    have hw' : WR B h0 ι0 w0 ι' β γ r.2 st.bx st.its w' := hw.afterCall k1 k2
    refine ⟨ι', ?_, by simpa using hw', k2.agree, by simpa using k2.len, keep x, fun c vs et hp => by simpa using hp.afterCall k2⟩
    have := (her.grow k2.agree k2.len (fun _ h => h) (fun _ h => h)).putO (st := st) (dst := dst) (s := .val r.1) (x := x) hlt (fun _ _ => k3)
    simpa using this
  ·cases h
def PF (u u' : St) (d : Tmp) (ι : Plan) (n c : Nat) (vs : Array Value) (x : Value) : Prop :=
 (∃ el es len, u'.h = u.h.push ⟨false, es, el⟩ ∧ u'.bx = u.bx ∧ lk u'.env d = some (.val (.c (.sl u.h.length 0 len none))) ∧ el.length = len ∧ 0 < es ∧ (∀ e ∈ el, e.length = es) ∧ (∀ e ∈ el, ∀ y ∈ e, y.below n) ∧
  vs = (el.flatten.map (Cell.conc ι)).toArray ∧ x = .slice (some ⟨c, 0, none⟩) len len) ∨
 (∃ cs, lk u.bx d = none ∧ u'.h = u.h ∧ u'.bx = (d, cs) :: u.bx ∧ lk u'.env d = some (.loc d 0) ∧ (∀ y ∈ cs, y.below n) ∧ vs = (cs.map (Cell.conc ι)).toArray ∧ x = .pointer (some ⟨c, 0, none⟩))
theorem PF.grow {u u' : St} {d : Tmp} {n c : Nat} {vs : Array Value} {x : Value} (hp : PF u u' d ι n c vs x) {ι' : Plan} {n' : Nat} (hag : Agree n ι ι') (hn : n ≤ n') : PF u u' d ι' n' c vs x := by
 rcases hp with ⟨el, es, len, h1, h2, h3, h4, h5, h6, h7, h8, h9⟩ | ⟨cs, h0, h1, h2, h3, h4, h5, h6⟩
 ·refine .inl ⟨el, es, len, h1, h2, h3, h4, h5, h6, fun e he y hy => Cell.below_mono hn (h7 e he y hy), ?_, h9⟩
  rw [h8, cells_agree hag]
  intro y hy
  obtain ⟨e, he, hy⟩ := List.mem_flatten.1 hy
  exact h7 e he y hy
 ·exact .inr ⟨cs, h0, h1, h2, h3, fun y hy => Cell.below_mono hn (h4 y hy), by rw [h5, cells_agree hag h4], h6⟩
include ok in
theorem float_ok {call : CallF} {esc : List Tmp} {o : Oper} {u u' : St} {d : Tmp} (hf : floatOp o.op = true) (hd : o.dst = some d) (hesc : esc.contains d = false) (hfr : ∀ t d, o.op = .alloc t → o.dst = some d → esc.contains d = false → lk u.bx d = none) (h : evalOp T call esc o u = some u')
  (hv : ∀ x ∈ o.op.operands, st.val x = u.val x) (her : ER nt ι β γ st.h.length st.bx st.its st.env a) (hw : WRs B h0 ι0 w0 ι β γ st w) :
  ∃ vs et x, (execOp a.eval o).run P w = .ok (.value x) (w.alloc (.cells vs et)) ∧ PF u u' d ι st.h.length w.heap.size vs x := by
 obtain ⟨dst, op, type, pos, after, guard⟩ := o
 simp only at hd; subst hd
 cases op <;> simp only [floatOp, Bool.false_eq_true] at hf <;> simp only [evalOp] at h
 case alloc t =>
  split at h
  ·cases h
  ·rename_i ho
   have ho' : isOther T t = false := by simpa using ho
   obtain ⟨z, hz, hzc⟩ := run_zero ok (ι := ι) ho' w
   obtain ⟨_, _, _, _, hpos, _, _, hzl, _, hfl⟩ := ok.inf t ho'
   rw [if_neg (by rw [hesc]; simp)] at h
   cases h
   refine ⟨_, t, _, bind_value' (by simp [Instr.alloc, hz, newVar, newRow, hzc]), .inr ⟨T.zero t, hfr t d rfl rfl hesc, ?_, ?_, ?_, fun y hy => Cell.flat_below (hfl y hy) _, rfl, rfl⟩⟩
   ·unfold St.newBox; split <;> rfl
   ·unfold St.newBox; rw [hfr t d rfl rfl hesc]
   ·unfold St.newBox; rw [hfr t d rfl rfl hesc]; simp [lk_cons]
 case buildSlice t len ps =>
  split at h
  ·rename_i e ht
   split at h
   ·cases h
   ·rename_i hc
    simp only [Bool.or_eq_true, not_or, Bool.not_eq_true, decide_eq_true_eq, decide_eq_false_iff_not] at hc
    obtain ⟨⟨ho, hm1⟩, hm2⟩ := hc
    split at h
    ·rename_i el hel
     cases h
     obtain ⟨z, hz, hzc⟩ := run_zero ok (ι := ι) ho w
     obtain ⟨_, _, _, _, hpos, _, _, hzl, _, hfl⟩ := ok.inf e ho
     have hel2 : fillE (T.size e) (ps.toList.map fun p => (p.1, st.val p.2)) (List.replicate len (T.zero e)) = some el := by
      rw [← hel]; congr 1
      refine List.map_congr_left fun p hp => ?_
      rw [hv p.2 (by simp [Op.operands]; exact ⟨p.1, by simpa using hp⟩)]
     obtain ⟨k1, k2, k3, k4⟩ := fillE_ok (ι := ι) (n := st.h.length) _ (ps.toList.map fun p => (p.1, a.eval p.2)) _ _ hel2 (fun y hy => by rw [(List.mem_replicate.1 hy).2]; exact hzl)
      (fun y hy z hz => by rw [(List.mem_replicate.1 hy).2] at hz; exact Cell.flat_below (hfl z hz) _) (by simp) (fun j i v hj => by
       rw [List.getElem?_map] at hj ⊢
       cases hp : ps.toList[j]? with
       | none => simp [hp] at hj
       | some p =>
        simp only [hp, Option.map_some, Option.some.injEq, Prod.mk.injEq] at hj ⊢
        obtain ⟨rfl, rfl⟩ := hj
        exact ⟨_, ⟨rfl, rfl⟩, her.val p.2⟩)
     rw [List.length_replicate] at k1
     have hrun : (execOp a.eval ⟨some d, .buildSlice t len ps, type, pos, after, guard⟩).run P w = .ok (.value (.slice (some ⟨w.heap.size, 0, none⟩) len len)) (w.alloc (.cells (el.flatten.map (Cell.conc ι)).toArray e)) := by
      refine bind_value' ?_
      have hsz := run_size ok ho w
      have e2 : (ps.map fun x => (x.1, a.eval x.2)).toList = ps.toList.map fun p => (p.1, a.eval p.2) := by simp
      simp only [Instr.buildSlice, Sem.run_bind, run_und ok (slice_of ok ht), Result.andThen_ok, hsz, Sem.run_ite]
      rw [if_neg hm2]
      have hfr := flatten_replicate (ι := ι) (T.zero e) len
      rw [hzl] at hfr
      rw [hfr] at k4
      by_cases hl0 : len * T.size e = 0
      ·rw [if_pos hl0]
       simp only [Sem.run_pure, Result.andThen_ok, e2]
       rw [hl0] at k4 ⊢
       have hr0 : ∀ f : Nat → Value, (Array.range 0).map f = #[] := fun f => by simp
       rw [hr0] at k4 ⊢
       rw [k4]
       simp [newRow]
      ·rw [if_neg hl0]
       simp only [hz, Sem.run_pure, Result.andThen_ok, e2, hzc, k4]
       simp [newRow]
     exact ⟨_, e, _, hrun, .inl ⟨el, T.size e, len, by simp, by simp, by simp [St.put, lk_cons], k1, hpos, k2, k3, rfl, rfl⟩⟩
    ·cases h
  ·cases h
theorem realize_ok {u u' : St} {d : Tmp} {c : Nat} {vs : Array Value} {et : TypeId} {x : Value} (hp : PF u u' d ι st.h.length c vs x) (her : ER nt ι β γ st.h.length st.bx st.its st.env a) (hw : WRs B h0 ι0 w0 ι β γ st w)
  (hpd : PD B w0.heap.size ι β st.h st.bx w c vs et) (hx : a.tmps.getD d undef = x) (eh : st.h = u.h) (eb : st.bx = u.bx)
  {st' : St} (eh' : st'.h = u'.h) (eb' : st'.bx = u'.bx) (ei' : st'.its = st.its) (ee : ∀ t, lk st'.env t = if d = t then lk u'.env d else lk st.env t) :
  ∃ ι' β', ER nt ι' β' γ st'.h.length st'.bx st'.its st'.env a ∧ WRs B h0 ι0 w0 ι' β' γ st' w ∧ Agree st.h.length ι ι' ∧ st.h.length ≤ st'.h.length ∧
   ∀ c2 vs2 et2, c2 ≠ c → PD B w0.heap.size ι β st.h st.bx w c2 vs2 et2 → PD B w0.heap.size ι' β' st'.h st'.bx w c2 vs2 et2 := by
 rcases hp with ⟨el, es, len, h1, h2, h3, h4, h5, h6, h7, h8, h9⟩ | ⟨cs, hn, h1, h2, h3, h4, h5, h6⟩
 ·rw [← eh] at h1 h3
  rw [← eb] at h2
  subst h8
  have hw' := hw.adopt h5 h6 h7 hpd
  have hag : Agree st.h.length ι (ι.set st.h.length ⟨c, 0, el.length, es, none⟩) := Plan.set_agree _ _ _
  have hle : st.h.length ≤ st'.h.length := by rw [eh', h1, H.length_push]; omega
  refine ⟨_, β, ?_, ?_, hag, hle, fun c2 vs2 et2 hne q => ?_⟩
  ·refine ⟨her.df, her.nt, fun t s hl => ?_⟩
   rw [ee t] at hl
   rw [eb', h2, ei']
   split at hl
   ·rename_i e; subst e
    rw [h3] at hl; cases hl
    rw [hx, h9]
    refine V.rel_mk (v := .c (.sl st.h.length 0 len none)) ?_ (by show _ < _; rw [eh', h1, H.length_push]; omega)
    simp [V.conc, V.conc1, Cell.conc, Plan.set_same, h4]
   ·have := (her.grow hag hle (fun _ h => h) (fun _ h => h)).slot t s hl
    exact this
  ·unfold WRs; rw [eh', eb', ei', h1, h2]; exact hw'
  ·rw [eh', eb', h1, h2]
   refine ⟨q.cell, fun id b hg => ?_, q.box, q.lo, q.lb⟩
   by_cases e : id = st.h.length
   ·subst e; rw [Plan.set_same]; exact Ne.symm hne
   ·rw [Plan.set_ne _ _ _ e]
    rw [H.get_push, if_neg e] at hg
    exact q.blk id b hg
 ·rw [← eh] at h1
  rw [← eb] at h2 hn
  subst h5
  have hw' := hw.adoptBox d h4 hpd
  refine ⟨ι, (fun x => if x = d then c else β x), ?_, ?_, Agree.refl _ _, by rw [eh', h1]; exact Nat.le_refl _, fun c2 vs2 et2 hne q => ?_⟩
  ·refine ⟨her.df, her.nt, fun t s hl => ?_⟩
   rw [ee t] at hl
   rw [eb', h2, ei', eh', h1]
   split at hl
   ·rename_i e; subst e
    rw [h3] at hl; cases hl
    rw [hx, h6]
    exact ⟨by simp, by simp [lk_cons]⟩
   ·have := her.slot t s hl
    cases s with
    | val v => exact this
    | loc b k =>
     have hne : b ≠ d := fun e => by
      have := this.2
      rw [e, hn] at this; cases this
     refine ⟨by simp only [hne, ↓reduceIte]; exact this.1, ?_⟩
     simp only [lk_cons, Ne.symm hne, ↓reduceIte]; exact this.2
    | iter => exact this
  ·unfold WRs; rw [eh', eb', ei', h1, h2]; exact hw'
  ·rw [eh', eb', h1, h2]
   refine ⟨q.cell, q.blk, fun d2 cs2 hl => ?_, q.lo, q.lb⟩
   rw [lk_cons] at hl
   split at hl
   ·rename_i e; subst e; simp only [↓reduceIte]; exact Ne.symm hne
   ·rename_i e; simp only [Ne.symm e, ↓reduceIte]; exact q.box d2 cs2 hl
end
end Go.AM

/-
 THE ABSTRACT MACHINE, D1: what an operation looks at; the same under another environment that agrees there.
-/
namespace Go.AM
def putE (e : List (Nat × Slot)) (d : Option Tmp) (s : Slot) : List (Nat × Slot) := match d with | none => e | some d => (d, s) :: e
theorem put_env (st : St) (d : Option Tmp) (s : Slot) : (st.put d s).env = putE st.env d s := by cases d <;> rfl
theorem put_with (st : St) (e2 : List (Nat × Slot)) (d : Option Tmp) (s : Slot) : ({ st with env := e2 } : St).put d s = { st.put d s with env := putE e2 d s } := by cases d <;> rfl
theorem lk_putE (e : List (Nat × Slot)) (d : Option Tmp) (s : Slot) (t : Nat) : lk (putE e d s) t = if d = some t then some s else lk e t := by
 cases d with
 | none => simp [putE]
 | some d => simp [putE, lk_cons]
section
variable {T : TT} {st : St} {e2 : List (Nat × Slot)}
theorem val_with {x : Operand} (h : ∀ t, x = .tmp t → lk e2 t = lk st.env t) : ({ st with env := e2 } : St).val x = st.val x := by
 cases x with
 | tmp t => simp only [St.val]; rw [h t rfl]
 | _ => rfl
theorem slot_with {x : Operand} (h : ∀ t, x = .tmp t → lk e2 t = lk st.env t) : ({ st with env := e2 } : St).slot x = st.slot x := by
 cases x with
 | tmp t => simp only [St.slot]; rw [h t rfl]
 | _ => rfl
def freshOk (esc : List Tmp) (o : Oper) (st : St) : Prop := ∀ t d, o.op = .alloc t → o.dst = some d → esc.contains d = false → lk st.bx d = none
structure Left (st st' : St) (e2 : List (Nat × Slot)) (r : Option St) (d : Option Tmp) (rd : Bool) : Prop where
 its : st'.its = st.its
 mem : rd = true → st'.h = st.h ∧ st'.bx = st.bx
 env : ∃ s, st'.env = putE st.env d s ∧ r = some { st' with env := putE e2 d s }
theorem Left.put {d : Option Tmp} {s : Slot} {rd : Bool} : Left st (st.put d s) e2 (some (({ st with env := e2 } : St).put d s)) d rd :=
 ⟨by simp, fun _ => ⟨by simp, by simp⟩, s, put_env _ _ _, by rw [put_with]⟩
theorem Left.map {α : Type} {x : Option α} {f : α → Slot} {d : Option Tmp} {rd : Bool} {st' : St} (h : (x.map fun v => st.put d (f v)) = some st') :
  Left st st' e2 (x.map fun v => ({ st with env := e2 } : St).put d (f v)) d rd := by
 obtain ⟨v, rfl, rfl⟩ := Option.map_eq_some_iff.1 h
 exact Left.put
theorem Left.heap {d : Option Tmp} {s : Slot} {h' : H} : Left st { st.put d s with h := h' } e2 (some { ({ st with env := e2 } : St).put d s with h := h' }) d false :=
 ⟨by simp, fun e => (by cases e), s, by simp [put_env], by simp [put_with]⟩
theorem Left.mapH {α : Type} {x : Option α} {f : α → Slot} {g : α → H} {d : Option Tmp} {st' : St} (h : (x.map fun v => { st.put d (f v) with h := g v }) = some st') :
  Left st st' e2 (x.map fun v => { ({ st with env := e2 } : St).put d (f v) with h := g v }) d false := by
 obtain ⟨v, rfl, rfl⟩ := Option.map_eq_some_iff.1 h
 exact Left.heap
theorem evalOp_env {call : CallF} {esc : List Tmp} {o : Oper} {st' : St} (hop : drawOp o.op = true) (hf : freshOk esc o st) (h : evalOp T call esc o st = some st')
  (he : ∀ x ∈ o.op.operands, ∀ t, x = .tmp t → lk e2 t = lk st.env t) :
  Left st st' e2 (evalOp T call esc o { st with env := e2 }) o.dst (readOp o.op) := by
 obtain ⟨dst, op, type, pos, after, guard⟩ := o
 have V : ∀ x ∈ op.operands, ({ st with env := e2 } : St).val x = st.val x := fun x hx => val_with (he x hx)
 have S : ∀ x ∈ op.operands, ({ st with env := e2 } : St).slot x = st.slot x := fun x hx => slot_with (he x hx)
 have VL : ∀ xs : List Operand, (∀ x ∈ xs, x ∈ op.operands) → xs.map ({ st with env := e2 } : St).val = xs.map st.val := fun xs hx => List.map_congr_left fun x h => V x (hx x h)
 have VP : ∀ ps : List (Nat × Operand), (∀ p ∈ ps, p.2 ∈ op.operands) → (ps.map fun p => (p.1, ({ st with env := e2 } : St).val p.2)) = ps.map fun p => (p.1, st.val p.2) := fun ps hx => List.map_congr_left fun p h => by rw [V p.2 (hx p h)]
 have VO : ∀ x : Option Operand, (∀ y ∈ x, y ∈ op.operands) → x.map ({ st with env := e2 } : St).val = x.map st.val := fun x hx => by cases x with | none => rfl | some y => simp [V y (hx y rfl)]
 cases op <;> simp only [drawOp, readOp, Bool.false_eq_true] at hop <;> simp only [evalOp] at h ⊢ <;> simp only [Op.operands] at V S VL VP VO
 case move x => simp at V; cases h; rw [V]; exact Left.put
 case assign x => simp at V; cases h; rw [V]; exact Left.put
 case pick c x y =>
  simp at V; rw [V.1, V.2.1, V.2.2]
  split at h
  ·cases h; exact Left.put
  ·cases h
 case alloc t =>
  split at h
  ·cases h
  ·rename_i d
   split at h
   ·cases h
   ·split at h
    ·rename_i h1 h2
     cases h
     simp only [h1, h2, Bool.false_eq_true, ↓reduceIte]
     exact ⟨rfl, fun e => (by cases e), _, rfl, rfl⟩
    ·rename_i h1 h2
     cases h
     have hl := hf t d rfl rfl (by simpa using h2)
     have e1 : st.newBox d (T.zero t) = { st with env := (d, .loc d 0) :: st.env, bx := (d, T.zero t) :: st.bx } := by simp only [St.newBox, hl]
     have e3 : ({ st with env := e2 } : St).newBox d (T.zero t) = { st with env := (d, .loc d 0) :: e2, bx := (d, T.zero t) :: st.bx } := by simp only [St.newBox, hl]
     simp only [h1, h2, Bool.false_eq_true, ↓reduceIte]
     rw [e1, e3]
     exact ⟨rfl, fun e => (by cases e), .loc d 0, rfl, rfl⟩
 case build t ps =>
  rw [VP ps.toList (fun p hp => by simp; exact ⟨p.1, by simpa using hp⟩)]
  split at h
  ·split at h
   ·cases h; exact Left.put
   ·cases h
  ·cases h
 case buildSlice t len ps =>
  rw [VP ps.toList (fun p hp => by simp; exact ⟨p.1, by simpa using hp⟩)]
  split at h
  ·split at h
   ·cases h
   ·split at h
    ·cases h; simp only [*]; exact Left.heap
    ·cases h
  ·cases h
 case load t x =>
  have e : loadA T { st with env := e2 } t x = loadA T st t x := by simp only [loadA, S x (by simp)]
  rw [e]; exact Left.map h
 case store t x y =>
  simp at V
  rw [V.2]
  obtain ⟨st1, h1, rfl⟩ := Option.map_eq_some_iff.1 h
  simp only [storeA] at h1 ⊢
  rw [S x (by simp)]
  cases hcs : (st.val y).cells with
  | none => simp [hcs] at h1
  | some cs =>
   simp only [hcs] at h1 ⊢
   by_cases hc : cs.length = T.size t ∧ isOther T t = false
   ·rw [if_pos hc] at h1 ⊢
    cases hsl : st.slot x with
    | loc b k =>
     simp only [hsl] at h1 ⊢
     cases hb : lk st.bx b with
     | none => simp [hb] at h1
     | some bs =>
      simp only [hb] at h1 ⊢
      by_cases hk : k + cs.length ≤ bs.length
      ·rw [if_pos hk] at h1 ⊢
       cases h1
       exact ⟨by simp, fun e => (by cases e), .val undefV, by simp [put_env], by cases dst <;> rfl⟩
      ·rw [if_neg hk] at h1; cases h1
    | iter => simp [hsl] at h1
    | val v =>
     simp only [hsl] at h1 ⊢
     cases v with
     | c c =>
      cases c with
      | ptr id i k =>
       simp only at h1 ⊢
       cases hw : st.h.write id i k cs with
       | none => simp [hw] at h1
       | some h2 =>
        simp only [hw] at h1 ⊢
        cases h1
        exact ⟨by simp, fun e => (by cases e), .val undefV, by simp [put_env], by cases dst <;> rfl⟩
      | _ => simp at h1
     | _ => simp at h1
   ·rw [if_neg hc] at h1; cases h1
 case nilCheck x =>
  simp at V; rw [V]
  split at h
  ·cases h; exact Left.put
  ·cases h
 case binOp op t x y ty => simp at V; rw [V.1, V.2]; exact Left.map h
 case unOp op ty x => simp at V; rw [V]; exact Left.map h
 case convert s d x => simp at V; rw [V]; exact Left.map h
 case makeFunc f first caps =>
  cases f with
  | func f =>
   simp only at h ⊢
   rw [VL caps.toList (fun x hx => by simp; exact .inr (by simpa using hx))]
   split at h
   ·rename_i h1; rw [if_pos h1]; exact Left.map h
   ·cases h
  | _ => cases h
 case makeSlice t l cp =>
  simp at V; rw [V.1, V.2]
  split at h
  ·split at h
   ·rename_i hc; obtain ⟨c1, c2, rfl, c4⟩ := hc; cases h; simp only [*, and_self, ↓reduceIte]; exact Left.heap
   ·cases h
  ·cases h
 case slice t x lo hi mx =>
  rw [V x (by simp), VO lo (fun y hy => by simp at hy; simp [hy]), VO hi (fun y hy => by simp at hy; simp [hy]), VO mx (fun y hy => by simp at hy; simp [hy])]
  exact Left.map h
 case fieldAddr s x f =>
  rw [S x (by simp)]
  split at h
  ·split at h
   ·cases h
   ·split at h
    ·cases h; exact Left.put
    ·cases h; exact Left.put
    ·cases h
  ·cases h
 case field s x f =>
  simp at V; rw [V]
  split at h
  ·split at h
   ·cases h
   ·split at h
    ·rename_i h1; simp only [*, ↓reduceIte]; exact Left.map h
    ·cases h
  ·cases h
 case indexAddr t x ix =>
  simp at V; rw [V.1, V.2]
  split at h
  ·split at h
   ·split at h
    ·split at h
     ·cases h; simp only [*, and_self, ↓reduceIte]; exact Left.put
     ·cases h
    ·cases h
   ·cases h
  ·cases h
 case index t x ix =>
  simp at V; rw [V.1, V.2]
  split at h
  ·split at h
   ·split at h
    ·cases h; simp only [*, ↓reduceIte]; exact Left.put
    ·cases h
   ·cases h
  ·cases h
 case extract x ix =>
  simp at V; rw [V]
  split at h
  ·exact Left.map h
  ·cases h
 case call cl =>
  obtain ⟨callee, args, ts⟩ := cl
  simp only [Call.operands] at V VL
  have hA : args.toList.map ({ st with env := e2 } : St).val = args.toList.map st.val := VL args.toList (fun x hx => by simp; exact .inr (by simpa using hx))
  cases callee with
  | value f =>
   simp only at h ⊢
   rw [hA, V f (by simp)]
   split at h
   ·exact Left.mapH h
   ·cases h
  | invoke r m => cases hop
  | builtin b =>
   simp only at h ⊢
   rw [hA]
   cases b <;> simp only [Bool.false_eq_true] at hop <;> simp only at h ⊢
   case append =>
    split at h
    ·split at h
     ·cases h
     ·rename_i h1; rw [if_neg h1]; exact Left.mapH h
    ·cases h
   all_goals
    split at h
    ·exact Left.map h
    ·cases h
end
end Go.AM
