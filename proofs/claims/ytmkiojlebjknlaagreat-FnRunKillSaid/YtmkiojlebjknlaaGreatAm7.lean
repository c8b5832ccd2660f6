/-
  Proves that a small evaluator over abstract cells and the machine of the model come to the same, and what the calculus of its answers says; under no condition.
-/
import Derived.Test.YtmkiojlebjknlaaGreatAm6
import Derived.ChangeArms
set_option linter.all false
/-
 WHAT COMES IN, OPENED: a slice that reads as data is a block of the abstract heap that nobody writes.
-/
namespace Go.AM
section
variable {H0 : Type} {enc : TypeId × Value → H0} {P : Program} {W : World} {spare : Nat → Bool} {held : Bool}
def RoAll (h : H) : Prop := ∀ id b, h.get id = some b → b.ro = true
structure Gr (h : H) (ι : Plan) (h' : H) (ι' : Plan) : Prop where
 ext : Ext h h'
 agree : Agree h.length ι ι'
theorem Gr.refl (h : H) (ι : Plan) : Gr h ι h ι := ⟨Ext.refl _, Agree.refl _ _⟩
theorem Gr.trans {h1 h2 h3 : H} {i1 i2 i3 : Plan} (a : Gr h1 i1 h2 i2) (b : Gr h2 i2 h3 i3) : Gr h1 i1 h3 i3 := ⟨a.ext.trans b.ext, a.agree.trans b.agree a.ext.1⟩
theorem Gr.conc {h h' : H} {ι ι' : Plan} (g : Gr h ι h' ι') {c : Cell} (hc : c.below h.length) : c.conc ι' = c.conc ι := Cell.conc_agree g.agree hc
theorem Gr.below {h h' : H} {ι ι' : Plan} (g : Gr h ι h' ι') {c : Cell} (hc : c.below h.length) : c.below h'.length := Cell.below_mono g.ext.1 hc
theorem cells_spec {a : Addr} {n : Nat} {l : List Value} (h : W.cells? 0 a n = some l) : l.length = n ∧ ∀ k, k < n → W.cell? (a.add k) = l[k]? := by
 unfold World.cells? at h
 rw [if_pos (Nat.zero_le _)] at h
 exact ⟨by simpa using mapM_some_length h, fun k hk => by
  have := mapM_some_get h k k (by simp [hk])
  exact this⟩
theorem cell_some {a : Addr} {v : Value} (h : W.cell? a = some v) : a.spot = none ∧ ∃ cs et fz, W.heap[a.block]? = some (.cells cs et fz) ∧ cs[a.off]? = some v := by
 unfold World.cell? at h
 split at h
 ·rename_i c et fz hb
  split at h
  ·cases h
  ·rename_i hs
   refine ⟨by cases hq : a.spot with | none => rfl | some x => simp [hq] at hs, c, et, fz, hb, h⟩
 ·cases h
theorem add_eq {a : Addr} (hs : a.spot = none) (n : Nat) : a.add n = ⟨a.block, a.off + n, none⟩ := by
 unfold Addr.add
 split
 ·rename_i h; subst h; cases a; simp_all
 ·rfl
def ElemRead (enc : TypeId × Value → H0) (P : Program) (W : World) (spare : Nat → Bool) (held : Bool) (e : TypeId) {α : Type} (encA : α → List Cell) : Prop :=
 ∀ fuel cs x, DataW.trod enc P W 0 spare held fuel e cs = some x → ∃ a : α, ∀ ι : Plan, cs = (encA a).map (Cell.conc ι)
theorem HR.addRo {ι : Plan} {h : H} (hr : HR 0 ι h W) (ha : RoAll h) {a : Addr} {es cap : Nat} {el : List (List Cell)} {cs : Array Value} {et : TypeId} {fz : Nat × Nat} (hb : W.heap[a.block]? = some (.cells cs et fz)) (h0 : 0 < es) (hsz : a.off + cap * es ≤ cs.size)
  (hel : ∀ e ∈ el, e.length = es) (hcap : el.length ≤ cap) (hc : ∀ (i : Nat) (e : List Cell) (k : Nat) (x : Cell), el[i]? = some e → e[k]? = some x → cs[a.off + i * es + k]? = some (x.conc ι) ∧ x.below h.length) :
  HR 0 (ι.set h.length ⟨a.block, a.off, cap, es, none⟩) (h.push ⟨true, es, el⟩) W := by
 have hag := Plan.set_agree ι h.length ⟨a.block, a.off, cap, es, none⟩
 refine ⟨hr.size, fun id b hg => ?_, fun id id' b b' hne hg hg' hro => ?_⟩
 ·by_cases hid : id = h.length
  ·subst hid
   rw [get_push_self] at hg; cases hg
   refine ⟨cs, et, fz, by rw [Plan.set_same]; exact hb, by rw [Plan.set_same], h0, hel, by rw [Plan.set_same]; exact hcap, by rw [Plan.set_same]; exact hsz, fun i e k x hi hk => ?_, fun e => by cases e⟩
   obtain ⟨c1, c2⟩ := hc i e k x hi hk
   rw [Plan.set_same]
   exact ⟨by rw [Cell.conc_agree hag c2]; exact c1, Cell.below_mono (by simp) c2⟩
  ·have hlt : id < h.length := by have := H.get_lt hg; simp at this; omega
   rw [get_push_lt hlt] at hg
   obtain ⟨cs', et', fz', h1, h2, h3, h4, h5, h6, h7, h8⟩ := hr.live id b hg
   rw [← hag id hlt] at h1 h2 h5 h6 h7 h8
   refine ⟨cs', et', fz', h1, h2, h3, h4, h5, h6, fun i e k x hi hk => ?_, h8⟩
   obtain ⟨c1, c2⟩ := h7 i e k x hi hk
   exact ⟨by rw [Cell.conc_agree hag c2]; exact c1, Cell.below_mono (by simp) c2⟩
 ·have hlt : id < h.length := by
   rcases Nat.lt_or_ge id h.length with h1 | h1
   ·exact h1
   ·have := H.get_lt hg; simp at this
    have e : id = h.length := by omega
    subst e; rw [get_push_self] at hg; cases hg; cases hro
  rw [get_push_lt hlt] at hg
  have := ha id b hg
  rw [this] at hro; cases hro
theorem RoAll.push {h : H} (ha : RoAll h) {b : Blk} (hb : b.ro = true) : RoAll (h.push b) := fun id c hg => by
 by_cases hid : id < h.length
 ·rw [get_push_lt hid] at hg; exact ha id c hg
 ·have := H.get_lt hg; simp at this
  have e : id = h.length := by omega
  subst e; rw [get_push_self] at hg; cases hg; exact hb
def H.skip (h : H) : H := h ++ [none]
theorem skip_length (h : H) : (H.skip h).length = h.length + 1 := by simp [H.skip]
theorem get_skip {h : H} {id : Nat} : (H.skip h).get id = h.get id := by
 unfold H.get H.skip
 by_cases hid : id < h.length
 ·rw [List.getElem?_append_left hid]
 ·rw [List.getElem?_append_right (by omega), List.getElem?_eq_none (l := h) (by omega)]
  by_cases e : id - h.length = 0
  ·simp [e]
  ·rw [List.getElem?_eq_none (by simp; omega)]
theorem HR.addNone {ι : Plan} {h : H} (hr : HR 0 ι h W) (ha : RoAll h) (p : Pl) : HR 0 (ι.set h.length p) (H.skip h) W := by
 have hag := Plan.set_agree ι h.length p
 refine ⟨hr.size, fun id b hg => ?_, fun id id' b b' hne hg hg' hro => ?_⟩
 ·rw [get_skip] at hg
  have hlt := H.get_lt hg
  obtain ⟨cs', et', fz', h1, h2, h3, h4, h5, h6, h7, h8⟩ := hr.live id b hg
  rw [← hag id hlt] at h1 h2 h5 h6 h7 h8
  refine ⟨cs', et', fz', h1, h2, h3, h4, h5, h6, fun i e k x hi hk => ?_, h8⟩
  obtain ⟨c1, c2⟩ := h7 i e k x hi hk
  exact ⟨by rw [Cell.conc_agree hag c2]; exact c1, Cell.below_mono (by simp [skip_length]) c2⟩
 ·rw [get_skip] at hg
  have := ha id b hg
  rw [this] at hro; cases hro
structure Opn (W : World) (h : H) (ι : Plan) : Prop where
 hr : HR 0 ι h W
 ro : RoAll h
theorem choose_list {α : Type} {Q : Nat → α → Prop} : ∀ n, (∀ i, i < n → ∃ a, Q i a) → ∃ xs : List α, xs.length = n ∧ ∀ i (hi : i < xs.length), Q i xs[i]
 | 0, _ => ⟨[], rfl, fun i hi => by simp at hi⟩
 | n + 1, h => by
  obtain ⟨xs, h1, h2⟩ := choose_list n fun i hi => h i (by omega)
  obtain ⟨a, ha⟩ := h n (by omega)
  refine ⟨xs ++ [a], by simp [h1], fun i hi => ?_⟩
  by_cases hin : i < xs.length
  ·rw [List.getElem_append_left hin]; exact h2 i hin
  ·simp at hi
   have : i = n := by omega
   subst this
   rw [List.getElem_append_right (by omega)]
   simpa [h1] using ha
def Light (P : Program) (t : TypeId) (d : DataW H0) : Prop := ∀ n ∈ d.weights P t, n ≤ reachBytes
theorem weightsAll_mem {e : TypeId} : ∀ {l : List (DataW H0)} {d : DataW H0}, d ∈ l → ∀ n ∈ d.weights P e, n ∈ DataW.weightsAll P e l
 | d0 :: l, d, hd, n, hn => by
  simp only [DataW.weightsAll, List.mem_append]
  rcases List.mem_cons.1 hd with rfl | hd
  ·exact .inl hn
  ·exact .inr (weightsAll_mem hd n hn)
theorem Light.elem {t e : TypeId} (ht : P.underlying t = some (.slice e)) {a b : List (DataW H0)} (h : Light P t (.slice a b)) {d : DataW H0} (hd : d ∈ a) : Light P e d := fun n hn => h n (by
 simp only [DataW.weights, ht, List.mem_cons, List.mem_append]
 exact .inr (.inl (weightsAll_mem hd n hn)))
theorem Light.len {t e : TypeId} (ht : P.underlying t = some (.slice e)) {a b : List (DataW H0)} (h : Light P t (.slice a b)) (hb : 0 < P.bytesOf e) : a.length ≤ reachBytes := by
 have := h ((a.length + b.length) * P.bytesOf e) (by simp [DataW.weights, ht])
 have h2 : (a.length + b.length) * 1 ≤ (a.length + b.length) * P.bytesOf e := Nat.mul_le_mul_left _ hb
 omega
theorem weightsEach_mem : ∀ {ts : List TypeId} {l : List (DataW H0)} {i : Nat} {t : TypeId} {d : DataW H0}, ts[i]? = some t → l[i]? = some d → ∀ n ∈ d.weights P t, n ∈ DataW.weightsEach P ts l
 | t0 :: ts, d0 :: l, 0, t, d, ht, hd, n, hn => by
  simp at ht hd; subst ht; subst hd
  simp only [DataW.weightsEach, List.mem_append]; exact .inl hn
 | t0 :: ts, d0 :: l, i + 1, t, d, ht, hd, n, hn => by
  simp at ht hd
  simp only [DataW.weightsEach, List.mem_append]; exact .inr (weightsEach_mem ht hd n hn)
 | [], _, _, _, _, ht, _, _, _ => by simp at ht
 | _ :: _, [], _, _, _, _, hd, _, _ => by simp at hd
theorem Light.part {t : TypeId} {fs : Array Field} (ht : P.underlying t = some (.struct fs)) {parts : List (DataW H0)} (h : Light P t (.agg parts)) {i : Nat} {f : Field} {d : DataW H0} (hf : fs[i]? = some f) (hd : parts[i]? = some d) : Light P f.type d := fun n hn => h n (by
 simp only [DataW.weights, ht]
 exact weightsEach_mem (i := i) (by simp [hf]) hd n hn)
theorem slice_at {t e : TypeId} (ht : P.underlying t = some (.slice e)) {es : Nat} (hes : P.cellsOf e = es) (h0 : 0 < es) {fuel : Nat} {v : Value} {x : DataW H0 × List MemPlace} (hd : DataW.trod enc P W 0 (fun _ => true) held fuel t [v] = some x) :
  v = .slice none 0 0 ∨ (∃ a : Addr, v = .slice (some a) 0 0) ∨
  ∃ (a : Addr) (len cap : Nat) (cs : Array Value) (et : TypeId) (fz : Nat × Nat) (m : Nat), v = .slice (some ⟨a.block, a.off, none⟩) len cap ∧ len ≤ cap ∧ W.heap[a.block]? = some (.cells cs et fz) ∧ a.off + cap * es ≤ cs.size ∧
   (Light P t x.1 → 0 < P.bytesOf e → len ≤ reachBytes) ∧
   ∀ i, i < len → ∃ (l : List Value) (y : DataW H0 × List MemPlace), l.length = es ∧ (∀ k, k < es → cs[a.off + i * es + k]? = l[k]?) ∧ DataW.trod enc P W 0 (fun _ => true) held m e l = some y ∧ (Light P t x.1 → Light P e y.1) := by
 rcases DataW.trod_slice ht hd with ⟨h1, _⟩ | ⟨a, len, cap, elems, rest, m, _, h1, hx, _, h3, _, h4, h5, h6, _⟩
 ·left; simpa using h1
 ·right
  have hv : v = .slice (some a) len cap := by simpa using h1
  by_cases hcap : cap = 0
  ·left
   have : len = 0 := by omega
   exact ⟨a, by rw [hv, this, hcap]⟩
  right
  obtain ⟨h6a, h6b⟩ := h6 rfl
  have rd : ∀ j, j < cap → ∃ l y, W.cells? 0 (a.add (j * es)) es = some l ∧ DataW.trod enc P W 0 (fun _ => true) held m e l = some y ∧ (j < len → elems[j]? = some y) := by
   intro j hj
   by_cases hjl : j < len
   ·have := h5 j hjl
    rw [hes] at this
    obtain ⟨y, hy⟩ : ∃ y, elems[j]? = some y := ⟨elems[j], List.getElem?_eq_getElem (by omega)⟩
    rw [hy] at this
    obtain ⟨l, e1, e2⟩ := Option.bind_eq_some_iff.1 this
    exact ⟨l, y, e1, e2, fun _ => hy⟩
   ·have := h6b (j - len) (by omega)
    rw [hes, show len + (j - len) = j by omega] at this
    obtain ⟨y, hy⟩ : ∃ y, rest[j - len]? = some y := ⟨rest[j - len], List.getElem?_eq_getElem (by omega)⟩
    rw [hy] at this
    obtain ⟨l, e1, e2⟩ := Option.bind_eq_some_iff.1 this
    exact ⟨l, y, e1, e2, fun h => absurd h hjl⟩
  obtain ⟨l0, y0, r0, _⟩ := rd 0 (by omega)
  obtain ⟨q1, q2⟩ := cells_spec r0
  have c0 := q2 0 h0
  obtain ⟨v0, hv0⟩ : ∃ v0, l0[0]? = some v0 := ⟨l0[0]'(by omega), List.getElem?_eq_getElem (by omega)⟩
  rw [hv0] at c0
  have e0 : (a.add (0 * es)).add 0 = a := by simp [Addr.add]
  rw [e0] at c0
  obtain ⟨hs, cs, et, fz, hb, hc0⟩ := cell_some c0
  have at_ : ∀ j l, W.cells? 0 (a.add (j * es)) es = some l → l.length = es ∧ ∀ k, k < es → cs[a.off + j * es + k]? = l[k]? := by
   intro j l hl
   obtain ⟨g1, g2⟩ := cells_spec hl
   refine ⟨g1, fun k hk => ?_⟩
   have := g2 k hk
   rw [add_eq hs, add_eq (a := ⟨a.block, a.off + j * es, none⟩) rfl] at this
   obtain ⟨u, hu⟩ : ∃ u, l[k]? = some u := ⟨l[k]'(by omega), List.getElem?_eq_getElem (by omega)⟩
   rw [hu] at this ⊢
   obtain ⟨_, cs', et', fz', hb', hc'⟩ := cell_some this
   simp only at hb' hc'
   rw [hb] at hb'; cases hb'
   exact hc'
  have hsz : a.off + cap * es ≤ cs.size := by
   obtain ⟨l, y, r, _⟩ := rd (cap - 1) (by omega)
   obtain ⟨g1, g2⟩ := at_ _ l r
   have := g2 (es - 1) (by omega)
   rw [List.getElem?_eq_getElem (by omega)] at this
   have := (Array.getElem?_eq_some_iff.1 this).1
   have e : cap * es = (cap - 1) * es + es := by
    obtain ⟨k, rfl⟩ : ∃ k, cap = k + 1 := ⟨cap - 1, by omega⟩
    simp [Nat.succ_mul]
   omega
  refine ⟨a, len, cap, cs, et, fz, m, ?_, h3, hb, hsz, fun hL hB => ?_, fun i hi => ?_⟩
  ·rw [hv]; cases a; simp only at hs; subst hs; rfl
  ·rw [hx] at hL
   have := hL.len ht hB
   simpa [h4] using this
  ·obtain ⟨l, y, r, hy, hye⟩ := rd i (by omega)
   obtain ⟨g1, g2⟩ := at_ i l r
   refine ⟨l, y, g1, g2, hy, fun hL => ?_⟩
   rw [hx] at hL
   exact hL.elem ht (List.mem_map.2 ⟨y, List.mem_of_getElem? (hye hi), rfl⟩)
theorem open_flat {t e : TypeId} (ht : P.underlying t = some (.slice e)) {es : Nat} (hes : P.cellsOf e = es) (h0 : 0 < es) {α : Type} {encA : α → List Cell} (hlen : ∀ a, (encA a).length = es) (hflat : ∀ a, ∀ c ∈ encA a, c.flat = true)
  (he : ElemRead enc P W (fun _ => true) held e encA) {h : H} {ι : Plan} (ho : Opn W h ι) {fuel : Nat} {v : Value} {x : DataW H0 × List MemPlace} (hd : DataW.trod enc P W 0 (fun _ => true) held fuel t [v] = some x)
  (hL : Light P t x.1) (hB : 0 < P.bytesOf e) :
  ∃ (c : Cell) (xs : List α) (h' : H) (ι' : Plan), Gr h ι h' ι' ∧ Opn W h' ι' ∧ SlA h' c es encA xs ∧ v = c.conc ι' ∧ c.below h'.length := by
 rcases slice_at ht hes h0 hd with rfl | ⟨a, rfl⟩ | ⟨a, len, cap, cs, et, fz, m, rfl, hlc, hb, hsz, hln, hel⟩
 ·exact ⟨.nils, [], h, ι, Gr.refl _ _, ho, .inl ⟨by simp, rfl⟩, rfl, trivial⟩
 ·refine ⟨.esl h.length, [], H.skip h, ι.set h.length ⟨a.block, a.off, 0, es, a.spot⟩, ⟨⟨by simp [skip_length], fun id _ => get_skip⟩, Plan.set_agree _ _ _⟩, ⟨ho.hr.addNone ho.ro _, fun id b hg => by rw [get_skip] at hg; exact ho.ro id b hg⟩, .inr ⟨rfl, _, rfl⟩, ?_, by show _ < _; simp [skip_length]⟩
  simp only [Cell.conc, Plan.set_same]
 ·obtain ⟨xs, hxl, hxs⟩ := choose_list (Q := fun i a' => ∀ ι : Plan, ∀ k, k < es → cs[a.off + i * es + k]? = ((encA a')[k]?).map (Cell.conc ι)) len fun i hi => by
   obtain ⟨l, y, l1, l2, l3, _⟩ := hel i hi
   obtain ⟨a', ha'⟩ := he m l y l3
   refine ⟨a', fun ι k hk => ?_⟩
   rw [l2 k hk, ha' ι]; simp
  have hml : len ≤ sMost := by
   have := hln hL hB
   have e2 : reachBytes ≤ sMost := by decide
   omega
  refine ⟨.sl h.length 0 len none, xs, h.push ⟨true, es, xs.map encA⟩, ι.set h.length ⟨a.block, a.off, cap, es, none⟩, ⟨Ext.push _ _, Plan.set_agree _ _ _⟩, ⟨?_, ho.ro.push rfl⟩, ?_, ?_, by show _ < _; simp⟩
  ·refine ho.hr.addRo ho.ro hb h0 hsz (by simp [hlen]) (by simp; omega) fun i e' k x' hi hk => ?_
   rw [List.getElem?_map] at hi
   cases hx : xs[i]? with
   | none => rw [hx] at hi; simp at hi
   | some a' =>
    rw [hx] at hi
    simp at hi; subst hi
    obtain ⟨hil, e1⟩ := List.getElem?_eq_some_iff.1 hx
    have hk2 : k < es := by
     have := (List.getElem?_eq_some_iff.1 hk).1
     rw [hlen] at this; exact this
    have := hxs i hil ι k hk2
    rw [e1, hk] at this
    have hfl := hflat a' x' (List.mem_of_getElem? hk)
    exact ⟨this, Cell.flat_below hfl _⟩
  ·refine .inl ⟨fun a' _ => hlen a', hxl.symm, hml, _, get_push_self, rfl, by simp; omega, ?_⟩
   rw [List.drop_zero, List.take_of_length_le (by simp; omega)]
  ·simp only [Cell.conc, Plan.set_same]
   simp
end
end Go.AM
