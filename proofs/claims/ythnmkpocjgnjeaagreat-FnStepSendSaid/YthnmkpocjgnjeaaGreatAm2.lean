/-
  Proves that a small evaluator over abstract cells and the machine of the model come to the same, and what the calculus of its answers says; under no condition.
-/
import Derived.Test.YthnmkpocjgnjeaaGreatAm1
set_option linter.all false
/-
 THE ABSTRACT MACHINE, 5: every operation that only reads or reckons.
-/
namespace Go.AM
section
variable {T : TT} {P : Program} (ok : T.Ok P)
variable {B : Nat} {h0 : H} {ι0 : Plan} {w0 : World} {ι : Plan} {β γ : Nat → Nat} {nt : Nat} {st : St} {a : Act} {w : World}
include ok
omit ok in
theorem un_ok {op : UnOp} {x v : V} {u : Value} {n : Nat} (h : unA op x = some v) (hx : x.rel ι n u) : v.ok n ∧ ∀ w, (Op.unary op u).run P w = .ok (v.conc ι) w := by
 unfold unA at h
 split at h
 ·cases h; obtain ⟨rfl, _⟩ := V.rel_c hx; exact ⟨trivial, fun w => rfl⟩
 ·cases h; obtain ⟨rfl, _⟩ := V.rel_c hx; exact ⟨trivial, fun w => by simp [Op.unary, Cell.conc, Op.intArith, V.conc, V.conc1]⟩
 ·cases h
omit ok in
theorem elems_some {h : H} {id i len : Nat} {es : List (List Cell)} (hc : h.elems id i len = some es) : ∃ b, h.get id = some b ∧ i + len ≤ b.el.length ∧ es = (b.el.drop i).take len := by
 unfold H.elems at hc
 split at hc
 ·rename_i b hb
  split at hc
  ·rename_i hl; cases hc; exact ⟨b, hb, hl, rfl⟩
  ·cases hc
 ·cases hc
theorem flatten_get {es : Nat} (hpos : 0 < es) : ∀ (el : List (List Cell)), (∀ e ∈ el, e.length = es) → ∀ (j : Nat) (x : Cell), el.flatten[j]? = some x →
  ∃ e, el[j / es]? = some e ∧ e[j % es]? = some x
 | [], _, j, x, h => by simp at h
 | e :: el, hl, j, x, h => by
  have he : e.length = es := hl e (by simp)
  rw [List.flatten_cons, List.getElem?_append] at h
  split at h
  ·rename_i hj
   rw [he] at hj
   exact ⟨e, by simp [Nat.div_eq_of_lt hj], by rw [Nat.mod_eq_of_lt hj]; exact h⟩
  ·rename_i hj
   rw [he] at hj h
   obtain ⟨e', h1, h2⟩ := flatten_get hpos el (fun y hy => hl y (by simp [hy])) (j - es) x h
   have hd : j / es = (j - es) / es + 1 := by rw [← Nat.div_eq_sub_div hpos (by omega)]
   have hm : j % es = (j - es) % es := by rw [Nat.mod_eq_sub_mod (by omega)]
   exact ⟨e', by rw [hd]; simpa using h1, by rw [hm]; exact h2⟩
omit ok in
theorem flatten_length {es : Nat} : ∀ (el : List (List Cell)), (∀ e ∈ el, e.length = es) → el.flatten.length = el.length * es
 | [], _ => by simp
 | e :: el, hl => by
  rw [List.flatten_cons, List.length_append, hl e (by simp), flatten_length el (fun y hy => hl y (by simp [hy])), List.length_cons, Nat.add_mul]; omega
omit ok in
theorem add_mul_div_mod (x y es j : Nat) : x + (y + j / es) * es + j % es = x + y * es + j := by
 have := Nat.div_add_mod j es
 rw [Nat.add_mul, Nat.mul_comm (j / es) es]; omega
theorem run_elems {id i len : Nat} {es : List (List Cell)} (h : st.h.elems id i len = some es) (hw : WRs B h0 ι0 w0 ι β γ st w) :
  (loadCells ⟨(ι id).blk, (ι id).base + i * (ι id).es, none⟩ (len * (ι id).es)).run P w = .ok (es.flatten.map (Cell.conc ι)).toArray w ∧ (∀ e ∈ es, e.length = (ι id).es) ∧ es.length = len ∧ (∀ e ∈ es, ∀ x ∈ e, x.below st.h.length) := by
 obtain ⟨b, hb, hl, rfl⟩ := elems_some h
 obtain ⟨cs, et, fz, hh, hes, hpos, hlen, _, _, hc, _⟩ := hw.hr.live id b hb
 have hle : ∀ e ∈ (b.el.drop i).take len, e.length = (ι id).es := fun e he => by rw [hes]; exact hlen e (mem_take_drop he)
 have hll : ((b.el.drop i).take len).length = len := by simp; omega
 have hbel : ∀ e ∈ (b.el.drop i).take len, ∀ x ∈ e, x.below st.h.length := fun e he x hx => by
  obtain ⟨j, hj⟩ := List.getElem?_of_mem (mem_take_drop he)
  obtain ⟨k, hk⟩ := List.getElem?_of_mem hx
  exact (hc j e k x hj hk).2
 refine ⟨?_, hle, hll, hbel⟩
 have hfl := flatten_length _ hle
 rw [hll] at hfl
 have := run_loadCells_list (P := P) w ⟨(ι id).blk, (ι id).base + i * (ι id).es, none⟩ (((b.el.drop i).take len).flatten.map (Cell.conc ι)) (fun j v hv => by
  rw [List.getElem?_map] at hv
  cases hx : ((b.el.drop i).take len).flatten[j]? with
  | none => simp [hx] at hv
  | some x =>
   simp [hx] at hv; subst hv
   obtain ⟨e, he, hk⟩ := flatten_get ok (by rw [hes]; exact hpos) _ hle j x hx
   obtain ⟨he, _⟩ := getElem?_take_drop he
   have := (hc (i + j / (ι id).es) e (j % (ι id).es) x he hk).1
   rw [← hes, add_mul_div_mod] at this
   rw [addr_add]
   simp [World.cell?, hh, this])
 rw [List.length_map, hfl] at this
 exact this
omit ok in
theorem bytesOf_cells : ∀ (es : List (List Cell)) (bs : List UInt8), bytesOf es = some bs → ∃ ns : List Int, es = ns.map (fun n => [Cell.int .u8 n]) ∧ bs = ns.map fun n => UInt8.ofNat n.toNat
 | [], bs, h => by simp [bytesOf] at h; subst h; exact ⟨[], rfl, rfl⟩
 | e :: es, bs, h => by
  unfold bytesOf at h
  split at h
  ·rename_i heq; cases heq
  ·rename_i n r heq
   cases heq
   split at h
   ·rename_i bs' hb
    cases h
    obtain ⟨ns, rfl, rfl⟩ := bytesOf_cells _ _ hb
    exact ⟨n :: ns, rfl, rfl⟩
   ·cases h
  ·cases h
theorem conv_ok {src dst : TypeId} {x v : V} {u : Value} (h : convA T st.h src dst x = some v) (hx : x.rel ι st.h.length u) (hw : WRs B h0 ι0 w0 ι β γ st w) :
  v.ok st.h.length ∧ (Go.convert src dst u).run P w = .ok (v.conc ι) w := by
 unfold convA at h
 split at h
 ·split at h
  ·rename_i k n k1 k2 h1 h2
   cases h
   obtain ⟨rfl, _⟩ := V.rel_c hx
   exact ⟨trivial, by simp [Go.convert, run_und ok (int_of ok h1), run_und ok (int_of ok h2), Cell.conc, Conv.intToInt, V.conc, V.conc1]⟩
  ·cases h
 ·split at h
  ·rename_i s h1 h2
   cases h
   obtain ⟨rfl, _⟩ := V.rel_c hx
   exact ⟨trivial, by simp [Go.convert, run_und ok (str_of ok h1), run_und ok (str_of ok h2), Cell.conc, V.conc, V.conc1]⟩
  ·cases h
 ·split at h
  ·rename_i e h1 h2
   split at h
   ·rename_i h3
    cases h
    obtain ⟨rfl, _⟩ := V.rel_c hx
    exact ⟨trivial, by simp [Go.convert, run_und ok (slice_of ok h1), run_und ok (str_of ok h2), run_und ok (int_of ok h3), Cell.conc, V.conc, V.conc1, Conv.bytesToString]⟩
   ·cases h
  ·cases h
 ·rename_i id i len cap
  split at h
  ·rename_i e h1 h2
   split at h
   ·rename_i h3
    split at h
    ·rename_i es hes
     obtain ⟨bs, hbs, rfl⟩ := Option.map_eq_some_iff.1 h
     obtain ⟨rfl, _⟩ := V.rel_c hx
     obtain ⟨hrun, hle, hll, _⟩ := run_elems ok hes hw
     obtain ⟨ns, rfl, rfl⟩ := bytesOf_cells _ _ hbs
     refine ⟨trivial, ?_⟩
     rw [List.length_map] at hll
     subst hll
     have hrun' : (loadCells ⟨(ι id).blk, (ι id).base + i * (ι id).es, none⟩ ns.length).run P w = .ok (ns.map (Value.int .u8)).toArray w := by
      cases ns with
      | nil => rfl
      | cons n r =>
       have h1 : (ι id).es = 1 := by have := hle [Cell.int .u8 n] (by simp); simpa using this.symm
       rw [h1] at hrun ⊢
       rw [Nat.mul_one ((n :: r).length)] at hrun
       have hfl : ∀ l : List Int, (l.map (fun n => [Cell.int .u8 n])).flatten.map (Cell.conc ι) = l.map (Value.int .u8) := by
        intro l
        induction l with
        | nil => rfl
        | cons x l ih => simp only [List.map_cons, List.flatten_cons, List.cons_append, List.nil_append, ih, Cell.conc]
       rw [hfl] at hrun
       exact hrun
     show (Go.convert src dst (.slice _ _ _)).run P w = _
     rw [run_convert_bytes_string w src dst e _ _ _ (slice_of ok h1) (int_of ok h3) (str_of ok h2), run_bytesToString w _ _ _ ns hrun', foldl_push_bytes]
     simp [ByteArray.empty, ByteArray.emptyWithCapacity, V.conc, V.conc1, Cell.conc]
     rfl
    ·cases h
   ·cases h
  ·cases h
 ·cases h
omit ok in
theorem bound_ok {x : V} {y n : Nat} {u : Value} {m : Nat} (h : bound x y = some n) (hx : x.rel ι m u) : n ≤ y ∧ ∀ (Y : Nat) (c : BoundsCode) (w : World), y ≤ Y → (Instr.sliceBound u Y c).run P w = .ok n w := by
 unfold bound at h
 split at h
 ·split at h
  ·rename_i k i hi
   cases h
   obtain ⟨rfl, _⟩ := V.rel_c hx
   refine ⟨by omega, fun Y c w hY => ?_⟩
   simp only [Cell.conc]
   exact run_sliceBound (P := P) w k i Y c hi.1 (by omega)
  ·cases h
 ·cases h
def relO (ι : Plan) (n : Nat) : Option V → Option Value → Prop
 | none, none => True
 | some v, some u => v.rel ι n u
 | _, _ => False
omit ok in
theorem bounds_ok {lo hi : Option V} {lv hv : Option Value} {n len cap hh l : Nat} (hhi : (match hi with | none => some len | some hv => bound hv len) = some hh) (hlo : lowOf lo hh = some l)
  (r1 : relO ι n lo lv) (r2 : relO ι n hi hv) (hc : len ≤ cap) (b : Bool) : l ≤ hh ∧ hh ≤ len ∧ ∀ w, (Instr.sliceBounds b len cap lv hv none).run P w = .ok (l, hh, cap) w := by
 have low : l ≤ hh ∧ ((lv = none ∧ l = 0) ∨ ∃ u, lv = some u ∧ ∀ (c : BoundsCode) (w : World), (Instr.sliceBound u hh c).run P w = .ok l w) := by
  cases lo with
  | none =>
   cases lv with
   | none => simp only [lowOf, Option.some.injEq] at hlo; subst hlo; exact ⟨Nat.zero_le _, .inl ⟨rfl, rfl⟩⟩
   | some v => cases r1
  | some v =>
   cases lv with
   | none => cases r1
   | some u =>
    obtain ⟨h1, h2⟩ := bound_ok (P := P) hlo r1
    exact ⟨h1, .inr ⟨u, rfl, fun c w => h2 _ c w (Nat.le_refl _)⟩⟩
 have high : hh ≤ len ∧ ((hv = none ∧ hh = len) ∨ ∃ u, hv = some u ∧ ∀ (c : BoundsCode) (w : World), (Instr.sliceBound u cap c).run P w = .ok hh w) := by
  cases hi with
  | none =>
   cases hv with
   | none => simp only [Option.some.injEq] at hhi; subst hhi; exact ⟨Nat.le_refl _, .inl ⟨rfl, rfl⟩⟩
   | some v => cases r2
  | some v =>
   cases hv with
   | none => cases r2
   | some u =>
    obtain ⟨h1, h2⟩ := bound_ok (P := P) hhi r2
    exact ⟨h1, .inr ⟨u, rfl, fun c w => h2 _ c w hc⟩⟩
 refine ⟨low.1, high.1, fun w => ?_⟩
 unfold Instr.sliceBounds
 rcases low.2 with ⟨rfl, rfl⟩ | ⟨u, rfl, hl⟩ <;> rcases high.2 with ⟨rfl, rfl⟩ | ⟨u', rfl, hh'⟩ <;>
  simp only [Sem.run_bind, Sem.run_pure, Result.andThen_ok, *]
omit ok in
theorem bound_zero {hi : Option V} {hh : Nat} (h : (match hi with | none => some 0 | some hv => bound hv 0) = some hh) : hh = 0 := by
 cases hi with
 | none => cases h; rfl
 | some v =>
  simp only [bound] at h
  split at h
  ·split at h
   ·cases h; omega
   ·cases h
  ·cases h
theorem run_sliceAt_slice {t e : TypeId} (h : T.td t = .slice e) (x : Value) (lo hi mx : Option Value) : (Instr.sliceAt t x lo hi mx).run P w = (Instr.slice t x lo hi mx).run P w := by
 simp [Instr.sliceAt, run_und ok (slice_of ok h)]
theorem run_sliceAt_str {t : TypeId} (h : T.td t = .str) (x : Value) (lo hi mx : Option Value) : (Instr.sliceAt t x lo hi mx).run P w = (Instr.slice t x lo hi mx).run P w := by
 simp [Instr.sliceAt, run_und ok (str_of ok h)]
theorem run_slice_of {t e : TypeId} (h : T.td t = .slice e) (he : isOther T e = false) {a : Option Addr} {len cap l hh m : Nat} {lo hi mx : Option Value} (hb : (Instr.sliceBounds true len cap lo hi mx).run P w = .ok (l, hh, m) w) :
  (Instr.sliceAt t (.slice a len cap) lo hi mx).run P w = .ok (.slice (if m = l then a else a.map (·.add (l * T.size e))) (hh - l) (m - l)) w := by
 rw [run_sliceAt_slice ok h]
 simp [Instr.slice, run_und ok (slice_of ok h), hb, run_size ok he]
omit ok in
theorem bounds_ok2 {lo : Option V} {lv : Option Value} {v : V} {u : Value} {n len y cap hh l : Nat} (hhi : bound v y = some hh) (hlo : lowOf lo hh = some l)
  (r1 : relO ι n lo lv) (r2 : v.rel ι n u) (hc : y ≤ cap) (b : Bool) : l ≤ hh ∧ hh ≤ y ∧ ∀ w, (Instr.sliceBounds b len cap lv (some u) none).run P w = .ok (l, hh, cap) w := by
 have low : l ≤ hh ∧ ((lv = none ∧ l = 0) ∨ ∃ u, lv = some u ∧ ∀ (c : BoundsCode) (w : World), (Instr.sliceBound u hh c).run P w = .ok l w) := by
  cases lo with
  | none =>
   cases lv with
   | none => simp only [lowOf, Option.some.injEq] at hlo; subst hlo; exact ⟨Nat.zero_le _, .inl ⟨rfl, rfl⟩⟩
   | some v => cases r1
  | some v =>
   cases lv with
   | none => cases r1
   | some u =>
    obtain ⟨h1, h2⟩ := bound_ok (P := P) hlo r1
    exact ⟨h1, .inr ⟨u, rfl, fun c w => h2 _ c w (Nat.le_refl _)⟩⟩
 obtain ⟨h1, h2⟩ := bound_ok (P := P) hhi r2
 have h3 := fun (c : BoundsCode) (w : World) => h2 _ c w hc
 refine ⟨low.1, h1, fun w => ?_⟩
 unfold Instr.sliceBounds
 rcases low.2 with ⟨rfl, rfl⟩ | ⟨u, rfl, hl⟩ <;>
  simp only [Sem.run_bind, Sem.run_pure, Result.andThen_ok, *]
theorem beyond_ok {t e : TypeId} {id i len : Nat} {cap : Option Nat} {v : V} {lo hi : Option V} {lv hv : Option Value} (hs : T.td t = .slice e) (hc2 : isOther T e = false) (h : beyondA (T.size e) st.h id i cap lo hi = some v)
  (hbel : id < st.h.length) (r1 : relO ι st.h.length lo lv) (r2 : relO ι st.h.length hi hv) (hw : WRs B h0 ι0 w0 ι β γ st w) :
  v.ok st.h.length ∧ ∀ w, WRs B h0 ι0 w0 ι β γ st w → (Instr.sliceAt t (Cell.conc ι (.sl id i len cap)) lv hv none).run P w = .ok (v.conc ι) w := by
 unfold beyondA at h
 split at h
 ·rename_i hvv b hb
  cases hv with
  | none => cases r2
  | some hu =>
   obtain ⟨_, _, _, _, hes, _, _, hel, _⟩ := hw.hr.live id b hb
   split at h
   ·cases h
   ·rename_i hh hhh
    split at h
    ·cases h
    ·rename_i l hl
     split at h
     ·rename_i hcc
      obtain ⟨e1, e3⟩ := hcc
      cases h
      obtain ⟨b1, b2, b3⟩ := bounds_ok2 (P := P) (len := len) (cap := (ι id).cap - i) hhh hl r1 r2 (by omega) true
      refine ⟨hbel, fun w' _ => ?_⟩
      have := run_slice_of ok (w := w') hs hc2 (a := some ⟨(ι id).blk, (ι id).base + i * (ι id).es, none⟩) (b3 w')
      rw [if_neg (by omega)] at this
      rw [e1] at hes
      simp only [Option.map_some, addr_add, ← hes] at this
      rw [show (ι id).base + i * (ι id).es + l * (ι id).es = (ι id).base + (i + l) * (ι id).es by rw [Nat.add_mul]; omega, show (ι id).cap - i - l = (ι id).cap - (i + l) by omega] at this
      exact this
     ·cases h
 ·cases h
theorem three_ok {t e : TypeId} {id i len : Nat} {v : V} {lo hi mx : V} {lu hu mu : Value} (hs : T.td t = .slice e) (hc2 : isOther T e = false) (h : threeA (T.size e) st.h id i len lo hi mx = some v)
  (hbel : id < st.h.length) (r1 : lo.rel ι st.h.length lu) (r2 : hi.rel ι st.h.length hu) (r3 : mx.rel ι st.h.length mu) (hcap : ∀ w, WRs B h0 ι0 w0 ι β γ st w → len ≤ (ι id).cap - i) (hw : WRs B h0 ι0 w0 ι β γ st w) :
  v.ok st.h.length ∧ ∀ w, WRs B h0 ι0 w0 ι β γ st w → (Instr.sliceAt t (Cell.conc ι (.sl id i len none)) (some lu) (some hu) (some mu)).run P w = .ok (v.conc ι) w := by
 unfold threeA at h
 split at h
 ·rename_i m b hm hb
  obtain ⟨_, _, _, _, hes, _, _, hel, _⟩ := hw.hr.live id b hb
  split at h
  ·cases h
  ·rename_i hh hhh
   split at h
   ·cases h
   ·rename_i l hl
    split at h
    ·rename_i hcc
     obtain ⟨e1, e2⟩ := hcc
     cases h
     obtain ⟨hm1, hm2⟩ := bound_ok (P := P) hm r3
     obtain ⟨hh1, hh2⟩ := bound_ok (P := P) hhh r2
     obtain ⟨hl1, hl2⟩ := bound_ok (P := P) hl r1
     refine ⟨hbel, fun w' hw' => ?_⟩
     have hb : (Instr.sliceBounds true len ((ι id).cap - i) (some lu) (some hu) (some mu)).run P w' = .ok (l, hh, m) w' := by
      unfold Instr.sliceBounds
      simp only [Sem.run_bind, Sem.run_pure, Result.andThen_ok, hm2 _ _ w' (hcap w' hw'), hh2 _ _ w' (Nat.le_refl _), hl2 _ _ w' (Nat.le_refl _)]
     have := run_slice_of ok (w := w') hs hc2 (a := some ⟨(ι id).blk, (ι id).base + i * (ι id).es, none⟩) hb
     rw [if_neg (by omega)] at this
     rw [e1] at hes
     simp only [Option.map_some, addr_add, ← hes] at this
     rw [show (ι id).base + i * (ι id).es + l * (ι id).es = (ι id).base + (i + l) * (ι id).es by rw [Nat.add_mul]; omega] at this
     exact this
    ·cases h
 ·cases h
theorem slice_ok {t : TypeId} {x v : V} {lo hi mx : Option V} {u : Value} {lv hv mv : Option Value} (h : sliceA T st.h t x lo hi mx = some v) (hx : x.rel ι st.h.length u)
  (r1 : relO ι st.h.length lo lv) (r2 : relO ι st.h.length hi hv) (r3 : relO ι st.h.length mx mv) (hw : WRs B h0 ι0 w0 ι β γ st w) :
  v.ok st.h.length ∧ ∀ w, WRs B h0 ι0 w0 ι β γ st w → (Instr.sliceAt t u lv hv mv).run P w = .ok (v.conc ι) w := by
 unfold sliceA at h
 split at h
 · -- a string
  rename_i s hs
  obtain ⟨rfl, _⟩ := V.rel_c hx
  cases mx with
  | some _ => simp at h
  | none =>
   cases mv with
   | some _ => cases r3
   | none =>
    simp only at h
    split at h
    ·cases h
    ·rename_i hh hhi
     split at h
     ·cases h
     ·rename_i l hl
      cases h
      obtain ⟨_, _, hb⟩ := bounds_ok (P := P) hhi hl r1 r2 (Nat.le_refl s.size) false
      refine ⟨trivial, fun w _ => ?_⟩
      rw [run_sliceAt_str ok hs]
      simp [Instr.slice, run_und ok (str_of ok hs), Cell.conc, hb w, V.conc, V.conc1]
 · -- a slice
  rename_i e id i len cap hs
  obtain ⟨rfl, hbel⟩ := V.rel_c hx
  split at h
  ·cases h
  ·rename_i hc
   have hc1 : capOk st.h id i len cap = true := by
    cases hq : capOk st.h id i len cap
    ·exact absurd (.inl hq) hc
    ·rfl
   have hc2 : isOther T e = false := by
    cases hq : isOther T e
    ·rfl
    ·exact absurd (.inr hq) hc
   have hcap : ∀ w, WRs B h0 ι0 w0 ι β γ st w → len ≤ (match cap with | some c => c | none => (ι id).cap - i) := fun w hw => by
    cases cap with
    | some c => simpa [capOk] using hc1
    | none =>
     simp only [capOk] at hc1
     split at hc1
     ·rename_i b hb
      obtain ⟨_, _, _, _, _, _, _, hel, _⟩ := hw.hr.live id b hb
      simp only [decide_eq_true_eq] at hc1
      simp only []
      omega
     ·cases hc1
   cases mx with
   | none =>
    cases mv with
    | some _ => cases r3
    | none =>
     simp only at h
     split at h
     ·exact beyond_ok ok hs hc2 h hbel r1 r2 hw
     ·rename_i hh hhi
      split at h
      ·cases h
      ·rename_i l hl
       obtain ⟨hle1, hle2, hb⟩ := bounds_ok (P := P) hhi hl r1 r2 (hcap w hw) true
       have hrun := fun w' => run_slice_of ok (w := w') hs hc2 (a := some ⟨(ι id).blk, (ι id).base + i * (ι id).es, none⟩) (hb w')
       unfold cutA at h
       cases cap with
       | some c =>
        simp only at h
        split at h
        ·rename_i h0; cases h; subst h0
         refine ⟨hbel, fun w' _ => ?_⟩
         have := hrun w'
         simp only [Nat.zero_mul, Option.map_some, addr_add, Nat.add_zero, ite_self, Nat.sub_zero] at this
         exact this
        ·cases h
       | none =>
        simp only at h
        split at h
        ·rename_i h0; cases h; subst h0
         refine ⟨hbel, fun w' _ => ?_⟩
         have := hrun w'
         simp only [Nat.zero_mul, Option.map_some, addr_add, Nat.add_zero, ite_self, Nat.sub_zero] at this
         exact this
        ·rename_i hl0
         split at h
         ·cases h
         ·rename_i b hb'
          obtain ⟨_, _, _, _, hes, _, _, hel, _⟩ := hw.hr.live id b hb'
          split at h
          ·rename_i hes'
           rw [hes'] at hes
           split at h
           ·rename_i hlt; cases h
            refine ⟨hbel, fun w' _ => ?_⟩
            have := hrun w'
            simp only at this
            rw [if_neg (by omega)] at this
            simp only [Option.map_some, addr_add, ← hes] at this
            rw [show (ι id).base + i * (ι id).es + l * (ι id).es = (ι id).base + (i + l) * (ι id).es by rw [Nat.add_mul]; omega, show (ι id).cap - i - l = (ι id).cap - (i + l) by omega] at this
            exact this
           ·split at h
            ·rename_i hlt heq; cases h
             obtain ⟨rfl, rfl⟩ := heq
             refine ⟨hbel, fun w' _ => ?_⟩
             have := hrun w'
             simp only at this
             have hcl := hcap w hw
             simp only at hcl
             simp only [V.conc, V.conc1, Cell.conc]
             by_cases e : i + l = (ι id).cap
             ·rw [if_pos e]
              rw [if_pos (by omega)] at this
              rw [this]; simp; omega
             ·rw [if_neg e]
              rw [if_neg (by omega)] at this
              simp only [Option.map_some, addr_add, ← hes] at this
              rw [this, show (ι id).base + i * (ι id).es + l * (ι id).es = (ι id).base + (i + l) * (ι id).es by rw [Nat.add_mul]; omega, show (ι id).cap - i - l = (ι id).cap - (i + l) by omega, Nat.sub_self]
            ·cases h
          ·cases h
   | some mvv =>
    cases mv with
    | none => cases r3
    | some mu =>
     cases hi with
     | none => simp at h
     | some hvv =>
      cases lo with
      | some lvv =>
       cases cap with
       | some _ => simp at h
       | none =>
        cases hv with
        | none => cases r2
        | some hu =>
         cases lv with
         | none => cases r1
         | some lu => exact three_ok ok hs hc2 h hbel r1 r2 r3 hcap hw
      | none =>
       cases cap with
       | some _ => simp at h
       | none =>
        cases hv with
        | none => cases r2
        | some hu =>
         cases lv with
         | some _ => cases r1
         | none =>
          simp only at h
          split at h
          ·cases h
          ·rename_i m hm
           split at h
           ·cases h
           ·rename_i hh hhh
            cases h
            obtain ⟨hm1, hm2⟩ := bound_ok (P := P) hm r3
            obtain ⟨hh1, hh2⟩ := bound_ok (P := P) hhh r2
            refine ⟨hbel, fun w' hw' => ?_⟩
            have hb : (Instr.sliceBounds true len ((ι id).cap - i) none (some hu) (some mu)).run P w' = .ok (0, hh, m) w' := by
             unfold Instr.sliceBounds
             simp only [Sem.run_bind, Sem.run_pure, Result.andThen_ok, hm2 _ _ w' (hcap w' hw'), hh2 _ _ w' (Nat.le_refl _)]
            have := run_slice_of ok (w := w') hs hc2 (a := some ⟨(ι id).blk, (ι id).base + i * (ι id).es, none⟩) hb
            simp only [Nat.zero_mul, Option.map_some, addr_add, Nat.add_zero, ite_self, Nat.sub_zero] at this
            exact this
 · -- an empty tail
  rename_i e id i l hs
  obtain ⟨rfl, hbel⟩ := V.rel_c hx
  split at h
  ·cases h
  ·rename_i he
   simp only [Bool.not_eq_true] at he
   cases mx with
   | some _ => simp at h
   | none =>
    cases mv with
    | some _ => cases r3
    | none =>
     simp only at h
     split at h
     ·cases h
     ·rename_i hh hhi
      split at h
      ·cases h
      ·rename_i l' hl
       cases h
       obtain rfl := bound_zero hhi
       refine ⟨hbel, fun w' _ => ?_⟩
       simp only [V.conc, V.conc1, Cell.conc]
       split
       ·obtain ⟨h1, h2, hb⟩ := bounds_ok (P := P) (cap := 0) hhi hl r1 r2 (Nat.le_refl _) true
        have := run_slice_of ok (w := w') hs he (a := some ⟨(ι id).blk, (ι id).base + i * (ι id).es, none⟩) (hb w')
        obtain rfl : l' = 0 := by omega
        simpa using this
       ·obtain ⟨h1, h2, hb⟩ := bounds_ok (P := P) (cap := (ι id).cap - (i + l)) hhi hl r1 r2 (Nat.zero_le _) true
        have := run_slice_of ok (w := w') hs he (a := some ⟨(ι id).blk, (ι id).base + (i + l) * (ι id).es, none⟩) (hb w')
        obtain rfl : l' = 0 := by omega
        simp only [Nat.zero_mul, Option.map_some, addr_add, Nat.add_zero, ite_self, Nat.sub_zero] at this
        exact this
 ·rename_i e hs
  obtain ⟨rfl, hbel⟩ := V.rel_c hx
  split at h
  ·cases h
  ·rename_i he
   simp only [Bool.not_eq_true] at he
   cases mx with
   | some _ => simp at h
   | none =>
    cases mv with
    | some _ => cases r3
    | none =>
     simp only at h
     split at h
     ·cases h
     ·rename_i hh hhi
      split at h
      ·cases h
      ·rename_i l' hl
       cases h
       obtain rfl := bound_zero hhi
       refine ⟨hbel, fun w' _ => ?_⟩
       obtain ⟨h1, h2, hb⟩ := bounds_ok (P := P) (cap := 0) hhi hl r1 r2 (Nat.le_refl _) true
       have := run_slice_of ok (w := w') hs he (a := none) (hb w')
       obtain rfl : l' = 0 := by omega
       simp only [ite_self, Option.map_none, Nat.sub_zero] at this
       exact this
 ·cases h
end
end Go.AM

/-
 THE ABSTRACT MACHINE, 6: every operation that only reads or reckons, under one theorem.
-/
namespace Go.AM
section
variable {T : TT} {P : Program} (ok : T.Ok P)
variable {B : Nat} {h0 : H} {ι0 : Plan} {w0 : World} {ι : Plan} {β γ : Nat → Nat} {nt : Nat} {st : St} {a : Act} {w : World}
include ok
omit ok in
theorem relO_map (her : ER nt ι β γ st.h.length st.bx st.its st.env a) (x : Option Operand) : relO ι st.h.length (x.map st.val) (x.map a.eval) := by
 cases x with
 | none => trivial
 | some x => exact her.val x
omit ok in
theorem fill_one (cs : List Value) : ∀ (k : Nat) (off : Nat) (acc : Array Value), off + k + cs.length ≤ acc.size →
  (cs.zipIdx k).foldl (fun (A : Array Value) (p : Value × Nat) => A.setIfInBounds (off + p.2) p.1) acc = (acc.toList.take (off + k) ++ cs ++ acc.toList.drop (off + k + cs.length)).toArray := by
 induction cs with
 | nil => intro k off acc _; simp
 | cons c cs ih =>
  intro k off acc h
  rw [List.zipIdx_cons, List.foldl_cons, ih (k + 1) off _ (by simp at h ⊢; omega)]
  congr 1
  simp only [List.length_cons] at h
  simp only [Array.toList_setIfInBounds]
  apply List.ext_getElem?
  intro j
  simp only [List.getElem?_append, List.length_append, List.length_take, List.length_set, Array.length_toList, List.length_cons]
  have e1 : min (off + (k + 1)) acc.size = off + k + 1 := by omega
  have e2 : min (off + k) acc.size = off + k := by omega
  rw [e1, e2]
  by_cases h1 : j < off + k
  ·simp [h1, show j < off + k + 1 by omega, show j < off + (k + 1) by omega, show j < off + k + cs.length by omega, show j < off + k + 1 + cs.length by omega, show j < off + k + (cs.length + 1) by omega,
    List.getElem?_take, List.getElem?_set, show off + k ≠ j by omega]
  ·by_cases h2 : j = off + k
   ·subst h2
    simp [List.getElem?_take, show off + k < off + (k + 1) by omega, show off + k < acc.size by omega, show off + k < off + k + 1 + cs.length by omega]
   ·by_cases h3 : j < off + k + (cs.length + 1)
    ·rw [if_pos (by omega), if_neg (by omega), if_pos (by omega), if_neg (by omega)]
     rw [show j - (off + k) = (j - (off + k + 1)) + 1 by omega, List.getElem?_cons_succ]
    ·rw [if_neg (by omega), if_neg (by omega)]
     simp only [List.getElem?_drop]
     rw [List.getElem?_set_ne (by omega)]
     congr 1; omega
omit ok in
theorem splice_length {e : List Cell} {k : Nat} {cs : List Cell} (h : k + cs.length ≤ e.length) : (splice e k cs).length = e.length := by
 simp [splice]; omega
omit ok in
theorem splice_below {e : List Cell} {k : Nat} {cs : List Cell} {n : Nat} (h1 : ∀ x ∈ e, x.below n) (h2 : ∀ x ∈ cs, x.below n) : ∀ x ∈ splice e k cs, x.below n := by
 intro x hx
 simp only [splice, List.mem_append] at hx
 rcases hx with (hx | hx) | hx
 ·exact h1 x (List.mem_of_mem_take hx)
 ·exact h2 x hx
 ·exact h1 x (List.mem_of_mem_drop hx)
omit ok in
theorem splice_map {e : List Cell} {k : Nat} {cs : List Cell} (f : Cell → Value) : (splice e k cs).map f = (e.map f).take k ++ cs.map f ++ (e.map f).drop (k + cs.length) := by
 simp [splice, List.map_take, List.map_drop]
omit ok in
theorem conc_one (x : Cell) : (x.conc ι).oneCell' = true := by
 cases x <;> simp only [Cell.conc, ptrV] <;> (try split) <;> rfl
omit ok in
theorem one_cells {v : Value} (h : v.oneCell' = true) : v.cells = #[v] := by cases v <;> first | rfl | cases h
omit ok in
theorem V.cells_rel {v : V} {cs : List Cell} {u : Value} {n : Nat} (h : v.cells = some cs) (hr : v.rel ι n u) : u.cells = (cs.map (Cell.conc ι)).toArray ∧ ∀ x ∈ cs, x.below n := by
 cases v with
 | c x =>
  cases h
  obtain ⟨rfl, hb⟩ := V.rel_c hr
  refine ⟨?_, by simpa using hb⟩
  rw [one_cells (conc_one x)]; rfl
 | g xs => cases h; obtain ⟨rfl, hb⟩ := V.rel_g hr; exact ⟨rfl, hb⟩
 | t _ => cases h
 | u => cases h
theorem fill_ok {fs : List (TypeId × Nat)} {n : Nat} (hfs : ∀ x ∈ fs, isOther T x.1 = false) : ∀ (ps : List (Nat × V)) (us : List (Nat × Value)) (acc r : List Cell), fillF T fs ps acc = some r →
  (∀ x ∈ acc, x.below n) → ps.length = us.length → (∀ (j i : Nat) (v : V), ps[j]? = some (i, v) → ∃ u, us[j]? = some (i, u) ∧ v.rel ι n u) →
  (∀ x ∈ r, x.below n) ∧ Instr.fill (fun i => (fs[i]?).map fun x => (x.2, T.size x.1)) (acc.map (Cell.conc ι)).toArray us = some (r.map (Cell.conc ι)).toArray
 | [], us, acc, r, h, hb, hl, _ => by
  have : us = [] := by cases us <;> simp_all
  subst this
  simp only [fillF, Option.some.injEq] at h; subst h
  exact ⟨hb, rfl⟩
 | (i, v) :: ps, us, acc, r, h, hb, hl, hrel => by
  cases us with
  | nil => simp at hl
  | cons q us =>
   obtain ⟨u, hu, hvr⟩ := hrel 0 i v rfl
   simp only [List.getElem?_cons_zero, Option.some.injEq] at hu
   subst hu
   simp only [fillF] at h
   split at h
   ·rename_i t off cs hf hc
    split at h
    ·rename_i hsz
     obtain ⟨hcells, hcb⟩ := V.cells_rel hc hvr
     have ih := fill_ok hfs ps us (splice acc off cs) r h (splice_below hb hcb) (by simpa using hl) (fun j i' v' hj => hrel (j + 1) i' v' (by simpa using hj))
     refine ⟨ih.1, ?_⟩
     rw [← ih.2]
     simp only [Instr.fill, hf, Option.map_some, hcells]
     rw [if_neg (by simp; omega)]
     congr 1
     have := fill_one (cs.map (Cell.conc ι)) 0 off (acc.map (Cell.conc ι)).toArray (by simp; omega)
     simp only [Array.toList_map, List.toList_toArray, Nat.add_zero, List.length_map] at this
     rw [splice_map, ← this]
     simp [← Array.foldl_toList]
    ·cases h
   ·cases h
theorem places_ok {t : TypeId} {fs : List (TypeId × Nat)} (h : T.td t = .struct fs) : ∃ fields : Array Field, P.underlying t = some (.struct fields) ∧
  (∀ w, (fields.mapM fun f => do pure (f.offset, ← sizeOf f.type) : Sem (Array (Nat × Nat))).run P w = .ok (fs.map fun x => (x.2, T.size x.1)).toArray w) := by
 obtain ⟨fields, hu, hf, ho⟩ := fields_of ok h
 refine ⟨fields, hu, fun w => ?_⟩
 subst hf
 have : ∀ l : List Field, (∀ x ∈ l.map (fun f => (f.type, f.offset)), isOther T x.1 = false) →
   (l.mapM fun f => do pure (f.offset, ← sizeOf f.type) : Sem (List (Nat × Nat))).run P w = .ok ((l.map fun f => (f.type, f.offset)).map fun x => (x.2, T.size x.1)) w := by
  intro l
  induction l with
  | nil => intro _; rfl
  | cons f l ih =>
   intro h
   have h1 := run_size ok (h (f.type, f.offset) (by simp)) w
   have h2 := ih (fun x hx => h x (by simp at hx ⊢; exact .inr hx))
   simp only [List.mapM_cons, Sem.run_bind, h1, Result.andThen_ok, Sem.run_pure, h2, List.map_cons]
 rw [Array.mapM_eq_mapM_toList]
 have := this fields.toList ho
 simp only [Sem.run_map, this, Result.andThen_ok]
theorem reads_op {call : CallF} {esc : List Tmp} {o : Oper} {st' : St} (her : ER nt ι β γ st.h.length st.bx st.its st.env a) (hw : WRs B h0 ι0 w0 ι β γ st w)
  (h : evalOp T call esc o st = some st') (hq : readOp o.op = true) : Reads P B h0 ι0 w0 ι β γ st a o st' := by
 obtain ⟨dst, op, type, pos, after, guard⟩ := o
 cases op <;> simp only [readOp, Bool.false_eq_true] at hq <;> simp only [evalOp] at h
 case move x => cases h; exact Reads.val (her.val x) fun w _ => by simp [execOp]
 case assign x => cases h; exact Reads.val (her.val x) fun w _ => by simp [execOp]
 case pick c x y =>
  have hc := her.val c
  split at h
  ·rename_i r hr
   cases h
   rw [hr] at hc
   obtain ⟨hc, _⟩ := V.rel_c hc
   refine Reads.val (o := ⟨dst, .pick c x y, type, pos, after, guard⟩) (x := if r then a.eval x else a.eval y) ?_ fun w _ => ?_
   ·cases r <;> simp only [Bool.false_eq_true, ↓reduceIte] <;> exact her.val _
   ·simp [execOp, hc, Cell.conc, asBool]
  ·cases h
 case load t x =>
  obtain ⟨v, hv, rfl⟩ := Option.map_eq_some_iff.1 h
  obtain ⟨h1, h2⟩ := load_ok ok her hw hv
  exact Reads.val (o := ⟨dst, .load t x, type, pos, after, guard⟩) h1 fun w hw' => bind_value (h2 w hw')
 case nilCheck x =>
  have hx := her.val x
  split at h
  ·rename_i id i k hr
   cases h
   rw [hr] at hx
   refine Reads.val (o := ⟨dst, .nilCheck x, type, pos, after, guard⟩) hx fun w _ => ?_
   obtain ⟨hx, _⟩ := V.rel_c hx
   simp [execOp, hx, Cell.conc, ptrV]
  ·cases h
 case binOp op t x y yt =>
  obtain ⟨v, hv, rfl⟩ := Option.map_eq_some_iff.1 h
  have := fun w (hw' : WRs B h0 ι0 w0 ι β γ st w) => bin_ok ok (w := w) hv (X := x) (Y := y) (her.val x) (her.val y) hw'
  exact Reads.val (o := ⟨dst, .binOp op t x y yt, type, pos, after, guard⟩) (V.rel_mk rfl (this w hw).1) fun w hw' => bind_value (this w hw').2
 case unOp op t x =>
  obtain ⟨v, hv, rfl⟩ := Option.map_eq_some_iff.1 h
  obtain ⟨h1, h2⟩ := un_ok (P := P) hv (her.val x)
  exact Reads.val (o := ⟨dst, .unOp op t x, type, pos, after, guard⟩) (V.rel_mk rfl h1) fun w hw' => bind_value (h2 w)
 case convert src dt x =>
  obtain ⟨v, hv, rfl⟩ := Option.map_eq_some_iff.1 h
  have := fun w (hw' : WRs B h0 ι0 w0 ι β γ st w) => conv_ok ok (w := w) hv (her.val x) hw'
  exact Reads.val (o := ⟨dst, .convert src dt x, type, pos, after, guard⟩) (V.rel_mk rfl (this w hw).1) fun w hw' => bind_value (this w hw').2
 case makeFunc fn first caps =>
  cases fn <;> simp only at h <;> (try cases h; done)
  rename_i f
  split at h
  ·rename_i hemp
   obtain ⟨l, hl, rfl⟩ := Option.map_eq_some_iff.1 h
   have key : ∀ (xs : List Operand) (l : List (Nat × Nat × Nat)), ptrsOf (xs.map st.val) = some l → xs.map a.eval = l.map (ptrV ι) ∧ ∀ x ∈ l, x.1 < st.h.length := by
    intro xs
    induction xs with
    | nil => intro l h; simp [ptrsOf] at h; subst h; exact ⟨rfl, by simp⟩
    | cons x xs ih =>
     intro l h
     simp only [List.map_cons] at h
     unfold ptrsOf at h
     split at h
     ·rename_i heq; cases heq
     ·rename_i id i k r heq
      injection heq with e1 e2
      split at h
      ·rename_i l' hl'
       cases h
       rw [← e2] at hl'
       obtain ⟨h1, h2⟩ := ih _ hl'
       have hx := her.val x
       rw [e1] at hx
       obtain ⟨hx, hb⟩ := V.rel_c hx
       refine ⟨by rw [List.map_cons, List.map_cons, h1, hx]; rfl, fun y hy => ?_⟩
       rcases List.mem_cons.1 hy with rfl | hy
       ·exact hb
       ·exact h2 y hy
      ·cases h
     ·cases h
   obtain ⟨h1, h2⟩ := key _ _ hl
   have he : first = #[] := by simpa [Array.isEmpty_iff] using hemp
   subst he
   refine Reads.val (o := ⟨dst, .makeFunc (.func f) #[] caps, type, pos, after, guard⟩) (v := .c (.fn f l)) (V.rel_mk rfl h2) fun w _ => ?_
   have hc : caps.map a.eval = (l.map (ptrV ι)).toArray := by
    rw [← h1]; apply Array.ext'; simp
   simp [execOp, Instr.makeFunc, hc, V.conc, V.conc1, Cell.conc]
  ·cases h
 case slice t x lo hi mx =>
  obtain ⟨v, hv, rfl⟩ := Option.map_eq_some_iff.1 h
  obtain ⟨h1, h2⟩ := slice_ok ok hv (her.val x) (relO_map her lo) (relO_map her hi) (relO_map her mx) hw
  exact Reads.val (o := ⟨dst, .slice t x lo hi mx, type, pos, after, guard⟩) (V.rel_mk rfl h1) fun w hw' => bind_value (h2 w hw')
 case fieldAddr s x f =>
  split at h
  ·rename_i fs hs
   split at h
   ·cases h
   ·rename_i t off hf
    obtain ⟨fields, hu, hfs, ho⟩ := fields_of ok hs
    obtain ⟨F, hF, hFt, hFo⟩ := field_at hfs hf
    have hoth := ho (t, off) (List.mem_of_getElem? hf)
    have hpos : T.size t ≠ 0 := by obtain ⟨_, _, _, _, hp, _⟩ := ok.inf t hoth; omega
    have hrun : ∀ (g k : Nat) (w : World), a.eval x = .pointer (some ⟨g, k, none⟩) → (Instr.fieldAt s (a.eval x) f).run P w = .ok (.pointer (some ⟨g, k + off, none⟩)) w := by
     intro g k w he
     have hsz : (sizeOf F.type).run P w = .ok (T.size t) w := by rw [hFt]; exact run_size ok hoth w
     simp [Instr.fieldAt, run_und ok hu, hF, he, Instr.sureAddr, fieldPlace, hsz, hpos, hFo, addr_add]
    have hsl := her.slotOf x
    split at h
    ·rename_i b k hb
     cases h
     rw [hb] at hsl
     refine ⟨_, .pointer (some ⟨β b, k + off, none⟩), rfl, fun d _ => ⟨rfl, hsl.2⟩, fun w _ => ?_⟩
     exact bind_value (hrun _ _ w hsl.1)
    ·rename_i id i k hb
     cases h
     rw [hb] at hsl
     obtain ⟨h1, h2⟩ := V.rel_c hsl
     refine Reads.val (o := ⟨dst, .fieldAddr s x f, type, pos, after, guard⟩) (V.rel_mk rfl h2) fun w _ => bind_value ?_
     rw [hrun _ _ w h1]
     simp [V.conc, V.conc1, Cell.conc, ptrV, Nat.add_assoc]
    ·cases h
  ·cases h
 case field s x f =>
  split at h
  ·rename_i fs cs hs hx
   split at h
   ·cases h
   ·rename_i t off hf
    split at h
    ·rename_i hle
     obtain ⟨v, hv, rfl⟩ := Option.map_eq_some_iff.1 h
     obtain ⟨fields, hu, hfs, ho⟩ := fields_of ok hs
     obtain ⟨F, hF, hFt, hFo⟩ := field_at hfs hf
     have hxr := her.val x
     rw [hx] at hxr
     obtain ⟨hx1, hx2⟩ := V.rel_g hxr
     obtain ⟨hoth, h2⟩ := asV_some hv
     have hvok : v.ok st.h.length := by
      rcases h2 with ⟨_, rfl⟩ | ⟨_, y, hy, rfl⟩
      ·exact fun y hy => hx2 y (mem_take_drop hy)
      ·exact hx2 y (mem_take_drop (by rw [hy]; simp))
     refine Reads.val (o := ⟨dst, .field s x f, type, pos, after, guard⟩) (V.rel_mk rfl hvok) fun w _ => bind_value ?_
     have hagg := run_isAgg ok hoth w
     have hsz := run_size ok hoth w
     simp only [Instr.field, Sem.run_bind, run_und ok hu, Result.andThen_ok, hF, hx1, asAgg, Sem.run_pure, part, hFt, hFo, hagg]
     rcases h2 with ⟨hst, rfl⟩ | ⟨hst, y, hy, rfl⟩
     ·rw [hst]
      simp only [↓reduceIte, Sem.run_bind, hsz, Result.andThen_ok, Sem.run_pure, V.conc, V.conc1]
      congr 2
      apply Array.ext'
      simp [List.map_take, List.map_drop, List.extract_eq_take_drop]
     ·rw [hst]
      have : cs[off]? = some y := by
       have h1 : ((cs.drop off).take (T.size t))[0]? = some y := by rw [hy]; rfl
       simpa using (getElem?_take_drop h1).1
      simp [this, V.conc, V.conc1]
    ·cases h
  ·cases h
 case indexAddr t x ix =>
  split at h
  ·rename_i e id i len cap k n ht hx hi
   split at h
   ·rename_i hn
    split at h
    ·rename_i b hb
     split at h
     ·rename_i hes
      cases h
      have hxr := her.val x
      have hir := her.val ix
      rw [hx] at hxr; rw [hi] at hir
      obtain ⟨hx1, hx2⟩ := V.rel_c hxr
      obtain ⟨hi1, _⟩ := V.rel_c hir
      obtain ⟨_, _, _, _, hes', _⟩ := hw.hr.live id b hb
      obtain ⟨hes1, hes2⟩ := hes
      have hu := slice_of ok ht
      refine Reads.val (o := ⟨dst, .indexAddr t x ix, type, pos, after, guard⟩) (V.rel_mk rfl hx2) fun w _ => bind_value ?_
      have hsz := run_size ok hes2 w
      simp only [Instr.indexAt, hi1, hx1, Cell.conc, asIntOf, Sem.run_bind, Sem.run_pure, Result.andThen_ok, run_und ok hu, Sem.run_ite]
      rw [if_pos hn, hsz]
      simp only [Result.andThen_ok, Sem.run_pure, addr_add, V.conc, V.conc1, Cell.conc, ptrV, Nat.add_zero, ← hes1, ← hes', Nat.add_mul]
      rw [Nat.add_assoc]
     ·cases h
    ·cases h
   ·cases h
  ·cases h
 case index t x ix =>
  split at h
  ·rename_i s k n ht hx hi
   split at h
   ·rename_i h0'
    split at h
    ·rename_i b hb
     cases h
     have hxr := her.val x
     have hir := her.val ix
     rw [hx] at hxr; rw [hi] at hir
     obtain ⟨hx1, hx2⟩ := V.rel_c hxr
     obtain ⟨hi1, _⟩ := V.rel_c hir
     refine Reads.val (o := ⟨dst, .index t x ix, type, pos, after, guard⟩) (v := .c (.int .u8 b.toNat)) (V.rel_mk rfl trivial) fun w _ => bind_value ?_
     simp [Instr.index, hi1, hx1, Cell.conc, asIntOf, run_und ok (str_of ok ht), h0', hb, V.conc, V.conc1]
    ·cases h
   ·cases h
  ·cases h
 case extract x ix =>
  split at h
  ·rename_i vs hx
   obtain ⟨v, hv, rfl⟩ := Option.map_eq_some_iff.1 h
   have hxr := her.val x
   rw [hx] at hxr
   obtain ⟨hx1, hx2⟩ := hxr
   have hvo := hx2 v (List.mem_of_getElem? hv)
   have e : v.conc1 ι = v.conc ι ∧ v.ok st.h.length := by cases v <;> first | exact ⟨rfl, hvo⟩ | exact hvo.elim
   refine Reads.val (o := ⟨dst, .extract x ix, type, pos, after, guard⟩) (V.rel_mk rfl e.2) fun w _ => bind_value ?_
   rw [← e.1]; simp [hx1, V.conc, Instr.extract, hv]
  ·cases h
 case build t ps =>
  split at h
  ·rename_i fs ht
   split at h
   ·rename_i cs hcs
    cases h
    obtain ⟨i, z, hinf, _, _, hz, hzc, _, _, hfl⟩ := ok.inf t (isOther_of ht (by simp))
    obtain ⟨fields, hu, hpl⟩ := places_ok ok ht
    obtain ⟨_, _, _, ho⟩ := fields_of ok ht
    obtain ⟨h1, h2⟩ := fill_ok ok (ι := ι) (n := st.h.length) ho _ (ps.toList.map fun p => (p.1, a.eval p.2)) _ _ hcs (fun x hx => Cell.flat_below (hfl x hx) _) (by simp) (fun j i v hj => by
     rw [List.getElem?_map] at hj ⊢
     cases hp : ps.toList[j]? with
     | none => simp [hp] at hj
     | some p =>
      simp only [hp, Option.map_some, Option.some.injEq, Prod.mk.injEq] at hj ⊢
      obtain ⟨rfl, rfl⟩ := hj
      exact ⟨_, ⟨rfl, rfl⟩, her.val p.2⟩)
    refine Reads.val (o := ⟨dst, .build t ps, type, pos, after, guard⟩) (v := .g cs) (V.rel_mk rfl h1) fun w _ => bind_value ?_
    have hpl := hpl w
    simp only [Instr.build, zeroValue, typeInfo, Sem.run_bind, run_program, Result.andThen_ok, hinf, Sem.run_pure, hz, run_und ok hu, hpl]
    have e : ∀ x : Nat, (fs.map fun x => (x.2, T.size x.1)).toArray[x]? = (fs[x]?).map fun x => (x.2, T.size x.1) := fun x => by simp
    have e2 : (ps.map fun x => (x.1, a.eval x.2)).toList = ps.toList.map fun p => (p.1, a.eval p.2) := by simp
    simp only [e, e2, hzc ι, h2]
    rfl
   ·cases h
  ·cases h
 case call cl =>
  obtain ⟨callee, args, argTypes⟩ := cl
  cases callee <;> simp only at hq
  case value f => cases hq
  case invoke r m => cases hq
  case builtin b =>
   cases b <;> simp only at hq <;> (try cases hq; done) <;> simp only at h
   case len =>
    split at h
    ·rename_i x d hx hd
     obtain ⟨n, hn, rfl⟩ := Option.map_eq_some_iff.1 h
     obtain ⟨xo, rfl, hxo⟩ : ∃ xo, args = #[xo] ∧ st.val xo = x := by
      obtain ⟨l⟩ := args
      match l, hx with
      | [xo], hx => exact ⟨xo, rfl, by simpa using hx⟩
     obtain ⟨t, rfl, htd⟩ : ∃ t, argTypes = #[t] ∧ T.td t = d := by
      obtain ⟨l⟩ := argTypes
      match l, hd with
      | [t], hd => exact ⟨t, rfl, by simpa using hd⟩
     have hxr := her.val xo
     rw [hxo] at hxr
     refine Reads.val (o := ⟨dst, .call ⟨.builtin .len, #[xo], #[t]⟩, type, pos, after, guard⟩) (v := .c (.int .i64 n)) (V.rel_mk rfl trivial) fun w _ => ?_
     have key : (Builtin.len_ #[t] type #[a.eval xo]).run P w = .ok (goInt n) w := by
      unfold lenA at hn
      split at hn
      ·cases hn; obtain ⟨h1, _⟩ := V.rel_c hxr; simp [Builtin.len_, run_und ok (str_of ok htd), h1, Cell.conc]
      ·cases hn; obtain ⟨h1, _⟩ := V.rel_c hxr; simp [Builtin.len_, run_und ok (slice_of ok htd), h1, Cell.conc]
      ·cases hn; obtain ⟨h1, _⟩ := V.rel_c hxr
       rw [h1]
       simp only [Cell.conc]
       split <;> simp [Builtin.len_, run_und ok (slice_of ok htd)]
      ·cases hn; obtain ⟨h1, _⟩ := V.rel_c hxr; simp [Builtin.len_, run_und ok (slice_of ok htd), h1, Cell.conc]
      ·cases hn; obtain ⟨h1, _⟩ := V.rel_c hxr; simp [Builtin.len_, run_und ok (slice_of ok htd), h1, Cell.conc]
      ·cases hn
     simp [execOp, resolve, invoke, Go.builtin, key, goInt, V.conc, V.conc1, Cell.conc]
    ·cases h
   case max =>
    split at h
    ·rename_i x y hx
     obtain ⟨v, hv, rfl⟩ := Option.map_eq_some_iff.1 h
     obtain ⟨xo, yo, rfl, hxo, hyo⟩ : ∃ xo yo, args = #[xo, yo] ∧ st.val xo = x ∧ st.val yo = y := by
      obtain ⟨l⟩ := args
      match l, hx with
      | [xo, yo], hx => simp at hx; exact ⟨xo, yo, rfl, hx.1, hx.2⟩
     have hxr := her.val xo
     have hyr := her.val yo
     rw [hxo] at hxr; rw [hyo] at hyr
     unfold mm at hv
     split at hv
     ·split at hv
      ·rename_i hk; subst hk; cases hv
       obtain ⟨h1, _⟩ := V.rel_c hxr
       obtain ⟨h2, _⟩ := V.rel_c hyr
       exact Reads.val (o := ⟨dst, .call ⟨.builtin .max, #[xo, yo], argTypes⟩, type, pos, after, guard⟩) (V.rel_mk rfl trivial) fun w _ => by
        simp [execOp, resolve, invoke, Go.builtin, Builtin.max_, Builtin.max2, h1, h2, Cell.conc, V.conc, V.conc1]
      ·cases hv
     ·cases hv
    ·cases h
   case min =>
    split at h
    ·rename_i x y hx
     obtain ⟨v, hv, rfl⟩ := Option.map_eq_some_iff.1 h
     obtain ⟨xo, yo, rfl, hxo, hyo⟩ : ∃ xo yo, args = #[xo, yo] ∧ st.val xo = x ∧ st.val yo = y := by
      obtain ⟨l⟩ := args
      match l, hx with
      | [xo, yo], hx => simp at hx; exact ⟨xo, yo, rfl, hx.1, hx.2⟩
     have hxr := her.val xo
     have hyr := her.val yo
     rw [hxo] at hxr; rw [hyo] at hyr
     unfold mm at hv
     split at hv
     ·split at hv
      ·rename_i hk; subst hk; cases hv
       obtain ⟨h1, _⟩ := V.rel_c hxr
       obtain ⟨h2, _⟩ := V.rel_c hyr
       exact Reads.val (o := ⟨dst, .call ⟨.builtin .min, #[xo, yo], argTypes⟩, type, pos, after, guard⟩) (V.rel_mk rfl trivial) fun w _ => by
        simp [execOp, resolve, invoke, Go.builtin, Builtin.min_, Builtin.min2, h1, h2, Cell.conc, V.conc, V.conc1]
      ·cases hv
     ·cases hv
    ·cases h
end
end Go.AM

/-
 THE ABSTRACT MACHINE, 7: how the relation stands a new block, a write, a block taken over, a box.
-/
namespace Go.AM
section
variable {B : Nat} {h0 : H} {ι0 : Plan} {w0 : World} {ι : Plan} {β γ : Nat → Nat} {nt : Nat} {h : H} {bx : List (Nat × List Cell)} {its : List (Nat × ByteArray × Nat)} {w : World}
def Plan.set (ι : Plan) (id : Nat) (p : Pl) : Plan := fun x => if x = id then p else ι x
theorem Plan.set_same (ι : Plan) (id : Nat) (p : Pl) : ι.set id p id = p := by simp [Plan.set]
theorem Plan.set_ne (ι : Plan) (id : Nat) (p : Pl) {x : Nat} (hx : x ≠ id) : ι.set id p x = ι x := by simp [Plan.set, hx]
theorem Plan.set_agree (ι : Plan) (id : Nat) (p : Pl) : Agree id ι (ι.set id p) := fun x hx => Plan.set_ne ι id p (by omega)
theorem WR.same (hw : WR B h0 ι0 w0 ι β γ h bx its w) {w' : World} (hh : w'.heap = w.heap) (ho : w'.os = w.os) (ht : w'.tape = w.tape) (hu : w'.output = w.output) : WR B h0 ι0 w0 ι β γ h bx its w' := by
 obtain ⟨hr, br, fr⟩ := hw
 refine ⟨⟨by rw [hh]; exact hr.size, fun id b hb => by rw [hh]; exact hr.live id b hb, hr.apart⟩, ⟨fun d cs hd => by rw [hh]; exact br.box d cs hd, br.bapart, br.away, fun d s p hd => by rw [hh]; exact br.it d s p hd, br.iapart⟩, ?_⟩
 exact ⟨ho.trans fr.os, ht.trans fr.tape, hu.trans fr.output, by rw [hh]; exact fr.size, fr.len, fr.agree, fun b hb hn => by rw [hh]; exact fr.keep b hb hn, fr.origin, fr.rofix⟩
theorem blk_lt (hw : WR B h0 ι0 w0 ι β γ h bx its w) {id : Nat} {b : Blk} (hb : h.get id = some b) : (ι id).blk < w.heap.size := by
 obtain ⟨cs, et, fz, hh, _⟩ := hw.hr.live id b hb
 exact (Array.getElem?_eq_some_iff.1 hh).1
theorem box_lt (hw : WR B h0 ι0 w0 ι β γ h bx its w) {d : Nat} {cs : List Cell} (hb : lk bx d = some cs) : β d < w.heap.size := by
 obtain ⟨⟨et, hh⟩, _⟩ := hw.br.box d cs hb
 exact (Array.getElem?_eq_some_iff.1 hh).1
theorem it_lt (hw : WR B h0 ι0 w0 ι β γ h bx its w) {d : Nat} {s : ByteArray} {p : Nat} (hb : lk its d = some (s, p)) : γ d < w.heap.size :=
 (Array.getElem?_eq_some_iff.1 (hw.br.it d s p hb).1).1
theorem blk_ne_it (hw : WR B h0 ι0 w0 ι β γ h bx its w) {id : Nat} {b : Blk} (hb : h.get id = some b) {d : Nat} {s : ByteArray} {p : Nat} (hi : lk its d = some (s, p)) : (ι id).blk ≠ γ d := by
 obtain ⟨cs, et, fz, hh, _⟩ := hw.hr.live id b hb
 intro e
 rw [e, (hw.br.it d s p hi).1] at hh; cases hh
theorem box_ne_it (hw : WR B h0 ι0 w0 ι β γ h bx its w) {d' : Nat} {cs : List Cell} (hb : lk bx d' = some cs) {d : Nat} {s : ByteArray} {p : Nat} (hi : lk its d = some (s, p)) : β d' ≠ γ d := by
 obtain ⟨⟨et, hh⟩, _⟩ := hw.br.box d' cs hb
 intro e
 rw [e, (hw.br.it d s p hi).1] at hh; cases hh
theorem WR.push (hw : WR B h0 ι0 w0 ι β γ h bx its w) {b : Blk} {cs : Array Value} {t : TypeId} {cap : Nat} (hro : b.ro = false) (hes : 0 < b.es) (hlen : ∀ e ∈ b.el, e.length = b.es)
  (hbel : ∀ e ∈ b.el, ∀ x ∈ e, x.below h.length) (hcap : b.el.length ≤ cap) (hsz : cap * b.es ≤ cs.size)
  (hc : ∀ (i : Nat) (e : List Cell) (k : Nat) (x : Cell), b.el[i]? = some e → e[k]? = some x → cs[i * b.es + k]? = some (x.conc ι)) :
  WR B h0 ι0 w0 (ι.set h.length ⟨w.heap.size, 0, cap, b.es, none⟩) β γ (h.push b) bx its (w.alloc (.cells cs t)) := by
 have hag : Agree h.length ι (ι.set h.length ⟨w.heap.size, 0, cap, b.es, none⟩) := Plan.set_agree _ _ _
 have old : ∀ id b', id ≠ h.length → (h.push b).get id = some b' → h.get id = some b' := fun id b' hne hg => by rw [H.get_push, if_neg hne] at hg; exact hg
 have hold : ∀ k, k < w.heap.size → (w.alloc (.cells cs t)).heap[k]? = w.heap[k]? := fun k hk => Go.RowKit.Below.heap_alloc w _ k hk
 constructor
 ·constructor
  ·have := hw.hr.size; simp; omega
  ·intro id b' hg
   by_cases e : id = h.length
   ·subst e
    rw [H.get_push, if_pos rfl] at hg
    cases hg
    rw [Plan.set_same]
    refine ⟨cs, t, (0, 0), heap_alloc_new w _, rfl, hes, hlen, hcap, by simpa using hsz, fun i e k x hi hk => ?_, fun _ => ⟨hw.hr.size, rfl⟩⟩
    have hb := hbel e (List.mem_of_getElem? hi) x (List.mem_of_getElem? hk)
    rw [Cell.conc_agree hag hb]
    exact ⟨by simpa using hc i e k x hi hk, Cell.below_mono (by simp [H.length_push]) hb⟩
   ·have hg' := old id b' e hg
    obtain ⟨cs', et, fz, hh, h1, h2, h3, h4, h5, h6, h7⟩ := hw.hr.live id b' hg'
    rw [Plan.set_ne _ _ _ e]
    refine ⟨cs', et, fz, by rw [hold _ (blk_lt hw hg')]; exact hh, h1, h2, h3, h4, h5, fun i e k x hi hk => ?_, h7⟩
    obtain ⟨h8, h9⟩ := h6 i e k x hi hk
    rw [Cell.conc_agree hag h9]
    exact ⟨h8, Cell.below_mono (by simp [H.length_push]) h9⟩
  ·intro id id' b1 b2 hne hg hg' hr
   by_cases e : id = h.length
   ·subst e
    rw [Plan.set_same, Plan.set_ne _ _ _ (Ne.symm hne)]
    have := blk_lt hw (old id' b2 (Ne.symm hne) hg')
    simp only; omega
   ·by_cases e' : id' = h.length
    ·subst e'
     rw [Plan.set_same, Plan.set_ne _ _ _ hne]
     have := blk_lt hw (old id b1 hne hg)
     simp only; omega
    ·rw [Plan.set_ne _ _ _ e, Plan.set_ne _ _ _ e']
     exact hw.hr.apart id id' b1 b2 hne (old _ _ e hg) (old _ _ e' hg') hr
 ·constructor
  ·intro d cs' hd
   obtain ⟨⟨et, hh⟩, h1, h2⟩ := hw.br.box d cs' hd
   refine ⟨⟨et, ?_⟩, fun x hx => Cell.below_mono (by simp [H.length_push]) (h1 x hx), h2⟩
   rw [hold _ (box_lt hw hd), cells_agree hag h1]; exact hh
  ·exact hw.br.bapart
  ·intro d cs' id b' hd hg
   by_cases e : id = h.length
   ·subst e; rw [Plan.set_same]; have := box_lt hw hd; simp only; omega
   ·rw [Plan.set_ne _ _ _ e]; exact hw.br.away d cs' id b' hd (old _ _ e hg)
  ·intro d s p hd
   rw [hold _ (it_lt hw hd)]; exact hw.br.it d s p hd
  ·exact hw.br.iapart
 ·refine hw.fr.trans ⟨rfl, rfl, rfl, by simp, by simp [H.length_push], hag, fun b' hb' _ => hold _ hb', fun id bl hg hr => ?_, fun id bl hg hr => ?_⟩
  ·by_cases e : id = h.length
   ·subst e; rw [Plan.set_same]; exact .inl (Nat.le_refl _)
   ·exact .inr ⟨id, bl, old _ _ e hg, hr, by rw [Plan.set_ne _ _ _ e]⟩
  ·by_cases e : id = h.length
   ·subst e; rw [H.get_push, if_pos rfl] at hg; cases hg; rw [hro] at hr; cases hr
   ·exact old _ _ e hg
theorem WR.kill (hw : WR B h0 ι0 w0 ι β γ h bx its w) (id : Nat) : WR B h0 ι0 w0 ι β γ (h.set id none) bx its w := by
 by_cases hi : id < h.length
 ·have sub : ∀ x b, H.get (h.set id none) x = some b → h.get x = some b := fun x b hg => by
   rw [H.get_set h id none x hi] at hg
   split at hg
   ·cases hg
   ·exact hg
  refine ⟨⟨hw.hr.size, fun x b hg => ?_, fun x x' b b' hne hg hg' hr => hw.hr.apart x x' b b' hne (sub _ _ hg) (sub _ _ hg') hr⟩,
   ⟨fun d cs hd => by simpa using hw.br.box d cs hd, hw.br.bapart, fun d cs x b hd hg => hw.br.away d cs x b hd (sub _ _ hg), hw.br.it, hw.br.iapart⟩,
   ⟨hw.fr.os, hw.fr.tape, hw.fr.output, hw.fr.size, by simpa using hw.fr.len, hw.fr.agree, hw.fr.keep, fun x bl hg hr => hw.fr.origin x bl (sub _ _ hg) hr, fun x bl hg hr => hw.fr.rofix x bl (sub _ _ hg) hr⟩⟩
  simpa using hw.hr.live x b (sub _ _ hg)
 ·rw [List.set_eq_of_length_le (by omega)]; exact hw
theorem WR.write (hw : WR B h0 ι0 w0 ι β γ h bx its w) {id : Nat} {b b' : Blk} (hb : h.get id = some b) (hro : b.ro = false) (hro' : b'.ro = false) (hes : b'.es = b.es) (hlen : ∀ e ∈ b'.el, e.length = b.es)
  (hcap : b'.el.length ≤ (ι id).cap) {cs' : Array Value} {et : TypeId} {w' : World} (hh : w'.heap[(ι id).blk]? = some (.cells cs' et (0, 0))) (hsz : (ι id).base + (ι id).cap * b.es ≤ cs'.size)
  (hoth : ∀ k, k ≠ (ι id).blk → w'.heap[k]? = w.heap[k]?) (hsize : w'.heap.size = w.heap.size) (ho : w'.os = w.os) (ht : w'.tape = w.tape) (hu : w'.output = w.output)
  (hbel : ∀ e ∈ b'.el, ∀ x ∈ e, x.below h.length)
  (hc : ∀ (i : Nat) (e : List Cell) (k : Nat) (x : Cell), b'.el[i]? = some e → e[k]? = some x → cs'[(ι id).base + i * b.es + k]? = some (x.conc ι)) :
  WR B h0 ι0 w0 ι β γ (h.set id (some b')) bx its w' := by
 have hi := H.get_lt hb
 have get : ∀ x, H.get (h.set id (some b')) x = if x = id then some b' else h.get x := fun x => H.get_set h id (some b') x hi
 obtain ⟨cs, et0, fz, hh0, h1, h2, h3, h4, h5, h6, h7⟩ := hw.hr.live id b hb
 obtain ⟨hB, _⟩ := h7 hro
 constructor
 ·constructor
  ·rw [hsize]; exact hw.hr.size
  ·intro x bx' hg
   rw [get] at hg
   split at hg
   ·rename_i e; subst e; cases hg
    refine ⟨cs', et, (0, 0), hh, by rw [hes]; exact h1, by rw [hes]; exact h2, by rw [hes]; exact hlen, hcap, by rw [hes]; exact hsz, fun i e k y hi' hk => ?_, fun _ => ⟨hB, rfl⟩⟩
    rw [hes]
    exact ⟨hc i e k y hi' hk, by simpa using hbel e (List.mem_of_getElem? hi') y (List.mem_of_getElem? hk)⟩
   ·rename_i e
    have hne := hw.hr.apart id x b bx' (Ne.symm e) hb hg hro
    simpa [hoth _ (Ne.symm hne)] using hw.hr.live x bx' hg
  ·intro x x' b1 b2 hne hg hg' hr
   rw [get] at hg hg'
   split at hg
   ·rename_i e; subst e
    rw [if_neg (Ne.symm hne)] at hg'
    exact hw.hr.apart x x' b b2 hne hb hg' hro
   ·split at hg'
    ·rename_i e; subst e; exact hw.hr.apart x x' b1 b hne hg hb hr
    ·exact hw.hr.apart x x' b1 b2 hne hg hg' hr
 ·constructor
  ·intro d cs1 hd
   obtain ⟨⟨et1, hh1⟩, h8, h9⟩ := hw.br.box d cs1 hd
   refine ⟨⟨et1, ?_⟩, by simpa using h8, h9⟩
   rw [hoth _ (Ne.symm (hw.br.away d cs1 id b hd hb))]; exact hh1
  ·exact hw.br.bapart
  ·intro d cs1 x b1 hd hg
   rw [get] at hg
   split at hg
   ·rename_i e; subst e; exact hw.br.away d cs1 x b hd hb
   ·exact hw.br.away d cs1 x b1 hd hg
  ·intro d s p hd
   rw [hoth _ (Ne.symm (blk_ne_it hw hb hd))]; exact hw.br.it d s p hd
  ·exact hw.br.iapart
 ·refine hw.fr.trans ⟨ho, ht, hu, by rw [hsize]; exact Nat.le_refl _, by simp, Agree.refl _ _, fun k hk hn => hoth k (Ne.symm (hn id b hb hro)), fun x bl hg hr => ?_, fun x bl hg hr => ?_⟩
  ·rw [get] at hg
   split at hg
   ·rename_i e; subst e; exact .inr ⟨x, b, hb, hro, rfl⟩
   ·exact .inr ⟨x, bl, hg, hr, rfl⟩
  ·rw [get] at hg
   split at hg
   ·rename_i e; subst e; cases hg; rw [hro'] at hr; cases hr
   ·exact hg
theorem WR.move (hw : WR B h0 ι0 w0 ι β γ h bx its w) {id : Nat} {b b' : Blk} (hb : h.get id = some b) (hro : b.ro = false) (hro' : b'.ro = false) (hes : b'.es = b.es) (hlen : ∀ e ∈ b'.el, e.length = b.es)
  {base cap : Nat} (hcap : b'.el.length ≤ cap) {cs' : Array Value} {et : TypeId} {w' : World} (hh : w'.heap[(ι id).blk]? = some (.cells cs' et (0, 0))) (hsz : base + cap * b.es ≤ cs'.size)
  (hoth : ∀ k, k ≠ (ι id).blk → w'.heap[k]? = w.heap[k]?) (hsize : w'.heap.size = w.heap.size) (ho : w'.os = w.os) (ht : w'.tape = w.tape) (hu : w'.output = w.output)
  (hbel : ∀ e ∈ b'.el, ∀ x ∈ e, x.below h.length)
  (hc : ∀ (i : Nat) (e : List Cell) (k : Nat) (x : Cell), b'.el[i]? = some e → e[k]? = some x → cs'[base + i * b.es + k]? = some (x.conc ι)) :
  WR B h0 ι0 w0 (ι.set h.length ⟨(ι id).blk, base, cap, b.es, none⟩) β γ (H.push (h.set id none) b') bx its w' := by
 have hi := H.get_lt hb
 have hag : Agree h.length ι (ι.set h.length ⟨(ι id).blk, base, cap, b.es, none⟩) := Plan.set_agree _ _ _
 have get : ∀ x, (H.push (h.set id none) b').get x = if x = h.length then some b' else if x = id then none else h.get x := fun x => by
  rw [H.get_push, List.length_set, H.get_set h id none x hi]
 have old : ∀ x bb, x ≠ h.length → (H.push (h.set id none) b').get x = some bb → x ≠ id ∧ h.get x = some bb := fun x bb hne hg => by
  rw [get, if_neg hne] at hg
  split at hg
  ·cases hg
  ·rename_i e; exact ⟨e, hg⟩
 have hlen' : (H.push (h.set id none) b').length = h.length + 1 := by simp [H.push]
 obtain ⟨cs, et0, fz, hh0, h1, h2, h3, h4, h5, h6, h7⟩ := hw.hr.live id b hb
 obtain ⟨hB, _⟩ := h7 hro
 constructor
 ·constructor
  ·rw [hsize]; exact hw.hr.size
  ·intro x bb hg
   by_cases e : x = h.length
   ·subst e
    rw [get, if_pos rfl] at hg; cases hg
    rw [Plan.set_same]
    refine ⟨cs', et, (0, 0), hh, hes.symm, by rw [hes]; exact h2, by rw [hes]; exact hlen, hcap, by rw [hes]; exact hsz, fun i e k y hi' hk => ?_, fun _ => ⟨hB, rfl⟩⟩
    have hbb := hbel e (List.mem_of_getElem? hi') y (List.mem_of_getElem? hk)
    rw [hes, Cell.conc_agree hag hbb, hlen']
    exact ⟨hc i e k y hi' hk, Cell.below_mono (by omega) hbb⟩
   ·obtain ⟨hne, hg'⟩ := old x bb e hg
    rw [Plan.set_ne _ _ _ e]
    have hna := hw.hr.apart id x b bb (Ne.symm hne) hb hg' hro
    obtain ⟨cs1, et1, fz1, hh1, k1, k2, k3, k4, k5, k6, k7⟩ := hw.hr.live x bb hg'
    refine ⟨cs1, et1, fz1, by rw [hoth _ (Ne.symm hna)]; exact hh1, k1, k2, k3, k4, k5, fun i e k y hi' hk => ?_, k7⟩
    obtain ⟨k8, k9⟩ := k6 i e k y hi' hk
    rw [Cell.conc_agree hag k9, hlen']
    exact ⟨k8, Cell.below_mono (by omega) k9⟩
  ·intro x x' b1 b2 hne hg hg' hr
   by_cases e : x = h.length
   ·subst e
    obtain ⟨hne', hg2⟩ := old x' b2 (Ne.symm hne) hg'
    rw [Plan.set_same, Plan.set_ne _ _ _ (Ne.symm hne)]
    exact hw.hr.apart id x' b b2 (Ne.symm hne') hb hg2 hro
   ·obtain ⟨hnx, hg1⟩ := old x b1 e hg
    by_cases e' : x' = h.length
    ·subst e'
     rw [Plan.set_same, Plan.set_ne _ _ _ hne]
     exact hw.hr.apart x id b1 b hnx hg1 hb hr
    ·rw [Plan.set_ne _ _ _ e, Plan.set_ne _ _ _ e']
     exact hw.hr.apart x x' b1 b2 hne hg1 (old x' b2 e' hg').2 hr
 ·constructor
  ·intro d cs1 hd
   obtain ⟨⟨et1, hh1⟩, h8, h9⟩ := hw.br.box d cs1 hd
   refine ⟨⟨et1, ?_⟩, fun y hy => by rw [hlen']; exact Cell.below_mono (by omega) (h8 y hy), h9⟩
   rw [hoth _ (Ne.symm (hw.br.away d cs1 id b hd hb)), cells_agree hag h8]; exact hh1
  ·exact hw.br.bapart
  ·intro d cs1 x b1 hd hg
   by_cases e : x = h.length
   ·subst e; rw [Plan.set_same]; exact hw.br.away d cs1 id b hd hb
   ·rw [Plan.set_ne _ _ _ e]; exact hw.br.away d cs1 x b1 hd (old x b1 e hg).2
  ·intro d s p hd
   rw [hoth _ (Ne.symm (blk_ne_it hw hb hd))]; exact hw.br.it d s p hd
  ·exact hw.br.iapart
 ·refine hw.fr.trans ⟨ho, ht, hu, by rw [hsize]; exact Nat.le_refl _, by rw [hlen']; omega, hag, fun k hk hn => hoth k (Ne.symm (hn id b hb hro)), fun x bl hg hr => ?_, fun x bl hg hr => ?_⟩
  ·by_cases e : x = h.length
   ·subst e; rw [Plan.set_same]; exact .inr ⟨id, b, hb, hro, rfl⟩
   ·rw [Plan.set_ne _ _ _ e]; exact .inr ⟨x, bl, (old x bl e hg).2, hr, rfl⟩
  ·by_cases e : x = h.length
   ·subst e; rw [get, if_pos rfl] at hg; cases hg; rw [hro'] at hr; cases hr
   ·exact (old x bl e hg).2
theorem WR.newBox (hw : WR B h0 ι0 w0 ι β γ h bx its w) (d : Nat) {cs : List Cell} {et : TypeId} (hbel : ∀ x ∈ cs, x.below h.length) :
  WR B h0 ι0 w0 ι (fun x => if x = d then w.heap.size else β x) γ h ((d, cs) :: bx) its (w.alloc (.cells (cs.map (Cell.conc ι)).toArray et)) := by
 have hold : ∀ k, k < w.heap.size → (w.alloc (.cells (cs.map (Cell.conc ι)).toArray et)).heap[k]? = w.heap[k]? := fun k hk => Go.RowKit.Below.heap_alloc w _ k hk
 constructor
 ·refine ⟨by have := hw.hr.size; simp; omega, fun id b hg => ?_, hw.hr.apart⟩
  rw [hold _ (blk_lt hw hg)]; exact hw.hr.live id b hg
 ·constructor
  ·intro d' cs' hd
   rw [lk_cons] at hd
   split at hd
   ·rename_i e; subst e; cases hd
    simp only [↓reduceIte]
    exact ⟨⟨et, heap_alloc_new w _⟩, hbel, hw.fr.size⟩
   ·rename_i e
    obtain ⟨⟨et1, hh⟩, h1, h2⟩ := hw.br.box d' cs' hd
    simp only [Ne.symm e, ↓reduceIte]
    exact ⟨⟨et1, by rw [hold _ (box_lt hw hd)]; exact hh⟩, h1, h2⟩
  ·intro d1 d2 c1 c2 hne hd1 hd2
   rw [lk_cons] at hd1 hd2
   split at hd1
   ·rename_i e; subst e
    rw [if_neg hne] at hd2
    have := box_lt hw hd2
    simp only [↓reduceIte, Ne.symm hne]; omega
   ·rename_i e
    split at hd2
    ·rename_i e'; subst e'
     have := box_lt hw hd1
     simp only [↓reduceIte, hne]; omega
    ·rename_i e'
     simp only [Ne.symm e, Ne.symm e', ↓reduceIte]
     exact hw.br.bapart d1 d2 c1 c2 hne hd1 hd2
  ·intro d' cs' id b hd hg
   rw [lk_cons] at hd
   split at hd
   ·rename_i e; subst e
    have := blk_lt hw hg
    simp only [↓reduceIte]; omega
   ·rename_i e
    simp only [Ne.symm e, ↓reduceIte]
    exact hw.br.away d' cs' id b hd hg
  ·intro d' s p hd
   rw [hold _ (it_lt hw hd)]; exact hw.br.it d' s p hd
  ·exact hw.br.iapart
 ·exact hw.fr.trans ⟨rfl, rfl, rfl, by simp, Nat.le_refl _, Agree.refl _ _, fun k hk _ => hold k hk, fun id bl hg hr => .inr ⟨id, bl, hg, hr, rfl⟩, fun _ _ hg _ => hg⟩
theorem WR.setBox (hw : WR B h0 ι0 w0 ι β γ h bx its w) {d : Nat} {old cs : List Cell} (hb : lk bx d = some old) (hbel : ∀ x ∈ cs, x.below h.length) {et : TypeId} {w' : World}
  (hh : w'.heap[β d]? = some (.cells (cs.map (Cell.conc ι)).toArray et (0, 0))) (hoth : ∀ k, k ≠ β d → w'.heap[k]? = w.heap[k]?) (hsize : w'.heap.size = w.heap.size) (ho : w'.os = w.os) (ht : w'.tape = w.tape) (hu : w'.output = w.output) :
  WR B h0 ι0 w0 ι β γ h ((d, cs) :: bx) its w' := by
 obtain ⟨_, _, hN⟩ := hw.br.box d old hb
 constructor
 ·refine ⟨by rw [hsize]; exact hw.hr.size, fun id b hg => ?_, hw.hr.apart⟩
  rw [hoth _ (hw.br.away d old id b hb hg)]; exact hw.hr.live id b hg
 ·constructor
  ·intro d' cs' hd
   rw [lk_cons] at hd
   split at hd
   ·rename_i e; subst e; cases hd; exact ⟨⟨et, hh⟩, hbel, hN⟩
   ·rename_i e
    obtain ⟨⟨et1, hh1⟩, h1, h2⟩ := hw.br.box d' cs' hd
    exact ⟨⟨et1, by rw [hoth _ (hw.br.bapart d' d cs' old (Ne.symm e) hd hb)]; exact hh1⟩, h1, h2⟩
  ·intro d1 d2 c1 c2 hne hd1 hd2
   rw [lk_cons] at hd1 hd2
   have g1 : ∃ c, lk bx d1 = some c := by
    split at hd1
    ·rename_i e; subst e; exact ⟨old, hb⟩
    ·exact ⟨c1, hd1⟩
   have g2 : ∃ c, lk bx d2 = some c := by
    split at hd2
    ·rename_i e; subst e; exact ⟨old, hb⟩
    ·exact ⟨c2, hd2⟩
   obtain ⟨c1', k1⟩ := g1
   obtain ⟨c2', k2⟩ := g2
   exact hw.br.bapart d1 d2 c1' c2' hne k1 k2
  ·intro d' cs' id b hd hg
   rw [lk_cons] at hd
   split at hd
   ·rename_i e; subst e; exact hw.br.away d old id b hb hg
   ·exact hw.br.away d' cs' id b hd hg
  ·intro d' s p hd
   rw [hoth _ (Ne.symm (box_ne_it hw hb hd))]; exact hw.br.it d' s p hd
  ·exact hw.br.iapart
 ·exact ⟨ho.trans hw.fr.os, ht.trans hw.fr.tape, hu.trans hw.fr.output, by rw [hsize]; exact hw.fr.size, hw.fr.len, hw.fr.agree,
   fun k hk hn => by rw [hoth k (by omega)]; exact hw.fr.keep k hk hn, hw.fr.origin, hw.fr.rofix⟩
theorem WR.newIt (hw : WR B h0 ι0 w0 ι β γ h bx its w) (d : Nat) (s : ByteArray) (p : Nat) :
  WR B h0 ι0 w0 ι β (fun x => if x = d then w.heap.size else γ x) h bx ((d, s, p) :: its) (w.alloc (.stringIter s p)) := by
 have hold : ∀ k, k < w.heap.size → (w.alloc (.stringIter s p)).heap[k]? = w.heap[k]? := fun k hk => Go.RowKit.Below.heap_alloc w _ k hk
 constructor
 ·refine ⟨by have := hw.hr.size; simp; omega, fun id b hg => ?_, hw.hr.apart⟩
  rw [hold _ (blk_lt hw hg)]; exact hw.hr.live id b hg
 ·refine ⟨fun d' cs hd => ?_, hw.br.bapart, hw.br.away, fun d' s' p' hd => ?_, fun d1 d2 x1 x2 hne hd1 hd2 => ?_⟩
  ·rw [hold _ (box_lt hw hd)]; exact hw.br.box d' cs hd
  ·rw [lk_cons] at hd
   split at hd
   ·rename_i e; subst e; cases hd
    simp only [↓reduceIte]
    exact ⟨heap_alloc_new w _, hw.fr.size⟩
   ·rename_i e
    simp only [Ne.symm e, ↓reduceIte]
    rw [hold _ (it_lt hw hd)]; exact hw.br.it d' s' p' hd
  ·rw [lk_cons] at hd1 hd2
   split at hd1
   ·rename_i e; subst e
    rw [if_neg hne] at hd2
    obtain ⟨s2, p2⟩ := x2
    have := it_lt hw hd2
    simp only [↓reduceIte, Ne.symm hne]; omega
   ·rename_i e
    split at hd2
    ·rename_i e'; subst e'
     obtain ⟨s1, p1⟩ := x1
     have := it_lt hw hd1
     simp only [↓reduceIte, hne]; omega
    ·rename_i e'
     simp only [Ne.symm e, Ne.symm e', ↓reduceIte]
     exact hw.br.iapart d1 d2 x1 x2 hne hd1 hd2
 ·exact hw.fr.trans ⟨rfl, rfl, rfl, by simp, Nat.le_refl _, Agree.refl _ _, fun k hk _ => hold k hk, fun id bl hg hr => .inr ⟨id, bl, hg, hr, rfl⟩, fun _ _ hg _ => hg⟩
theorem WR.setIt (hw : WR B h0 ι0 w0 ι β γ h bx its w) {d : Nat} {s : ByteArray} {p p' : Nat} (hi : lk its d = some (s, p)) {w' : World}
  (hh : w'.heap[γ d]? = some (.stringIter s p')) (hoth : ∀ k, k ≠ γ d → w'.heap[k]? = w.heap[k]?) (hsize : w'.heap.size = w.heap.size) (ho : w'.os = w.os) (ht : w'.tape = w.tape) (hu : w'.output = w.output) :
  WR B h0 ι0 w0 ι β γ h bx ((d, s, p') :: its) w' := by
 obtain ⟨_, hN⟩ := hw.br.it d s p hi
 constructor
 ·refine ⟨by rw [hsize]; exact hw.hr.size, fun id b hg => ?_, hw.hr.apart⟩
  rw [hoth _ (blk_ne_it hw hg hi)]; exact hw.hr.live id b hg
 ·refine ⟨fun d' cs hd => ?_, hw.br.bapart, hw.br.away, fun d' s' q' hd => ?_, fun d1 d2 x1 x2 hne hd1 hd2 => ?_⟩
  ·rw [hoth _ (box_ne_it hw hd hi)]; exact hw.br.box d' cs hd
  ·rw [lk_cons] at hd
   split at hd
   ·rename_i e; subst e; cases hd; exact ⟨hh, hN⟩
   ·rename_i e
    rw [hoth _ (hw.br.iapart d' d (s', q') (s, p) (Ne.symm e) hd hi)]; exact hw.br.it d' s' q' hd
  ·rw [lk_cons] at hd1 hd2
   have g1 : ∃ c, lk its d1 = some c := by
    split at hd1
    ·rename_i e; subst e; exact ⟨_, hi⟩
    ·exact ⟨x1, hd1⟩
   have g2 : ∃ c, lk its d2 = some c := by
    split at hd2
    ·rename_i e; subst e; exact ⟨_, hi⟩
    ·exact ⟨x2, hd2⟩
   obtain ⟨_, k1⟩ := g1
   obtain ⟨_, k2⟩ := g2
   exact hw.br.iapart d1 d2 _ _ hne k1 k2
 ·exact ⟨ho.trans hw.fr.os, ht.trans hw.fr.tape, hu.trans hw.fr.output, by rw [hsize]; exact hw.fr.size, hw.fr.len, hw.fr.agree,
   fun k hk hn => by rw [hoth k (by omega)]; exact hw.fr.keep k hk hn, hw.fr.origin, hw.fr.rofix⟩
theorem ER.grow {n n' : Nat} {env : List (Nat × Slot)} {a : Act} (her : ER nt ι β γ n bx its env a) {ι' : Plan} {bx' : List (Nat × List Cell)} {its' : List (Nat × ByteArray × Nat)} (hag : Agree n ι ι') (hn : n ≤ n')
  (hb : ∀ d, (lk bx d).isSome → (lk bx' d).isSome) (hi : ∀ d, (lk its d).isSome → (lk its' d).isSome) : ER nt ι' β γ n' bx' its' env a where
 df := her.df
 nt := her.nt
 slot := fun t s hl => by
  have := her.slot t s hl
  cases s with
  | val v => exact V.rel_agree hag hn this
  | loc b k => exact ⟨this.1, hb _ this.2⟩
  | iter => exact ⟨this.1, hi _ this.2⟩
end
end Go.AM

/-
 THE ABSTRACT MACHINE, 8: the operations that make, write, take over.
-/
namespace Go.AM
theorem splice_get {α : Type} (cs vs : List α) (p : Nat) (h : p + vs.length ≤ cs.length) (j : Nat) :
  (cs.take p ++ vs ++ cs.drop (p + vs.length))[j]? = if j < p then cs[j]? else if j < p + vs.length then vs[j - p]? else cs[j]? := by
 have e : min p cs.length = p := by omega
 simp only [List.getElem?_append, List.length_append, List.length_take, e]
 by_cases h1 : j < p
 ·rw [if_pos (by omega), if_pos h1, if_pos h1, List.getElem?_take, if_pos h1]
 ·by_cases h2 : j < p + vs.length
  ·rw [if_pos h2, if_neg h1, if_neg h1, if_pos h2]
  ·rw [if_neg h2, if_neg h1, if_neg h2, List.getElem?_drop]; congr 1; omega
theorem flatten_at {es : Nat} : ∀ (el : List (List Cell)), (∀ e ∈ el, e.length = es) → ∀ (i k : Nat) (e : List Cell) (x : Cell), el[i]? = some e → e[k]? = some x → el.flatten[i * es + k]? = some x
 | [], _, i, k, e, x, h, _ => by simp at h
 | e0 :: el, hl, i, k, e, x, h, hk => by
  have h0 : e0.length = es := hl e0 (by simp)
  rw [List.flatten_cons, List.getElem?_append]
  cases i with
  | zero =>
   simp only [List.getElem?_cons_zero, Option.some.injEq] at h; subst h
   have : k < e0.length := (List.getElem?_eq_some_iff.1 hk).1
   rw [if_pos (by simpa using this)]; simpa using hk
  | succ i =>
   rw [if_neg (by rw [h0, Nat.add_mul]; omega), h0, show (i + 1) * es + k - es = i * es + k by rw [Nat.add_mul]; omega]
   exact flatten_at el (fun y hy => hl y (by simp [hy])) i k e x (by simpa using h) hk
section
variable {T : TT} {P : Program} (ok : T.Ok P)
variable {B : Nat} {h0 : H} {ι0 : Plan} {w0 : World} {ι : Plan} {β γ : Nat → Nat} {nt : Nat} {st : St} {a : Act} {w : World}
theorem run_storeCells_gen (g o : Nat) (t : TypeId) : ∀ (vs : List Value) (i : Nat) (cur : Array Value) (w : World), w.heap[g]? = some (.cells cur t (0, 0)) → o + i + vs.length ≤ cur.size → (∀ v ∈ vs, v.oneCell' = true) →
  ∃ w', (storeCells ⟨g, o, none⟩ vs i).run P w = .ok () w' ∧ w'.heap[g]? = some (.cells (cur.toList.take (o + i) ++ vs ++ cur.toList.drop (o + i + vs.length)).toArray t (0, 0)) ∧
   (∀ k, k ≠ g → w'.heap[k]? = w.heap[k]?) ∧ w'.heap.size = w.heap.size ∧ w'.os = w.os ∧ w'.tape = w.tape ∧ w'.output = w.output
 | [], i, cur, w, hg, hl, _ => ⟨w, rfl, by simpa using hg, fun _ _ => rfl, rfl, rfl, rfl, rfl⟩
 | v :: rest, i, cur, w, hg, hl, h1 => by
  simp only [List.length_cons] at hl
  have hcell : w.cell? ⟨g, o + i, none⟩ = some cur[o + i] := by simp [World.cell?, hg, show o + i < cur.size by omega]
  have hfro : w.frozen? ⟨g, o + i, none⟩ = false := by simp [World.frozen?, hg]
  have hst : (store ((⟨g, o, none⟩ : Addr).add i) v).run P w = .ok () (w.setRow g (cur.setIfInBounds (o + i) v)) := by
   rw [addr_add, run_store P w _ v _ (h1 v (by simp)), hcell]
   simp [hfro, setCell_eq_setRow w g (o + i) cur t (0, 0) v hg]
  obtain ⟨w', hr, hh, hoth, hs, hos, ht, hu⟩ := run_storeCells_gen g o t rest (i + 1) (cur.setIfInBounds (o + i) v) (w.setRow g (cur.setIfInBounds (o + i) v)) (setRow_heap w g cur _ t _ hg) (by simp; omega) (fun x hx => h1 x (by simp [hx]))
  refine ⟨w', ?_, ?_, fun k hk => by rw [hoth k hk, setRow_other w g k _ hk], by rw [hs, setRow_size], by rw [hos]; rfl, by rw [ht]; rfl, by rw [hu]; rfl⟩
  ·simp only [storeCells, Sem.run_bind, hst, Result.andThen_ok, hr]
  ·rw [hh]
   congr 3
   apply List.ext_getElem?
   intro k
   have e1 := splice_get (cur.setIfInBounds (o + i) v).toList rest (o + (i + 1)) (by simp; omega) k
   have e2 := splice_get cur.toList (v :: rest) (o + i) (by simp; omega) k
   rw [e1, e2]
   simp only [Array.toList_setIfInBounds, List.length_cons]
   by_cases k1 : k < o + i
   ·rw [if_pos (by omega), if_pos k1, List.getElem?_set_ne (by omega)]
   ·by_cases k2 : k = o + i
    ·subst k2
     rw [if_pos (by omega), if_neg (by omega), if_pos (by omega)]
     simp [show o + i < cur.size by omega]
    ·rw [if_neg (by omega), if_neg k1]
     by_cases k3 : k < o + (i + 1) + rest.length
     ·rw [if_pos k3, if_pos (by omega), show k - (o + i) = (k - (o + (i + 1))) + 1 by omega, List.getElem?_cons_succ]
     ·rw [if_neg k3, if_neg (by omega), List.getElem?_set_ne (by omega)]
theorem conc_all_one (cs : List Cell) : ∀ v ∈ cs.map (Cell.conc ι), v.oneCell' = true := by
 intro v hv
 obtain ⟨x, _, rfl⟩ := List.mem_map.1 hv
 exact conc_one x
theorem write_some {h h' : H} {id i k : Nat} {cs : List Cell} (hw : h.write id i k cs = some h') : ∃ b e, h.get id = some b ∧ b.el[i]? = some e ∧ b.ro = false ∧ k + cs.length ≤ e.length ∧ h' = h.set id (some { b with el := b.el.set i (splice e k cs) }) := by
 unfold H.write at hw
 split at hw
 ·rename_i b hb
  split at hw
  ·rename_i e he
   split at hw
   ·rename_i hc; cases hw; exact ⟨b, e, hb, he, hc.1, hc.2, rfl⟩
   ·cases hw
  ·cases hw
 ·cases hw
theorem splice_getC (e cs : List Cell) (k : Nat) (h : k + cs.length ≤ e.length) (j : Nat) : (splice e k cs)[j]? = if j < k then e[j]? else if j < k + cs.length then cs[j - k]? else e[j]? :=
 splice_get e cs k h j
include ok
theorem store_ok {t : TypeId} {x : Operand} {v : V} {u : Value} {st' : St} (her : ER nt ι β γ st.h.length st.bx st.its st.env a) (hw : WRs B h0 ι0 w0 ι β γ st w) (hv : v.rel ι st.h.length u) (h : storeA T st t x v = some st') :
  ∃ w', (Instr.storeAt t (a.eval x) u).run P w = .ok () w' ∧ WRs B h0 ι0 w0 ι β γ st' w' ∧ st'.env = st.env ∧ st'.its = st.its ∧ st'.h.length = st.h.length ∧ (∀ d, (lk st.bx d).isSome → (lk st'.bx d).isSome) := by
 unfold storeA at h
 cases hc : v.cells with
 | none => simp [hc] at h
 | some cs =>
  simp only [hc] at h
  split at h
  ·rename_i hsz
   obtain ⟨hsz, hoth⟩ := hsz
   obtain ⟨hcells, hbel⟩ := V.cells_rel hc hv
   have hone := conc_all_one (ι := ι) cs
   have hrun : ∀ (g o : Nat) (w' : World), a.eval x = .pointer (some ⟨g, o, none⟩) → (storeCells ⟨g, o, none⟩ (cs.map (Cell.conc ι)) 0).run P w = .ok () w' → (Instr.storeAt t (a.eval x) u).run P w = .ok () w' := by
    intro g o w' he hr
    have hs := run_size ok hoth w
    simp only [Instr.storeAt, he, Instr.sureAddr, Sem.run_bind, Sem.run_pure, Result.andThen_ok, storeVar, hs, hcells]
    rw [if_neg (by simp [hsz])]
    exact hr
   have hsl := her.slotOf x
   split at h
   ·rename_i b k hb
    rw [hb] at hsl
    split at h
    ·rename_i bs hbs
     split at h
     ·rename_i hle
      cases h
      obtain ⟨⟨et, hh⟩, hbel', _⟩ := hw.br.box b bs hbs
      obtain ⟨w', hr, hh', ho, hs, h1, h2, h3⟩ := run_storeCells_gen (P := P) (β b) k et (cs.map (Cell.conc ι)) 0 _ w hh (by simp; omega) hone
      refine ⟨w', hrun _ _ _ hsl.1 hr, hw.setBox hbs (splice_below hbel' hbel) (et := et) ?_ ho hs h1 h2 h3, rfl, rfl, rfl, fun d hd => ?_⟩
      ·rw [hh', splice_map]; simp
      ·simp only [lk_cons]; split
       ·rfl
       ·exact hd
     ·cases h
    ·cases h
   ·rename_i id i k hb
    rw [hb] at hsl
    split at h
    ·rename_i h' hwr
     cases h
     obtain ⟨b, e, hg, he, hro, hle, rfl⟩ := write_some hwr
     obtain ⟨cur, et, fz, hh, hes, hpos, hlen, hcap, hroom, hcon, hB⟩ := hw.hr.live id b hg
     obtain ⟨hBB, rfl⟩ := hB hro
     have hel : e.length = b.es := hlen e (List.mem_of_getElem? he)
     have hi : i < b.el.length := (List.getElem?_eq_some_iff.1 he).1
     have hib : (i + 1) * b.es ≤ (ι id).cap * b.es := Nat.mul_le_mul_right _ (by omega)
     rw [Nat.add_mul] at hib
     obtain ⟨hx1, hx2⟩ := V.rel_c hsl
     simp only [Cell.conc, ptrV, hes] at hx1
     obtain ⟨w', hr, hh', ho, hs, h1, h2, h3⟩ := run_storeCells_gen (P := P) (ι id).blk ((ι id).base + i * b.es + k) et (cs.map (Cell.conc ι)) 0 _ w hh (by simp; omega) hone
     refine ⟨w', hrun _ _ _ hx1 hr, hw.write (b' := { b with el := b.el.set i (splice e k cs) }) hg hro hro rfl (fun e' he' => ?_) (by simpa using hcap) hh' (by simp; omega) ho hs h1 h2 h3 (fun e' he' y hy => ?_) (fun i' e' k' y hi' hk' => ?_), rfl, rfl, by simp, fun d hd => hd⟩
     ·rcases List.mem_or_eq_of_mem_set he' with h | rfl
      ·exact hlen e' h
      ·rw [splice_length hle]; exact hel
     ·have hbe : ∀ y ∈ e, y.below st.h.length := fun y hy => by
       obtain ⟨q, hq⟩ := List.getElem?_of_mem hy
       exact (hcon i e q y he hq).2
      rcases List.mem_or_eq_of_mem_set he' with h | rfl
      ·obtain ⟨q, hq⟩ := List.getElem?_of_mem h
       obtain ⟨r, hr'⟩ := List.getElem?_of_mem hy
       exact (hcon q e' r y hq hr').2
      ·exact splice_below hbe hbel y hy
     ·have := splice_get cur.toList (cs.map (Cell.conc ι)) ((ι id).base + i * b.es + k + 0) (by simp; omega) ((ι id).base + i' * b.es + k')
      simp only [List.getElem?_toArray] at this ⊢
      rw [this]
      simp only [List.length_map, Nat.add_zero, Array.getElem?_toList]
      simp only [] at hi'
      rw [List.getElem?_set] at hi'
      by_cases ei : i = i'
      ·subst ei
       simp only [↓reduceIte, hi, Option.some.injEq] at hi'
       subst hi'
       rw [splice_getC e cs k hle] at hk'
       by_cases c1 : k' < k
       ·rw [if_pos c1] at hk'
        rw [if_pos (by omega)]
        exact (hcon i e k' y he hk').1
       ·rw [if_neg c1] at hk'
        rw [if_neg (by omega)]
        by_cases c2 : k' < k + cs.length
        ·rw [if_pos c2] at hk'
         rw [if_pos (by omega), show (ι id).base + i * b.es + k' - ((ι id).base + i * b.es + k) = k' - k by omega, List.getElem?_map, hk']
         rfl
        ·rw [if_neg c2] at hk'
         rw [if_neg (by omega)]
         exact (hcon i e k' y he hk').1
      ·rw [if_neg ei] at hi'
       have hk2 : k' < b.es := by
        have := (List.getElem?_eq_some_iff.1 hk').1
        rw [hlen e' (List.mem_of_getElem? hi')] at this; exact this
       have hcon' := (hcon i' e' k' y hi' hk').1
       have sep : (ι id).base + i' * b.es + k' < (ι id).base + i * b.es + k ∨ (ι id).base + i * b.es + k + cs.length ≤ (ι id).base + i' * b.es + k' := by
        rcases Nat.lt_or_gt_of_ne ei with hlt | hgt
        ·right
         have : (i + 1) * b.es ≤ i' * b.es := Nat.mul_le_mul_right _ hlt
         rw [Nat.add_mul] at this; omega
        ·left
         have : (i' + 1) * b.es ≤ i * b.es := Nat.mul_le_mul_right _ hgt
         rw [Nat.add_mul] at this; omega
       rcases sep with s1 | s1
       ·rw [if_pos s1]; exact hcon'
       ·rw [if_neg (by omega), if_neg (by omega)]; exact hcon'
    ·cases h
   ·cases h
  ·cases h
end
end Go.AM

/-
 THE ABSTRACT MACHINE, 9: append.
-/
namespace Go.AM
section
variable {T : TT} {P : Program} (ok : T.Ok P)
variable {B : Nat} {h0 : H} {ι0 : Plan} {w0 : World} {ι : Plan} {β γ : Nat → Nat} {nt : Nat} {st : St} {a : Act} {w : World}
include ok
theorem run_appended {es : Nat} {x : V} {u : Value} {xs : List (List Cell)} (h : elemsOf st.h x = some xs) (hl : ∀ e ∈ xs, e.length = es) (hx : x.rel ι st.h.length u) (hw : WRs B h0 ι0 w0 ι β γ st w) :
  (Builtin.lenOf u).run P w = .ok xs.length w ∧ (Builtin.firstCells es xs.length u).run P w = .ok (xs.flatten.map (Cell.conc ι)).toArray w ∧ (∀ e ∈ xs, ∀ y ∈ e, y.below st.h.length) := by
 unfold elemsOf at h
 split at h
 ·cases h; obtain ⟨rfl, _⟩ := V.rel_c hx
  exact ⟨rfl, rfl, by simp⟩
 ·cases h; obtain ⟨rfl, _⟩ := V.rel_c hx
  refine ⟨?_, ?_, by simp⟩
  ·simp only [Cell.conc]; split <;> rfl
  ·simp only [Cell.conc]; split <;> simp [Builtin.firstCells, loadCells, loadCellsFrom]
 ·rename_i id i len cap
  obtain ⟨rfl, _⟩ := V.rel_c hx
  obtain ⟨h1, h2, h3, h4⟩ := run_elems ok h hw
  refine ⟨by rw [h3]; rfl, ?_, h4⟩
  simp only [Cell.conc, Builtin.firstCells]
  cases xs with
  | nil => simp only [List.length_nil, Nat.zero_mul]; rfl
  | cons e r =>
   have : (ι id).es = es := by rw [← h2 e (by simp), hl e (by simp)]
   rw [h3, ← this]; exact h1
 ·cases h
theorem push_grown {es : Nat} {el : List (List Cell)} {rest : List Value} {e : TypeId} {cap : Nat} (hes : 0 < es) (hl : ∀ x ∈ el, x.length = es) (hbel : ∀ x ∈ el, ∀ y ∈ x, y.below st.h.length) (hcap : el.length ≤ cap)
  (hrest : rest.length = (cap - el.length) * es) (hw : WRs B h0 ι0 w0 ι β γ st w) :
  WR B h0 ι0 w0 (ι.set st.h.length ⟨w.heap.size, 0, cap, es, none⟩) β γ (st.h.push ⟨false, es, el⟩) st.bx st.its (w.alloc (.cells (el.flatten.map (Cell.conc ι) ++ rest).toArray e)) := by
 have hf := flatten_length el hl
 refine WR.push (b := ⟨false, es, el⟩) hw rfl hes hl hbel hcap ?_ fun i x k y hi hk => ?_
 ·simp only [List.size_toArray, List.length_append, List.length_map, hf, hrest, ← Nat.add_mul]
  rw [show el.length + (cap - el.length) = cap by omega]; exact Nat.le_refl _
 ·have := flatten_at el hl i k x y hi hk
  simp only [List.getElem?_toArray]
  rw [List.getElem?_append_left (by rw [List.length_map]; exact (List.getElem?_eq_some_iff.1 this).1), List.getElem?_map, this]; rfl
omit ok in
theorem zeroCells_size (z : Array Value) (n : Nat) : (Builtin.zeroCells z n).toList.length = n * z.size := by simp [Builtin.zeroCells]
theorem run_append_new {t t' e e' : TypeId} (ht : T.td t = .slice e) (ht' : T.td t' = .slice e') (he : isOther T e = false) {base : Option Addr} {sLen sCap : Nat} {x : Value} {ty : TypeId} {old new : List Value} {n : Nat}
  (hlt : sCap < sLen + n) (hm : sLen + n ≤ lenMost) (hn : ∀ w, (Builtin.lenOf x).run P w = .ok n w)
  (hold : (Builtin.firstCells (T.size e) sLen (.slice base sLen sCap)).run P w.drew = .ok old.toArray w.drew) (hnew : (Builtin.firstCells (T.size e) n x).run P w.drew = .ok new.toArray w.drew) :
  ∃ (cap : Nat) (rest : List Value), sLen + n ≤ cap ∧ rest.length = (cap - (sLen + n)) * T.size e ∧
   (Builtin.append_ #[t, t'] ty #[.slice base sLen sCap, x]).run P w = .ok (.slice (some ⟨w.heap.size, 0, none⟩) (sLen + n) cap) (w.drew.alloc (.cells (old ++ new ++ rest).toArray e)) := by
 obtain ⟨i, z, hi, hs, hpos, hz, hzc, hzl, hby, _⟩ := ok.inf e he
 have hu := slice_of ok ht
 have hu' := slice_of ok ht'
 let q : Question := .appendCap (sLen + n) sCap e
 let cap := q.cut (w.tape w.drawn q)
 have hcap : sLen + n ≤ cap := by show _ ≤ (sLen + n) + _; omega
 refine ⟨cap, (Builtin.zeroCells z.cells (cap - (sLen + n))).toList, hcap, ?_, ?_⟩
 ·rw [zeroCells_size]; congr 1
  have := hzc (fun _ => default); rw [this]; simp [hzl]
 ·have hfit := growslice_fits (need := sLen + n) (old := sCap) (bytes := i.bytes) hlt (by
   have : (sLen + n) * i.bytes ≤ 4294967296 * 4096 := Nat.mul_le_mul (by unfold lenMost at hm; exact hm) hby
   omega)
  unfold Builtin.append_
  simp only [show (#[t, t'] : Array TypeId)[0]? = some t from rfl, show (#[t, t'] : Array TypeId)[1]? = some t' from rfl, show (#[Value.slice base sLen sCap, x])[0]? = some (.slice base sLen sCap) from rfl,
   show (#[Value.slice base sLen sCap, x])[1]? = some x from rfl, Sem.run_bind, run_und ok hu, run_und ok hu', Result.andThen_ok, Sem.run_pure, run_size ok he, Bool.false_eq_true, if_false, hn, Sem.run_ite]
  rw [if_neg (by omega)]
  have hty : (typeInfo e).run P w = .ok i w := by simp [typeInfo, hi]
  simp only [hty, Result.andThen_ok]
  rw [if_neg (by
   intro hh
   have h1 := hh.1
   unfold lenMost at hm
   have : ((sLen + n : Nat) : Int) > 2 ^ 63 - 1 := h1
   omega)]
  rw [if_neg (by omega)]
  have hf : (Question.appendCap (sLen + n) sCap e).forced = false := rfl
  simp only [Sem.run_bind, run_choose, hf, Bool.false_eq_true, if_false, Result.andThen_ok, World.drew_eq]
  have hty' : (typeInfo e).run P w.drew = .ok i w.drew := by simp [typeInfo, hi]
  have hzz : (zeroValue e).run P w.drew = .ok z w.drew := by simp [zeroValue, typeInfo, hi, hz]
  simp only [hty', Result.andThen_ok, run_askRoom, hold, Bool.not_false, if_true, hnew, hzz, newRow, Sem.run_bind, run_newObj, Sem.run_pure, World.alloc_eq]
  simp only [World.size_drew]
  congr 3
  apply Array.ext'
  simp
  rfl
theorem run_append_in {t t' e e' : TypeId} (ht : T.td t = .slice e) (ht' : T.td t' = .slice e') (he : isOther T e = false) {g o : Nat} {sLen sCap : Nat} {x : Value} {ty : TypeId} {new : List Value} {n : Nat} {w' : World}
  (hle : sLen + n ≤ sCap) (hn : ∀ w, (Builtin.lenOf x).run P w = .ok n w) (hnew : (Builtin.firstCells (T.size e) n x).run P w = .ok new.toArray w)
  (hst : (storeCells ⟨g, o + sLen * T.size e, none⟩ new 0).run P w = .ok () w') :
  (Builtin.append_ #[t, t'] ty #[.slice (some ⟨g, o, none⟩) sLen sCap, x]).run P w = .ok (.slice (some ⟨g, o, none⟩) (sLen + n) sCap) w' := by
 have hu := slice_of ok ht
 have hu' := slice_of ok ht'
 unfold Builtin.append_
 simp only [show (#[t, t'] : Array TypeId)[0]? = some t from rfl, show (#[t, t'] : Array TypeId)[1]? = some t' from rfl, show (#[Value.slice (some ⟨g, o, none⟩) sLen sCap, x])[0]? = some (.slice (some ⟨g, o, none⟩) sLen sCap) from rfl,
  show (#[Value.slice (some ⟨g, o, none⟩) sLen sCap, x])[1]? = some x from rfl, Sem.run_bind, run_und ok hu, run_und ok hu', Result.andThen_ok, Sem.run_pure, run_size ok he, Bool.false_eq_true, if_false, hn, Sem.run_ite]
 rw [if_pos hle]
 simp only [Bool.not_false, if_true, Sem.run_bind, hnew, Result.andThen_ok, addr_add, hst, Sem.run_pure]
theorem run_append_none {t t' e e' : TypeId} (ht : T.td t = .slice e) (ht' : T.td t' = .slice e') (he : isOther T e = false) {x : Value} {ty : TypeId} (hn : ∀ w, (Builtin.lenOf x).run P w = .ok 0 w)
  (hnew : (Builtin.firstCells (T.size e) 0 x).run P w = .ok #[] w) :
  (Builtin.append_ #[t, t'] ty #[.slice none 0 0, x]).run P w = .ok (.slice none 0 0) w := by
 have hu := slice_of ok ht
 have hu' := slice_of ok ht'
 unfold Builtin.append_
 simp only [show (#[t, t'] : Array TypeId)[0]? = some t from rfl, show (#[t, t'] : Array TypeId)[1]? = some t' from rfl, show (#[Value.slice none 0 0, x])[0]? = some (.slice none 0 0) from rfl,
  show (#[Value.slice none 0 0, x])[1]? = some x from rfl, Sem.run_bind, run_und ok hu, run_und ok hu', Result.andThen_ok, Sem.run_pure, run_size ok he, Bool.false_eq_true, if_false, hn, Sem.run_ite]
 rw [if_pos (by omega)]
 simp only [Bool.not_false, if_true, Sem.run_bind, hnew, Result.andThen_ok, Sem.run_pure, Nat.add_zero]
end
end Go.AM
