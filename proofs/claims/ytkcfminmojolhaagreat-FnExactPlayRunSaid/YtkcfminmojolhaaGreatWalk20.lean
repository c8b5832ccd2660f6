/-
  What functions of the seat answer, each proved once; each under the condition that cells bear what it is given, as its statement says.
-/
import Derived.Test.YtkcfminmojolhaaGreatAm7
import Derived.Test.YtkcfminmojolhaaGreatWalk5
import Derived.Test.YtkcfminmojolhaaGreatWalk1
import Derived.WalkKit
import Derived.Lib.Walk
import Derived.WideShapes
import Derived.Below
import Derived.Carry
import Derived.Test.YtkcfminmojolhaaGreatWalk18
set_option linter.all false
/-
  WHAT COMES IN, OPENED: whole numbers, values, steps, runs, and a world.
-/
set_option maxRecDepth 8000
namespace Go.Proofs.YtkcfminmojolhaaGreat
open Go.AM
section
variable {H0 : Type} {enc : TypeId × Value → H0} {W : World} {held : Bool}
/-- A world's data of the abstract machine: nothing there. -/
theorem Opn.nil (W : World) : Opn W [] (fun _ => default) :=
  ⟨⟨Nat.zero_le _, fun id b hg => by simp [H.get] at hg, fun id id' b b' _ hg => by simp [H.get] at hg⟩, fun id b hg => by simp [H.get] at hg⟩
/-- A part of a struct. -/
theorem part_of {P : Program} {t : TypeId} {fs : Array Field} {fuel : Nat} {cs : List Value} {x : DataW H0 × List MemPlace} (ht : P.underlying t = some (.struct fs)) (hd : DataW.trod enc P W 0 (fun _ => true) held fuel t cs = some x) :
    cs.length = P.cellsOf t ∧ ∃ n, ∀ (i e o : Nat), fs[i]?.map (fun f => (f.type, f.offset)) = some (e, o) → ∃ y, DataW.trod enc P W 0 (fun _ => true) held n e ((cs.drop o).take (P.cellsOf e)) = some y ∧ (Light P t x.1 → Light P e y.1) := by
  obtain ⟨xs, n, _, hx, hl, hxl, hp⟩ := DataW.trod_struct ht hd
  refine ⟨hl, n, fun i e o hf0 => ?_⟩
  obtain ⟨f, hf, hfe⟩ := Option.map_eq_some_iff.1 hf0
  obtain ⟨rfl, rfl⟩ := Prod.mk.inj hfe
  have hi : i < xs.length := by rw [hxl]; exact (Array.getElem?_eq_some_iff.1 hf).1
  refine ⟨xs[i], by rw [hp i f hf, List.getElem?_eq_getElem hi], fun hL => ?_⟩
  rw [hx] at hL
  exact hL.part ht hf (by rw [List.getElem?_map, List.getElem?_eq_getElem hi]; rfl)
theorem cells_int : Tryz.prog.cellsOf 3 = 1 := by kernel_rfl
theorem cells_bool : Tryz.prog.cellsOf 4 = 1 := by kernel_rfl
theorem cells_val : Tryz.prog.cellsOf 39 = 2 := by kernel_rfl
theorem cells_op : Tryz.prog.cellsOf 94 = 6 := by kernel_rfl
theorem cells_run : Tryz.prog.cellsOf 116 = 13 := by kernel_rfl
theorem cells_world : Tryz.prog.cellsOf 26 = 7 := by kernel_rfl
theorem cells_ints : Tryz.prog.cellsOf 24 = 1 := by kernel_rfl
theorem cells_vals : Tryz.prog.cellsOf 114 = 1 := by kernel_rfl
theorem cells_ops : Tryz.prog.cellsOf 22 = 1 := by kernel_rfl
theorem cells_runs : Tryz.prog.cellsOf 23 = 1 := by kernel_rfl
theorem bytes_int : 0 < Tryz.prog.bytesOf 3 := of_decide_eq_true (by kernel_rfl)
theorem bytes_val : 0 < Tryz.prog.bytesOf 39 := of_decide_eq_true (by kernel_rfl)
theorem bytes_op : 0 < Tryz.prog.bytesOf 94 := of_decide_eq_true (by kernel_rfl)
theorem bytes_run : 0 < Tryz.prog.bytesOf 116 := of_decide_eq_true (by kernel_rfl)
theorem uncons {α : Type} {l : List α} {n : Nat} (h : l.length = n + 1) : ∃ a t, l = a :: t ∧ t.length = n := by
  cases l with
  | nil => simp at h
  | cons a t => exact ⟨a, t, rfl, by simpa using h⟩
theorem take_one {l : List Value} {k : Nat} (h : k < l.length) : (l.drop k).take 1 = [l[k]] := by
  rw [List.drop_eq_getElem_cons h]; rfl
theorem er_int : ElemRead enc Tryz.prog W (fun _ => true) held 3 encI := fun fuel cs x hd => by
  obtain ⟨n, rfl, _, _⟩ := DataW.trod_int Tryz.underlying3 hd
  exact ⟨n, fun ι => rfl⟩
theorem er_val : ElemRead enc Tryz.prog W (fun _ => true) held 39 encV := fun fuel cs x hd => by
  obtain ⟨hl, n, hp⟩ := part_of Tryz.underlying39 hd
  rw [cells_val] at hl
  obtain ⟨a, t0, rfl, hl0⟩ := uncons hl
  obtain ⟨b, t1, rfl, hl1⟩ := uncons hl0
  obtain rfl := List.length_eq_zero_iff.1 hl1
  obtain ⟨y0, h0, _⟩ := hp 0 3 0 rfl
  obtain ⟨y1, h1, _⟩ := hp 1 3 1 rfl
  simp only [cells_int] at h0 h1
  obtain ⟨n0, e0, _, _⟩ := DataW.trod_int Tryz.underlying3 h0
  obtain ⟨n1, e1, _, _⟩ := DataW.trod_int Tryz.underlying3 h1
  simp at e0 e1
  subst e0; subst e1
  exact ⟨⟨n0, n1⟩, fun ι => rfl⟩
theorem er_op : ElemRead enc Tryz.prog W (fun _ => true) held 94 encO := fun fuel cs x hd => by
  obtain ⟨hl, n, hp⟩ := part_of Tryz.underlying94 hd
  rw [cells_op] at hl
  obtain ⟨a, t0, rfl, hl0⟩ := uncons hl
  obtain ⟨b, t1, rfl, hl1⟩ := uncons hl0
  obtain ⟨c, t2, rfl, hl2⟩ := uncons hl1
  obtain ⟨d, t3, rfl, hl3⟩ := uncons hl2
  obtain ⟨e, t4, rfl, hl4⟩ := uncons hl3
  obtain ⟨f, t5, rfl, hl5⟩ := uncons hl4
  obtain rfl := List.length_eq_zero_iff.1 hl5
  obtain ⟨y0, h0, _⟩ := hp 0 3 0 rfl
  obtain ⟨y1, h1, _⟩ := hp 1 3 1 rfl
  obtain ⟨y2, h2, _⟩ := hp 2 3 2 rfl
  obtain ⟨y3, h3, _⟩ := hp 3 3 3 rfl
  obtain ⟨y4, h4, _⟩ := hp 4 39 4 rfl
  simp only [cells_int, cells_val] at h0 h1 h2 h3 h4
  obtain ⟨n0, e0, _, _⟩ := DataW.trod_int Tryz.underlying3 h0
  obtain ⟨n1, e1, _, _⟩ := DataW.trod_int Tryz.underlying3 h1
  obtain ⟨n2, e2, _, _⟩ := DataW.trod_int Tryz.underlying3 h2
  obtain ⟨n3, e3, _, _⟩ := DataW.trod_int Tryz.underlying3 h3
  obtain ⟨v, e4⟩ := er_val _ _ _ h4
  have q4 := e4 (fun _ => default)
  simp at e0 e1 e2 e3 q4
  subst e0; subst e1; subst e2; subst e3
  obtain ⟨rfl, rfl⟩ := q4
  exact ⟨⟨n0, n1, n2, n3, v⟩, fun ι => rfl⟩
variable {h : H} {ι : Plan} {fuel : Nat} {v : Value} {x : DataW H0 × List MemPlace}
theorem open_I (ho : Opn W h ι) (hd : DataW.trod enc Tryz.prog W 0 (fun _ => true) held fuel 24 [v] = some x) (hL : Light Tryz.prog 24 x.1) :
    ∃ (c : Cell) (xs : List Int) (h' : H) (ι' : Plan), Gr h ι h' ι' ∧ Opn W h' ι' ∧ SlA h' c 1 encI xs ∧ v = c.conc ι' ∧ c.below h'.length :=
  open_flat Tryz.underlying24 cells_int (by omega) (fun _ => rfl) (fun a c hc => by simp [encI] at hc; subst hc; rfl) er_int ho hd hL bytes_int
theorem open_V (ho : Opn W h ι) (hd : DataW.trod enc Tryz.prog W 0 (fun _ => true) held fuel 114 [v] = some x) (hL : Light Tryz.prog 114 x.1) :
    ∃ (c : Cell) (xs : List PVal) (h' : H) (ι' : Plan), Gr h ι h' ι' ∧ Opn W h' ι' ∧ SlA h' c 2 encV xs ∧ v = c.conc ι' ∧ c.below h'.length :=
  open_flat Tryz.underlying114 cells_val (by omega) (fun _ => rfl) (fun a c hc => by simp at hc; rcases hc with rfl | rfl <;> rfl) er_val ho hd hL bytes_val
theorem open_O (ho : Opn W h ι) (hd : DataW.trod enc Tryz.prog W 0 (fun _ => true) held fuel 22 [v] = some x) (hL : Light Tryz.prog 22 x.1) :
    ∃ (c : Cell) (xs : List POp) (h' : H) (ι' : Plan), Gr h ι h' ι' ∧ Opn W h' ι' ∧ SlA h' c 6 encO xs ∧ v = c.conc ι' ∧ c.below h'.length :=
  open_flat Tryz.underlying22 cells_op (by omega) (fun _ => rfl) (fun a c hc => by simp at hc; rcases hc with rfl | rfl | rfl | rfl | rfl | rfl <;> rfl) er_op ho hd hL bytes_op
theorem flat_conc {c : Cell} (h : c.flat = true) (ι ι' : Plan) : c.conc ι = c.conc ι' := by cases c <;> first | rfl | cases h
theorem open_run (h : H) (ι : Plan) (ho : Opn W h ι) (fuel : Nat) (cs : List Value) (x : DataW H0 × List MemPlace) (hd : DataW.trod enc Tryz.prog W 0 (fun _ => true) held fuel 116 cs = some x) (hL : Light Tryz.prog 116 x.1) (hl : cs.length = 13) :
    ∃ (r : PRun) (c : RunC) (h' : H) (ι' : Plan), Gr h ι h' ι' ∧ Opn W h' ι' ∧ RunA h' r c ∧ cs = (encR c).map (Cell.conc ι') ∧ ∀ y ∈ encR c, y.below h'.length := by
  obtain ⟨_, n, hp⟩ := part_of Tryz.underlying116 hd
  obtain ⟨a0, t0, rfl, hl0⟩ := uncons hl
  obtain ⟨a1, t1, rfl, hl1⟩ := uncons hl0
  obtain ⟨a2, t2, rfl, hl2⟩ := uncons hl1
  obtain ⟨a3, t3, rfl, hl3⟩ := uncons hl2
  obtain ⟨a4, t4, rfl, hl4⟩ := uncons hl3
  obtain ⟨a5, t5, rfl, hl5⟩ := uncons hl4
  obtain ⟨a6, t6, rfl, hl6⟩ := uncons hl5
  obtain ⟨a7, t7, rfl, hl7⟩ := uncons hl6
  obtain ⟨a8, t8, rfl, hl8⟩ := uncons hl7
  obtain ⟨a9, t9, rfl, hl9⟩ := uncons hl8
  obtain ⟨b0, t10, rfl, hl10⟩ := uncons hl9
  obtain ⟨b1, t11, rfl, hl11⟩ := uncons hl10
  obtain ⟨b2, t12, rfl, hl12⟩ := uncons hl11
  obtain rfl := List.length_eq_zero_iff.1 hl12
  obtain ⟨y0, h0, _⟩ := hp 0 3 0 rfl
  obtain ⟨y1, h1, _⟩ := hp 1 3 1 rfl
  obtain ⟨y2, h2, l2⟩ := hp 2 114 2 rfl
  obtain ⟨y3, h3, _⟩ := hp 3 3 3 rfl
  obtain ⟨y4, h4, l4⟩ := hp 4 114 4 rfl
  obtain ⟨y5, h5, _⟩ := hp 5 3 5 rfl
  obtain ⟨y6, h6, _⟩ := hp 6 3 6 rfl
  obtain ⟨y7, h7, l7⟩ := hp 7 24 7 rfl
  obtain ⟨y8, h8, l8⟩ := hp 8 24 8 rfl
  obtain ⟨y9, h9, _⟩ := hp 9 4 9 rfl
  obtain ⟨y10, h10, _⟩ := hp 10 39 10 rfl
  obtain ⟨y11, h11, _⟩ := hp 11 3 12 rfl
  simp only [cells_int, cells_val, cells_bool, cells_ints, cells_vals] at h0 h1 h2 h3 h4 h5 h6 h7 h8 h9 h10 h11
  obtain ⟨n0, e0, _, _⟩ := DataW.trod_int Tryz.underlying3 h0
  obtain ⟨n1, e1, _, _⟩ := DataW.trod_int Tryz.underlying3 h1
  obtain ⟨n3, e3, _, _⟩ := DataW.trod_int Tryz.underlying3 h3
  obtain ⟨n5, e5, _, _⟩ := DataW.trod_int Tryz.underlying3 h5
  obtain ⟨n6, e6, _, _⟩ := DataW.trod_int Tryz.underlying3 h6
  obtain ⟨n9, e9, _⟩ := DataW.trod_bool Tryz.underlying4 h9
  obtain ⟨vy, ey⟩ := er_val _ _ _ h10
  have qy := ey (fun _ => default)
  obtain ⟨n11, e11, _, _⟩ := DataW.trod_int Tryz.underlying3 h11
  simp at e0 e1 e3 e5 e6 e9 qy e11
  subst e0; subst e1; subst e3; subst e5; subst e6; subst e9; subst e11
  obtain ⟨rfl, rfl⟩ := qy
  obtain ⟨c2, x2, k2, i2, g2, o2, s2, v2, w2⟩ := open_V ho h2 (l2 hL)
  obtain ⟨c4, x4, k4, i4, g4, o4, s4, v4, w4⟩ := open_V o2 h4 (l4 hL)
  obtain ⟨c7, x7, k7, i7, g7, o7, s7, v7, w7⟩ := open_I o4 h7 (l7 hL)
  obtain ⟨c8, x8, k8, i8, g8, o8, s8, v8, w8⟩ := open_I o7 h8 (l8 hL)
  refine ⟨⟨n0, n1, x2, n3, x4, n5, n6, x7, x8, n9, vy, n11⟩, ⟨n0, n1, c2, n3, c4, n5, n6, c7, c8, n9, vy, n11⟩, k8, i8, g2.trans (g4.trans (g7.trans g8)), o8, ⟨rfl, rfl, s2.ext (g4.trans (g7.trans g8)).ext, rfl, s4.ext (g7.trans g8).ext, rfl, rfl, s7.ext g8.ext, s8, rfl, rfl, rfl⟩, ?_, ?_⟩
  · have q2 : c2.conc i8 = c2.conc i2 := (g4.trans (g7.trans g8)).conc w2
    have q4 : c4.conc i8 = c4.conc i4 := (g7.trans g8).conc w4
    have q7 : c7.conc i8 = c7.conc i7 := g8.conc w7
    rw [v2, v4, v7, v8, ← q2, ← q4, ← q7]
    rfl
  · intro y hy
    simp at hy
    rcases hy with rfl | rfl | rfl | rfl | rfl | rfl | rfl | rfl | rfl | rfl | rfl | rfl | rfl
    · trivial
    · trivial
    · exact (g4.trans (g7.trans g8)).below w2
    · trivial
    · exact (g7.trans g8).below w4
    · trivial
    · trivial
    · exact g8.below w7
    · exact w8
    all_goals trivial
theorem open_R (ho : Opn W h ι) (hd : DataW.trod enc Tryz.prog W 0 (fun _ => true) held fuel 23 [v] = some x) (hL : Light Tryz.prog 23 x.1) :
    ∃ (c : Cell) (rs : List PRun) (cs : List RunC) (h' : H) (ι' : Plan), Gr h ι h' ι' ∧ Opn W h' ι' ∧ RunsA h' c rs cs ∧ v = c.conc ι' ∧ c.below h'.length := by
  obtain ⟨c, rs, cs, h', ι', g, o, s, hl, he, hv, hb⟩ := open_deep Tryz.underlying23 cells_run (by omega) (fun _ => rfl) (R := fun h r c => RunA h r c) (fun _ _ _ _ hx hr => hr.ext hx) open_run ho hd hL bytes_run
  exact ⟨c, rs, cs, h', ι', g, o, ⟨s, hl, fun i hi => he i hi (by omega)⟩, hv, hb⟩
/-- A world that comes in. -/
theorem open_world {v : Value} {fuel : Nat} (ho : Opn W h ι) (hd : DataW.trod enc Tryz.prog W 0 (fun _ => true) held fuel 26 v.cells.toList = some x) (hL : Light Tryz.prog 26 x.1) :
    ∃ (w : PWorld) (c : WorldC) (cs : List RunC) (h' : H) (ι' : Plan), Gr h ι h' ι' ∧ Opn W h' ι' ∧ WorldA h' w c cs ∧ v.cells.toList = (encW c).map (Cell.conc ι') ∧ ∀ y ∈ encW c, y.below h'.length := by
  generalize v.cells.toList = cs at hd
  obtain ⟨hl, n, hp⟩ := part_of Tryz.underlying26 hd
  rw [cells_world] at hl
  obtain ⟨a0, t0, rfl, hl0⟩ := uncons hl
  obtain ⟨a1, t1, rfl, hl1⟩ := uncons hl0
  obtain ⟨a2, t2, rfl, hl2⟩ := uncons hl1
  obtain ⟨a3, t3, rfl, hl3⟩ := uncons hl2
  obtain ⟨a4, t4, rfl, hl4⟩ := uncons hl3
  obtain ⟨a5, t5, rfl, hl5⟩ := uncons hl4
  obtain ⟨a6, t6, rfl, hl6⟩ := uncons hl5
  obtain rfl := List.length_eq_zero_iff.1 hl6
  obtain ⟨y0, h0, l0⟩ := hp 0 22 0 rfl
  obtain ⟨y1, h1, l1⟩ := hp 1 23 1 rfl
  obtain ⟨y2, h2, l2⟩ := hp 2 24 2 rfl
  obtain ⟨y3, h3, _⟩ := hp 3 3 3 rfl
  obtain ⟨y4, h4, _⟩ := hp 4 3 4 rfl
  obtain ⟨y5, h5, _⟩ := hp 5 3 5 rfl
  obtain ⟨y6, h6, _⟩ := hp 6 3 6 rfl
  simp only [cells_int, cells_ints, cells_ops, cells_runs] at h0 h1 h2 h3 h4 h5 h6
  obtain ⟨n3, e3, _, _⟩ := DataW.trod_int Tryz.underlying3 h3
  obtain ⟨n4, e4, _, _⟩ := DataW.trod_int Tryz.underlying3 h4
  obtain ⟨n5, e5, _, _⟩ := DataW.trod_int Tryz.underlying3 h5
  obtain ⟨n6, e6, _, _⟩ := DataW.trod_int Tryz.underlying3 h6
  simp at e3 e4 e5 e6
  subst e3; subst e4; subst e5; subst e6
  obtain ⟨c0, x0, k0, i0, g0, o0, s0, v0, w0⟩ := open_O ho h0 (l0 hL)
  obtain ⟨c1, rs, cs, k1, i1, g1, o1, s1, v1, w1⟩ := open_R o0 h1 (l1 hL)
  obtain ⟨c2, x2, k2, i2, g2, o2, s2, v2, w2⟩ := open_I o1 h2 (l2 hL)
  refine ⟨⟨x0, rs, x2, n3, n4, n5, n6⟩, ⟨c0, c1, c2, n3, n4, n5, n6⟩, cs, k2, i2, g0.trans (g1.trans g2), o2, ⟨s0.ext (g1.trans g2).ext, s1.ext g2.ext, s2, rfl, rfl, rfl, rfl⟩, ?_, ?_⟩
  · have q0 : c0.conc i2 = c0.conc i0 := (g1.trans g2).conc w0
    have q1 : c1.conc i2 = c1.conc i1 := g2.conc w1
    rw [v0, v1, v2, ← q0, ← q1]
    rfl
  · intro y hy
    simp at hy
    rcases hy with rfl | rfl | rfl | rfl | rfl | rfl | rfl
    · exact (g1.trans g2).below w0
    · exact g2.below w1
    · exact w2
    all_goals trivial
end
end Go.Proofs.YtkcfminmojolhaaGreat

/-
  THE PROGRAM OF THE ABSTRACT MACHINE IS SOUND: the one function told by its answer alone answers so.
-/
set_option maxRecDepth 8000
namespace Go.Proofs.YtkcfminmojolhaaGreat
open Go.AM Go.RowKit
set_option maxHeartbeats 1000000 in
set_option maxRecDepth 100000 in
theorem indexByte_calls (s : ByteArray) (c : Int) (w : World) :
    Calls Tryz.prog 246 #[.string s, .int .u8 c] w fun e w' => e = .returned (.int .i64 (Lib.indexByte s.data.toList c.toNat.toUInt8)) ∧ w' = w := by
  go_enter Tryz.func246, Tryz.ntmps246
  go_wp2
  rw [run_callFunc_extern Tryz.func250 (by kernel_rfl) (by kernel_rfl) (by kernel_rfl) (e := Extern.BytealgIndexByte.indexByte) (by kernel_rfl), Lib.run_indexByteString]
  simp only [Result.andThen]
  rw [Oper.upon_value]
  go_wp2
  go_ret
  exact ⟨rfl, rfl⟩
theorem prims_ok : Dz.PrimOk := by
  intro f args r h
  unfold Dz primF at h
  simp only at h
  split at h
  · cases h
  · rename_i hf
    split at h
    · rename_i s c
      cases h
      have hf : f = 246 := by simpa using hf
      subst hf
      refine ⟨fun hp B ι w cargs hr hl hargs => ?_, _, Tryz.func246, by kernel_rfl⟩
      match cargs, hl with
      | [a, b], _ =>
        have h0 := hargs 0 _ a rfl rfl
        have h1 := hargs 1 _ b rfl rfl
        simp [V.rel] at h0 h1
        obtain ⟨rfl, _⟩ := h0; obtain ⟨rfl, _⟩ := h1
        refine (indexByte_calls s c w).mono fun e w' ⟨he, hw⟩ => ?_
        subst hw
        exact ⟨_, ι, he, hr, FR.refl _ _ _, rfl, trivial⟩
    · cases h
theorem dz_ok : Dz.Ok := ⟨types_ok, mixed_ok, names_ok, prims_ok⟩
end Go.Proofs.YtkcfminmojolhaaGreat

/-
  FROM THE ABSTRACT MACHINE TO A ROW: what a law answers there it answers, and what came in stays.
-/
set_option maxRecDepth 8000
namespace Go.Proofs.YtkcfminmojolhaaGreat
open Go.AM
section
variable {H0 : Type} {enc : TypeId × Value → H0} {W : World} {held : Bool}
theorem light_of {P : Program} {ts : List TypeId} {ds : List (DataW H0)} {i : Nat} {t : TypeId} {d : DataW H0} (h : (DataW.weightsEach P ts ds).all (· ≤ reachBytes) = true) (ht : ts[i]? = some t) (hd : ds[i]? = some d) : Light P t d := fun n hn => by
  have := List.all_eq_true.1 h n (weightsEach_mem ht hd n hn)
  simpa using this
theorem law_calls {h : H} {ι : Plan} (ho : Opn W h ι) {f : FuncId} {args : List V} {h' : H} (hd : Dz.den f args h = some (.c (.bool true), h')) (cargs : List Value) (hl : cargs.length = args.length)
    (ha : ∀ (j : Nat) (v : V) (u : Value), args[j]? = some v → cargs[j]? = some u → v.rel ι h.length u) :
    Calls Tryz.prog f cargs.toArray W fun e W' => e = .returned (.bool true) ∧ Go.RowKit.Below W.heap.size W W' := by
  refine (den_ok dz_ok hd 0 ι W cargs ho.hr hl ha).mono fun e W' ⟨x, ι', he, _, hf, hx⟩ => ?_
  have hx1 := (V.rel_known hx rfl).1
  subst he; subst hx1
  exact ⟨rfl, hf.os, hf.tape, hf.output, hf.size, fun k hk => hf.keep k hk fun id bl hg hro => absurd (ho.ro id bl hg) (by rw [hro]; simp)⟩
set_option maxRecDepth 100000 in
theorem world_arg {r : Reach} {b0 : Nat} {v : Value} {d : DataW H0} {ps : List MemPlace} (hv : Value.okWide Tryz.prog W r b0 26 v) (hd : DataW.Trod enc Tryz.prog W 0 (fun _ => true) held 26 v d ps) (hL : Light Tryz.prog 26 d) :
    ∃ (w : PWorld) (c : WorldC) (cs : List RunC) (h : H) (ι : Plan), Opn W h ι ∧ WorldA h w c cs ∧ (V.g (encW c)).rel ι h.length v := by
  obtain ⟨vs, rfl, _⟩ := Go.WideShapes.okWide_struct Tryz.underlying26 hv
  obtain ⟨fuel, hf⟩ := hd
  obtain ⟨w, c, cs, h', ι', _, o, hw, hc, hb⟩ := open_world (Opn.nil W) hf hL
  refine ⟨w, c, cs, h', ι', o, hw, V.rel_mk ?_ hb⟩
  simp only [Value.cells] at hc
  show Value.agg vs = .agg _
  rw [← hc]
theorem laidOut : Go.laidOutB Tryz.prog = true := by kernel_rfl
theorem ownKnob_none : ownKnob Tryz.prog.godebug = none := by kernel_rfl
end
end Go.Proofs.YtkcfminmojolhaaGreat

/-
  WHAT COMES IN, OPENED: an event.
-/
set_option maxRecDepth 8000
namespace Go.Proofs.YtkcfminmojolhaaGreat
open Go.AM
section
variable {H0 : Type} {enc : TypeId × Value → H0} {W : World} {held : Bool}
theorem cells_event : Tryz.prog.cellsOf 41 = 4 := by kernel_rfl
theorem er_event : ElemRead enc Tryz.prog W (fun _ => true) held 41 encE := fun fuel cs x hd => by
  obtain ⟨hl, n, hp⟩ := part_of Tryz.underlying41 hd
  rw [cells_event] at hl
  obtain ⟨a, t0, rfl, hl0⟩ := uncons hl
  obtain ⟨b, t1, rfl, hl1⟩ := uncons hl0
  obtain ⟨c, t2, rfl, hl2⟩ := uncons hl1
  obtain ⟨d, t3, rfl, hl3⟩ := uncons hl2
  obtain rfl := List.length_eq_zero_iff.1 hl3
  obtain ⟨y0, h0, _⟩ := hp 0 3 0 rfl
  obtain ⟨y1, h1, _⟩ := hp 1 3 1 rfl
  obtain ⟨y2, h2, _⟩ := hp 2 39 2 rfl
  simp only [cells_int, cells_val] at h0 h1 h2
  obtain ⟨n0, e0, _, _⟩ := DataW.trod_int Tryz.underlying3 h0
  obtain ⟨n1, e1, _, _⟩ := DataW.trod_int Tryz.underlying3 h1
  obtain ⟨v, e2⟩ := er_val _ _ _ h2
  have e2' := e2 (fun _ => default)
  simp at e0 e1
  simp [Cell.conc] at e2'
  obtain ⟨q1, q2⟩ := e2'
  subst e0; subst e1; subst q1; subst q2
  exact ⟨⟨n0, n1, v⟩, fun ι => rfl⟩
theorem event_arg {r : Reach} {b0 : Nat} {v : Value} {d : DataW H0} {ps : List MemPlace} (hv : Value.okWide Tryz.prog W r b0 41 v) (hd : DataW.Trod enc Tryz.prog W 0 (fun _ => true) held 41 v d ps) :
    ∃ e : PEvent, ∀ (ι : Plan) (n : Nat), (V.g (encE e)).rel ι n v := by
  obtain ⟨vs, rfl, _⟩ := Go.WideShapes.okWide_struct Tryz.underlying41 hv
  obtain ⟨fuel, hf⟩ := hd
  obtain ⟨e, he⟩ := er_event _ _ _ hf
  refine ⟨e, fun ι n => V.rel_mk ?_ ?_⟩
  · have := he ι
    simp only [Value.cells] at this
    show Value.agg vs = .agg _
    rw [← this]
  · simp [V.ok, V.ok1, Cell.below]
end
end Go.Proofs.YtkcfminmojolhaaGreat

/-
  WHAT COMES IN, OPENED: steps and what happens.
-/
set_option maxRecDepth 8000
namespace Go.Proofs.YtkcfminmojolhaaGreat
open Go.AM
section
variable {H0 : Type} {enc : TypeId × Value → H0} {W : World} {held : Bool}
theorem bytes_event : 0 < Tryz.prog.bytesOf 41 := of_decide_eq_true (by kernel_rfl)
variable {h : H} {ι : Plan} {fuel : Nat} {v : Value} {x : DataW H0 × List MemPlace}
theorem open_E (ho : Opn W h ι) (hd : DataW.trod enc Tryz.prog W 0 (fun _ => true) held fuel 48 [v] = some x) (hL : Light Tryz.prog 48 x.1) :
    ∃ (c : Cell) (xs : List PEvent) (h' : H) (ι' : Plan), Gr h ι h' ι' ∧ Opn W h' ι' ∧ SlA h' c 4 encE xs ∧ v = c.conc ι' ∧ c.below h'.length :=
  open_flat Tryz.underlying48 cells_event (by omega) (fun _ => rfl) (fun a c hc => by simp at hc; rcases hc with rfl | rfl | rfl | rfl <;> rfl) er_event ho hd hL bytes_event
theorem opsEvents_arg {r : Reach} {b0 b1 : Nat} {v v' : Value} {d d' : DataW H0} {ps ps' : List MemPlace} (hv : Value.okWide Tryz.prog W r b0 22 v) (hd : DataW.Trod enc Tryz.prog W 0 (fun _ => true) held 22 v d ps) (hL : Light Tryz.prog 22 d)
    (hv' : Value.okWide Tryz.prog W r b1 48 v') (hd' : DataW.Trod enc Tryz.prog W 0 (fun _ => true) held 48 v' d' ps') (hL' : Light Tryz.prog 48 d') :
    ∃ (s : Cell) (code : List POp) (t : Cell) (evs : List PEvent) (h : H) (ι : Plan), Opn W h ι ∧ SlA h s 6 encO code ∧ SlA h t 4 encE evs ∧ (V.c s).rel ι h.length v ∧ (V.c t).rel ι h.length v' := by
  obtain ⟨a, n, c, rfl⟩ := Go.WideShapes.okWide_slice Tryz.underlying22 hv
  obtain ⟨a', n', c', rfl⟩ := Go.WideShapes.okWide_slice Tryz.underlying48 hv'
  obtain ⟨f0, hf⟩ := hd
  obtain ⟨f1, hf'⟩ := hd'
  obtain ⟨s, code, k0, i0, g0, o0, s0, e0, w0⟩ := open_O (Opn.nil W) hf hL
  obtain ⟨t, evs, k1, i1, g1, o1, s1, e1, w1⟩ := open_E o0 hf' hL'
  refine ⟨s, code, t, evs, k1, i1, o1, s0.ext g1.ext, s1, V.rel_mk ?_ (g1.below w0), V.rel_mk e1 w1⟩
  rw [e0]
  exact (g1.conc w0).symm
end
end Go.Proofs.YtkcfminmojolhaaGreat
