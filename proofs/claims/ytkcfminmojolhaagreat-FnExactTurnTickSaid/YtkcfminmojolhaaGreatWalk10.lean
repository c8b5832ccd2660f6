/-
  What functions of the seat answer, each proved once; each under the condition that cells bear what it is given, as its statement says.
-/
import Derived.Test.YtkcfminmojolhaaGreatWalk9
import Derived.WideShapes
import Derived.Below
import Derived.Carry
set_option linter.all false
/-
  FROM THE ABSTRACT MACHINE TO A ROW: what a law answers there it answers, and what came in stays.
-/
set_option maxRecDepth 8000
namespace Go.Proofs.YtkcfminmojolhaaGreat
open Go.AM
section
variable {H0 : Type} {enc : TypeId × Value → H0} {W : World} {held : Bool}
theorem light_of {P : Program} {ts : List TypeId} {ds : List (DataW H0)} {i : Nat} {t : TypeId} {d : DataW H0} (h : (DataW.weightsEach P ts ds).all (· ≤ reachBytes) = true) (ht : ts[i]? = some t) (hd : ds[i]? = some d) : Light P t d := fun n hn => by
  have := List.all_eq_true.1 h n (weightsEach_mem ht hd n hn)
  simpa using this
theorem law_calls {h : H} {ι : Plan} (ho : Opn W h ι) {f : FuncId} {args : List V} {h' : H} (hd : Dz.den f args h = some (.c (.bool true), h')) (cargs : List Value) (hl : cargs.length = args.length)
    (ha : ∀ (j : Nat) (v : V) (u : Value), args[j]? = some v → cargs[j]? = some u → v.rel ι h.length u) :
    Calls Tryz.prog f cargs.toArray W fun e W' => e = .returned (.bool true) ∧ Go.RowKit.Below W.heap.size W W' := by
  refine (den_ok dz_ok hd 0 ι W cargs ho.hr hl ha).mono fun e W' ⟨x, ι', he, _, hf, hx⟩ => ?_
  have hx1 := (V.rel_known hx rfl).1
  subst he; subst hx1
  exact ⟨rfl, hf.os, hf.tape, hf.output, hf.size, fun k hk => hf.keep k hk fun id bl hg hro => absurd (ho.ro id bl hg) (by rw [hro]; simp)⟩
set_option maxRecDepth 100000 in
theorem world_arg {r : Reach} {b0 : Nat} {v : Value} {d : DataW H0} {ps : List MemPlace} (hv : Value.okWide Tryz.prog W r b0 26 v) (hd : DataW.Trod enc Tryz.prog W 0 (fun _ => true) held 26 v d ps) (hL : Light Tryz.prog 26 d) :
    ∃ (w : PWorld) (c : WorldC) (cs : List RunC) (h : H) (ι : Plan), Opn W h ι ∧ WorldA h w c cs ∧ (V.g (encW c)).rel ι h.length v := by
  obtain ⟨vs, rfl, _⟩ := Go.WideShapes.okWide_struct Tryz.underlying26 hv
  obtain ⟨fuel, hf⟩ := hd
  obtain ⟨w, c, cs, h', ι', _, o, hw, hc, hb⟩ := open_world (Opn.nil W) hf hL
  refine ⟨w, c, cs, h', ι', o, hw, V.rel_mk ?_ hb⟩
  simp only [Value.cells] at hc
  show Value.agg vs = .agg _
  rw [← hc]
theorem laidOut : Go.laidOutB Tryz.prog = true := by kernel_rfl
theorem ownKnob_none : ownKnob Tryz.prog.godebug = none := by kernel_rfl
end
end Go.Proofs.YtkcfminmojolhaaGreat
