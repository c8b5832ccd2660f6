/-
  What functions of the seat answer, each proved once; each under the condition that cells bear what it is given, as its statement says.
-/
import Derived.Test.YtmkiojlebjknlaaGreatWalkA12
import Derived.Test.YtmkiojlebjknlaaGreatWalkA7
set_option linter.all false
/-
 WHAT IS DRAWN: steps.
-/
set_option maxRecDepth 8000
namespace Go.Proofs.YtmkiojlebjknlaaGreat
open Go.AM
variable {h k : H} {p n m : Nat} {d : Cell} {bs : List Int}
theorem c_l71Good (R : Rdr h p d bs n) (hn : n ≤ 100000000) : @Wp _ (Dz.den 158 [.c (.ptr p 0 0)] h) ⟨DrawQ h p d bs n 10 (fun v _ => ∃ x : PVal, v = .g (encV x) ∧ valOk x = true)⟩ := by
 refine den_wp rfl Tryz.func158 rfl ?_
 obtain ⟨_, e1, _, k1, q, rfl, ⟨x, rfl⟩, R1, hq, c1⟩ := c_l71Val R hn
 simp only [encV] at e1
 by_cases hx : valOk x = true
 ·have hx' : valOk ⟨x.k, x.n⟩ = true := hx
  simp [Tryz.f158, e1, hx']
  exact ⟨_, k1, q, rfl, ⟨x, rfl, hx⟩, R1, hq, c1⟩
 ·have hx' : valOk ⟨x.k, x.n⟩ = false := by simpa using hx
  simp [Tryz.f158, e1, hx']
  exact ⟨_, k1, q, rfl, ⟨⟨1, 1⟩, rfl, by decide⟩, R1, hq, c1⟩
theorem good1 (R : Rdr h p d bs n) (hn : n ≤ 100000000) : ∃ x : PVal, ∃ k m, Dz.den 158 [.c (.ptr p 0 0)] h = some (.g [.int .i64 x.k, .int .i64 x.n], k) ∧ valOk x = true ∧ Rdr k p d bs m ∧ m ≤ n + 10 ∧ Chg h (fun id => id = p) k := by
 obtain ⟨_, e1, _, k1, q, rfl, ⟨x, rfl, hx⟩, R1, hq, c1⟩ := c_l71Good R hn
 exact ⟨x, k1, q, e1, hx, R1, hq, c1⟩
def Row4 (k : H) (id : Nat) (a b c e : Bool) : Prop :=
 (ixA TTz k (.slice 4) (.c (.sl id 0 4 none)) (.c (.int .i64 0)) = some (.c (.ptr id 0 0)) ∧ ixA TTz k (.slice 4) (.c (.sl id 0 4 none)) (.c (.int .i64 1)) = some (.c (.ptr id 1 0)) ∧
  ixA TTz k (.slice 4) (.c (.sl id 0 4 none)) (.c (.int .i64 2)) = some (.c (.ptr id 2 0)) ∧ ixA TTz k (.slice 4) (.c (.sl id 0 4 none)) (.c (.int .i64 3)) = some (.c (.ptr id 3 0))) ∧
 k.cellsAt id 0 0 1 = some [.bool a] ∧ k.cellsAt id 1 0 1 = some [.bool b] ∧ k.cellsAt id 2 0 1 = some [.bool c] ∧ k.cellsAt id 3 0 1 = some [.bool e]
theorem row4 {id : Nat} {a b c e : Bool} (S : Sl k (.sl id 0 4 none) 1 encB [a, b, c, e]) : Row4 k id a b c e := by
 have i0 := ixA_nat S (T := TTz) (e := 4) (k := .i64) (n := 0) rfl rfl (by simp)
 have i1 := ixA_nat S (T := TTz) (e := 4) (k := .i64) (n := 1) rfl rfl (by simp)
 have i2 := ixA_nat S (T := TTz) (e := 4) (k := .i64) (n := 2) rfl rfl (by simp)
 have i3 := ixA_nat S (T := TTz) (e := 4) (k := .i64) (n := 3) rfl rfl (by simp)
 have a0 := S.at (n := 0) (k := 0) (m := 1) (by simp) (by omega)
 have a1 := S.at (n := 1) (k := 0) (m := 1) (by simp) (by omega)
 have a2 := S.at (n := 2) (k := 0) (m := 1) (by simp) (by omega)
 have a3 := S.at (n := 3) (k := 0) (m := 1) (by simp) (by omega)
 simp only [sid, soff] at i0 i1 i2 i3 a0 a1 a2 a3
 exact ⟨⟨by simpa using i0, by simpa using i1, by simpa using i2, by simpa using i3⟩, by simpa [encB] using a0, by simpa [encB] using a1, by simpa [encB] using a2, by simpa [encB] using a3⟩
set_option maxRecDepth 16000 in
set_option maxHeartbeats 8000000 in
theorem c_l71Op (R : Rdr h p d bs n) (hn : n ≤ 10000000) {w : Int} (hw : 1 ≤ w ∧ w ≤ 100000) : @Wp _ (Dz.den 98 [.c (.ptr p 0 0), .c (.int .i64 w)] h) ⟨DrawQ h p d bs n 20 (fun v _ => ∃ x : POp, v = .g (encO x))⟩ := by
 refine den_wp rfl Tryz.func98 rfl ?_
 obtain ⟨v, k1, e1, b1, R1, c1⟩ := pick1 R (by omega) (m := 14) (by omega) (by omega)
 have fin : ∀ (g : H) (q : Nat) (x : POp), Rdr g p d bs q → q ≤ n + 20 → Chg h (fun id => id = p) g → ∀ r : V × H, r = (.g (encO x), g) → DrawQ h p d bs n 20 (fun v _ => ∃ x : POp, v = .g (encO x)) r := fun g q x Rg hq cg r hr => ⟨_, g, q, hr, ⟨x, rfl⟩, Rg, hq, cg⟩
 have hF := c_l2Form (h := k1)
 have hB : ∀ fs : List Bool, Sl (k1.push ⟨false, 1, fs.map encB⟩) (.sl k1.length 0 fs.length none) 1 encB fs ∨ sMost < fs.length := fun fs => by
  rcases Nat.lt_or_ge sMost fs.length with h1 | h1
  ·exact .inr h1
  ·exact .inl (Sl.new (by simp [encB]) h1)
 have hp1 : p ∉ (Cell.sl k1.length 0 4 none).ids := by simp only [Cell.ids, List.mem_singleton]; have := R1.lt; omega
 have c1' := c1.pp (Chg.of_ext (Ext.push k1 ⟨false, 1, []⟩) _)
 obtain rfl | rfl | rfl | rfl | rfl | rfl | rfl | rfl | rfl | rfl | rfl | rfl | rfl | rfl : v = 0 ∨ v = 1 ∨ v = 2 ∨ v = 3 ∨ v = 4 ∨ v = 5 ∨ v = 6 ∨ v = 7 ∨ v = 8 ∨ v = 9 ∨ v = 10 ∨ v = 11 ∨ v = 12 ∨ v = 13 := by omega
 ·have eF := hF 1
  have S0 : Sl (k1.push ⟨false, 1, (form 1).map encB⟩) (.sl k1.length 0 4 none) 1 encB [true, false, false, true] := (hB (form 1)).resolve_right (by simp [form, sMost])
  have g0 := c1.pp (Chg.of_ext (Ext.push k1 ⟨false, 1, (form 1).map encB⟩) _)
  have Q0 := R1.ext (Ext.push k1 ⟨false, 1, (form 1).map encB⟩)
  obtain ⟨⟨i0, i1, i2, i3⟩, a0, a1, a2, a3⟩ := row4 S0
  have wk : IntKind.i64.wrap 1 = 1 := wrapS (by omega) (by omega)
  obtain ⟨x1, j1, t1, _, Q1, h1⟩ := pick1 Q0 (by omega) (m := 4) (by omega) (by omega)
  have S1 := Sl.chgp S0 h1 hp1
  have g1 := g0.pp h1
  obtain ⟨⟨u10, u11, u12, u13⟩, w10, w11, w12, w13⟩ := row4 S1
  obtain ⟨x2, j2, q2, t2, _, Q2, _, h2⟩ := good1 Q1 (by omega)
  have S2 := Sl.chgp S1 h2 hp1
  have g2 := g1.pp h2
  obtain ⟨⟨u20, u21, u22, u23⟩, w20, w21, w22, w23⟩ := row4 S2
  simp [form, encB] at e1 eF t1 t2
  simp [Tryz.f98, wk, e1, eF, i0, i1, i2, i3, a0, a1, a2, a3, t1, u10, u11, u12, u13, w10, w11, w12, w13, t2, u20, u21, u22, u23, w20, w21, w22, w23]
  exact fin j2 _ ⟨1, _, _, _, ⟨_, _⟩⟩ Q2 (by omega) g2 _ rfl
 ·have eF := hF 2
  have S0 : Sl (k1.push ⟨false, 1, (form 2).map encB⟩) (.sl k1.length 0 4 none) 1 encB [true, true, false, false] := (hB (form 2)).resolve_right (by simp [form, sMost])
  have g0 := c1.pp (Chg.of_ext (Ext.push k1 ⟨false, 1, (form 2).map encB⟩) _)
  have Q0 := R1.ext (Ext.push k1 ⟨false, 1, (form 2).map encB⟩)
  obtain ⟨⟨i0, i1, i2, i3⟩, a0, a1, a2, a3⟩ := row4 S0
  have wk : IntKind.i64.wrap 2 = 2 := wrapS (by omega) (by omega)
  obtain ⟨x1, j1, t1, _, Q1, h1⟩ := pick1 Q0 (by omega) (m := 4) (by omega) (by omega)
  have S1 := Sl.chgp S0 h1 hp1
  have g1 := g0.pp h1
  obtain ⟨⟨u10, u11, u12, u13⟩, w10, w11, w12, w13⟩ := row4 S1
  obtain ⟨x2, j2, t2, _, Q2, h2⟩ := pick1 Q1 (by omega) (m := 4) (by omega) (by omega)
  have S2 := Sl.chgp S1 h2 hp1
  have g2 := g1.pp h2
  obtain ⟨⟨u20, u21, u22, u23⟩, w20, w21, w22, w23⟩ := row4 S2
  simp [form, encB] at e1 eF t1 t2
  simp [Tryz.f98, wk, e1, eF, i0, i1, i2, i3, a0, a1, a2, a3, t1, u10, u11, u12, u13, w10, w11, w12, w13, t2, u20, u21, u22, u23, w20, w21, w22, w23]
  exact fin j2 _ ⟨2, _, _, _, ⟨_, _⟩⟩ Q2 (by omega) g2 _ rfl
 ·have eF := hF 3
  have S0 : Sl (k1.push ⟨false, 1, (form 3).map encB⟩) (.sl k1.length 0 4 none) 1 encB [true, true, false, false] := (hB (form 3)).resolve_right (by simp [form, sMost])
  have g0 := c1.pp (Chg.of_ext (Ext.push k1 ⟨false, 1, (form 3).map encB⟩) _)
  have Q0 := R1.ext (Ext.push k1 ⟨false, 1, (form 3).map encB⟩)
  obtain ⟨⟨i0, i1, i2, i3⟩, a0, a1, a2, a3⟩ := row4 S0
  have wk : IntKind.i64.wrap 3 = 3 := wrapS (by omega) (by omega)
  obtain ⟨x1, j1, t1, _, Q1, h1⟩ := pick1 Q0 (by omega) (m := 4) (by omega) (by omega)
  have S1 := Sl.chgp S0 h1 hp1
  have g1 := g0.pp h1
  obtain ⟨⟨u10, u11, u12, u13⟩, w10, w11, w12, w13⟩ := row4 S1
  obtain ⟨x2, j2, t2, _, Q2, h2⟩ := pick1 Q1 (by omega) (m := 4) (by omega) (by omega)
  have S2 := Sl.chgp S1 h2 hp1
  have g2 := g1.pp h2
  obtain ⟨⟨u20, u21, u22, u23⟩, w20, w21, w22, w23⟩ := row4 S2
  simp [form, encB] at e1 eF t1 t2
  simp [Tryz.f98, wk, e1, eF, i0, i1, i2, i3, a0, a1, a2, a3, t1, u10, u11, u12, u13, w10, w11, w12, w13, t2, u20, u21, u22, u23, w20, w21, w22, w23]
  exact fin j2 _ ⟨3, _, _, _, ⟨_, _⟩⟩ Q2 (by omega) g2 _ rfl
 ·have eF := hF 4
  have S0 : Sl (k1.push ⟨false, 1, (form 4).map encB⟩) (.sl k1.length 0 4 none) 1 encB [true, false, false, false] := (hB (form 4)).resolve_right (by simp [form, sMost])
  have g0 := c1.pp (Chg.of_ext (Ext.push k1 ⟨false, 1, (form 4).map encB⟩) _)
  have Q0 := R1.ext (Ext.push k1 ⟨false, 1, (form 4).map encB⟩)
  obtain ⟨⟨i0, i1, i2, i3⟩, a0, a1, a2, a3⟩ := row4 S0
  have wk : IntKind.i64.wrap 4 = 4 := wrapS (by omega) (by omega)
  obtain ⟨x1, j1, t1, _, Q1, h1⟩ := pick1 Q0 (by omega) (m := 4) (by omega) (by omega)
  have S1 := Sl.chgp S0 h1 hp1
  have g1 := g0.pp h1
  obtain ⟨⟨u10, u11, u12, u13⟩, w10, w11, w12, w13⟩ := row4 S1
  simp [form, encB] at e1 eF t1
  simp [Tryz.f98, wk, e1, eF, i0, i1, i2, i3, a0, a1, a2, a3, t1, u10, u11, u12, u13, w10, w11, w12, w13]
  exact fin j1 _ ⟨4, _, _, _, ⟨_, _⟩⟩ Q1 (by omega) g1 _ rfl
 ·have eF := hF 5
  have S0 : Sl (k1.push ⟨false, 1, (form 5).map encB⟩) (.sl k1.length 0 4 none) 1 encB [true, false, true, false] := (hB (form 5)).resolve_right (by simp [form, sMost])
  have g0 := c1.pp (Chg.of_ext (Ext.push k1 ⟨false, 1, (form 5).map encB⟩) _)
  have Q0 := R1.ext (Ext.push k1 ⟨false, 1, (form 5).map encB⟩)
  obtain ⟨⟨i0, i1, i2, i3⟩, a0, a1, a2, a3⟩ := row4 S0
  have wk : IntKind.i64.wrap 5 = 5 := wrapS (by omega) (by omega)
  obtain ⟨x1, j1, t1, _, Q1, h1⟩ := pick1 Q0 (by omega) (m := 4) (by omega) (by omega)
  have S1 := Sl.chgp S0 h1 hp1
  have g1 := g0.pp h1
  obtain ⟨⟨u10, u11, u12, u13⟩, w10, w11, w12, w13⟩ := row4 S1
  obtain ⟨x2, j2, t2, _, Q2, h2⟩ := pick1 Q1 (by omega) (m := w) (by omega) (by omega)
  have S2 := Sl.chgp S1 h2 hp1
  have g2 := g1.pp h2
  obtain ⟨⟨u20, u21, u22, u23⟩, w20, w21, w22, w23⟩ := row4 S2
  simp [form, encB] at e1 eF t1 t2
  simp [Tryz.f98, wk, e1, eF, i0, i1, i2, i3, a0, a1, a2, a3, t1, u10, u11, u12, u13, w10, w11, w12, w13, t2, u20, u21, u22, u23, w20, w21, w22, w23]
  exact fin j2 _ ⟨5, _, _, _, ⟨_, _⟩⟩ Q2 (by omega) g2 _ rfl
 ·have eF := hF 6
  have S0 : Sl (k1.push ⟨false, 1, (form 6).map encB⟩) (.sl k1.length 0 4 none) 1 encB [true, true, false, false] := (hB (form 6)).resolve_right (by simp [form, sMost])
  have g0 := c1.pp (Chg.of_ext (Ext.push k1 ⟨false, 1, (form 6).map encB⟩) _)
  have Q0 := R1.ext (Ext.push k1 ⟨false, 1, (form 6).map encB⟩)
  obtain ⟨⟨i0, i1, i2, i3⟩, a0, a1, a2, a3⟩ := row4 S0
  have wk : IntKind.i64.wrap 6 = 6 := wrapS (by omega) (by omega)
  obtain ⟨x1, j1, t1, _, Q1, h1⟩ := pick1 Q0 (by omega) (m := 4) (by omega) (by omega)
  have S1 := Sl.chgp S0 h1 hp1
  have g1 := g0.pp h1
  obtain ⟨⟨u10, u11, u12, u13⟩, w10, w11, w12, w13⟩ := row4 S1
  obtain ⟨x2, j2, t2, _, Q2, h2⟩ := pick1 Q1 (by omega) (m := 4) (by omega) (by omega)
  have S2 := Sl.chgp S1 h2 hp1
  have g2 := g1.pp h2
  obtain ⟨⟨u20, u21, u22, u23⟩, w20, w21, w22, w23⟩ := row4 S2
  simp [form, encB] at e1 eF t1 t2
  simp [Tryz.f98, wk, e1, eF, i0, i1, i2, i3, a0, a1, a2, a3, t1, u10, u11, u12, u13, w10, w11, w12, w13, t2, u20, u21, u22, u23, w20, w21, w22, w23]
  exact fin j2 _ ⟨6, _, _, _, ⟨_, _⟩⟩ Q2 (by omega) g2 _ rfl
 ·have eF := hF 7
  have S0 : Sl (k1.push ⟨false, 1, (form 7).map encB⟩) (.sl k1.length 0 4 none) 1 encB [true, true, false, false] := (hB (form 7)).resolve_right (by simp [form, sMost])
  have g0 := c1.pp (Chg.of_ext (Ext.push k1 ⟨false, 1, (form 7).map encB⟩) _)
  have Q0 := R1.ext (Ext.push k1 ⟨false, 1, (form 7).map encB⟩)
  obtain ⟨⟨i0, i1, i2, i3⟩, a0, a1, a2, a3⟩ := row4 S0
  have wk : IntKind.i64.wrap 7 = 7 := wrapS (by omega) (by omega)
  obtain ⟨x1, j1, t1, _, Q1, h1⟩ := pick1 Q0 (by omega) (m := 4) (by omega) (by omega)
  have S1 := Sl.chgp S0 h1 hp1
  have g1 := g0.pp h1
  obtain ⟨⟨u10, u11, u12, u13⟩, w10, w11, w12, w13⟩ := row4 S1
  obtain ⟨x2, j2, t2, _, Q2, h2⟩ := pick1 Q1 (by omega) (m := 4) (by omega) (by omega)
  have S2 := Sl.chgp S1 h2 hp1
  have g2 := g1.pp h2
  obtain ⟨⟨u20, u21, u22, u23⟩, w20, w21, w22, w23⟩ := row4 S2
  simp [form, encB] at e1 eF t1 t2
  simp [Tryz.f98, wk, e1, eF, i0, i1, i2, i3, a0, a1, a2, a3, t1, u10, u11, u12, u13, w10, w11, w12, w13, t2, u20, u21, u22, u23, w20, w21, w22, w23]
  exact fin j2 _ ⟨7, _, _, _, ⟨_, _⟩⟩ Q2 (by omega) g2 _ rfl
 ·have eF := hF 8
  have S0 : Sl (k1.push ⟨false, 1, (form 8).map encB⟩) (.sl k1.length 0 4 none) 1 encB [true, true, true, true] := (hB (form 8)).resolve_right (by simp [form, sMost])
  have g0 := c1.pp (Chg.of_ext (Ext.push k1 ⟨false, 1, (form 8).map encB⟩) _)
  have Q0 := R1.ext (Ext.push k1 ⟨false, 1, (form 8).map encB⟩)
  obtain ⟨⟨i0, i1, i2, i3⟩, a0, a1, a2, a3⟩ := row4 S0
  have wk : IntKind.i64.wrap 8 = 8 := wrapS (by omega) (by omega)
  obtain ⟨x1, j1, t1, _, Q1, h1⟩ := pick1 Q0 (by omega) (m := 4) (by omega) (by omega)
  have S1 := Sl.chgp S0 h1 hp1
  have g1 := g0.pp h1
  obtain ⟨⟨u10, u11, u12, u13⟩, w10, w11, w12, w13⟩ := row4 S1
  obtain ⟨x2, j2, t2, _, Q2, h2⟩ := pick1 Q1 (by omega) (m := 4) (by omega) (by omega)
  have S2 := Sl.chgp S1 h2 hp1
  have g2 := g1.pp h2
  obtain ⟨⟨u20, u21, u22, u23⟩, w20, w21, w22, w23⟩ := row4 S2
  obtain ⟨x3, j3, t3, _, Q3, h3⟩ := pick1 Q2 (by omega) (m := w) (by omega) (by omega)
  have S3 := Sl.chgp S2 h3 hp1
  have g3 := g2.pp h3
  obtain ⟨⟨u30, u31, u32, u33⟩, w30, w31, w32, w33⟩ := row4 S3
  obtain ⟨x4, j4, q4, t4, _, Q4, _, h4⟩ := good1 Q3 (by omega)
  have S4 := Sl.chgp S3 h4 hp1
  have g4 := g3.pp h4
  obtain ⟨⟨u40, u41, u42, u43⟩, w40, w41, w42, w43⟩ := row4 S4
  obtain ⟨x5, j5, t5, _, Q5, h5⟩ := pick1 Q4 (by omega) (m := 3) (by omega) (by omega)
  have S5 := Sl.chgp S4 h5 hp1
  have g5 := g4.pp h5
  obtain ⟨⟨u50, u51, u52, u53⟩, w50, w51, w52, w53⟩ := row4 S5
  have wv : IntKind.i64.wrap (1 + (x5 : Int)) = 1 + x5 := wrapS (by omega) (by omega)
  simp [form, encB] at e1 eF t1 t2 t3 t4 t5
  simp [Tryz.f98, wk, e1, eF, i0, i1, i2, i3, a0, a1, a2, a3, t1, u10, u11, u12, u13, w10, w11, w12, w13, t2, u20, u21, u22, u23, w20, w21, w22, w23, t3, u30, u31, u32, u33, w30, w31, w32, w33, t4, u40, u41, u42, u43, w40, w41, w42, w43, t5, u50, u51, u52, u53, w50, w51, w52, w53, wv]
  exact fin j5 _ ⟨8, _, _, _, ⟨_, _⟩⟩ Q5 (by omega) g5 _ rfl
 ·have eF := hF 9
  have S0 : Sl (k1.push ⟨false, 1, (form 9).map encB⟩) (.sl k1.length 0 4 none) 1 encB [false, false, true, false] := (hB (form 9)).resolve_right (by simp [form, sMost])
  have g0 := c1.pp (Chg.of_ext (Ext.push k1 ⟨false, 1, (form 9).map encB⟩) _)
  have Q0 := R1.ext (Ext.push k1 ⟨false, 1, (form 9).map encB⟩)
  obtain ⟨⟨i0, i1, i2, i3⟩, a0, a1, a2, a3⟩ := row4 S0
  have wk : IntKind.i64.wrap 9 = 9 := wrapS (by omega) (by omega)
  obtain ⟨x1, j1, t1, _, Q1, h1⟩ := pick1 Q0 (by omega) (m := w) (by omega) (by omega)
  have S1 := Sl.chgp S0 h1 hp1
  have g1 := g0.pp h1
  obtain ⟨⟨u10, u11, u12, u13⟩, w10, w11, w12, w13⟩ := row4 S1
  simp [form, encB] at e1 eF t1
  simp [Tryz.f98, wk, e1, eF, i0, i1, i2, i3, a0, a1, a2, a3, t1, u10, u11, u12, u13, w10, w11, w12, w13]
  exact fin j1 _ ⟨9, _, _, _, ⟨_, _⟩⟩ Q1 (by omega) g1 _ rfl
 ·have eF := hF 10
  have S0 : Sl (k1.push ⟨false, 1, (form 10).map encB⟩) (.sl k1.length 0 4 none) 1 encB [true, false, true, true] := (hB (form 10)).resolve_right (by simp [form, sMost])
  have g0 := c1.pp (Chg.of_ext (Ext.push k1 ⟨false, 1, (form 10).map encB⟩) _)
  have Q0 := R1.ext (Ext.push k1 ⟨false, 1, (form 10).map encB⟩)
  obtain ⟨⟨i0, i1, i2, i3⟩, a0, a1, a2, a3⟩ := row4 S0
  have wk : IntKind.i64.wrap 10 = 10 := wrapS (by omega) (by omega)
  obtain ⟨x1, j1, t1, _, Q1, h1⟩ := pick1 Q0 (by omega) (m := 4) (by omega) (by omega)
  have S1 := Sl.chgp S0 h1 hp1
  have g1 := g0.pp h1
  obtain ⟨⟨u10, u11, u12, u13⟩, w10, w11, w12, w13⟩ := row4 S1
  obtain ⟨x2, j2, t2, _, Q2, h2⟩ := pick1 Q1 (by omega) (m := w) (by omega) (by omega)
  have S2 := Sl.chgp S1 h2 hp1
  have g2 := g1.pp h2
  obtain ⟨⟨u20, u21, u22, u23⟩, w20, w21, w22, w23⟩ := row4 S2
  obtain ⟨x3, j3, q3, t3, _, Q3, _, h3⟩ := good1 Q2 (by omega)
  have S3 := Sl.chgp S2 h3 hp1
  have g3 := g2.pp h3
  obtain ⟨⟨u30, u31, u32, u33⟩, w30, w31, w32, w33⟩ := row4 S3
  simp [form, encB] at e1 eF t1 t2 t3
  simp [Tryz.f98, wk, e1, eF, i0, i1, i2, i3, a0, a1, a2, a3, t1, u10, u11, u12, u13, w10, w11, w12, w13, t2, u20, u21, u22, u23, w20, w21, w22, w23, t3, u30, u31, u32, u33, w30, w31, w32, w33]
  exact fin j3 _ ⟨10, _, _, _, ⟨_, _⟩⟩ Q3 (by omega) g3 _ rfl
 ·have eF := hF 11
  have S0 : Sl (k1.push ⟨false, 1, (form 11).map encB⟩) (.sl k1.length 0 4 none) 1 encB [true, false, false, false] := (hB (form 11)).resolve_right (by simp [form, sMost])
  have g0 := c1.pp (Chg.of_ext (Ext.push k1 ⟨false, 1, (form 11).map encB⟩) _)
  have Q0 := R1.ext (Ext.push k1 ⟨false, 1, (form 11).map encB⟩)
  obtain ⟨⟨i0, i1, i2, i3⟩, a0, a1, a2, a3⟩ := row4 S0
  have wk : IntKind.i64.wrap 11 = 11 := wrapS (by omega) (by omega)
  obtain ⟨x1, j1, t1, _, Q1, h1⟩ := pick1 Q0 (by omega) (m := 4) (by omega) (by omega)
  have S1 := Sl.chgp S0 h1 hp1
  have g1 := g0.pp h1
  obtain ⟨⟨u10, u11, u12, u13⟩, w10, w11, w12, w13⟩ := row4 S1
  simp [form, encB] at e1 eF t1
  simp [Tryz.f98, wk, e1, eF, i0, i1, i2, i3, a0, a1, a2, a3, t1, u10, u11, u12, u13, w10, w11, w12, w13]
  exact fin j1 _ ⟨11, _, _, _, ⟨_, _⟩⟩ Q1 (by omega) g1 _ rfl
 ·have eF := hF 12
  have S0 : Sl (k1.push ⟨false, 1, (form 12).map encB⟩) (.sl k1.length 0 4 none) 1 encB [true, false, false, false] := (hB (form 12)).resolve_right (by simp [form, sMost])
  have g0 := c1.pp (Chg.of_ext (Ext.push k1 ⟨false, 1, (form 12).map encB⟩) _)
  have Q0 := R1.ext (Ext.push k1 ⟨false, 1, (form 12).map encB⟩)
  obtain ⟨⟨i0, i1, i2, i3⟩, a0, a1, a2, a3⟩ := row4 S0
  have wk : IntKind.i64.wrap 12 = 12 := wrapS (by omega) (by omega)
  obtain ⟨x1, j1, t1, _, Q1, h1⟩ := pick1 Q0 (by omega) (m := 4) (by omega) (by omega)
  have S1 := Sl.chgp S0 h1 hp1
  have g1 := g0.pp h1
  obtain ⟨⟨u10, u11, u12, u13⟩, w10, w11, w12, w13⟩ := row4 S1
  simp [form, encB] at e1 eF t1
  simp [Tryz.f98, wk, e1, eF, i0, i1, i2, i3, a0, a1, a2, a3, t1, u10, u11, u12, u13, w10, w11, w12, w13]
  exact fin j1 _ ⟨12, _, _, _, ⟨_, _⟩⟩ Q1 (by omega) g1 _ rfl
 ·have eF := hF 13
  have S0 : Sl (k1.push ⟨false, 1, (form 13).map encB⟩) (.sl k1.length 0 4 none) 1 encB [false, false, false, true] := (hB (form 13)).resolve_right (by simp [form, sMost])
  have g0 := c1.pp (Chg.of_ext (Ext.push k1 ⟨false, 1, (form 13).map encB⟩) _)
  have Q0 := R1.ext (Ext.push k1 ⟨false, 1, (form 13).map encB⟩)
  obtain ⟨⟨i0, i1, i2, i3⟩, a0, a1, a2, a3⟩ := row4 S0
  have wk : IntKind.i64.wrap 13 = 13 := wrapS (by omega) (by omega)
  obtain ⟨x1, j1, q1, t1, _, Q1, _, h1⟩ := good1 Q0 (by omega)
  have S1 := Sl.chgp S0 h1 hp1
  have g1 := g0.pp h1
  obtain ⟨⟨u10, u11, u12, u13⟩, w10, w11, w12, w13⟩ := row4 S1
  obtain ⟨x2, j2, t2, _, Q2, h2⟩ := pick1 Q1 (by omega) (m := 2) (by omega) (by omega)
  have S2 := Sl.chgp S1 h2 hp1
  have g2 := g1.pp h2
  obtain ⟨⟨u20, u21, u22, u23⟩, w20, w21, w22, w23⟩ := row4 S2
  simp [form, encB] at e1 eF t1 t2
  simp [Tryz.f98, wk, e1, eF, i0, i1, i2, i3, a0, a1, a2, a3, t1, u10, u11, u12, u13, w10, w11, w12, w13, t2, u20, u21, u22, u23, w20, w21, w22, w23]
  exact fin j2 _ ⟨13, _, _, _, ⟨_, _⟩⟩ Q2 (by omega) g2 _ rfl
 ·have eF := hF 14
  have S0 : Sl (k1.push ⟨false, 1, (form 14).map encB⟩) (.sl k1.length 0 4 none) 1 encB [true, false, false, false] := (hB (form 14)).resolve_right (by simp [form, sMost])
  have g0 := c1.pp (Chg.of_ext (Ext.push k1 ⟨false, 1, (form 14).map encB⟩) _)
  have Q0 := R1.ext (Ext.push k1 ⟨false, 1, (form 14).map encB⟩)
  obtain ⟨⟨i0, i1, i2, i3⟩, a0, a1, a2, a3⟩ := row4 S0
  have wk : IntKind.i64.wrap 14 = 14 := wrapS (by omega) (by omega)
  obtain ⟨x1, j1, t1, _, Q1, h1⟩ := pick1 Q0 (by omega) (m := 4) (by omega) (by omega)
  have S1 := Sl.chgp S0 h1 hp1
  have g1 := g0.pp h1
  obtain ⟨⟨u10, u11, u12, u13⟩, w10, w11, w12, w13⟩ := row4 S1
  simp [form, encB] at e1 eF t1
  simp [Tryz.f98, wk, e1, eF, i0, i1, i2, i3, a0, a1, a2, a3, t1, u10, u11, u12, u13, w10, w11, w12, w13]
  exact fin j1 _ ⟨14, _, _, _, ⟨_, _⟩⟩ Q1 (by omega) g1 _ rfl
end Go.Proofs.YtmkiojlebjknlaaGreat

/-
 WHAT IS DRAWN: lists of steps.
-/
set_option maxRecDepth 8000
namespace Go.Proofs.YtmkiojlebjknlaaGreat
open Go.AM
variable {h k : H} {p n m lo : Nat} {d : Cell} {bs : List Int}
structure OwnL {α : Type} (lo : Nat) (k : H) (s : Cell) (es : Nat) (enc : α → List Cell) (xs : List α) : Prop where
 sl : Sl k s es enc xs
 wr : Wr k s
 un : Un s
 ids : ∀ id ∈ s.ids, lo ≤ id
variable {α : Type} {enc : α → List Cell} {es : Nat} {xs : List α} {s : Cell}
theorem OwnL.chgp (o : OwnL lo k s es enc xs) {k' : H} (c : Chg k (fun id => id = p) k') (hp : p < lo) : OwnL lo k' s es enc xs := by
 have hk : ∀ id ∈ s.ids, k'.get id = k.get id := fun id hid => c.keep id (o.sl.ids_lt id hid) fun e => by have := o.ids id hid; omega
 exact ⟨o.sl.same hk, o.wr.same hk, o.un, o.ids⟩
theorem OwnL.ext (o : OwnL lo k s es enc xs) {k' : H} (x : Ext k k') : OwnL lo k' s es enc xs := ⟨o.sl.ext x, o.wr.same fun id hid => x.2 id (o.sl.ids_lt id hid), o.un, o.ids⟩
theorem OwnL.new (k : H) (xs : List α) (he : ∀ x ∈ xs, (enc x).length = es) (hl : xs.length ≤ sMost) : OwnL k.length (k.push ⟨false, es, xs.map enc⟩) (.sl k.length 0 xs.length none) es enc xs :=
 ⟨Sl.new he hl, fun id hid => by simp only [Cell.ids, List.mem_singleton] at hid; subst hid; exact ⟨_, get_push_self, rfl⟩, Un.new, fun id hid => by simp only [Cell.ids, List.mem_singleton] at hid; omega⟩
theorem OwnL.low (o : OwnL lo k s es enc xs) {lo' : Nat} (h : lo' ≤ lo) : OwnL lo' k s es enc xs := ⟨o.sl, o.wr, o.un, fun id hid => Nat.le_trans h (o.ids id hid)⟩
theorem OwnL.app (o : OwnL lo k s es enc xs) (hlo : lo ≤ k.length) (x : α) (hx : (enc x).length = es) (hl : xs.length + 1 ≤ lenMost) :
  ∃ s' k', appendA es (k.push ⟨false, es, [enc x]⟩) (.c s) (.c (.sl k.length 0 1 none)) = some (.c s', k') ∧ OwnL lo k' s' es enc (xs ++ [x]) ∧ Chg k (fun id => id ∈ s.ids) k' := by
 obtain ⟨s', k', e, G⟩ := o.sl.append_new o.wr o.un (ys := [x]) (by simpa using hx) (by simpa using hl)
 exact ⟨s', k', by simpa using e, ⟨G.sl, G.wr, G.un, fun id hid => by
  rcases G.ids id hid with h | h
  ·exact o.ids id h
  ·omega⟩, G.chg⟩
theorem OwnL.put (o : OwnL lo k s es enc xs) {i : Nat} (hi : i < xs.length) {x : α} (hx : (enc x).length = es) :
  ∃ k', k.write (sid s) (soff s + i) 0 (enc x) = some k' ∧ OwnL lo k' s es enc (xs.set i x) ∧ Chg k (fun id => id ∈ s.ids) k' ∧ k'.length = k.length := by
 have he := o.sl.1 xs[i] (List.getElem_mem hi)
 obtain ⟨k', e, S, W, l, c⟩ := o.sl.write o.wr hi (j := 0) (cs := enc x) (x := x) (by simp [splice]; omega) (by omega)
 exact ⟨k', e, ⟨S, W, o.un, o.ids⟩, c, l⟩
theorem _root_.Go.AM.Chg.own {h1 h2 h3 : H} (a : Chg h1 (fun id => id = p) h2) (o : OwnL lo h2 s es enc xs) (b : Chg h2 (fun id => id ∈ s.ids) h3) (hl : h1.length ≤ lo) : Chg h1 (fun id => id = p) h3 :=
 ⟨Nat.le_trans a.len b.len, fun id hid hn => by rw [b.keep id (Nat.lt_of_lt_of_le hid a.len) (fun hh => by have := o.ids id hh; omega), a.keep id hid hn]⟩
theorem Rdr.own (R : Rdr h p d bs n) (o : OwnL lo h s es enc xs) (c : Chg h (fun id => id ∈ s.ids) k) (hp : p < lo) (hd : ∀ id ∈ d.ids, id < lo) : Rdr k p d bs n := by
 refine ⟨by rw [c.keep p R.lt (fun hh => by have := o.ids p hh; omega)]; exact R.at_, SlA.same R.data fun id hid => ?_, R.rng, R.out⟩
 by_cases hlt : id < h.length
 ·exact c.keep id hlt fun hh => by have := o.ids id hh; have := hd id hid; omega
 ·have e1 : h.get id = none := by unfold H.get; rw [List.getElem?_eq_none (by omega)]; rfl
  rcases R.data with hS | ⟨_, q, rfl⟩
  ·exact absurd (hS.ids_lt id hid) hlt
  ·simp [Cell.ids] at hid
theorem Rdr.dlt (R : Rdr h p d bs n) : ∀ id ∈ d.ids, id < h.length := fun id hid => by
 rcases R.data with hS | ⟨_, q, rfl⟩
 ·exact hS.ids_lt id hid
 ·simp [Cell.ids] at hid
def CodeP (lo : Nat) (a b : Nat) (v : V) (k : H) : Prop := ∃ s, ∃ code : List POp, v = .c s ∧ OwnL lo k s 6 encO code ∧ a ≤ code.length ∧ code.length ≤ b
theorem op1 (R : Rdr h p d bs n) (hn : n ≤ 10000000) {w : Int} (hw : 1 ≤ w ∧ w ≤ 100000) : ∃ o : POp, ∃ k m, Dz.den 98 [.c (.ptr p 0 0), .c (.int .i64 w)] h = some (.g (encO o), k) ∧ Rdr k p d bs m ∧ m ≤ n + 20 ∧ Chg h (fun id => id = p) k := by
 obtain ⟨_, e1, _, k1, q, rfl, ⟨x, rfl⟩, R1, hq, c1⟩ := c_l71Op R hn hw
 exact ⟨x, k1, q, e1, R1, hq, c1⟩
set_option maxRecDepth 16000 in
set_option maxHeartbeats 2000000 in
theorem c_l71Random (R : Rdr h p d bs n) (hn : n ≤ 1000000) : @Wp _ (Dz.den 57 [.c (.ptr p 0 0)] h) ⟨DrawQ h p d bs n 300 (CodeP h.length 3 10)⟩ := by
 refine den_wp rfl Tryz.func57 rfl ?_
 obtain ⟨v1, k1, e1, b1, R1, c1⟩ := pick1 R (by omega) (m := 8) (by omega) (by omega)
 have hp := R.lt
 have hd := R.dlt
 have wT : IntKind.i64.wrap (3 + (v1 : Int)) = 3 + (v1 : Int) := wrapS (by omega) (by omega)
 obtain ⟨T, hT⟩ : ∃ T : Nat, T = 3 + v1 := ⟨_, rfl⟩
 have eT : (3 : Int) + v1 = T := by omega
 rw [eT] at wT
 simp [Tryz.f57, e1, eT, wT]
 refine count_wpG (σ := H × Cell × List POp × Nat) T (fun i g => ([.c (.ptr p 0 0), .c .nils, .c (ci T), .c g.2.1, .c (ci i)], [], [], g.1))
  (fun i g => OwnL h.length g.1 g.2.1 6 encO g.2.2.1 ∧ g.2.2.1.length = i ∧ Rdr g.1 p d bs g.2.2.2 ∧ g.2.2.2 ≤ n + 1 + 20 * i ∧ Chg h (fun id => id = p) g.1)
  (k1.push ⟨false, 6, []⟩, .sl k1.length 0 0 none, [], n + 1) (by simp) ⟨?_, rfl, R1.ext (Ext.push _ _), by simp, c1.pp (Chg.of_ext (Ext.push _ _) _)⟩ ?_ ?_
 ·have := OwnL.new (enc := encO) (es := 6) k1 [] (by simp) (by simp)
  exact this.low c1.len
 ·rintro i ⟨g, s, xs, q⟩ hi ⟨o, hl, Rg, hq, cg⟩
  simp only at o hl Rg hq cg ⊢
  obtain ⟨x, k2, q2, e2, R2, hq2, c2⟩ := op1 Rg (by omega) (w := T) (by omega)
  have o2 := o.chgp c2 hp
  obtain ⟨s', k3, e3, o3, c3⟩ := o2.app (Nat.le_trans cg.len c2.len) x (by simp) (by unfold lenMost; omega)
  have wj : IntKind.i64.wrap ((i : Int) + 1) = (i : Int) + 1 := wrapS (by omega) (by omega)
  have hi' : (i : Int) < T := by omega
  simp only [encO] at e2 e3
  rw [Wp_body]
  simp [hi, hi', e2, e3, wj]
  exact ⟨k3, s', ⟨rfl, rfl⟩, xs ++ [x], o3, by simp [hl], q2, R2.own o2 c3 hp hd, by omega, (cg.pp c2).own o2 c3 (Nat.le_refl _)⟩
 ·rintro ⟨g, s, xs, q⟩ ⟨o, hl, Rg, hq, cg⟩
  simp only at o hl Rg hq cg ⊢
  obtain ⟨v2, k2, e2, _, R2, c2⟩ := pick1 Rg (by omega) (m := T) (by omega) (by omega)
  obtain ⟨v3, k3, e3, _, R3, c3⟩ := pick1 R2 (by omega) (m := 3) (by omega) (by omega)
  have o3 := (o.chgp c2 hp).chgp c3 hp
  have hl3 : T - 1 < xs.length := by omega
  have wm : IntKind.i64.wrap ((T : Int) - 1) = ((T - 1 : Nat) : Int) := by rw [wrapS (by omega) (by omega)]; omega
  have hS := o3.sl
  rw [Wp_body]
  by_cases z : v3 = 0
  ·subst z
   obtain ⟨k4, e4, o4, c4, _⟩ := o3.put hl3 (x := ⟨14, 0, 0, 0, ⟨0, 0⟩⟩) (by simp)
   simp at e3
   simp only [encO] at e4
   simp [e2, e3, wm, ixA_nat hS, hl3, e4]
   exact ⟨_, k4, _, rfl, ⟨s, _, rfl, o4, by simp; omega, by simp; omega⟩, R3.own o3 c4 hp hd, by omega, ((cg.pp c2).pp c3).own o3 c4 (Nat.le_refl _)⟩
  ·have z' : ¬ (v3 : Int) = 0 := by omega
   obtain ⟨k4, e4, o4, c4, _⟩ := o3.put hl3 (x := ⟨9, 0, 0, v2, ⟨0, 0⟩⟩) (by simp)
   simp only [encO] at e4
   simp [e2, e3, z, z', wm, ixA_nat hS, hl3, e4]
   exact ⟨_, k4, _, rfl, ⟨s, _, rfl, o4, by simp; omega, by simp; omega⟩, R3.own o3 c4 hp hd, by omega, ((cg.pp c2).pp c3).own o3 c4 (Nat.le_refl _)⟩
end Go.Proofs.YtmkiojlebjknlaaGreat

/-
 TEXTS: how they are cut.
-/
set_option maxRecDepth 8000
namespace Go.Proofs.YtmkiojlebjknlaaGreat
open Go.AM
variable {h k : H} {p n m lo : Nat}
def encS (s : ByteArray) : List Cell := [.str s]
@[simp] theorem encS_len (s : ByteArray) : (encS s).length = 1 := rfl
def byte1 (b : UInt8) : ByteArray := ⟨#[b]⟩
def cutStep (sep : UInt8) (ws : List ByteArray) (b : UInt8) : List ByteArray := if b = sep then ws ++ [⟨#[]⟩] else ws.set (ws.length - 1) ((ws[ws.length - 1]?.getD ⟨#[]⟩) ++ byte1 b)
def cutsTo (s : ByteArray) (sep : UInt8) : Nat → List ByteArray
 | 0 => [⟨#[]⟩]
 | i + 1 => cutStep sep (cutsTo s sep i) (s[i]?.getD 0)
theorem cutsTo_len (s : ByteArray) (sep : UInt8) : ∀ i, 1 ≤ (cutsTo s sep i).length ∧ (cutsTo s sep i).length ≤ i + 1
 | 0 => by simp [cutsTo]
 | i + 1 => by
  have ih := cutsTo_len s sep i
  simp only [cutsTo, cutStep]
  split
  ·simp; omega
  ·simp; omega
theorem cutsTo_size (s : ByteArray) (sep : UInt8) : ∀ i, ∀ w ∈ cutsTo s sep i, w.size ≤ i
 | 0 => fun w hw => by
  simp only [cutsTo, List.mem_singleton] at hw; subst hw; exact Nat.le_refl _
 | i + 1 => by
  have ih := cutsTo_size s sep i
  have hl := cutsTo_len s sep i
  simp only [cutsTo, cutStep]
  split
  ·intro w hw
   rcases List.mem_append.1 hw with hw | hw
   ·have := ih w hw; omega
   ·simp at hw; subst hw; exact Nat.zero_le _
  ·intro w hw
   rcases List.mem_or_eq_of_mem_set hw with hw | rfl
   ·have := ih w hw; omega
   ·have hlt : (cutsTo s sep i).length - 1 < (cutsTo s sep i).length := by omega
    have := ih _ (List.getElem_mem hlt)
    rw [List.getElem?_eq_getElem hlt, Option.getD_some, ByteArray.size_append]
    have e : (byte1 (s[i]?.getD 0)).size = 1 := rfl
    omega
set_option maxRecDepth 16000 in
set_option maxHeartbeats 2000000 in
theorem c_l2Cut (s : ByteArray) (sep : UInt8) (hs : s.size ≤ 1000) : @Wp _ (Dz.den 181 [.c (.str s), .c (.int .u8 sep.toNat)] h) ⟨fun r => ∃ c k, r = (.c c, k) ∧ OwnL h.length k c 1 encS (cutsTo s sep s.size) ∧ Ext h k⟩ := by
 refine den_wp rfl Tryz.func181 rfl ?_
 simp [Tryz.f181]
 refine count_wpG (σ := H × Cell) s.size (fun i g => ([.c (.str s), .c (.int .u8 sep.toNat), .c .nils, .c g.2, .c (ci i)], [], [], g.1))
  (fun i g => OwnL h.length g.1 g.2 1 encS (cutsTo s sep i) ∧ Ext h g.1) (h.push ⟨false, 1, [[.str ⟨#[]⟩]]⟩, .sl h.length 0 1 none) (by simp) ⟨?_, Ext.push _ _⟩ ?_ ?_
 ·exact OwnL.new (enc := encS) (es := 1) h [⟨#[]⟩] (by simp) (by simp [sMost])
 ·rintro i ⟨g, c⟩ hi ⟨o, x⟩
  simp only at o x ⊢
  have hl := cutsTo_len s sep i
  have hz := cutsTo_size s sep i
  have hi' : (i : Int) < s.size := by omega
  have wj : IntKind.i64.wrap ((i : Int) + 1) = (i : Int) + 1 := wrapS (by omega) (by omega)
  have eb : s[i]?.getD 0 = s[i] := by simp [hi]
  obtain ⟨ws, hws⟩ : ∃ ws, ws = cutsTo s sep i := ⟨_, rfl⟩
  have estep : cutsTo s sep (i + 1) = cutStep sep ws s[i] := by rw [cutsTo, eb, hws]
  rw [← hws] at o hl hz
  rw [Wp_body]
  by_cases e : s[i] = sep
  ·obtain ⟨c', k', e1, o1, c1⟩ := o.app x.1 ⟨#[]⟩ (by simp) (by unfold lenMost; omega)
   have x1 : Ext h k' := ⟨Nat.le_trans x.1 c1.len, fun id hid => by rw [c1.keep id (Nat.lt_of_lt_of_le hid x.1) (fun hh => by have := o.ids id hh; omega), x.2 id hid]⟩
   have e' : s[i].toNat = sep.toNat := by rw [e]
   simp only [encS] at e1
   simp [hi, hi', e, e', e1, wj]
   rw [estep, cutStep, if_pos e]
   exact ⟨k', c', ⟨rfl, rfl⟩, o1, x1⟩
  ·have e' : ¬ (s[i].toNat : Int) = sep.toNat := fun hh => e (UInt8.toNat_inj.1 (by omega))
   have hw : ws.length - 1 < ws.length := by omega
   obtain ⟨b, hb⟩ : ∃ b : Blk, b = ⟨false, 1, [[.int .u8 s[i].toNat]]⟩ := ⟨_, rfl⟩
   have o0 := o.ext (Ext.push g b)
   have hS := o0.sl
   obtain ⟨k', e1, o1, c1, _⟩ := o0.put hw (x := ws[ws.length - 1] ++ byte1 s[i]) (by simp)
   have x0 := x.trans (Ext.push g b)
   have x1 : Ext h k' := ⟨Nat.le_trans x0.1 c1.len, fun id hid => by rw [c1.keep id (Nat.lt_of_lt_of_le hid x0.1) (fun hh => by have := o.ids id hh; omega), x0.2 id hid]⟩
   have wm : IntKind.i64.wrap ((ws.length : Int) - 1) = ((ws.length - 1 : Nat) : Int) := by rw [wrapS (by omega) (by omega)]; omega
   have hsz := hz _ (List.getElem_mem hw)
   have hsum : ws[ws.length - 1].size + (byte1 s[i]).size < 4611686018427387904 := by
    have : (byte1 s[i]).size = 1 := rfl
    omega
   simp only [encS] at e1
   have ec : convA TTz (g.push b) 22 9 (.c (.sl g.length 0 1 none)) = some (.c (.str (byte1 s[i]))) := by
    subst hb; simp [convA, H.elems, get_push_self, bytesOf, byte1]
   subst hb
   simp [hi, hi', e, e', o.sl.lenA, o0.sl.lenA, wm, ixA_nat o.sl, ixA_nat hS, o.sl.at, hS.at, hw, encS, hsum, e1, wj, ec]
   refine ⟨by kernel_rfl, k', c, ⟨rfl, rfl⟩, ?_, x1⟩
   rw [estep, cutStep, if_neg e, List.getElem?_eq_getElem hw, Option.getD_some]; exact o1
 ·rintro ⟨g, c⟩ ⟨o, x⟩
  simp only at o x ⊢
  rw [Wp_body]
  simp
  exact ⟨c, g, ⟨rfl, rfl⟩, o, x⟩
end Go.Proofs.YtmkiojlebjknlaaGreat

/-
 TEXTS: numbers and values, written and read.
-/
set_option maxRecDepth 8000
namespace Go.Proofs.YtmkiojlebjknlaaGreat
open Go.AM
variable {h k : H} {p n m lo : Nat}
def dig (n : Nat) : ByteArray := byte1 (UInt8.ofNat (48 + n))
def dec2 (n : Nat) : ByteArray := if n < 10 then dig n else dig (n / 10) ++ dig (n % 10)
def decP (n : Int) : ByteArray := if n < 0 then byte1 45 ++ dec2 (-n).toNat else dec2 n.toNat
theorem conv1 (g : H) {x : Int} (h0 : 0 ≤ x) (h1 : x ≤ 9) : convA TTz (g.push ⟨false, 1, [[.int .u8 (48 + x)]]⟩) 22 9 (.c (.sl g.length 0 1 none)) = some (.c (.str (dig x.toNat))) := by
 have e : (48 + x).toNat = 48 + x.toNat := by omega
 simp [convA, H.elems, get_push_self, bytesOf, dig, byte1, e]
set_option maxRecDepth 16000
theorem c_dig {x : Int} (h0 : 0 ≤ x) (h1 : x ≤ 9) : Dz.den 192 [.c (.int .i64 x)] h = some (.c (.str (dig x.toNat)), h) := by
 refine den_plain rfl Tryz.func192 rfl rfl ?_
 have w1 : IntKind.i64.wrap (48 + x) = 48 + x := wrapS (by omega) (by omega)
 have w2 : IntKind.u8.wrap (48 + x) = 48 + x := by
  obtain rfl | rfl | rfl | rfl | rfl | rfl | rfl | rfl | rfl | rfl : x = 0 ∨ x = 1 ∨ x = 2 ∨ x = 3 ∨ x = 4 ∨ x = 5 ∨ x = 6 ∨ x = 7 ∨ x = 8 ∨ x = 9 := by omega
  all_goals decide
 have c1 : ¬ x < -9223372036854775807 := by omega
 have c2 : ¬ x < 0 := by omega
 have c3 : x < 10 := by omega
 simp [Tryz.f192, w1, w2, c1, c2, c3, conv1 h h0 h1]
theorem c_dec2 {x : Int} (h0 : 0 ≤ x) (h1 : x ≤ 99) : Dz.den 192 [.c (.int .i64 x)] h = some (.c (.str (dec2 x.toNat)), h) := by
 by_cases c3 : x < 10
 ·rw [c_dig h0 (by omega), dec2, if_pos (by omega)]
 refine den_plain rfl Tryz.func192 rfl rfl ?_
 have c1 : ¬ x < -9223372036854775807 := by omega
 have c2 : ¬ x < 0 := by omega
 have q : x.tdiv 10 = x / 10 := Int.tdiv_eq_ediv_of_nonneg h0
 have r : x.tmod 10 = x % 10 := Int.tmod_eq_emod_of_nonneg h0
 have w0 : IntKind.i64.wrap (x / 10) = x / 10 := wrapS (by omega) (by omega)
 have w1 : IntKind.i64.wrap (48 + x % 10) = 48 + x % 10 := wrapS (by omega) (by omega)
 have w2 : IntKind.u8.wrap (48 + x % 10) = 48 + x % 10 := by
  obtain e | e | e | e | e | e | e | e | e | e : x % 10 = 0 ∨ x % 10 = 1 ∨ x % 10 = 2 ∨ x % 10 = 3 ∨ x % 10 = 4 ∨ x % 10 = 5 ∨ x % 10 = 6 ∨ x % 10 = 7 ∨ x % 10 = 8 ∨ x % 10 = 9 := by omega
  all_goals (rw [e]; decide)
 have e1 := fun g : H => c_dig (h := g) (x := x / 10) (by omega) (by omega)
 have hsz : (dig (x / 10).toNat).size + (dig (x % 10).toNat).size < 4611686018427387904 := by
  have a : (dig (x / 10).toNat).size = 1 := rfl
  have b : (dig (x % 10).toNat).size = 1 := rfl
  omega
 have ed : dec2 x.toNat = dig (x / 10).toNat ++ dig (x % 10).toNat := by
  rw [dec2, if_neg (by omega)]
  congr 2 <;> omega
 rw [ed]
 simp [Tryz.f192, c1, c2, c3, q, r, w0, w1, w2, e1, conv1 h (show 0 ≤ x % 10 by omega) (by omega), hsz]
 kernel_rfl
theorem dec2_size {n : Nat} : (dec2 n).size ≤ 2 := by
 unfold dec2
 split
 ·exact Nat.le_succ 1
 ·rw [ByteArray.size_append]; exact Nat.le_refl 2
theorem c_decP {x : Int} (h0 : -99 ≤ x) (h1 : x ≤ 99) : Dz.den 192 [.c (.int .i64 x)] h = some (.c (.str (decP x)), h) := by
 by_cases c2 : x < 0
 rotate_left
 ·rw [c_dec2 (by omega) h1, decP, if_neg c2]
 refine den_plain rfl Tryz.func192 rfl rfl ?_
 have c1 : ¬ x < -9223372036854775807 := by omega
 have w0 : IntKind.i64.wrap (-x) = -x := wrap_i64 (by omega) (by omega)
 have e1 := c_dec2 (h := h) (x := -x) (by omega) (by omega)
 have hsz : (1 : Nat) + (dec2 (-x).toNat).size < 4611686018427387904 := by have := dec2_size (n := (-x).toNat); omega
 have b1 : (⟨#[45]⟩ : ByteArray).size = 1 := rfl
 rw [decP, if_pos c2]
 simp [Tryz.f192, c1, c2, w0, e1, b1, hsz, byte1]
def valText (v : PVal) : ByteArray := if valOk v = true then (if v.k = 0 then ⟨#[110, 111, 110, 101]⟩ else byte1 (if v.k = 1 then 110 else if v.k = 2 then 97 else 114) ++ decP v.n) else ⟨#[]⟩
theorem c_ValText (v : PVal) : Dz.den 191 [.g [.int .i64 v.k, .int .i64 v.n]] h = some (.c (.str (valText v)), h) := by
 refine den_plain rfl Tryz.func191 rfl rfl ?_
 unfold valText
 by_cases hv : valOk v = true
 rotate_left
 ·have hv' : valOk ⟨v.k, v.n⟩ = false := by simpa using hv
  simp [Tryz.f191, hv', hv]
 have hv' : valOk ⟨v.k, v.n⟩ = true := hv
 rw [if_pos hv]
 by_cases k0 : v.k = 0
 ·rw [if_pos k0]
  rw [k0] at hv'
  simp [Tryz.f191, hv', k0]
 rw [if_neg k0]
 have hr : (v.k = 1 ∨ v.k = 2 ∨ v.k = 3) ∧ -99 ≤ v.n ∧ v.n ≤ 99 := by
  have := hv
  grind [valOk]
 obtain ⟨hk, n0, n1⟩ := hr
 obtain ⟨g, hg⟩ : ∃ g : H, g = h.push ⟨false, 1, [[.str ⟨#[]⟩], [.str ⟨#[110]⟩], [.str ⟨#[97]⟩], [.str ⟨#[114]⟩]]⟩ := ⟨_, rfl⟩
 have S : Sl g (.sl h.length 0 4 none) 1 encS [⟨#[]⟩, ⟨#[110]⟩, ⟨#[97]⟩, ⟨#[114]⟩] := by rw [hg]; exact Sl.new (enc := encS) (xs := [⟨#[]⟩, ⟨#[110]⟩, ⟨#[97]⟩, ⟨#[114]⟩]) (by simp) (by simp [sMost])
 have e1 := c_decP (h := g) n0 n1
 have hx : Ext h g := by rw [hg]; exact Ext.push _ _
 have dsz : (decP v.n).size ≤ 3 := by
  unfold decP
  split
  ·rw [ByteArray.size_append]; have a : (byte1 45).size = 1 := rfl; have := dec2_size (n := (-v.n).toNat); omega
  ·have := dec2_size (n := v.n.toNat); omega
 have hsz : 1 + (decP v.n).size < 4611686018427387904 := by omega
 have e0 := c_decP (h := h) n0 n1
 rcases hk with hk | hk | hk
 ·have i1 := ixA_nat S (T := TTz) (e := 9) (k := .i64) (n := 1) rfl rfl (by simp)
  have a1 := S.at (n := 1) (k := 0) (m := 1) (by simp) (by omega)
  have z1 : (⟨#[110]⟩ : ByteArray).size = 1 := rfl
  simp [sid, soff, encS] at i1 a1
  rw [hk] at hv'
  simp [Tryz.f191, hv', hk, ← hg, i1, a1, e1, e0, z1, hsz, byte1]
  exact ⟨by kernel_rfl, hx.2⟩
 ·have i1 := ixA_nat S (T := TTz) (e := 9) (k := .i64) (n := 2) rfl rfl (by simp)
  have a1 := S.at (n := 2) (k := 0) (m := 1) (by simp) (by omega)
  have z1 : (⟨#[97]⟩ : ByteArray).size = 1 := rfl
  simp [sid, soff, encS] at i1 a1
  rw [hk] at hv'
  simp [Tryz.f191, hv', hk, ← hg, i1, a1, e1, e0, z1, hsz, byte1]
  exact ⟨by kernel_rfl, hx.2⟩
 ·have i1 := ixA_nat S (T := TTz) (e := 9) (k := .i64) (n := 3) rfl rfl (by simp)
  have a1 := S.at (n := 3) (k := 0) (m := 1) (by simp) (by omega)
  have z1 : (⟨#[114]⟩ : ByteArray).size = 1 := rfl
  simp [sid, soff, encS] at i1 a1
  rw [hk] at hv'
  simp [Tryz.f191, hv', hk, ← hg, i1, a1, e1, e0, z1, hsz, byte1]
  exact ⟨by kernel_rfl, hx.2⟩
end Go.Proofs.YtmkiojlebjknlaaGreat
