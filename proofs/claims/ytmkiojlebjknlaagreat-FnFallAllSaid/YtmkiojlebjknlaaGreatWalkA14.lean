/-
  What functions of the seat answer, each proved once; each under the condition that cells bear what it is given, as its statement says.
-/
import Derived.Test.YtmkiojlebjknlaaGreatWalkA13
set_option linter.all false
/-
 TEXTS: numbers and values, read.
-/
set_option maxRecDepth 8000
namespace Go.Proofs.YtmkiojlebjknlaaGreat
open Go.AM
variable {h k : H} {p n m lo : Nat}
def isD (b : UInt8) : Bool := decide (48 ≤ b.toNat ∧ b.toNat ≤ 57)
def allD (t : ByteArray) : Bool := (List.range t.size).all fun j => isD (t[j]?.getD 0)
def accTo (t : ByteArray) : Nat → Int
 | 0 => 0
 | i + 1 => 10 * accTo t i + ((t[i]?.getD 0).toNat - 48)
def negS (s : ByteArray) : Bool := decide (1 < s.size) && (s[0]?.getD 0 == 45)
def bareS (s : ByteArray) : ByteArray := if negS s = true then s.extract 1 s.size else s
def numR (s : ByteArray) : Int × Bool :=
 if (1 ≤ (bareS s).size ∧ (bareS s).size ≤ 2) ∧ allD (bareS s) = true then ((if negS s = true then -1 else 1) * accTo (bareS s) (bareS s).size, true) else (0, false)
set_option maxRecDepth 16000
theorem accTo_range {t : ByteArray} : ∀ i, (∀ j, j < i → isD (t[j]?.getD 0) = true) → i ≤ 2 → 0 ≤ accTo t i ∧ accTo t i ≤ (if i = 0 then 0 else if i = 1 then 9 else 99)
 | 0, _, _ => by simp [accTo]
 | 1, h, _ => by
  have := h 0 (by omega)
  simp [isD] at this
  simp only [accTo]; simp; omega
 | 2, h, _ => by
  have a := h 0 (by omega)
  have b := h 1 (by omega)
  simp [isD] at a b
  simp only [accTo]; simp; omega
 | i + 3, _, hi => by omega
theorem sliceStr {s : ByteArray} (h1 : 1 ≤ s.size) : sliceA TTz h 9 (.c (.str s)) (some (.c (.int .i64 1))) none none = some (.c (.str (s.extract 1 s.size))) := by
 have h2 : (1 : Int) ≤ s.size := by omega
 have h3 : ¬ s.size < 1 := by omega
 simp [sliceA, lowOf, bound, h1, h2, h3]
theorem c_l1Dec (s : ByteArray) (hs : s.size ≤ 1000) : Dz.den 187 [.c (.str s)] h = some (.t [.c (.int .i64 (numR s).1), .c (.bool (numR s).2)], h) := by
 refine den_plain rfl Tryz.func187 rfl rfl ?_
 have no : ∀ t : ByteArray, ∀ i, i < t.size → ¬ isD (t[i]?.getD 0) = true → ¬ allD t = true := fun t i hi hb ha => hb (by
  simp only [allD, List.all_eq_true, List.mem_range] at ha; exact ha i hi)
 have yes : ∀ t : ByteArray, (∀ j, j < t.size → isD (t[j]?.getD 0) = true) → allD t = true := fun t ht => by
  simp only [allD, List.all_eq_true, List.mem_range]; exact ht
 by_cases hn : negS s = true
 ·have hb : bareS s = s.extract 1 s.size := by unfold bareS; rw [if_pos hn]
  have h2 : 1 < s.size ∧ s[0]?.getD 0 = 45 := by simpa [negS] using hn
  have h1 : (1 : Int) < s.size := by omega
  have e0 : s[0]? = some 45 := by
   have hlt : 0 < s.size := by omega
   have := h2.2
   rw [getElem?_pos s 0 hlt, Option.getD_some] at this
   rw [getElem?_pos s 0 hlt, this]
  have es := sliceStr (h := h) (s := s) (by omega)
  unfold numR
  rw [hb, if_pos hn]
  generalize s.extract 1 s.size = t at *
  by_cases hsz : 1 ≤ t.size ∧ t.size ≤ 2
  rotate_left
  ·have hsz' : ¬ ((1 : Int) ≤ t.size ∧ (t.size : Int) ≤ 2) := by omega
   rw [if_neg (fun hh => hsz hh.1)]
   simp [Tryz.f187, h1, e0, es, hsz']
   try rfl
  have wj : ∀ i, i < t.size → IntKind.i64.wrap ((i : Int) + 1) = (i : Int) + 1 := fun i hi => wrapS (by omega) (by omega)
  have hsz1 : (1 : Int) ≤ t.size := by omega
  have hsz2 : (t.size : Int) ≤ 2 := by omega
  simp [Tryz.f187, h1, e0, es, hsz1, hsz2]
  refine count_wpG (σ := Unit) t.size (fun i _ => ([.c (.str (t)), .c (ci 0), .c (.bool false), .c (ci (-1)), .c (ci (accTo (t) i)), .c (ci i)], [], [], h)) (fun i _ => ∀ j, j < i → isD ((t)[j]?.getD 0) = true) () (by simp [accTo]) (fun j hj => by omega) ?_ ?_
  ·rintro i - hi hP
   have hi' : (i : Int) < t.size := by omega
   have ei : (t)[i]? = some (t)[i] := getElem?_pos _ i hi
   have eg : (t)[i]?.getD 0 = (t)[i] := by rw [ei]; rfl
   have hr := accTo_range (t := t) i hP (by omega)
   rw [Wp_body]
   by_cases d : isD (t)[i] = true
   ·have d2 : 48 ≤ (t)[i].toNat ∧ (t)[i].toNat ≤ 57 := by simpa [isD] using d
    have q1 : ¬ (((t)[i].toNat : Int) < 48) := by omega
    have q2 : ¬ ((57 : Int) < (t)[i].toNat) := by omega
    have u1 : IntKind.i64.wrap (10 * accTo (t) i) = 10 * accTo (t) i := wrapS (by omega) (by split at hr <;> (try split at hr) <;> omega)
    have u2 : IntKind.u8.wrap (((t)[i].toNat : Int) - 48) = ((t)[i].toNat : Int) - 48 := by
     obtain ⟨x, hx⟩ : ∃ x : Nat, x = (t)[i].toNat - 48 := ⟨_, rfl⟩
     have e : ((t)[i].toNat : Int) - 48 = x := by omega
     rw [e]
     have : x = 0 ∨ x = 1 ∨ x = 2 ∨ x = 3 ∨ x = 4 ∨ x = 5 ∨ x = 6 ∨ x = 7 ∨ x = 8 ∨ x = 9 := by omega
     rcases this with h | h | h | h | h | h | h | h | h | h <;> subst h <;> decide
    have u3 : IntKind.i64.wrap (((t)[i].toNat : Int) - 48) = ((t)[i].toNat : Int) - 48 := wrapS (by omega) (by omega)
    have u4 : IntKind.i64.wrap (10 * accTo (t) i + (((t)[i].toNat : Int) - 48)) = 10 * accTo (t) i + (((t)[i].toNat : Int) - 48) := wrapS (by omega) (by split at hr <;> (try split at hr) <;> omega)
    simp [hi, hi', ei, q1, q2, u1, u2, u3, u4, wj i hi, accTo, eg]
    exact fun j hj => by
     by_cases e : j = i
     ·subst e; rw [eg]; exact d
     ·exact hP j (by omega)
   ·have nd := no (t) i hi (by rw [eg]; exact d)
    by_cases q1 : ((t)[i].toNat : Int) < 48
    ·rw [if_neg (fun hh => nd hh.2)]
     simp [hi, hi', ei, q1]
     try rfl
    ·have q2 : (57 : Int) < (t)[i].toNat := by
      apply Classical.byContradiction
      intro q2
      exact d (by simp only [isD, decide_eq_true_eq]; omega)
     rw [if_neg (fun hh => nd hh.2)]
     simp [hi, hi', ei, q1, q2]
     try rfl
  ·rintro - hP
   have hr := accTo_range (t := t) _ hP hsz.2
   have hA := yes (t) hP
   have wf : IntKind.i64.wrap ((-1) * accTo (t) (t).size) = (-1) * accTo (t) (t).size := wrap_i64 (by split at hr <;> (try split at hr) <;> omega) (by split at hr <;> (try split at hr) <;> omega)
   rw [Wp_body]
   rw [if_pos ⟨hsz, hA⟩]
   have wf2 : IntKind.i64.wrap (-accTo t t.size) = -accTo t t.size := by simpa using wf
   simp [wf, wf2]
   try rfl
 ·have hb : bareS s = s := by unfold bareS; rw [if_neg hn]
  unfold numR
  rw [hb, if_neg hn]
  have hne : ∀ b, s[0]? = some b → 1 < s.size → ¬ ((b.toNat : Int) = 45) := fun b hb2 h1 e => hn (by
   simp only [negS, hb2, Option.getD_some, Bool.and_eq_true, decide_eq_true_eq, beq_iff_eq]
   exact ⟨h1, UInt8.toNat_inj.1 (by have : (45 : UInt8).toNat = 45 := rfl; omega)⟩)
  by_cases h1' : 1 < s.size
  ·have h1 : (1 : Int) < s.size := by omega
   have e0 : s[0]? = some s[0] := getElem?_pos s 0 (by omega)
   have e1 := hne _ e0 h1'
   by_cases hsz : 1 ≤ s.size ∧ s.size ≤ 2
   rotate_left
   ·have hsz' : ¬ ((1 : Int) ≤ s.size ∧ (s.size : Int) ≤ 2) := by omega
    rw [if_neg (fun hh => hsz hh.1)]
    simp [Tryz.f187, h1, e0, e1, hsz']
    try rfl
   have wj : ∀ i, i < s.size → IntKind.i64.wrap ((i : Int) + 1) = (i : Int) + 1 := fun i hi => wrapS (by omega) (by omega)
   have hsz1 : (1 : Int) ≤ s.size := by omega
   have hsz2 : (s.size : Int) ≤ 2 := by omega
   simp [Tryz.f187, h1, e0, e1, hsz1, hsz2]
   refine count_wpG (σ := Unit) s.size (fun i _ => ([.c (.str (s)), .c (ci 0), .c (.bool false), .c (ci (1)), .c (ci (accTo (s) i)), .c (ci i)], [], [], h)) (fun i _ => ∀ j, j < i → isD ((s)[j]?.getD 0) = true) () (by simp [accTo]) (fun j hj => by omega) ?_ ?_
   ·rintro i - hi hP
    have hi' : (i : Int) < s.size := by omega
    have ei : (s)[i]? = some (s)[i] := getElem?_pos _ i hi
    have eg : (s)[i]?.getD 0 = (s)[i] := by rw [ei]; rfl
    have hr := accTo_range (t := s) i hP (by omega)
    rw [Wp_body]
    by_cases d : isD (s)[i] = true
    ·have d2 : 48 ≤ (s)[i].toNat ∧ (s)[i].toNat ≤ 57 := by simpa [isD] using d
     have q1 : ¬ (((s)[i].toNat : Int) < 48) := by omega
     have q2 : ¬ ((57 : Int) < (s)[i].toNat) := by omega
     have u1 : IntKind.i64.wrap (10 * accTo (s) i) = 10 * accTo (s) i := wrapS (by omega) (by split at hr <;> (try split at hr) <;> omega)
     have u2 : IntKind.u8.wrap (((s)[i].toNat : Int) - 48) = ((s)[i].toNat : Int) - 48 := by
      obtain ⟨x, hx⟩ : ∃ x : Nat, x = (s)[i].toNat - 48 := ⟨_, rfl⟩
      have e : ((s)[i].toNat : Int) - 48 = x := by omega
      rw [e]
      have : x = 0 ∨ x = 1 ∨ x = 2 ∨ x = 3 ∨ x = 4 ∨ x = 5 ∨ x = 6 ∨ x = 7 ∨ x = 8 ∨ x = 9 := by omega
      rcases this with h | h | h | h | h | h | h | h | h | h <;> subst h <;> decide
     have u3 : IntKind.i64.wrap (((s)[i].toNat : Int) - 48) = ((s)[i].toNat : Int) - 48 := wrapS (by omega) (by omega)
     have u4 : IntKind.i64.wrap (10 * accTo (s) i + (((s)[i].toNat : Int) - 48)) = 10 * accTo (s) i + (((s)[i].toNat : Int) - 48) := wrapS (by omega) (by split at hr <;> (try split at hr) <;> omega)
     simp [hi, hi', ei, q1, q2, u1, u2, u3, u4, wj i hi, accTo, eg]
     exact fun j hj => by
      by_cases e : j = i
      ·subst e; rw [eg]; exact d
      ·exact hP j (by omega)
    ·have nd := no (s) i hi (by rw [eg]; exact d)
     by_cases q1 : ((s)[i].toNat : Int) < 48
     ·rw [if_neg (fun hh => nd hh.2)]
      simp [hi, hi', ei, q1]
      try rfl
     ·have q2 : (57 : Int) < (s)[i].toNat := by
       apply Classical.byContradiction
       intro q2
       exact d (by simp only [isD, decide_eq_true_eq]; omega)
      rw [if_neg (fun hh => nd hh.2)]
      simp [hi, hi', ei, q1, q2]
      try rfl
   ·rintro - hP
    have hr := accTo_range (t := s) _ hP hsz.2
    have hA := yes (s) hP
    have wf : IntKind.i64.wrap ((1) * accTo (s) (s).size) = (1) * accTo (s) (s).size := wrap_i64 (by split at hr <;> (try split at hr) <;> omega) (by split at hr <;> (try split at hr) <;> omega)
    rw [Wp_body]
    rw [if_pos ⟨hsz, hA⟩]
    simp only [Int.one_mul] at wf ⊢
    simp [wf]
    try rfl
  ·have h1 : ¬ (1 : Int) < s.size := by omega
   by_cases hsz : 1 ≤ s.size ∧ s.size ≤ 2
   rotate_left
   ·have hsz' : ¬ ((1 : Int) ≤ s.size ∧ (s.size : Int) ≤ 2) := by omega
    rw [if_neg (fun hh => hsz hh.1)]
    simp [Tryz.f187, h1, hsz']
    try rfl
   have wj : ∀ i, i < s.size → IntKind.i64.wrap ((i : Int) + 1) = (i : Int) + 1 := fun i hi => wrapS (by omega) (by omega)
   have hsz1 : (1 : Int) ≤ s.size := by omega
   have hsz2 : (s.size : Int) ≤ 2 := by omega
   simp [Tryz.f187, h1, hsz1, hsz2]
   refine count_wpG (σ := Unit) s.size (fun i _ => ([.c (.str (s)), .c (ci 0), .c (.bool false), .c (ci (1)), .c (ci (accTo (s) i)), .c (ci i)], [], [], h)) (fun i _ => ∀ j, j < i → isD ((s)[j]?.getD 0) = true) () (by simp [accTo]) (fun j hj => by omega) ?_ ?_
   ·rintro i - hi hP
    have hi' : (i : Int) < s.size := by omega
    have ei : (s)[i]? = some (s)[i] := getElem?_pos _ i hi
    have eg : (s)[i]?.getD 0 = (s)[i] := by rw [ei]; rfl
    have hr := accTo_range (t := s) i hP (by omega)
    rw [Wp_body]
    by_cases d : isD (s)[i] = true
    ·have d2 : 48 ≤ (s)[i].toNat ∧ (s)[i].toNat ≤ 57 := by simpa [isD] using d
     have q1 : ¬ (((s)[i].toNat : Int) < 48) := by omega
     have q2 : ¬ ((57 : Int) < (s)[i].toNat) := by omega
     have u1 : IntKind.i64.wrap (10 * accTo (s) i) = 10 * accTo (s) i := wrapS (by omega) (by split at hr <;> (try split at hr) <;> omega)
     have u2 : IntKind.u8.wrap (((s)[i].toNat : Int) - 48) = ((s)[i].toNat : Int) - 48 := by
      obtain ⟨x, hx⟩ : ∃ x : Nat, x = (s)[i].toNat - 48 := ⟨_, rfl⟩
      have e : ((s)[i].toNat : Int) - 48 = x := by omega
      rw [e]
      have : x = 0 ∨ x = 1 ∨ x = 2 ∨ x = 3 ∨ x = 4 ∨ x = 5 ∨ x = 6 ∨ x = 7 ∨ x = 8 ∨ x = 9 := by omega
      rcases this with h | h | h | h | h | h | h | h | h | h <;> subst h <;> decide
     have u3 : IntKind.i64.wrap (((s)[i].toNat : Int) - 48) = ((s)[i].toNat : Int) - 48 := wrapS (by omega) (by omega)
     have u4 : IntKind.i64.wrap (10 * accTo (s) i + (((s)[i].toNat : Int) - 48)) = 10 * accTo (s) i + (((s)[i].toNat : Int) - 48) := wrapS (by omega) (by split at hr <;> (try split at hr) <;> omega)
     simp [hi, hi', ei, q1, q2, u1, u2, u3, u4, wj i hi, accTo, eg]
     exact fun j hj => by
      by_cases e : j = i
      ·subst e; rw [eg]; exact d
      ·exact hP j (by omega)
    ·have nd := no (s) i hi (by rw [eg]; exact d)
     by_cases q1 : ((s)[i].toNat : Int) < 48
     ·rw [if_neg (fun hh => nd hh.2)]
      simp [hi, hi', ei, q1]
      try rfl
     ·have q2 : (57 : Int) < (s)[i].toNat := by
       apply Classical.byContradiction
       intro q2
       exact d (by simp only [isD, decide_eq_true_eq]; omega)
      rw [if_neg (fun hh => nd hh.2)]
      simp [hi, hi', ei, q1, q2]
      try rfl
   ·rintro - hP
    have hr := accTo_range (t := s) _ hP hsz.2
    have hA := yes (s) hP
    have wf : IntKind.i64.wrap ((1) * accTo (s) (s).size) = (1) * accTo (s) (s).size := wrap_i64 (by split at hr <;> (try split at hr) <;> omega) (by split at hr <;> (try split at hr) <;> omega)
    rw [Wp_body]
    rw [if_pos ⟨hsz, hA⟩]
    simp only [Int.one_mul] at wf ⊢
    simp [wf]
    try rfl
end Go.Proofs.YtmkiojlebjknlaaGreat

/-
 TEXTS: values, read.
-/
set_option maxRecDepth 8000
namespace Go.Proofs.YtmkiojlebjknlaaGreat
open Go.AM
variable {h k : H} {p n m lo : Nat}
/-! A text's bytes, as a list. -/
theorem toList_loop (bs : ByteArray) : ∀ (n i : Nat) (r : List UInt8), bs.size - i = n → ByteArray.toList.loop bs i r = r.reverse ++ bs.data.toList.drop i
 | 0, i, r, h => by
  have hs : bs.size = bs.data.toList.length := (Array.length_toList (xs := bs.data)).symm
  rw [ByteArray.toList.loop, if_neg (by omega), List.drop_of_length_le (by omega), List.append_nil]
 | n + 1, i, r, h => by
  have hs : bs.size = bs.data.toList.length := (Array.length_toList (xs := bs.data)).symm
  have hi : i < bs.data.toList.length := by omega
  rw [ByteArray.toList.loop, if_pos (by omega), toList_loop bs n (i + 1) _ (by omega), List.drop_eq_getElem_cons hi]
  have e : bs.get! i = bs.data.toList[i] := by
   have hi2 : i < bs.data.size := by simpa using hi
   show bs.data[i]! = _
   rw [getElem!_pos bs.data i hi2]; simp
  rw [e]; simp
theorem toList_eq (bs : ByteArray) : bs.toList = bs.data.toList := by
 rw [ByteArray.toList, toList_loop bs _ 0 [] rfl]; simp
theorem toList_inj {a b : ByteArray} (h : a.toList = b.toList) : a = b := by
 rw [toList_eq, toList_eq] at h
 cases a; cases b
 simp only at h
 congr 1
 exact Array.ext' h
def kindR (b : UInt8) : Int := if b.toNat = 110 then 1 else if b.toNat = 97 then 2 else if b.toNat = 114 then 3 else 0
def valR (s : ByteArray) : PVal × Bool :=
  if s = ⟨#[110, 111, 110, 101]⟩ then (⟨0, 0⟩, true)
  else if 2 ≤ s.size ∧ s.size ≤ 4 then
    (let v : PVal := ⟨kindR (s[0]?.getD 0), (numR (s.extract 1 s.size)).1⟩
     if (numR (s.extract 1 s.size)).2 = true ∧ ¬ v.k = 0 ∧ valText v = s then (v, true) else (⟨0, 0⟩, false))
  else (⟨0, 0⟩, false)
set_option maxRecDepth 16000
theorem c_ValRead (s : ByteArray) (hs : s.size ≤ 1000) : Dz.den 188 [.c (.str s)] h = some (.t [.g (encV (valR s).1), .c (.bool (valR s).2)], h) := by
 refine den_plain rfl Tryz.func188 rfl rfl ?_
 unfold valR
 by_cases h0 : s = ⟨#[110, 111, 110, 101]⟩
 ·rw [if_pos h0]
  simp [Tryz.f188, h0]
  try rfl
 rw [if_neg h0]
 have h0' : ¬ s.toList = [110, 111, 110, 101] := fun e => h0 (toList_inj (by rw [e, toList_eq]))
 by_cases h1 : 2 ≤ s.size ∧ s.size ≤ 4
 rotate_left
 ·have h1' : ¬ ((2 : Int) ≤ s.size ∧ (s.size : Int) ≤ 4) := by omega
  rw [if_neg h1]
  simp [Tryz.f188, h0, h0', h1']
  try rfl
 rw [if_pos h1]
 have a1 : (2 : Int) ≤ s.size := by omega
 have a2 : (s.size : Int) ≤ 4 := by omega
 have es := sliceStr (h := h) (s := s) (by omega)
 have e2 := c_l1Dec (h := h) (s.extract 1 s.size) (by simp; omega)
 have e0 : s[0]? = some s[0] := getElem?_pos s 0 (by omega)
 have eg : s[0]?.getD 0 = s[0] := by rw [e0]; rfl
 rw [eg]
 generalize s.extract 1 s.size = t at *
 generalize numR t = r at *
 obtain ⟨nr, ok⟩ := r
 simp only at e2 ⊢
 generalize s[0] = b at *
 have fin : ∀ kd : Int, kindR b = kd → Dz.den 191 [.g [.int .i64 kd, .int .i64 nr]] h = some (.c (.str (valText ⟨kd, nr⟩)), h) := fun kd _ => c_ValText ⟨kd, nr⟩
 by_cases k1 : b.toNat = 110
 ·have k1' : (b.toNat : Int) = 110 := by omega
  have ek : kindR b = 1 := by unfold kindR; simp [k1]
  have e3 := fin 1 ek
  rw [ek]
  cases ok with
  | false =>
   simp [Tryz.f188, h0, h0', a1, a2, es, e2, e0, k1']
   try rfl
  | true =>
   by_cases q : valText ⟨1, nr⟩ = s
   ·simp [Tryz.f188, h0, h0', a1, a2, es, e2, e0, k1', e3, q]
    try rfl
   ·have q' : ¬ (valText ⟨1, nr⟩).toList = s.toList := fun e => q (toList_inj e)
    simp [Tryz.f188, h0, h0', a1, a2, es, e2, e0, k1', e3, q, q']
    try rfl
 have k1'' : ¬ (b.toNat : Int) = 110 := by omega
 by_cases k2 : b.toNat = 97
 ·have k2' : (b.toNat : Int) = 97 := by omega
  have ek : kindR b = 2 := by unfold kindR; simp [k1, k2]
  have e3 := fin 2 ek
  rw [ek]
  cases ok with
  | false =>
   simp [Tryz.f188, h0, h0', a1, a2, es, e2, e0, k2']
   try rfl
  | true =>
   by_cases q : valText ⟨2, nr⟩ = s
   ·simp [Tryz.f188, h0, h0', a1, a2, es, e2, e0, k2', e3, q]
    try rfl
   ·have q' : ¬ (valText ⟨2, nr⟩).toList = s.toList := fun e => q (toList_inj e)
    simp [Tryz.f188, h0, h0', a1, a2, es, e2, e0, k2', e3, q, q']
    try rfl
 have k2'' : ¬ (b.toNat : Int) = 97 := by omega
 by_cases k3 : b.toNat = 114
 ·have k3' : (b.toNat : Int) = 114 := by omega
  have ek : kindR b = 3 := by unfold kindR; simp [k1, k2, k3]
  have e3 := fin 3 ek
  rw [ek]
  cases ok with
  | false =>
   simp [Tryz.f188, h0, h0', a1, a2, es, e2, e0, k3']
   try rfl
  | true =>
   by_cases q : valText ⟨3, nr⟩ = s
   ·simp [Tryz.f188, h0, h0', a1, a2, es, e2, e0, k3', e3, q]
    try rfl
   ·have q' : ¬ (valText ⟨3, nr⟩).toList = s.toList := fun e => q (toList_inj e)
    simp [Tryz.f188, h0, h0', a1, a2, es, e2, e0, k3', e3, q, q']
    try rfl
 have k3'' : ¬ (b.toNat : Int) = 114 := by omega
 have ek : kindR b = 0 := by unfold kindR; simp [k1, k2, k3]
 rw [ek]
 cases ok with
 | false =>
  simp [Tryz.f188, h0, h0', a1, a2, es, e2, e0, k1'', k2'', k3'']
  try rfl
 | true =>
  simp [Tryz.f188, h0, h0', a1, a2, es, e2, e0, k1'', k2'', k3'']
  try rfl
end Go.Proofs.YtmkiojlebjknlaaGreat

/-
 TEXTS: steps, written.
-/
set_option maxRecDepth 8000
namespace Go.Proofs.YtmkiojlebjknlaaGreat
open Go.AM
variable {h k : H} {p n m lo : Nat}
def names : List ByteArray := [⟨#[]⟩, ⟨#[115, 101, 116]⟩, ⟨#[109, 111, 118, 101]⟩, ⟨#[97, 100, 100]⟩, ⟨#[115, 101, 108, 102]⟩, ⟨#[98, 101, 103, 105, 110]⟩, ⟨#[115, 101, 110, 100]⟩, ⟨#[116, 97, 107, 101]⟩, ⟨#[97, 102, 116, 101, 114]⟩, ⟨#[103, 111]⟩, ⟨#[105, 102]⟩, ⟨#[108, 105, 110, 107]⟩, ⟨#[119, 97, 116, 99, 104]⟩, ⟨#[116, 114, 97, 112]⟩, ⟨#[101, 110, 100]⟩]
set_option maxRecDepth 16000
theorem c_l2Names : Dz.den 186 [] h = some (.c (.sl h.length 0 15 none), h.push ⟨false, 1, names.map encS⟩) := by
 rw [← Wp_eq]
 refine den_wp rfl Tryz.func186 rfl ?_
 simp [Tryz.f186, names, encS]
theorem names_sl (h : H) : Sl (h.push ⟨false, 1, names.map encS⟩) (.sl h.length 0 15 none) 1 encS names := Sl.new (by simp) (by simp [names, sMost])
def addT (t : ByteArray) (b : Bool) (u : ByteArray) : ByteArray := if b = true then t ++ byte1 32 ++ u else t
def opText (o : POp) : ByteArray := if opOk o = true then addT (addT (addT (addT (names[o.kind.toNat]?.getD ⟨#[]⟩) (hasR o.kind) (decP o.r)) (hasS o.kind) (decP o.s)) (hasT o.kind) (decP o.to)) (hasV o.kind) (valText o.v) else ⟨#[]⟩
theorem form_has {k : Int} (h1 : 1 ≤ k) (h2 : k ≤ 14) : form k = [hasR k, hasS k, hasT k, hasV k] := by
 obtain ⟨j, rfl⟩ := Int.eq_ofNat_of_zero_le (show 0 ≤ k by omega)
 have : j = 1 ∨ j = 2 ∨ j = 3 ∨ j = 4 ∨ j = 5 ∨ j = 6 ∨ j = 7 ∨ j = 8 ∨ j = 9 ∨ j = 10 ∨ j = 11 ∨ j = 12 ∨ j = 13 ∨ j = 14 := by omega
 rcases this with h | h | h | h | h | h | h | h | h | h | h | h | h | h <;> subst h <;> decide
theorem names_size {K : Nat} (hK : K < names.length) : names[K].size ≤ 5 := by
 have h15 : K < 15 := hK
 have : ∀ j : Fin 15, (names[j.val]'j.isLt).size ≤ 5 := by decide
 exact this ⟨K, h15⟩
theorem decP_size {x : Int} : (decP x).size ≤ 3 := by
 unfold decP
 split
 ·rw [ByteArray.size_append]; have a : (byte1 45).size = 1 := rfl; have := dec2_size (n := (-x).toNat); omega
 ·have := dec2_size (n := x.toNat); omega
theorem valText_size {v : PVal} : (valText v).size ≤ 4 := by
 unfold valText
 split
 ·split
  ·exact Nat.le_refl 4
  ·rw [ByteArray.size_append]
   have a : ∀ b, (byte1 b).size = 1 := fun _ => rfl
   have := decP_size (x := v.n)
   rw [a]; omega
 ·exact Nat.zero_le _
set_option maxHeartbeats 4000000 in
theorem c_OpText (o : POp) : Dz.den 189 [.g (encO o)] h = some (.c (.str (opText o)), h) := by
 refine den_plain rfl Tryz.func189 rfl rfl ?_
 have e0 := c_OpOk (h := h) o
 unfold opText
 by_cases ok : opOk o = true
 rotate_left
 ·have ok' : opOk o = false := by simpa using ok
  rw [if_neg ok]
  rw [ok'] at e0
  simp only [encO] at e0
  simp [Tryz.f189, e0]
 rw [if_pos ok]
 rw [ok] at e0
 have hk : 1 ≤ o.kind ∧ o.kind ≤ 14 := by have := ok; simp only [opOk, Bool.and_eq_true, decide_eq_true_eq] at this; exact this.1.1.1.1
 have hr : -99 ≤ o.r ∧ o.r ≤ 99 := by have := ok; simp only [opOk, Bool.and_eq_true] at this; have := this.1.1.1.2; split at this <;> simp only [decide_eq_true_eq] at this <;> omega
 have hs : -99 ≤ o.s ∧ o.s ≤ 99 := by have := ok; simp only [opOk, Bool.and_eq_true] at this; have := this.1.1.2; split at this <;> simp only [decide_eq_true_eq] at this <;> omega
 have ht : -99 ≤ o.to ∧ o.to ≤ 99 := by have := ok; simp only [opOk, Bool.and_eq_true] at this; have := this.1.2; split at this <;> simp only [decide_eq_true_eq] at this <;> omega
 obtain ⟨K, hK⟩ := Int.eq_ofNat_of_zero_le (show 0 ≤ o.kind by omega)
 have hK15 : K < names.length := by show K < 15; omega
 have eF := c_l2Form (h := h) o.kind
 have hF := form_has hk.1 hk.2
 rw [hF] at eF
 obtain ⟨g1, hg1⟩ : ∃ g1 : H, g1 = h.push ⟨false, 1, [hasR o.kind, hasS o.kind, hasT o.kind, hasV o.kind].map encB⟩ := ⟨_, rfl⟩
 have S1 : Sl g1 (.sl h.length 0 4 none) 1 encB [hasR o.kind, hasS o.kind, hasT o.kind, hasV o.kind] := by rw [hg1]; exact Sl.new (by simp) (by simp [sMost])
 rw [← hg1] at eF
 obtain ⟨g2, hg2⟩ : ∃ g2 : H, g2 = g1.push ⟨false, 1, names.map encS⟩ := ⟨_, rfl⟩
 have eN := c_l2Names (h := g1)
 have SN := names_sl g1
 rw [← hg2] at eN SN
 have x2 : Ext g1 g2 := by rw [hg2]; exact Ext.push _ _
 have xh : Ext h g2 := by rw [hg1] at x2; exact (Ext.push _ _).trans x2
 obtain ⟨⟨i0, i1, i2, i3⟩, a0, a1, a2, a3⟩ := row4 (S1.ext x2)
 have iN := ixA_nat SN (T := TTz) (e := 9) (k := .i64) (n := K) rfl rfl hK15
 have aN := SN.at (n := K) (k := 0) (m := 1) hK15 (by omega)
 have dr := fun g : H => c_decP (h := g) hr.1 hr.2
 have ds := fun g : H => c_decP (h := g) hs.1 hs.2
 have dt := fun g : H => c_decP (h := g) ht.1 ht.2
 have dv := fun g : H => c_ValText (h := g) o.v
 have z1 : (⟨#[32]⟩ : ByteArray).size = 1 := rfl
 have hN := names_size hK15
 have hA := decP_size (x := o.r)
 have hB := decP_size (x := o.s)
 have hC := decP_size (x := o.to)
 have hE := valText_size (v := o.v)
 simp only [sid, soff, Nat.zero_add] at iN aN
 rw [List.getElem?_eq_getElem hK15] at aN
 simp only [Option.getD_some, encS, List.drop_zero, List.take_succ_cons, List.take_zero] at aN
 have eK : names[o.kind.toNat]?.getD ⟨#[]⟩ = names[K] := by rw [hK]; simp [hK15]
 rw [eK]
 generalize names[K] = N at *
 generalize decP o.r = A at *
 generalize decP o.s = B at *
 generalize decP o.to = C at *
 generalize valText o.v = E at *
 generalize hasR o.kind = bR at *
 generalize hasS o.kind = bS at *
 generalize hasT o.kind = bT at *
 generalize hasV o.kind = bV at *
 simp only [encO, List.length_cons, List.length_nil] at e0 eF
 rw [hK] at e0 eF
 have p : N.size + 1 < 4611686018427387904 := by omega
 have q : N.size < 4611686018427387904 := by omega
 have pA : N.size + 1 + A.size + 1 < 4611686018427387904 := by omega
 have qA : N.size + 1 + A.size < 4611686018427387904 := by omega
 have pB : N.size + 1 + B.size + 1 < 4611686018427387904 := by omega
 have qB : N.size + 1 + B.size < 4611686018427387904 := by omega
 have pC : N.size + 1 + C.size + 1 < 4611686018427387904 := by omega
 have qC : N.size + 1 + C.size < 4611686018427387904 := by omega
 have pE : N.size + 1 + E.size + 1 < 4611686018427387904 := by omega
 have qE : N.size + 1 + E.size < 4611686018427387904 := by omega
 have pAB : N.size + 1 + A.size + 1 + B.size + 1 < 4611686018427387904 := by omega
 have qAB : N.size + 1 + A.size + 1 + B.size < 4611686018427387904 := by omega
 have pAC : N.size + 1 + A.size + 1 + C.size + 1 < 4611686018427387904 := by omega
 have qAC : N.size + 1 + A.size + 1 + C.size < 4611686018427387904 := by omega
 have pAE : N.size + 1 + A.size + 1 + E.size + 1 < 4611686018427387904 := by omega
 have qAE : N.size + 1 + A.size + 1 + E.size < 4611686018427387904 := by omega
 have pBC : N.size + 1 + B.size + 1 + C.size + 1 < 4611686018427387904 := by omega
 have qBC : N.size + 1 + B.size + 1 + C.size < 4611686018427387904 := by omega
 have pBE : N.size + 1 + B.size + 1 + E.size + 1 < 4611686018427387904 := by omega
 have qBE : N.size + 1 + B.size + 1 + E.size < 4611686018427387904 := by omega
 have pCE : N.size + 1 + C.size + 1 + E.size + 1 < 4611686018427387904 := by omega
 have qCE : N.size + 1 + C.size + 1 + E.size < 4611686018427387904 := by omega
 have pABC : N.size + 1 + A.size + 1 + B.size + 1 + C.size + 1 < 4611686018427387904 := by omega
 have qABC : N.size + 1 + A.size + 1 + B.size + 1 + C.size < 4611686018427387904 := by omega
 have pABE : N.size + 1 + A.size + 1 + B.size + 1 + E.size + 1 < 4611686018427387904 := by omega
 have qABE : N.size + 1 + A.size + 1 + B.size + 1 + E.size < 4611686018427387904 := by omega
 have pACE : N.size + 1 + A.size + 1 + C.size + 1 + E.size + 1 < 4611686018427387904 := by omega
 have qACE : N.size + 1 + A.size + 1 + C.size + 1 + E.size < 4611686018427387904 := by omega
 have pBCE : N.size + 1 + B.size + 1 + C.size + 1 + E.size + 1 < 4611686018427387904 := by omega
 have qBCE : N.size + 1 + B.size + 1 + C.size + 1 + E.size < 4611686018427387904 := by omega
 have pABCE : N.size + 1 + A.size + 1 + B.size + 1 + C.size + 1 + E.size + 1 < 4611686018427387904 := by omega
 have qABCE : N.size + 1 + A.size + 1 + B.size + 1 + C.size + 1 + E.size < 4611686018427387904 := by omega
 cases bR <;> cases bS <;> cases bT <;> cases bV <;> simp [Tryz.f189, hK, e0, eF, eN, iN, aN, i0, i1, i2, i3, a0, a1, a2, a3, dr, ds, dt, dv, z1, addT, byte1, p, q, pA, qA, pB, qB, pC, qC, pE, qE, pAB, qAB, pAC, qAC, pAE, qAE, pBC, qBC, pBE, qBE, pCE, qCE, pABC, qABC, pABE, qABE, pACE, qACE, pBCE, qBCE, pABCE, qABCE] <;> exact ⟨by kernel_rfl, xh.2⟩
end Go.Proofs.YtmkiojlebjknlaaGreat

/-
 TEXTS: steps, read.
-/
set_option maxRecDepth 8000
namespace Go.Proofs.YtmkiojlebjknlaaGreat
open Go.AM
variable {h k : H} {p n m lo : Nat}
def kindTo (w : ByteArray) : Nat → Int
 | 0 => 0
 | i + 1 => if names[i + 1]?.getD ⟨#[]⟩ = w then (i : Int) + 1 else kindTo w i
def fieldsOf (k : Int) : List Bool := form k
def setF (o : POp) (i : Nat) (w : ByteArray) : POp :=
 if i = 0 then { o with r := (numR w).1 } else if i = 1 then { o with s := (numR w).1 } else if i = 2 then { o with to := (numR w).1 } else { o with v := (valR w).1 }
def fieldsTo (ws : List ByteArray) (k : Int) : Nat → Option (Nat × POp)
 | 0 => some (1, ⟨k, 0, 0, 0, ⟨0, 0⟩⟩)
 | i + 1 => match fieldsTo ws k i with
  | none => none
  | some (a, o) => if (form k)[i]?.getD false = true then (match ws[a]? with | some w => some (a + 1, setF o i w) | none => none) else some (a, o)
def opR1 (s : ByteArray) (r : Option (Nat × POp)) : POp × Bool :=
 match r with
 | none => (⟨0, 0, 0, 0, ⟨0, 0⟩⟩, false)
 | some x => if ¬ s = ⟨#[]⟩ ∧ opText x.2 = s then (x.2, true) else (⟨0, 0, 0, 0, ⟨0, 0⟩⟩, false)
def readAt (ws : List ByteArray) (k : Int) : Option (Nat × POp) := fieldsTo ws k (form k).length
def opR (s : ByteArray) : POp × Bool :=
 if 24 < s.size then (⟨0, 0, 0, 0, ⟨0, 0⟩⟩, false) else opR1 s (readAt (cutsTo s 32 s.size) (kindTo ((cutsTo s 32 s.size)[0]?.getD ⟨#[]⟩) 14))
theorem fieldsTo_none {ws : List ByteArray} {k : Int} {i : Nat} (h : fieldsTo ws k i = none) : ∀ d, fieldsTo ws k (i + d) = none
 | 0 => h
 | d + 1 => by
  have ih := fieldsTo_none h d
  rw [← Nat.add_assoc]
  simp only [fieldsTo, ih]
theorem form_len (k : Int) : (form k).length = 0 ∨ (form k).length = 4 := by
 unfold form
 repeat' split
 all_goals simp
theorem form_most (k : Int) : (form k).length ≤ 4 := by rcases form_len k with h | h <;> omega
set_option maxRecDepth 16000
set_option maxHeartbeats 4000000 in
theorem c_OpRead (s : ByteArray) : Dz.den 182 [.c (.str s)] h = some (.t [.g (encO (opR s).1), .c (.bool (opR s).2)], h) := by
 refine den_plain rfl Tryz.func182 rfl rfl ?_
 unfold opR
 by_cases h24 : 24 < s.size
 ·have h24' : (24 : Int) < s.size := by omega
  rw [if_pos h24]
  simp [Tryz.f182, h24']
  try rfl
 have h24' : ¬ (24 : Int) < s.size := by omega
 rw [if_neg h24]
 obtain ⟨_, e1, c, g1, rfl, O1, x1⟩ := c_l2Cut (h := h) s 32 (by omega)
 have hl := cutsTo_len s 32 s.size
 have hz := cutsTo_size s 32 s.size
 generalize hws : cutsTo s 32 s.size = ws at *
 have e2 := c_l2Names (h := g1)
 obtain ⟨g2, hg2⟩ : ∃ g2 : H, g2 = g1.push ⟨false, 1, names.map encS⟩ := ⟨_, rfl⟩
 have SN := names_sl g1
 rw [← hg2] at e2 SN
 have x2 : Ext g1 g2 := by rw [hg2]; exact Ext.push _ _
 have O2 := O1.ext x2
 have hw0 : 0 < ws.length := by omega
 have ek : ws[0]?.getD ⟨#[]⟩ = ws[0] := by simp [hw0]
 rw [ek]
 simp at e1
 simp [Tryz.f182, h24', e1, e2]
 refine count_wpG (σ := Unit) 14 (fun i _ => ([.c (.str s), .c (.bool false), .c c, .c (.sl g1.length 0 15 none), .c (ci ((i : Int) + 1))], [[.int .i64 0, .int .i64 0, .int .i64 0, .int .i64 0, .int .i64 0, .int .i64 0], [.int .i64 (kindTo (ws[0]) i), .int .i64 0, .int .i64 0, .int .i64 0, .int .i64 0, .int .i64 0]], [], g2)) (fun _ _ => True) () (by simp [kindTo]) trivial ?_ ?_
 ·rintro i - hi -
  have hi15 : i + 1 < names.length := by show i + 1 < 15; omega
  have hi' : (i : Int) + 1 < 15 := by omega
  have iN := ixA_nat SN (T := TTz) (e := 9) (k := .i64) (n := i + 1) rfl rfl hi15
  have aN := SN.at (n := i + 1) (k := 0) (m := 1) hi15 (by omega)
  have wj : IntKind.i64.wrap ((i : Int) + 1 + 1) = (i : Int) + 1 + 1 := wrapS (by omega) (by omega)
  have iW := ixA_nat O2.sl (T := TTz) (e := 9) (k := .i64) (n := 0) rfl rfl hw0
  have aW := O2.sl.at (n := 0) (k := 0) (m := 1) hw0 (by omega)
  simp [sid, soff, encS, hw0, hi15] at iN aN iW aW
  rw [Wp_body]
  simp [hi', iN, aN, iW, aW, wj]
  refine ⟨by unfold LexOk; kernel_rfl, fun e => ?_, fun e => ?_⟩
  ·have := toList_inj e
   simp [kindTo, hi15, this]
  ·have : ¬ names[i + 1] = ws[0] := fun hh => e (by rw [hh])
   simp [kindTo, hi15, this]
 ·rintro - -
  generalize kindTo ws[0] 14 = kd
  have eF := c_l2Form (h := g2) kd
  have hFm := form_most kd
  obtain ⟨g3, hg3⟩ : ∃ g3 : H, g3 = g2.push ⟨false, 1, (form kd).map encB⟩ := ⟨_, rfl⟩
  have SF : Sl g3 (.sl g2.length 0 (form kd).length none) 1 encB (form kd) := by rw [hg3]; exact Sl.new (by simp) (by unfold sMost; omega)
  rw [← hg3] at eF
  have x3 : Ext g2 g3 := by rw [hg3]; exact Ext.push _ _
  have O3 := O2.ext x3
  rw [Wp_body]
  simp [eF]
  refine count_wpG (σ := Nat × POp) (form kd).length (fun i g => ([.c (.str s), .c (.bool false), .c c, .c (.sl g2.length 0 (form kd).length none), .c (ci g.1), .c (ci i)], [[.int .i64 0, .int .i64 0, .int .i64 0, .int .i64 0, .int .i64 0, .int .i64 0], encO g.2], [], g3))
   (fun i g => fieldsTo ws kd i = some g ∧ g.1 ≤ i + 1) (1, ⟨kd, 0, 0, 0, ⟨0, 0⟩⟩) (by simp) ⟨rfl, by simp⟩ ?_ ?_
  ·rintro i ⟨a, o⟩ hi ⟨hf, ha⟩
   simp only at hf ha ⊢
   have hi' : (i : Int) < (form kd).length := by omega
   have iF := ixA_nat SF (T := TTz) (e := 4) (k := .i64) (n := i) rfl rfl hi
   have aF := SF.at (n := i) (k := 0) (m := 1) hi (by omega)
   simp [sid, soff, encB, hi] at iF aF
   have wj : IntKind.i64.wrap ((i : Int) + 1) = (i : Int) + 1 := wrapS (by omega) (by omega)
   have eb : (form kd)[i]?.getD false = (form kd)[i] := by simp [hi]
   have estep : fieldsTo ws kd (i + 1) = if (form kd)[i] = true then (match ws[a]? with | some w => some (a + 1, setF o i w) | none => none) else some (a, o) := by
    simp only [fieldsTo, hf, eb]
   generalize (form kd)[i] = b at *
   rw [Wp_body]
   cases b with
   | false =>
    simp [hi, hi', iF, aF, wj]
    exact ⟨a, o, ⟨rfl, rfl, rfl, rfl, rfl, rfl, rfl⟩, by rw [estep]; simp, by omega⟩
   | true =>
    rw [if_pos rfl] at estep
    by_cases hw : a < ws.length
    rotate_left
    ·have hw' : (ws.length : Int) ≤ a := by omega
     rw [List.getElem?_eq_none (by omega)] at estep
     have er : readAt ws kd = none := by
      have := fieldsTo_none estep ((form kd).length - (i + 1))
      rwa [show i + 1 + ((form kd).length - (i + 1)) = (form kd).length by omega] at this
     rw [er]
     simp [hi, hi', iF, aF, O3.sl.lenA, hw', opR1]
     exact ⟨rfl, (x1.trans (x2.trans x3)).2⟩
    have hw' : ¬ (ws.length : Int) ≤ a := by omega
    have iW := ixA_nat O3.sl (T := TTz) (e := 9) (k := .i64) (n := a) rfl rfl hw
    have aW := O3.sl.at (n := a) (k := 0) (m := 1) hw (by omega)
    have wsz := hz ws[a] (List.getElem_mem hw)
    simp [encS, hw] at iW aW
    have e5 := c_l1Dec (h := g3) ws[a] (by omega)
    have e6 := c_ValRead (h := g3) ws[a] (by omega)
    rw [List.getElem?_eq_getElem hw] at estep
    have wa : IntKind.i64.wrap ((a : Int) + 1) = (a : Int) + 1 := wrapS (by omega) (by omega)
    simp only [encV] at e6
    have i4 : i = 0 ∨ i = 1 ∨ i = 2 ∨ i = 3 := by omega
    rcases i4 with h4 | h4 | h4 | h4 <;> subst h4
    ·simp at iF aF
     have hj : (0 : Int) < (form kd).length := by omega
     simp [hi, hi', hj, iF, aF, O3.sl.lenA, hw', iW, aW, e5, e6, wa]
     exact ⟨a + 1, setF o 0 ws[a], ⟨⟨by simp, by decide⟩, by simp [setF], by simp [setF], by simp [setF], by simp [setF], by simp [setF], by simp [setF]⟩, estep, by omega⟩
    ·simp at iF aF
     have hj : (1 : Int) < (form kd).length := by omega
     simp [hi, hi', hj, iF, aF, O3.sl.lenA, hw', iW, aW, e5, e6, wa]
     exact ⟨a + 1, setF o 1 ws[a], ⟨⟨by simp, by decide⟩, by simp [setF], by simp [setF], by simp [setF], by simp [setF], by simp [setF], by simp [setF]⟩, estep, by omega⟩
    ·simp at iF aF
     have hj : (2 : Int) < (form kd).length := by omega
     simp [hi, hi', hj, iF, aF, O3.sl.lenA, hw', iW, aW, e5, e6, wa]
     exact ⟨a + 1, setF o 2 ws[a], ⟨⟨by simp, by decide⟩, by simp [setF], by simp [setF], by simp [setF], by simp [setF], by simp [setF], by simp [setF]⟩, estep, by omega⟩
    ·simp at iF aF
     have hj : (3 : Int) < (form kd).length := by omega
     simp [hi, hi', hj, iF, aF, O3.sl.lenA, hw', iW, aW, e5, e6, wa]
     exact ⟨a + 1, setF o 3 ws[a], ⟨⟨by simp, by decide⟩, by simp [setF], by simp [setF], by simp [setF], by simp [setF], by simp [setF], by simp [setF]⟩, estep, by omega⟩
  ·rintro ⟨a, o⟩ ⟨hf, ha⟩
   simp only at hf ha ⊢
   have er : readAt ws kd = some (a, o) := hf
   rw [er]
   have eT := c_OpText (h := g3) o
   simp only [encO] at eT
   have xh : Ext h g3 := x1.trans (x2.trans x3)
   rw [Wp_body]
   by_cases q0 : s = ⟨#[]⟩
   ·simp [q0, opR1]
    exact ⟨rfl, xh.2⟩
   ·have q0' : ¬ s.toList = [] := fun e => q0 (toList_inj (by rw [e, toList_eq]))
    by_cases q : opText o = s
    ·simp [q0, q0', q, opR1, eT]
     exact ⟨rfl, xh.2⟩
    ·have q' : ¬ (opText o).toList = s.toList := fun e => q (toList_inj e)
     simp [q0, q0', q, q', opR1, eT]
     exact ⟨rfl, xh.2⟩
end Go.Proofs.YtmkiojlebjknlaaGreat

/-
 TEXTS: code, read.
-/
set_option maxRecDepth 8000
namespace Go.Proofs.YtmkiojlebjknlaaGreat
open Go.AM
variable {h k : H} {p n m lo : Nat}
def linesOf (s : ByteArray) : List ByteArray := cutsTo s 10 s.size
def opsOf (s : ByteArray) : List POp := (linesOf s).dropLast.map fun l => (opR l).1
def Reads1 (s : ByteArray) : Prop := s.size ≤ 400 ∧ 1 < (linesOf s).length ∧ (linesOf s)[(linesOf s).length - 1]?.getD ⟨#[1]⟩ = ⟨#[]⟩ ∧ (∀ l ∈ (linesOf s).dropLast, (opR l).2 = true) ∧ codeOk (opsOf s) = true
set_option maxRecDepth 16000
set_option maxHeartbeats 4000000 in
theorem c_CodeRead {s : ByteArray} (R : Reads1 s) : @Wp _ (Dz.den 155 [.c (.str s)] h) ⟨fun r => ∃ c k, r = (.t [.c c, .c (.bool true)], k) ∧ OwnL h.length k c 6 encO (opsOf s) ∧ Ext h k⟩ := by
 refine den_wp rfl Tryz.func155 rfl ?_
 obtain ⟨r1, r2, r3, r4, r5⟩ := R
 obtain ⟨_, e1, c, g1, rfl, O1, x1⟩ := c_l2Cut (h := h) s 10 (by omega)
 have hz := cutsTo_size s 10 s.size
 have hlen := cutsTo_len s 10 s.size
 obtain ⟨L, hL⟩ : ∃ L, L = linesOf s := ⟨_, rfl⟩
 have hO : opsOf s = L.dropLast.map fun l => (opR l).1 := by rw [hL]; rfl
 have hcuts : cutsTo s 10 s.size = L := hL.symm
 rw [hcuts] at O1 hz hlen
 rw [← hL] at r2 r3 r4
 rw [hO] at r5 ⊢
 obtain ⟨N, hN⟩ : ∃ N, N = L.length - 1 := ⟨_, rfl⟩
 have hNl : N < L.length := by omega
 have hDL : L.dropLast.length = N := by rw [List.length_dropLast]; omega
 rw [← hN, List.getElem?_eq_getElem hNl, Option.getD_some] at r3
 have s4 : ¬ (400 : Int) < s.size := by omega
 have wN : IntKind.i64.wrap ((L.length : Int) - 1) = N := by rw [wrapS (by omega) (by omega)]; omega
 have n1 : ¬ (N : Int) < 1 := by omega
 have iN := ixA_nat O1.sl (T := TTz) (e := 9) (k := .i64) (n := N) rfl rfl hNl
 have aN := O1.sl.at (n := N) (k := 0) (m := 1) hNl (by omega)
 have tl : (⟨#[]⟩ : ByteArray).toList = [] := by rw [toList_eq]
 simp [encS, hNl, r3] at iN aN
 simp at e1
 simp [Tryz.f155, s4, e1, O1.sl.lenA, wN, n1, iN, aN, tl]
 refine count_wpG (σ := H × Cell) N (fun i g => ([.c .nils, .c (.bool false), .c c, .c (ci N), .c g.2, .c (ci i)], [], [], g.1))
  (fun i g => OwnL g1.length g.1 g.2 6 encO ((L.dropLast.take i).map fun l => (opR l).1) ∧ OwnL h.length g.1 c 1 encS L ∧ Ext h g.1 ∧ g1.length ≤ g.1.length)
  (g1.push ⟨false, 6, []⟩, .sl g1.length 0 0 none) (by simp) ⟨?_, O1.ext (Ext.push _ _), x1.trans (Ext.push _ _), by simp⟩ ?_ ?_
 ·have := OwnL.new (enc := encO) (es := 6) g1 [] (by simp) (by simp)
  exact this
 ·rintro i ⟨g, c2⟩ hi ⟨o, oL, x, lg⟩
  simp only at o oL x lg ⊢
  have hi' : (i : Int) < N := by omega
  have hiL : i < L.length := by omega
  have hiD : i < L.dropLast.length := by omega
  have eD : L.dropLast[i] = L[i] := List.getElem_dropLast ..
  have iW := ixA_nat oL.sl (T := TTz) (e := 9) (k := .i64) (n := i) rfl rfl hiL
  have aW := oL.sl.at (n := i) (k := 0) (m := 1) hiL (by omega)
  simp [encS, hiL] at iW aW
  have e3 := c_OpRead (h := g) L[i]
  have ok := r4 L[i] (by rw [← eD]; exact List.getElem_mem hiD)
  rw [ok] at e3
  obtain ⟨c3, k3, e4, o3, ch⟩ := o.app lg (opR L[i]).1 (by simp) (by simp only [List.length_map, List.length_take]; unfold lenMost; omega)
  have wj : IntKind.i64.wrap ((i : Int) + 1) = (i : Int) + 1 := wrapS (by omega) (by omega)
  simp only [encO] at e3 e4
  rw [Wp_body]
  simp [hi, hi', iW, aW, e3, e4, wj]
  have hk : ∀ id ∈ c.ids, k3.get id = g.get id := fun id hid => ch.keep id (oL.sl.ids_lt id hid) fun hh => by have := o.ids id hh; have := O1.sl.ids_lt id hid; omega
  have el : List.take (i + 1) (List.map (fun l => (opR l).fst) L).dropLast = (L.dropLast.take i).map (fun l => (opR l).1) ++ [(opR L[i]).1] := by
   rw [← List.map_dropLast, ← List.map_take, List.take_succ_eq_append_getElem hiD, List.map_append, eD]; rfl
  have lx := x1.1
  refine ⟨k3, c3, ⟨rfl, rfl⟩, by rw [el]; exact o3, ⟨oL.sl.same hk, oL.wr.same hk, oL.un, oL.ids⟩, ⟨Nat.le_trans x.1 ch.len, fun id hid => ?_⟩, Nat.le_trans lg ch.len⟩
  rw [ch.keep id (Nat.lt_of_lt_of_le hid x.1) (fun hh => by have := o.ids id hh; omega), x.2 id hid]
 ·rintro ⟨g, c2⟩ ⟨o, oL, x, lg⟩
  simp only at o oL x lg ⊢
  rw [List.take_of_length_le (by omega)] at o
  have e5 := c_CodeOk o.sl
  rw [r5] at e5
  rw [Wp_body]
  simp [e5]
  exact ⟨rfl, c2, g, ⟨rfl, rfl⟩, by rw [← List.map_dropLast]; exact o.low x1.1, x⟩
end Go.Proofs.YtmkiojlebjknlaaGreat

/-
 TEXTS: the five of the reference read as code.
-/
set_option maxRecDepth 8000
namespace Go.Proofs.YtmkiojlebjknlaaGreat
open Go.AM
variable {h k : H}
def strsOp (o : Oper) : List ByteArray := match o.op with
 | .buildSlice _ _ ps => ps.toList.filterMap fun p => match p.2 with | .const (.string b) => some b | _ => none
 | _ => []
def strsC : Code → List ByteArray
 | .region _ ops _ => ops.toList.flatMap strsOp
 | .seq a b => strsC a ++ strsC b
 | _ => []
noncomputable def texts : List ByteArray := match Tryz.f157.body with | some b => strsC b | none => []
theorem texts_len : texts.length = 5 := by kernel_rfl
set_option maxRecDepth 100000
def readsB (s : ByteArray) : Bool := decide (s.size ≤ 400) && decide (1 < (linesOf s).length) && decide (((linesOf s)[(linesOf s).length - 1]?.getD ⟨#[1]⟩).data.toList = []) && ((linesOf s).dropLast.all fun l => (opR l).2) && codeOk (opsOf s)
theorem texts_read : texts.all readsB = true := by kernel_rfl
theorem readsB_ok {s : ByteArray} (h : readsB s = true) : Reads1 s := by
 simp only [readsB, Bool.and_eq_true, decide_eq_true_eq] at h
 obtain ⟨⟨⟨⟨a, b⟩, c⟩, d⟩, e⟩ := h
 refine ⟨a, b, ?_, fun l hl => List.all_eq_true.1 d l hl, e⟩
 generalize (linesOf s)[(linesOf s).length - 1]?.getD ⟨#[1]⟩ = w at *
 exact toList_inj (by rw [toList_eq, toList_eq, c])
theorem c_l71Texts : Dz.den 157 [] h = some (.c (.sl h.length 0 5 none), h.push ⟨false, 1, texts.map encS⟩) := by
 rw [← Wp_eq]
 refine den_wp rfl Tryz.func157 rfl ?_
 simp [Tryz.f157]
 refine congrArg (fun el => h.push ⟨false, 1, el⟩) (?_ : _ = texts.map encS)
 kernel_rfl
end Go.Proofs.YtmkiojlebjknlaaGreat
