/-
  The instance of the evaluator for this seat: the types, and what is told beside each function; that they fit is proved by computing; no condition.
-/
import Derived.Test.YtmkiojlebjknlaaGreatAm5
import Derived.Test.YtmkiojlebjknlaaGreatProg
import Derived.KernelRfl
set_option linter.all false
/-
  THE INSTANCE: the types of this translation, what is told beside its functions, and that both fit. Written by program (gen.py).
-/
namespace Go.Proofs.YtmkiojlebjknlaaGreat
open Go.AM
def tab : List (Nat × TEnt) := [
  (1, ⟨.fn, 1, [.nilfn]⟩),
  (2, ⟨.int .i64, 1, [.int .i64 0]⟩),
  (3, ⟨.int .i64, 1, [.int .i64 0]⟩),
  (4, ⟨.bool, 1, [.bool false]⟩),
  (5, ⟨.int .u8, 1, [.int .u8 0]⟩),
  (6, ⟨.int .u8, 1, [.int .u8 0]⟩),
  (7, ⟨.struct [(2, 0), (3, 1), (4, 2), (6, 3)], 4, [.int .i64 0, .int .i64 0, .bool false, .int .u8 0]⟩),
  (8, ⟨.struct [(2, 0), (3, 1), (4, 2), (6, 3)], 4, [.int .i64 0, .int .i64 0, .bool false, .int .u8 0]⟩),
  (9, ⟨.str, 1, [.str .empty]⟩),
  (10, ⟨.str, 1, [.str .empty]⟩),
  (11, ⟨.str, 1, [.str .empty]⟩),
  (15, ⟨.ptr, 1, [.nilp]⟩),
  (21, ⟨.int .i32, 1, [.int .i32 0]⟩),
  (22, ⟨.slice 5, 1, [.nils]⟩),
  (23, ⟨.slice 55, 1, [.nils]⟩),
  (24, ⟨.slice 42, 1, [.nils]⟩),
  (25, ⟨.slice 3, 1, [.nils]⟩),
  (27, ⟨.struct [(23, 0), (24, 1), (25, 2), (3, 3), (3, 4), (3, 5), (3, 6)], 7, [.nils, .nils, .nils, .int .i64 0, .int .i64 0, .int .i64 0, .int .i64 0]⟩),
  (29, ⟨.struct [(3, 0), (3, 1)], 2, [.int .i64 0, .int .i64 0]⟩),
  (35, ⟨.fn, 1, [.nilfn]⟩),
  (40, ⟨.slice 29, 1, [.nils]⟩),
  (42, ⟨.struct [(3, 0), (3, 1), (40, 2), (3, 3), (40, 4), (3, 5), (3, 6), (25, 7), (25, 8), (4, 9), (29, 10), (3, 12)], 13, [.int .i64 0, .int .i64 0, .nils, .int .i64 0, .nils, .int .i64 0, .int .i64 0, .nils, .nils, .bool false, .int .i64 0, .int .i64 0, .int .i64 0]⟩),
  (44, ⟨.slice 51, 1, [.nils]⟩),
  (51, ⟨.struct [(3, 0), (3, 1), (29, 2)], 4, [.int .i64 0, .int .i64 0, .int .i64 0, .int .i64 0]⟩),
  (55, ⟨.struct [(3, 0), (3, 1), (3, 2), (3, 3), (29, 4)], 6, [.int .i64 0, .int .i64 0, .int .i64 0, .int .i64 0, .int .i64 0, .int .i64 0]⟩),
  (62, ⟨.ptr, 1, [.nilp]⟩),
  (65, ⟨.fn, 1, [.nilfn]⟩),
  (75, ⟨.ptr, 1, [.nilp]⟩),
  (89, ⟨.struct [(22, 0), (3, 1)], 2, [.nils, .int .i64 0]⟩),
  (92, ⟨.ptr, 1, [.nilp]⟩),
  (105, ⟨.int .u64, 1, [.int .u64 0]⟩),
  (107, ⟨.fn, 1, [.nilfn]⟩),
  (108, ⟨.slice 111, 1, [.nils]⟩),
  (111, ⟨.struct [(3, 0), (65, 1)], 2, [.int .i64 0, .nilfn]⟩),
  (132, ⟨.fn, 1, [.nilfn]⟩),
  (136, ⟨.int .i64, 1, [.int .i64 0]⟩),
  (142, ⟨.int .u32, 1, [.int .u32 0]⟩),
  (144, ⟨.int .u64, 1, [.int .u64 0]⟩),
  (149, ⟨.struct [(9, 0), (9, 1), (9, 2), (4, 3)], 4, [.str .empty, .str .empty, .str .empty, .bool false]⟩),
  (154, ⟨.slice 9, 1, [.nils]⟩),
  (157, ⟨.slice 4, 1, [.nils]⟩),
  (165, ⟨.int .u64, 1, [.int .u64 0]⟩),
  (169, ⟨.ptr, 1, [.nilp]⟩),
  (174, ⟨.slice 149, 1, [.nils]⟩)]
def TTz : TT := TT.of tab
@[simp] def an0 : Ann := { esc := [], keep := [], trunc := false, flo := [] }
@[simp] def an1 : Ann := { esc := [], keep := [], trunc := false, flo := [] }
@[simp] def an2 : Ann := { esc := [], keep := [], trunc := false, flo := [] }
@[simp] def an3 : Ann := { esc := [], keep := [(0, [4, 12], [5, 10, 11], [])], trunc := true, flo := [(5, [4], [(0, 5)]), (6, [4], [(0, 5)]), (11, [3, 6, 7, 8], [(5, 0)])] }
@[simp] def an4 : Ann := { esc := [], keep := [(0, [2, 4, 7, 8, 9], [3, 5, 6], [])], trunc := true, flo := [(5, [4], [(0, 5)]), (6, [4], [(0, 5)])] }
@[simp] def an5 : Ann := { esc := [], keep := [(0, [4, 11, 14, 15], [7, 12, 13], [])], trunc := true, flo := [] }
@[simp] def an6 : Ann := { esc := [], keep := [], trunc := true, flo := [(5, [2], [(0, 3)]), (6, [2], [(0, 3)])] }
@[simp] def an7 : Ann := { esc := [], keep := [], trunc := true, flo := [(5, [2], [(0, 3)]), (6, [2], [(0, 3)])] }
@[simp] def an8 : Ann := { esc := [], keep := [], trunc := false, flo := [(3, [5, 8, 13, 15, 20, 22], [(0, 6), (0, 9), (0, 14), (0, 16), (6, 9), (6, 14), (6, 16), (6, 21), (9, 14), (9, 16), (9, 21), (10, 14), (10, 16), (10, 21), (11, 14), (11, 16), (11, 21), (16, 21), (17, 21), (18, 21), (19, 21)])] }
@[simp] def an9 : Ann := { esc := [7], keep := [], trunc := false, flo := [] }
@[simp] def an10 : Ann := { esc := [], keep := [(0, [4, 5], [2, 3], [])], trunc := true, flo := [] }
@[simp] def an11 : Ann := { esc := [], keep := [], trunc := false, flo := [(5, [1, 4, 5], [(3, 0)])] }
@[simp] def an12 : Ann := { esc := [], keep := [(0, [2, 3, 4, 5], [1], []), (2, [2, 4, 6], [1], []), (4, [2, 4, 7], [1], []), (6, [2, 4, 7, 8], [1], [])], trunc := true, flo := [] }
@[simp] def an13 : Ann := { esc := [], keep := [], trunc := true, flo := [] }
@[simp] def an14 : Ann := { esc := [], keep := [], trunc := true, flo := [] }
@[simp] def an15 : Ann := { esc := [], keep := [(0, [0, 1, 4, 5], [], [])], trunc := true, flo := [] }
@[simp] def an16 : Ann := { esc := [2], keep := [(0, [2, 4, 5, 6], [], []), (2, [2, 4, 5, 6, 32, 33, 34], [], [])], trunc := false, flo := [] }
@[simp] def an17 : Ann := { esc := [], keep := [(0, [2, 3, 4, 59, 60, 61], [1], []), (2, [2, 3, 4, 59, 60, 61, 90, 91, 92], [1, 6], [])], trunc := true, flo := [] }
@[simp] def an18 : Ann := { esc := [], keep := [(0, [2, 3, 4], [1], [])], trunc := true, flo := [] }
@[simp] def an19 : Ann := { esc := [], keep := [(1, [2, 3, 5, 6], [], [])], trunc := false, flo := [] }
@[simp] def an20 : Ann := { esc := [], keep := [(0, [5, 23, 24, 25], [4, 6], [])], trunc := false, flo := [] }
@[simp] def an21 : Ann := { esc := [], keep := [(0, [1, 5, 8], [4, 6], [])], trunc := false, flo := [(7, [5, 6], [])] }
@[simp] def an22 : Ann := { esc := [5], keep := [], trunc := false, flo := [] }
@[simp] def an23 : Ann := { esc := [], keep := [], trunc := true, flo := [] }
@[simp] def an24 : Ann := { esc := [], keep := [(0, [3, 5], [2, 4], [])], trunc := false, flo := [] }
@[simp] def an25 : Ann := { esc := [3], keep := [], trunc := false, flo := [] }
@[simp] def an26 : Ann := { esc := [], keep := [], trunc := false, flo := [(5, [1, 6, 7], [(3, 0), (4, 0), (5, 0)])] }
@[simp] def an27 : Ann := { esc := [], keep := [(0, [0, 1, 4, 5], [], [])], trunc := true, flo := [] }
@[simp] def an28 : Ann := { esc := [], keep := [], trunc := true, flo := [] }
@[simp] def an29 : Ann := { esc := [9], keep := [], trunc := false, flo := [(6, [2, 3], [(1, 3)])] }
@[simp] def an30 : Ann := { esc := [], keep := [(0, [0, 1, 4, 5], [], [])], trunc := true, flo := [] }
@[simp] def an31 : Ann := { esc := [10], keep := [], trunc := false, flo := [] }
@[simp] def an32 : Ann := { esc := [], keep := [(0, [0, 4], [2, 3], []), (2, [0, 4, 5, 6], [2, 3], [])], trunc := false, flo := [] }
@[simp] def an33 : Ann := { esc := [], keep := [], trunc := false, flo := [(7, [], [])] }
@[simp] def an34 : Ann := { esc := [], keep := [], trunc := true, flo := [] }
@[simp] def an35 : Ann := { esc := [], keep := [(0, [3, 7, 8, 9], [1, 2], [])], trunc := false, flo := [(7, [2, 6, 8, 10, 12], [(5, 0)])] }
@[simp] def an36 : Ann := { esc := [], keep := [(0, [0, 6], [5], [])], trunc := false, flo := [(5, [6, 7], [])] }
@[simp] def an37 : Ann := { esc := [], keep := [(0, [0, 1, 4, 5], [], [])], trunc := true, flo := [] }
@[simp] def an38 : Ann := { esc := [], keep := [], trunc := true, flo := [] }
@[simp] def an39 : Ann := { esc := [], keep := [], trunc := true, flo := [] }
@[simp] def an40 : Ann := { esc := [], keep := [(0, [3, 4], [1, 2], [])], trunc := false, flo := [] }
@[simp] def an41 : Ann := { esc := [], keep := [(0, [7], [3, 5, 6], [])], trunc := false, flo := [] }
@[simp] def an42 : Ann := { esc := [], keep := [(0, [0, 2, 3, 4], [], []), (2, [0, 2, 3, 4, 5, 6], [], [])], trunc := true, flo := [] }
@[simp] def an43 : Ann := { esc := [], keep := [(0, [0, 1, 4, 5], [], [])], trunc := true, flo := [] }
@[simp] def an44 : Ann := { esc := [], keep := [(0, [0, 2, 3, 4], [], []), (2, [0, 2, 3, 5], [], []), (4, [0, 2, 3, 5, 6], [], [])], trunc := false, flo := [] }
@[simp] def an45 : Ann := { esc := [], keep := [(0, [1, 6, 8], [3, 7], [])], trunc := true, flo := [] }
@[simp] def an46 : Ann := { esc := [], keep := [], trunc := true, flo := [] }
@[simp] def an47 : Ann := { esc := [], keep := [], trunc := false, flo := [] }
@[simp] def an48 : Ann := { esc := [], keep := [], trunc := false, flo := [] }
@[simp] def an49 : Ann := { esc := [], keep := [], trunc := true, flo := [] }
@[simp] def an50 : Ann := { esc := [], keep := [], trunc := false, flo := [] }
@[simp] def an51 : Ann := { esc := [4], keep := [(0, [0, 2, 10, 11, 12], [], [])], trunc := true, flo := [] }
@[simp] def an52 : Ann := { esc := [], keep := [], trunc := true, flo := [] }
@[simp] def an53 : Ann := { esc := [], keep := [(0, [2, 3, 7, 8, 9], [], [])], trunc := true, flo := [] }
@[simp] def an54 : Ann := { esc := [], keep := [(0, [0, 2, 3, 14, 15], [], []), (2, [0, 2, 3, 5], [], []), (4, [0, 2, 3, 5, 26, 27], [], []), (6, [0, 2, 3, 5, 6, 26, 27, 37, 38, 39], [], [])], trunc := false, flo := [] }
@[simp] def an55 : Ann := { esc := [3], keep := [], trunc := true, flo := [] }
@[simp] def an56 : Ann := { esc := [], keep := [(0, [0, 2, 3, 5, 8, 9], [4, 6], [])], trunc := false, flo := [(10, [5], [])] }
@[simp] def an57 : Ann := { esc := [], keep := [(0, [0, 2, 3, 4, 5], [], [])], trunc := false, flo := [] }
@[simp] def an58 : Ann := { esc := [], keep := [], trunc := false, flo := [(4, [1, 3, 4, 6], [(2, 0)])] }
@[simp] def an59 : Ann := { esc := [], keep := [], trunc := false, flo := [] }
@[simp] def an60 : Ann := { esc := [], keep := [], trunc := false, flo := [] }
@[simp] def an61 : Ann := { esc := [], keep := [], trunc := true, flo := [] }
@[simp] def an62 : Ann := { esc := [3], keep := [], trunc := false, flo := [] }
@[simp] def an63 : Ann := { esc := [3], keep := [(0, [3, 21, 22], [2], [])], trunc := false, flo := [] }
@[simp] def an64 : Ann := { esc := [], keep := [], trunc := false, flo := [(5, [6, 7, 10], [(2, 7), (4, 7)])] }
@[simp] def an65 : Ann := { esc := [], keep := [], trunc := false, flo := [(8, [3, 7], [(1, 4)])] }
@[simp] def an66 : Ann := { esc := [], keep := [], trunc := false, flo := [(1, [10, 11], [(1, 11), (3, 11), (5, 11), (7, 11), (8, 11), (9, 11)]), (8, [11], []), (14, [20, 21], [(1, 21), (3, 21), (5, 21), (6, 21), (7, 21), (9, 21), (11, 21), (13, 21), (14, 21), (15, 21), (16, 21)]), (25, [11], []), (30, [5, 6], [(2, 6)]), (40, [10], [])] }
@[simp] def an67 : Ann := { esc := [], keep := [], trunc := true, flo := [] }
@[simp] def an68 : Ann := { esc := [], keep := [], trunc := false, flo := [(8, [10, 11], []), (10, [16, 17], [(1, 17), (3, 17), (4, 17), (5, 17), (7, 17), (9, 17), (10, 17), (11, 17), (12, 17)]), (31, [8, 9], [])] }
@[simp] def an69 : Ann := { esc := [], keep := [], trunc := true, flo := [] }
@[simp] def an70 : Ann := { esc := [3], keep := [], trunc := true, flo := [] }
@[simp] def an71 : Ann := { esc := [], keep := [], trunc := false, flo := [(1, [2, 5, 7, 9], [(4, 0)]), (2, [2, 5, 7, 9], [(4, 0)])] }
@[simp] def an72 : Ann := { esc := [], keep := [], trunc := false, flo := [] }
@[simp] def an73 : Ann := { esc := [], keep := [], trunc := false, flo := [] }
@[simp] def an74 : Ann := { esc := [], keep := [], trunc := false, flo := [] }
@[simp] def an75 : Ann := { esc := [], keep := [(0, [0, 1, 6, 8, 9, 72, 73], [5], []), (2, [0, 1, 6, 9, 11, 94, 95, 96], [5], []), (5, [0, 1, 6, 11, 131, 132, 133], [], [])], trunc := false, flo := [(3, [12], []), (5, [6, 9, 12], [(3, 7)]), (10, [14, 17], [(1, 15), (3, 15)])] }
@[simp] def an76 : Ann := { esc := [], keep := [], trunc := false, flo := [] }
@[simp] def an77 : Ann := { esc := [], keep := [(0, [1, 7, 9, 10, 11], [3, 5, 6], []), (2, [1, 7, 9, 10, 12, 13], [3, 5, 6], []), (4, [1, 7, 10, 12, 15], [3, 6], [])], trunc := false, flo := [(16, [10, 13], [(1, 11)]), (22, [12, 15], [(1, 13), (3, 13)]), (30, [7, 8], [])] }
@[simp] def an78 : Ann := { esc := [], keep := [(0, [0, 2, 3], [], [])], trunc := true, flo := [] }
@[simp] def an79 : Ann := { esc := [], keep := [], trunc := false, flo := [] }
@[simp] def an80 : Ann := { esc := [], keep := [], trunc := true, flo := [] }
@[simp] def an81 : Ann := { esc := [], keep := [(0, [0, 1, 4, 5], [], [])], trunc := true, flo := [] }
@[simp] def an82 : Ann := { esc := [], keep := [], trunc := false, flo := [] }
@[simp] def an83 : Ann := { esc := [], keep := [(0, [2, 3], [1], []), (2, [2, 4], [1], [])], trunc := true, flo := [] }
@[simp] def an84 : Ann := { esc := [], keep := [], trunc := true, flo := [] }
@[simp] def an85 : Ann := { esc := [], keep := [(0, [0, 1, 4, 5, 6], [], [])], trunc := true, flo := [] }
@[simp] def an86 : Ann := { esc := [], keep := [(0, [0, 1, 4, 7, 8], [], [])], trunc := true, flo := [] }
@[simp] def an87 : Ann := { esc := [], keep := [(0, [0, 1, 2, 3, 8, 9], [], [])], trunc := false, flo := [] }
@[simp] def an88 : Ann := { esc := [], keep := [], trunc := true, flo := [] }
@[simp] def an89 : Ann := { esc := [1], keep := [], trunc := true, flo := [] }
@[simp] def an90 : Ann := { esc := [], keep := [], trunc := true, flo := [] }
@[simp] def an91 : Ann := { esc := [], keep := [(0, [2, 3], [1], [12])], trunc := false, flo := [] }
@[simp] def an92 : Ann := { esc := [], keep := [], trunc := true, flo := [] }
@[simp] def an93 : Ann := { esc := [5], keep := [], trunc := false, flo := [] }
@[simp] def an94 : Ann := { esc := [], keep := [], trunc := true, flo := [] }
@[simp] def an95 : Ann := { esc := [], keep := [], trunc := true, flo := [] }
@[simp] def an96 : Ann := { esc := [], keep := [(0, [0, 2, 3], [], []), (2, [0, 2, 5, 7], [], [])], trunc := false, flo := [] }
@[simp] def an97 : Ann := { esc := [], keep := [], trunc := false, flo := [] }
@[simp] def an98 : Ann := { esc := [], keep := [], trunc := false, flo := [] }
@[simp] def an99 : Ann := { esc := [], keep := [], trunc := false, flo := [] }
@[simp] def an100 : Ann := { esc := [], keep := [], trunc := false, flo := [] }
@[simp] def an101 : Ann := { esc := [], keep := [(0, [3, 4], [1, 2], [])], trunc := false, flo := [(4, [15], [])] }
@[simp] def an102 : Ann := { esc := [], keep := [(0, [3], [1, 2], [])], trunc := false, flo := [] }
@[simp] def an103 : Ann := { esc := [], keep := [], trunc := false, flo := [] }
@[simp] def an104 : Ann := { esc := [], keep := [(0, [0, 2, 3], [], [])], trunc := false, flo := [] }
@[simp] def an105 : Ann := { esc := [], keep := [], trunc := false, flo := [(1, [9, 10, 13], [(2, 10), (4, 10)])] }
@[simp] def an106 : Ann := { esc := [], keep := [], trunc := true, flo := [] }
@[simp] def an107 : Ann := { esc := [], keep := [], trunc := false, flo := [(1, [7], []), (2, [9], [])] }
@[simp] def an108 : Ann := { esc := [], keep := [], trunc := true, flo := [] }
@[simp] def an109 : Ann := { esc := [], keep := [], trunc := false, flo := [(5, [6, 7, 10], [(2, 7), (4, 7)]), (6, [7, 8, 11], [(2, 8), (4, 8)]), (7, [2, 6], [(4, 0), (5, 0)])] }
@[simp] def an110 : Ann := { esc := [], keep := [], trunc := false, flo := [(4, [11], []), (7, [7, 8, 11], [(2, 8), (4, 8)]), (8, [9, 10, 13], [(2, 10), (4, 10)]), (11, [6], []), (13, [9, 10, 13], [(2, 10), (4, 10)])] }
@[simp] def an111 : Ann := { esc := [], keep := [], trunc := false, flo := [(5, [11], []), (6, [9, 12], [])] }
@[simp] def an112 : Ann := { esc := [], keep := [], trunc := false, flo := [(1, [12, 13, 15], [(1, 13), (1, 14), (3, 13), (3, 14)])] }
@[simp] def an113 : Ann := { esc := [], keep := [], trunc := true, flo := [] }
@[simp] def an114 : Ann := { esc := [], keep := [], trunc := false, flo := [(4, [7, 8, 9, 11], [(1, 8), (1, 9)])] }
@[simp] def an115 : Ann := { esc := [], keep := [], trunc := false, flo := [] }
@[simp] def an116 : Ann := { esc := [], keep := [], trunc := false, flo := [(5, [5, 7], [(1, 6), (3, 6)]), (8, [9, 10], []), (14, [14, 15, 18], [(1, 15), (1, 16), (3, 15), (3, 16), (4, 15), (4, 16), (6, 15), (8, 15), (9, 15), (10, 15), (12, 15)]), (16, [13, 14, 17], [(1, 14), (1, 15), (3, 14), (3, 15), (5, 14), (7, 14), (8, 14), (10, 14)]), (17, [14, 15, 18], [(1, 15), (1, 16), (3, 15), (3, 16), (4, 15), (4, 16), (6, 15), (8, 15), (9, 15), (10, 15), (12, 15)])] }
@[simp] def an117 : Ann := { esc := [], keep := [(0, [2, 22, 23, 24], [1], [])], trunc := true, flo := [] }
@[simp] def an118 : Ann := { esc := [], keep := [], trunc := true, flo := [] }
@[simp] def an119 : Ann := { esc := [], keep := [(0, [0, 1, 4, 7, 8, 9], [], [])], trunc := true, flo := [] }
@[simp] def an120 : Ann := { esc := [], keep := [(0, [0, 1, 4, 7, 8], [], [])], trunc := true, flo := [] }
@[simp] def an121 : Ann := { esc := [], keep := [], trunc := true, flo := [] }
@[simp] def an122 : Ann := { esc := [], keep := [], trunc := false, flo := [] }
@[simp] def an123 : Ann := { esc := [], keep := [], trunc := false, flo := [(5, [6], [])] }
@[simp] def an124 : Ann := { esc := [3], keep := [], trunc := false, flo := [] }
@[simp] def an125 : Ann := { esc := [], keep := [(0, [0, 1, 4, 5, 6], [], [])], trunc := false, flo := [] }
@[simp] def an126 : Ann := { esc := [], keep := [], trunc := true, flo := [] }
@[simp] def an127 : Ann := { esc := [], keep := [], trunc := true, flo := [] }
@[simp] def an128 : Ann := { esc := [], keep := [], trunc := true, flo := [] }
@[simp] def an129 : Ann := { esc := [], keep := [], trunc := true, flo := [] }
@[simp] def an130 : Ann := { esc := [], keep := [], trunc := true, flo := [] }
@[simp] def an131 : Ann := { esc := [], keep := [], trunc := true, flo := [] }
@[simp] def an132 : Ann := { esc := [], keep := [], trunc := false, flo := [] }
@[simp] def an133 : Ann := { esc := [], keep := [], trunc := true, flo := [] }
@[simp] def an134 : Ann := { esc := [], keep := [(0, [1, 4, 5], [2], [])], trunc := true, flo := [] }
@[simp] def an135 : Ann := { esc := [], keep := [(0, [0, 1, 2, 6], [], []), (2, [0, 1, 2, 6, 7], [], [])], trunc := false, flo := [(6, [15, 17], [(4, 16)])] }
@[simp] def an136 : Ann := { esc := [], keep := [(0, [0, 6, 7, 8, 9], [], []), (2, [0, 6, 7, 10], [], [])], trunc := false, flo := [(10, [17, 19], [(5, 18)])] }
@[simp] def an137 : Ann := { esc := [7], keep := [(0, [0, 1, 6, 7, 8, 9], [], [])], trunc := false, flo := [(10, [17, 19], [(5, 18)])] }
@[simp] def an138 : Ann := { esc := [9], keep := [], trunc := true, flo := [] }
@[simp] def an139 : Ann := { esc := [], keep := [(0, [0, 6, 7], [], [])], trunc := false, flo := [(3, [13, 15], [])] }
@[simp] def an140 : Ann := { esc := [], keep := [(0, [0, 1, 2, 6, 7, 8], [], []), (2, [0, 1, 2, 6, 7, 8], [], []), (4, [0, 1, 2, 6, 7, 8, 9], [], []), (6, [0, 1, 2, 6, 7, 8, 10], [], [])], trunc := true, flo := [(11, [15, 17], [(4, 16)]), (17, [15, 17], [(4, 16)]), (23, [15, 17], [(4, 16)])] }
@[simp] def an141 : Ann := { esc := [], keep := [], trunc := true, flo := [] }
@[simp] def an142 : Ann := { esc := [], keep := [(0, [0, 1, 8, 9, 10], [], []), (2, [0, 1, 8, 9, 10], [], []), (4, [0, 1, 8, 9, 10], [], [])], trunc := true, flo := [(1, [13, 15], []), (8, [13, 15], [])] }
@[simp] def an143 : Ann := { esc := [], keep := [(0, [0, 1, 8, 9, 10, 11], [], []), (2, [0, 1, 8, 9, 10, 11], [], []), (4, [0, 1, 8, 9, 10, 11], [], []), (6, [0, 1, 8, 9, 10, 11], [], []), (8, [0, 1, 8, 9, 10, 11], [], [])], trunc := true, flo := [(1, [13, 15], []), (8, [13, 15], []), (10, [13, 15], []), (18, [13, 15], []), (21, [13, 15], [])] }
@[simp] def an144 : Ann := { esc := [], keep := [], trunc := true, flo := [] }
@[simp] def an145 : Ann := { esc := [], keep := [], trunc := true, flo := [] }
@[simp] def an146 : Ann := { esc := [], keep := [], trunc := true, flo := [] }
@[simp] def an147 : Ann := { esc := [1], keep := [], trunc := true, flo := [] }
@[simp] def an148 : Ann := { esc := [], keep := [], trunc := true, flo := [] }
@[simp] def an149 : Ann := { esc := [], keep := [], trunc := true, flo := [] }
@[simp] def an150 : Ann := { esc := [], keep := [(0, [0, 1, 4, 7, 8], [], [])], trunc := true, flo := [] }
@[simp] def an151 : Ann := { esc := [], keep := [], trunc := true, flo := [(3, [0, 5], [(2, 0)])] }
@[simp] def an152 : Ann := { esc := [], keep := [], trunc := true, flo := [] }
@[simp] def an153 : Ann := { esc := [], keep := [], trunc := true, flo := [] }
@[simp] def an154 : Ann := { esc := [], keep := [], trunc := true, flo := [] }
@[simp] def an155 : Ann := { esc := [], keep := [(0, [2, 3, 4, 5, 6, 7], [], [])], trunc := false, flo := [] }
@[simp] def an156 : Ann := { esc := [], keep := [], trunc := false, flo := [] }
@[simp] def an157 : Ann := { esc := [], keep := [], trunc := false, flo := [] }
@[simp] def an158 : Ann := { esc := [], keep := [], trunc := false, flo := [] }
@[simp] def an159 : Ann := { esc := [], keep := [], trunc := false, flo := [] }
@[simp] def an160 : Ann := { esc := [], keep := [], trunc := true, flo := [] }
@[simp] def an161 : Ann := { esc := [], keep := [], trunc := false, flo := [] }
@[simp] def an162 : Ann := { esc := [], keep := [], trunc := false, flo := [] }
@[simp] def an163 : Ann := { esc := [], keep := [], trunc := false, flo := [(2, [0, 5, 11, 13], [(2, 0), (4, 0), (7, 0), (7, 1), (9, 0), (9, 1), (10, 0), (10, 1)]), (3, [2, 3], [(1, 3)])] }
@[simp] def an164 : Ann := { esc := [], keep := [], trunc := false, flo := [] }
@[simp] def an165 : Ann := { esc := [], keep := [], trunc := true, flo := [] }
@[simp] def an166 : Ann := { esc := [], keep := [], trunc := true, flo := [] }
@[simp] def an167 : Ann := { esc := [], keep := [(0, [0, 1, 4, 5, 6], [], [])], trunc := false, flo := [] }
@[simp] def an168 : Ann := { esc := [], keep := [], trunc := true, flo := [] }
@[simp] def an169 : Ann := { esc := [], keep := [], trunc := true, flo := [] }
@[simp] def an170 : Ann := { esc := [], keep := [(0, [0, 2, 3, 8], [], [])], trunc := false, flo := [(6, [21, 23], [(7, 22)])] }
@[simp] def an171 : Ann := { esc := [], keep := [], trunc := true, flo := [] }
@[simp] def an172 : Ann := { esc := [], keep := [], trunc := true, flo := [(1, [9], []), (2, [9], []), (3, [9], [])] }
@[simp] def an173 : Ann := { esc := [], keep := [], trunc := true, flo := [] }
@[simp] def an174 : Ann := { esc := [], keep := [], trunc := true, flo := [] }
@[simp] def an175 : Ann := { esc := [], keep := [], trunc := true, flo := [] }
@[simp] def an176 : Ann := { esc := [], keep := [], trunc := true, flo := [] }
@[simp] def an177 : Ann := { esc := [], keep := [], trunc := true, flo := [] }
@[simp] def an178 : Ann := { esc := [], keep := [], trunc := true, flo := [] }
@[simp] def an179 : Ann := { esc := [], keep := [(0, [0, 1, 4, 7, 8], [], [])], trunc := true, flo := [] }
@[simp] def an180 : Ann := { esc := [], keep := [], trunc := false, flo := [] }
@[simp] def an181 : Ann := { esc := [], keep := [(0, [0, 1, 4, 5, 6], [], [])], trunc := false, flo := [(7, [13, 17], [(2, 14), (3, 14), (6, 14), (7, 14), (8, 14), (9, 14)])] }
@[simp] def an182 : Ann := { esc := [], keep := [(0, [0, 3, 4, 5, 7], [2, 6], []), (2, [0, 3, 4, 8, 9, 10], [2, 6], [])], trunc := true, flo := [] }
@[simp] def an183 : Ann := { esc := [], keep := [], trunc := false, flo := [] }
@[simp] def an184 : Ann := { esc := [], keep := [], trunc := true, flo := [] }
@[simp] def an185 : Ann := { esc := [], keep := [], trunc := true, flo := [] }
@[simp] def an186 : Ann := { esc := [], keep := [], trunc := false, flo := [] }
@[simp] def an187 : Ann := { esc := [], keep := [(0, [0, 2, 3, 4, 5, 6], [], [])], trunc := true, flo := [] }
@[simp] def an188 : Ann := { esc := [], keep := [], trunc := true, flo := [] }
@[simp] def an189 : Ann := { esc := [], keep := [], trunc := true, flo := [(4, [0], [(2, 0)])] }
@[simp] def an190 : Ann := { esc := [], keep := [(1, [0, 1, 4, 5, 6, 7, 8, 9, 10], [], [])], trunc := true, flo := [] }
@[simp] def an191 : Ann := { esc := [], keep := [], trunc := true, flo := [(5, [0], [(2, 0), (6, 0), (7, 0)])] }
@[simp] def an192 : Ann := { esc := [], keep := [], trunc := true, flo := [(7, [7], [(1, 8), (2, 8)])] }
@[simp] def an193 : Ann := { esc := [], keep := [], trunc := true, flo := [] }
@[simp] def an194 : Ann := { esc := [], keep := [], trunc := true, flo := [] }
@[simp] def an195 : Ann := { esc := [], keep := [], trunc := true, flo := [] }
@[simp] def an196 : Ann := { esc := [], keep := [(0, [0, 1, 4, 5, 6, 7, 8, 9], [], []), (2, [0, 1, 4, 5, 6, 7, 8, 10], [], [])], trunc := true, flo := [] }
@[simp] def an197 : Ann := { esc := [], keep := [], trunc := true, flo := [] }
@[simp] def an198 : Ann := { esc := [], keep := [(0, [0, 2, 3, 4, 5], [], []), (2, [2, 3, 4, 6, 7, 8], [], [])], trunc := true, flo := [] }
@[simp] def an199 : Ann := { esc := [], keep := [], trunc := true, flo := [] }
@[simp] def an200 : Ann := { esc := [], keep := [], trunc := false, flo := [] }
@[simp] def an201 : Ann := { esc := [], keep := [], trunc := true, flo := [] }
@[simp] def an202 : Ann := { esc := [], keep := [], trunc := false, flo := [] }
@[simp] def an203 : Ann := { esc := [], keep := [], trunc := true, flo := [] }
@[simp] def an204 : Ann := { esc := [], keep := [], trunc := false, flo := [] }
@[simp] def an205 : Ann := { esc := [], keep := [], trunc := true, flo := [] }
@[simp] def an206 : Ann := { esc := [], keep := [], trunc := false, flo := [] }
@[simp] def an207 : Ann := { esc := [], keep := [], trunc := true, flo := [] }
@[simp] def an208 : Ann := { esc := [], keep := [], trunc := false, flo := [] }
@[simp] def an209 : Ann := { esc := [], keep := [], trunc := true, flo := [] }
@[simp] def an210 : Ann := { esc := [], keep := [], trunc := false, flo := [] }
@[simp] def an211 : Ann := { esc := [], keep := [], trunc := true, flo := [] }
@[simp] def an212 : Ann := { esc := [], keep := [], trunc := true, flo := [] }
@[simp] def an213 : Ann := { esc := [], keep := [], trunc := false, flo := [] }
@[simp] def an214 : Ann := { esc := [], keep := [], trunc := true, flo := [] }
@[simp] def an215 : Ann := { esc := [], keep := [], trunc := true, flo := [] }
def annOf : List (Nat × Ann) := [(0, an0), (1, an1), (2, an2), (3, an3), (4, an4), (5, an5), (6, an6), (7, an7), (8, an8), (9, an9), (10, an10), (11, an11), (12, an12), (13, an13), (14, an14), (15, an15), (16, an16), (17, an17), (18, an18), (19, an19), (20, an20), (21, an21), (22, an22), (23, an23), (24, an24), (25, an25), (26, an26), (27, an27), (28, an28), (29, an29), (30, an30), (31, an31), (32, an32), (33, an33), (34, an34), (35, an35), (36, an36), (37, an37), (38, an38), (39, an39), (40, an40), (41, an41), (42, an42), (43, an43), (44, an44), (45, an45), (46, an46), (47, an47), (48, an48), (49, an49), (50, an50), (51, an51), (52, an52), (53, an53), (54, an54), (55, an55), (56, an56), (57, an57), (58, an58), (59, an59), (60, an60), (61, an61), (62, an62), (63, an63), (64, an64), (65, an65), (66, an66), (67, an67), (68, an68), (69, an69), (70, an70), (71, an71), (72, an72), (73, an73), (74, an74), (75, an75), (76, an76), (77, an77), (78, an78), (79, an79), (80, an80), (81, an81), (82, an82), (83, an83), (84, an84), (85, an85), (86, an86), (87, an87), (88, an88), (89, an89), (90, an90), (91, an91), (92, an92), (93, an93), (94, an94), (95, an95), (96, an96), (97, an97), (98, an98), (99, an99), (100, an100), (101, an101), (102, an102), (103, an103), (104, an104), (105, an105), (106, an106), (107, an107), (108, an108), (109, an109), (110, an110), (111, an111), (112, an112), (113, an113), (114, an114), (115, an115), (116, an116), (117, an117), (118, an118), (119, an119), (120, an120), (121, an121), (122, an122), (123, an123), (124, an124), (125, an125), (126, an126), (127, an127), (128, an128), (129, an129), (130, an130), (131, an131), (132, an132), (133, an133), (134, an134), (135, an135), (136, an136), (137, an137), (138, an138), (139, an139), (140, an140), (141, an141), (142, an142), (143, an143), (144, an144), (145, an145), (146, an146), (147, an147), (148, an148), (149, an149), (150, an150), (151, an151), (152, an152), (153, an153), (154, an154), (155, an155), (156, an156), (157, an157), (158, an158), (159, an159), (160, an160), (161, an161), (162, an162), (163, an163), (164, an164), (165, an165), (166, an166), (167, an167), (168, an168), (169, an169), (170, an170), (171, an171), (172, an172), (173, an173), (174, an174), (175, an175), (176, an176), (177, an177), (178, an178), (179, an179), (180, an180), (181, an181), (182, an182), (183, an183), (184, an184), (185, an185), (186, an186), (187, an187), (188, an188), (189, an189), (190, an190), (191, an191), (192, an192), (193, an193), (194, an194), (195, an195), (196, an196), (197, an197), (198, an198), (199, an199), (200, an200), (201, an201), (202, an202), (203, an203), (204, an204), (205, an205), (206, an206), (207, an207), (208, an208), (209, an209), (210, an210), (211, an211), (212, an212), (213, an213), (214, an214), (215, an215)]
def annF (f : FuncId) : Ann := match lk annOf f with | some a => a | none => {}
set_option maxRecDepth 100000 in
theorem tab_ok : tabCheck Tryz.prog tab = true := by kernel_rfl
theorem types_ok : TTz.Ok Tryz.prog := tab_fits tab_ok
theorem names_ok : ∀ (f : Nat) (fn : Func), Tryz.prog.funcs[f]? = some fn → fn.name ≠ "runtime.NumGoroutine" := namesFit (by kernel_rfl)
theorem mixed_ok : Tryz.prog.follows .mixedOrders = true := by kernel_rfl
set_option maxRecDepth 100000
@[simp] theorem td_1 : TTz.td 1 = .fn := id rfl
@[simp] theorem size_1 : TTz.size 1 = 1 := id rfl
@[simp] theorem zero_1 : TTz.zero 1 = [.nilfn] := id rfl
@[simp] theorem oth_1 : isOther TTz 1 = false := id rfl
@[simp] theorem st_1 : isStruct TTz 1 = false := id rfl
@[simp] theorem td_2 : TTz.td 2 = .int .i64 := id rfl
@[simp] theorem size_2 : TTz.size 2 = 1 := id rfl
@[simp] theorem zero_2 : TTz.zero 2 = [.int .i64 0] := id rfl
@[simp] theorem oth_2 : isOther TTz 2 = false := id rfl
@[simp] theorem st_2 : isStruct TTz 2 = false := id rfl
@[simp] theorem td_3 : TTz.td 3 = .int .i64 := id rfl
@[simp] theorem size_3 : TTz.size 3 = 1 := id rfl
@[simp] theorem zero_3 : TTz.zero 3 = [.int .i64 0] := id rfl
@[simp] theorem oth_3 : isOther TTz 3 = false := id rfl
@[simp] theorem st_3 : isStruct TTz 3 = false := id rfl
@[simp] theorem td_4 : TTz.td 4 = .bool := id rfl
@[simp] theorem size_4 : TTz.size 4 = 1 := id rfl
@[simp] theorem zero_4 : TTz.zero 4 = [.bool false] := id rfl
@[simp] theorem oth_4 : isOther TTz 4 = false := id rfl
@[simp] theorem st_4 : isStruct TTz 4 = false := id rfl
@[simp] theorem td_5 : TTz.td 5 = .int .u8 := id rfl
@[simp] theorem size_5 : TTz.size 5 = 1 := id rfl
@[simp] theorem zero_5 : TTz.zero 5 = [.int .u8 0] := id rfl
@[simp] theorem oth_5 : isOther TTz 5 = false := id rfl
@[simp] theorem st_5 : isStruct TTz 5 = false := id rfl
@[simp] theorem td_6 : TTz.td 6 = .int .u8 := id rfl
@[simp] theorem size_6 : TTz.size 6 = 1 := id rfl
@[simp] theorem zero_6 : TTz.zero 6 = [.int .u8 0] := id rfl
@[simp] theorem oth_6 : isOther TTz 6 = false := id rfl
@[simp] theorem st_6 : isStruct TTz 6 = false := id rfl
@[simp] theorem td_7 : TTz.td 7 = .struct [(2, 0), (3, 1), (4, 2), (6, 3)] := id rfl
@[simp] theorem size_7 : TTz.size 7 = 4 := id rfl
@[simp] theorem zero_7 : TTz.zero 7 = [.int .i64 0, .int .i64 0, .bool false, .int .u8 0] := id rfl
@[simp] theorem oth_7 : isOther TTz 7 = false := id rfl
@[simp] theorem st_7 : isStruct TTz 7 = true := id rfl
@[simp] theorem td_8 : TTz.td 8 = .struct [(2, 0), (3, 1), (4, 2), (6, 3)] := id rfl
@[simp] theorem size_8 : TTz.size 8 = 4 := id rfl
@[simp] theorem zero_8 : TTz.zero 8 = [.int .i64 0, .int .i64 0, .bool false, .int .u8 0] := id rfl
@[simp] theorem oth_8 : isOther TTz 8 = false := id rfl
@[simp] theorem st_8 : isStruct TTz 8 = true := id rfl
@[simp] theorem td_9 : TTz.td 9 = .str := id rfl
@[simp] theorem size_9 : TTz.size 9 = 1 := id rfl
@[simp] theorem zero_9 : TTz.zero 9 = [.str .empty] := id rfl
@[simp] theorem oth_9 : isOther TTz 9 = false := id rfl
@[simp] theorem st_9 : isStruct TTz 9 = false := id rfl
@[simp] theorem td_10 : TTz.td 10 = .str := id rfl
@[simp] theorem size_10 : TTz.size 10 = 1 := id rfl
@[simp] theorem zero_10 : TTz.zero 10 = [.str .empty] := id rfl
@[simp] theorem oth_10 : isOther TTz 10 = false := id rfl
@[simp] theorem st_10 : isStruct TTz 10 = false := id rfl
@[simp] theorem td_11 : TTz.td 11 = .str := id rfl
@[simp] theorem size_11 : TTz.size 11 = 1 := id rfl
@[simp] theorem zero_11 : TTz.zero 11 = [.str .empty] := id rfl
@[simp] theorem oth_11 : isOther TTz 11 = false := id rfl
@[simp] theorem st_11 : isStruct TTz 11 = false := id rfl
@[simp] theorem td_15 : TTz.td 15 = .ptr := id rfl
@[simp] theorem size_15 : TTz.size 15 = 1 := id rfl
@[simp] theorem zero_15 : TTz.zero 15 = [.nilp] := id rfl
@[simp] theorem oth_15 : isOther TTz 15 = false := id rfl
@[simp] theorem st_15 : isStruct TTz 15 = false := id rfl
@[simp] theorem td_21 : TTz.td 21 = .int .i32 := id rfl
@[simp] theorem size_21 : TTz.size 21 = 1 := id rfl
@[simp] theorem zero_21 : TTz.zero 21 = [.int .i32 0] := id rfl
@[simp] theorem oth_21 : isOther TTz 21 = false := id rfl
@[simp] theorem st_21 : isStruct TTz 21 = false := id rfl
@[simp] theorem td_22 : TTz.td 22 = .slice 5 := id rfl
@[simp] theorem size_22 : TTz.size 22 = 1 := id rfl
@[simp] theorem zero_22 : TTz.zero 22 = [.nils] := id rfl
@[simp] theorem oth_22 : isOther TTz 22 = false := id rfl
@[simp] theorem st_22 : isStruct TTz 22 = false := id rfl
@[simp] theorem td_23 : TTz.td 23 = .slice 55 := id rfl
@[simp] theorem size_23 : TTz.size 23 = 1 := id rfl
@[simp] theorem zero_23 : TTz.zero 23 = [.nils] := id rfl
@[simp] theorem oth_23 : isOther TTz 23 = false := id rfl
@[simp] theorem st_23 : isStruct TTz 23 = false := id rfl
@[simp] theorem td_24 : TTz.td 24 = .slice 42 := id rfl
@[simp] theorem size_24 : TTz.size 24 = 1 := id rfl
@[simp] theorem zero_24 : TTz.zero 24 = [.nils] := id rfl
@[simp] theorem oth_24 : isOther TTz 24 = false := id rfl
@[simp] theorem st_24 : isStruct TTz 24 = false := id rfl
@[simp] theorem td_25 : TTz.td 25 = .slice 3 := id rfl
@[simp] theorem size_25 : TTz.size 25 = 1 := id rfl
@[simp] theorem zero_25 : TTz.zero 25 = [.nils] := id rfl
@[simp] theorem oth_25 : isOther TTz 25 = false := id rfl
@[simp] theorem st_25 : isStruct TTz 25 = false := id rfl
@[simp] theorem td_27 : TTz.td 27 = .struct [(23, 0), (24, 1), (25, 2), (3, 3), (3, 4), (3, 5), (3, 6)] := id rfl
@[simp] theorem size_27 : TTz.size 27 = 7 := id rfl
@[simp] theorem zero_27 : TTz.zero 27 = [.nils, .nils, .nils, .int .i64 0, .int .i64 0, .int .i64 0, .int .i64 0] := id rfl
@[simp] theorem oth_27 : isOther TTz 27 = false := id rfl
@[simp] theorem st_27 : isStruct TTz 27 = true := id rfl
@[simp] theorem td_29 : TTz.td 29 = .struct [(3, 0), (3, 1)] := id rfl
@[simp] theorem size_29 : TTz.size 29 = 2 := id rfl
@[simp] theorem zero_29 : TTz.zero 29 = [.int .i64 0, .int .i64 0] := id rfl
@[simp] theorem oth_29 : isOther TTz 29 = false := id rfl
@[simp] theorem st_29 : isStruct TTz 29 = true := id rfl
@[simp] theorem td_35 : TTz.td 35 = .fn := id rfl
@[simp] theorem size_35 : TTz.size 35 = 1 := id rfl
@[simp] theorem zero_35 : TTz.zero 35 = [.nilfn] := id rfl
@[simp] theorem oth_35 : isOther TTz 35 = false := id rfl
@[simp] theorem st_35 : isStruct TTz 35 = false := id rfl
@[simp] theorem td_40 : TTz.td 40 = .slice 29 := id rfl
@[simp] theorem size_40 : TTz.size 40 = 1 := id rfl
@[simp] theorem zero_40 : TTz.zero 40 = [.nils] := id rfl
@[simp] theorem oth_40 : isOther TTz 40 = false := id rfl
@[simp] theorem st_40 : isStruct TTz 40 = false := id rfl
@[simp] theorem td_42 : TTz.td 42 = .struct [(3, 0), (3, 1), (40, 2), (3, 3), (40, 4), (3, 5), (3, 6), (25, 7), (25, 8), (4, 9), (29, 10), (3, 12)] := id rfl
@[simp] theorem size_42 : TTz.size 42 = 13 := id rfl
@[simp] theorem zero_42 : TTz.zero 42 = [.int .i64 0, .int .i64 0, .nils, .int .i64 0, .nils, .int .i64 0, .int .i64 0, .nils, .nils, .bool false, .int .i64 0, .int .i64 0, .int .i64 0] := id rfl
@[simp] theorem oth_42 : isOther TTz 42 = false := id rfl
@[simp] theorem st_42 : isStruct TTz 42 = true := id rfl
@[simp] theorem td_44 : TTz.td 44 = .slice 51 := id rfl
@[simp] theorem size_44 : TTz.size 44 = 1 := id rfl
@[simp] theorem zero_44 : TTz.zero 44 = [.nils] := id rfl
@[simp] theorem oth_44 : isOther TTz 44 = false := id rfl
@[simp] theorem st_44 : isStruct TTz 44 = false := id rfl
@[simp] theorem td_51 : TTz.td 51 = .struct [(3, 0), (3, 1), (29, 2)] := id rfl
@[simp] theorem size_51 : TTz.size 51 = 4 := id rfl
@[simp] theorem zero_51 : TTz.zero 51 = [.int .i64 0, .int .i64 0, .int .i64 0, .int .i64 0] := id rfl
@[simp] theorem oth_51 : isOther TTz 51 = false := id rfl
@[simp] theorem st_51 : isStruct TTz 51 = true := id rfl
@[simp] theorem td_55 : TTz.td 55 = .struct [(3, 0), (3, 1), (3, 2), (3, 3), (29, 4)] := id rfl
@[simp] theorem size_55 : TTz.size 55 = 6 := id rfl
@[simp] theorem zero_55 : TTz.zero 55 = [.int .i64 0, .int .i64 0, .int .i64 0, .int .i64 0, .int .i64 0, .int .i64 0] := id rfl
@[simp] theorem oth_55 : isOther TTz 55 = false := id rfl
@[simp] theorem st_55 : isStruct TTz 55 = true := id rfl
@[simp] theorem td_62 : TTz.td 62 = .ptr := id rfl
@[simp] theorem size_62 : TTz.size 62 = 1 := id rfl
@[simp] theorem zero_62 : TTz.zero 62 = [.nilp] := id rfl
@[simp] theorem oth_62 : isOther TTz 62 = false := id rfl
@[simp] theorem st_62 : isStruct TTz 62 = false := id rfl
@[simp] theorem td_65 : TTz.td 65 = .fn := id rfl
@[simp] theorem size_65 : TTz.size 65 = 1 := id rfl
@[simp] theorem zero_65 : TTz.zero 65 = [.nilfn] := id rfl
@[simp] theorem oth_65 : isOther TTz 65 = false := id rfl
@[simp] theorem st_65 : isStruct TTz 65 = false := id rfl
@[simp] theorem td_75 : TTz.td 75 = .ptr := id rfl
@[simp] theorem size_75 : TTz.size 75 = 1 := id rfl
@[simp] theorem zero_75 : TTz.zero 75 = [.nilp] := id rfl
@[simp] theorem oth_75 : isOther TTz 75 = false := id rfl
@[simp] theorem st_75 : isStruct TTz 75 = false := id rfl
@[simp] theorem td_89 : TTz.td 89 = .struct [(22, 0), (3, 1)] := id rfl
@[simp] theorem size_89 : TTz.size 89 = 2 := id rfl
@[simp] theorem zero_89 : TTz.zero 89 = [.nils, .int .i64 0] := id rfl
@[simp] theorem oth_89 : isOther TTz 89 = false := id rfl
@[simp] theorem st_89 : isStruct TTz 89 = true := id rfl
@[simp] theorem td_92 : TTz.td 92 = .ptr := id rfl
@[simp] theorem size_92 : TTz.size 92 = 1 := id rfl
@[simp] theorem zero_92 : TTz.zero 92 = [.nilp] := id rfl
@[simp] theorem oth_92 : isOther TTz 92 = false := id rfl
@[simp] theorem st_92 : isStruct TTz 92 = false := id rfl
@[simp] theorem td_105 : TTz.td 105 = .int .u64 := id rfl
@[simp] theorem size_105 : TTz.size 105 = 1 := id rfl
@[simp] theorem zero_105 : TTz.zero 105 = [.int .u64 0] := id rfl
@[simp] theorem oth_105 : isOther TTz 105 = false := id rfl
@[simp] theorem st_105 : isStruct TTz 105 = false := id rfl
@[simp] theorem td_107 : TTz.td 107 = .fn := id rfl
@[simp] theorem size_107 : TTz.size 107 = 1 := id rfl
@[simp] theorem zero_107 : TTz.zero 107 = [.nilfn] := id rfl
@[simp] theorem oth_107 : isOther TTz 107 = false := id rfl
@[simp] theorem st_107 : isStruct TTz 107 = false := id rfl
@[simp] theorem td_108 : TTz.td 108 = .slice 111 := id rfl
@[simp] theorem size_108 : TTz.size 108 = 1 := id rfl
@[simp] theorem zero_108 : TTz.zero 108 = [.nils] := id rfl
@[simp] theorem oth_108 : isOther TTz 108 = false := id rfl
@[simp] theorem st_108 : isStruct TTz 108 = false := id rfl
@[simp] theorem td_111 : TTz.td 111 = .struct [(3, 0), (65, 1)] := id rfl
@[simp] theorem size_111 : TTz.size 111 = 2 := id rfl
@[simp] theorem zero_111 : TTz.zero 111 = [.int .i64 0, .nilfn] := id rfl
@[simp] theorem oth_111 : isOther TTz 111 = false := id rfl
@[simp] theorem st_111 : isStruct TTz 111 = true := id rfl
@[simp] theorem td_132 : TTz.td 132 = .fn := id rfl
@[simp] theorem size_132 : TTz.size 132 = 1 := id rfl
@[simp] theorem zero_132 : TTz.zero 132 = [.nilfn] := id rfl
@[simp] theorem oth_132 : isOther TTz 132 = false := id rfl
@[simp] theorem st_132 : isStruct TTz 132 = false := id rfl
@[simp] theorem td_136 : TTz.td 136 = .int .i64 := id rfl
@[simp] theorem size_136 : TTz.size 136 = 1 := id rfl
@[simp] theorem zero_136 : TTz.zero 136 = [.int .i64 0] := id rfl
@[simp] theorem oth_136 : isOther TTz 136 = false := id rfl
@[simp] theorem st_136 : isStruct TTz 136 = false := id rfl
@[simp] theorem td_142 : TTz.td 142 = .int .u32 := id rfl
@[simp] theorem size_142 : TTz.size 142 = 1 := id rfl
@[simp] theorem zero_142 : TTz.zero 142 = [.int .u32 0] := id rfl
@[simp] theorem oth_142 : isOther TTz 142 = false := id rfl
@[simp] theorem st_142 : isStruct TTz 142 = false := id rfl
@[simp] theorem td_144 : TTz.td 144 = .int .u64 := id rfl
@[simp] theorem size_144 : TTz.size 144 = 1 := id rfl
@[simp] theorem zero_144 : TTz.zero 144 = [.int .u64 0] := id rfl
@[simp] theorem oth_144 : isOther TTz 144 = false := id rfl
@[simp] theorem st_144 : isStruct TTz 144 = false := id rfl
@[simp] theorem td_149 : TTz.td 149 = .struct [(9, 0), (9, 1), (9, 2), (4, 3)] := id rfl
@[simp] theorem size_149 : TTz.size 149 = 4 := id rfl
@[simp] theorem zero_149 : TTz.zero 149 = [.str .empty, .str .empty, .str .empty, .bool false] := id rfl
@[simp] theorem oth_149 : isOther TTz 149 = false := id rfl
@[simp] theorem st_149 : isStruct TTz 149 = true := id rfl
@[simp] theorem td_154 : TTz.td 154 = .slice 9 := id rfl
@[simp] theorem size_154 : TTz.size 154 = 1 := id rfl
@[simp] theorem zero_154 : TTz.zero 154 = [.nils] := id rfl
@[simp] theorem oth_154 : isOther TTz 154 = false := id rfl
@[simp] theorem st_154 : isStruct TTz 154 = false := id rfl
@[simp] theorem td_157 : TTz.td 157 = .slice 4 := id rfl
@[simp] theorem size_157 : TTz.size 157 = 1 := id rfl
@[simp] theorem zero_157 : TTz.zero 157 = [.nils] := id rfl
@[simp] theorem oth_157 : isOther TTz 157 = false := id rfl
@[simp] theorem st_157 : isStruct TTz 157 = false := id rfl
@[simp] theorem td_165 : TTz.td 165 = .int .u64 := id rfl
@[simp] theorem size_165 : TTz.size 165 = 1 := id rfl
@[simp] theorem zero_165 : TTz.zero 165 = [.int .u64 0] := id rfl
@[simp] theorem oth_165 : isOther TTz 165 = false := id rfl
@[simp] theorem st_165 : isStruct TTz 165 = false := id rfl
@[simp] theorem td_169 : TTz.td 169 = .ptr := id rfl
@[simp] theorem size_169 : TTz.size 169 = 1 := id rfl
@[simp] theorem zero_169 : TTz.zero 169 = [.nilp] := id rfl
@[simp] theorem oth_169 : isOther TTz 169 = false := id rfl
@[simp] theorem st_169 : isStruct TTz 169 = false := id rfl
@[simp] theorem td_174 : TTz.td 174 = .slice 149 := id rfl
@[simp] theorem size_174 : TTz.size 174 = 1 := id rfl
@[simp] theorem zero_174 : TTz.zero 174 = [.nils] := id rfl
@[simp] theorem oth_174 : isOther TTz 174 = false := id rfl
@[simp] theorem st_174 : isStruct TTz 174 = false := id rfl
@[simp] theorem ann_0 : annF 0 = an0 := id rfl
@[simp] theorem ann_1 : annF 1 = an1 := id rfl
@[simp] theorem ann_2 : annF 2 = an2 := id rfl
@[simp] theorem ann_3 : annF 3 = an3 := id rfl
@[simp] theorem ann_4 : annF 4 = an4 := id rfl
@[simp] theorem ann_5 : annF 5 = an5 := id rfl
@[simp] theorem ann_6 : annF 6 = an6 := id rfl
@[simp] theorem ann_7 : annF 7 = an7 := id rfl
@[simp] theorem ann_8 : annF 8 = an8 := id rfl
@[simp] theorem ann_9 : annF 9 = an9 := id rfl
@[simp] theorem ann_10 : annF 10 = an10 := id rfl
@[simp] theorem ann_11 : annF 11 = an11 := id rfl
@[simp] theorem ann_12 : annF 12 = an12 := id rfl
@[simp] theorem ann_13 : annF 13 = an13 := id rfl
@[simp] theorem ann_14 : annF 14 = an14 := id rfl
@[simp] theorem ann_15 : annF 15 = an15 := id rfl
@[simp] theorem ann_16 : annF 16 = an16 := id rfl
@[simp] theorem ann_17 : annF 17 = an17 := id rfl
@[simp] theorem ann_18 : annF 18 = an18 := id rfl
@[simp] theorem ann_19 : annF 19 = an19 := id rfl
@[simp] theorem ann_20 : annF 20 = an20 := id rfl
@[simp] theorem ann_21 : annF 21 = an21 := id rfl
@[simp] theorem ann_22 : annF 22 = an22 := id rfl
@[simp] theorem ann_23 : annF 23 = an23 := id rfl
@[simp] theorem ann_24 : annF 24 = an24 := id rfl
@[simp] theorem ann_25 : annF 25 = an25 := id rfl
@[simp] theorem ann_26 : annF 26 = an26 := id rfl
@[simp] theorem ann_27 : annF 27 = an27 := id rfl
@[simp] theorem ann_28 : annF 28 = an28 := id rfl
@[simp] theorem ann_29 : annF 29 = an29 := id rfl
@[simp] theorem ann_30 : annF 30 = an30 := id rfl
@[simp] theorem ann_31 : annF 31 = an31 := id rfl
@[simp] theorem ann_32 : annF 32 = an32 := id rfl
@[simp] theorem ann_33 : annF 33 = an33 := id rfl
@[simp] theorem ann_34 : annF 34 = an34 := id rfl
@[simp] theorem ann_35 : annF 35 = an35 := id rfl
@[simp] theorem ann_36 : annF 36 = an36 := id rfl
@[simp] theorem ann_37 : annF 37 = an37 := id rfl
@[simp] theorem ann_38 : annF 38 = an38 := id rfl
@[simp] theorem ann_39 : annF 39 = an39 := id rfl
@[simp] theorem ann_40 : annF 40 = an40 := id rfl
@[simp] theorem ann_41 : annF 41 = an41 := id rfl
@[simp] theorem ann_42 : annF 42 = an42 := id rfl
@[simp] theorem ann_43 : annF 43 = an43 := id rfl
@[simp] theorem ann_44 : annF 44 = an44 := id rfl
@[simp] theorem ann_45 : annF 45 = an45 := id rfl
@[simp] theorem ann_46 : annF 46 = an46 := id rfl
@[simp] theorem ann_47 : annF 47 = an47 := id rfl
@[simp] theorem ann_48 : annF 48 = an48 := id rfl
@[simp] theorem ann_49 : annF 49 = an49 := id rfl
@[simp] theorem ann_50 : annF 50 = an50 := id rfl
@[simp] theorem ann_51 : annF 51 = an51 := id rfl
@[simp] theorem ann_52 : annF 52 = an52 := id rfl
@[simp] theorem ann_53 : annF 53 = an53 := id rfl
@[simp] theorem ann_54 : annF 54 = an54 := id rfl
@[simp] theorem ann_55 : annF 55 = an55 := id rfl
@[simp] theorem ann_56 : annF 56 = an56 := id rfl
@[simp] theorem ann_57 : annF 57 = an57 := id rfl
@[simp] theorem ann_58 : annF 58 = an58 := id rfl
@[simp] theorem ann_59 : annF 59 = an59 := id rfl
@[simp] theorem ann_60 : annF 60 = an60 := id rfl
@[simp] theorem ann_61 : annF 61 = an61 := id rfl
@[simp] theorem ann_62 : annF 62 = an62 := id rfl
@[simp] theorem ann_63 : annF 63 = an63 := id rfl
@[simp] theorem ann_64 : annF 64 = an64 := id rfl
@[simp] theorem ann_65 : annF 65 = an65 := id rfl
@[simp] theorem ann_66 : annF 66 = an66 := id rfl
@[simp] theorem ann_67 : annF 67 = an67 := id rfl
@[simp] theorem ann_68 : annF 68 = an68 := id rfl
@[simp] theorem ann_69 : annF 69 = an69 := id rfl
@[simp] theorem ann_70 : annF 70 = an70 := id rfl
@[simp] theorem ann_71 : annF 71 = an71 := id rfl
@[simp] theorem ann_72 : annF 72 = an72 := id rfl
@[simp] theorem ann_73 : annF 73 = an73 := id rfl
@[simp] theorem ann_74 : annF 74 = an74 := id rfl
@[simp] theorem ann_75 : annF 75 = an75 := id rfl
@[simp] theorem ann_76 : annF 76 = an76 := id rfl
@[simp] theorem ann_77 : annF 77 = an77 := id rfl
@[simp] theorem ann_78 : annF 78 = an78 := id rfl
@[simp] theorem ann_79 : annF 79 = an79 := id rfl
@[simp] theorem ann_80 : annF 80 = an80 := id rfl
@[simp] theorem ann_81 : annF 81 = an81 := id rfl
@[simp] theorem ann_82 : annF 82 = an82 := id rfl
@[simp] theorem ann_83 : annF 83 = an83 := id rfl
@[simp] theorem ann_84 : annF 84 = an84 := id rfl
@[simp] theorem ann_85 : annF 85 = an85 := id rfl
@[simp] theorem ann_86 : annF 86 = an86 := id rfl
@[simp] theorem ann_87 : annF 87 = an87 := id rfl
@[simp] theorem ann_88 : annF 88 = an88 := id rfl
@[simp] theorem ann_89 : annF 89 = an89 := id rfl
@[simp] theorem ann_90 : annF 90 = an90 := id rfl
@[simp] theorem ann_91 : annF 91 = an91 := id rfl
@[simp] theorem ann_92 : annF 92 = an92 := id rfl
@[simp] theorem ann_93 : annF 93 = an93 := id rfl
@[simp] theorem ann_94 : annF 94 = an94 := id rfl
@[simp] theorem ann_95 : annF 95 = an95 := id rfl
@[simp] theorem ann_96 : annF 96 = an96 := id rfl
@[simp] theorem ann_97 : annF 97 = an97 := id rfl
@[simp] theorem ann_98 : annF 98 = an98 := id rfl
@[simp] theorem ann_99 : annF 99 = an99 := id rfl
@[simp] theorem ann_100 : annF 100 = an100 := id rfl
@[simp] theorem ann_101 : annF 101 = an101 := id rfl
@[simp] theorem ann_102 : annF 102 = an102 := id rfl
@[simp] theorem ann_103 : annF 103 = an103 := id rfl
@[simp] theorem ann_104 : annF 104 = an104 := id rfl
@[simp] theorem ann_105 : annF 105 = an105 := id rfl
@[simp] theorem ann_106 : annF 106 = an106 := id rfl
@[simp] theorem ann_107 : annF 107 = an107 := id rfl
@[simp] theorem ann_108 : annF 108 = an108 := id rfl
@[simp] theorem ann_109 : annF 109 = an109 := id rfl
@[simp] theorem ann_110 : annF 110 = an110 := id rfl
@[simp] theorem ann_111 : annF 111 = an111 := id rfl
@[simp] theorem ann_112 : annF 112 = an112 := id rfl
@[simp] theorem ann_113 : annF 113 = an113 := id rfl
@[simp] theorem ann_114 : annF 114 = an114 := id rfl
@[simp] theorem ann_115 : annF 115 = an115 := id rfl
@[simp] theorem ann_116 : annF 116 = an116 := id rfl
@[simp] theorem ann_117 : annF 117 = an117 := id rfl
@[simp] theorem ann_118 : annF 118 = an118 := id rfl
@[simp] theorem ann_119 : annF 119 = an119 := id rfl
@[simp] theorem ann_120 : annF 120 = an120 := id rfl
@[simp] theorem ann_121 : annF 121 = an121 := id rfl
@[simp] theorem ann_122 : annF 122 = an122 := id rfl
@[simp] theorem ann_123 : annF 123 = an123 := id rfl
@[simp] theorem ann_124 : annF 124 = an124 := id rfl
@[simp] theorem ann_125 : annF 125 = an125 := id rfl
@[simp] theorem ann_126 : annF 126 = an126 := id rfl
@[simp] theorem ann_127 : annF 127 = an127 := id rfl
@[simp] theorem ann_128 : annF 128 = an128 := id rfl
@[simp] theorem ann_129 : annF 129 = an129 := id rfl
@[simp] theorem ann_130 : annF 130 = an130 := id rfl
@[simp] theorem ann_131 : annF 131 = an131 := id rfl
@[simp] theorem ann_132 : annF 132 = an132 := id rfl
@[simp] theorem ann_133 : annF 133 = an133 := id rfl
@[simp] theorem ann_134 : annF 134 = an134 := id rfl
@[simp] theorem ann_135 : annF 135 = an135 := id rfl
@[simp] theorem ann_136 : annF 136 = an136 := id rfl
@[simp] theorem ann_137 : annF 137 = an137 := id rfl
@[simp] theorem ann_138 : annF 138 = an138 := id rfl
@[simp] theorem ann_139 : annF 139 = an139 := id rfl
@[simp] theorem ann_140 : annF 140 = an140 := id rfl
@[simp] theorem ann_141 : annF 141 = an141 := id rfl
@[simp] theorem ann_142 : annF 142 = an142 := id rfl
@[simp] theorem ann_143 : annF 143 = an143 := id rfl
@[simp] theorem ann_144 : annF 144 = an144 := id rfl
@[simp] theorem ann_145 : annF 145 = an145 := id rfl
@[simp] theorem ann_146 : annF 146 = an146 := id rfl
@[simp] theorem ann_147 : annF 147 = an147 := id rfl
@[simp] theorem ann_148 : annF 148 = an148 := id rfl
@[simp] theorem ann_149 : annF 149 = an149 := id rfl
@[simp] theorem ann_150 : annF 150 = an150 := id rfl
@[simp] theorem ann_151 : annF 151 = an151 := id rfl
@[simp] theorem ann_152 : annF 152 = an152 := id rfl
@[simp] theorem ann_153 : annF 153 = an153 := id rfl
@[simp] theorem ann_154 : annF 154 = an154 := id rfl
@[simp] theorem ann_155 : annF 155 = an155 := id rfl
@[simp] theorem ann_156 : annF 156 = an156 := id rfl
@[simp] theorem ann_157 : annF 157 = an157 := id rfl
@[simp] theorem ann_158 : annF 158 = an158 := id rfl
@[simp] theorem ann_159 : annF 159 = an159 := id rfl
@[simp] theorem ann_160 : annF 160 = an160 := id rfl
@[simp] theorem ann_161 : annF 161 = an161 := id rfl
@[simp] theorem ann_162 : annF 162 = an162 := id rfl
@[simp] theorem ann_163 : annF 163 = an163 := id rfl
@[simp] theorem ann_164 : annF 164 = an164 := id rfl
@[simp] theorem ann_165 : annF 165 = an165 := id rfl
@[simp] theorem ann_166 : annF 166 = an166 := id rfl
@[simp] theorem ann_167 : annF 167 = an167 := id rfl
@[simp] theorem ann_168 : annF 168 = an168 := id rfl
@[simp] theorem ann_169 : annF 169 = an169 := id rfl
@[simp] theorem ann_170 : annF 170 = an170 := id rfl
@[simp] theorem ann_171 : annF 171 = an171 := id rfl
@[simp] theorem ann_172 : annF 172 = an172 := id rfl
@[simp] theorem ann_173 : annF 173 = an173 := id rfl
@[simp] theorem ann_174 : annF 174 = an174 := id rfl
@[simp] theorem ann_175 : annF 175 = an175 := id rfl
@[simp] theorem ann_176 : annF 176 = an176 := id rfl
@[simp] theorem ann_177 : annF 177 = an177 := id rfl
@[simp] theorem ann_178 : annF 178 = an178 := id rfl
@[simp] theorem ann_179 : annF 179 = an179 := id rfl
@[simp] theorem ann_180 : annF 180 = an180 := id rfl
@[simp] theorem ann_181 : annF 181 = an181 := id rfl
@[simp] theorem ann_182 : annF 182 = an182 := id rfl
@[simp] theorem ann_183 : annF 183 = an183 := id rfl
@[simp] theorem ann_184 : annF 184 = an184 := id rfl
@[simp] theorem ann_185 : annF 185 = an185 := id rfl
@[simp] theorem ann_186 : annF 186 = an186 := id rfl
@[simp] theorem ann_187 : annF 187 = an187 := id rfl
@[simp] theorem ann_188 : annF 188 = an188 := id rfl
@[simp] theorem ann_189 : annF 189 = an189 := id rfl
@[simp] theorem ann_190 : annF 190 = an190 := id rfl
@[simp] theorem ann_191 : annF 191 = an191 := id rfl
@[simp] theorem ann_192 : annF 192 = an192 := id rfl
@[simp] theorem ann_193 : annF 193 = an193 := id rfl
@[simp] theorem ann_194 : annF 194 = an194 := id rfl
@[simp] theorem ann_195 : annF 195 = an195 := id rfl
@[simp] theorem ann_196 : annF 196 = an196 := id rfl
@[simp] theorem ann_197 : annF 197 = an197 := id rfl
@[simp] theorem ann_198 : annF 198 = an198 := id rfl
@[simp] theorem ann_199 : annF 199 = an199 := id rfl
@[simp] theorem ann_200 : annF 200 = an200 := id rfl
@[simp] theorem ann_201 : annF 201 = an201 := id rfl
@[simp] theorem ann_202 : annF 202 = an202 := id rfl
@[simp] theorem ann_203 : annF 203 = an203 := id rfl
@[simp] theorem ann_204 : annF 204 = an204 := id rfl
@[simp] theorem ann_205 : annF 205 = an205 := id rfl
@[simp] theorem ann_206 : annF 206 = an206 := id rfl
@[simp] theorem ann_207 : annF 207 = an207 := id rfl
@[simp] theorem ann_208 : annF 208 = an208 := id rfl
@[simp] theorem ann_209 : annF 209 = an209 := id rfl
@[simp] theorem ann_210 : annF 210 = an210 := id rfl
@[simp] theorem ann_211 : annF 211 = an211 := id rfl
@[simp] theorem ann_212 : annF 212 = an212 := id rfl
@[simp] theorem ann_213 : annF 213 = an213 := id rfl
@[simp] theorem ann_214 : annF 214 = an214 := id rfl
@[simp] theorem ann_215 : annF 215 = an215 := id rfl
end Go.Proofs.YtmkiojlebjknlaaGreat
