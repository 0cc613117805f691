/- Pins: a law's trees.
-/
import Derived.Test.YtclmndonaljppaaKai

namespace Go.Proofs.Ytclmndonaljppaa
open Go Go.X
variable {F : Nat}
abbrev L4 (a : AV) (i h m : Nat) (ix : Int) : List (Nat × AV) := [(0, a), (2, .bad), (3, .ptr ⟨i, 0, [], 1⟩), (4, .bad), (5, .ptr ⟨h, 0, [], 256⟩), (6, .ptr ⟨m, 0, [], 4⟩), (7, .int .i64 ix), (8, .bad), (9, .bad), (10, .bad), (11, .bad), (26, .bad), (39, .bad), (58, .bad), (71, .bad), (73, .bad), (97, .bad), (99, .bad), (145, .bad)]
theorem start4 (N fuel : Nat) (l : List Stp) (k : AV → Heap → Bool → Prop) :
 (runP (S F) TL N 9 fuel 4 [.isl 3 (row encSt l)] [] k) =
 ((∃ (n0 : Int),
 And ([AV.int IntKind.i64 4] = [AV.int IntKind.i64 n0])
 (And ((¬(1 ≤ n0 ∧ n0 ≤ 4)) →
 k (AV.bool false) [] true)
 ((1 ≤ n0) →
 (n0 ≤ 4) →
 ∀ (i1 : Nat),
 ∀ (j2 : Nat),
 ∀ (vs3 : List AV),
 ∀ (H'4 : Heap),
 (PinsR H'4 i1 j2 vs3 (List.replicate (Int.toNat n0) [])) →
 (Keep [] [] H'4) →
 (Fresh [] (i1 :: j2 :: refsL vs3)) →
 cond (decide ((↑(List.length (row encSt l)) : Int) > 200))
 (And (([] : List AV) = [])
 (k (AV.bool true) H'4 true))
 (resPS (S F) TL N 9 fuel 4 1 0 [] [true, true, true, true, true, false, true] fuel (St.mk [(0, AV.isl 3 (row encSt l)), (2, AV.bad), (3, AV.ptr (Pl.mk i1 0 [] 1)), (4, AV.bad), (5, AV.ptr (Pl.mk (List.length H'4) 0 [] 256)), (6, AV.ptr (Pl.mk (List.length (H'4 ++ [some (Blk.mk (AV.arr 64 [AV.arr 1 (encL IntKind.i64 64 fun (_i : Nat) => 0), AV.arr 1 (encL IntKind.i64 64 fun (_i : Nat) => 0), AV.arr 1 (encL IntKind.i64 64 fun (_i : Nat) => 0), AV.arr 1 (encL IntKind.i64 64 fun (_i : Nat) => 0)]) false true)])) 0 [] 4)), (7, AV.int IntKind.i64 0), (8, AV.bad), (9, AV.bad), (10, AV.bad), (11, AV.bad), (26, AV.bad), (39, AV.bad), (58, AV.bad), (71, AV.bad), (73, AV.bad), (97, AV.bad), (99, AV.bad), (145, AV.bad)] [] (H'4 ++ [some (Blk.mk (AV.arr 64 [AV.arr 1 (encL IntKind.i64 64 fun (_i : Nat) => 0), AV.arr 1 (encL IntKind.i64 64 fun (_i : Nat) => 0), AV.arr 1 (encL IntKind.i64 64 fun (_i : Nat) => 0), AV.arr 1 (encL IntKind.i64 64 fun (_i : Nat) => 0)]) false true)] ++ [some (Blk.mk (AV.arr 1 [AV.int IntKind.i64 0, AV.int IntKind.i64 0, AV.int IntKind.i64 0, AV.int IntKind.i64 0]) false true)]) true) k)))) : Prop) := by kernel_rfl
theorem step4 (N fuel m n0 : Nat) (l : List Stp) (i h g : Nat) (H : Heap) (ix : Int) (k : AV → Heap → Bool → Prop) :
 (resPS (S F) TL N 9 fuel 4 1 n0 [] [true, true, true, true, true, false, true] (m + 1) ⟨L4 (.isl 3 (row encSt l)) i h g ix, [], H, true⟩ k) =
 ((cond (decide (ix < (↑(List.length (row encSt l)) : Int)))
 (cond (decide (0 ≤ ix))
 (cond (AV.isAggN (Option.getD (row encSt l)[Int.toNat ix]? AV.bad) 3 3)
 (cond (AV.isBoolV (AV.part (Option.getD (row encSt l)[Int.toNat ix]? AV.bad) 0))
 (cond (AV.isIntK (AV.part (Option.getD (row encSt l)[Int.toNat ix]? AV.bad) 1) IntKind.i64)
 (cond (AV.isIntK (AV.part (Option.getD (row encSt l)[Int.toNat ix]? AV.bad) 2) IntKind.i64)
 (cond (decide (0 ≤ ix))
 (cond (AV.isAggN (Option.getD (row encSt l)[Int.toNat ix]? AV.bad) 3 3)
 (cond (AV.isBoolV (AV.part (Option.getD (row encSt l)[Int.toNat ix]? AV.bad) 0))
 (cond (AV.isIntK (AV.part (Option.getD (row encSt l)[Int.toNat ix]? AV.bad) 1) IntKind.i64)
 (cond (AV.isIntK (AV.part (Option.getD (row encSt l)[Int.toNat ix]? AV.bad) 2) IntKind.i64)
 (∃ (x0 : Int),
 ∃ (n1 : Int),
 And ([AV.int IntKind.i64 (AV.toInt (AV.part (Option.getD (row encSt l)[Int.toNat ix]? AV.bad) 1)), AV.int IntKind.i64 4] = [AV.int IntKind.i64 x0, AV.int IntKind.i64 n1])
 (And (n1 = 4 ∨ n1 = 64)
 (And (([] : Heap) = [])
 (∃ (x2 : Int),
 ∃ (n3 : Int),
 And ([AV.int IntKind.i64 (AV.toInt (AV.part (Option.getD (row encSt l)[Int.toNat ix]? AV.bad) 2)), AV.int IntKind.i64 64] = [AV.int IntKind.i64 x2, AV.int IntKind.i64 n3])
 (And (n3 = 4 ∨ n3 = 64)
 (And (([] : Heap) = [])
 (cond (AV.beq (AV.int IntKind.i64 (AV.toInt (AV.part (Option.getD (row encSt l)[Int.toNat ix]? AV.bad) 2))) (AV.int IntKind.i64 (AV.toInt (AV.part (Option.getD (row encSt l)[Int.toNat ix]? AV.bad) 2))))
 (cond (decide (0 ≤ ix))
 (cond (AV.isAggN (Option.getD (row encSt l)[Int.toNat ix]? AV.bad) 3 3)
 (cond (AV.isBoolV (AV.part (Option.getD (row encSt l)[Int.toNat ix]? AV.bad) 0))
 (cond (AV.isIntK (AV.part (Option.getD (row encSt l)[Int.toNat ix]? AV.bad) 1) IntKind.i64)
 (cond (AV.isIntK (AV.part (Option.getD (row encSt l)[Int.toNat ix]? AV.bad) 2) IntKind.i64)
 (cond (AV.toBool (AV.part (Option.getD (row encSt l)[Int.toNat ix]? AV.bad) 0))
 (∃ (i4 : Nat),
 ∃ (j5 : Nat),
 ∃ (vs6 : List AV),
 ∃ (ls7 : List (List Int)),
 ∃ (s8 : Int),
 ∃ (pg9 : Int),
 And ([AV.ptr (Pl.mk i 0 [] 1), AV.int IntKind.i64 (modR x0 n1), AV.int IntKind.i64 (modR x2 n3)] = [AV.ptr (Pl.mk i4 0 [] 1), AV.int IntKind.i64 s8, AV.int IntKind.i64 pg9])
 (And (PinsR H i4 j5 vs6 ls7)
 (∀ (H'10 : Heap),
 ∀ (vs'11 : List AV),
 (PinsR H'10 i4 j5 vs'11 (dropS ls7 s8 pg9)) →
 (Nxt H i4 j5 vs6 H'10 vs'11) →
 cond (decide (0 ≤ modR x0 n1))
 (cond (decide (Int.toNat (modR x0 n1) < 4))
 (cond (decide (0 ≤ modR x2 n3))
 (cond (decide (Int.toNat (modR x2 n3) < 64))
 (∃ (b12 : Blk),
 And (Heap.blk H'10 h = some b12)
 (cond (okAt b12.1 [Int.toNat (modR x0 n1), Int.toNat (modR x2 n3)] (0 + Int.toNat (modR x0 n1) * 64 + Int.toNat (modR x2 n3) * 1) 256 false 1)
 (cond (AV.isIntK (projT [Int.toNat (modR x0 n1), Int.toNat (modR x2 n3)] b12.1) IntKind.i64)
 (cond (!(dropErr ls7 s8 pg9 == 0) == decide (AV.toInt (projT [Int.toNat (modR x0 n1), Int.toNat (modR x2 n3)] b12.1) > 0))
 (k (AV.bool false) H'10 true)
 (cond (dropErr ls7 s8 pg9 == 0)
 (cond (decide (0 ≤ modR x0 n1))
 (cond (decide (Int.toNat (modR x0 n1) < 4))
 (cond (decide (0 ≤ modR x2 n3))
 (cond (decide (Int.toNat (modR x2 n3) < 64))
 (∃ (b13 : Blk),
 And (Heap.blk H'10 h = some b13)
 (cond (okAt b13.1 [Int.toNat (modR x0 n1), Int.toNat (modR x2 n3)] (0 + Int.toNat (modR x0 n1) * 64 + Int.toNat (modR x2 n3) * 1) 256 false 1)
 (cond (AV.isIntK (projT [Int.toNat (modR x0 n1), Int.toNat (modR x2 n3)] b13.1) IntKind.i64)
 (cond (decide (0 ≤ modR x0 n1))
 (cond (decide (Int.toNat (modR x0 n1) < 4))
 (cond (decide (0 ≤ modR x2 n3))
 (cond (decide (Int.toNat (modR x2 n3) < 64))
 (∃ (b14 : Blk),
 And (Heap.blk H'10 h = some b14)
 (cond (okPl b14.1 [Int.toNat (modR x0 n1), Int.toNat (modR x2 n3)] (0 + Int.toNat (modR x0 n1) * 64 + Int.toNat (modR x2 n3) * 1) 256 1)
 (∀ (H'15 : Heap),
 (H'15 = List.set H'10 h (some (Blk.mk (putT [Int.toNat (modR x0 n1), Int.toNat (modR x2 n3)] b14.1 (AV.int IntKind.i64 (IntKind.wrap IntKind.i64 (AV.toInt (projT [Int.toNat (modR x0 n1), Int.toNat (modR x2 n3)] b13.1) - 1)))) b14.2 b14.3))) →
 cond (decide (0 ≤ modR x0 n1))
 (cond (decide (Int.toNat (modR x0 n1) < 4))
 (∃ (b16 : Blk),
 And (Heap.blk H'15 g = some b16)
 (cond (okAt b16.1 [Int.toNat (modR x0 n1)] (0 + Int.toNat (modR x0 n1) * 1) 4 false 1)
 (cond (AV.isIntK (projT [Int.toNat (modR x0 n1)] b16.1) IntKind.i64)
 (cond (decide (0 ≤ modR x0 n1))
 (cond (decide (Int.toNat (modR x0 n1) < 4))
 (∃ (b17 : Blk),
 And (Heap.blk H'15 g = some b17)
 (cond (okPl b17.1 [Int.toNat (modR x0 n1)] (0 + Int.toNat (modR x0 n1) * 1) 4 1)
 (∀ (H'18 : Heap),
 (H'18 = List.set H'15 g (some (Blk.mk (putT [Int.toNat (modR x0 n1)] b17.1 (AV.int IntKind.i64 (IntKind.wrap IntKind.i64 (AV.toInt (projT [Int.toNat (modR x0 n1)] b16.1) - 1)))) b17.2 b17.3))) →
 cond (decide (0 ≤ modR x0 n1))
 (cond (decide (Int.toNat (modR x0 n1) < 4))
 (∃ (b19 : Blk),
 And (Heap.blk H'18 g = some b19)
 (cond (okAt b19.1 [Int.toNat (modR x0 n1)] (0 + Int.toNat (modR x0 n1) * 1) 4 false 1)
 (cond (AV.isIntK (projT [Int.toNat (modR x0 n1)] b19.1) IntKind.i64)
 (∃ (i20 : Nat),
 ∃ (j21 : Nat),
 ∃ (vs22 : List AV),
 ∃ (ls23 : List (List Int)),
 ∃ (s24 : Int),
 And ([AV.ptr (Pl.mk i 0 [] 1), AV.int IntKind.i64 (modR x0 n1)] = [AV.ptr (Pl.mk i20 0 [] 1), AV.int IntKind.i64 s24])
 (And (PinsR H'18 i20 j21 vs22 ls23)
 (And ((¬OkS ls23 s24 ∨ List.getD ls23 (Int.toNat s24) [] = []) →
 ∀ (H'25 : Heap),
 (Keep [] H'18 H'25) →
 cond (!(↑0 : Int) == AV.toInt (projT [Int.toNat (modR x0 n1)] b19.1))
 (∃ (b26 : Blk),
 And (Heap.blk H'25 g = some b26)
 (cond (okAt b26.1 [Int.toNat (modR x0 n1)] (0 + Int.toNat (modR x0 n1) * 1) 4 false 1)
 (cond (AV.beq (projT [Int.toNat (modR x0 n1)] b26.1) (AV.int IntKind.i64 (AV.toInt (projT [Int.toNat (modR x0 n1)] b19.1))))
 (k (AV.bool false) H'25 true)
 (False))
 (False)))
 (cond (decide (0 ≤ modR x2 n3))
 (cond (decide (Int.toNat (modR x2 n3) < 64))
 (∃ (b27 : Blk),
 And (Heap.blk H'25 h = some b27)
 (cond (okAt b27.1 [0, Int.toNat (modR x2 n3)] (0 + Int.toNat (modR x2 n3) * 1) 256 false 1)
 (cond (AV.isIntK (projT [0, Int.toNat (modR x2 n3)] b27.1) IntKind.i64)
 (cond (decide (0 ≤ modR x2 n3))
 (cond (decide (Int.toNat (modR x2 n3) < 64))
 (∃ (b28 : Blk),
 And (Heap.blk H'25 h = some b28)
 (cond (okAt b28.1 [1, Int.toNat (modR x2 n3)] (64 + Int.toNat (modR x2 n3) * 1) 256 false 1)
 (cond (AV.isIntK (projT [1, Int.toNat (modR x2 n3)] b28.1) IntKind.i64)
 (cond (decide (0 ≤ modR x2 n3))
 (cond (decide (Int.toNat (modR x2 n3) < 64))
 (∃ (b29 : Blk),
 And (Heap.blk H'25 h = some b29)
 (cond (okAt b29.1 [2, Int.toNat (modR x2 n3)] (128 + Int.toNat (modR x2 n3) * 1) 256 false 1)
 (cond (AV.isIntK (projT [2, Int.toNat (modR x2 n3)] b29.1) IntKind.i64)
 (cond (decide (0 ≤ modR x2 n3))
 (cond (decide (Int.toNat (modR x2 n3) < 64))
 (∃ (b30 : Blk),
 And (Heap.blk H'25 h = some b30)
 (cond (okAt b30.1 [3, Int.toNat (modR x2 n3)] (192 + Int.toNat (modR x2 n3) * 1) 256 false 1)
 (cond (AV.isIntK (projT [3, Int.toNat (modR x2 n3)] b30.1) IntKind.i64)
 (∃ (i31 : Nat),
 ∃ (j32 : Nat),
 ∃ (vs33 : List AV),
 ∃ (ls34 : List (List Int)),
 ∃ (pg35 : Int),
 And ([AV.ptr (Pl.mk i 0 [] 1), AV.int IntKind.i64 (modR x2 n3)] = [AV.ptr (Pl.mk i31 0 [] 1), AV.int IntKind.i64 pg35])
 (And (PinsR H'25 i31 j32 vs33 ls34)
 (∃ (b36 : Blk),
 And (Heap.blk H'25 g = some b36)
 (cond (okAt b36.1 [Int.toNat (modR x0 n1)] (0 + Int.toNat (modR x0 n1) * 1) 4 false 1)
 (cond (AV.beq (projT [Int.toNat (modR x0 n1)] b36.1) (AV.int IntKind.i64 (AV.toInt (projT [Int.toNat (modR x0 n1)] b19.1))))
 (∃ (b37 : Blk),
 And (Heap.blk H'25 h = some b37)
 (cond (okAt b37.1 [0, Int.toNat (modR x2 n3)] (0 + Int.toNat (modR x2 n3) * 1) 256 false 1)
 (cond (AV.beq (projT [0, Int.toNat (modR x2 n3)] b37.1) (AV.int IntKind.i64 (AV.toInt (projT [0, Int.toNat (modR x2 n3)] b27.1))))
 (∃ (b38 : Blk),
 And (Heap.blk H'25 h = some b38)
 (cond (okAt b38.1 [1, Int.toNat (modR x2 n3)] (64 + Int.toNat (modR x2 n3) * 1) 256 false 1)
 (cond (AV.beq (projT [1, Int.toNat (modR x2 n3)] b38.1) (AV.int IntKind.i64 (AV.toInt (projT [1, Int.toNat (modR x2 n3)] b28.1))))
 (∃ (b39 : Blk),
 And (Heap.blk H'25 h = some b39)
 (cond (okAt b39.1 [2, Int.toNat (modR x2 n3)] (128 + Int.toNat (modR x2 n3) * 1) 256 false 1)
 (cond (AV.beq (projT [2, Int.toNat (modR x2 n3)] b39.1) (AV.int IntKind.i64 (AV.toInt (projT [2, Int.toNat (modR x2 n3)] b29.1))))
 (∃ (b40 : Blk),
 And (Heap.blk H'25 h = some b40)
 (cond (okAt b40.1 [3, Int.toNat (modR x2 n3)] (192 + Int.toNat (modR x2 n3) * 1) 256 false 1)
 (cond (AV.beq (projT [3, Int.toNat (modR x2 n3)] b40.1) (AV.int IntKind.i64 (AV.toInt (projT [3, Int.toNat (modR x2 n3)] b30.1))))
 (cond (!(↑(cntL pg35 ls34) : Int) == IntKind.wrap IntKind.i64 (IntKind.wrap IntKind.i64 (IntKind.wrap IntKind.i64 (AV.toInt (projT [0, Int.toNat (modR x2 n3)] b27.1) + AV.toInt (projT [1, Int.toNat (modR x2 n3)] b28.1)) + AV.toInt (projT [2, Int.toNat (modR x2 n3)] b29.1)) + AV.toInt (projT [3, Int.toNat (modR x2 n3)] b30.1)))
 (k (AV.bool false) H'25 true)
 (resPS (S F) TL N 9 fuel 4 1 n0 [] [true, true, true, true, true, false, true] m (St.mk [(0, AV.isl 3 (row encSt l)), (2, AV.bad), (3, AV.ptr (Pl.mk i 0 [] 1)), (4, AV.bad), (5, AV.ptr (Pl.mk h 0 [] 256)), (6, AV.ptr (Pl.mk g 0 [] 4)), (7, AV.int IntKind.i64 (IntKind.wrap IntKind.i64 (ix + 1))), (8, AV.bad), (9, AV.bad), (10, AV.bad), (11, AV.bad), (26, AV.bad), (39, AV.bad), (58, AV.bad), (71, AV.bad), (73, AV.bad), (97, AV.bad), (99, AV.bad), (145, AV.bad)] [] H'25 true) k))
 (False))
 (False)))
 (False))
 (False)))
 (False))
 (False)))
 (False))
 (False)))
 (False))
 (False)))))
 (False))
 (False)))
 (False))
 (False))
 (False))
 (False)))
 (False))
 (False))
 (False))
 (False)))
 (False))
 (False))
 (False))
 (False)))
 (False))
 (False)))
 ((OkS ls23 s24) →
 ∀ (k041 : Nat),
 ∀ (H'42 : Heap),
 (List.length H'18 ≤ k041) →
 (Heap.blk H'42 k041 = some (Blk.mk (AV.arr 1 (row encZ (List.getD ls23 (Int.toNat s24) []))) true true)) →
 (Keep [] H'18 H'42) →
 cond (!(↑(List.length (List.getD ls23 (Int.toNat s24) [])) : Int) == AV.toInt (projT [Int.toNat (modR x0 n1)] b19.1))
 (∃ (b43 : Blk),
 And (Heap.blk H'42 g = some b43)
 (cond (okAt b43.1 [Int.toNat (modR x0 n1)] (0 + Int.toNat (modR x0 n1) * 1) 4 false 1)
 (cond (AV.beq (projT [Int.toNat (modR x0 n1)] b43.1) (AV.int IntKind.i64 (AV.toInt (projT [Int.toNat (modR x0 n1)] b19.1))))
 (k (AV.bool false) H'42 true)
 (False))
 (False)))
 (cond (decide (0 ≤ modR x2 n3))
 (cond (decide (Int.toNat (modR x2 n3) < 64))
 (∃ (b44 : Blk),
 And (Heap.blk H'42 h = some b44)
 (cond (okAt b44.1 [0, Int.toNat (modR x2 n3)] (0 + Int.toNat (modR x2 n3) * 1) 256 false 1)
 (cond (AV.isIntK (projT [0, Int.toNat (modR x2 n3)] b44.1) IntKind.i64)
 (cond (decide (0 ≤ modR x2 n3))
 (cond (decide (Int.toNat (modR x2 n3) < 64))
 (∃ (b45 : Blk),
 And (Heap.blk H'42 h = some b45)
 (cond (okAt b45.1 [1, Int.toNat (modR x2 n3)] (64 + Int.toNat (modR x2 n3) * 1) 256 false 1)
 (cond (AV.isIntK (projT [1, Int.toNat (modR x2 n3)] b45.1) IntKind.i64)
 (cond (decide (0 ≤ modR x2 n3))
 (cond (decide (Int.toNat (modR x2 n3) < 64))
 (∃ (b46 : Blk),
 And (Heap.blk H'42 h = some b46)
 (cond (okAt b46.1 [2, Int.toNat (modR x2 n3)] (128 + Int.toNat (modR x2 n3) * 1) 256 false 1)
 (cond (AV.isIntK (projT [2, Int.toNat (modR x2 n3)] b46.1) IntKind.i64)
 (cond (decide (0 ≤ modR x2 n3))
 (cond (decide (Int.toNat (modR x2 n3) < 64))
 (∃ (b47 : Blk),
 And (Heap.blk H'42 h = some b47)
 (cond (okAt b47.1 [3, Int.toNat (modR x2 n3)] (192 + Int.toNat (modR x2 n3) * 1) 256 false 1)
 (cond (AV.isIntK (projT [3, Int.toNat (modR x2 n3)] b47.1) IntKind.i64)
 (∃ (i48 : Nat),
 ∃ (j49 : Nat),
 ∃ (vs50 : List AV),
 ∃ (ls51 : List (List Int)),
 ∃ (pg52 : Int),
 And ([AV.ptr (Pl.mk i 0 [] 1), AV.int IntKind.i64 (modR x2 n3)] = [AV.ptr (Pl.mk i48 0 [] 1), AV.int IntKind.i64 pg52])
 (And (PinsR H'42 i48 j49 vs50 ls51)
 (∃ (b53 : Blk),
 And (Heap.blk H'42 g = some b53)
 (cond (okAt b53.1 [Int.toNat (modR x0 n1)] (0 + Int.toNat (modR x0 n1) * 1) 4 false 1)
 (cond (AV.beq (projT [Int.toNat (modR x0 n1)] b53.1) (AV.int IntKind.i64 (AV.toInt (projT [Int.toNat (modR x0 n1)] b19.1))))
 (∃ (b54 : Blk),
 And (Heap.blk H'42 h = some b54)
 (cond (okAt b54.1 [0, Int.toNat (modR x2 n3)] (0 + Int.toNat (modR x2 n3) * 1) 256 false 1)
 (cond (AV.beq (projT [0, Int.toNat (modR x2 n3)] b54.1) (AV.int IntKind.i64 (AV.toInt (projT [0, Int.toNat (modR x2 n3)] b44.1))))
 (∃ (b55 : Blk),
 And (Heap.blk H'42 h = some b55)
 (cond (okAt b55.1 [1, Int.toNat (modR x2 n3)] (64 + Int.toNat (modR x2 n3) * 1) 256 false 1)
 (cond (AV.beq (projT [1, Int.toNat (modR x2 n3)] b55.1) (AV.int IntKind.i64 (AV.toInt (projT [1, Int.toNat (modR x2 n3)] b45.1))))
 (∃ (b56 : Blk),
 And (Heap.blk H'42 h = some b56)
 (cond (okAt b56.1 [2, Int.toNat (modR x2 n3)] (128 + Int.toNat (modR x2 n3) * 1) 256 false 1)
 (cond (AV.beq (projT [2, Int.toNat (modR x2 n3)] b56.1) (AV.int IntKind.i64 (AV.toInt (projT [2, Int.toNat (modR x2 n3)] b46.1))))
 (∃ (b57 : Blk),
 And (Heap.blk H'42 h = some b57)
 (cond (okAt b57.1 [3, Int.toNat (modR x2 n3)] (192 + Int.toNat (modR x2 n3) * 1) 256 false 1)
 (cond (AV.beq (projT [3, Int.toNat (modR x2 n3)] b57.1) (AV.int IntKind.i64 (AV.toInt (projT [3, Int.toNat (modR x2 n3)] b47.1))))
 (cond (!(↑(cntL pg52 ls51) : Int) == IntKind.wrap IntKind.i64 (IntKind.wrap IntKind.i64 (IntKind.wrap IntKind.i64 (AV.toInt (projT [0, Int.toNat (modR x2 n3)] b44.1) + AV.toInt (projT [1, Int.toNat (modR x2 n3)] b45.1)) + AV.toInt (projT [2, Int.toNat (modR x2 n3)] b46.1)) + AV.toInt (projT [3, Int.toNat (modR x2 n3)] b47.1)))
 (k (AV.bool false) H'42 true)
 (resPS (S F) TL N 9 fuel 4 1 n0 [] [true, true, true, true, true, false, true] m (St.mk [(0, AV.isl 3 (row encSt l)), (2, AV.bad), (3, AV.ptr (Pl.mk i 0 [] 1)), (4, AV.bad), (5, AV.ptr (Pl.mk h 0 [] 256)), (6, AV.ptr (Pl.mk g 0 [] 4)), (7, AV.int IntKind.i64 (IntKind.wrap IntKind.i64 (ix + 1))), (8, AV.bad), (9, AV.bad), (10, AV.bad), (11, AV.bad), (26, AV.bad), (39, AV.bad), (58, AV.bad), (71, AV.bad), (73, AV.bad), (97, AV.bad), (99, AV.bad), (145, AV.bad)] [] H'42 true) k))
 (False))
 (False)))
 (False))
 (False)))
 (False))
 (False)))
 (False))
 (False)))
 (False))
 (False)))))
 (False))
 (False)))
 (False))
 (False))
 (False))
 (False)))
 (False))
 (False))
 (False))
 (False)))
 (False))
 (False))
 (False))
 (False)))
 (False))
 (False))))))
 (False))
 (False)))
 (False))
 (False))
 (False)))
 (False))
 (False))
 (False))
 (False)))
 (False))
 (False))
 (False)))
 (False))
 (False))
 (False))
 (False))
 (False))
 (False)))
 (False))
 (False))
 (False))
 (False))
 (cond (decide (0 ≤ modR x0 n1))
 (cond (decide (Int.toNat (modR x0 n1) < 4))
 (∃ (b58 : Blk),
 And (Heap.blk H'10 g = some b58)
 (cond (okAt b58.1 [Int.toNat (modR x0 n1)] (0 + Int.toNat (modR x0 n1) * 1) 4 false 1)
 (cond (AV.isIntK (projT [Int.toNat (modR x0 n1)] b58.1) IntKind.i64)
 (∃ (i59 : Nat),
 ∃ (j60 : Nat),
 ∃ (vs61 : List AV),
 ∃ (ls62 : List (List Int)),
 ∃ (s63 : Int),
 And ([AV.ptr (Pl.mk i 0 [] 1), AV.int IntKind.i64 (modR x0 n1)] = [AV.ptr (Pl.mk i59 0 [] 1), AV.int IntKind.i64 s63])
 (And (PinsR H'10 i59 j60 vs61 ls62)
 (And ((¬OkS ls62 s63 ∨ List.getD ls62 (Int.toNat s63) [] = []) →
 ∀ (H'64 : Heap),
 (Keep [] H'10 H'64) →
 cond (!(↑0 : Int) == AV.toInt (projT [Int.toNat (modR x0 n1)] b58.1))
 (∃ (b65 : Blk),
 And (Heap.blk H'64 g = some b65)
 (cond (okAt b65.1 [Int.toNat (modR x0 n1)] (0 + Int.toNat (modR x0 n1) * 1) 4 false 1)
 (cond (AV.beq (projT [Int.toNat (modR x0 n1)] b65.1) (AV.int IntKind.i64 (AV.toInt (projT [Int.toNat (modR x0 n1)] b58.1))))
 (k (AV.bool false) H'64 true)
 (False))
 (False)))
 (cond (decide (0 ≤ modR x2 n3))
 (cond (decide (Int.toNat (modR x2 n3) < 64))
 (∃ (b66 : Blk),
 And (Heap.blk H'64 h = some b66)
 (cond (okAt b66.1 [0, Int.toNat (modR x2 n3)] (0 + Int.toNat (modR x2 n3) * 1) 256 false 1)
 (cond (AV.isIntK (projT [0, Int.toNat (modR x2 n3)] b66.1) IntKind.i64)
 (cond (decide (0 ≤ modR x2 n3))
 (cond (decide (Int.toNat (modR x2 n3) < 64))
 (∃ (b67 : Blk),
 And (Heap.blk H'64 h = some b67)
 (cond (okAt b67.1 [1, Int.toNat (modR x2 n3)] (64 + Int.toNat (modR x2 n3) * 1) 256 false 1)
 (cond (AV.isIntK (projT [1, Int.toNat (modR x2 n3)] b67.1) IntKind.i64)
 (cond (decide (0 ≤ modR x2 n3))
 (cond (decide (Int.toNat (modR x2 n3) < 64))
 (∃ (b68 : Blk),
 And (Heap.blk H'64 h = some b68)
 (cond (okAt b68.1 [2, Int.toNat (modR x2 n3)] (128 + Int.toNat (modR x2 n3) * 1) 256 false 1)
 (cond (AV.isIntK (projT [2, Int.toNat (modR x2 n3)] b68.1) IntKind.i64)
 (cond (decide (0 ≤ modR x2 n3))
 (cond (decide (Int.toNat (modR x2 n3) < 64))
 (∃ (b69 : Blk),
 And (Heap.blk H'64 h = some b69)
 (cond (okAt b69.1 [3, Int.toNat (modR x2 n3)] (192 + Int.toNat (modR x2 n3) * 1) 256 false 1)
 (cond (AV.isIntK (projT [3, Int.toNat (modR x2 n3)] b69.1) IntKind.i64)
 (∃ (i70 : Nat),
 ∃ (j71 : Nat),
 ∃ (vs72 : List AV),
 ∃ (ls73 : List (List Int)),
 ∃ (pg74 : Int),
 And ([AV.ptr (Pl.mk i 0 [] 1), AV.int IntKind.i64 (modR x2 n3)] = [AV.ptr (Pl.mk i70 0 [] 1), AV.int IntKind.i64 pg74])
 (And (PinsR H'64 i70 j71 vs72 ls73)
 (∃ (b75 : Blk),
 And (Heap.blk H'64 g = some b75)
 (cond (okAt b75.1 [Int.toNat (modR x0 n1)] (0 + Int.toNat (modR x0 n1) * 1) 4 false 1)
 (cond (AV.beq (projT [Int.toNat (modR x0 n1)] b75.1) (AV.int IntKind.i64 (AV.toInt (projT [Int.toNat (modR x0 n1)] b58.1))))
 (∃ (b76 : Blk),
 And (Heap.blk H'64 h = some b76)
 (cond (okAt b76.1 [0, Int.toNat (modR x2 n3)] (0 + Int.toNat (modR x2 n3) * 1) 256 false 1)
 (cond (AV.beq (projT [0, Int.toNat (modR x2 n3)] b76.1) (AV.int IntKind.i64 (AV.toInt (projT [0, Int.toNat (modR x2 n3)] b66.1))))
 (∃ (b77 : Blk),
 And (Heap.blk H'64 h = some b77)
 (cond (okAt b77.1 [1, Int.toNat (modR x2 n3)] (64 + Int.toNat (modR x2 n3) * 1) 256 false 1)
 (cond (AV.beq (projT [1, Int.toNat (modR x2 n3)] b77.1) (AV.int IntKind.i64 (AV.toInt (projT [1, Int.toNat (modR x2 n3)] b67.1))))
 (∃ (b78 : Blk),
 And (Heap.blk H'64 h = some b78)
 (cond (okAt b78.1 [2, Int.toNat (modR x2 n3)] (128 + Int.toNat (modR x2 n3) * 1) 256 false 1)
 (cond (AV.beq (projT [2, Int.toNat (modR x2 n3)] b78.1) (AV.int IntKind.i64 (AV.toInt (projT [2, Int.toNat (modR x2 n3)] b68.1))))
 (∃ (b79 : Blk),
 And (Heap.blk H'64 h = some b79)
 (cond (okAt b79.1 [3, Int.toNat (modR x2 n3)] (192 + Int.toNat (modR x2 n3) * 1) 256 false 1)
 (cond (AV.beq (projT [3, Int.toNat (modR x2 n3)] b79.1) (AV.int IntKind.i64 (AV.toInt (projT [3, Int.toNat (modR x2 n3)] b69.1))))
 (cond (!(↑(cntL pg74 ls73) : Int) == IntKind.wrap IntKind.i64 (IntKind.wrap IntKind.i64 (IntKind.wrap IntKind.i64 (AV.toInt (projT [0, Int.toNat (modR x2 n3)] b66.1) + AV.toInt (projT [1, Int.toNat (modR x2 n3)] b67.1)) + AV.toInt (projT [2, Int.toNat (modR x2 n3)] b68.1)) + AV.toInt (projT [3, Int.toNat (modR x2 n3)] b69.1)))
 (k (AV.bool false) H'64 true)
 (resPS (S F) TL N 9 fuel 4 1 n0 [] [true, true, true, true, true, false, true] m (St.mk [(0, AV.isl 3 (row encSt l)), (2, AV.bad), (3, AV.ptr (Pl.mk i 0 [] 1)), (4, AV.bad), (5, AV.ptr (Pl.mk h 0 [] 256)), (6, AV.ptr (Pl.mk g 0 [] 4)), (7, AV.int IntKind.i64 (IntKind.wrap IntKind.i64 (ix + 1))), (8, AV.bad), (9, AV.bad), (10, AV.bad), (11, AV.bad), (26, AV.bad), (39, AV.bad), (58, AV.bad), (71, AV.bad), (73, AV.bad), (97, AV.bad), (99, AV.bad), (145, AV.bad)] [] H'64 true) k))
 (False))
 (False)))
 (False))
 (False)))
 (False))
 (False)))
 (False))
 (False)))
 (False))
 (False)))))
 (False))
 (False)))
 (False))
 (False))
 (False))
 (False)))
 (False))
 (False))
 (False))
 (False)))
 (False))
 (False))
 (False))
 (False)))
 (False))
 (False)))
 ((OkS ls62 s63) →
 ∀ (k080 : Nat),
 ∀ (H'81 : Heap),
 (List.length H'10 ≤ k080) →
 (Heap.blk H'81 k080 = some (Blk.mk (AV.arr 1 (row encZ (List.getD ls62 (Int.toNat s63) []))) true true)) →
 (Keep [] H'10 H'81) →
 cond (!(↑(List.length (List.getD ls62 (Int.toNat s63) [])) : Int) == AV.toInt (projT [Int.toNat (modR x0 n1)] b58.1))
 (∃ (b82 : Blk),
 And (Heap.blk H'81 g = some b82)
 (cond (okAt b82.1 [Int.toNat (modR x0 n1)] (0 + Int.toNat (modR x0 n1) * 1) 4 false 1)
 (cond (AV.beq (projT [Int.toNat (modR x0 n1)] b82.1) (AV.int IntKind.i64 (AV.toInt (projT [Int.toNat (modR x0 n1)] b58.1))))
 (k (AV.bool false) H'81 true)
 (False))
 (False)))
 (cond (decide (0 ≤ modR x2 n3))
 (cond (decide (Int.toNat (modR x2 n3) < 64))
 (∃ (b83 : Blk),
 And (Heap.blk H'81 h = some b83)
 (cond (okAt b83.1 [0, Int.toNat (modR x2 n3)] (0 + Int.toNat (modR x2 n3) * 1) 256 false 1)
 (cond (AV.isIntK (projT [0, Int.toNat (modR x2 n3)] b83.1) IntKind.i64)
 (cond (decide (0 ≤ modR x2 n3))
 (cond (decide (Int.toNat (modR x2 n3) < 64))
 (∃ (b84 : Blk),
 And (Heap.blk H'81 h = some b84)
 (cond (okAt b84.1 [1, Int.toNat (modR x2 n3)] (64 + Int.toNat (modR x2 n3) * 1) 256 false 1)
 (cond (AV.isIntK (projT [1, Int.toNat (modR x2 n3)] b84.1) IntKind.i64)
 (cond (decide (0 ≤ modR x2 n3))
 (cond (decide (Int.toNat (modR x2 n3) < 64))
 (∃ (b85 : Blk),
 And (Heap.blk H'81 h = some b85)
 (cond (okAt b85.1 [2, Int.toNat (modR x2 n3)] (128 + Int.toNat (modR x2 n3) * 1) 256 false 1)
 (cond (AV.isIntK (projT [2, Int.toNat (modR x2 n3)] b85.1) IntKind.i64)
 (cond (decide (0 ≤ modR x2 n3))
 (cond (decide (Int.toNat (modR x2 n3) < 64))
 (∃ (b86 : Blk),
 And (Heap.blk H'81 h = some b86)
 (cond (okAt b86.1 [3, Int.toNat (modR x2 n3)] (192 + Int.toNat (modR x2 n3) * 1) 256 false 1)
 (cond (AV.isIntK (projT [3, Int.toNat (modR x2 n3)] b86.1) IntKind.i64)
 (∃ (i87 : Nat),
 ∃ (j88 : Nat),
 ∃ (vs89 : List AV),
 ∃ (ls90 : List (List Int)),
 ∃ (pg91 : Int),
 And ([AV.ptr (Pl.mk i 0 [] 1), AV.int IntKind.i64 (modR x2 n3)] = [AV.ptr (Pl.mk i87 0 [] 1), AV.int IntKind.i64 pg91])
 (And (PinsR H'81 i87 j88 vs89 ls90)
 (∃ (b92 : Blk),
 And (Heap.blk H'81 g = some b92)
 (cond (okAt b92.1 [Int.toNat (modR x0 n1)] (0 + Int.toNat (modR x0 n1) * 1) 4 false 1)
 (cond (AV.beq (projT [Int.toNat (modR x0 n1)] b92.1) (AV.int IntKind.i64 (AV.toInt (projT [Int.toNat (modR x0 n1)] b58.1))))
 (∃ (b93 : Blk),
 And (Heap.blk H'81 h = some b93)
 (cond (okAt b93.1 [0, Int.toNat (modR x2 n3)] (0 + Int.toNat (modR x2 n3) * 1) 256 false 1)
 (cond (AV.beq (projT [0, Int.toNat (modR x2 n3)] b93.1) (AV.int IntKind.i64 (AV.toInt (projT [0, Int.toNat (modR x2 n3)] b83.1))))
 (∃ (b94 : Blk),
 And (Heap.blk H'81 h = some b94)
 (cond (okAt b94.1 [1, Int.toNat (modR x2 n3)] (64 + Int.toNat (modR x2 n3) * 1) 256 false 1)
 (cond (AV.beq (projT [1, Int.toNat (modR x2 n3)] b94.1) (AV.int IntKind.i64 (AV.toInt (projT [1, Int.toNat (modR x2 n3)] b84.1))))
 (∃ (b95 : Blk),
 And (Heap.blk H'81 h = some b95)
 (cond (okAt b95.1 [2, Int.toNat (modR x2 n3)] (128 + Int.toNat (modR x2 n3) * 1) 256 false 1)
 (cond (AV.beq (projT [2, Int.toNat (modR x2 n3)] b95.1) (AV.int IntKind.i64 (AV.toInt (projT [2, Int.toNat (modR x2 n3)] b85.1))))
 (∃ (b96 : Blk),
 And (Heap.blk H'81 h = some b96)
 (cond (okAt b96.1 [3, Int.toNat (modR x2 n3)] (192 + Int.toNat (modR x2 n3) * 1) 256 false 1)
 (cond (AV.beq (projT [3, Int.toNat (modR x2 n3)] b96.1) (AV.int IntKind.i64 (AV.toInt (projT [3, Int.toNat (modR x2 n3)] b86.1))))
 (cond (!(↑(cntL pg91 ls90) : Int) == IntKind.wrap IntKind.i64 (IntKind.wrap IntKind.i64 (IntKind.wrap IntKind.i64 (AV.toInt (projT [0, Int.toNat (modR x2 n3)] b83.1) + AV.toInt (projT [1, Int.toNat (modR x2 n3)] b84.1)) + AV.toInt (projT [2, Int.toNat (modR x2 n3)] b85.1)) + AV.toInt (projT [3, Int.toNat (modR x2 n3)] b86.1)))
 (k (AV.bool false) H'81 true)
 (resPS (S F) TL N 9 fuel 4 1 n0 [] [true, true, true, true, true, false, true] m (St.mk [(0, AV.isl 3 (row encSt l)), (2, AV.bad), (3, AV.ptr (Pl.mk i 0 [] 1)), (4, AV.bad), (5, AV.ptr (Pl.mk h 0 [] 256)), (6, AV.ptr (Pl.mk g 0 [] 4)), (7, AV.int IntKind.i64 (IntKind.wrap IntKind.i64 (ix + 1))), (8, AV.bad), (9, AV.bad), (10, AV.bad), (11, AV.bad), (26, AV.bad), (39, AV.bad), (58, AV.bad), (71, AV.bad), (73, AV.bad), (97, AV.bad), (99, AV.bad), (145, AV.bad)] [] H'81 true) k))
 (False))
 (False)))
 (False))
 (False)))
 (False))
 (False)))
 (False))
 (False)))
 (False))
 (False)))))
 (False))
 (False)))
 (False))
 (False))
 (False))
 (False)))
 (False))
 (False))
 (False))
 (False)))
 (False))
 (False))
 (False))
 (False)))
 (False))
 (False))))))
 (False))
 (False)))
 (False))
 (False))))
 (False))
 (False)))
 (False))
 (False))
 (False))
 (False))))
 (∃ (i97 : Nat),
 ∃ (j98 : Nat),
 ∃ (vs99 : List AV),
 ∃ (ls100 : List (List Int)),
 ∃ (s101 : Int),
 ∃ (pg102 : Int),
 And ([AV.ptr (Pl.mk i 0 [] 1), AV.int IntKind.i64 (modR x0 n1), AV.int IntKind.i64 (modR x2 n3)] = [AV.ptr (Pl.mk i97 0 [] 1), AV.int IntKind.i64 s101, AV.int IntKind.i64 pg102])
 (And (PinsR H i97 j98 vs99 ls100)
 (∀ (H'103 : Heap),
 ∀ (vs'104 : List AV),
 (PinsR H'103 i97 j98 vs'104 (addS ls100 s101 pg102)) →
 (Nxt H i97 j98 vs99 H'103 vs'104) →
 cond (decide (0 ≤ modR x0 n1))
 (cond (decide (Int.toNat (modR x0 n1) < 4))
 (∃ (b105 : Blk),
 And (Heap.blk H'103 g = some b105)
 (cond (okAt b105.1 [Int.toNat (modR x0 n1)] (0 + Int.toNat (modR x0 n1) * 1) 4 false 1)
 (cond (AV.isIntK (projT [Int.toNat (modR x0 n1)] b105.1) IntKind.i64)
 (cond (!(addErr ls100 s101 pg102 == 0) == decide (AV.toInt (projT [Int.toNat (modR x0 n1)] b105.1) < 16))
 (k (AV.bool false) H'103 true)
 (cond (addErr ls100 s101 pg102 == 0)
 (cond (decide (0 ≤ modR x0 n1))
 (cond (decide (Int.toNat (modR x0 n1) < 4))
 (cond (decide (0 ≤ modR x2 n3))
 (cond (decide (Int.toNat (modR x2 n3) < 64))
 (∃ (b106 : Blk),
 And (Heap.blk H'103 h = some b106)
 (cond (okAt b106.1 [Int.toNat (modR x0 n1), Int.toNat (modR x2 n3)] (0 + Int.toNat (modR x0 n1) * 64 + Int.toNat (modR x2 n3) * 1) 256 false 1)
 (cond (AV.isIntK (projT [Int.toNat (modR x0 n1), Int.toNat (modR x2 n3)] b106.1) IntKind.i64)
 (cond (decide (0 ≤ modR x0 n1))
 (cond (decide (Int.toNat (modR x0 n1) < 4))
 (cond (decide (0 ≤ modR x2 n3))
 (cond (decide (Int.toNat (modR x2 n3) < 64))
 (∃ (b107 : Blk),
 And (Heap.blk H'103 h = some b107)
 (cond (okPl b107.1 [Int.toNat (modR x0 n1), Int.toNat (modR x2 n3)] (0 + Int.toNat (modR x0 n1) * 64 + Int.toNat (modR x2 n3) * 1) 256 1)
 (∀ (H'108 : Heap),
 (H'108 = List.set H'103 h (some (Blk.mk (putT [Int.toNat (modR x0 n1), Int.toNat (modR x2 n3)] b107.1 (AV.int IntKind.i64 (IntKind.wrap IntKind.i64 (AV.toInt (projT [Int.toNat (modR x0 n1), Int.toNat (modR x2 n3)] b106.1) + 1)))) b107.2 b107.3))) →
 cond (decide (0 ≤ modR x0 n1))
 (cond (decide (Int.toNat (modR x0 n1) < 4))
 (∃ (b109 : Blk),
 And (Heap.blk H'108 g = some b109)
 (cond (okAt b109.1 [Int.toNat (modR x0 n1)] (0 + Int.toNat (modR x0 n1) * 1) 4 false 1)
 (cond (AV.isIntK (projT [Int.toNat (modR x0 n1)] b109.1) IntKind.i64)
 (cond (decide (0 ≤ modR x0 n1))
 (cond (decide (Int.toNat (modR x0 n1) < 4))
 (∃ (b110 : Blk),
 And (Heap.blk H'108 g = some b110)
 (cond (okPl b110.1 [Int.toNat (modR x0 n1)] (0 + Int.toNat (modR x0 n1) * 1) 4 1)
 (∀ (H'111 : Heap),
 (H'111 = List.set H'108 g (some (Blk.mk (putT [Int.toNat (modR x0 n1)] b110.1 (AV.int IntKind.i64 (IntKind.wrap IntKind.i64 (AV.toInt (projT [Int.toNat (modR x0 n1)] b109.1) + 1)))) b110.2 b110.3))) →
 cond (decide (0 ≤ modR x0 n1))
 (cond (decide (Int.toNat (modR x0 n1) < 4))
 (∃ (b112 : Blk),
 And (Heap.blk H'111 g = some b112)
 (cond (okAt b112.1 [Int.toNat (modR x0 n1)] (0 + Int.toNat (modR x0 n1) * 1) 4 false 1)
 (cond (AV.isIntK (projT [Int.toNat (modR x0 n1)] b112.1) IntKind.i64)
 (∃ (i113 : Nat),
 ∃ (j114 : Nat),
 ∃ (vs115 : List AV),
 ∃ (ls116 : List (List Int)),
 ∃ (s117 : Int),
 And ([AV.ptr (Pl.mk i 0 [] 1), AV.int IntKind.i64 (modR x0 n1)] = [AV.ptr (Pl.mk i113 0 [] 1), AV.int IntKind.i64 s117])
 (And (PinsR H'111 i113 j114 vs115 ls116)
 (And ((¬OkS ls116 s117 ∨ List.getD ls116 (Int.toNat s117) [] = []) →
 ∀ (H'118 : Heap),
 (Keep [] H'111 H'118) →
 cond (!(↑0 : Int) == AV.toInt (projT [Int.toNat (modR x0 n1)] b112.1))
 (∃ (b119 : Blk),
 And (Heap.blk H'118 g = some b119)
 (cond (okAt b119.1 [Int.toNat (modR x0 n1)] (0 + Int.toNat (modR x0 n1) * 1) 4 false 1)
 (cond (AV.beq (projT [Int.toNat (modR x0 n1)] b119.1) (AV.int IntKind.i64 (AV.toInt (projT [Int.toNat (modR x0 n1)] b112.1))))
 (k (AV.bool false) H'118 true)
 (False))
 (False)))
 (cond (decide (0 ≤ modR x2 n3))
 (cond (decide (Int.toNat (modR x2 n3) < 64))
 (∃ (b120 : Blk),
 And (Heap.blk H'118 h = some b120)
 (cond (okAt b120.1 [0, Int.toNat (modR x2 n3)] (0 + Int.toNat (modR x2 n3) * 1) 256 false 1)
 (cond (AV.isIntK (projT [0, Int.toNat (modR x2 n3)] b120.1) IntKind.i64)
 (cond (decide (0 ≤ modR x2 n3))
 (cond (decide (Int.toNat (modR x2 n3) < 64))
 (∃ (b121 : Blk),
 And (Heap.blk H'118 h = some b121)
 (cond (okAt b121.1 [1, Int.toNat (modR x2 n3)] (64 + Int.toNat (modR x2 n3) * 1) 256 false 1)
 (cond (AV.isIntK (projT [1, Int.toNat (modR x2 n3)] b121.1) IntKind.i64)
 (cond (decide (0 ≤ modR x2 n3))
 (cond (decide (Int.toNat (modR x2 n3) < 64))
 (∃ (b122 : Blk),
 And (Heap.blk H'118 h = some b122)
 (cond (okAt b122.1 [2, Int.toNat (modR x2 n3)] (128 + Int.toNat (modR x2 n3) * 1) 256 false 1)
 (cond (AV.isIntK (projT [2, Int.toNat (modR x2 n3)] b122.1) IntKind.i64)
 (cond (decide (0 ≤ modR x2 n3))
 (cond (decide (Int.toNat (modR x2 n3) < 64))
 (∃ (b123 : Blk),
 And (Heap.blk H'118 h = some b123)
 (cond (okAt b123.1 [3, Int.toNat (modR x2 n3)] (192 + Int.toNat (modR x2 n3) * 1) 256 false 1)
 (cond (AV.isIntK (projT [3, Int.toNat (modR x2 n3)] b123.1) IntKind.i64)
 (∃ (i124 : Nat),
 ∃ (j125 : Nat),
 ∃ (vs126 : List AV),
 ∃ (ls127 : List (List Int)),
 ∃ (pg128 : Int),
 And ([AV.ptr (Pl.mk i 0 [] 1), AV.int IntKind.i64 (modR x2 n3)] = [AV.ptr (Pl.mk i124 0 [] 1), AV.int IntKind.i64 pg128])
 (And (PinsR H'118 i124 j125 vs126 ls127)
 (∃ (b129 : Blk),
 And (Heap.blk H'118 g = some b129)
 (cond (okAt b129.1 [Int.toNat (modR x0 n1)] (0 + Int.toNat (modR x0 n1) * 1) 4 false 1)
 (cond (AV.beq (projT [Int.toNat (modR x0 n1)] b129.1) (AV.int IntKind.i64 (AV.toInt (projT [Int.toNat (modR x0 n1)] b112.1))))
 (∃ (b130 : Blk),
 And (Heap.blk H'118 h = some b130)
 (cond (okAt b130.1 [0, Int.toNat (modR x2 n3)] (0 + Int.toNat (modR x2 n3) * 1) 256 false 1)
 (cond (AV.beq (projT [0, Int.toNat (modR x2 n3)] b130.1) (AV.int IntKind.i64 (AV.toInt (projT [0, Int.toNat (modR x2 n3)] b120.1))))
 (∃ (b131 : Blk),
 And (Heap.blk H'118 h = some b131)
 (cond (okAt b131.1 [1, Int.toNat (modR x2 n3)] (64 + Int.toNat (modR x2 n3) * 1) 256 false 1)
 (cond (AV.beq (projT [1, Int.toNat (modR x2 n3)] b131.1) (AV.int IntKind.i64 (AV.toInt (projT [1, Int.toNat (modR x2 n3)] b121.1))))
 (∃ (b132 : Blk),
 And (Heap.blk H'118 h = some b132)
 (cond (okAt b132.1 [2, Int.toNat (modR x2 n3)] (128 + Int.toNat (modR x2 n3) * 1) 256 false 1)
 (cond (AV.beq (projT [2, Int.toNat (modR x2 n3)] b132.1) (AV.int IntKind.i64 (AV.toInt (projT [2, Int.toNat (modR x2 n3)] b122.1))))
 (∃ (b133 : Blk),
 And (Heap.blk H'118 h = some b133)
 (cond (okAt b133.1 [3, Int.toNat (modR x2 n3)] (192 + Int.toNat (modR x2 n3) * 1) 256 false 1)
 (cond (AV.beq (projT [3, Int.toNat (modR x2 n3)] b133.1) (AV.int IntKind.i64 (AV.toInt (projT [3, Int.toNat (modR x2 n3)] b123.1))))
 (cond (!(↑(cntL pg128 ls127) : Int) == IntKind.wrap IntKind.i64 (IntKind.wrap IntKind.i64 (IntKind.wrap IntKind.i64 (AV.toInt (projT [0, Int.toNat (modR x2 n3)] b120.1) + AV.toInt (projT [1, Int.toNat (modR x2 n3)] b121.1)) + AV.toInt (projT [2, Int.toNat (modR x2 n3)] b122.1)) + AV.toInt (projT [3, Int.toNat (modR x2 n3)] b123.1)))
 (k (AV.bool false) H'118 true)
 (resPS (S F) TL N 9 fuel 4 1 n0 [] [true, true, true, true, true, false, true] m (St.mk [(0, AV.isl 3 (row encSt l)), (2, AV.bad), (3, AV.ptr (Pl.mk i 0 [] 1)), (4, AV.bad), (5, AV.ptr (Pl.mk h 0 [] 256)), (6, AV.ptr (Pl.mk g 0 [] 4)), (7, AV.int IntKind.i64 (IntKind.wrap IntKind.i64 (ix + 1))), (8, AV.bad), (9, AV.bad), (10, AV.bad), (11, AV.bad), (26, AV.bad), (39, AV.bad), (58, AV.bad), (71, AV.bad), (73, AV.bad), (97, AV.bad), (99, AV.bad), (145, AV.bad)] [] H'118 true) k))
 (False))
 (False)))
 (False))
 (False)))
 (False))
 (False)))
 (False))
 (False)))
 (False))
 (False)))))
 (False))
 (False)))
 (False))
 (False))
 (False))
 (False)))
 (False))
 (False))
 (False))
 (False)))
 (False))
 (False))
 (False))
 (False)))
 (False))
 (False)))
 ((OkS ls116 s117) →
 ∀ (k0134 : Nat),
 ∀ (H'135 : Heap),
 (List.length H'111 ≤ k0134) →
 (Heap.blk H'135 k0134 = some (Blk.mk (AV.arr 1 (row encZ (List.getD ls116 (Int.toNat s117) []))) true true)) →
 (Keep [] H'111 H'135) →
 cond (!(↑(List.length (List.getD ls116 (Int.toNat s117) [])) : Int) == AV.toInt (projT [Int.toNat (modR x0 n1)] b112.1))
 (∃ (b136 : Blk),
 And (Heap.blk H'135 g = some b136)
 (cond (okAt b136.1 [Int.toNat (modR x0 n1)] (0 + Int.toNat (modR x0 n1) * 1) 4 false 1)
 (cond (AV.beq (projT [Int.toNat (modR x0 n1)] b136.1) (AV.int IntKind.i64 (AV.toInt (projT [Int.toNat (modR x0 n1)] b112.1))))
 (k (AV.bool false) H'135 true)
 (False))
 (False)))
 (cond (decide (0 ≤ modR x2 n3))
 (cond (decide (Int.toNat (modR x2 n3) < 64))
 (∃ (b137 : Blk),
 And (Heap.blk H'135 h = some b137)
 (cond (okAt b137.1 [0, Int.toNat (modR x2 n3)] (0 + Int.toNat (modR x2 n3) * 1) 256 false 1)
 (cond (AV.isIntK (projT [0, Int.toNat (modR x2 n3)] b137.1) IntKind.i64)
 (cond (decide (0 ≤ modR x2 n3))
 (cond (decide (Int.toNat (modR x2 n3) < 64))
 (∃ (b138 : Blk),
 And (Heap.blk H'135 h = some b138)
 (cond (okAt b138.1 [1, Int.toNat (modR x2 n3)] (64 + Int.toNat (modR x2 n3) * 1) 256 false 1)
 (cond (AV.isIntK (projT [1, Int.toNat (modR x2 n3)] b138.1) IntKind.i64)
 (cond (decide (0 ≤ modR x2 n3))
 (cond (decide (Int.toNat (modR x2 n3) < 64))
 (∃ (b139 : Blk),
 And (Heap.blk H'135 h = some b139)
 (cond (okAt b139.1 [2, Int.toNat (modR x2 n3)] (128 + Int.toNat (modR x2 n3) * 1) 256 false 1)
 (cond (AV.isIntK (projT [2, Int.toNat (modR x2 n3)] b139.1) IntKind.i64)
 (cond (decide (0 ≤ modR x2 n3))
 (cond (decide (Int.toNat (modR x2 n3) < 64))
 (∃ (b140 : Blk),
 And (Heap.blk H'135 h = some b140)
 (cond (okAt b140.1 [3, Int.toNat (modR x2 n3)] (192 + Int.toNat (modR x2 n3) * 1) 256 false 1)
 (cond (AV.isIntK (projT [3, Int.toNat (modR x2 n3)] b140.1) IntKind.i64)
 (∃ (i141 : Nat),
 ∃ (j142 : Nat),
 ∃ (vs143 : List AV),
 ∃ (ls144 : List (List Int)),
 ∃ (pg145 : Int),
 And ([AV.ptr (Pl.mk i 0 [] 1), AV.int IntKind.i64 (modR x2 n3)] = [AV.ptr (Pl.mk i141 0 [] 1), AV.int IntKind.i64 pg145])
 (And (PinsR H'135 i141 j142 vs143 ls144)
 (∃ (b146 : Blk),
 And (Heap.blk H'135 g = some b146)
 (cond (okAt b146.1 [Int.toNat (modR x0 n1)] (0 + Int.toNat (modR x0 n1) * 1) 4 false 1)
 (cond (AV.beq (projT [Int.toNat (modR x0 n1)] b146.1) (AV.int IntKind.i64 (AV.toInt (projT [Int.toNat (modR x0 n1)] b112.1))))
 (∃ (b147 : Blk),
 And (Heap.blk H'135 h = some b147)
 (cond (okAt b147.1 [0, Int.toNat (modR x2 n3)] (0 + Int.toNat (modR x2 n3) * 1) 256 false 1)
 (cond (AV.beq (projT [0, Int.toNat (modR x2 n3)] b147.1) (AV.int IntKind.i64 (AV.toInt (projT [0, Int.toNat (modR x2 n3)] b137.1))))
 (∃ (b148 : Blk),
 And (Heap.blk H'135 h = some b148)
 (cond (okAt b148.1 [1, Int.toNat (modR x2 n3)] (64 + Int.toNat (modR x2 n3) * 1) 256 false 1)
 (cond (AV.beq (projT [1, Int.toNat (modR x2 n3)] b148.1) (AV.int IntKind.i64 (AV.toInt (projT [1, Int.toNat (modR x2 n3)] b138.1))))
 (∃ (b149 : Blk),
 And (Heap.blk H'135 h = some b149)
 (cond (okAt b149.1 [2, Int.toNat (modR x2 n3)] (128 + Int.toNat (modR x2 n3) * 1) 256 false 1)
 (cond (AV.beq (projT [2, Int.toNat (modR x2 n3)] b149.1) (AV.int IntKind.i64 (AV.toInt (projT [2, Int.toNat (modR x2 n3)] b139.1))))
 (∃ (b150 : Blk),
 And (Heap.blk H'135 h = some b150)
 (cond (okAt b150.1 [3, Int.toNat (modR x2 n3)] (192 + Int.toNat (modR x2 n3) * 1) 256 false 1)
 (cond (AV.beq (projT [3, Int.toNat (modR x2 n3)] b150.1) (AV.int IntKind.i64 (AV.toInt (projT [3, Int.toNat (modR x2 n3)] b140.1))))
 (cond (!(↑(cntL pg145 ls144) : Int) == IntKind.wrap IntKind.i64 (IntKind.wrap IntKind.i64 (IntKind.wrap IntKind.i64 (AV.toInt (projT [0, Int.toNat (modR x2 n3)] b137.1) + AV.toInt (projT [1, Int.toNat (modR x2 n3)] b138.1)) + AV.toInt (projT [2, Int.toNat (modR x2 n3)] b139.1)) + AV.toInt (projT [3, Int.toNat (modR x2 n3)] b140.1)))
 (k (AV.bool false) H'135 true)
 (resPS (S F) TL N 9 fuel 4 1 n0 [] [true, true, true, true, true, false, true] m (St.mk [(0, AV.isl 3 (row encSt l)), (2, AV.bad), (3, AV.ptr (Pl.mk i 0 [] 1)), (4, AV.bad), (5, AV.ptr (Pl.mk h 0 [] 256)), (6, AV.ptr (Pl.mk g 0 [] 4)), (7, AV.int IntKind.i64 (IntKind.wrap IntKind.i64 (ix + 1))), (8, AV.bad), (9, AV.bad), (10, AV.bad), (11, AV.bad), (26, AV.bad), (39, AV.bad), (58, AV.bad), (71, AV.bad), (73, AV.bad), (97, AV.bad), (99, AV.bad), (145, AV.bad)] [] H'135 true) k))
 (False))
 (False)))
 (False))
 (False)))
 (False))
 (False)))
 (False))
 (False)))
 (False))
 (False)))))
 (False))
 (False)))
 (False))
 (False))
 (False))
 (False)))
 (False))
 (False))
 (False))
 (False)))
 (False))
 (False))
 (False))
 (False)))
 (False))
 (False))))))
 (False))
 (False)))
 (False))
 (False))
 (False)))
 (False))
 (False))
 (False))
 (False)))
 (False))
 (False))
 (False)))
 (False))
 (False))
 (False))
 (False))
 (False))
 (False)))
 (False))
 (False))
 (False))
 (False))
 (cond (decide (0 ≤ modR x0 n1))
 (cond (decide (Int.toNat (modR x0 n1) < 4))
 (∃ (b151 : Blk),
 And (Heap.blk H'103 g = some b151)
 (cond (okAt b151.1 [Int.toNat (modR x0 n1)] (0 + Int.toNat (modR x0 n1) * 1) 4 false 1)
 (cond (AV.isIntK (projT [Int.toNat (modR x0 n1)] b151.1) IntKind.i64)
 (∃ (i152 : Nat),
 ∃ (j153 : Nat),
 ∃ (vs154 : List AV),
 ∃ (ls155 : List (List Int)),
 ∃ (s156 : Int),
 And ([AV.ptr (Pl.mk i 0 [] 1), AV.int IntKind.i64 (modR x0 n1)] = [AV.ptr (Pl.mk i152 0 [] 1), AV.int IntKind.i64 s156])
 (And (PinsR H'103 i152 j153 vs154 ls155)
 (And ((¬OkS ls155 s156 ∨ List.getD ls155 (Int.toNat s156) [] = []) →
 ∀ (H'157 : Heap),
 (Keep [] H'103 H'157) →
 cond (!(↑0 : Int) == AV.toInt (projT [Int.toNat (modR x0 n1)] b151.1))
 (∃ (b158 : Blk),
 And (Heap.blk H'157 g = some b158)
 (cond (okAt b158.1 [Int.toNat (modR x0 n1)] (0 + Int.toNat (modR x0 n1) * 1) 4 false 1)
 (cond (AV.beq (projT [Int.toNat (modR x0 n1)] b158.1) (AV.int IntKind.i64 (AV.toInt (projT [Int.toNat (modR x0 n1)] b151.1))))
 (k (AV.bool false) H'157 true)
 (False))
 (False)))
 (cond (decide (0 ≤ modR x2 n3))
 (cond (decide (Int.toNat (modR x2 n3) < 64))
 (∃ (b159 : Blk),
 And (Heap.blk H'157 h = some b159)
 (cond (okAt b159.1 [0, Int.toNat (modR x2 n3)] (0 + Int.toNat (modR x2 n3) * 1) 256 false 1)
 (cond (AV.isIntK (projT [0, Int.toNat (modR x2 n3)] b159.1) IntKind.i64)
 (cond (decide (0 ≤ modR x2 n3))
 (cond (decide (Int.toNat (modR x2 n3) < 64))
 (∃ (b160 : Blk),
 And (Heap.blk H'157 h = some b160)
 (cond (okAt b160.1 [1, Int.toNat (modR x2 n3)] (64 + Int.toNat (modR x2 n3) * 1) 256 false 1)
 (cond (AV.isIntK (projT [1, Int.toNat (modR x2 n3)] b160.1) IntKind.i64)
 (cond (decide (0 ≤ modR x2 n3))
 (cond (decide (Int.toNat (modR x2 n3) < 64))
 (∃ (b161 : Blk),
 And (Heap.blk H'157 h = some b161)
 (cond (okAt b161.1 [2, Int.toNat (modR x2 n3)] (128 + Int.toNat (modR x2 n3) * 1) 256 false 1)
 (cond (AV.isIntK (projT [2, Int.toNat (modR x2 n3)] b161.1) IntKind.i64)
 (cond (decide (0 ≤ modR x2 n3))
 (cond (decide (Int.toNat (modR x2 n3) < 64))
 (∃ (b162 : Blk),
 And (Heap.blk H'157 h = some b162)
 (cond (okAt b162.1 [3, Int.toNat (modR x2 n3)] (192 + Int.toNat (modR x2 n3) * 1) 256 false 1)
 (cond (AV.isIntK (projT [3, Int.toNat (modR x2 n3)] b162.1) IntKind.i64)
 (∃ (i163 : Nat),
 ∃ (j164 : Nat),
 ∃ (vs165 : List AV),
 ∃ (ls166 : List (List Int)),
 ∃ (pg167 : Int),
 And ([AV.ptr (Pl.mk i 0 [] 1), AV.int IntKind.i64 (modR x2 n3)] = [AV.ptr (Pl.mk i163 0 [] 1), AV.int IntKind.i64 pg167])
 (And (PinsR H'157 i163 j164 vs165 ls166)
 (∃ (b168 : Blk),
 And (Heap.blk H'157 g = some b168)
 (cond (okAt b168.1 [Int.toNat (modR x0 n1)] (0 + Int.toNat (modR x0 n1) * 1) 4 false 1)
 (cond (AV.beq (projT [Int.toNat (modR x0 n1)] b168.1) (AV.int IntKind.i64 (AV.toInt (projT [Int.toNat (modR x0 n1)] b151.1))))
 (∃ (b169 : Blk),
 And (Heap.blk H'157 h = some b169)
 (cond (okAt b169.1 [0, Int.toNat (modR x2 n3)] (0 + Int.toNat (modR x2 n3) * 1) 256 false 1)
 (cond (AV.beq (projT [0, Int.toNat (modR x2 n3)] b169.1) (AV.int IntKind.i64 (AV.toInt (projT [0, Int.toNat (modR x2 n3)] b159.1))))
 (∃ (b170 : Blk),
 And (Heap.blk H'157 h = some b170)
 (cond (okAt b170.1 [1, Int.toNat (modR x2 n3)] (64 + Int.toNat (modR x2 n3) * 1) 256 false 1)
 (cond (AV.beq (projT [1, Int.toNat (modR x2 n3)] b170.1) (AV.int IntKind.i64 (AV.toInt (projT [1, Int.toNat (modR x2 n3)] b160.1))))
 (∃ (b171 : Blk),
 And (Heap.blk H'157 h = some b171)
 (cond (okAt b171.1 [2, Int.toNat (modR x2 n3)] (128 + Int.toNat (modR x2 n3) * 1) 256 false 1)
 (cond (AV.beq (projT [2, Int.toNat (modR x2 n3)] b171.1) (AV.int IntKind.i64 (AV.toInt (projT [2, Int.toNat (modR x2 n3)] b161.1))))
 (∃ (b172 : Blk),
 And (Heap.blk H'157 h = some b172)
 (cond (okAt b172.1 [3, Int.toNat (modR x2 n3)] (192 + Int.toNat (modR x2 n3) * 1) 256 false 1)
 (cond (AV.beq (projT [3, Int.toNat (modR x2 n3)] b172.1) (AV.int IntKind.i64 (AV.toInt (projT [3, Int.toNat (modR x2 n3)] b162.1))))
 (cond (!(↑(cntL pg167 ls166) : Int) == IntKind.wrap IntKind.i64 (IntKind.wrap IntKind.i64 (IntKind.wrap IntKind.i64 (AV.toInt (projT [0, Int.toNat (modR x2 n3)] b159.1) + AV.toInt (projT [1, Int.toNat (modR x2 n3)] b160.1)) + AV.toInt (projT [2, Int.toNat (modR x2 n3)] b161.1)) + AV.toInt (projT [3, Int.toNat (modR x2 n3)] b162.1)))
 (k (AV.bool false) H'157 true)
 (resPS (S F) TL N 9 fuel 4 1 n0 [] [true, true, true, true, true, false, true] m (St.mk [(0, AV.isl 3 (row encSt l)), (2, AV.bad), (3, AV.ptr (Pl.mk i 0 [] 1)), (4, AV.bad), (5, AV.ptr (Pl.mk h 0 [] 256)), (6, AV.ptr (Pl.mk g 0 [] 4)), (7, AV.int IntKind.i64 (IntKind.wrap IntKind.i64 (ix + 1))), (8, AV.bad), (9, AV.bad), (10, AV.bad), (11, AV.bad), (26, AV.bad), (39, AV.bad), (58, AV.bad), (71, AV.bad), (73, AV.bad), (97, AV.bad), (99, AV.bad), (145, AV.bad)] [] H'157 true) k))
 (False))
 (False)))
 (False))
 (False)))
 (False))
 (False)))
 (False))
 (False)))
 (False))
 (False)))))
 (False))
 (False)))
 (False))
 (False))
 (False))
 (False)))
 (False))
 (False))
 (False))
 (False)))
 (False))
 (False))
 (False))
 (False)))
 (False))
 (False)))
 ((OkS ls155 s156) →
 ∀ (k0173 : Nat),
 ∀ (H'174 : Heap),
 (List.length H'103 ≤ k0173) →
 (Heap.blk H'174 k0173 = some (Blk.mk (AV.arr 1 (row encZ (List.getD ls155 (Int.toNat s156) []))) true true)) →
 (Keep [] H'103 H'174) →
 cond (!(↑(List.length (List.getD ls155 (Int.toNat s156) [])) : Int) == AV.toInt (projT [Int.toNat (modR x0 n1)] b151.1))
 (∃ (b175 : Blk),
 And (Heap.blk H'174 g = some b175)
 (cond (okAt b175.1 [Int.toNat (modR x0 n1)] (0 + Int.toNat (modR x0 n1) * 1) 4 false 1)
 (cond (AV.beq (projT [Int.toNat (modR x0 n1)] b175.1) (AV.int IntKind.i64 (AV.toInt (projT [Int.toNat (modR x0 n1)] b151.1))))
 (k (AV.bool false) H'174 true)
 (False))
 (False)))
 (cond (decide (0 ≤ modR x2 n3))
 (cond (decide (Int.toNat (modR x2 n3) < 64))
 (∃ (b176 : Blk),
 And (Heap.blk H'174 h = some b176)
 (cond (okAt b176.1 [0, Int.toNat (modR x2 n3)] (0 + Int.toNat (modR x2 n3) * 1) 256 false 1)
 (cond (AV.isIntK (projT [0, Int.toNat (modR x2 n3)] b176.1) IntKind.i64)
 (cond (decide (0 ≤ modR x2 n3))
 (cond (decide (Int.toNat (modR x2 n3) < 64))
 (∃ (b177 : Blk),
 And (Heap.blk H'174 h = some b177)
 (cond (okAt b177.1 [1, Int.toNat (modR x2 n3)] (64 + Int.toNat (modR x2 n3) * 1) 256 false 1)
 (cond (AV.isIntK (projT [1, Int.toNat (modR x2 n3)] b177.1) IntKind.i64)
 (cond (decide (0 ≤ modR x2 n3))
 (cond (decide (Int.toNat (modR x2 n3) < 64))
 (∃ (b178 : Blk),
 And (Heap.blk H'174 h = some b178)
 (cond (okAt b178.1 [2, Int.toNat (modR x2 n3)] (128 + Int.toNat (modR x2 n3) * 1) 256 false 1)
 (cond (AV.isIntK (projT [2, Int.toNat (modR x2 n3)] b178.1) IntKind.i64)
 (cond (decide (0 ≤ modR x2 n3))
 (cond (decide (Int.toNat (modR x2 n3) < 64))
 (∃ (b179 : Blk),
 And (Heap.blk H'174 h = some b179)
 (cond (okAt b179.1 [3, Int.toNat (modR x2 n3)] (192 + Int.toNat (modR x2 n3) * 1) 256 false 1)
 (cond (AV.isIntK (projT [3, Int.toNat (modR x2 n3)] b179.1) IntKind.i64)
 (∃ (i180 : Nat),
 ∃ (j181 : Nat),
 ∃ (vs182 : List AV),
 ∃ (ls183 : List (List Int)),
 ∃ (pg184 : Int),
 And ([AV.ptr (Pl.mk i 0 [] 1), AV.int IntKind.i64 (modR x2 n3)] = [AV.ptr (Pl.mk i180 0 [] 1), AV.int IntKind.i64 pg184])
 (And (PinsR H'174 i180 j181 vs182 ls183)
 (∃ (b185 : Blk),
 And (Heap.blk H'174 g = some b185)
 (cond (okAt b185.1 [Int.toNat (modR x0 n1)] (0 + Int.toNat (modR x0 n1) * 1) 4 false 1)
 (cond (AV.beq (projT [Int.toNat (modR x0 n1)] b185.1) (AV.int IntKind.i64 (AV.toInt (projT [Int.toNat (modR x0 n1)] b151.1))))
 (∃ (b186 : Blk),
 And (Heap.blk H'174 h = some b186)
 (cond (okAt b186.1 [0, Int.toNat (modR x2 n3)] (0 + Int.toNat (modR x2 n3) * 1) 256 false 1)
 (cond (AV.beq (projT [0, Int.toNat (modR x2 n3)] b186.1) (AV.int IntKind.i64 (AV.toInt (projT [0, Int.toNat (modR x2 n3)] b176.1))))
 (∃ (b187 : Blk),
 And (Heap.blk H'174 h = some b187)
 (cond (okAt b187.1 [1, Int.toNat (modR x2 n3)] (64 + Int.toNat (modR x2 n3) * 1) 256 false 1)
 (cond (AV.beq (projT [1, Int.toNat (modR x2 n3)] b187.1) (AV.int IntKind.i64 (AV.toInt (projT [1, Int.toNat (modR x2 n3)] b177.1))))
 (∃ (b188 : Blk),
 And (Heap.blk H'174 h = some b188)
 (cond (okAt b188.1 [2, Int.toNat (modR x2 n3)] (128 + Int.toNat (modR x2 n3) * 1) 256 false 1)
 (cond (AV.beq (projT [2, Int.toNat (modR x2 n3)] b188.1) (AV.int IntKind.i64 (AV.toInt (projT [2, Int.toNat (modR x2 n3)] b178.1))))
 (∃ (b189 : Blk),
 And (Heap.blk H'174 h = some b189)
 (cond (okAt b189.1 [3, Int.toNat (modR x2 n3)] (192 + Int.toNat (modR x2 n3) * 1) 256 false 1)
 (cond (AV.beq (projT [3, Int.toNat (modR x2 n3)] b189.1) (AV.int IntKind.i64 (AV.toInt (projT [3, Int.toNat (modR x2 n3)] b179.1))))
 (cond (!(↑(cntL pg184 ls183) : Int) == IntKind.wrap IntKind.i64 (IntKind.wrap IntKind.i64 (IntKind.wrap IntKind.i64 (AV.toInt (projT [0, Int.toNat (modR x2 n3)] b176.1) + AV.toInt (projT [1, Int.toNat (modR x2 n3)] b177.1)) + AV.toInt (projT [2, Int.toNat (modR x2 n3)] b178.1)) + AV.toInt (projT [3, Int.toNat (modR x2 n3)] b179.1)))
 (k (AV.bool false) H'174 true)
 (resPS (S F) TL N 9 fuel 4 1 n0 [] [true, true, true, true, true, false, true] m (St.mk [(0, AV.isl 3 (row encSt l)), (2, AV.bad), (3, AV.ptr (Pl.mk i 0 [] 1)), (4, AV.bad), (5, AV.ptr (Pl.mk h 0 [] 256)), (6, AV.ptr (Pl.mk g 0 [] 4)), (7, AV.int IntKind.i64 (IntKind.wrap IntKind.i64 (ix + 1))), (8, AV.bad), (9, AV.bad), (10, AV.bad), (11, AV.bad), (26, AV.bad), (39, AV.bad), (58, AV.bad), (71, AV.bad), (73, AV.bad), (97, AV.bad), (99, AV.bad), (145, AV.bad)] [] H'174 true) k))
 (False))
 (False)))
 (False))
 (False)))
 (False))
 (False)))
 (False))
 (False)))
 (False))
 (False)))))
 (False))
 (False)))
 (False))
 (False))
 (False))
 (False)))
 (False))
 (False))
 (False))
 (False)))
 (False))
 (False))
 (False))
 (False)))
 (False))
 (False))))))
 (False))
 (False)))
 (False))
 (False))))
 (False))
 (False)))
 (False))
 (False)))))
 (False))
 (False))
 (False))
 (False))
 (False))
 (False))))))))
 (False))
 (False))
 (False))
 (False))
 (False))
 (False))
 (False))
 (False))
 (False))
 (False))
 (And (([] : List AV) = [])
 (k (AV.bool true) H true))) : Prop) := by kernel_rfl
theorem start4n (N fuel : Nat) (k : AV → Heap → Bool → Prop) :
 (runP (S F) TL N 9 fuel 4 [.nils] [] k) =
 ((∃ (n0 : Int),
 And ([AV.int IntKind.i64 4] = [AV.int IntKind.i64 n0])
 (And ((¬(1 ≤ n0 ∧ n0 ≤ 4)) →
 k (AV.bool false) [] true)
 ((1 ≤ n0) →
 (n0 ≤ 4) →
 ∀ (i1 : Nat),
 ∀ (j2 : Nat),
 ∀ (vs3 : List AV),
 ∀ (H'4 : Heap),
 (PinsR H'4 i1 j2 vs3 (List.replicate (Int.toNat n0) [])) →
 (Keep [] [] H'4) →
 (Fresh [] (i1 :: j2 :: refsL vs3)) →
 resPS (S F) TL N 9 fuel 4 1 0 [] [true, true, true, true, true, false, true] fuel (St.mk [(0, AV.nils), (2, AV.bad), (3, AV.ptr (Pl.mk i1 0 [] 1)), (4, AV.bad), (5, AV.ptr (Pl.mk (List.length H'4) 0 [] 256)), (6, AV.ptr (Pl.mk (List.length (H'4 ++ [some (Blk.mk (AV.arr 64 [AV.arr 1 (encL IntKind.i64 64 fun (_i : Nat) => 0), AV.arr 1 (encL IntKind.i64 64 fun (_i : Nat) => 0), AV.arr 1 (encL IntKind.i64 64 fun (_i : Nat) => 0), AV.arr 1 (encL IntKind.i64 64 fun (_i : Nat) => 0)]) false true)])) 0 [] 4)), (7, AV.int IntKind.i64 0), (8, AV.bad), (9, AV.bad), (10, AV.bad), (11, AV.bad), (26, AV.bad), (39, AV.bad), (58, AV.bad), (71, AV.bad), (73, AV.bad), (97, AV.bad), (99, AV.bad), (145, AV.bad)] [] (H'4 ++ [some (Blk.mk (AV.arr 64 [AV.arr 1 (encL IntKind.i64 64 fun (_i : Nat) => 0), AV.arr 1 (encL IntKind.i64 64 fun (_i : Nat) => 0), AV.arr 1 (encL IntKind.i64 64 fun (_i : Nat) => 0), AV.arr 1 (encL IntKind.i64 64 fun (_i : Nat) => 0)]) false true)] ++ [some (Blk.mk (AV.arr 1 [AV.int IntKind.i64 0, AV.int IntKind.i64 0, AV.int IntKind.i64 0, AV.int IntKind.i64 0]) false true)]) true) k))) : Prop) := by kernel_rfl
theorem step4n (N fuel m n0 : Nat) (i h g : Nat) (H : Heap) (k : AV → Heap → Bool → Prop) :
 (resPS (S F) TL N 9 fuel 4 1 n0 [] [true, true, true, true, true, false, true] (m + 1) ⟨L4 .nils i h g 0, [], H, true⟩ k) =
 ((And (([] : List AV) = [])
 (k (AV.bool true) H true)) : Prop) := by kernel_rfl
end Go.Proofs.Ytclmndonaljppaa
