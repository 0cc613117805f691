/- Pins: a law's trees.
-/
import Derived.Test.YtclmndonaljppaaKai
import Derived.Test.YtclmndonaljppaaChecked

namespace Go.Proofs.Ytclmndonaljppaa
open Go Go.X
variable {F : Nat}
abbrev L3 (a p q : AV) (ix : Int) : List (Nat × AV) := [(0, .bad), (1, a), (4, .bad), (5, p), (6, .bad), (7, q), (8, .bad), (9, .int .i64 ix), (10, .bad), (13, .bad), (34, .bad), (42, .bad), (50, .bad), (63, .bad), (76, .bad), (97, .bad)]
theorem start3 (N fuel : Nat) (l : List Stp) (n : Int) (k : AV → Heap → Bool → Prop) :
 (runP (S F) TL N 9 fuel 3 [.int .i64 n, .isl 3 (row encSt l)] [] k) =
 ((cond (decide ((↑(List.length (row encSt l)) : Int) > 200))
 (And (([] : List AV) = [])
 (k (AV.bool true) [] true))
 (∃ (n0 : Int),
 And ([AV.int IntKind.i64 n] = [AV.int IntKind.i64 n0])
 (And ((¬(1 ≤ n0 ∧ n0 ≤ 4)) →
 ∃ (n1 : Int),
 And ([AV.int IntKind.i64 n] = [AV.int IntKind.i64 n1])
 (And ((¬(1 ≤ n1 ∧ n1 ≤ 4)) →
 resPS (S F) TL N 9 fuel 3 2 0 [] [true, true, true, true, true, false, true] fuel (St.mk [(0, AV.bad), (1, AV.isl 3 (row encSt l)), (4, AV.bad), (5, AV.nilp), (6, AV.bad), (7, AV.nilp), (8, AV.bad), (9, AV.int IntKind.i64 0), (10, AV.bad), (13, AV.bad), (34, AV.bad), (42, AV.bad), (50, AV.bad), (63, AV.bad), (76, AV.bad), (97, AV.bad)] [] [] true) k)
 ((1 ≤ n1) →
 (n1 ≤ 4) →
 ∀ (i2 : Nat),
 ∀ (j3 : Nat),
 ∀ (H'4 : Heap),
 (RefR H'4 i2 j3 (List.replicate (Int.toNat n1) (Ar.zero 64))) →
 (Keep [] [] H'4) →
 (0 ≤ i2) →
 (0 ≤ j3) →
 k (AV.bool false) H'4 true)))
 ((1 ≤ n0) →
 (n0 ≤ 4) →
 ∀ (i5 : Nat),
 ∀ (j6 : Nat),
 ∀ (vs7 : List AV),
 ∀ (H'8 : Heap),
 (PinsR H'8 i5 j6 vs7 (List.replicate (Int.toNat n0) [])) →
 (Keep [] [] H'8) →
 (Fresh [] (i5 :: j6 :: refsL vs7)) →
 ∃ (n9 : Int),
 And ([AV.int IntKind.i64 n] = [AV.int IntKind.i64 n9])
 (And ((¬(1 ≤ n9 ∧ n9 ≤ 4)) →
 k (AV.bool false) H'8 true)
 ((1 ≤ n9) →
 (n9 ≤ 4) →
 ∀ (i10 : Nat),
 ∀ (j11 : Nat),
 ∀ (H'12 : Heap),
 (RefR H'12 i10 j11 (List.replicate (Int.toNat n9) (Ar.zero 64))) →
 (Keep [] H'8 H'12) →
 (List.length H'8 ≤ i10) →
 (List.length H'8 ≤ j11) →
 resPS (S F) TL N 9 fuel 3 2 0 [] [true, true, true, true, true, false, true] fuel (St.mk [(0, AV.bad), (1, AV.isl 3 (row encSt l)), (4, AV.bad), (5, AV.ptr (Pl.mk i5 0 [] 1)), (6, AV.bad), (7, AV.ptr (Pl.mk i10 0 [] 1)), (8, AV.bad), (9, AV.int IntKind.i64 0), (10, AV.bad), (13, AV.bad), (34, AV.bad), (42, AV.bad), (50, AV.bad), (63, AV.bad), (76, AV.bad), (97, AV.bad)] [] H'12 true) k)))))) : Prop) := by kernel_rfl
theorem start3n (N fuel : Nat) (n : Int) (k : AV → Heap → Bool → Prop) :
 (runP (S F) TL N 9 fuel 3 [.int .i64 n, .nils] [] k) =
 ((∃ (n0 : Int),
 And ([AV.int IntKind.i64 n] = [AV.int IntKind.i64 n0])
 (And ((¬(1 ≤ n0 ∧ n0 ≤ 4)) →
 ∃ (n1 : Int),
 And ([AV.int IntKind.i64 n] = [AV.int IntKind.i64 n1])
 (And ((¬(1 ≤ n1 ∧ n1 ≤ 4)) →
 resPS (S F) TL N 9 fuel 3 2 0 [] [true, true, true, true, true, false, true] fuel (St.mk [(0, AV.bad), (1, AV.nils), (4, AV.bad), (5, AV.nilp), (6, AV.bad), (7, AV.nilp), (8, AV.bad), (9, AV.int IntKind.i64 0), (10, AV.bad), (13, AV.bad), (34, AV.bad), (42, AV.bad), (50, AV.bad), (63, AV.bad), (76, AV.bad), (97, AV.bad)] [] [] true) k)
 ((1 ≤ n1) →
 (n1 ≤ 4) →
 ∀ (i2 : Nat),
 ∀ (j3 : Nat),
 ∀ (H'4 : Heap),
 (RefR H'4 i2 j3 (List.replicate (Int.toNat n1) (Ar.zero 64))) →
 (Keep [] [] H'4) →
 (0 ≤ i2) →
 (0 ≤ j3) →
 k (AV.bool false) H'4 true)))
 ((1 ≤ n0) →
 (n0 ≤ 4) →
 ∀ (i5 : Nat),
 ∀ (j6 : Nat),
 ∀ (vs7 : List AV),
 ∀ (H'8 : Heap),
 (PinsR H'8 i5 j6 vs7 (List.replicate (Int.toNat n0) [])) →
 (Keep [] [] H'8) →
 (Fresh [] (i5 :: j6 :: refsL vs7)) →
 ∃ (n9 : Int),
 And ([AV.int IntKind.i64 n] = [AV.int IntKind.i64 n9])
 (And ((¬(1 ≤ n9 ∧ n9 ≤ 4)) →
 k (AV.bool false) H'8 true)
 ((1 ≤ n9) →
 (n9 ≤ 4) →
 ∀ (i10 : Nat),
 ∀ (j11 : Nat),
 ∀ (H'12 : Heap),
 (RefR H'12 i10 j11 (List.replicate (Int.toNat n9) (Ar.zero 64))) →
 (Keep [] H'8 H'12) →
 (List.length H'8 ≤ i10) →
 (List.length H'8 ≤ j11) →
 resPS (S F) TL N 9 fuel 3 2 0 [] [true, true, true, true, true, false, true] fuel (St.mk [(0, AV.bad), (1, AV.nils), (4, AV.bad), (5, AV.ptr (Pl.mk i5 0 [] 1)), (6, AV.bad), (7, AV.ptr (Pl.mk i10 0 [] 1)), (8, AV.bad), (9, AV.int IntKind.i64 0), (10, AV.bad), (13, AV.bad), (34, AV.bad), (42, AV.bad), (50, AV.bad), (63, AV.bad), (76, AV.bad), (97, AV.bad)] [] H'12 true) k))))) : Prop) := by kernel_rfl
theorem step3 (N fuel m n0 : Nat) (l : List Stp) (i j : Nat) (H : Heap) (ix : Int) (k : AV → Heap → Bool → Prop) :
 (resPS (S F) TL N 9 fuel 3 2 n0 [] [true, true, true, true, true, false, true] (m + 1) ⟨L3 (.isl 3 (row encSt l)) (.ptr ⟨i, 0, [], 1⟩) (.ptr ⟨j, 0, [], 1⟩) ix, [], H, true⟩ k) =
 ((cond (decide (ix < (↑(List.length (row encSt l)) : Int)))
 (cond (decide (0 ≤ ix))
 (cond (AV.isAggN (Option.getD (row encSt l)[Int.toNat ix]? AV.bad) 3 3)
 (cond (AV.isBoolV (AV.part (Option.getD (row encSt l)[Int.toNat ix]? AV.bad) 0))
 (cond (AV.isIntK (AV.part (Option.getD (row encSt l)[Int.toNat ix]? AV.bad) 1) IntKind.i64)
 (cond (AV.isIntK (AV.part (Option.getD (row encSt l)[Int.toNat ix]? AV.bad) 2) IntKind.i64)
 (∃ (b0 : Blk),
 And (Heap.blk (H ++ [some (Blk.mk (AV.agg 3 [AV.bool false, AV.int IntKind.i64 0, AV.int IntKind.i64 0]) false true)]) (List.length H) = some b0)
 (cond (okPl b0.1 [] 0 3 3)
 (∀ (H'1 : Heap),
 (H'1 = List.set (H ++ [some (Blk.mk (AV.agg 3 [AV.bool false, AV.int IntKind.i64 0, AV.int IntKind.i64 0]) false true)]) (List.length H) (some (Blk.mk (AV.agg 3 [AV.bool (AV.toBool (AV.part (Option.getD (row encSt l)[Int.toNat ix]? AV.bad) 0)), AV.int IntKind.i64 (AV.toInt (AV.part (Option.getD (row encSt l)[Int.toNat ix]? AV.bad) 1)), AV.int IntKind.i64 (AV.toInt (AV.part (Option.getD (row encSt l)[Int.toNat ix]? AV.bad) 2))]) b0.2 b0.3))) →
 ∃ (b2 : Blk),
 And (Heap.blk H'1 (List.length H) = some b2)
 (cond (okAt b2.1 [0] 0 3 false 1)
 (cond (AV.isBoolV (projT [0] b2.1))
 (cond (AV.toBool (projT [0] b2.1))
 (∃ (b3 : Blk),
 And (Heap.blk H'1 (List.length H) = some b3)
 (cond (okAt b3.1 [1] 1 3 false 1)
 (cond (AV.isIntK (projT [1] b3.1) IntKind.i64)
 (∃ (b4 : Blk),
 And (Heap.blk H'1 (List.length H) = some b4)
 (cond (okAt b4.1 [2] 2 3 false 1)
 (cond (AV.isIntK (projT [2] b4.1) IntKind.i64)
 (∃ (b5 : Blk),
 And (Heap.blk H'1 (List.length H) = some b5)
 (cond (okAt b5.1 [1] 1 3 false 1)
 (cond (AV.isIntK (projT [1] b5.1) IntKind.i64)
 (∃ (b6 : Blk),
 And (Heap.blk H'1 (List.length H) = some b6)
 (cond (okAt b6.1 [2] 2 3 false 1)
 (cond (AV.isIntK (projT [2] b6.1) IntKind.i64)
 (∃ (i7 : Nat),
 ∃ (j8 : Nat),
 ∃ (vs9 : List AV),
 ∃ (ls10 : List (List Int)),
 ∃ (s11 : Int),
 ∃ (pg12 : Int),
 And ([AV.ptr (Pl.mk i 0 [] 1), AV.int IntKind.i64 (AV.toInt (projT [1] b3.1)), AV.int IntKind.i64 (AV.toInt (projT [2] b4.1))] = [AV.ptr (Pl.mk i7 0 [] 1), AV.int IntKind.i64 s11, AV.int IntKind.i64 pg12])
 (And (PinsR H'1 i7 j8 vs9 ls10)
 (∀ (H'13 : Heap),
 ∀ (vs'14 : List AV),
 (PinsR H'13 i7 j8 vs'14 (dropS ls10 s11 pg12)) →
 (Nxt H'1 i7 j8 vs9 H'13 vs'14) →
 ∃ (i15 : Nat),
 ∃ (j16 : Nat),
 ∃ (ns17 : List (Ar 64)),
 ∃ (s18 : Int),
 ∃ (pg19 : Int),
 And ([AV.ptr (Pl.mk j 0 [] 1), AV.int IntKind.i64 (AV.toInt (projT [1] b5.1)), AV.int IntKind.i64 (AV.toInt (projT [2] b6.1))] = [AV.ptr (Pl.mk i15 0 [] 1), AV.int IntKind.i64 s18, AV.int IntKind.i64 pg19])
 (And (RefR H'13 i15 j16 ns17)
 (And (SmallN ns17)
 (∀ (H'20 : Heap),
 (RefR H'20 i15 j16 (rdropS ns17 s18 pg19)) →
 (Keep [i15, j16] H'13 H'20) →
 ∃ (b21 : Blk),
 And (Heap.blk H'13 (List.length H) = some b21)
 (cond (okAt b21.1 [1] 1 3 false 1)
 (cond (AV.beq (projT [1] b21.1) (AV.int IntKind.i64 (AV.toInt (projT [1] b5.1))))
 (∃ (b22 : Blk),
 And (Heap.blk H'13 (List.length H) = some b22)
 (cond (okAt b22.1 [2] 2 3 false 1)
 (cond (AV.beq (projT [2] b22.1) (AV.int IntKind.i64 (AV.toInt (projT [2] b6.1))))
 (cond (!dropErr ls10 s11 pg12 == rdropErr ns17 s18 pg19)
 (k (AV.bool false) H'20 true)
 (∃ (b23 : Blk),
 And (Heap.blk H'20 (List.length H) = some b23)
 (cond (okAt b23.1 [1] 1 3 false 1)
 (cond (AV.isIntK (projT [1] b23.1) IntKind.i64)
 (∃ (b24 : Blk),
 And (Heap.blk H'20 (List.length H) = some b24)
 (cond (okAt b24.1 [1] 1 3 false 1)
 (cond (AV.isIntK (projT [1] b24.1) IntKind.i64)
 (∃ (i25 : Nat),
 ∃ (j26 : Nat),
 ∃ (vs27 : List AV),
 ∃ (ls28 : List (List Int)),
 ∃ (s29 : Int),
 And ([AV.ptr (Pl.mk i 0 [] 1), AV.int IntKind.i64 (AV.toInt (projT [1] b23.1))] = [AV.ptr (Pl.mk i25 0 [] 1), AV.int IntKind.i64 s29])
 (And (PinsR H'20 i25 j26 vs27 ls28)
 (And ((¬OkS ls28 s29 ∨ List.getD ls28 (Int.toNat s29) [] = []) →
 ∀ (H'30 : Heap),
 (Keep [] H'20 H'30) →
 ∃ (i31 : Nat),
 ∃ (j32 : Nat),
 ∃ (ns33 : List (Ar 64)),
 ∃ (s34 : Int),
 And ([AV.ptr (Pl.mk j 0 [] 1), AV.int IntKind.i64 (AV.toInt (projT [1] b24.1))] = [AV.ptr (Pl.mk i31 0 [] 1), AV.int IntKind.i64 s34])
 (And (RefR H'30 i31 j32 ns33)
 (And (SmallN ns33)
 (And ((¬OkR ns33 s34 ∨ expand (List.getD ns33 (Int.toNat s34) (Ar.zero 64)) = []) →
 ∀ (H'35 : Heap),
 (Keep [] H'30 H'35) →
 ∃ (v36 : AV),
 ∃ (w37 : AV),
 ∃ (l38 : List Int),
 ∃ (m39 : List Int),
 And ([AV.nils, AV.nils] = [v36, w37])
 (And (Slot H'35 v36 l38)
 (And (Slot H'35 w37 m39)
 (And (List.length l38 ≤ 1000)
 (cond (!decide (l38 = m39))
 (∃ (b40 : Blk),
 And (Heap.blk H'30 (List.length H) = some b40)
 (cond (okAt b40.1 [1] 1 3 false 1)
 (cond (AV.beq (projT [1] b40.1) (AV.int IntKind.i64 (AV.toInt (projT [1] b24.1))))
 (k (AV.bool false) H'35 true)
 (False))
 (False)))
 (∃ (b41 : Blk),
 And (Heap.blk H'35 (List.length H) = some b41)
 (cond (okAt b41.1 [2] 2 3 false 1)
 (cond (AV.isIntK (projT [2] b41.1) IntKind.i64)
 (∃ (b42 : Blk),
 And (Heap.blk H'35 (List.length H) = some b42)
 (cond (okAt b42.1 [2] 2 3 false 1)
 (cond (AV.isIntK (projT [2] b42.1) IntKind.i64)
 (∃ (i43 : Nat),
 ∃ (j44 : Nat),
 ∃ (vs45 : List AV),
 ∃ (ls46 : List (List Int)),
 ∃ (pg47 : Int),
 And ([AV.ptr (Pl.mk i 0 [] 1), AV.int IntKind.i64 (AV.toInt (projT [2] b41.1))] = [AV.ptr (Pl.mk i43 0 [] 1), AV.int IntKind.i64 pg47])
 (And (PinsR H'35 i43 j44 vs45 ls46)
 (∃ (i48 : Nat),
 ∃ (j49 : Nat),
 ∃ (ns50 : List (Ar 64)),
 ∃ (pg51 : Int),
 And ([AV.ptr (Pl.mk j 0 [] 1), AV.int IntKind.i64 (AV.toInt (projT [2] b42.1))] = [AV.ptr (Pl.mk i48 0 [] 1), AV.int IntKind.i64 pg51])
 (And (RefR H'35 i48 j49 ns50)
 (And (SmallN ns50)
 (∃ (b52 : Blk),
 And (Heap.blk H'30 (List.length H) = some b52)
 (cond (okAt b52.1 [1] 1 3 false 1)
 (cond (AV.beq (projT [1] b52.1) (AV.int IntKind.i64 (AV.toInt (projT [1] b24.1))))
 (∃ (b53 : Blk),
 And (Heap.blk H'35 (List.length H) = some b53)
 (cond (okAt b53.1 [2] 2 3 false 1)
 (cond (AV.beq (projT [2] b53.1) (AV.int IntKind.i64 (AV.toInt (projT [2] b42.1))))
 (cond (!(↑(cntL pg47 ls46) : Int) == rcnt ns50 pg51)
 (k (AV.bool false) H'35 true)
 (resPS (S F) TL N 9 fuel 3 2 n0 [] [true, true, true, true, true, false, true] m (St.mk [(0, AV.bad), (1, AV.isl 3 (row encSt l)), (4, AV.bad), (5, AV.ptr (Pl.mk i 0 [] 1)), (6, AV.bad), (7, AV.ptr (Pl.mk j 0 [] 1)), (8, AV.bad), (9, AV.int IntKind.i64 (IntKind.wrap IntKind.i64 (ix + 1))), (10, AV.bad), (13, AV.bad), (34, AV.bad), (42, AV.bad), (50, AV.bad), (63, AV.bad), (76, AV.bad), (97, AV.bad)] [] H'35 true) k))
 (False))
 (False)))
 (False))
 (False))))))))
 (False))
 (False)))
 (False))
 (False))))))))
 ((OkR ns33 s34) →
 ∀ (k054 : Nat),
 ∀ (H'55 : Heap),
 (List.length H'30 ≤ k054) →
 (Heap.blk H'55 k054 = some (Blk.mk (AV.arr 1 (row encZ (expand (List.getD ns33 (Int.toNat s34) (Ar.zero 64))))) true true)) →
 (Keep [] H'30 H'55) →
 ∃ (v56 : AV),
 ∃ (w57 : AV),
 ∃ (l58 : List Int),
 ∃ (m59 : List Int),
 And ([AV.nils, AV.sl (Pl.mk k054 0 [] (List.length (expand (List.getD ns33 (Int.toNat s34) (Ar.zero 64))))) 1 (List.length (expand (List.getD ns33 (Int.toNat s34) (Ar.zero 64)))) 0 (List.length (expand (List.getD ns33 (Int.toNat s34) (Ar.zero 64))))] = [v56, w57])
 (And (Slot H'55 v56 l58)
 (And (Slot H'55 w57 m59)
 (And (List.length l58 ≤ 1000)
 (cond (!decide (l58 = m59))
 (∃ (b60 : Blk),
 And (Heap.blk H'30 (List.length H) = some b60)
 (cond (okAt b60.1 [1] 1 3 false 1)
 (cond (AV.beq (projT [1] b60.1) (AV.int IntKind.i64 (AV.toInt (projT [1] b24.1))))
 (k (AV.bool false) H'55 true)
 (False))
 (False)))
 (∃ (b61 : Blk),
 And (Heap.blk H'55 (List.length H) = some b61)
 (cond (okAt b61.1 [2] 2 3 false 1)
 (cond (AV.isIntK (projT [2] b61.1) IntKind.i64)
 (∃ (b62 : Blk),
 And (Heap.blk H'55 (List.length H) = some b62)
 (cond (okAt b62.1 [2] 2 3 false 1)
 (cond (AV.isIntK (projT [2] b62.1) IntKind.i64)
 (∃ (i63 : Nat),
 ∃ (j64 : Nat),
 ∃ (vs65 : List AV),
 ∃ (ls66 : List (List Int)),
 ∃ (pg67 : Int),
 And ([AV.ptr (Pl.mk i 0 [] 1), AV.int IntKind.i64 (AV.toInt (projT [2] b61.1))] = [AV.ptr (Pl.mk i63 0 [] 1), AV.int IntKind.i64 pg67])
 (And (PinsR H'55 i63 j64 vs65 ls66)
 (∃ (i68 : Nat),
 ∃ (j69 : Nat),
 ∃ (ns70 : List (Ar 64)),
 ∃ (pg71 : Int),
 And ([AV.ptr (Pl.mk j 0 [] 1), AV.int IntKind.i64 (AV.toInt (projT [2] b62.1))] = [AV.ptr (Pl.mk i68 0 [] 1), AV.int IntKind.i64 pg71])
 (And (RefR H'55 i68 j69 ns70)
 (And (SmallN ns70)
 (∃ (b72 : Blk),
 And (Heap.blk H'30 (List.length H) = some b72)
 (cond (okAt b72.1 [1] 1 3 false 1)
 (cond (AV.beq (projT [1] b72.1) (AV.int IntKind.i64 (AV.toInt (projT [1] b24.1))))
 (∃ (b73 : Blk),
 And (Heap.blk H'55 (List.length H) = some b73)
 (cond (okAt b73.1 [2] 2 3 false 1)
 (cond (AV.beq (projT [2] b73.1) (AV.int IntKind.i64 (AV.toInt (projT [2] b62.1))))
 (cond (!(↑(cntL pg67 ls66) : Int) == rcnt ns70 pg71)
 (k (AV.bool false) H'55 true)
 (resPS (S F) TL N 9 fuel 3 2 n0 [] [true, true, true, true, true, false, true] m (St.mk [(0, AV.bad), (1, AV.isl 3 (row encSt l)), (4, AV.bad), (5, AV.ptr (Pl.mk i 0 [] 1)), (6, AV.bad), (7, AV.ptr (Pl.mk j 0 [] 1)), (8, AV.bad), (9, AV.int IntKind.i64 (IntKind.wrap IntKind.i64 (ix + 1))), (10, AV.bad), (13, AV.bad), (34, AV.bad), (42, AV.bad), (50, AV.bad), (63, AV.bad), (76, AV.bad), (97, AV.bad)] [] H'55 true) k))
 (False))
 (False)))
 (False))
 (False))))))))
 (False))
 (False)))
 (False))
 (False))))))))))))
 ((OkS ls28 s29) →
 ∀ (k074 : Nat),
 ∀ (H'75 : Heap),
 (List.length H'20 ≤ k074) →
 (Heap.blk H'75 k074 = some (Blk.mk (AV.arr 1 (row encZ (List.getD ls28 (Int.toNat s29) []))) true true)) →
 (Keep [] H'20 H'75) →
 ∃ (i76 : Nat),
 ∃ (j77 : Nat),
 ∃ (ns78 : List (Ar 64)),
 ∃ (s79 : Int),
 And ([AV.ptr (Pl.mk j 0 [] 1), AV.int IntKind.i64 (AV.toInt (projT [1] b24.1))] = [AV.ptr (Pl.mk i76 0 [] 1), AV.int IntKind.i64 s79])
 (And (RefR H'75 i76 j77 ns78)
 (And (SmallN ns78)
 (And ((¬OkR ns78 s79 ∨ expand (List.getD ns78 (Int.toNat s79) (Ar.zero 64)) = []) →
 ∀ (H'80 : Heap),
 (Keep [] H'75 H'80) →
 ∃ (v81 : AV),
 ∃ (w82 : AV),
 ∃ (l83 : List Int),
 ∃ (m84 : List Int),
 And ([AV.sl (Pl.mk k074 0 [] (List.length (List.getD ls28 (Int.toNat s29) []))) 1 (List.length (List.getD ls28 (Int.toNat s29) [])) 0 (List.length (List.getD ls28 (Int.toNat s29) [])), AV.nils] = [v81, w82])
 (And (Slot H'80 v81 l83)
 (And (Slot H'80 w82 m84)
 (And (List.length l83 ≤ 1000)
 (cond (!decide (l83 = m84))
 (∃ (b85 : Blk),
 And (Heap.blk H'75 (List.length H) = some b85)
 (cond (okAt b85.1 [1] 1 3 false 1)
 (cond (AV.beq (projT [1] b85.1) (AV.int IntKind.i64 (AV.toInt (projT [1] b24.1))))
 (k (AV.bool false) H'80 true)
 (False))
 (False)))
 (∃ (b86 : Blk),
 And (Heap.blk H'80 (List.length H) = some b86)
 (cond (okAt b86.1 [2] 2 3 false 1)
 (cond (AV.isIntK (projT [2] b86.1) IntKind.i64)
 (∃ (b87 : Blk),
 And (Heap.blk H'80 (List.length H) = some b87)
 (cond (okAt b87.1 [2] 2 3 false 1)
 (cond (AV.isIntK (projT [2] b87.1) IntKind.i64)
 (∃ (i88 : Nat),
 ∃ (j89 : Nat),
 ∃ (vs90 : List AV),
 ∃ (ls91 : List (List Int)),
 ∃ (pg92 : Int),
 And ([AV.ptr (Pl.mk i 0 [] 1), AV.int IntKind.i64 (AV.toInt (projT [2] b86.1))] = [AV.ptr (Pl.mk i88 0 [] 1), AV.int IntKind.i64 pg92])
 (And (PinsR H'80 i88 j89 vs90 ls91)
 (∃ (i93 : Nat),
 ∃ (j94 : Nat),
 ∃ (ns95 : List (Ar 64)),
 ∃ (pg96 : Int),
 And ([AV.ptr (Pl.mk j 0 [] 1), AV.int IntKind.i64 (AV.toInt (projT [2] b87.1))] = [AV.ptr (Pl.mk i93 0 [] 1), AV.int IntKind.i64 pg96])
 (And (RefR H'80 i93 j94 ns95)
 (And (SmallN ns95)
 (∃ (b97 : Blk),
 And (Heap.blk H'75 (List.length H) = some b97)
 (cond (okAt b97.1 [1] 1 3 false 1)
 (cond (AV.beq (projT [1] b97.1) (AV.int IntKind.i64 (AV.toInt (projT [1] b24.1))))
 (∃ (b98 : Blk),
 And (Heap.blk H'80 (List.length H) = some b98)
 (cond (okAt b98.1 [2] 2 3 false 1)
 (cond (AV.beq (projT [2] b98.1) (AV.int IntKind.i64 (AV.toInt (projT [2] b87.1))))
 (cond (!(↑(cntL pg92 ls91) : Int) == rcnt ns95 pg96)
 (k (AV.bool false) H'80 true)
 (resPS (S F) TL N 9 fuel 3 2 n0 [] [true, true, true, true, true, false, true] m (St.mk [(0, AV.bad), (1, AV.isl 3 (row encSt l)), (4, AV.bad), (5, AV.ptr (Pl.mk i 0 [] 1)), (6, AV.bad), (7, AV.ptr (Pl.mk j 0 [] 1)), (8, AV.bad), (9, AV.int IntKind.i64 (IntKind.wrap IntKind.i64 (ix + 1))), (10, AV.bad), (13, AV.bad), (34, AV.bad), (42, AV.bad), (50, AV.bad), (63, AV.bad), (76, AV.bad), (97, AV.bad)] [] H'80 true) k))
 (False))
 (False)))
 (False))
 (False))))))))
 (False))
 (False)))
 (False))
 (False))))))))
 ((OkR ns78 s79) →
 ∀ (k099 : Nat),
 ∀ (H'100 : Heap),
 (List.length H'75 ≤ k099) →
 (Heap.blk H'100 k099 = some (Blk.mk (AV.arr 1 (row encZ (expand (List.getD ns78 (Int.toNat s79) (Ar.zero 64))))) true true)) →
 (Keep [] H'75 H'100) →
 ∃ (v101 : AV),
 ∃ (w102 : AV),
 ∃ (l103 : List Int),
 ∃ (m104 : List Int),
 And ([AV.sl (Pl.mk k074 0 [] (List.length (List.getD ls28 (Int.toNat s29) []))) 1 (List.length (List.getD ls28 (Int.toNat s29) [])) 0 (List.length (List.getD ls28 (Int.toNat s29) [])), AV.sl (Pl.mk k099 0 [] (List.length (expand (List.getD ns78 (Int.toNat s79) (Ar.zero 64))))) 1 (List.length (expand (List.getD ns78 (Int.toNat s79) (Ar.zero 64)))) 0 (List.length (expand (List.getD ns78 (Int.toNat s79) (Ar.zero 64))))] = [v101, w102])
 (And (Slot H'100 v101 l103)
 (And (Slot H'100 w102 m104)
 (And (List.length l103 ≤ 1000)
 (cond (!decide (l103 = m104))
 (∃ (b105 : Blk),
 And (Heap.blk H'75 (List.length H) = some b105)
 (cond (okAt b105.1 [1] 1 3 false 1)
 (cond (AV.beq (projT [1] b105.1) (AV.int IntKind.i64 (AV.toInt (projT [1] b24.1))))
 (k (AV.bool false) H'100 true)
 (False))
 (False)))
 (∃ (b106 : Blk),
 And (Heap.blk H'100 (List.length H) = some b106)
 (cond (okAt b106.1 [2] 2 3 false 1)
 (cond (AV.isIntK (projT [2] b106.1) IntKind.i64)
 (∃ (b107 : Blk),
 And (Heap.blk H'100 (List.length H) = some b107)
 (cond (okAt b107.1 [2] 2 3 false 1)
 (cond (AV.isIntK (projT [2] b107.1) IntKind.i64)
 (∃ (i108 : Nat),
 ∃ (j109 : Nat),
 ∃ (vs110 : List AV),
 ∃ (ls111 : List (List Int)),
 ∃ (pg112 : Int),
 And ([AV.ptr (Pl.mk i 0 [] 1), AV.int IntKind.i64 (AV.toInt (projT [2] b106.1))] = [AV.ptr (Pl.mk i108 0 [] 1), AV.int IntKind.i64 pg112])
 (And (PinsR H'100 i108 j109 vs110 ls111)
 (∃ (i113 : Nat),
 ∃ (j114 : Nat),
 ∃ (ns115 : List (Ar 64)),
 ∃ (pg116 : Int),
 And ([AV.ptr (Pl.mk j 0 [] 1), AV.int IntKind.i64 (AV.toInt (projT [2] b107.1))] = [AV.ptr (Pl.mk i113 0 [] 1), AV.int IntKind.i64 pg116])
 (And (RefR H'100 i113 j114 ns115)
 (And (SmallN ns115)
 (∃ (b117 : Blk),
 And (Heap.blk H'75 (List.length H) = some b117)
 (cond (okAt b117.1 [1] 1 3 false 1)
 (cond (AV.beq (projT [1] b117.1) (AV.int IntKind.i64 (AV.toInt (projT [1] b24.1))))
 (∃ (b118 : Blk),
 And (Heap.blk H'100 (List.length H) = some b118)
 (cond (okAt b118.1 [2] 2 3 false 1)
 (cond (AV.beq (projT [2] b118.1) (AV.int IntKind.i64 (AV.toInt (projT [2] b107.1))))
 (cond (!(↑(cntL pg112 ls111) : Int) == rcnt ns115 pg116)
 (k (AV.bool false) H'100 true)
 (resPS (S F) TL N 9 fuel 3 2 n0 [] [true, true, true, true, true, false, true] m (St.mk [(0, AV.bad), (1, AV.isl 3 (row encSt l)), (4, AV.bad), (5, AV.ptr (Pl.mk i 0 [] 1)), (6, AV.bad), (7, AV.ptr (Pl.mk j 0 [] 1)), (8, AV.bad), (9, AV.int IntKind.i64 (IntKind.wrap IntKind.i64 (ix + 1))), (10, AV.bad), (13, AV.bad), (34, AV.bad), (42, AV.bad), (50, AV.bad), (63, AV.bad), (76, AV.bad), (97, AV.bad)] [] H'100 true) k))
 (False))
 (False)))
 (False))
 (False))))))))
 (False))
 (False)))
 (False))
 (False)))))))))))))))
 (False))
 (False)))
 (False))
 (False))))
 (False))
 (False)))
 (False))
 (False))))))))
 (False))
 (False)))
 (False))
 (False)))
 (False))
 (False)))
 (False))
 (False)))
 (∃ (b119 : Blk),
 And (Heap.blk H'1 (List.length H) = some b119)
 (cond (okAt b119.1 [1] 1 3 false 1)
 (cond (AV.isIntK (projT [1] b119.1) IntKind.i64)
 (∃ (b120 : Blk),
 And (Heap.blk H'1 (List.length H) = some b120)
 (cond (okAt b120.1 [2] 2 3 false 1)
 (cond (AV.isIntK (projT [2] b120.1) IntKind.i64)
 (∃ (b121 : Blk),
 And (Heap.blk H'1 (List.length H) = some b121)
 (cond (okAt b121.1 [1] 1 3 false 1)
 (cond (AV.isIntK (projT [1] b121.1) IntKind.i64)
 (∃ (b122 : Blk),
 And (Heap.blk H'1 (List.length H) = some b122)
 (cond (okAt b122.1 [2] 2 3 false 1)
 (cond (AV.isIntK (projT [2] b122.1) IntKind.i64)
 (∃ (i123 : Nat),
 ∃ (j124 : Nat),
 ∃ (vs125 : List AV),
 ∃ (ls126 : List (List Int)),
 ∃ (s127 : Int),
 ∃ (pg128 : Int),
 And ([AV.ptr (Pl.mk i 0 [] 1), AV.int IntKind.i64 (AV.toInt (projT [1] b119.1)), AV.int IntKind.i64 (AV.toInt (projT [2] b120.1))] = [AV.ptr (Pl.mk i123 0 [] 1), AV.int IntKind.i64 s127, AV.int IntKind.i64 pg128])
 (And (PinsR H'1 i123 j124 vs125 ls126)
 (∀ (H'129 : Heap),
 ∀ (vs'130 : List AV),
 (PinsR H'129 i123 j124 vs'130 (addS ls126 s127 pg128)) →
 (Nxt H'1 i123 j124 vs125 H'129 vs'130) →
 ∃ (i131 : Nat),
 ∃ (j132 : Nat),
 ∃ (ns133 : List (Ar 64)),
 ∃ (s134 : Int),
 ∃ (pg135 : Int),
 And ([AV.ptr (Pl.mk j 0 [] 1), AV.int IntKind.i64 (AV.toInt (projT [1] b121.1)), AV.int IntKind.i64 (AV.toInt (projT [2] b122.1))] = [AV.ptr (Pl.mk i131 0 [] 1), AV.int IntKind.i64 s134, AV.int IntKind.i64 pg135])
 (And (RefR H'129 i131 j132 ns133)
 (And (SmallN ns133)
 (∀ (H'136 : Heap),
 (RefR H'136 i131 j132 (raddS ns133 s134 pg135)) →
 (Keep [i131, j132] H'129 H'136) →
 ∃ (b137 : Blk),
 And (Heap.blk H'129 (List.length H) = some b137)
 (cond (okAt b137.1 [1] 1 3 false 1)
 (cond (AV.beq (projT [1] b137.1) (AV.int IntKind.i64 (AV.toInt (projT [1] b121.1))))
 (∃ (b138 : Blk),
 And (Heap.blk H'129 (List.length H) = some b138)
 (cond (okAt b138.1 [2] 2 3 false 1)
 (cond (AV.beq (projT [2] b138.1) (AV.int IntKind.i64 (AV.toInt (projT [2] b122.1))))
 (cond (!addErr ls126 s127 pg128 == raddErr ns133 s134 pg135)
 (k (AV.bool false) H'136 true)
 (∃ (b139 : Blk),
 And (Heap.blk H'136 (List.length H) = some b139)
 (cond (okAt b139.1 [1] 1 3 false 1)
 (cond (AV.isIntK (projT [1] b139.1) IntKind.i64)
 (∃ (b140 : Blk),
 And (Heap.blk H'136 (List.length H) = some b140)
 (cond (okAt b140.1 [1] 1 3 false 1)
 (cond (AV.isIntK (projT [1] b140.1) IntKind.i64)
 (∃ (i141 : Nat),
 ∃ (j142 : Nat),
 ∃ (vs143 : List AV),
 ∃ (ls144 : List (List Int)),
 ∃ (s145 : Int),
 And ([AV.ptr (Pl.mk i 0 [] 1), AV.int IntKind.i64 (AV.toInt (projT [1] b139.1))] = [AV.ptr (Pl.mk i141 0 [] 1), AV.int IntKind.i64 s145])
 (And (PinsR H'136 i141 j142 vs143 ls144)
 (And ((¬OkS ls144 s145 ∨ List.getD ls144 (Int.toNat s145) [] = []) →
 ∀ (H'146 : Heap),
 (Keep [] H'136 H'146) →
 ∃ (i147 : Nat),
 ∃ (j148 : Nat),
 ∃ (ns149 : List (Ar 64)),
 ∃ (s150 : Int),
 And ([AV.ptr (Pl.mk j 0 [] 1), AV.int IntKind.i64 (AV.toInt (projT [1] b140.1))] = [AV.ptr (Pl.mk i147 0 [] 1), AV.int IntKind.i64 s150])
 (And (RefR H'146 i147 j148 ns149)
 (And (SmallN ns149)
 (And ((¬OkR ns149 s150 ∨ expand (List.getD ns149 (Int.toNat s150) (Ar.zero 64)) = []) →
 ∀ (H'151 : Heap),
 (Keep [] H'146 H'151) →
 ∃ (v152 : AV),
 ∃ (w153 : AV),
 ∃ (l154 : List Int),
 ∃ (m155 : List Int),
 And ([AV.nils, AV.nils] = [v152, w153])
 (And (Slot H'151 v152 l154)
 (And (Slot H'151 w153 m155)
 (And (List.length l154 ≤ 1000)
 (cond (!decide (l154 = m155))
 (∃ (b156 : Blk),
 And (Heap.blk H'146 (List.length H) = some b156)
 (cond (okAt b156.1 [1] 1 3 false 1)
 (cond (AV.beq (projT [1] b156.1) (AV.int IntKind.i64 (AV.toInt (projT [1] b140.1))))
 (k (AV.bool false) H'151 true)
 (False))
 (False)))
 (∃ (b157 : Blk),
 And (Heap.blk H'151 (List.length H) = some b157)
 (cond (okAt b157.1 [2] 2 3 false 1)
 (cond (AV.isIntK (projT [2] b157.1) IntKind.i64)
 (∃ (b158 : Blk),
 And (Heap.blk H'151 (List.length H) = some b158)
 (cond (okAt b158.1 [2] 2 3 false 1)
 (cond (AV.isIntK (projT [2] b158.1) IntKind.i64)
 (∃ (i159 : Nat),
 ∃ (j160 : Nat),
 ∃ (vs161 : List AV),
 ∃ (ls162 : List (List Int)),
 ∃ (pg163 : Int),
 And ([AV.ptr (Pl.mk i 0 [] 1), AV.int IntKind.i64 (AV.toInt (projT [2] b157.1))] = [AV.ptr (Pl.mk i159 0 [] 1), AV.int IntKind.i64 pg163])
 (And (PinsR H'151 i159 j160 vs161 ls162)
 (∃ (i164 : Nat),
 ∃ (j165 : Nat),
 ∃ (ns166 : List (Ar 64)),
 ∃ (pg167 : Int),
 And ([AV.ptr (Pl.mk j 0 [] 1), AV.int IntKind.i64 (AV.toInt (projT [2] b158.1))] = [AV.ptr (Pl.mk i164 0 [] 1), AV.int IntKind.i64 pg167])
 (And (RefR H'151 i164 j165 ns166)
 (And (SmallN ns166)
 (∃ (b168 : Blk),
 And (Heap.blk H'146 (List.length H) = some b168)
 (cond (okAt b168.1 [1] 1 3 false 1)
 (cond (AV.beq (projT [1] b168.1) (AV.int IntKind.i64 (AV.toInt (projT [1] b140.1))))
 (∃ (b169 : Blk),
 And (Heap.blk H'151 (List.length H) = some b169)
 (cond (okAt b169.1 [2] 2 3 false 1)
 (cond (AV.beq (projT [2] b169.1) (AV.int IntKind.i64 (AV.toInt (projT [2] b158.1))))
 (cond (!(↑(cntL pg163 ls162) : Int) == rcnt ns166 pg167)
 (k (AV.bool false) H'151 true)
 (resPS (S F) TL N 9 fuel 3 2 n0 [] [true, true, true, true, true, false, true] m (St.mk [(0, AV.bad), (1, AV.isl 3 (row encSt l)), (4, AV.bad), (5, AV.ptr (Pl.mk i 0 [] 1)), (6, AV.bad), (7, AV.ptr (Pl.mk j 0 [] 1)), (8, AV.bad), (9, AV.int IntKind.i64 (IntKind.wrap IntKind.i64 (ix + 1))), (10, AV.bad), (13, AV.bad), (34, AV.bad), (42, AV.bad), (50, AV.bad), (63, AV.bad), (76, AV.bad), (97, AV.bad)] [] H'151 true) k))
 (False))
 (False)))
 (False))
 (False))))))))
 (False))
 (False)))
 (False))
 (False))))))))
 ((OkR ns149 s150) →
 ∀ (k0170 : Nat),
 ∀ (H'171 : Heap),
 (List.length H'146 ≤ k0170) →
 (Heap.blk H'171 k0170 = some (Blk.mk (AV.arr 1 (row encZ (expand (List.getD ns149 (Int.toNat s150) (Ar.zero 64))))) true true)) →
 (Keep [] H'146 H'171) →
 ∃ (v172 : AV),
 ∃ (w173 : AV),
 ∃ (l174 : List Int),
 ∃ (m175 : List Int),
 And ([AV.nils, AV.sl (Pl.mk k0170 0 [] (List.length (expand (List.getD ns149 (Int.toNat s150) (Ar.zero 64))))) 1 (List.length (expand (List.getD ns149 (Int.toNat s150) (Ar.zero 64)))) 0 (List.length (expand (List.getD ns149 (Int.toNat s150) (Ar.zero 64))))] = [v172, w173])
 (And (Slot H'171 v172 l174)
 (And (Slot H'171 w173 m175)
 (And (List.length l174 ≤ 1000)
 (cond (!decide (l174 = m175))
 (∃ (b176 : Blk),
 And (Heap.blk H'146 (List.length H) = some b176)
 (cond (okAt b176.1 [1] 1 3 false 1)
 (cond (AV.beq (projT [1] b176.1) (AV.int IntKind.i64 (AV.toInt (projT [1] b140.1))))
 (k (AV.bool false) H'171 true)
 (False))
 (False)))
 (∃ (b177 : Blk),
 And (Heap.blk H'171 (List.length H) = some b177)
 (cond (okAt b177.1 [2] 2 3 false 1)
 (cond (AV.isIntK (projT [2] b177.1) IntKind.i64)
 (∃ (b178 : Blk),
 And (Heap.blk H'171 (List.length H) = some b178)
 (cond (okAt b178.1 [2] 2 3 false 1)
 (cond (AV.isIntK (projT [2] b178.1) IntKind.i64)
 (∃ (i179 : Nat),
 ∃ (j180 : Nat),
 ∃ (vs181 : List AV),
 ∃ (ls182 : List (List Int)),
 ∃ (pg183 : Int),
 And ([AV.ptr (Pl.mk i 0 [] 1), AV.int IntKind.i64 (AV.toInt (projT [2] b177.1))] = [AV.ptr (Pl.mk i179 0 [] 1), AV.int IntKind.i64 pg183])
 (And (PinsR H'171 i179 j180 vs181 ls182)
 (∃ (i184 : Nat),
 ∃ (j185 : Nat),
 ∃ (ns186 : List (Ar 64)),
 ∃ (pg187 : Int),
 And ([AV.ptr (Pl.mk j 0 [] 1), AV.int IntKind.i64 (AV.toInt (projT [2] b178.1))] = [AV.ptr (Pl.mk i184 0 [] 1), AV.int IntKind.i64 pg187])
 (And (RefR H'171 i184 j185 ns186)
 (And (SmallN ns186)
 (∃ (b188 : Blk),
 And (Heap.blk H'146 (List.length H) = some b188)
 (cond (okAt b188.1 [1] 1 3 false 1)
 (cond (AV.beq (projT [1] b188.1) (AV.int IntKind.i64 (AV.toInt (projT [1] b140.1))))
 (∃ (b189 : Blk),
 And (Heap.blk H'171 (List.length H) = some b189)
 (cond (okAt b189.1 [2] 2 3 false 1)
 (cond (AV.beq (projT [2] b189.1) (AV.int IntKind.i64 (AV.toInt (projT [2] b178.1))))
 (cond (!(↑(cntL pg183 ls182) : Int) == rcnt ns186 pg187)
 (k (AV.bool false) H'171 true)
 (resPS (S F) TL N 9 fuel 3 2 n0 [] [true, true, true, true, true, false, true] m (St.mk [(0, AV.bad), (1, AV.isl 3 (row encSt l)), (4, AV.bad), (5, AV.ptr (Pl.mk i 0 [] 1)), (6, AV.bad), (7, AV.ptr (Pl.mk j 0 [] 1)), (8, AV.bad), (9, AV.int IntKind.i64 (IntKind.wrap IntKind.i64 (ix + 1))), (10, AV.bad), (13, AV.bad), (34, AV.bad), (42, AV.bad), (50, AV.bad), (63, AV.bad), (76, AV.bad), (97, AV.bad)] [] H'171 true) k))
 (False))
 (False)))
 (False))
 (False))))))))
 (False))
 (False)))
 (False))
 (False))))))))))))
 ((OkS ls144 s145) →
 ∀ (k0190 : Nat),
 ∀ (H'191 : Heap),
 (List.length H'136 ≤ k0190) →
 (Heap.blk H'191 k0190 = some (Blk.mk (AV.arr 1 (row encZ (List.getD ls144 (Int.toNat s145) []))) true true)) →
 (Keep [] H'136 H'191) →
 ∃ (i192 : Nat),
 ∃ (j193 : Nat),
 ∃ (ns194 : List (Ar 64)),
 ∃ (s195 : Int),
 And ([AV.ptr (Pl.mk j 0 [] 1), AV.int IntKind.i64 (AV.toInt (projT [1] b140.1))] = [AV.ptr (Pl.mk i192 0 [] 1), AV.int IntKind.i64 s195])
 (And (RefR H'191 i192 j193 ns194)
 (And (SmallN ns194)
 (And ((¬OkR ns194 s195 ∨ expand (List.getD ns194 (Int.toNat s195) (Ar.zero 64)) = []) →
 ∀ (H'196 : Heap),
 (Keep [] H'191 H'196) →
 ∃ (v197 : AV),
 ∃ (w198 : AV),
 ∃ (l199 : List Int),
 ∃ (m200 : List Int),
 And ([AV.sl (Pl.mk k0190 0 [] (List.length (List.getD ls144 (Int.toNat s145) []))) 1 (List.length (List.getD ls144 (Int.toNat s145) [])) 0 (List.length (List.getD ls144 (Int.toNat s145) [])), AV.nils] = [v197, w198])
 (And (Slot H'196 v197 l199)
 (And (Slot H'196 w198 m200)
 (And (List.length l199 ≤ 1000)
 (cond (!decide (l199 = m200))
 (∃ (b201 : Blk),
 And (Heap.blk H'191 (List.length H) = some b201)
 (cond (okAt b201.1 [1] 1 3 false 1)
 (cond (AV.beq (projT [1] b201.1) (AV.int IntKind.i64 (AV.toInt (projT [1] b140.1))))
 (k (AV.bool false) H'196 true)
 (False))
 (False)))
 (∃ (b202 : Blk),
 And (Heap.blk H'196 (List.length H) = some b202)
 (cond (okAt b202.1 [2] 2 3 false 1)
 (cond (AV.isIntK (projT [2] b202.1) IntKind.i64)
 (∃ (b203 : Blk),
 And (Heap.blk H'196 (List.length H) = some b203)
 (cond (okAt b203.1 [2] 2 3 false 1)
 (cond (AV.isIntK (projT [2] b203.1) IntKind.i64)
 (∃ (i204 : Nat),
 ∃ (j205 : Nat),
 ∃ (vs206 : List AV),
 ∃ (ls207 : List (List Int)),
 ∃ (pg208 : Int),
 And ([AV.ptr (Pl.mk i 0 [] 1), AV.int IntKind.i64 (AV.toInt (projT [2] b202.1))] = [AV.ptr (Pl.mk i204 0 [] 1), AV.int IntKind.i64 pg208])
 (And (PinsR H'196 i204 j205 vs206 ls207)
 (∃ (i209 : Nat),
 ∃ (j210 : Nat),
 ∃ (ns211 : List (Ar 64)),
 ∃ (pg212 : Int),
 And ([AV.ptr (Pl.mk j 0 [] 1), AV.int IntKind.i64 (AV.toInt (projT [2] b203.1))] = [AV.ptr (Pl.mk i209 0 [] 1), AV.int IntKind.i64 pg212])
 (And (RefR H'196 i209 j210 ns211)
 (And (SmallN ns211)
 (∃ (b213 : Blk),
 And (Heap.blk H'191 (List.length H) = some b213)
 (cond (okAt b213.1 [1] 1 3 false 1)
 (cond (AV.beq (projT [1] b213.1) (AV.int IntKind.i64 (AV.toInt (projT [1] b140.1))))
 (∃ (b214 : Blk),
 And (Heap.blk H'196 (List.length H) = some b214)
 (cond (okAt b214.1 [2] 2 3 false 1)
 (cond (AV.beq (projT [2] b214.1) (AV.int IntKind.i64 (AV.toInt (projT [2] b203.1))))
 (cond (!(↑(cntL pg208 ls207) : Int) == rcnt ns211 pg212)
 (k (AV.bool false) H'196 true)
 (resPS (S F) TL N 9 fuel 3 2 n0 [] [true, true, true, true, true, false, true] m (St.mk [(0, AV.bad), (1, AV.isl 3 (row encSt l)), (4, AV.bad), (5, AV.ptr (Pl.mk i 0 [] 1)), (6, AV.bad), (7, AV.ptr (Pl.mk j 0 [] 1)), (8, AV.bad), (9, AV.int IntKind.i64 (IntKind.wrap IntKind.i64 (ix + 1))), (10, AV.bad), (13, AV.bad), (34, AV.bad), (42, AV.bad), (50, AV.bad), (63, AV.bad), (76, AV.bad), (97, AV.bad)] [] H'196 true) k))
 (False))
 (False)))
 (False))
 (False))))))))
 (False))
 (False)))
 (False))
 (False))))))))
 ((OkR ns194 s195) →
 ∀ (k0215 : Nat),
 ∀ (H'216 : Heap),
 (List.length H'191 ≤ k0215) →
 (Heap.blk H'216 k0215 = some (Blk.mk (AV.arr 1 (row encZ (expand (List.getD ns194 (Int.toNat s195) (Ar.zero 64))))) true true)) →
 (Keep [] H'191 H'216) →
 ∃ (v217 : AV),
 ∃ (w218 : AV),
 ∃ (l219 : List Int),
 ∃ (m220 : List Int),
 And ([AV.sl (Pl.mk k0190 0 [] (List.length (List.getD ls144 (Int.toNat s145) []))) 1 (List.length (List.getD ls144 (Int.toNat s145) [])) 0 (List.length (List.getD ls144 (Int.toNat s145) [])), AV.sl (Pl.mk k0215 0 [] (List.length (expand (List.getD ns194 (Int.toNat s195) (Ar.zero 64))))) 1 (List.length (expand (List.getD ns194 (Int.toNat s195) (Ar.zero 64)))) 0 (List.length (expand (List.getD ns194 (Int.toNat s195) (Ar.zero 64))))] = [v217, w218])
 (And (Slot H'216 v217 l219)
 (And (Slot H'216 w218 m220)
 (And (List.length l219 ≤ 1000)
 (cond (!decide (l219 = m220))
 (∃ (b221 : Blk),
 And (Heap.blk H'191 (List.length H) = some b221)
 (cond (okAt b221.1 [1] 1 3 false 1)
 (cond (AV.beq (projT [1] b221.1) (AV.int IntKind.i64 (AV.toInt (projT [1] b140.1))))
 (k (AV.bool false) H'216 true)
 (False))
 (False)))
 (∃ (b222 : Blk),
 And (Heap.blk H'216 (List.length H) = some b222)
 (cond (okAt b222.1 [2] 2 3 false 1)
 (cond (AV.isIntK (projT [2] b222.1) IntKind.i64)
 (∃ (b223 : Blk),
 And (Heap.blk H'216 (List.length H) = some b223)
 (cond (okAt b223.1 [2] 2 3 false 1)
 (cond (AV.isIntK (projT [2] b223.1) IntKind.i64)
 (∃ (i224 : Nat),
 ∃ (j225 : Nat),
 ∃ (vs226 : List AV),
 ∃ (ls227 : List (List Int)),
 ∃ (pg228 : Int),
 And ([AV.ptr (Pl.mk i 0 [] 1), AV.int IntKind.i64 (AV.toInt (projT [2] b222.1))] = [AV.ptr (Pl.mk i224 0 [] 1), AV.int IntKind.i64 pg228])
 (And (PinsR H'216 i224 j225 vs226 ls227)
 (∃ (i229 : Nat),
 ∃ (j230 : Nat),
 ∃ (ns231 : List (Ar 64)),
 ∃ (pg232 : Int),
 And ([AV.ptr (Pl.mk j 0 [] 1), AV.int IntKind.i64 (AV.toInt (projT [2] b223.1))] = [AV.ptr (Pl.mk i229 0 [] 1), AV.int IntKind.i64 pg232])
 (And (RefR H'216 i229 j230 ns231)
 (And (SmallN ns231)
 (∃ (b233 : Blk),
 And (Heap.blk H'191 (List.length H) = some b233)
 (cond (okAt b233.1 [1] 1 3 false 1)
 (cond (AV.beq (projT [1] b233.1) (AV.int IntKind.i64 (AV.toInt (projT [1] b140.1))))
 (∃ (b234 : Blk),
 And (Heap.blk H'216 (List.length H) = some b234)
 (cond (okAt b234.1 [2] 2 3 false 1)
 (cond (AV.beq (projT [2] b234.1) (AV.int IntKind.i64 (AV.toInt (projT [2] b223.1))))
 (cond (!(↑(cntL pg228 ls227) : Int) == rcnt ns231 pg232)
 (k (AV.bool false) H'216 true)
 (resPS (S F) TL N 9 fuel 3 2 n0 [] [true, true, true, true, true, false, true] m (St.mk [(0, AV.bad), (1, AV.isl 3 (row encSt l)), (4, AV.bad), (5, AV.ptr (Pl.mk i 0 [] 1)), (6, AV.bad), (7, AV.ptr (Pl.mk j 0 [] 1)), (8, AV.bad), (9, AV.int IntKind.i64 (IntKind.wrap IntKind.i64 (ix + 1))), (10, AV.bad), (13, AV.bad), (34, AV.bad), (42, AV.bad), (50, AV.bad), (63, AV.bad), (76, AV.bad), (97, AV.bad)] [] H'216 true) k))
 (False))
 (False)))
 (False))
 (False))))))))
 (False))
 (False)))
 (False))
 (False)))))))))))))))
 (False))
 (False)))
 (False))
 (False))))
 (False))
 (False)))
 (False))
 (False))))))))
 (False))
 (False)))
 (False))
 (False)))
 (False))
 (False)))
 (False))
 (False))))
 (False))
 (False)))
 (False)))
 (False))
 (False))
 (False))
 (False))
 (False))
 (And (([] : List AV) = [])
 (k (AV.bool true) H true))) : Prop) := by kernel_rfl
theorem step3z (N fuel m n0 : Nat) (l : List Stp) (H : Heap) (ix : Int) (k : AV → Heap → Bool → Prop) :
 (resPS (S F) TL N 9 fuel 3 2 n0 [] [true, true, true, true, true, false, true] (m + 1) ⟨L3 (.isl 3 (row encSt l)) .nilp .nilp ix, [], H, true⟩ k) =
 ((cond (decide (ix < (↑(List.length (row encSt l)) : Int)))
 (And (([] : List AV) = [])
 (k (AV.bool true) H true))
 (And (([] : List AV) = [])
 (k (AV.bool true) H true))) : Prop) := by kernel_rfl
theorem step3n (N fuel m n0 : Nat) (i j : Nat) (H : Heap) (k : AV → Heap → Bool → Prop) :
 (resPS (S F) TL N 9 fuel 3 2 n0 [] [true, true, true, true, true, false, true] (m + 1) ⟨L3 .nils (.ptr ⟨i, 0, [], 1⟩) (.ptr ⟨j, 0, [], 1⟩) 0, [], H, true⟩ k) =
 ((And (([] : List AV) = [])
 (k (AV.bool true) H true)) : Prop) := by kernel_rfl
theorem step3nz (N fuel m n0 : Nat) (H : Heap) (k : AV → Heap → Bool → Prop) :
 (resPS (S F) TL N 9 fuel 3 2 n0 [] [true, true, true, true, true, false, true] (m + 1) ⟨L3 .nils .nilp .nilp 0, [], H, true⟩ k) =
 ((And (([] : List AV) = [])
 (k (AV.bool true) H true)) : Prop) := by kernel_rfl
end Go.Proofs.Ytclmndonaljppaa
/-
  PinsPlay: a step of the law.
-/
namespace Go.Proofs.Ytclmndonaljppaa
open Go Go.X
variable {F : Nat}
set_option maxRecDepth 100000
abbrev pO : List Bool := [true, true, true, true, true, false, true]
theorem cellA {d : Bool} {s pg : Int} : okAt (AV.agg 3 [.bool d, .int .i64 s, .int .i64 pg]) [0] 0 3 false 1 = true := rfl
theorem cellB {d : Bool} {s pg : Int} : okAt (AV.agg 3 [.bool d, .int .i64 s, .int .i64 pg]) [1] 1 3 false 1 = true := rfl
theorem cellC {d : Bool} {s pg : Int} : okAt (AV.agg 3 [.bool d, .int .i64 s, .int .i64 pg]) [2] 2 3 false 1 = true := rfl
theorem beq_int {z : Int} : (AV.int .i64 z).beq (.int .i64 z) = true := by simp [AV.beq]
/-- What stands in memory between the steps. -/
structure Inv3 (H : Heap) (i jp j jr : Nat) (vs : List AV) (ls : List (List Int)) : Prop where
  p : PinsR H i jp vs ls
  r : RefR H j jr (ls.map cntA)
  good : AllGood ls
  d1 : j ∉ i :: jp :: refsL vs
  d2 : jr ∉ i :: jp :: refsL vs
theorem Inv3.keep {H H' : Heap} {i jp j jr : Nat} {vs : List AV} {ls : List (List Int)} (h : Inv3 H i jp j jr vs ls) (hk : Keep [] H H') : Inv3 H' i jp j jr vs ls :=
  ⟨h.p.keep' hk (by simp), h.r.keep hk (by simp) (by simp), h.good, h.d1, h.d2⟩
theorem Inv3.small {H : Heap} {i jp j jr : Nat} {vs : List AV} {ls : List (List Int)} (h : Inv3 H i jp j jr vs ls) : SmallN (ls.map cntA) := smallN h.good
variable {N fuel m n0 : Nat} {l : List Stp} {i jp j jr c : Nat} {ix : Int} {k : AV → Heap → Bool → Prop} {vs : List AV} {ls : List (List Int)} {d : Bool} {s pg : Int}
theorem end3 {H30 H35 : Heap} {u w : List Int} (h5 : Inv3 H35 i jp j jr vs ls) (hc0 : H30.blk c = some ⟨.agg 3 [.bool d, .int .i64 s, .int .i64 pg], false, true⟩) (hc : H35.blk c = some ⟨.agg 3 [.bool d, .int .i64 s, .int .i64 pg], false, true⟩) (hu : u = w)
    (hk : resPS (S F) TL N 9 fuel 3 2 n0 [] pO m ⟨L3 (.isl 3 (row encSt l)) (.ptr ⟨i, 0, [], 1⟩) (.ptr ⟨j, 0, [], 1⟩) (IntKind.i64.wrap (ix + 1)), [], H35, true⟩ k) :
  cond (!decide (u = w)) (∃ (b40 : Blk), And (Heap.blk H30 c = some b40) (cond (okAt b40.1 [1] 1 3 false 1) (cond (AV.beq (projT [1] b40.1) (AV.int IntKind.i64 (s))) (k (AV.bool false) H35 true) (False)) (False))) (∃ (b41 : Blk), And (Heap.blk H35 c = some b41) (cond (okAt b41.1 [2] 2 3 false 1) (cond (AV.isIntK (projT [2] b41.1) IntKind.i64) (∃ (b42 : Blk), And (Heap.blk H35 c = some b42) (cond (okAt b42.1 [2] 2 3 false 1) (cond (AV.isIntK (projT [2] b42.1) IntKind.i64) (∃ (i43 : Nat), ∃ (j44 : Nat), ∃ (vs45 : List AV), ∃ (ls46 : List (List Int)), ∃ (pg47 : Int), And ([AV.ptr (Pl.mk i 0 [] 1), AV.int IntKind.i64 (AV.toInt (projT [2] b41.1))] = [AV.ptr (Pl.mk i43 0 [] 1), AV.int IntKind.i64 pg47]) (And (PinsR H35 i43 j44 vs45 ls46) (∃ (i48 : Nat), ∃ (j49 : Nat), ∃ (ns50 : List (Ar 64)), ∃ (pg51 : Int), And ([AV.ptr (Pl.mk j 0 [] 1), AV.int IntKind.i64 (AV.toInt (projT [2] b42.1))] = [AV.ptr (Pl.mk i48 0 [] 1), AV.int IntKind.i64 pg51]) (And (RefR H35 i48 j49 ns50) (And (SmallN ns50) (∃ (b52 : Blk), And (Heap.blk H30 c = some b52) (cond (okAt b52.1 [1] 1 3 false 1) (cond (AV.beq (projT [1] b52.1) (AV.int IntKind.i64 (s))) (∃ (b53 : Blk), And (Heap.blk H35 c = some b53) (cond (okAt b53.1 [2] 2 3 false 1) (cond (AV.beq (projT [2] b53.1) (AV.int IntKind.i64 (AV.toInt (projT [2] b42.1)))) (cond (!(↑(cntL pg47 ls46) : Int) == rcnt ns50 pg51) (k (AV.bool false) H35 true) (resPS (S F) TL N 9 fuel 3 2 n0 [] [true, true, true, true, true, false, true] m (St.mk [(0, AV.bad), (1, AV.isl 3 (row encSt l)), (4, AV.bad), (5, AV.ptr (Pl.mk i 0 [] 1)), (6, AV.bad), (7, AV.ptr (Pl.mk j 0 [] 1)), (8, AV.bad), (9, AV.int IntKind.i64 (IntKind.wrap IntKind.i64 (ix + 1))), (10, AV.bad), (13, AV.bad), (34, AV.bad), (42, AV.bad), (50, AV.bad), (63, AV.bad), (76, AV.bad), (97, AV.bad)] [] H35 true) k)) (False)) (False))) (False)) (False)))))))) (False)) (False))) (False)) (False))) := by
  subst hu
  refine cF (by simp) (ldg hc cellC (cT rfl (ldg hc cellC (cT rfl ⟨i, jp, vs, ls, pg, rfl, h5.p, j, jr, _, pg, rfl, h5.r, h5.small, ldg hc0 cellB (cT beq_int (ldg hc cellC (cT beq_int (cF ?_ hk))))⟩))))
  rw [cnt_eq h5.good]
  simp
theorem tail3 {H1 : Heap} (h1 : Inv3 H1 i jp j jr vs ls) (hc : H1.blk c = some ⟨.agg 3 [.bool d, .int .i64 s, .int .i64 pg], false, true⟩)
    (hk : ∀ H2, Inv3 H2 i jp j jr vs ls → Keep [] H1 H2 → resPS (S F) TL N 9 fuel 3 2 n0 [] pO m ⟨L3 (.isl 3 (row encSt l)) (.ptr ⟨i, 0, [], 1⟩) (.ptr ⟨j, 0, [], 1⟩) (IntKind.i64.wrap (ix + 1)), [], H2, true⟩ k) :
  ∃ (b23 : Blk), And (Heap.blk H1 c = some b23) (cond (okAt b23.1 [1] 1 3 false 1) (cond (AV.isIntK (projT [1] b23.1) IntKind.i64) (∃ (b24 : Blk), And (Heap.blk H1 c = some b24) (cond (okAt b24.1 [1] 1 3 false 1) (cond (AV.isIntK (projT [1] b24.1) IntKind.i64) (∃ (i25 : Nat), ∃ (j26 : Nat), ∃ (vs27 : List AV), ∃ (ls28 : List (List Int)), ∃ (s29 : Int), And ([AV.ptr (Pl.mk i 0 [] 1), AV.int IntKind.i64 (AV.toInt (projT [1] b23.1))] = [AV.ptr (Pl.mk i25 0 [] 1), AV.int IntKind.i64 s29]) (And (PinsR H1 i25 j26 vs27 ls28) (And ((¬OkS ls28 s29 ∨ List.getD ls28 (Int.toNat s29) [] = []) → ∀ (H'30 : Heap), (Keep [] H1 H'30) → ∃ (i31 : Nat), ∃ (j32 : Nat), ∃ (ns33 : List (Ar 64)), ∃ (s34 : Int), And ([AV.ptr (Pl.mk j 0 [] 1), AV.int IntKind.i64 (AV.toInt (projT [1] b24.1))] = [AV.ptr (Pl.mk i31 0 [] 1), AV.int IntKind.i64 s34]) (And (RefR H'30 i31 j32 ns33) (And (SmallN ns33) (And ((¬OkR ns33 s34 ∨ expand (List.getD ns33 (Int.toNat s34) (Ar.zero 64)) = []) → ∀ (H'35 : Heap), (Keep [] H'30 H'35) → ∃ (v36 : AV), ∃ (w37 : AV), ∃ (l38 : List Int), ∃ (m39 : List Int), And ([AV.nils, AV.nils] = [v36, w37]) (And (Slot H'35 v36 l38) (And (Slot H'35 w37 m39) (And (List.length l38 ≤ 1000) (cond (!decide (l38 = m39)) (∃ (b40 : Blk), And (Heap.blk H'30 c = some b40) (cond (okAt b40.1 [1] 1 3 false 1) (cond (AV.beq (projT [1] b40.1) (AV.int IntKind.i64 (AV.toInt (projT [1] b24.1)))) (k (AV.bool false) H'35 true) (False)) (False))) (∃ (b41 : Blk), And (Heap.blk H'35 c = some b41) (cond (okAt b41.1 [2] 2 3 false 1) (cond (AV.isIntK (projT [2] b41.1) IntKind.i64) (∃ (b42 : Blk), And (Heap.blk H'35 c = some b42) (cond (okAt b42.1 [2] 2 3 false 1) (cond (AV.isIntK (projT [2] b42.1) IntKind.i64) (∃ (i43 : Nat), ∃ (j44 : Nat), ∃ (vs45 : List AV), ∃ (ls46 : List (List Int)), ∃ (pg47 : Int), And ([AV.ptr (Pl.mk i 0 [] 1), AV.int IntKind.i64 (AV.toInt (projT [2] b41.1))] = [AV.ptr (Pl.mk i43 0 [] 1), AV.int IntKind.i64 pg47]) (And (PinsR H'35 i43 j44 vs45 ls46) (∃ (i48 : Nat), ∃ (j49 : Nat), ∃ (ns50 : List (Ar 64)), ∃ (pg51 : Int), And ([AV.ptr (Pl.mk j 0 [] 1), AV.int IntKind.i64 (AV.toInt (projT [2] b42.1))] = [AV.ptr (Pl.mk i48 0 [] 1), AV.int IntKind.i64 pg51]) (And (RefR H'35 i48 j49 ns50) (And (SmallN ns50) (∃ (b52 : Blk), And (Heap.blk H'30 c = some b52) (cond (okAt b52.1 [1] 1 3 false 1) (cond (AV.beq (projT [1] b52.1) (AV.int IntKind.i64 (AV.toInt (projT [1] b24.1)))) (∃ (b53 : Blk), And (Heap.blk H'35 c = some b53) (cond (okAt b53.1 [2] 2 3 false 1) (cond (AV.beq (projT [2] b53.1) (AV.int IntKind.i64 (AV.toInt (projT [2] b42.1)))) (cond (!(↑(cntL pg47 ls46) : Int) == rcnt ns50 pg51) (k (AV.bool false) H'35 true) (resPS (S F) TL N 9 fuel 3 2 n0 [] [true, true, true, true, true, false, true] m (St.mk [(0, AV.bad), (1, AV.isl 3 (row encSt l)), (4, AV.bad), (5, AV.ptr (Pl.mk i 0 [] 1)), (6, AV.bad), (7, AV.ptr (Pl.mk j 0 [] 1)), (8, AV.bad), (9, AV.int IntKind.i64 (IntKind.wrap IntKind.i64 (ix + 1))), (10, AV.bad), (13, AV.bad), (34, AV.bad), (42, AV.bad), (50, AV.bad), (63, AV.bad), (76, AV.bad), (97, AV.bad)] [] H'35 true) k)) (False)) (False))) (False)) (False)))))))) (False)) (False))) (False)) (False)))))))) ((OkR ns33 s34) → ∀ (k054 : Nat), ∀ (H'55 : Heap), (List.length H'30 ≤ k054) → (Heap.blk H'55 k054 = some (Blk.mk (AV.arr 1 (row encZ (expand (List.getD ns33 (Int.toNat s34) (Ar.zero 64))))) true true)) → (Keep [] H'30 H'55) → ∃ (v56 : AV), ∃ (w57 : AV), ∃ (l58 : List Int), ∃ (m59 : List Int), And ([AV.nils, AV.sl (Pl.mk k054 0 [] (List.length (expand (List.getD ns33 (Int.toNat s34) (Ar.zero 64))))) 1 (List.length (expand (List.getD ns33 (Int.toNat s34) (Ar.zero 64)))) 0 (List.length (expand (List.getD ns33 (Int.toNat s34) (Ar.zero 64))))] = [v56, w57]) (And (Slot H'55 v56 l58) (And (Slot H'55 w57 m59) (And (List.length l58 ≤ 1000) (cond (!decide (l58 = m59)) (∃ (b60 : Blk), And (Heap.blk H'30 c = some b60) (cond (okAt b60.1 [1] 1 3 false 1) (cond (AV.beq (projT [1] b60.1) (AV.int IntKind.i64 (AV.toInt (projT [1] b24.1)))) (k (AV.bool false) H'55 true) (False)) (False))) (∃ (b61 : Blk), And (Heap.blk H'55 c = some b61) (cond (okAt b61.1 [2] 2 3 false 1) (cond (AV.isIntK (projT [2] b61.1) IntKind.i64) (∃ (b62 : Blk), And (Heap.blk H'55 c = some b62) (cond (okAt b62.1 [2] 2 3 false 1) (cond (AV.isIntK (projT [2] b62.1) IntKind.i64) (∃ (i63 : Nat), ∃ (j64 : Nat), ∃ (vs65 : List AV), ∃ (ls66 : List (List Int)), ∃ (pg67 : Int), And ([AV.ptr (Pl.mk i 0 [] 1), AV.int IntKind.i64 (AV.toInt (projT [2] b61.1))] = [AV.ptr (Pl.mk i63 0 [] 1), AV.int IntKind.i64 pg67]) (And (PinsR H'55 i63 j64 vs65 ls66) (∃ (i68 : Nat), ∃ (j69 : Nat), ∃ (ns70 : List (Ar 64)), ∃ (pg71 : Int), And ([AV.ptr (Pl.mk j 0 [] 1), AV.int IntKind.i64 (AV.toInt (projT [2] b62.1))] = [AV.ptr (Pl.mk i68 0 [] 1), AV.int IntKind.i64 pg71]) (And (RefR H'55 i68 j69 ns70) (And (SmallN ns70) (∃ (b72 : Blk), And (Heap.blk H'30 c = some b72) (cond (okAt b72.1 [1] 1 3 false 1) (cond (AV.beq (projT [1] b72.1) (AV.int IntKind.i64 (AV.toInt (projT [1] b24.1)))) (∃ (b73 : Blk), And (Heap.blk H'55 c = some b73) (cond (okAt b73.1 [2] 2 3 false 1) (cond (AV.beq (projT [2] b73.1) (AV.int IntKind.i64 (AV.toInt (projT [2] b62.1)))) (cond (!(↑(cntL pg67 ls66) : Int) == rcnt ns70 pg71) (k (AV.bool false) H'55 true) (resPS (S F) TL N 9 fuel 3 2 n0 [] [true, true, true, true, true, false, true] m (St.mk [(0, AV.bad), (1, AV.isl 3 (row encSt l)), (4, AV.bad), (5, AV.ptr (Pl.mk i 0 [] 1)), (6, AV.bad), (7, AV.ptr (Pl.mk j 0 [] 1)), (8, AV.bad), (9, AV.int IntKind.i64 (IntKind.wrap IntKind.i64 (ix + 1))), (10, AV.bad), (13, AV.bad), (34, AV.bad), (42, AV.bad), (50, AV.bad), (63, AV.bad), (76, AV.bad), (97, AV.bad)] [] H'55 true) k)) (False)) (False))) (False)) (False)))))))) (False)) (False))) (False)) (False)))))))))))) ((OkS ls28 s29) → ∀ (k074 : Nat), ∀ (H'75 : Heap), (List.length H1 ≤ k074) → (Heap.blk H'75 k074 = some (Blk.mk (AV.arr 1 (row encZ (List.getD ls28 (Int.toNat s29) []))) true true)) → (Keep [] H1 H'75) → ∃ (i76 : Nat), ∃ (j77 : Nat), ∃ (ns78 : List (Ar 64)), ∃ (s79 : Int), And ([AV.ptr (Pl.mk j 0 [] 1), AV.int IntKind.i64 (AV.toInt (projT [1] b24.1))] = [AV.ptr (Pl.mk i76 0 [] 1), AV.int IntKind.i64 s79]) (And (RefR H'75 i76 j77 ns78) (And (SmallN ns78) (And ((¬OkR ns78 s79 ∨ expand (List.getD ns78 (Int.toNat s79) (Ar.zero 64)) = []) → ∀ (H'80 : Heap), (Keep [] H'75 H'80) → ∃ (v81 : AV), ∃ (w82 : AV), ∃ (l83 : List Int), ∃ (m84 : List Int), And ([AV.sl (Pl.mk k074 0 [] (List.length (List.getD ls28 (Int.toNat s29) []))) 1 (List.length (List.getD ls28 (Int.toNat s29) [])) 0 (List.length (List.getD ls28 (Int.toNat s29) [])), AV.nils] = [v81, w82]) (And (Slot H'80 v81 l83) (And (Slot H'80 w82 m84) (And (List.length l83 ≤ 1000) (cond (!decide (l83 = m84)) (∃ (b85 : Blk), And (Heap.blk H'75 c = some b85) (cond (okAt b85.1 [1] 1 3 false 1) (cond (AV.beq (projT [1] b85.1) (AV.int IntKind.i64 (AV.toInt (projT [1] b24.1)))) (k (AV.bool false) H'80 true) (False)) (False))) (∃ (b86 : Blk), And (Heap.blk H'80 c = some b86) (cond (okAt b86.1 [2] 2 3 false 1) (cond (AV.isIntK (projT [2] b86.1) IntKind.i64) (∃ (b87 : Blk), And (Heap.blk H'80 c = some b87) (cond (okAt b87.1 [2] 2 3 false 1) (cond (AV.isIntK (projT [2] b87.1) IntKind.i64) (∃ (i88 : Nat), ∃ (j89 : Nat), ∃ (vs90 : List AV), ∃ (ls91 : List (List Int)), ∃ (pg92 : Int), And ([AV.ptr (Pl.mk i 0 [] 1), AV.int IntKind.i64 (AV.toInt (projT [2] b86.1))] = [AV.ptr (Pl.mk i88 0 [] 1), AV.int IntKind.i64 pg92]) (And (PinsR H'80 i88 j89 vs90 ls91) (∃ (i93 : Nat), ∃ (j94 : Nat), ∃ (ns95 : List (Ar 64)), ∃ (pg96 : Int), And ([AV.ptr (Pl.mk j 0 [] 1), AV.int IntKind.i64 (AV.toInt (projT [2] b87.1))] = [AV.ptr (Pl.mk i93 0 [] 1), AV.int IntKind.i64 pg96]) (And (RefR H'80 i93 j94 ns95) (And (SmallN ns95) (∃ (b97 : Blk), And (Heap.blk H'75 c = some b97) (cond (okAt b97.1 [1] 1 3 false 1) (cond (AV.beq (projT [1] b97.1) (AV.int IntKind.i64 (AV.toInt (projT [1] b24.1)))) (∃ (b98 : Blk), And (Heap.blk H'80 c = some b98) (cond (okAt b98.1 [2] 2 3 false 1) (cond (AV.beq (projT [2] b98.1) (AV.int IntKind.i64 (AV.toInt (projT [2] b87.1)))) (cond (!(↑(cntL pg92 ls91) : Int) == rcnt ns95 pg96) (k (AV.bool false) H'80 true) (resPS (S F) TL N 9 fuel 3 2 n0 [] [true, true, true, true, true, false, true] m (St.mk [(0, AV.bad), (1, AV.isl 3 (row encSt l)), (4, AV.bad), (5, AV.ptr (Pl.mk i 0 [] 1)), (6, AV.bad), (7, AV.ptr (Pl.mk j 0 [] 1)), (8, AV.bad), (9, AV.int IntKind.i64 (IntKind.wrap IntKind.i64 (ix + 1))), (10, AV.bad), (13, AV.bad), (34, AV.bad), (42, AV.bad), (50, AV.bad), (63, AV.bad), (76, AV.bad), (97, AV.bad)] [] H'80 true) k)) (False)) (False))) (False)) (False)))))))) (False)) (False))) (False)) (False)))))))) ((OkR ns78 s79) → ∀ (k099 : Nat), ∀ (H'100 : Heap), (List.length H'75 ≤ k099) → (Heap.blk H'100 k099 = some (Blk.mk (AV.arr 1 (row encZ (expand (List.getD ns78 (Int.toNat s79) (Ar.zero 64))))) true true)) → (Keep [] H'75 H'100) → ∃ (v101 : AV), ∃ (w102 : AV), ∃ (l103 : List Int), ∃ (m104 : List Int), And ([AV.sl (Pl.mk k074 0 [] (List.length (List.getD ls28 (Int.toNat s29) []))) 1 (List.length (List.getD ls28 (Int.toNat s29) [])) 0 (List.length (List.getD ls28 (Int.toNat s29) [])), AV.sl (Pl.mk k099 0 [] (List.length (expand (List.getD ns78 (Int.toNat s79) (Ar.zero 64))))) 1 (List.length (expand (List.getD ns78 (Int.toNat s79) (Ar.zero 64)))) 0 (List.length (expand (List.getD ns78 (Int.toNat s79) (Ar.zero 64))))] = [v101, w102]) (And (Slot H'100 v101 l103) (And (Slot H'100 w102 m104) (And (List.length l103 ≤ 1000) (cond (!decide (l103 = m104)) (∃ (b105 : Blk), And (Heap.blk H'75 c = some b105) (cond (okAt b105.1 [1] 1 3 false 1) (cond (AV.beq (projT [1] b105.1) (AV.int IntKind.i64 (AV.toInt (projT [1] b24.1)))) (k (AV.bool false) H'100 true) (False)) (False))) (∃ (b106 : Blk), And (Heap.blk H'100 c = some b106) (cond (okAt b106.1 [2] 2 3 false 1) (cond (AV.isIntK (projT [2] b106.1) IntKind.i64) (∃ (b107 : Blk), And (Heap.blk H'100 c = some b107) (cond (okAt b107.1 [2] 2 3 false 1) (cond (AV.isIntK (projT [2] b107.1) IntKind.i64) (∃ (i108 : Nat), ∃ (j109 : Nat), ∃ (vs110 : List AV), ∃ (ls111 : List (List Int)), ∃ (pg112 : Int), And ([AV.ptr (Pl.mk i 0 [] 1), AV.int IntKind.i64 (AV.toInt (projT [2] b106.1))] = [AV.ptr (Pl.mk i108 0 [] 1), AV.int IntKind.i64 pg112]) (And (PinsR H'100 i108 j109 vs110 ls111) (∃ (i113 : Nat), ∃ (j114 : Nat), ∃ (ns115 : List (Ar 64)), ∃ (pg116 : Int), And ([AV.ptr (Pl.mk j 0 [] 1), AV.int IntKind.i64 (AV.toInt (projT [2] b107.1))] = [AV.ptr (Pl.mk i113 0 [] 1), AV.int IntKind.i64 pg116]) (And (RefR H'100 i113 j114 ns115) (And (SmallN ns115) (∃ (b117 : Blk), And (Heap.blk H'75 c = some b117) (cond (okAt b117.1 [1] 1 3 false 1) (cond (AV.beq (projT [1] b117.1) (AV.int IntKind.i64 (AV.toInt (projT [1] b24.1)))) (∃ (b118 : Blk), And (Heap.blk H'100 c = some b118) (cond (okAt b118.1 [2] 2 3 false 1) (cond (AV.beq (projT [2] b118.1) (AV.int IntKind.i64 (AV.toInt (projT [2] b107.1)))) (cond (!(↑(cntL pg112 ls111) : Int) == rcnt ns115 pg116) (k (AV.bool false) H'100 true) (resPS (S F) TL N 9 fuel 3 2 n0 [] [true, true, true, true, true, false, true] m (St.mk [(0, AV.bad), (1, AV.isl 3 (row encSt l)), (4, AV.bad), (5, AV.ptr (Pl.mk i 0 [] 1)), (6, AV.bad), (7, AV.ptr (Pl.mk j 0 [] 1)), (8, AV.bad), (9, AV.int IntKind.i64 (IntKind.wrap IntKind.i64 (ix + 1))), (10, AV.bad), (13, AV.bad), (34, AV.bad), (42, AV.bad), (50, AV.bad), (63, AV.bad), (76, AV.bad), (97, AV.bad)] [] H'100 true) k)) (False)) (False))) (False)) (False)))))))) (False)) (False))) (False)) (False))))))))))))))) (False)) (False))) (False)) (False)) := by
  have hlt := blk_lt hc
  refine ldg hc cellB (cT rfl (ldg hc cellB (cT rfl ⟨i, jp, vs, ls, s, rfl, h1.p, fun ho H30 K1 => ?_, fun hs k0 H30 hk0 hb K1 => ?_⟩)))
  · have h3 := h1.keep K1
    have hc3 := (K1.blk hlt (by simp)).trans hc
    have hle := K1.le
    refine ⟨j, jr, _, s, rfl, h3.r, h3.small, fun ho2 H35 K2 => ?_, fun hs2 k1 H35 hk1 hb1 K2 => ?_⟩
    · have hc5 := (K2.blk (by omega) (by simp)).trans hc3
      exact ⟨.nils, .nils, [], [], rfl, .inl ⟨rfl, rfl⟩, .inl ⟨rfl, rfl⟩, by simp, end3 (h3.keep K2) hc3 hc5 rfl (hk _ (h3.keep K2) (K1.trans K2))⟩
    · have hc5 := (K2.blk (by omega) (by simp)).trans hc3
      have hs := okR_map.1 hs2
      have h0 : ls.getD s.toNat [] = [] := ho.resolve_left (fun h => h hs)
      rw [getD_map hs, expand_cntA (getD_good h3.good hs)] at hb1 ⊢
      refine ⟨.nils, _, [], ls.getD s.toNat [], rfl, .inl ⟨rfl, rfl⟩, .inr ⟨k1, [], rfl, by simpa using hb1⟩, by simp, end3 (h3.keep K2) hc3 hc5 h0.symm (hk _ (h3.keep K2) (K1.trans K2))⟩
  · have h3 := h1.keep K1
    have hc3 := (K1.blk hlt (by simp)).trans hc
    have hle := K1.le
    have hgd := getD_good h3.good hs
    have hl16 := hgd.len
    refine ⟨j, jr, _, s, rfl, h3.r, h3.small, fun ho2 H35 K2 => ?_, fun hs2 k1 H35 hk1 hb1 K2 => ?_⟩
    · have hc5 := (K2.blk (by omega) (by simp)).trans hc3
      have h0 := ho2.resolve_left (fun h => h (okR_map.2 hs))
      rw [getD_map hs, expand_cntA hgd] at h0
      refine ⟨_, .nils, ls.getD s.toNat [], [], rfl, .inr ⟨k0, [], rfl, ?_⟩, .inl ⟨rfl, rfl⟩, by omega, end3 (h3.keep K2) hc3 hc5 h0 (hk _ (h3.keep K2) (K1.trans K2))⟩
      rw [K2.blk (blk_lt hb) (by simp), hb]
      simp
    · have hc5 := (K2.blk (by omega) (by simp)).trans hc3
      rw [getD_map hs, expand_cntA hgd] at hb1 ⊢
      refine ⟨_, _, ls.getD s.toNat [], ls.getD s.toNat [], rfl, .inr ⟨k0, [], rfl, ?_⟩, .inr ⟨k1, [], rfl, by simpa using hb1⟩, by omega, end3 (h3.keep K2) hc3 hc5 rfl (hk _ (h3.keep K2) (K1.trans K2))⟩
      rw [K2.blk (blk_lt hb) (by simp), hb]
      simp
end Go.Proofs.Ytclmndonaljppaa
/-
  PinsPlay: the law's run.
-/
namespace Go.Proofs.Ytclmndonaljppaa
open Go Go.X
variable {F : Nat} {N fuel m n0 : Nat} {l : List Stp} {i jp j jr c : Nat} {k : AV → Heap → Bool → Prop} {vs : List AV} {ls : List (List Int)}
set_option maxRecDepth 100000
theorem step_at {l : List Stp} {n : Nat} (h : n < l.length) : (Option.getD (row encSt l)[n]? AV.bad) = encSt l[n] := by simp [row, h]
theorem cell0 : okPl (AV.agg 3 [AV.bool false, AV.int IntKind.i64 0, AV.int IntKind.i64 0]) [] 0 3 3 = true := rfl
/-- The next memory: one of both has been written. -/
theorem Inv3.next {H1 H2 H3 : Heap} {vs' : List AV} {ls' : List (List Int)} (h : Inv3 H1 i jp j jr vs ls) (h2 : PinsR H2 i jp vs' ls') (hn : Nxt H1 i jp vs H2 vs') (h3 : RefR H3 j jr (ls'.map cntA)) (hk : Keep [j, jr] H2 H3) (hg : AllGood ls') : Inv3 H3 i jp j jr vs' ls' := by
  have hjl := blk_lt h.r.top
  have hrl := blk_lt h.r.arr
  have d1 : j ∉ i :: jp :: refsL vs' := fun hx => by
    have hd := h.d1
    simp only [List.mem_cons, not_or] at hx hd
    rcases hx with hx | hx | hx
    · exact hd.1 hx
    · exact hd.2.1 hx
    · rcases hn.new j hx with h | h
      · exact hd.2.2 h
      · omega
  have d2 : jr ∉ i :: jp :: refsL vs' := fun hx => by
    have hd := h.d2
    simp only [List.mem_cons, not_or] at hx hd
    rcases hx with hx | hx | hx
    · exact hd.1 hx
    · exact hd.2.1 hx
    · rcases hn.new jr hx with h | h
      · exact hd.2.2 h
      · omega
  refine ⟨h2.keep' hk fun x hx => ?_, h3, hg, d1, d2⟩
  simp only [List.mem_cons, List.not_mem_nil, or_false, not_or]
  exact ⟨fun he => d1 (he ▸ hx), fun he => d2 (he ▸ hx)⟩
/-- The reference's place is not touched by the program. -/
theorem Inv3.ref {H1 H2 : Heap} {vs' : List AV} (h : Inv3 H1 i jp j jr vs ls) (hn : Nxt H1 i jp vs H2 vs') : RefR H2 j jr (ls.map cntA) := h.r.keep hn.keep h.d1 h.d2
theorem Inv3.notc {H1 : Heap} (h : Inv3 H1 i jp j jr vs ls) {c : Nat} (hc : ∀ x ∈ i :: jp :: refsL vs, x ≠ c) : c ∉ i :: jp :: refsL vs := fun hx => hc c hx rfl
theorem stepA3 {H : Heap} {ix : Nat} (hi : ix < l.length) (h : Inv3 H i jp j jr vs ls)
    (hk : ∀ H2 vs' ls', Inv3 H2 i jp j jr vs' ls' → resPS (S F) TL N 9 fuel 3 2 n0 [] pO m ⟨L3 (.isl 3 (row encSt l)) (.ptr ⟨i, 0, [], 1⟩) (.ptr ⟨j, 0, [], 1⟩) (IntKind.i64.wrap ((ix : Int) + 1)), [], H2, true⟩ k) :
    resPS (S F) TL N 9 fuel 3 2 n0 [] pO (m + 1) ⟨L3 (.isl 3 (row encSt l)) (.ptr ⟨i, 0, [], 1⟩) (.ptr ⟨j, 0, [], 1⟩) ix, [], H, true⟩ k := by
  rw [step3]
  have hil : (ix : Int) < ((row encSt l).length : Int) := by rw [row_length]; omega
  refine cD hil (cD (by omega) ?_)
  rw [Int.toNat_natCast, step_at hi]
  refine cT rfl (cT rfl (cT rfl (cT rfl (ldg (blk_new rfl) cell0 ?_))))
  rintro H1 rfl
  have hH : H.length < (H ++ [some (Blk.mk (AV.agg 3 [AV.bool false, AV.int IntKind.i64 0, AV.int IntKind.i64 0]) false true)]).length := by simp
  have hb := blk_set (b := ⟨.agg 3 [.bool l[ix].drop, .int .i64 l[ix].s, .int .i64 l[ix].pg], false, true⟩) hH rfl
  have hK : Keep [] H ((H ++ [some (Blk.mk (AV.agg 3 [AV.bool false, AV.int IntKind.i64 0, AV.int IntKind.i64 0]) false true)]).set H.length (some ⟨.agg 3 [.bool l[ix].drop, .int .i64 l[ix].s, .int .i64 l[ix].pg], false, true⟩)) := (Keep.refl _ H).appIn.setIn (.inr (Nat.le_refl _))
  have h1 := h.keep hK
  have hlt := blk_lt hb
  have hcn : H.length ∉ i :: jp :: refsL vs := fun hx => by have := h.p.lt _ hx; omega
  have hcj : H.length ∉ [j, jr] := by
    have := blk_lt h.r.top
    have := blk_lt h.r.arr
    simp only [List.mem_cons, List.not_mem_nil, or_false, not_or]
    omega
  refine ldg hb cellA (cT rfl ?_)
  by_cases hd : l[ix].drop = true
  · refine cT hd (ldg hb cellB (cT rfl (ldg hb cellC (cT rfl (ldg hb cellB (cT rfl (ldg hb cellC (cT rfl ⟨i, jp, vs, ls, l[ix].s, l[ix].pg, rfl, h1.p, fun H2 vs' h2 hn => ?_⟩))))))))
    have hb2 := (hn.keep.blk hlt hcn).trans hb
    have hle := hn.keep.le
    refine ⟨j, jr, _, l[ix].s, l[ix].pg, rfl, h1.ref hn, h1.small, fun H3 h3 hk3 => ldg hb2 cellB (cT beq_int (ldg hb2 cellC (cT beq_int (cF ?_ ?_))))⟩
    · rw [dropErr_eq h1.good]
      simp
    · rw [dropS_eq h1.good] at h3
      have h4 := h1.next h2 hn h3 hk3 (dropS_good h1.good _ _)
      have hb3 := (hk3.blk (Nat.lt_of_lt_of_le hlt hle) hcj).trans hb2
      exact tail3 h4 hb3 fun H5 h5 _ => hk H5 _ _ h5
  · have hd : l[ix].drop = false := by simpa using hd
    refine cF hd (ldg hb cellB (cT rfl (ldg hb cellC (cT rfl (ldg hb cellB (cT rfl (ldg hb cellC (cT rfl ⟨i, jp, vs, ls, l[ix].s, l[ix].pg, rfl, h1.p, fun H2 vs' h2 hn => ?_⟩))))))))
    have hb2 := (hn.keep.blk hlt hcn).trans hb
    have hle := hn.keep.le
    refine ⟨j, jr, _, l[ix].s, l[ix].pg, rfl, h1.ref hn, h1.small, fun H3 h3 hk3 => ldg hb2 cellB (cT beq_int (ldg hb2 cellC (cT beq_int (cF ?_ ?_))))⟩
    · rw [addErr_eq h1.good]
      simp
    · rw [addS_eq h1.good] at h3
      have h4 := h1.next h2 hn h3 hk3 (addS_good h1.good _ _)
      have hb3 := (hk3.blk (Nat.lt_of_lt_of_le hlt hle) hcj).trans hb2
      exact tail3 h4 hb3 fun H5 h5 _ => hk H5 _ _ h5
theorem loop3 (hl : l.length ≤ 200) (hk : ∀ H, k (.bool true) H true) : ∀ (d ix m : Nat) (H : Heap) (vs : List AV) (ls : List (List Int)), ix + d = l.length → d < m → Inv3 H i jp j jr vs ls →
    resPS (S F) TL N 9 fuel 3 2 n0 [] pO m ⟨L3 (.isl 3 (row encSt l)) (.ptr ⟨i, 0, [], 1⟩) (.ptr ⟨j, 0, [], 1⟩) ix, [], H, true⟩ k
  | _, _, 0, _, _, _, _, h, _ => by omega
  | 0, ix, m + 1, H, vs, ls, hd, _, h => by
    rw [step3]
    exact cN (by rw [row_length]; omega) ⟨rfl, hk _⟩
  | d + 1, ix, m + 1, H, vs, ls, hd, hm, h => by
    have hw : IntKind.i64.wrap ((ix : Int) + 1) = ((ix + 1 : Nat) : Int) := wrapS (by omega)
    refine stepA3 (by omega) h fun H2 vs' ls' h2 => ?_
    rw [hw]
    exact loop3 hl hk d (ix + 1) m H2 vs' ls' (by omega) (by omega) h2
theorem allGood_nil (n : Nat) : AllGood (List.replicate n []) := fun l hl => by
  rw [(List.mem_replicate.1 hl).2]
  exact good_nil
theorem cntA_nil : cntA [] = Ar.zero 64 := Ar.ext fun i hi => by
  rw [cntA_get hi]
  rfl
theorem inv3_start {H H' : Heap} {n : Nat} (h : PinsR H i jp vs (List.replicate n [])) (hk : Keep [] H H') (h2 : RefR H' j jr (List.replicate n (Ar.zero 64))) (hj : H.length ≤ j) (hr : H.length ≤ jr) : Inv3 H' i jp j jr vs (List.replicate n []) := by
  refine ⟨h.keep' hk (by simp), ?_, allGood_nil n, fun hx => ?_, fun hx => ?_⟩
  · rw [List.map_replicate, cntA_nil]
    exact h2
  · have := h.lt _ hx; omega
  · have := h.lt _ hx; omega
theorem play3 (N : Nat) (l : List Stp) (n : Int) : runP (S F) TL N 9 (S F).fu 3 [.int .i64 n, .isl 3 (row encSt l)] [] fun v _ _ => v = .bool true := by
  rw [start3]
  by_cases h200 : ((row encSt l).length : Int) > 200
  · exact cD h200 ⟨rfl, rfl⟩
  rw [row_length] at h200
  refine cN (by rw [row_length]; exact h200) ⟨n, rfl, fun hn => ⟨n, rfl, fun _ => ?_, fun h1 h2 => absurd ⟨h1, h2⟩ hn⟩, fun h1 h2 i jp vs H hp _ _ => ⟨n, rfl, fun hn => absurd ⟨h1, h2⟩ hn, fun _ _ j jr H2 hr hk hj hjr => ?_⟩⟩
  · have hst := step3z (F := F) N (S F).fu (F + 4999) 0 l [] 0 (fun v _ _ => v = .bool true)
    rw [show (F + 4999) + 1 = (S F).fu from rfl] at hst
    refine hst.symm ▸ ?_
    by_cases h0 : (0 : Int) < ((row encSt l).length : Int)
    · exact cD h0 ⟨rfl, rfl⟩
    · exact cN h0 ⟨rfl, rfl⟩
  · exact loop3 (by omega) (fun _ => rfl) l.length 0 (S F).fu H2 vs _ (by omega) (by rw [S_fu]; omega) (inv3_start hp hk hr hj hjr)
theorem play3n (N : Nat) (n : Int) : runP (S F) TL N 9 (S F).fu 3 [.int .i64 n, .nils] [] fun v _ _ => v = .bool true := by
  rw [start3n]
  refine ⟨n, rfl, fun hn => ⟨n, rfl, fun _ => ?_, fun h1 h2 => absurd ⟨h1, h2⟩ hn⟩, fun h1 h2 i jp vs H hp _ _ => ⟨n, rfl, fun hn => absurd ⟨h1, h2⟩ hn, fun _ _ j jr H2 hr hk hj hjr => ?_⟩⟩
  · have hst := step3nz (F := F) N (S F).fu (F + 4999) 0 [] (fun v _ _ => v = .bool true)
    rw [show (F + 4999) + 1 = (S F).fu from rfl] at hst
    exact hst.symm ▸ ⟨rfl, rfl⟩
  · have hst := step3n (F := F) N (S F).fu (F + 4999) 0 i j H2 (fun v _ _ => v = .bool true)
    rw [show (F + 4999) + 1 = (S F).fu from rfl] at hst
    exact hst.symm ▸ ⟨rfl, rfl⟩
end Go.Proofs.Ytclmndonaljppaa
/-
  Pins: inputs laid open; runs.
-/
namespace Go.Proofs.Ytclmndonaljppaa
open Go Go.X
theorem own : ownKnob Try.prog.godebug = none := by kernel_rfl
theorem laidOut : laidOutB Try.prog = true := by kernel_rfl
set_option maxRecDepth 100000 in
theorem step_open {x : AV} (h : WT Try.prog 3 32 x) : ∃ st : Stp, x = encSt st := by
  obtain ⟨ps, rfl, hq⟩ := WT.struct (k := 2) (n := 3) Try.underlying32 (by kernel_rfl) h
  obtain ⟨a, r, rfl, g0, k0⟩ := all2_cons hq
  obtain ⟨b, r, rfl, g1, k1⟩ := all2_cons k0
  obtain ⟨c, r, rfl, g2, k2⟩ := all2_cons k1
  obtain rfl := all2_nil k2
  obtain ⟨a, rfl⟩ := WT.bool (k := 1) Try.underlying4 g0
  obtain ⟨b, rfl, _⟩ := WT.int (k := 1) Try.underlying3 g1
  obtain ⟨c, rfl, _⟩ := WT.int (k := 1) Try.underlying3 g2
  exact ⟨⟨a, b, c⟩, rfl⟩
set_option maxRecDepth 100000 in
theorem steps_open : ∀ {xs : List AV}, (∀ x ∈ xs, WT Try.prog 3 32 x) → ∃ l : List Stp, xs = row encSt l
  | [], _ => ⟨[], rfl⟩
  | x :: xs, h => by
    obtain ⟨l, rfl⟩ := steps_open fun y hy => h y (List.mem_cons_of_mem _ hy)
    obtain ⟨st, rfl⟩ := step_open (h x List.mem_cons_self)
    exact ⟨st :: l, rfl⟩
set_option maxRecDepth 100000 in
theorem arg_open {v : AV} (h : WT Try.prog 4 22 v) : v = .nils ∨ ∃ l : List Stp, v = .isl 3 (row encSt l) := by
  rcases WT.slice (k := 3) (sz := 3) Try.underlying22 (by kernel_rfl) h with rfl | ⟨xs, rfl, _, hx⟩
  · exact .inl rfl
  · obtain ⟨l, rfl⟩ := steps_open hx
    exact .inr ⟨l, rfl⟩
end Go.Proofs.Ytclmndonaljppaa
