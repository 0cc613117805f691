/- Pins: a law's trees.
-/
import Derived.Test.YtclmndonaljppaaKai

namespace Go.Proofs.Ytclmndonaljppaa
open Go Go.X
variable {F : Nat}
abbrev L6 (a b : AV) (i j : Nat) (ix : Int) : List (Nat × AV) := [(0, a), (1, b), (4, .bad), (5, .ptr ⟨i, 0, [], 1⟩), (6, .bad), (7, .ptr ⟨j, 0, [], 1⟩), (8, .bad), (9, .int .i64 ix), (10, .bad), (11, .bad), (12, .bad), (20, .bad), (43, .bad), (50, .bad), (56, .bad), (62, .bad), (71, .bad), (80, .bad), (84, .bad), (89, .bad), (109, .bad), (111, .bad)]
abbrev L6b (i : Nat) (c q : Int) : List (Nat × AV) := [(0, .bad), (1, .bad), (4, .bad), (5, .ptr ⟨i, 0, [], 1⟩), (6, .bad), (7, .bad), (8, .bad), (9, .bad), (10, .bad), (11, .int .i64 c), (12, .int .i64 q), (20, .bad), (43, .bad), (50, .bad), (56, .bad), (62, .bad), (71, .bad), (80, .bad), (84, .bad), (89, .bad), (109, .bad), (111, .bad)]
theorem start6 (N fuel : Nat) (l m : List Stp) (k : AV → Heap → Bool → Prop) :
 (runP (S F) TL N 9 fuel 6 [.isl 3 (row encSt l), .isl 3 (row encSt m)] [] k) =
 ((cond (decide ((↑(List.length (row encSt l)) : Int) > 60))
 (And (([] : List AV) = [])
 (k (AV.bool true) [] true))
 (cond (decide ((↑(List.length (row encSt m)) : Int) > 60))
 (And (([] : List AV) = [])
 (k (AV.bool true) [] true))
 (∃ (n0 : Int),
 And ([AV.int IntKind.i64 2] = [AV.int IntKind.i64 n0])
 (And ((¬(1 ≤ n0 ∧ n0 ≤ 4)) →
 ∃ (n1 : Int),
 And ([AV.int IntKind.i64 2] = [AV.int IntKind.i64 n1])
 (And ((¬(1 ≤ n1 ∧ n1 ≤ 4)) →
 k (AV.bool false) [] true)
 ((1 ≤ n1) →
 (n1 ≤ 4) →
 ∀ (i2 : Nat),
 ∀ (j3 : Nat),
 ∀ (vs4 : List AV),
 ∀ (H'5 : Heap),
 (PinsR H'5 i2 j3 vs4 (List.replicate (Int.toNat n1) [])) →
 (Keep [] [] H'5) →
 (Fresh [] (i2 :: j3 :: refsL vs4)) →
 k (AV.bool false) H'5 true)))
 ((1 ≤ n0) →
 (n0 ≤ 4) →
 ∀ (i6 : Nat),
 ∀ (j7 : Nat),
 ∀ (vs8 : List AV),
 ∀ (H'9 : Heap),
 (PinsR H'9 i6 j7 vs8 (List.replicate (Int.toNat n0) [])) →
 (Keep [] [] H'9) →
 (Fresh [] (i6 :: j7 :: refsL vs8)) →
 ∃ (n10 : Int),
 And ([AV.int IntKind.i64 2] = [AV.int IntKind.i64 n10])
 (And ((¬(1 ≤ n10 ∧ n10 ≤ 4)) →
 k (AV.bool false) H'9 true)
 ((1 ≤ n10) →
 (n10 ≤ 4) →
 ∀ (i11 : Nat),
 ∀ (j12 : Nat),
 ∀ (vs13 : List AV),
 ∀ (H'14 : Heap),
 (PinsR H'14 i11 j12 vs13 (List.replicate (Int.toNat n10) [])) →
 (Keep [] H'9 H'14) →
 (Fresh H'9 (i11 :: j12 :: refsL vs13)) →
 resPS (S F) TL N 9 fuel 6 2 0 [] [true, true, true, true, true, false, true] fuel (St.mk [(0, AV.isl 3 (row encSt l)), (1, AV.isl 3 (row encSt m)), (4, AV.bad), (5, AV.ptr (Pl.mk i6 0 [] 1)), (6, AV.bad), (7, AV.ptr (Pl.mk i11 0 [] 1)), (8, AV.bad), (9, AV.int IntKind.i64 0), (10, AV.bad), (11, AV.bad), (12, AV.bad), (20, AV.bad), (43, AV.bad), (50, AV.bad), (56, AV.bad), (62, AV.bad), (71, AV.bad), (80, AV.bad), (84, AV.bad), (89, AV.bad), (109, AV.bad), (111, AV.bad)] [] H'14 true) k))))))) : Prop) := by kernel_rfl
theorem step6 (N fuel m n0 : Nat) (l m2 : List Stp) (i j : Nat) (H : Heap) (ix : Int) (k : AV → Heap → Bool → Prop) :
 (resPS (S F) TL N 9 fuel 6 2 n0 [] [true, true, true, true, true, false, true] (m + 1) ⟨L6 (.isl 3 (row encSt l)) (.isl 3 (row encSt m2)) i j ix, [], H, true⟩ k) =
 ((cond (decide (ix < if (↑(List.length (row encSt m2)) : Int) > (↑(List.length (row encSt l)) : Int) then (↑(List.length (row encSt m2)) : Int) else (↑(List.length (row encSt l)) : Int)))
 (cond (decide (ix < (↑(List.length (row encSt l)) : Int)))
 (cond (decide (0 ≤ ix))
 (cond (AV.isAggN (Option.getD (row encSt l)[Int.toNat ix]? AV.bad) 3 3)
 (cond (AV.isBoolV (AV.part (Option.getD (row encSt l)[Int.toNat ix]? AV.bad) 0))
 (cond (AV.isIntK (AV.part (Option.getD (row encSt l)[Int.toNat ix]? AV.bad) 1) IntKind.i64)
 (cond (AV.isIntK (AV.part (Option.getD (row encSt l)[Int.toNat ix]? AV.bad) 2) IntKind.i64)
 (∃ (b0 : Blk),
 And (Heap.blk (H ++ [some (Blk.mk (AV.agg 3 [AV.bool false, AV.int IntKind.i64 0, AV.int IntKind.i64 0]) false true)]) (List.length H) = some b0)
 (cond (okPl b0.1 [] 0 3 3)
 (∀ (H'1 : Heap),
 (H'1 = List.set (H ++ [some (Blk.mk (AV.agg 3 [AV.bool false, AV.int IntKind.i64 0, AV.int IntKind.i64 0]) false true)]) (List.length H) (some (Blk.mk (AV.agg 3 [AV.bool (AV.toBool (AV.part (Option.getD (row encSt l)[Int.toNat ix]? AV.bad) 0)), AV.int IntKind.i64 (AV.toInt (AV.part (Option.getD (row encSt l)[Int.toNat ix]? AV.bad) 1)), AV.int IntKind.i64 (AV.toInt (AV.part (Option.getD (row encSt l)[Int.toNat ix]? AV.bad) 2))]) b0.2 b0.3))) →
 ∃ (b2 : Blk),
 And (Heap.blk H'1 (List.length H) = some b2)
 (cond (okAt b2.1 [0] 0 3 false 1)
 (cond (AV.isBoolV (projT [0] b2.1))
 (cond (AV.toBool (projT [0] b2.1))
 (∃ (b3 : Blk),
 And (Heap.blk H'1 (List.length H) = some b3)
 (cond (okAt b3.1 [2] 2 3 false 1)
 (cond (AV.isIntK (projT [2] b3.1) IntKind.i64)
 (∃ (b4 : Blk),
 And (Heap.blk H'1 (List.length H) = some b4)
 (cond (okAt b4.1 [2] 2 3 false 1)
 (cond (AV.isIntK (projT [2] b4.1) IntKind.i64)
 (∃ (i5 : Nat),
 ∃ (j6 : Nat),
 ∃ (vs7 : List AV),
 ∃ (ls8 : List (List Int)),
 ∃ (s9 : Int),
 ∃ (pg10 : Int),
 And ([AV.ptr (Pl.mk i 0 [] 1), AV.int IntKind.i64 0, AV.int IntKind.i64 (AV.toInt (projT [2] b3.1))] = [AV.ptr (Pl.mk i5 0 [] 1), AV.int IntKind.i64 s9, AV.int IntKind.i64 pg10])
 (And (PinsR H'1 i5 j6 vs7 ls8)
 (∀ (H'11 : Heap),
 ∀ (vs'12 : List AV),
 (PinsR H'11 i5 j6 vs'12 (dropS ls8 s9 pg10)) →
 (Nxt H'1 i5 j6 vs7 H'11 vs'12) →
 ∃ (i13 : Nat),
 ∃ (j14 : Nat),
 ∃ (vs15 : List AV),
 ∃ (ls16 : List (List Int)),
 ∃ (s17 : Int),
 ∃ (pg18 : Int),
 And ([AV.ptr (Pl.mk j 0 [] 1), AV.int IntKind.i64 0, AV.int IntKind.i64 (AV.toInt (projT [2] b4.1))] = [AV.ptr (Pl.mk i13 0 [] 1), AV.int IntKind.i64 s17, AV.int IntKind.i64 pg18])
 (And (PinsR H'11 i13 j14 vs15 ls16)
 (∀ (H'19 : Heap),
 ∀ (vs'20 : List AV),
 (PinsR H'19 i13 j14 vs'20 (dropS ls16 s17 pg18)) →
 (Nxt H'11 i13 j14 vs15 H'19 vs'20) →
 ∃ (b21 : Blk),
 And (Heap.blk H'11 (List.length H) = some b21)
 (cond (okAt b21.1 [2] 2 3 false 1)
 (cond (AV.beq (projT [2] b21.1) (AV.int IntKind.i64 (AV.toInt (projT [2] b4.1))))
 (cond (!dropErr ls8 s9 pg10 == dropErr ls16 s17 pg18)
 (k (AV.bool false) H'19 true)
 (cond (decide (ix < (↑(List.length (row encSt m2)) : Int)))
 (cond (decide (0 ≤ ix))
 (cond (AV.isAggN (Option.getD (row encSt m2)[Int.toNat ix]? AV.bad) 3 3)
 (cond (AV.isBoolV (AV.part (Option.getD (row encSt m2)[Int.toNat ix]? AV.bad) 0))
 (cond (AV.isIntK (AV.part (Option.getD (row encSt m2)[Int.toNat ix]? AV.bad) 1) IntKind.i64)
 (cond (AV.isIntK (AV.part (Option.getD (row encSt m2)[Int.toNat ix]? AV.bad) 2) IntKind.i64)
 (cond (AV.toBool (AV.part (Option.getD (row encSt m2)[Int.toNat ix]? AV.bad) 0))
 (cond (decide (0 ≤ ix))
 (cond (AV.isAggN (Option.getD (row encSt m2)[Int.toNat ix]? AV.bad) 3 3)
 (cond (AV.isBoolV (AV.part (Option.getD (row encSt m2)[Int.toNat ix]? AV.bad) 0))
 (cond (AV.isIntK (AV.part (Option.getD (row encSt m2)[Int.toNat ix]? AV.bad) 1) IntKind.i64)
 (cond (AV.isIntK (AV.part (Option.getD (row encSt m2)[Int.toNat ix]? AV.bad) 2) IntKind.i64)
 (∃ (i22 : Nat),
 ∃ (j23 : Nat),
 ∃ (vs24 : List AV),
 ∃ (ls25 : List (List Int)),
 ∃ (s26 : Int),
 ∃ (pg27 : Int),
 And ([AV.ptr (Pl.mk i 0 [] 1), AV.int IntKind.i64 1, AV.int IntKind.i64 (AV.toInt (AV.part (Option.getD (row encSt m2)[Int.toNat ix]? AV.bad) 2))] = [AV.ptr (Pl.mk i22 0 [] 1), AV.int IntKind.i64 s26, AV.int IntKind.i64 pg27])
 (And (PinsR H'19 i22 j23 vs24 ls25)
 (∀ (H'28 : Heap),
 ∀ (vs'29 : List AV),
 (PinsR H'28 i22 j23 vs'29 (dropS ls25 s26 pg27)) →
 (Nxt H'19 i22 j23 vs24 H'28 vs'29) →
 ∃ (i30 : Nat),
 ∃ (j31 : Nat),
 ∃ (vs32 : List AV),
 ∃ (ls33 : List (List Int)),
 ∃ (s34 : Int),
 And ([AV.ptr (Pl.mk i 0 [] 1), AV.int IntKind.i64 0] = [AV.ptr (Pl.mk i30 0 [] 1), AV.int IntKind.i64 s34])
 (And (PinsR H'28 i30 j31 vs32 ls33)
 (And ((¬OkS ls33 s34 ∨ List.getD ls33 (Int.toNat s34) [] = []) →
 ∀ (H'35 : Heap),
 (Keep [] H'28 H'35) →
 ∃ (i36 : Nat),
 ∃ (j37 : Nat),
 ∃ (vs38 : List AV),
 ∃ (ls39 : List (List Int)),
 ∃ (s40 : Int),
 And ([AV.ptr (Pl.mk j 0 [] 1), AV.int IntKind.i64 0] = [AV.ptr (Pl.mk i36 0 [] 1), AV.int IntKind.i64 s40])
 (And (PinsR H'35 i36 j37 vs38 ls39)
 (And ((¬OkS ls39 s40 ∨ List.getD ls39 (Int.toNat s40) [] = []) →
 ∀ (H'41 : Heap),
 (Keep [] H'35 H'41) →
 ∃ (v42 : AV),
 ∃ (w43 : AV),
 ∃ (l44 : List Int),
 ∃ (m45 : List Int),
 And ([AV.nils, AV.nils] = [v42, w43])
 (And (Slot H'41 v42 l44)
 (And (Slot H'41 w43 m45)
 (And (List.length l44 ≤ 1000)
 (cond (!decide (l44 = m45))
 (k (AV.bool false) H'41 true)
 (resPS (S F) TL N 9 fuel 6 2 n0 [] [true, true, true, true, true, false, true] m (St.mk [(0, AV.isl 3 (row encSt l)), (1, AV.isl 3 (row encSt m2)), (4, AV.bad), (5, AV.ptr (Pl.mk i 0 [] 1)), (6, AV.bad), (7, AV.ptr (Pl.mk j 0 [] 1)), (8, AV.bad), (9, AV.int IntKind.i64 (IntKind.wrap IntKind.i64 (ix + 1))), (10, AV.bad), (11, AV.bad), (12, AV.bad), (20, AV.bad), (43, AV.bad), (50, AV.bad), (56, AV.bad), (62, AV.bad), (71, AV.bad), (80, AV.bad), (84, AV.bad), (89, AV.bad), (109, AV.bad), (111, AV.bad)] [] H'41 true) k))))))
 ((OkS ls39 s40) →
 ∀ (k046 : Nat),
 ∀ (H'47 : Heap),
 (List.length H'35 ≤ k046) →
 (Heap.blk H'47 k046 = some (Blk.mk (AV.arr 1 (row encZ (List.getD ls39 (Int.toNat s40) []))) true true)) →
 (Keep [] H'35 H'47) →
 ∃ (v48 : AV),
 ∃ (w49 : AV),
 ∃ (l50 : List Int),
 ∃ (m51 : List Int),
 And ([AV.nils, AV.sl (Pl.mk k046 0 [] (List.length (List.getD ls39 (Int.toNat s40) []))) 1 (List.length (List.getD ls39 (Int.toNat s40) [])) 0 (List.length (List.getD ls39 (Int.toNat s40) []))] = [v48, w49])
 (And (Slot H'47 v48 l50)
 (And (Slot H'47 w49 m51)
 (And (List.length l50 ≤ 1000)
 (cond (!decide (l50 = m51))
 (k (AV.bool false) H'47 true)
 (resPS (S F) TL N 9 fuel 6 2 n0 [] [true, true, true, true, true, false, true] m (St.mk [(0, AV.isl 3 (row encSt l)), (1, AV.isl 3 (row encSt m2)), (4, AV.bad), (5, AV.ptr (Pl.mk i 0 [] 1)), (6, AV.bad), (7, AV.ptr (Pl.mk j 0 [] 1)), (8, AV.bad), (9, AV.int IntKind.i64 (IntKind.wrap IntKind.i64 (ix + 1))), (10, AV.bad), (11, AV.bad), (12, AV.bad), (20, AV.bad), (43, AV.bad), (50, AV.bad), (56, AV.bad), (62, AV.bad), (71, AV.bad), (80, AV.bad), (84, AV.bad), (89, AV.bad), (109, AV.bad), (111, AV.bad)] [] H'47 true) k)))))))))
 ((OkS ls33 s34) →
 ∀ (k052 : Nat),
 ∀ (H'53 : Heap),
 (List.length H'28 ≤ k052) →
 (Heap.blk H'53 k052 = some (Blk.mk (AV.arr 1 (row encZ (List.getD ls33 (Int.toNat s34) []))) true true)) →
 (Keep [] H'28 H'53) →
 ∃ (i54 : Nat),
 ∃ (j55 : Nat),
 ∃ (vs56 : List AV),
 ∃ (ls57 : List (List Int)),
 ∃ (s58 : Int),
 And ([AV.ptr (Pl.mk j 0 [] 1), AV.int IntKind.i64 0] = [AV.ptr (Pl.mk i54 0 [] 1), AV.int IntKind.i64 s58])
 (And (PinsR H'53 i54 j55 vs56 ls57)
 (And ((¬OkS ls57 s58 ∨ List.getD ls57 (Int.toNat s58) [] = []) →
 ∀ (H'59 : Heap),
 (Keep [] H'53 H'59) →
 ∃ (v60 : AV),
 ∃ (w61 : AV),
 ∃ (l62 : List Int),
 ∃ (m63 : List Int),
 And ([AV.sl (Pl.mk k052 0 [] (List.length (List.getD ls33 (Int.toNat s34) []))) 1 (List.length (List.getD ls33 (Int.toNat s34) [])) 0 (List.length (List.getD ls33 (Int.toNat s34) [])), AV.nils] = [v60, w61])
 (And (Slot H'59 v60 l62)
 (And (Slot H'59 w61 m63)
 (And (List.length l62 ≤ 1000)
 (cond (!decide (l62 = m63))
 (k (AV.bool false) H'59 true)
 (resPS (S F) TL N 9 fuel 6 2 n0 [] [true, true, true, true, true, false, true] m (St.mk [(0, AV.isl 3 (row encSt l)), (1, AV.isl 3 (row encSt m2)), (4, AV.bad), (5, AV.ptr (Pl.mk i 0 [] 1)), (6, AV.bad), (7, AV.ptr (Pl.mk j 0 [] 1)), (8, AV.bad), (9, AV.int IntKind.i64 (IntKind.wrap IntKind.i64 (ix + 1))), (10, AV.bad), (11, AV.bad), (12, AV.bad), (20, AV.bad), (43, AV.bad), (50, AV.bad), (56, AV.bad), (62, AV.bad), (71, AV.bad), (80, AV.bad), (84, AV.bad), (89, AV.bad), (109, AV.bad), (111, AV.bad)] [] H'59 true) k))))))
 ((OkS ls57 s58) →
 ∀ (k064 : Nat),
 ∀ (H'65 : Heap),
 (List.length H'53 ≤ k064) →
 (Heap.blk H'65 k064 = some (Blk.mk (AV.arr 1 (row encZ (List.getD ls57 (Int.toNat s58) []))) true true)) →
 (Keep [] H'53 H'65) →
 ∃ (v66 : AV),
 ∃ (w67 : AV),
 ∃ (l68 : List Int),
 ∃ (m69 : List Int),
 And ([AV.sl (Pl.mk k052 0 [] (List.length (List.getD ls33 (Int.toNat s34) []))) 1 (List.length (List.getD ls33 (Int.toNat s34) [])) 0 (List.length (List.getD ls33 (Int.toNat s34) [])), AV.sl (Pl.mk k064 0 [] (List.length (List.getD ls57 (Int.toNat s58) []))) 1 (List.length (List.getD ls57 (Int.toNat s58) [])) 0 (List.length (List.getD ls57 (Int.toNat s58) []))] = [v66, w67])
 (And (Slot H'65 v66 l68)
 (And (Slot H'65 w67 m69)
 (And (List.length l68 ≤ 1000)
 (cond (!decide (l68 = m69))
 (k (AV.bool false) H'65 true)
 (resPS (S F) TL N 9 fuel 6 2 n0 [] [true, true, true, true, true, false, true] m (St.mk [(0, AV.isl 3 (row encSt l)), (1, AV.isl 3 (row encSt m2)), (4, AV.bad), (5, AV.ptr (Pl.mk i 0 [] 1)), (6, AV.bad), (7, AV.ptr (Pl.mk j 0 [] 1)), (8, AV.bad), (9, AV.int IntKind.i64 (IntKind.wrap IntKind.i64 (ix + 1))), (10, AV.bad), (11, AV.bad), (12, AV.bad), (20, AV.bad), (43, AV.bad), (50, AV.bad), (56, AV.bad), (62, AV.bad), (71, AV.bad), (80, AV.bad), (84, AV.bad), (89, AV.bad), (109, AV.bad), (111, AV.bad)] [] H'65 true) k))))))))))))))
 (False))
 (False))
 (False))
 (False))
 (False))
 (cond (decide (0 ≤ ix))
 (cond (AV.isAggN (Option.getD (row encSt m2)[Int.toNat ix]? AV.bad) 3 3)
 (cond (AV.isBoolV (AV.part (Option.getD (row encSt m2)[Int.toNat ix]? AV.bad) 0))
 (cond (AV.isIntK (AV.part (Option.getD (row encSt m2)[Int.toNat ix]? AV.bad) 1) IntKind.i64)
 (cond (AV.isIntK (AV.part (Option.getD (row encSt m2)[Int.toNat ix]? AV.bad) 2) IntKind.i64)
 (∃ (i70 : Nat),
 ∃ (j71 : Nat),
 ∃ (vs72 : List AV),
 ∃ (ls73 : List (List Int)),
 ∃ (s74 : Int),
 ∃ (pg75 : Int),
 And ([AV.ptr (Pl.mk i 0 [] 1), AV.int IntKind.i64 1, AV.int IntKind.i64 (AV.toInt (AV.part (Option.getD (row encSt m2)[Int.toNat ix]? AV.bad) 2))] = [AV.ptr (Pl.mk i70 0 [] 1), AV.int IntKind.i64 s74, AV.int IntKind.i64 pg75])
 (And (PinsR H'19 i70 j71 vs72 ls73)
 (∀ (H'76 : Heap),
 ∀ (vs'77 : List AV),
 (PinsR H'76 i70 j71 vs'77 (addS ls73 s74 pg75)) →
 (Nxt H'19 i70 j71 vs72 H'76 vs'77) →
 ∃ (i78 : Nat),
 ∃ (j79 : Nat),
 ∃ (vs80 : List AV),
 ∃ (ls81 : List (List Int)),
 ∃ (s82 : Int),
 And ([AV.ptr (Pl.mk i 0 [] 1), AV.int IntKind.i64 0] = [AV.ptr (Pl.mk i78 0 [] 1), AV.int IntKind.i64 s82])
 (And (PinsR H'76 i78 j79 vs80 ls81)
 (And ((¬OkS ls81 s82 ∨ List.getD ls81 (Int.toNat s82) [] = []) →
 ∀ (H'83 : Heap),
 (Keep [] H'76 H'83) →
 ∃ (i84 : Nat),
 ∃ (j85 : Nat),
 ∃ (vs86 : List AV),
 ∃ (ls87 : List (List Int)),
 ∃ (s88 : Int),
 And ([AV.ptr (Pl.mk j 0 [] 1), AV.int IntKind.i64 0] = [AV.ptr (Pl.mk i84 0 [] 1), AV.int IntKind.i64 s88])
 (And (PinsR H'83 i84 j85 vs86 ls87)
 (And ((¬OkS ls87 s88 ∨ List.getD ls87 (Int.toNat s88) [] = []) →
 ∀ (H'89 : Heap),
 (Keep [] H'83 H'89) →
 ∃ (v90 : AV),
 ∃ (w91 : AV),
 ∃ (l92 : List Int),
 ∃ (m93 : List Int),
 And ([AV.nils, AV.nils] = [v90, w91])
 (And (Slot H'89 v90 l92)
 (And (Slot H'89 w91 m93)
 (And (List.length l92 ≤ 1000)
 (cond (!decide (l92 = m93))
 (k (AV.bool false) H'89 true)
 (resPS (S F) TL N 9 fuel 6 2 n0 [] [true, true, true, true, true, false, true] m (St.mk [(0, AV.isl 3 (row encSt l)), (1, AV.isl 3 (row encSt m2)), (4, AV.bad), (5, AV.ptr (Pl.mk i 0 [] 1)), (6, AV.bad), (7, AV.ptr (Pl.mk j 0 [] 1)), (8, AV.bad), (9, AV.int IntKind.i64 (IntKind.wrap IntKind.i64 (ix + 1))), (10, AV.bad), (11, AV.bad), (12, AV.bad), (20, AV.bad), (43, AV.bad), (50, AV.bad), (56, AV.bad), (62, AV.bad), (71, AV.bad), (80, AV.bad), (84, AV.bad), (89, AV.bad), (109, AV.bad), (111, AV.bad)] [] H'89 true) k))))))
 ((OkS ls87 s88) →
 ∀ (k094 : Nat),
 ∀ (H'95 : Heap),
 (List.length H'83 ≤ k094) →
 (Heap.blk H'95 k094 = some (Blk.mk (AV.arr 1 (row encZ (List.getD ls87 (Int.toNat s88) []))) true true)) →
 (Keep [] H'83 H'95) →
 ∃ (v96 : AV),
 ∃ (w97 : AV),
 ∃ (l98 : List Int),
 ∃ (m99 : List Int),
 And ([AV.nils, AV.sl (Pl.mk k094 0 [] (List.length (List.getD ls87 (Int.toNat s88) []))) 1 (List.length (List.getD ls87 (Int.toNat s88) [])) 0 (List.length (List.getD ls87 (Int.toNat s88) []))] = [v96, w97])
 (And (Slot H'95 v96 l98)
 (And (Slot H'95 w97 m99)
 (And (List.length l98 ≤ 1000)
 (cond (!decide (l98 = m99))
 (k (AV.bool false) H'95 true)
 (resPS (S F) TL N 9 fuel 6 2 n0 [] [true, true, true, true, true, false, true] m (St.mk [(0, AV.isl 3 (row encSt l)), (1, AV.isl 3 (row encSt m2)), (4, AV.bad), (5, AV.ptr (Pl.mk i 0 [] 1)), (6, AV.bad), (7, AV.ptr (Pl.mk j 0 [] 1)), (8, AV.bad), (9, AV.int IntKind.i64 (IntKind.wrap IntKind.i64 (ix + 1))), (10, AV.bad), (11, AV.bad), (12, AV.bad), (20, AV.bad), (43, AV.bad), (50, AV.bad), (56, AV.bad), (62, AV.bad), (71, AV.bad), (80, AV.bad), (84, AV.bad), (89, AV.bad), (109, AV.bad), (111, AV.bad)] [] H'95 true) k)))))))))
 ((OkS ls81 s82) →
 ∀ (k0100 : Nat),
 ∀ (H'101 : Heap),
 (List.length H'76 ≤ k0100) →
 (Heap.blk H'101 k0100 = some (Blk.mk (AV.arr 1 (row encZ (List.getD ls81 (Int.toNat s82) []))) true true)) →
 (Keep [] H'76 H'101) →
 ∃ (i102 : Nat),
 ∃ (j103 : Nat),
 ∃ (vs104 : List AV),
 ∃ (ls105 : List (List Int)),
 ∃ (s106 : Int),
 And ([AV.ptr (Pl.mk j 0 [] 1), AV.int IntKind.i64 0] = [AV.ptr (Pl.mk i102 0 [] 1), AV.int IntKind.i64 s106])
 (And (PinsR H'101 i102 j103 vs104 ls105)
 (And ((¬OkS ls105 s106 ∨ List.getD ls105 (Int.toNat s106) [] = []) →
 ∀ (H'107 : Heap),
 (Keep [] H'101 H'107) →
 ∃ (v108 : AV),
 ∃ (w109 : AV),
 ∃ (l110 : List Int),
 ∃ (m111 : List Int),
 And ([AV.sl (Pl.mk k0100 0 [] (List.length (List.getD ls81 (Int.toNat s82) []))) 1 (List.length (List.getD ls81 (Int.toNat s82) [])) 0 (List.length (List.getD ls81 (Int.toNat s82) [])), AV.nils] = [v108, w109])
 (And (Slot H'107 v108 l110)
 (And (Slot H'107 w109 m111)
 (And (List.length l110 ≤ 1000)
 (cond (!decide (l110 = m111))
 (k (AV.bool false) H'107 true)
 (resPS (S F) TL N 9 fuel 6 2 n0 [] [true, true, true, true, true, false, true] m (St.mk [(0, AV.isl 3 (row encSt l)), (1, AV.isl 3 (row encSt m2)), (4, AV.bad), (5, AV.ptr (Pl.mk i 0 [] 1)), (6, AV.bad), (7, AV.ptr (Pl.mk j 0 [] 1)), (8, AV.bad), (9, AV.int IntKind.i64 (IntKind.wrap IntKind.i64 (ix + 1))), (10, AV.bad), (11, AV.bad), (12, AV.bad), (20, AV.bad), (43, AV.bad), (50, AV.bad), (56, AV.bad), (62, AV.bad), (71, AV.bad), (80, AV.bad), (84, AV.bad), (89, AV.bad), (109, AV.bad), (111, AV.bad)] [] H'107 true) k))))))
 ((OkS ls105 s106) →
 ∀ (k0112 : Nat),
 ∀ (H'113 : Heap),
 (List.length H'101 ≤ k0112) →
 (Heap.blk H'113 k0112 = some (Blk.mk (AV.arr 1 (row encZ (List.getD ls105 (Int.toNat s106) []))) true true)) →
 (Keep [] H'101 H'113) →
 ∃ (v114 : AV),
 ∃ (w115 : AV),
 ∃ (l116 : List Int),
 ∃ (m117 : List Int),
 And ([AV.sl (Pl.mk k0100 0 [] (List.length (List.getD ls81 (Int.toNat s82) []))) 1 (List.length (List.getD ls81 (Int.toNat s82) [])) 0 (List.length (List.getD ls81 (Int.toNat s82) [])), AV.sl (Pl.mk k0112 0 [] (List.length (List.getD ls105 (Int.toNat s106) []))) 1 (List.length (List.getD ls105 (Int.toNat s106) [])) 0 (List.length (List.getD ls105 (Int.toNat s106) []))] = [v114, w115])
 (And (Slot H'113 v114 l116)
 (And (Slot H'113 w115 m117)
 (And (List.length l116 ≤ 1000)
 (cond (!decide (l116 = m117))
 (k (AV.bool false) H'113 true)
 (resPS (S F) TL N 9 fuel 6 2 n0 [] [true, true, true, true, true, false, true] m (St.mk [(0, AV.isl 3 (row encSt l)), (1, AV.isl 3 (row encSt m2)), (4, AV.bad), (5, AV.ptr (Pl.mk i 0 [] 1)), (6, AV.bad), (7, AV.ptr (Pl.mk j 0 [] 1)), (8, AV.bad), (9, AV.int IntKind.i64 (IntKind.wrap IntKind.i64 (ix + 1))), (10, AV.bad), (11, AV.bad), (12, AV.bad), (20, AV.bad), (43, AV.bad), (50, AV.bad), (56, AV.bad), (62, AV.bad), (71, AV.bad), (80, AV.bad), (84, AV.bad), (89, AV.bad), (109, AV.bad), (111, AV.bad)] [] H'113 true) k))))))))))))))
 (False))
 (False))
 (False))
 (False))
 (False)))
 (False))
 (False))
 (False))
 (False))
 (False))
 (∃ (i118 : Nat),
 ∃ (j119 : Nat),
 ∃ (vs120 : List AV),
 ∃ (ls121 : List (List Int)),
 ∃ (s122 : Int),
 And ([AV.ptr (Pl.mk i 0 [] 1), AV.int IntKind.i64 0] = [AV.ptr (Pl.mk i118 0 [] 1), AV.int IntKind.i64 s122])
 (And (PinsR H'19 i118 j119 vs120 ls121)
 (And ((¬OkS ls121 s122 ∨ List.getD ls121 (Int.toNat s122) [] = []) →
 ∀ (H'123 : Heap),
 (Keep [] H'19 H'123) →
 ∃ (i124 : Nat),
 ∃ (j125 : Nat),
 ∃ (vs126 : List AV),
 ∃ (ls127 : List (List Int)),
 ∃ (s128 : Int),
 And ([AV.ptr (Pl.mk j 0 [] 1), AV.int IntKind.i64 0] = [AV.ptr (Pl.mk i124 0 [] 1), AV.int IntKind.i64 s128])
 (And (PinsR H'123 i124 j125 vs126 ls127)
 (And ((¬OkS ls127 s128 ∨ List.getD ls127 (Int.toNat s128) [] = []) →
 ∀ (H'129 : Heap),
 (Keep [] H'123 H'129) →
 ∃ (v130 : AV),
 ∃ (w131 : AV),
 ∃ (l132 : List Int),
 ∃ (m133 : List Int),
 And ([AV.nils, AV.nils] = [v130, w131])
 (And (Slot H'129 v130 l132)
 (And (Slot H'129 w131 m133)
 (And (List.length l132 ≤ 1000)
 (cond (!decide (l132 = m133))
 (k (AV.bool false) H'129 true)
 (resPS (S F) TL N 9 fuel 6 2 n0 [] [true, true, true, true, true, false, true] m (St.mk [(0, AV.isl 3 (row encSt l)), (1, AV.isl 3 (row encSt m2)), (4, AV.bad), (5, AV.ptr (Pl.mk i 0 [] 1)), (6, AV.bad), (7, AV.ptr (Pl.mk j 0 [] 1)), (8, AV.bad), (9, AV.int IntKind.i64 (IntKind.wrap IntKind.i64 (ix + 1))), (10, AV.bad), (11, AV.bad), (12, AV.bad), (20, AV.bad), (43, AV.bad), (50, AV.bad), (56, AV.bad), (62, AV.bad), (71, AV.bad), (80, AV.bad), (84, AV.bad), (89, AV.bad), (109, AV.bad), (111, AV.bad)] [] H'129 true) k))))))
 ((OkS ls127 s128) →
 ∀ (k0134 : Nat),
 ∀ (H'135 : Heap),
 (List.length H'123 ≤ k0134) →
 (Heap.blk H'135 k0134 = some (Blk.mk (AV.arr 1 (row encZ (List.getD ls127 (Int.toNat s128) []))) true true)) →
 (Keep [] H'123 H'135) →
 ∃ (v136 : AV),
 ∃ (w137 : AV),
 ∃ (l138 : List Int),
 ∃ (m139 : List Int),
 And ([AV.nils, AV.sl (Pl.mk k0134 0 [] (List.length (List.getD ls127 (Int.toNat s128) []))) 1 (List.length (List.getD ls127 (Int.toNat s128) [])) 0 (List.length (List.getD ls127 (Int.toNat s128) []))] = [v136, w137])
 (And (Slot H'135 v136 l138)
 (And (Slot H'135 w137 m139)
 (And (List.length l138 ≤ 1000)
 (cond (!decide (l138 = m139))
 (k (AV.bool false) H'135 true)
 (resPS (S F) TL N 9 fuel 6 2 n0 [] [true, true, true, true, true, false, true] m (St.mk [(0, AV.isl 3 (row encSt l)), (1, AV.isl 3 (row encSt m2)), (4, AV.bad), (5, AV.ptr (Pl.mk i 0 [] 1)), (6, AV.bad), (7, AV.ptr (Pl.mk j 0 [] 1)), (8, AV.bad), (9, AV.int IntKind.i64 (IntKind.wrap IntKind.i64 (ix + 1))), (10, AV.bad), (11, AV.bad), (12, AV.bad), (20, AV.bad), (43, AV.bad), (50, AV.bad), (56, AV.bad), (62, AV.bad), (71, AV.bad), (80, AV.bad), (84, AV.bad), (89, AV.bad), (109, AV.bad), (111, AV.bad)] [] H'135 true) k)))))))))
 ((OkS ls121 s122) →
 ∀ (k0140 : Nat),
 ∀ (H'141 : Heap),
 (List.length H'19 ≤ k0140) →
 (Heap.blk H'141 k0140 = some (Blk.mk (AV.arr 1 (row encZ (List.getD ls121 (Int.toNat s122) []))) true true)) →
 (Keep [] H'19 H'141) →
 ∃ (i142 : Nat),
 ∃ (j143 : Nat),
 ∃ (vs144 : List AV),
 ∃ (ls145 : List (List Int)),
 ∃ (s146 : Int),
 And ([AV.ptr (Pl.mk j 0 [] 1), AV.int IntKind.i64 0] = [AV.ptr (Pl.mk i142 0 [] 1), AV.int IntKind.i64 s146])
 (And (PinsR H'141 i142 j143 vs144 ls145)
 (And ((¬OkS ls145 s146 ∨ List.getD ls145 (Int.toNat s146) [] = []) →
 ∀ (H'147 : Heap),
 (Keep [] H'141 H'147) →
 ∃ (v148 : AV),
 ∃ (w149 : AV),
 ∃ (l150 : List Int),
 ∃ (m151 : List Int),
 And ([AV.sl (Pl.mk k0140 0 [] (List.length (List.getD ls121 (Int.toNat s122) []))) 1 (List.length (List.getD ls121 (Int.toNat s122) [])) 0 (List.length (List.getD ls121 (Int.toNat s122) [])), AV.nils] = [v148, w149])
 (And (Slot H'147 v148 l150)
 (And (Slot H'147 w149 m151)
 (And (List.length l150 ≤ 1000)
 (cond (!decide (l150 = m151))
 (k (AV.bool false) H'147 true)
 (resPS (S F) TL N 9 fuel 6 2 n0 [] [true, true, true, true, true, false, true] m (St.mk [(0, AV.isl 3 (row encSt l)), (1, AV.isl 3 (row encSt m2)), (4, AV.bad), (5, AV.ptr (Pl.mk i 0 [] 1)), (6, AV.bad), (7, AV.ptr (Pl.mk j 0 [] 1)), (8, AV.bad), (9, AV.int IntKind.i64 (IntKind.wrap IntKind.i64 (ix + 1))), (10, AV.bad), (11, AV.bad), (12, AV.bad), (20, AV.bad), (43, AV.bad), (50, AV.bad), (56, AV.bad), (62, AV.bad), (71, AV.bad), (80, AV.bad), (84, AV.bad), (89, AV.bad), (109, AV.bad), (111, AV.bad)] [] H'147 true) k))))))
 ((OkS ls145 s146) →
 ∀ (k0152 : Nat),
 ∀ (H'153 : Heap),
 (List.length H'141 ≤ k0152) →
 (Heap.blk H'153 k0152 = some (Blk.mk (AV.arr 1 (row encZ (List.getD ls145 (Int.toNat s146) []))) true true)) →
 (Keep [] H'141 H'153) →
 ∃ (v154 : AV),
 ∃ (w155 : AV),
 ∃ (l156 : List Int),
 ∃ (m157 : List Int),
 And ([AV.sl (Pl.mk k0140 0 [] (List.length (List.getD ls121 (Int.toNat s122) []))) 1 (List.length (List.getD ls121 (Int.toNat s122) [])) 0 (List.length (List.getD ls121 (Int.toNat s122) [])), AV.sl (Pl.mk k0152 0 [] (List.length (List.getD ls145 (Int.toNat s146) []))) 1 (List.length (List.getD ls145 (Int.toNat s146) [])) 0 (List.length (List.getD ls145 (Int.toNat s146) []))] = [v154, w155])
 (And (Slot H'153 v154 l156)
 (And (Slot H'153 w155 m157)
 (And (List.length l156 ≤ 1000)
 (cond (!decide (l156 = m157))
 (k (AV.bool false) H'153 true)
 (resPS (S F) TL N 9 fuel 6 2 n0 [] [true, true, true, true, true, false, true] m (St.mk [(0, AV.isl 3 (row encSt l)), (1, AV.isl 3 (row encSt m2)), (4, AV.bad), (5, AV.ptr (Pl.mk i 0 [] 1)), (6, AV.bad), (7, AV.ptr (Pl.mk j 0 [] 1)), (8, AV.bad), (9, AV.int IntKind.i64 (IntKind.wrap IntKind.i64 (ix + 1))), (10, AV.bad), (11, AV.bad), (12, AV.bad), (20, AV.bad), (43, AV.bad), (50, AV.bad), (56, AV.bad), (62, AV.bad), (71, AV.bad), (80, AV.bad), (84, AV.bad), (89, AV.bad), (109, AV.bad), (111, AV.bad)] [] H'153 true) k))))))))))))))
 (False))
 (False)))))))
 (False))
 (False)))
 (False))
 (False)))
 (∃ (b158 : Blk),
 And (Heap.blk H'1 (List.length H) = some b158)
 (cond (okAt b158.1 [2] 2 3 false 1)
 (cond (AV.isIntK (projT [2] b158.1) IntKind.i64)
 (∃ (b159 : Blk),
 And (Heap.blk H'1 (List.length H) = some b159)
 (cond (okAt b159.1 [2] 2 3 false 1)
 (cond (AV.isIntK (projT [2] b159.1) IntKind.i64)
 (∃ (i160 : Nat),
 ∃ (j161 : Nat),
 ∃ (vs162 : List AV),
 ∃ (ls163 : List (List Int)),
 ∃ (s164 : Int),
 ∃ (pg165 : Int),
 And ([AV.ptr (Pl.mk i 0 [] 1), AV.int IntKind.i64 0, AV.int IntKind.i64 (AV.toInt (projT [2] b158.1))] = [AV.ptr (Pl.mk i160 0 [] 1), AV.int IntKind.i64 s164, AV.int IntKind.i64 pg165])
 (And (PinsR H'1 i160 j161 vs162 ls163)
 (∀ (H'166 : Heap),
 ∀ (vs'167 : List AV),
 (PinsR H'166 i160 j161 vs'167 (addS ls163 s164 pg165)) →
 (Nxt H'1 i160 j161 vs162 H'166 vs'167) →
 ∃ (i168 : Nat),
 ∃ (j169 : Nat),
 ∃ (vs170 : List AV),
 ∃ (ls171 : List (List Int)),
 ∃ (s172 : Int),
 ∃ (pg173 : Int),
 And ([AV.ptr (Pl.mk j 0 [] 1), AV.int IntKind.i64 0, AV.int IntKind.i64 (AV.toInt (projT [2] b159.1))] = [AV.ptr (Pl.mk i168 0 [] 1), AV.int IntKind.i64 s172, AV.int IntKind.i64 pg173])
 (And (PinsR H'166 i168 j169 vs170 ls171)
 (∀ (H'174 : Heap),
 ∀ (vs'175 : List AV),
 (PinsR H'174 i168 j169 vs'175 (addS ls171 s172 pg173)) →
 (Nxt H'166 i168 j169 vs170 H'174 vs'175) →
 ∃ (b176 : Blk),
 And (Heap.blk H'166 (List.length H) = some b176)
 (cond (okAt b176.1 [2] 2 3 false 1)
 (cond (AV.beq (projT [2] b176.1) (AV.int IntKind.i64 (AV.toInt (projT [2] b159.1))))
 (cond (!addErr ls163 s164 pg165 == addErr ls171 s172 pg173)
 (k (AV.bool false) H'174 true)
 (cond (decide (ix < (↑(List.length (row encSt m2)) : Int)))
 (cond (decide (0 ≤ ix))
 (cond (AV.isAggN (Option.getD (row encSt m2)[Int.toNat ix]? AV.bad) 3 3)
 (cond (AV.isBoolV (AV.part (Option.getD (row encSt m2)[Int.toNat ix]? AV.bad) 0))
 (cond (AV.isIntK (AV.part (Option.getD (row encSt m2)[Int.toNat ix]? AV.bad) 1) IntKind.i64)
 (cond (AV.isIntK (AV.part (Option.getD (row encSt m2)[Int.toNat ix]? AV.bad) 2) IntKind.i64)
 (cond (AV.toBool (AV.part (Option.getD (row encSt m2)[Int.toNat ix]? AV.bad) 0))
 (cond (decide (0 ≤ ix))
 (cond (AV.isAggN (Option.getD (row encSt m2)[Int.toNat ix]? AV.bad) 3 3)
 (cond (AV.isBoolV (AV.part (Option.getD (row encSt m2)[Int.toNat ix]? AV.bad) 0))
 (cond (AV.isIntK (AV.part (Option.getD (row encSt m2)[Int.toNat ix]? AV.bad) 1) IntKind.i64)
 (cond (AV.isIntK (AV.part (Option.getD (row encSt m2)[Int.toNat ix]? AV.bad) 2) IntKind.i64)
 (∃ (i177 : Nat),
 ∃ (j178 : Nat),
 ∃ (vs179 : List AV),
 ∃ (ls180 : List (List Int)),
 ∃ (s181 : Int),
 ∃ (pg182 : Int),
 And ([AV.ptr (Pl.mk i 0 [] 1), AV.int IntKind.i64 1, AV.int IntKind.i64 (AV.toInt (AV.part (Option.getD (row encSt m2)[Int.toNat ix]? AV.bad) 2))] = [AV.ptr (Pl.mk i177 0 [] 1), AV.int IntKind.i64 s181, AV.int IntKind.i64 pg182])
 (And (PinsR H'174 i177 j178 vs179 ls180)
 (∀ (H'183 : Heap),
 ∀ (vs'184 : List AV),
 (PinsR H'183 i177 j178 vs'184 (dropS ls180 s181 pg182)) →
 (Nxt H'174 i177 j178 vs179 H'183 vs'184) →
 ∃ (i185 : Nat),
 ∃ (j186 : Nat),
 ∃ (vs187 : List AV),
 ∃ (ls188 : List (List Int)),
 ∃ (s189 : Int),
 And ([AV.ptr (Pl.mk i 0 [] 1), AV.int IntKind.i64 0] = [AV.ptr (Pl.mk i185 0 [] 1), AV.int IntKind.i64 s189])
 (And (PinsR H'183 i185 j186 vs187 ls188)
 (And ((¬OkS ls188 s189 ∨ List.getD ls188 (Int.toNat s189) [] = []) →
 ∀ (H'190 : Heap),
 (Keep [] H'183 H'190) →
 ∃ (i191 : Nat),
 ∃ (j192 : Nat),
 ∃ (vs193 : List AV),
 ∃ (ls194 : List (List Int)),
 ∃ (s195 : Int),
 And ([AV.ptr (Pl.mk j 0 [] 1), AV.int IntKind.i64 0] = [AV.ptr (Pl.mk i191 0 [] 1), AV.int IntKind.i64 s195])
 (And (PinsR H'190 i191 j192 vs193 ls194)
 (And ((¬OkS ls194 s195 ∨ List.getD ls194 (Int.toNat s195) [] = []) →
 ∀ (H'196 : Heap),
 (Keep [] H'190 H'196) →
 ∃ (v197 : AV),
 ∃ (w198 : AV),
 ∃ (l199 : List Int),
 ∃ (m200 : List Int),
 And ([AV.nils, AV.nils] = [v197, w198])
 (And (Slot H'196 v197 l199)
 (And (Slot H'196 w198 m200)
 (And (List.length l199 ≤ 1000)
 (cond (!decide (l199 = m200))
 (k (AV.bool false) H'196 true)
 (resPS (S F) TL N 9 fuel 6 2 n0 [] [true, true, true, true, true, false, true] m (St.mk [(0, AV.isl 3 (row encSt l)), (1, AV.isl 3 (row encSt m2)), (4, AV.bad), (5, AV.ptr (Pl.mk i 0 [] 1)), (6, AV.bad), (7, AV.ptr (Pl.mk j 0 [] 1)), (8, AV.bad), (9, AV.int IntKind.i64 (IntKind.wrap IntKind.i64 (ix + 1))), (10, AV.bad), (11, AV.bad), (12, AV.bad), (20, AV.bad), (43, AV.bad), (50, AV.bad), (56, AV.bad), (62, AV.bad), (71, AV.bad), (80, AV.bad), (84, AV.bad), (89, AV.bad), (109, AV.bad), (111, AV.bad)] [] H'196 true) k))))))
 ((OkS ls194 s195) →
 ∀ (k0201 : Nat),
 ∀ (H'202 : Heap),
 (List.length H'190 ≤ k0201) →
 (Heap.blk H'202 k0201 = some (Blk.mk (AV.arr 1 (row encZ (List.getD ls194 (Int.toNat s195) []))) true true)) →
 (Keep [] H'190 H'202) →
 ∃ (v203 : AV),
 ∃ (w204 : AV),
 ∃ (l205 : List Int),
 ∃ (m206 : List Int),
 And ([AV.nils, AV.sl (Pl.mk k0201 0 [] (List.length (List.getD ls194 (Int.toNat s195) []))) 1 (List.length (List.getD ls194 (Int.toNat s195) [])) 0 (List.length (List.getD ls194 (Int.toNat s195) []))] = [v203, w204])
 (And (Slot H'202 v203 l205)
 (And (Slot H'202 w204 m206)
 (And (List.length l205 ≤ 1000)
 (cond (!decide (l205 = m206))
 (k (AV.bool false) H'202 true)
 (resPS (S F) TL N 9 fuel 6 2 n0 [] [true, true, true, true, true, false, true] m (St.mk [(0, AV.isl 3 (row encSt l)), (1, AV.isl 3 (row encSt m2)), (4, AV.bad), (5, AV.ptr (Pl.mk i 0 [] 1)), (6, AV.bad), (7, AV.ptr (Pl.mk j 0 [] 1)), (8, AV.bad), (9, AV.int IntKind.i64 (IntKind.wrap IntKind.i64 (ix + 1))), (10, AV.bad), (11, AV.bad), (12, AV.bad), (20, AV.bad), (43, AV.bad), (50, AV.bad), (56, AV.bad), (62, AV.bad), (71, AV.bad), (80, AV.bad), (84, AV.bad), (89, AV.bad), (109, AV.bad), (111, AV.bad)] [] H'202 true) k)))))))))
 ((OkS ls188 s189) →
 ∀ (k0207 : Nat),
 ∀ (H'208 : Heap),
 (List.length H'183 ≤ k0207) →
 (Heap.blk H'208 k0207 = some (Blk.mk (AV.arr 1 (row encZ (List.getD ls188 (Int.toNat s189) []))) true true)) →
 (Keep [] H'183 H'208) →
 ∃ (i209 : Nat),
 ∃ (j210 : Nat),
 ∃ (vs211 : List AV),
 ∃ (ls212 : List (List Int)),
 ∃ (s213 : Int),
 And ([AV.ptr (Pl.mk j 0 [] 1), AV.int IntKind.i64 0] = [AV.ptr (Pl.mk i209 0 [] 1), AV.int IntKind.i64 s213])
 (And (PinsR H'208 i209 j210 vs211 ls212)
 (And ((¬OkS ls212 s213 ∨ List.getD ls212 (Int.toNat s213) [] = []) →
 ∀ (H'214 : Heap),
 (Keep [] H'208 H'214) →
 ∃ (v215 : AV),
 ∃ (w216 : AV),
 ∃ (l217 : List Int),
 ∃ (m218 : List Int),
 And ([AV.sl (Pl.mk k0207 0 [] (List.length (List.getD ls188 (Int.toNat s189) []))) 1 (List.length (List.getD ls188 (Int.toNat s189) [])) 0 (List.length (List.getD ls188 (Int.toNat s189) [])), AV.nils] = [v215, w216])
 (And (Slot H'214 v215 l217)
 (And (Slot H'214 w216 m218)
 (And (List.length l217 ≤ 1000)
 (cond (!decide (l217 = m218))
 (k (AV.bool false) H'214 true)
 (resPS (S F) TL N 9 fuel 6 2 n0 [] [true, true, true, true, true, false, true] m (St.mk [(0, AV.isl 3 (row encSt l)), (1, AV.isl 3 (row encSt m2)), (4, AV.bad), (5, AV.ptr (Pl.mk i 0 [] 1)), (6, AV.bad), (7, AV.ptr (Pl.mk j 0 [] 1)), (8, AV.bad), (9, AV.int IntKind.i64 (IntKind.wrap IntKind.i64 (ix + 1))), (10, AV.bad), (11, AV.bad), (12, AV.bad), (20, AV.bad), (43, AV.bad), (50, AV.bad), (56, AV.bad), (62, AV.bad), (71, AV.bad), (80, AV.bad), (84, AV.bad), (89, AV.bad), (109, AV.bad), (111, AV.bad)] [] H'214 true) k))))))
 ((OkS ls212 s213) →
 ∀ (k0219 : Nat),
 ∀ (H'220 : Heap),
 (List.length H'208 ≤ k0219) →
 (Heap.blk H'220 k0219 = some (Blk.mk (AV.arr 1 (row encZ (List.getD ls212 (Int.toNat s213) []))) true true)) →
 (Keep [] H'208 H'220) →
 ∃ (v221 : AV),
 ∃ (w222 : AV),
 ∃ (l223 : List Int),
 ∃ (m224 : List Int),
 And ([AV.sl (Pl.mk k0207 0 [] (List.length (List.getD ls188 (Int.toNat s189) []))) 1 (List.length (List.getD ls188 (Int.toNat s189) [])) 0 (List.length (List.getD ls188 (Int.toNat s189) [])), AV.sl (Pl.mk k0219 0 [] (List.length (List.getD ls212 (Int.toNat s213) []))) 1 (List.length (List.getD ls212 (Int.toNat s213) [])) 0 (List.length (List.getD ls212 (Int.toNat s213) []))] = [v221, w222])
 (And (Slot H'220 v221 l223)
 (And (Slot H'220 w222 m224)
 (And (List.length l223 ≤ 1000)
 (cond (!decide (l223 = m224))
 (k (AV.bool false) H'220 true)
 (resPS (S F) TL N 9 fuel 6 2 n0 [] [true, true, true, true, true, false, true] m (St.mk [(0, AV.isl 3 (row encSt l)), (1, AV.isl 3 (row encSt m2)), (4, AV.bad), (5, AV.ptr (Pl.mk i 0 [] 1)), (6, AV.bad), (7, AV.ptr (Pl.mk j 0 [] 1)), (8, AV.bad), (9, AV.int IntKind.i64 (IntKind.wrap IntKind.i64 (ix + 1))), (10, AV.bad), (11, AV.bad), (12, AV.bad), (20, AV.bad), (43, AV.bad), (50, AV.bad), (56, AV.bad), (62, AV.bad), (71, AV.bad), (80, AV.bad), (84, AV.bad), (89, AV.bad), (109, AV.bad), (111, AV.bad)] [] H'220 true) k))))))))))))))
 (False))
 (False))
 (False))
 (False))
 (False))
 (cond (decide (0 ≤ ix))
 (cond (AV.isAggN (Option.getD (row encSt m2)[Int.toNat ix]? AV.bad) 3 3)
 (cond (AV.isBoolV (AV.part (Option.getD (row encSt m2)[Int.toNat ix]? AV.bad) 0))
 (cond (AV.isIntK (AV.part (Option.getD (row encSt m2)[Int.toNat ix]? AV.bad) 1) IntKind.i64)
 (cond (AV.isIntK (AV.part (Option.getD (row encSt m2)[Int.toNat ix]? AV.bad) 2) IntKind.i64)
 (∃ (i225 : Nat),
 ∃ (j226 : Nat),
 ∃ (vs227 : List AV),
 ∃ (ls228 : List (List Int)),
 ∃ (s229 : Int),
 ∃ (pg230 : Int),
 And ([AV.ptr (Pl.mk i 0 [] 1), AV.int IntKind.i64 1, AV.int IntKind.i64 (AV.toInt (AV.part (Option.getD (row encSt m2)[Int.toNat ix]? AV.bad) 2))] = [AV.ptr (Pl.mk i225 0 [] 1), AV.int IntKind.i64 s229, AV.int IntKind.i64 pg230])
 (And (PinsR H'174 i225 j226 vs227 ls228)
 (∀ (H'231 : Heap),
 ∀ (vs'232 : List AV),
 (PinsR H'231 i225 j226 vs'232 (addS ls228 s229 pg230)) →
 (Nxt H'174 i225 j226 vs227 H'231 vs'232) →
 ∃ (i233 : Nat),
 ∃ (j234 : Nat),
 ∃ (vs235 : List AV),
 ∃ (ls236 : List (List Int)),
 ∃ (s237 : Int),
 And ([AV.ptr (Pl.mk i 0 [] 1), AV.int IntKind.i64 0] = [AV.ptr (Pl.mk i233 0 [] 1), AV.int IntKind.i64 s237])
 (And (PinsR H'231 i233 j234 vs235 ls236)
 (And ((¬OkS ls236 s237 ∨ List.getD ls236 (Int.toNat s237) [] = []) →
 ∀ (H'238 : Heap),
 (Keep [] H'231 H'238) →
 ∃ (i239 : Nat),
 ∃ (j240 : Nat),
 ∃ (vs241 : List AV),
 ∃ (ls242 : List (List Int)),
 ∃ (s243 : Int),
 And ([AV.ptr (Pl.mk j 0 [] 1), AV.int IntKind.i64 0] = [AV.ptr (Pl.mk i239 0 [] 1), AV.int IntKind.i64 s243])
 (And (PinsR H'238 i239 j240 vs241 ls242)
 (And ((¬OkS ls242 s243 ∨ List.getD ls242 (Int.toNat s243) [] = []) →
 ∀ (H'244 : Heap),
 (Keep [] H'238 H'244) →
 ∃ (v245 : AV),
 ∃ (w246 : AV),
 ∃ (l247 : List Int),
 ∃ (m248 : List Int),
 And ([AV.nils, AV.nils] = [v245, w246])
 (And (Slot H'244 v245 l247)
 (And (Slot H'244 w246 m248)
 (And (List.length l247 ≤ 1000)
 (cond (!decide (l247 = m248))
 (k (AV.bool false) H'244 true)
 (resPS (S F) TL N 9 fuel 6 2 n0 [] [true, true, true, true, true, false, true] m (St.mk [(0, AV.isl 3 (row encSt l)), (1, AV.isl 3 (row encSt m2)), (4, AV.bad), (5, AV.ptr (Pl.mk i 0 [] 1)), (6, AV.bad), (7, AV.ptr (Pl.mk j 0 [] 1)), (8, AV.bad), (9, AV.int IntKind.i64 (IntKind.wrap IntKind.i64 (ix + 1))), (10, AV.bad), (11, AV.bad), (12, AV.bad), (20, AV.bad), (43, AV.bad), (50, AV.bad), (56, AV.bad), (62, AV.bad), (71, AV.bad), (80, AV.bad), (84, AV.bad), (89, AV.bad), (109, AV.bad), (111, AV.bad)] [] H'244 true) k))))))
 ((OkS ls242 s243) →
 ∀ (k0249 : Nat),
 ∀ (H'250 : Heap),
 (List.length H'238 ≤ k0249) →
 (Heap.blk H'250 k0249 = some (Blk.mk (AV.arr 1 (row encZ (List.getD ls242 (Int.toNat s243) []))) true true)) →
 (Keep [] H'238 H'250) →
 ∃ (v251 : AV),
 ∃ (w252 : AV),
 ∃ (l253 : List Int),
 ∃ (m254 : List Int),
 And ([AV.nils, AV.sl (Pl.mk k0249 0 [] (List.length (List.getD ls242 (Int.toNat s243) []))) 1 (List.length (List.getD ls242 (Int.toNat s243) [])) 0 (List.length (List.getD ls242 (Int.toNat s243) []))] = [v251, w252])
 (And (Slot H'250 v251 l253)
 (And (Slot H'250 w252 m254)
 (And (List.length l253 ≤ 1000)
 (cond (!decide (l253 = m254))
 (k (AV.bool false) H'250 true)
 (resPS (S F) TL N 9 fuel 6 2 n0 [] [true, true, true, true, true, false, true] m (St.mk [(0, AV.isl 3 (row encSt l)), (1, AV.isl 3 (row encSt m2)), (4, AV.bad), (5, AV.ptr (Pl.mk i 0 [] 1)), (6, AV.bad), (7, AV.ptr (Pl.mk j 0 [] 1)), (8, AV.bad), (9, AV.int IntKind.i64 (IntKind.wrap IntKind.i64 (ix + 1))), (10, AV.bad), (11, AV.bad), (12, AV.bad), (20, AV.bad), (43, AV.bad), (50, AV.bad), (56, AV.bad), (62, AV.bad), (71, AV.bad), (80, AV.bad), (84, AV.bad), (89, AV.bad), (109, AV.bad), (111, AV.bad)] [] H'250 true) k)))))))))
 ((OkS ls236 s237) →
 ∀ (k0255 : Nat),
 ∀ (H'256 : Heap),
 (List.length H'231 ≤ k0255) →
 (Heap.blk H'256 k0255 = some (Blk.mk (AV.arr 1 (row encZ (List.getD ls236 (Int.toNat s237) []))) true true)) →
 (Keep [] H'231 H'256) →
 ∃ (i257 : Nat),
 ∃ (j258 : Nat),
 ∃ (vs259 : List AV),
 ∃ (ls260 : List (List Int)),
 ∃ (s261 : Int),
 And ([AV.ptr (Pl.mk j 0 [] 1), AV.int IntKind.i64 0] = [AV.ptr (Pl.mk i257 0 [] 1), AV.int IntKind.i64 s261])
 (And (PinsR H'256 i257 j258 vs259 ls260)
 (And ((¬OkS ls260 s261 ∨ List.getD ls260 (Int.toNat s261) [] = []) →
 ∀ (H'262 : Heap),
 (Keep [] H'256 H'262) →
 ∃ (v263 : AV),
 ∃ (w264 : AV),
 ∃ (l265 : List Int),
 ∃ (m266 : List Int),
 And ([AV.sl (Pl.mk k0255 0 [] (List.length (List.getD ls236 (Int.toNat s237) []))) 1 (List.length (List.getD ls236 (Int.toNat s237) [])) 0 (List.length (List.getD ls236 (Int.toNat s237) [])), AV.nils] = [v263, w264])
 (And (Slot H'262 v263 l265)
 (And (Slot H'262 w264 m266)
 (And (List.length l265 ≤ 1000)
 (cond (!decide (l265 = m266))
 (k (AV.bool false) H'262 true)
 (resPS (S F) TL N 9 fuel 6 2 n0 [] [true, true, true, true, true, false, true] m (St.mk [(0, AV.isl 3 (row encSt l)), (1, AV.isl 3 (row encSt m2)), (4, AV.bad), (5, AV.ptr (Pl.mk i 0 [] 1)), (6, AV.bad), (7, AV.ptr (Pl.mk j 0 [] 1)), (8, AV.bad), (9, AV.int IntKind.i64 (IntKind.wrap IntKind.i64 (ix + 1))), (10, AV.bad), (11, AV.bad), (12, AV.bad), (20, AV.bad), (43, AV.bad), (50, AV.bad), (56, AV.bad), (62, AV.bad), (71, AV.bad), (80, AV.bad), (84, AV.bad), (89, AV.bad), (109, AV.bad), (111, AV.bad)] [] H'262 true) k))))))
 ((OkS ls260 s261) →
 ∀ (k0267 : Nat),
 ∀ (H'268 : Heap),
 (List.length H'256 ≤ k0267) →
 (Heap.blk H'268 k0267 = some (Blk.mk (AV.arr 1 (row encZ (List.getD ls260 (Int.toNat s261) []))) true true)) →
 (Keep [] H'256 H'268) →
 ∃ (v269 : AV),
 ∃ (w270 : AV),
 ∃ (l271 : List Int),
 ∃ (m272 : List Int),
 And ([AV.sl (Pl.mk k0255 0 [] (List.length (List.getD ls236 (Int.toNat s237) []))) 1 (List.length (List.getD ls236 (Int.toNat s237) [])) 0 (List.length (List.getD ls236 (Int.toNat s237) [])), AV.sl (Pl.mk k0267 0 [] (List.length (List.getD ls260 (Int.toNat s261) []))) 1 (List.length (List.getD ls260 (Int.toNat s261) [])) 0 (List.length (List.getD ls260 (Int.toNat s261) []))] = [v269, w270])
 (And (Slot H'268 v269 l271)
 (And (Slot H'268 w270 m272)
 (And (List.length l271 ≤ 1000)
 (cond (!decide (l271 = m272))
 (k (AV.bool false) H'268 true)
 (resPS (S F) TL N 9 fuel 6 2 n0 [] [true, true, true, true, true, false, true] m (St.mk [(0, AV.isl 3 (row encSt l)), (1, AV.isl 3 (row encSt m2)), (4, AV.bad), (5, AV.ptr (Pl.mk i 0 [] 1)), (6, AV.bad), (7, AV.ptr (Pl.mk j 0 [] 1)), (8, AV.bad), (9, AV.int IntKind.i64 (IntKind.wrap IntKind.i64 (ix + 1))), (10, AV.bad), (11, AV.bad), (12, AV.bad), (20, AV.bad), (43, AV.bad), (50, AV.bad), (56, AV.bad), (62, AV.bad), (71, AV.bad), (80, AV.bad), (84, AV.bad), (89, AV.bad), (109, AV.bad), (111, AV.bad)] [] H'268 true) k))))))))))))))
 (False))
 (False))
 (False))
 (False))
 (False)))
 (False))
 (False))
 (False))
 (False))
 (False))
 (∃ (i273 : Nat),
 ∃ (j274 : Nat),
 ∃ (vs275 : List AV),
 ∃ (ls276 : List (List Int)),
 ∃ (s277 : Int),
 And ([AV.ptr (Pl.mk i 0 [] 1), AV.int IntKind.i64 0] = [AV.ptr (Pl.mk i273 0 [] 1), AV.int IntKind.i64 s277])
 (And (PinsR H'174 i273 j274 vs275 ls276)
 (And ((¬OkS ls276 s277 ∨ List.getD ls276 (Int.toNat s277) [] = []) →
 ∀ (H'278 : Heap),
 (Keep [] H'174 H'278) →
 ∃ (i279 : Nat),
 ∃ (j280 : Nat),
 ∃ (vs281 : List AV),
 ∃ (ls282 : List (List Int)),
 ∃ (s283 : Int),
 And ([AV.ptr (Pl.mk j 0 [] 1), AV.int IntKind.i64 0] = [AV.ptr (Pl.mk i279 0 [] 1), AV.int IntKind.i64 s283])
 (And (PinsR H'278 i279 j280 vs281 ls282)
 (And ((¬OkS ls282 s283 ∨ List.getD ls282 (Int.toNat s283) [] = []) →
 ∀ (H'284 : Heap),
 (Keep [] H'278 H'284) →
 ∃ (v285 : AV),
 ∃ (w286 : AV),
 ∃ (l287 : List Int),
 ∃ (m288 : List Int),
 And ([AV.nils, AV.nils] = [v285, w286])
 (And (Slot H'284 v285 l287)
 (And (Slot H'284 w286 m288)
 (And (List.length l287 ≤ 1000)
 (cond (!decide (l287 = m288))
 (k (AV.bool false) H'284 true)
 (resPS (S F) TL N 9 fuel 6 2 n0 [] [true, true, true, true, true, false, true] m (St.mk [(0, AV.isl 3 (row encSt l)), (1, AV.isl 3 (row encSt m2)), (4, AV.bad), (5, AV.ptr (Pl.mk i 0 [] 1)), (6, AV.bad), (7, AV.ptr (Pl.mk j 0 [] 1)), (8, AV.bad), (9, AV.int IntKind.i64 (IntKind.wrap IntKind.i64 (ix + 1))), (10, AV.bad), (11, AV.bad), (12, AV.bad), (20, AV.bad), (43, AV.bad), (50, AV.bad), (56, AV.bad), (62, AV.bad), (71, AV.bad), (80, AV.bad), (84, AV.bad), (89, AV.bad), (109, AV.bad), (111, AV.bad)] [] H'284 true) k))))))
 ((OkS ls282 s283) →
 ∀ (k0289 : Nat),
 ∀ (H'290 : Heap),
 (List.length H'278 ≤ k0289) →
 (Heap.blk H'290 k0289 = some (Blk.mk (AV.arr 1 (row encZ (List.getD ls282 (Int.toNat s283) []))) true true)) →
 (Keep [] H'278 H'290) →
 ∃ (v291 : AV),
 ∃ (w292 : AV),
 ∃ (l293 : List Int),
 ∃ (m294 : List Int),
 And ([AV.nils, AV.sl (Pl.mk k0289 0 [] (List.length (List.getD ls282 (Int.toNat s283) []))) 1 (List.length (List.getD ls282 (Int.toNat s283) [])) 0 (List.length (List.getD ls282 (Int.toNat s283) []))] = [v291, w292])
 (And (Slot H'290 v291 l293)
 (And (Slot H'290 w292 m294)
 (And (List.length l293 ≤ 1000)
 (cond (!decide (l293 = m294))
 (k (AV.bool false) H'290 true)
 (resPS (S F) TL N 9 fuel 6 2 n0 [] [true, true, true, true, true, false, true] m (St.mk [(0, AV.isl 3 (row encSt l)), (1, AV.isl 3 (row encSt m2)), (4, AV.bad), (5, AV.ptr (Pl.mk i 0 [] 1)), (6, AV.bad), (7, AV.ptr (Pl.mk j 0 [] 1)), (8, AV.bad), (9, AV.int IntKind.i64 (IntKind.wrap IntKind.i64 (ix + 1))), (10, AV.bad), (11, AV.bad), (12, AV.bad), (20, AV.bad), (43, AV.bad), (50, AV.bad), (56, AV.bad), (62, AV.bad), (71, AV.bad), (80, AV.bad), (84, AV.bad), (89, AV.bad), (109, AV.bad), (111, AV.bad)] [] H'290 true) k)))))))))
 ((OkS ls276 s277) →
 ∀ (k0295 : Nat),
 ∀ (H'296 : Heap),
 (List.length H'174 ≤ k0295) →
 (Heap.blk H'296 k0295 = some (Blk.mk (AV.arr 1 (row encZ (List.getD ls276 (Int.toNat s277) []))) true true)) →
 (Keep [] H'174 H'296) →
 ∃ (i297 : Nat),
 ∃ (j298 : Nat),
 ∃ (vs299 : List AV),
 ∃ (ls300 : List (List Int)),
 ∃ (s301 : Int),
 And ([AV.ptr (Pl.mk j 0 [] 1), AV.int IntKind.i64 0] = [AV.ptr (Pl.mk i297 0 [] 1), AV.int IntKind.i64 s301])
 (And (PinsR H'296 i297 j298 vs299 ls300)
 (And ((¬OkS ls300 s301 ∨ List.getD ls300 (Int.toNat s301) [] = []) →
 ∀ (H'302 : Heap),
 (Keep [] H'296 H'302) →
 ∃ (v303 : AV),
 ∃ (w304 : AV),
 ∃ (l305 : List Int),
 ∃ (m306 : List Int),
 And ([AV.sl (Pl.mk k0295 0 [] (List.length (List.getD ls276 (Int.toNat s277) []))) 1 (List.length (List.getD ls276 (Int.toNat s277) [])) 0 (List.length (List.getD ls276 (Int.toNat s277) [])), AV.nils] = [v303, w304])
 (And (Slot H'302 v303 l305)
 (And (Slot H'302 w304 m306)
 (And (List.length l305 ≤ 1000)
 (cond (!decide (l305 = m306))
 (k (AV.bool false) H'302 true)
 (resPS (S F) TL N 9 fuel 6 2 n0 [] [true, true, true, true, true, false, true] m (St.mk [(0, AV.isl 3 (row encSt l)), (1, AV.isl 3 (row encSt m2)), (4, AV.bad), (5, AV.ptr (Pl.mk i 0 [] 1)), (6, AV.bad), (7, AV.ptr (Pl.mk j 0 [] 1)), (8, AV.bad), (9, AV.int IntKind.i64 (IntKind.wrap IntKind.i64 (ix + 1))), (10, AV.bad), (11, AV.bad), (12, AV.bad), (20, AV.bad), (43, AV.bad), (50, AV.bad), (56, AV.bad), (62, AV.bad), (71, AV.bad), (80, AV.bad), (84, AV.bad), (89, AV.bad), (109, AV.bad), (111, AV.bad)] [] H'302 true) k))))))
 ((OkS ls300 s301) →
 ∀ (k0307 : Nat),
 ∀ (H'308 : Heap),
 (List.length H'296 ≤ k0307) →
 (Heap.blk H'308 k0307 = some (Blk.mk (AV.arr 1 (row encZ (List.getD ls300 (Int.toNat s301) []))) true true)) →
 (Keep [] H'296 H'308) →
 ∃ (v309 : AV),
 ∃ (w310 : AV),
 ∃ (l311 : List Int),
 ∃ (m312 : List Int),
 And ([AV.sl (Pl.mk k0295 0 [] (List.length (List.getD ls276 (Int.toNat s277) []))) 1 (List.length (List.getD ls276 (Int.toNat s277) [])) 0 (List.length (List.getD ls276 (Int.toNat s277) [])), AV.sl (Pl.mk k0307 0 [] (List.length (List.getD ls300 (Int.toNat s301) []))) 1 (List.length (List.getD ls300 (Int.toNat s301) [])) 0 (List.length (List.getD ls300 (Int.toNat s301) []))] = [v309, w310])
 (And (Slot H'308 v309 l311)
 (And (Slot H'308 w310 m312)
 (And (List.length l311 ≤ 1000)
 (cond (!decide (l311 = m312))
 (k (AV.bool false) H'308 true)
 (resPS (S F) TL N 9 fuel 6 2 n0 [] [true, true, true, true, true, false, true] m (St.mk [(0, AV.isl 3 (row encSt l)), (1, AV.isl 3 (row encSt m2)), (4, AV.bad), (5, AV.ptr (Pl.mk i 0 [] 1)), (6, AV.bad), (7, AV.ptr (Pl.mk j 0 [] 1)), (8, AV.bad), (9, AV.int IntKind.i64 (IntKind.wrap IntKind.i64 (ix + 1))), (10, AV.bad), (11, AV.bad), (12, AV.bad), (20, AV.bad), (43, AV.bad), (50, AV.bad), (56, AV.bad), (62, AV.bad), (71, AV.bad), (80, AV.bad), (84, AV.bad), (89, AV.bad), (109, AV.bad), (111, AV.bad)] [] H'308 true) k))))))))))))))
 (False))
 (False)))))))
 (False))
 (False)))
 (False))
 (False))))
 (False))
 (False)))
 (False)))
 (False))
 (False))
 (False))
 (False))
 (False))
 (cond (decide (ix < (↑(List.length (row encSt m2)) : Int)))
 (cond (decide (0 ≤ ix))
 (cond (AV.isAggN (Option.getD (row encSt m2)[Int.toNat ix]? AV.bad) 3 3)
 (cond (AV.isBoolV (AV.part (Option.getD (row encSt m2)[Int.toNat ix]? AV.bad) 0))
 (cond (AV.isIntK (AV.part (Option.getD (row encSt m2)[Int.toNat ix]? AV.bad) 1) IntKind.i64)
 (cond (AV.isIntK (AV.part (Option.getD (row encSt m2)[Int.toNat ix]? AV.bad) 2) IntKind.i64)
 (cond (AV.toBool (AV.part (Option.getD (row encSt m2)[Int.toNat ix]? AV.bad) 0))
 (cond (decide (0 ≤ ix))
 (cond (AV.isAggN (Option.getD (row encSt m2)[Int.toNat ix]? AV.bad) 3 3)
 (cond (AV.isBoolV (AV.part (Option.getD (row encSt m2)[Int.toNat ix]? AV.bad) 0))
 (cond (AV.isIntK (AV.part (Option.getD (row encSt m2)[Int.toNat ix]? AV.bad) 1) IntKind.i64)
 (cond (AV.isIntK (AV.part (Option.getD (row encSt m2)[Int.toNat ix]? AV.bad) 2) IntKind.i64)
 (∃ (i313 : Nat),
 ∃ (j314 : Nat),
 ∃ (vs315 : List AV),
 ∃ (ls316 : List (List Int)),
 ∃ (s317 : Int),
 ∃ (pg318 : Int),
 And ([AV.ptr (Pl.mk i 0 [] 1), AV.int IntKind.i64 1, AV.int IntKind.i64 (AV.toInt (AV.part (Option.getD (row encSt m2)[Int.toNat ix]? AV.bad) 2))] = [AV.ptr (Pl.mk i313 0 [] 1), AV.int IntKind.i64 s317, AV.int IntKind.i64 pg318])
 (And (PinsR H i313 j314 vs315 ls316)
 (∀ (H'319 : Heap),
 ∀ (vs'320 : List AV),
 (PinsR H'319 i313 j314 vs'320 (dropS ls316 s317 pg318)) →
 (Nxt H i313 j314 vs315 H'319 vs'320) →
 ∃ (i321 : Nat),
 ∃ (j322 : Nat),
 ∃ (vs323 : List AV),
 ∃ (ls324 : List (List Int)),
 ∃ (s325 : Int),
 And ([AV.ptr (Pl.mk i 0 [] 1), AV.int IntKind.i64 0] = [AV.ptr (Pl.mk i321 0 [] 1), AV.int IntKind.i64 s325])
 (And (PinsR H'319 i321 j322 vs323 ls324)
 (And ((¬OkS ls324 s325 ∨ List.getD ls324 (Int.toNat s325) [] = []) →
 ∀ (H'326 : Heap),
 (Keep [] H'319 H'326) →
 ∃ (i327 : Nat),
 ∃ (j328 : Nat),
 ∃ (vs329 : List AV),
 ∃ (ls330 : List (List Int)),
 ∃ (s331 : Int),
 And ([AV.ptr (Pl.mk j 0 [] 1), AV.int IntKind.i64 0] = [AV.ptr (Pl.mk i327 0 [] 1), AV.int IntKind.i64 s331])
 (And (PinsR H'326 i327 j328 vs329 ls330)
 (And ((¬OkS ls330 s331 ∨ List.getD ls330 (Int.toNat s331) [] = []) →
 ∀ (H'332 : Heap),
 (Keep [] H'326 H'332) →
 ∃ (v333 : AV),
 ∃ (w334 : AV),
 ∃ (l335 : List Int),
 ∃ (m336 : List Int),
 And ([AV.nils, AV.nils] = [v333, w334])
 (And (Slot H'332 v333 l335)
 (And (Slot H'332 w334 m336)
 (And (List.length l335 ≤ 1000)
 (cond (!decide (l335 = m336))
 (k (AV.bool false) H'332 true)
 (resPS (S F) TL N 9 fuel 6 2 n0 [] [true, true, true, true, true, false, true] m (St.mk [(0, AV.isl 3 (row encSt l)), (1, AV.isl 3 (row encSt m2)), (4, AV.bad), (5, AV.ptr (Pl.mk i 0 [] 1)), (6, AV.bad), (7, AV.ptr (Pl.mk j 0 [] 1)), (8, AV.bad), (9, AV.int IntKind.i64 (IntKind.wrap IntKind.i64 (ix + 1))), (10, AV.bad), (11, AV.bad), (12, AV.bad), (20, AV.bad), (43, AV.bad), (50, AV.bad), (56, AV.bad), (62, AV.bad), (71, AV.bad), (80, AV.bad), (84, AV.bad), (89, AV.bad), (109, AV.bad), (111, AV.bad)] [] H'332 true) k))))))
 ((OkS ls330 s331) →
 ∀ (k0337 : Nat),
 ∀ (H'338 : Heap),
 (List.length H'326 ≤ k0337) →
 (Heap.blk H'338 k0337 = some (Blk.mk (AV.arr 1 (row encZ (List.getD ls330 (Int.toNat s331) []))) true true)) →
 (Keep [] H'326 H'338) →
 ∃ (v339 : AV),
 ∃ (w340 : AV),
 ∃ (l341 : List Int),
 ∃ (m342 : List Int),
 And ([AV.nils, AV.sl (Pl.mk k0337 0 [] (List.length (List.getD ls330 (Int.toNat s331) []))) 1 (List.length (List.getD ls330 (Int.toNat s331) [])) 0 (List.length (List.getD ls330 (Int.toNat s331) []))] = [v339, w340])
 (And (Slot H'338 v339 l341)
 (And (Slot H'338 w340 m342)
 (And (List.length l341 ≤ 1000)
 (cond (!decide (l341 = m342))
 (k (AV.bool false) H'338 true)
 (resPS (S F) TL N 9 fuel 6 2 n0 [] [true, true, true, true, true, false, true] m (St.mk [(0, AV.isl 3 (row encSt l)), (1, AV.isl 3 (row encSt m2)), (4, AV.bad), (5, AV.ptr (Pl.mk i 0 [] 1)), (6, AV.bad), (7, AV.ptr (Pl.mk j 0 [] 1)), (8, AV.bad), (9, AV.int IntKind.i64 (IntKind.wrap IntKind.i64 (ix + 1))), (10, AV.bad), (11, AV.bad), (12, AV.bad), (20, AV.bad), (43, AV.bad), (50, AV.bad), (56, AV.bad), (62, AV.bad), (71, AV.bad), (80, AV.bad), (84, AV.bad), (89, AV.bad), (109, AV.bad), (111, AV.bad)] [] H'338 true) k)))))))))
 ((OkS ls324 s325) →
 ∀ (k0343 : Nat),
 ∀ (H'344 : Heap),
 (List.length H'319 ≤ k0343) →
 (Heap.blk H'344 k0343 = some (Blk.mk (AV.arr 1 (row encZ (List.getD ls324 (Int.toNat s325) []))) true true)) →
 (Keep [] H'319 H'344) →
 ∃ (i345 : Nat),
 ∃ (j346 : Nat),
 ∃ (vs347 : List AV),
 ∃ (ls348 : List (List Int)),
 ∃ (s349 : Int),
 And ([AV.ptr (Pl.mk j 0 [] 1), AV.int IntKind.i64 0] = [AV.ptr (Pl.mk i345 0 [] 1), AV.int IntKind.i64 s349])
 (And (PinsR H'344 i345 j346 vs347 ls348)
 (And ((¬OkS ls348 s349 ∨ List.getD ls348 (Int.toNat s349) [] = []) →
 ∀ (H'350 : Heap),
 (Keep [] H'344 H'350) →
 ∃ (v351 : AV),
 ∃ (w352 : AV),
 ∃ (l353 : List Int),
 ∃ (m354 : List Int),
 And ([AV.sl (Pl.mk k0343 0 [] (List.length (List.getD ls324 (Int.toNat s325) []))) 1 (List.length (List.getD ls324 (Int.toNat s325) [])) 0 (List.length (List.getD ls324 (Int.toNat s325) [])), AV.nils] = [v351, w352])
 (And (Slot H'350 v351 l353)
 (And (Slot H'350 w352 m354)
 (And (List.length l353 ≤ 1000)
 (cond (!decide (l353 = m354))
 (k (AV.bool false) H'350 true)
 (resPS (S F) TL N 9 fuel 6 2 n0 [] [true, true, true, true, true, false, true] m (St.mk [(0, AV.isl 3 (row encSt l)), (1, AV.isl 3 (row encSt m2)), (4, AV.bad), (5, AV.ptr (Pl.mk i 0 [] 1)), (6, AV.bad), (7, AV.ptr (Pl.mk j 0 [] 1)), (8, AV.bad), (9, AV.int IntKind.i64 (IntKind.wrap IntKind.i64 (ix + 1))), (10, AV.bad), (11, AV.bad), (12, AV.bad), (20, AV.bad), (43, AV.bad), (50, AV.bad), (56, AV.bad), (62, AV.bad), (71, AV.bad), (80, AV.bad), (84, AV.bad), (89, AV.bad), (109, AV.bad), (111, AV.bad)] [] H'350 true) k))))))
 ((OkS ls348 s349) →
 ∀ (k0355 : Nat),
 ∀ (H'356 : Heap),
 (List.length H'344 ≤ k0355) →
 (Heap.blk H'356 k0355 = some (Blk.mk (AV.arr 1 (row encZ (List.getD ls348 (Int.toNat s349) []))) true true)) →
 (Keep [] H'344 H'356) →
 ∃ (v357 : AV),
 ∃ (w358 : AV),
 ∃ (l359 : List Int),
 ∃ (m360 : List Int),
 And ([AV.sl (Pl.mk k0343 0 [] (List.length (List.getD ls324 (Int.toNat s325) []))) 1 (List.length (List.getD ls324 (Int.toNat s325) [])) 0 (List.length (List.getD ls324 (Int.toNat s325) [])), AV.sl (Pl.mk k0355 0 [] (List.length (List.getD ls348 (Int.toNat s349) []))) 1 (List.length (List.getD ls348 (Int.toNat s349) [])) 0 (List.length (List.getD ls348 (Int.toNat s349) []))] = [v357, w358])
 (And (Slot H'356 v357 l359)
 (And (Slot H'356 w358 m360)
 (And (List.length l359 ≤ 1000)
 (cond (!decide (l359 = m360))
 (k (AV.bool false) H'356 true)
 (resPS (S F) TL N 9 fuel 6 2 n0 [] [true, true, true, true, true, false, true] m (St.mk [(0, AV.isl 3 (row encSt l)), (1, AV.isl 3 (row encSt m2)), (4, AV.bad), (5, AV.ptr (Pl.mk i 0 [] 1)), (6, AV.bad), (7, AV.ptr (Pl.mk j 0 [] 1)), (8, AV.bad), (9, AV.int IntKind.i64 (IntKind.wrap IntKind.i64 (ix + 1))), (10, AV.bad), (11, AV.bad), (12, AV.bad), (20, AV.bad), (43, AV.bad), (50, AV.bad), (56, AV.bad), (62, AV.bad), (71, AV.bad), (80, AV.bad), (84, AV.bad), (89, AV.bad), (109, AV.bad), (111, AV.bad)] [] H'356 true) k))))))))))))))
 (False))
 (False))
 (False))
 (False))
 (False))
 (cond (decide (0 ≤ ix))
 (cond (AV.isAggN (Option.getD (row encSt m2)[Int.toNat ix]? AV.bad) 3 3)
 (cond (AV.isBoolV (AV.part (Option.getD (row encSt m2)[Int.toNat ix]? AV.bad) 0))
 (cond (AV.isIntK (AV.part (Option.getD (row encSt m2)[Int.toNat ix]? AV.bad) 1) IntKind.i64)
 (cond (AV.isIntK (AV.part (Option.getD (row encSt m2)[Int.toNat ix]? AV.bad) 2) IntKind.i64)
 (∃ (i361 : Nat),
 ∃ (j362 : Nat),
 ∃ (vs363 : List AV),
 ∃ (ls364 : List (List Int)),
 ∃ (s365 : Int),
 ∃ (pg366 : Int),
 And ([AV.ptr (Pl.mk i 0 [] 1), AV.int IntKind.i64 1, AV.int IntKind.i64 (AV.toInt (AV.part (Option.getD (row encSt m2)[Int.toNat ix]? AV.bad) 2))] = [AV.ptr (Pl.mk i361 0 [] 1), AV.int IntKind.i64 s365, AV.int IntKind.i64 pg366])
 (And (PinsR H i361 j362 vs363 ls364)
 (∀ (H'367 : Heap),
 ∀ (vs'368 : List AV),
 (PinsR H'367 i361 j362 vs'368 (addS ls364 s365 pg366)) →
 (Nxt H i361 j362 vs363 H'367 vs'368) →
 ∃ (i369 : Nat),
 ∃ (j370 : Nat),
 ∃ (vs371 : List AV),
 ∃ (ls372 : List (List Int)),
 ∃ (s373 : Int),
 And ([AV.ptr (Pl.mk i 0 [] 1), AV.int IntKind.i64 0] = [AV.ptr (Pl.mk i369 0 [] 1), AV.int IntKind.i64 s373])
 (And (PinsR H'367 i369 j370 vs371 ls372)
 (And ((¬OkS ls372 s373 ∨ List.getD ls372 (Int.toNat s373) [] = []) →
 ∀ (H'374 : Heap),
 (Keep [] H'367 H'374) →
 ∃ (i375 : Nat),
 ∃ (j376 : Nat),
 ∃ (vs377 : List AV),
 ∃ (ls378 : List (List Int)),
 ∃ (s379 : Int),
 And ([AV.ptr (Pl.mk j 0 [] 1), AV.int IntKind.i64 0] = [AV.ptr (Pl.mk i375 0 [] 1), AV.int IntKind.i64 s379])
 (And (PinsR H'374 i375 j376 vs377 ls378)
 (And ((¬OkS ls378 s379 ∨ List.getD ls378 (Int.toNat s379) [] = []) →
 ∀ (H'380 : Heap),
 (Keep [] H'374 H'380) →
 ∃ (v381 : AV),
 ∃ (w382 : AV),
 ∃ (l383 : List Int),
 ∃ (m384 : List Int),
 And ([AV.nils, AV.nils] = [v381, w382])
 (And (Slot H'380 v381 l383)
 (And (Slot H'380 w382 m384)
 (And (List.length l383 ≤ 1000)
 (cond (!decide (l383 = m384))
 (k (AV.bool false) H'380 true)
 (resPS (S F) TL N 9 fuel 6 2 n0 [] [true, true, true, true, true, false, true] m (St.mk [(0, AV.isl 3 (row encSt l)), (1, AV.isl 3 (row encSt m2)), (4, AV.bad), (5, AV.ptr (Pl.mk i 0 [] 1)), (6, AV.bad), (7, AV.ptr (Pl.mk j 0 [] 1)), (8, AV.bad), (9, AV.int IntKind.i64 (IntKind.wrap IntKind.i64 (ix + 1))), (10, AV.bad), (11, AV.bad), (12, AV.bad), (20, AV.bad), (43, AV.bad), (50, AV.bad), (56, AV.bad), (62, AV.bad), (71, AV.bad), (80, AV.bad), (84, AV.bad), (89, AV.bad), (109, AV.bad), (111, AV.bad)] [] H'380 true) k))))))
 ((OkS ls378 s379) →
 ∀ (k0385 : Nat),
 ∀ (H'386 : Heap),
 (List.length H'374 ≤ k0385) →
 (Heap.blk H'386 k0385 = some (Blk.mk (AV.arr 1 (row encZ (List.getD ls378 (Int.toNat s379) []))) true true)) →
 (Keep [] H'374 H'386) →
 ∃ (v387 : AV),
 ∃ (w388 : AV),
 ∃ (l389 : List Int),
 ∃ (m390 : List Int),
 And ([AV.nils, AV.sl (Pl.mk k0385 0 [] (List.length (List.getD ls378 (Int.toNat s379) []))) 1 (List.length (List.getD ls378 (Int.toNat s379) [])) 0 (List.length (List.getD ls378 (Int.toNat s379) []))] = [v387, w388])
 (And (Slot H'386 v387 l389)
 (And (Slot H'386 w388 m390)
 (And (List.length l389 ≤ 1000)
 (cond (!decide (l389 = m390))
 (k (AV.bool false) H'386 true)
 (resPS (S F) TL N 9 fuel 6 2 n0 [] [true, true, true, true, true, false, true] m (St.mk [(0, AV.isl 3 (row encSt l)), (1, AV.isl 3 (row encSt m2)), (4, AV.bad), (5, AV.ptr (Pl.mk i 0 [] 1)), (6, AV.bad), (7, AV.ptr (Pl.mk j 0 [] 1)), (8, AV.bad), (9, AV.int IntKind.i64 (IntKind.wrap IntKind.i64 (ix + 1))), (10, AV.bad), (11, AV.bad), (12, AV.bad), (20, AV.bad), (43, AV.bad), (50, AV.bad), (56, AV.bad), (62, AV.bad), (71, AV.bad), (80, AV.bad), (84, AV.bad), (89, AV.bad), (109, AV.bad), (111, AV.bad)] [] H'386 true) k)))))))))
 ((OkS ls372 s373) →
 ∀ (k0391 : Nat),
 ∀ (H'392 : Heap),
 (List.length H'367 ≤ k0391) →
 (Heap.blk H'392 k0391 = some (Blk.mk (AV.arr 1 (row encZ (List.getD ls372 (Int.toNat s373) []))) true true)) →
 (Keep [] H'367 H'392) →
 ∃ (i393 : Nat),
 ∃ (j394 : Nat),
 ∃ (vs395 : List AV),
 ∃ (ls396 : List (List Int)),
 ∃ (s397 : Int),
 And ([AV.ptr (Pl.mk j 0 [] 1), AV.int IntKind.i64 0] = [AV.ptr (Pl.mk i393 0 [] 1), AV.int IntKind.i64 s397])
 (And (PinsR H'392 i393 j394 vs395 ls396)
 (And ((¬OkS ls396 s397 ∨ List.getD ls396 (Int.toNat s397) [] = []) →
 ∀ (H'398 : Heap),
 (Keep [] H'392 H'398) →
 ∃ (v399 : AV),
 ∃ (w400 : AV),
 ∃ (l401 : List Int),
 ∃ (m402 : List Int),
 And ([AV.sl (Pl.mk k0391 0 [] (List.length (List.getD ls372 (Int.toNat s373) []))) 1 (List.length (List.getD ls372 (Int.toNat s373) [])) 0 (List.length (List.getD ls372 (Int.toNat s373) [])), AV.nils] = [v399, w400])
 (And (Slot H'398 v399 l401)
 (And (Slot H'398 w400 m402)
 (And (List.length l401 ≤ 1000)
 (cond (!decide (l401 = m402))
 (k (AV.bool false) H'398 true)
 (resPS (S F) TL N 9 fuel 6 2 n0 [] [true, true, true, true, true, false, true] m (St.mk [(0, AV.isl 3 (row encSt l)), (1, AV.isl 3 (row encSt m2)), (4, AV.bad), (5, AV.ptr (Pl.mk i 0 [] 1)), (6, AV.bad), (7, AV.ptr (Pl.mk j 0 [] 1)), (8, AV.bad), (9, AV.int IntKind.i64 (IntKind.wrap IntKind.i64 (ix + 1))), (10, AV.bad), (11, AV.bad), (12, AV.bad), (20, AV.bad), (43, AV.bad), (50, AV.bad), (56, AV.bad), (62, AV.bad), (71, AV.bad), (80, AV.bad), (84, AV.bad), (89, AV.bad), (109, AV.bad), (111, AV.bad)] [] H'398 true) k))))))
 ((OkS ls396 s397) →
 ∀ (k0403 : Nat),
 ∀ (H'404 : Heap),
 (List.length H'392 ≤ k0403) →
 (Heap.blk H'404 k0403 = some (Blk.mk (AV.arr 1 (row encZ (List.getD ls396 (Int.toNat s397) []))) true true)) →
 (Keep [] H'392 H'404) →
 ∃ (v405 : AV),
 ∃ (w406 : AV),
 ∃ (l407 : List Int),
 ∃ (m408 : List Int),
 And ([AV.sl (Pl.mk k0391 0 [] (List.length (List.getD ls372 (Int.toNat s373) []))) 1 (List.length (List.getD ls372 (Int.toNat s373) [])) 0 (List.length (List.getD ls372 (Int.toNat s373) [])), AV.sl (Pl.mk k0403 0 [] (List.length (List.getD ls396 (Int.toNat s397) []))) 1 (List.length (List.getD ls396 (Int.toNat s397) [])) 0 (List.length (List.getD ls396 (Int.toNat s397) []))] = [v405, w406])
 (And (Slot H'404 v405 l407)
 (And (Slot H'404 w406 m408)
 (And (List.length l407 ≤ 1000)
 (cond (!decide (l407 = m408))
 (k (AV.bool false) H'404 true)
 (resPS (S F) TL N 9 fuel 6 2 n0 [] [true, true, true, true, true, false, true] m (St.mk [(0, AV.isl 3 (row encSt l)), (1, AV.isl 3 (row encSt m2)), (4, AV.bad), (5, AV.ptr (Pl.mk i 0 [] 1)), (6, AV.bad), (7, AV.ptr (Pl.mk j 0 [] 1)), (8, AV.bad), (9, AV.int IntKind.i64 (IntKind.wrap IntKind.i64 (ix + 1))), (10, AV.bad), (11, AV.bad), (12, AV.bad), (20, AV.bad), (43, AV.bad), (50, AV.bad), (56, AV.bad), (62, AV.bad), (71, AV.bad), (80, AV.bad), (84, AV.bad), (89, AV.bad), (109, AV.bad), (111, AV.bad)] [] H'404 true) k))))))))))))))
 (False))
 (False))
 (False))
 (False))
 (False)))
 (False))
 (False))
 (False))
 (False))
 (False))
 (∃ (i409 : Nat),
 ∃ (j410 : Nat),
 ∃ (vs411 : List AV),
 ∃ (ls412 : List (List Int)),
 ∃ (s413 : Int),
 And ([AV.ptr (Pl.mk i 0 [] 1), AV.int IntKind.i64 0] = [AV.ptr (Pl.mk i409 0 [] 1), AV.int IntKind.i64 s413])
 (And (PinsR H i409 j410 vs411 ls412)
 (And ((¬OkS ls412 s413 ∨ List.getD ls412 (Int.toNat s413) [] = []) →
 ∀ (H'414 : Heap),
 (Keep [] H H'414) →
 ∃ (i415 : Nat),
 ∃ (j416 : Nat),
 ∃ (vs417 : List AV),
 ∃ (ls418 : List (List Int)),
 ∃ (s419 : Int),
 And ([AV.ptr (Pl.mk j 0 [] 1), AV.int IntKind.i64 0] = [AV.ptr (Pl.mk i415 0 [] 1), AV.int IntKind.i64 s419])
 (And (PinsR H'414 i415 j416 vs417 ls418)
 (And ((¬OkS ls418 s419 ∨ List.getD ls418 (Int.toNat s419) [] = []) →
 ∀ (H'420 : Heap),
 (Keep [] H'414 H'420) →
 ∃ (v421 : AV),
 ∃ (w422 : AV),
 ∃ (l423 : List Int),
 ∃ (m424 : List Int),
 And ([AV.nils, AV.nils] = [v421, w422])
 (And (Slot H'420 v421 l423)
 (And (Slot H'420 w422 m424)
 (And (List.length l423 ≤ 1000)
 (cond (!decide (l423 = m424))
 (k (AV.bool false) H'420 true)
 (resPS (S F) TL N 9 fuel 6 2 n0 [] [true, true, true, true, true, false, true] m (St.mk [(0, AV.isl 3 (row encSt l)), (1, AV.isl 3 (row encSt m2)), (4, AV.bad), (5, AV.ptr (Pl.mk i 0 [] 1)), (6, AV.bad), (7, AV.ptr (Pl.mk j 0 [] 1)), (8, AV.bad), (9, AV.int IntKind.i64 (IntKind.wrap IntKind.i64 (ix + 1))), (10, AV.bad), (11, AV.bad), (12, AV.bad), (20, AV.bad), (43, AV.bad), (50, AV.bad), (56, AV.bad), (62, AV.bad), (71, AV.bad), (80, AV.bad), (84, AV.bad), (89, AV.bad), (109, AV.bad), (111, AV.bad)] [] H'420 true) k))))))
 ((OkS ls418 s419) →
 ∀ (k0425 : Nat),
 ∀ (H'426 : Heap),
 (List.length H'414 ≤ k0425) →
 (Heap.blk H'426 k0425 = some (Blk.mk (AV.arr 1 (row encZ (List.getD ls418 (Int.toNat s419) []))) true true)) →
 (Keep [] H'414 H'426) →
 ∃ (v427 : AV),
 ∃ (w428 : AV),
 ∃ (l429 : List Int),
 ∃ (m430 : List Int),
 And ([AV.nils, AV.sl (Pl.mk k0425 0 [] (List.length (List.getD ls418 (Int.toNat s419) []))) 1 (List.length (List.getD ls418 (Int.toNat s419) [])) 0 (List.length (List.getD ls418 (Int.toNat s419) []))] = [v427, w428])
 (And (Slot H'426 v427 l429)
 (And (Slot H'426 w428 m430)
 (And (List.length l429 ≤ 1000)
 (cond (!decide (l429 = m430))
 (k (AV.bool false) H'426 true)
 (resPS (S F) TL N 9 fuel 6 2 n0 [] [true, true, true, true, true, false, true] m (St.mk [(0, AV.isl 3 (row encSt l)), (1, AV.isl 3 (row encSt m2)), (4, AV.bad), (5, AV.ptr (Pl.mk i 0 [] 1)), (6, AV.bad), (7, AV.ptr (Pl.mk j 0 [] 1)), (8, AV.bad), (9, AV.int IntKind.i64 (IntKind.wrap IntKind.i64 (ix + 1))), (10, AV.bad), (11, AV.bad), (12, AV.bad), (20, AV.bad), (43, AV.bad), (50, AV.bad), (56, AV.bad), (62, AV.bad), (71, AV.bad), (80, AV.bad), (84, AV.bad), (89, AV.bad), (109, AV.bad), (111, AV.bad)] [] H'426 true) k)))))))))
 ((OkS ls412 s413) →
 ∀ (k0431 : Nat),
 ∀ (H'432 : Heap),
 (List.length H ≤ k0431) →
 (Heap.blk H'432 k0431 = some (Blk.mk (AV.arr 1 (row encZ (List.getD ls412 (Int.toNat s413) []))) true true)) →
 (Keep [] H H'432) →
 ∃ (i433 : Nat),
 ∃ (j434 : Nat),
 ∃ (vs435 : List AV),
 ∃ (ls436 : List (List Int)),
 ∃ (s437 : Int),
 And ([AV.ptr (Pl.mk j 0 [] 1), AV.int IntKind.i64 0] = [AV.ptr (Pl.mk i433 0 [] 1), AV.int IntKind.i64 s437])
 (And (PinsR H'432 i433 j434 vs435 ls436)
 (And ((¬OkS ls436 s437 ∨ List.getD ls436 (Int.toNat s437) [] = []) →
 ∀ (H'438 : Heap),
 (Keep [] H'432 H'438) →
 ∃ (v439 : AV),
 ∃ (w440 : AV),
 ∃ (l441 : List Int),
 ∃ (m442 : List Int),
 And ([AV.sl (Pl.mk k0431 0 [] (List.length (List.getD ls412 (Int.toNat s413) []))) 1 (List.length (List.getD ls412 (Int.toNat s413) [])) 0 (List.length (List.getD ls412 (Int.toNat s413) [])), AV.nils] = [v439, w440])
 (And (Slot H'438 v439 l441)
 (And (Slot H'438 w440 m442)
 (And (List.length l441 ≤ 1000)
 (cond (!decide (l441 = m442))
 (k (AV.bool false) H'438 true)
 (resPS (S F) TL N 9 fuel 6 2 n0 [] [true, true, true, true, true, false, true] m (St.mk [(0, AV.isl 3 (row encSt l)), (1, AV.isl 3 (row encSt m2)), (4, AV.bad), (5, AV.ptr (Pl.mk i 0 [] 1)), (6, AV.bad), (7, AV.ptr (Pl.mk j 0 [] 1)), (8, AV.bad), (9, AV.int IntKind.i64 (IntKind.wrap IntKind.i64 (ix + 1))), (10, AV.bad), (11, AV.bad), (12, AV.bad), (20, AV.bad), (43, AV.bad), (50, AV.bad), (56, AV.bad), (62, AV.bad), (71, AV.bad), (80, AV.bad), (84, AV.bad), (89, AV.bad), (109, AV.bad), (111, AV.bad)] [] H'438 true) k))))))
 ((OkS ls436 s437) →
 ∀ (k0443 : Nat),
 ∀ (H'444 : Heap),
 (List.length H'432 ≤ k0443) →
 (Heap.blk H'444 k0443 = some (Blk.mk (AV.arr 1 (row encZ (List.getD ls436 (Int.toNat s437) []))) true true)) →
 (Keep [] H'432 H'444) →
 ∃ (v445 : AV),
 ∃ (w446 : AV),
 ∃ (l447 : List Int),
 ∃ (m448 : List Int),
 And ([AV.sl (Pl.mk k0431 0 [] (List.length (List.getD ls412 (Int.toNat s413) []))) 1 (List.length (List.getD ls412 (Int.toNat s413) [])) 0 (List.length (List.getD ls412 (Int.toNat s413) [])), AV.sl (Pl.mk k0443 0 [] (List.length (List.getD ls436 (Int.toNat s437) []))) 1 (List.length (List.getD ls436 (Int.toNat s437) [])) 0 (List.length (List.getD ls436 (Int.toNat s437) []))] = [v445, w446])
 (And (Slot H'444 v445 l447)
 (And (Slot H'444 w446 m448)
 (And (List.length l447 ≤ 1000)
 (cond (!decide (l447 = m448))
 (k (AV.bool false) H'444 true)
 (resPS (S F) TL N 9 fuel 6 2 n0 [] [true, true, true, true, true, false, true] m (St.mk [(0, AV.isl 3 (row encSt l)), (1, AV.isl 3 (row encSt m2)), (4, AV.bad), (5, AV.ptr (Pl.mk i 0 [] 1)), (6, AV.bad), (7, AV.ptr (Pl.mk j 0 [] 1)), (8, AV.bad), (9, AV.int IntKind.i64 (IntKind.wrap IntKind.i64 (ix + 1))), (10, AV.bad), (11, AV.bad), (12, AV.bad), (20, AV.bad), (43, AV.bad), (50, AV.bad), (56, AV.bad), (62, AV.bad), (71, AV.bad), (80, AV.bad), (84, AV.bad), (89, AV.bad), (109, AV.bad), (111, AV.bad)] [] H'444 true) k))))))))))))))
 (resPS (S F) TL N 9 fuel 6 2 n0 [] [true, true, true, true, true, true, true, false, true] fuel (St.mk [(0, AV.bad), (1, AV.bad), (4, AV.bad), (5, AV.ptr (Pl.mk i 0 [] 1)), (6, AV.bad), (7, AV.bad), (8, AV.bad), (9, AV.bad), (10, AV.bad), (11, AV.int IntKind.i64 0), (12, AV.int IntKind.i64 0), (20, AV.bad), (43, AV.bad), (50, AV.bad), (56, AV.bad), (62, AV.bad), (71, AV.bad), (80, AV.bad), (84, AV.bad), (89, AV.bad), (109, AV.bad), (111, AV.bad)] [] H true) k)) : Prop) := by kernel_rfl
theorem step6b (N fuel m n0 i : Nat) (H : Heap) (c q : Int) (k : AV → Heap → Bool → Prop) :
 (resPS (S F) TL N 9 fuel 6 2 n0 [] [true, true, true, true, true, true, true, false, true] (m + 1) ⟨L6b i c q, [], H, true⟩ k) =
 ((cond (decide (q < 64))
 (∃ (i0 : Nat),
 ∃ (j1 : Nat),
 ∃ (vs2 : List AV),
 ∃ (ls3 : List (List Int)),
 ∃ (pg4 : Int),
 And ([AV.ptr (Pl.mk i 0 [] 1), AV.int IntKind.i64 q] = [AV.ptr (Pl.mk i0 0 [] 1), AV.int IntKind.i64 pg4])
 (And (PinsR H i0 j1 vs2 ls3)
 (resPS (S F) TL N 9 fuel 6 2 n0 [] [true, true, true, true, true, true, true, false, true] m (St.mk [(0, AV.bad), (1, AV.bad), (4, AV.bad), (5, AV.ptr (Pl.mk i 0 [] 1)), (6, AV.bad), (7, AV.bad), (8, AV.bad), (9, AV.bad), (10, AV.bad), (11, AV.int IntKind.i64 (IntKind.wrap IntKind.i64 (c + (↑(cntL pg4 ls3) : Int)))), (12, AV.int IntKind.i64 (IntKind.wrap IntKind.i64 (q + 1))), (20, AV.bad), (43, AV.bad), (50, AV.bad), (56, AV.bad), (62, AV.bad), (71, AV.bad), (80, AV.bad), (84, AV.bad), (89, AV.bad), (109, AV.bad), (111, AV.bad)] [] H true) k)))
 (∃ (i5 : Nat),
 ∃ (j6 : Nat),
 ∃ (vs7 : List AV),
 ∃ (ls8 : List (List Int)),
 ∃ (s9 : Int),
 And ([AV.ptr (Pl.mk i 0 [] 1), AV.int IntKind.i64 0] = [AV.ptr (Pl.mk i5 0 [] 1), AV.int IntKind.i64 s9])
 (And (PinsR H i5 j6 vs7 ls8)
 (And ((¬OkS ls8 s9 ∨ List.getD ls8 (Int.toNat s9) [] = []) →
 ∀ (H'10 : Heap),
 (Keep [] H H'10) →
 ∃ (i11 : Nat),
 ∃ (j12 : Nat),
 ∃ (vs13 : List AV),
 ∃ (ls14 : List (List Int)),
 ∃ (s15 : Int),
 And ([AV.ptr (Pl.mk i 0 [] 1), AV.int IntKind.i64 1] = [AV.ptr (Pl.mk i11 0 [] 1), AV.int IntKind.i64 s15])
 (And (PinsR H'10 i11 j12 vs13 ls14)
 (And ((¬OkS ls14 s15 ∨ List.getD ls14 (Int.toNat s15) [] = []) →
 ∀ (H'16 : Heap),
 (Keep [] H'10 H'16) →
 cond (c == IntKind.wrap IntKind.i64 ((↑0 : Int) + (↑0 : Int)))
 (And (([] : List AV) = [])
 (k (AV.bool true) H'16 true))
 (k (AV.bool false) H'16 true))
 ((OkS ls14 s15) →
 ∀ (k017 : Nat),
 ∀ (H'18 : Heap),
 (List.length H'10 ≤ k017) →
 (Heap.blk H'18 k017 = some (Blk.mk (AV.arr 1 (row encZ (List.getD ls14 (Int.toNat s15) []))) true true)) →
 (Keep [] H'10 H'18) →
 cond (c == IntKind.wrap IntKind.i64 ((↑0 : Int) + (↑(List.length (List.getD ls14 (Int.toNat s15) [])) : Int)))
 (And (([] : List AV) = [])
 (k (AV.bool true) H'18 true))
 (k (AV.bool false) H'18 true)))))
 ((OkS ls8 s9) →
 ∀ (k019 : Nat),
 ∀ (H'20 : Heap),
 (List.length H ≤ k019) →
 (Heap.blk H'20 k019 = some (Blk.mk (AV.arr 1 (row encZ (List.getD ls8 (Int.toNat s9) []))) true true)) →
 (Keep [] H H'20) →
 ∃ (i21 : Nat),
 ∃ (j22 : Nat),
 ∃ (vs23 : List AV),
 ∃ (ls24 : List (List Int)),
 ∃ (s25 : Int),
 And ([AV.ptr (Pl.mk i 0 [] 1), AV.int IntKind.i64 1] = [AV.ptr (Pl.mk i21 0 [] 1), AV.int IntKind.i64 s25])
 (And (PinsR H'20 i21 j22 vs23 ls24)
 (And ((¬OkS ls24 s25 ∨ List.getD ls24 (Int.toNat s25) [] = []) →
 ∀ (H'26 : Heap),
 (Keep [] H'20 H'26) →
 cond (c == IntKind.wrap IntKind.i64 ((↑(List.length (List.getD ls8 (Int.toNat s9) [])) : Int) + (↑0 : Int)))
 (And (([] : List AV) = [])
 (k (AV.bool true) H'26 true))
 (k (AV.bool false) H'26 true))
 ((OkS ls24 s25) →
 ∀ (k027 : Nat),
 ∀ (H'28 : Heap),
 (List.length H'20 ≤ k027) →
 (Heap.blk H'28 k027 = some (Blk.mk (AV.arr 1 (row encZ (List.getD ls24 (Int.toNat s25) []))) true true)) →
 (Keep [] H'20 H'28) →
 cond (c == IntKind.wrap IntKind.i64 ((↑(List.length (List.getD ls8 (Int.toNat s9) [])) : Int) + (↑(List.length (List.getD ls24 (Int.toNat s25) [])) : Int)))
 (And (([] : List AV) = [])
 (k (AV.bool true) H'28 true))
 (k (AV.bool false) H'28 true))))))))) : Prop) := by kernel_rfl
theorem step6n (N fuel m n0 : Nat) (m2 : List Stp) (i j : Nat) (H : Heap) (ix : Int) (k : AV → Heap → Bool → Prop) :
 (resPS (S F) TL N 9 fuel 6 2 n0 [] [true, true, true, true, true, false, true] (m + 1) ⟨L6 .nils (.isl 3 (row encSt m2)) i j ix, [], H, true⟩ k) =
 ((cond (decide (ix < if (↑(List.length (row encSt m2)) : Int) > (↑0 : Int) then (↑(List.length (row encSt m2)) : Int) else (↑0 : Int)))
 (cond (decide (ix < (↑0 : Int)))
 (False)
 (cond (decide (ix < (↑(List.length (row encSt m2)) : Int)))
 (cond (decide (0 ≤ ix))
 (cond (AV.isAggN (Option.getD (row encSt m2)[Int.toNat ix]? AV.bad) 3 3)
 (cond (AV.isBoolV (AV.part (Option.getD (row encSt m2)[Int.toNat ix]? AV.bad) 0))
 (cond (AV.isIntK (AV.part (Option.getD (row encSt m2)[Int.toNat ix]? AV.bad) 1) IntKind.i64)
 (cond (AV.isIntK (AV.part (Option.getD (row encSt m2)[Int.toNat ix]? AV.bad) 2) IntKind.i64)
 (cond (AV.toBool (AV.part (Option.getD (row encSt m2)[Int.toNat ix]? AV.bad) 0))
 (cond (decide (0 ≤ ix))
 (cond (AV.isAggN (Option.getD (row encSt m2)[Int.toNat ix]? AV.bad) 3 3)
 (cond (AV.isBoolV (AV.part (Option.getD (row encSt m2)[Int.toNat ix]? AV.bad) 0))
 (cond (AV.isIntK (AV.part (Option.getD (row encSt m2)[Int.toNat ix]? AV.bad) 1) IntKind.i64)
 (cond (AV.isIntK (AV.part (Option.getD (row encSt m2)[Int.toNat ix]? AV.bad) 2) IntKind.i64)
 (∃ (i0 : Nat),
 ∃ (j1 : Nat),
 ∃ (vs2 : List AV),
 ∃ (ls3 : List (List Int)),
 ∃ (s4 : Int),
 ∃ (pg5 : Int),
 And ([AV.ptr (Pl.mk i 0 [] 1), AV.int IntKind.i64 1, AV.int IntKind.i64 (AV.toInt (AV.part (Option.getD (row encSt m2)[Int.toNat ix]? AV.bad) 2))] = [AV.ptr (Pl.mk i0 0 [] 1), AV.int IntKind.i64 s4, AV.int IntKind.i64 pg5])
 (And (PinsR H i0 j1 vs2 ls3)
 (∀ (H'6 : Heap),
 ∀ (vs'7 : List AV),
 (PinsR H'6 i0 j1 vs'7 (dropS ls3 s4 pg5)) →
 (Nxt H i0 j1 vs2 H'6 vs'7) →
 ∃ (i8 : Nat),
 ∃ (j9 : Nat),
 ∃ (vs10 : List AV),
 ∃ (ls11 : List (List Int)),
 ∃ (s12 : Int),
 And ([AV.ptr (Pl.mk i 0 [] 1), AV.int IntKind.i64 0] = [AV.ptr (Pl.mk i8 0 [] 1), AV.int IntKind.i64 s12])
 (And (PinsR H'6 i8 j9 vs10 ls11)
 (And ((¬OkS ls11 s12 ∨ List.getD ls11 (Int.toNat s12) [] = []) →
 ∀ (H'13 : Heap),
 (Keep [] H'6 H'13) →
 ∃ (i14 : Nat),
 ∃ (j15 : Nat),
 ∃ (vs16 : List AV),
 ∃ (ls17 : List (List Int)),
 ∃ (s18 : Int),
 And ([AV.ptr (Pl.mk j 0 [] 1), AV.int IntKind.i64 0] = [AV.ptr (Pl.mk i14 0 [] 1), AV.int IntKind.i64 s18])
 (And (PinsR H'13 i14 j15 vs16 ls17)
 (And ((¬OkS ls17 s18 ∨ List.getD ls17 (Int.toNat s18) [] = []) →
 ∀ (H'19 : Heap),
 (Keep [] H'13 H'19) →
 ∃ (v20 : AV),
 ∃ (w21 : AV),
 ∃ (l22 : List Int),
 ∃ (m23 : List Int),
 And ([AV.nils, AV.nils] = [v20, w21])
 (And (Slot H'19 v20 l22)
 (And (Slot H'19 w21 m23)
 (And (List.length l22 ≤ 1000)
 (cond (!decide (l22 = m23))
 (k (AV.bool false) H'19 true)
 (resPS (S F) TL N 9 fuel 6 2 n0 [] [true, true, true, true, true, false, true] m (St.mk [(0, AV.nils), (1, AV.isl 3 (row encSt m2)), (4, AV.bad), (5, AV.ptr (Pl.mk i 0 [] 1)), (6, AV.bad), (7, AV.ptr (Pl.mk j 0 [] 1)), (8, AV.bad), (9, AV.int IntKind.i64 (IntKind.wrap IntKind.i64 (ix + 1))), (10, AV.bad), (11, AV.bad), (12, AV.bad), (20, AV.bad), (43, AV.bad), (50, AV.bad), (56, AV.bad), (62, AV.bad), (71, AV.bad), (80, AV.bad), (84, AV.bad), (89, AV.bad), (109, AV.bad), (111, AV.bad)] [] H'19 true) k))))))
 ((OkS ls17 s18) →
 ∀ (k024 : Nat),
 ∀ (H'25 : Heap),
 (List.length H'13 ≤ k024) →
 (Heap.blk H'25 k024 = some (Blk.mk (AV.arr 1 (row encZ (List.getD ls17 (Int.toNat s18) []))) true true)) →
 (Keep [] H'13 H'25) →
 ∃ (v26 : AV),
 ∃ (w27 : AV),
 ∃ (l28 : List Int),
 ∃ (m29 : List Int),
 And ([AV.nils, AV.sl (Pl.mk k024 0 [] (List.length (List.getD ls17 (Int.toNat s18) []))) 1 (List.length (List.getD ls17 (Int.toNat s18) [])) 0 (List.length (List.getD ls17 (Int.toNat s18) []))] = [v26, w27])
 (And (Slot H'25 v26 l28)
 (And (Slot H'25 w27 m29)
 (And (List.length l28 ≤ 1000)
 (cond (!decide (l28 = m29))
 (k (AV.bool false) H'25 true)
 (resPS (S F) TL N 9 fuel 6 2 n0 [] [true, true, true, true, true, false, true] m (St.mk [(0, AV.nils), (1, AV.isl 3 (row encSt m2)), (4, AV.bad), (5, AV.ptr (Pl.mk i 0 [] 1)), (6, AV.bad), (7, AV.ptr (Pl.mk j 0 [] 1)), (8, AV.bad), (9, AV.int IntKind.i64 (IntKind.wrap IntKind.i64 (ix + 1))), (10, AV.bad), (11, AV.bad), (12, AV.bad), (20, AV.bad), (43, AV.bad), (50, AV.bad), (56, AV.bad), (62, AV.bad), (71, AV.bad), (80, AV.bad), (84, AV.bad), (89, AV.bad), (109, AV.bad), (111, AV.bad)] [] H'25 true) k)))))))))
 ((OkS ls11 s12) →
 ∀ (k030 : Nat),
 ∀ (H'31 : Heap),
 (List.length H'6 ≤ k030) →
 (Heap.blk H'31 k030 = some (Blk.mk (AV.arr 1 (row encZ (List.getD ls11 (Int.toNat s12) []))) true true)) →
 (Keep [] H'6 H'31) →
 ∃ (i32 : Nat),
 ∃ (j33 : Nat),
 ∃ (vs34 : List AV),
 ∃ (ls35 : List (List Int)),
 ∃ (s36 : Int),
 And ([AV.ptr (Pl.mk j 0 [] 1), AV.int IntKind.i64 0] = [AV.ptr (Pl.mk i32 0 [] 1), AV.int IntKind.i64 s36])
 (And (PinsR H'31 i32 j33 vs34 ls35)
 (And ((¬OkS ls35 s36 ∨ List.getD ls35 (Int.toNat s36) [] = []) →
 ∀ (H'37 : Heap),
 (Keep [] H'31 H'37) →
 ∃ (v38 : AV),
 ∃ (w39 : AV),
 ∃ (l40 : List Int),
 ∃ (m41 : List Int),
 And ([AV.sl (Pl.mk k030 0 [] (List.length (List.getD ls11 (Int.toNat s12) []))) 1 (List.length (List.getD ls11 (Int.toNat s12) [])) 0 (List.length (List.getD ls11 (Int.toNat s12) [])), AV.nils] = [v38, w39])
 (And (Slot H'37 v38 l40)
 (And (Slot H'37 w39 m41)
 (And (List.length l40 ≤ 1000)
 (cond (!decide (l40 = m41))
 (k (AV.bool false) H'37 true)
 (resPS (S F) TL N 9 fuel 6 2 n0 [] [true, true, true, true, true, false, true] m (St.mk [(0, AV.nils), (1, AV.isl 3 (row encSt m2)), (4, AV.bad), (5, AV.ptr (Pl.mk i 0 [] 1)), (6, AV.bad), (7, AV.ptr (Pl.mk j 0 [] 1)), (8, AV.bad), (9, AV.int IntKind.i64 (IntKind.wrap IntKind.i64 (ix + 1))), (10, AV.bad), (11, AV.bad), (12, AV.bad), (20, AV.bad), (43, AV.bad), (50, AV.bad), (56, AV.bad), (62, AV.bad), (71, AV.bad), (80, AV.bad), (84, AV.bad), (89, AV.bad), (109, AV.bad), (111, AV.bad)] [] H'37 true) k))))))
 ((OkS ls35 s36) →
 ∀ (k042 : Nat),
 ∀ (H'43 : Heap),
 (List.length H'31 ≤ k042) →
 (Heap.blk H'43 k042 = some (Blk.mk (AV.arr 1 (row encZ (List.getD ls35 (Int.toNat s36) []))) true true)) →
 (Keep [] H'31 H'43) →
 ∃ (v44 : AV),
 ∃ (w45 : AV),
 ∃ (l46 : List Int),
 ∃ (m47 : List Int),
 And ([AV.sl (Pl.mk k030 0 [] (List.length (List.getD ls11 (Int.toNat s12) []))) 1 (List.length (List.getD ls11 (Int.toNat s12) [])) 0 (List.length (List.getD ls11 (Int.toNat s12) [])), AV.sl (Pl.mk k042 0 [] (List.length (List.getD ls35 (Int.toNat s36) []))) 1 (List.length (List.getD ls35 (Int.toNat s36) [])) 0 (List.length (List.getD ls35 (Int.toNat s36) []))] = [v44, w45])
 (And (Slot H'43 v44 l46)
 (And (Slot H'43 w45 m47)
 (And (List.length l46 ≤ 1000)
 (cond (!decide (l46 = m47))
 (k (AV.bool false) H'43 true)
 (resPS (S F) TL N 9 fuel 6 2 n0 [] [true, true, true, true, true, false, true] m (St.mk [(0, AV.nils), (1, AV.isl 3 (row encSt m2)), (4, AV.bad), (5, AV.ptr (Pl.mk i 0 [] 1)), (6, AV.bad), (7, AV.ptr (Pl.mk j 0 [] 1)), (8, AV.bad), (9, AV.int IntKind.i64 (IntKind.wrap IntKind.i64 (ix + 1))), (10, AV.bad), (11, AV.bad), (12, AV.bad), (20, AV.bad), (43, AV.bad), (50, AV.bad), (56, AV.bad), (62, AV.bad), (71, AV.bad), (80, AV.bad), (84, AV.bad), (89, AV.bad), (109, AV.bad), (111, AV.bad)] [] H'43 true) k))))))))))))))
 (False))
 (False))
 (False))
 (False))
 (False))
 (cond (decide (0 ≤ ix))
 (cond (AV.isAggN (Option.getD (row encSt m2)[Int.toNat ix]? AV.bad) 3 3)
 (cond (AV.isBoolV (AV.part (Option.getD (row encSt m2)[Int.toNat ix]? AV.bad) 0))
 (cond (AV.isIntK (AV.part (Option.getD (row encSt m2)[Int.toNat ix]? AV.bad) 1) IntKind.i64)
 (cond (AV.isIntK (AV.part (Option.getD (row encSt m2)[Int.toNat ix]? AV.bad) 2) IntKind.i64)
 (∃ (i48 : Nat),
 ∃ (j49 : Nat),
 ∃ (vs50 : List AV),
 ∃ (ls51 : List (List Int)),
 ∃ (s52 : Int),
 ∃ (pg53 : Int),
 And ([AV.ptr (Pl.mk i 0 [] 1), AV.int IntKind.i64 1, AV.int IntKind.i64 (AV.toInt (AV.part (Option.getD (row encSt m2)[Int.toNat ix]? AV.bad) 2))] = [AV.ptr (Pl.mk i48 0 [] 1), AV.int IntKind.i64 s52, AV.int IntKind.i64 pg53])
 (And (PinsR H i48 j49 vs50 ls51)
 (∀ (H'54 : Heap),
 ∀ (vs'55 : List AV),
 (PinsR H'54 i48 j49 vs'55 (addS ls51 s52 pg53)) →
 (Nxt H i48 j49 vs50 H'54 vs'55) →
 ∃ (i56 : Nat),
 ∃ (j57 : Nat),
 ∃ (vs58 : List AV),
 ∃ (ls59 : List (List Int)),
 ∃ (s60 : Int),
 And ([AV.ptr (Pl.mk i 0 [] 1), AV.int IntKind.i64 0] = [AV.ptr (Pl.mk i56 0 [] 1), AV.int IntKind.i64 s60])
 (And (PinsR H'54 i56 j57 vs58 ls59)
 (And ((¬OkS ls59 s60 ∨ List.getD ls59 (Int.toNat s60) [] = []) →
 ∀ (H'61 : Heap),
 (Keep [] H'54 H'61) →
 ∃ (i62 : Nat),
 ∃ (j63 : Nat),
 ∃ (vs64 : List AV),
 ∃ (ls65 : List (List Int)),
 ∃ (s66 : Int),
 And ([AV.ptr (Pl.mk j 0 [] 1), AV.int IntKind.i64 0] = [AV.ptr (Pl.mk i62 0 [] 1), AV.int IntKind.i64 s66])
 (And (PinsR H'61 i62 j63 vs64 ls65)
 (And ((¬OkS ls65 s66 ∨ List.getD ls65 (Int.toNat s66) [] = []) →
 ∀ (H'67 : Heap),
 (Keep [] H'61 H'67) →
 ∃ (v68 : AV),
 ∃ (w69 : AV),
 ∃ (l70 : List Int),
 ∃ (m71 : List Int),
 And ([AV.nils, AV.nils] = [v68, w69])
 (And (Slot H'67 v68 l70)
 (And (Slot H'67 w69 m71)
 (And (List.length l70 ≤ 1000)
 (cond (!decide (l70 = m71))
 (k (AV.bool false) H'67 true)
 (resPS (S F) TL N 9 fuel 6 2 n0 [] [true, true, true, true, true, false, true] m (St.mk [(0, AV.nils), (1, AV.isl 3 (row encSt m2)), (4, AV.bad), (5, AV.ptr (Pl.mk i 0 [] 1)), (6, AV.bad), (7, AV.ptr (Pl.mk j 0 [] 1)), (8, AV.bad), (9, AV.int IntKind.i64 (IntKind.wrap IntKind.i64 (ix + 1))), (10, AV.bad), (11, AV.bad), (12, AV.bad), (20, AV.bad), (43, AV.bad), (50, AV.bad), (56, AV.bad), (62, AV.bad), (71, AV.bad), (80, AV.bad), (84, AV.bad), (89, AV.bad), (109, AV.bad), (111, AV.bad)] [] H'67 true) k))))))
 ((OkS ls65 s66) →
 ∀ (k072 : Nat),
 ∀ (H'73 : Heap),
 (List.length H'61 ≤ k072) →
 (Heap.blk H'73 k072 = some (Blk.mk (AV.arr 1 (row encZ (List.getD ls65 (Int.toNat s66) []))) true true)) →
 (Keep [] H'61 H'73) →
 ∃ (v74 : AV),
 ∃ (w75 : AV),
 ∃ (l76 : List Int),
 ∃ (m77 : List Int),
 And ([AV.nils, AV.sl (Pl.mk k072 0 [] (List.length (List.getD ls65 (Int.toNat s66) []))) 1 (List.length (List.getD ls65 (Int.toNat s66) [])) 0 (List.length (List.getD ls65 (Int.toNat s66) []))] = [v74, w75])
 (And (Slot H'73 v74 l76)
 (And (Slot H'73 w75 m77)
 (And (List.length l76 ≤ 1000)
 (cond (!decide (l76 = m77))
 (k (AV.bool false) H'73 true)
 (resPS (S F) TL N 9 fuel 6 2 n0 [] [true, true, true, true, true, false, true] m (St.mk [(0, AV.nils), (1, AV.isl 3 (row encSt m2)), (4, AV.bad), (5, AV.ptr (Pl.mk i 0 [] 1)), (6, AV.bad), (7, AV.ptr (Pl.mk j 0 [] 1)), (8, AV.bad), (9, AV.int IntKind.i64 (IntKind.wrap IntKind.i64 (ix + 1))), (10, AV.bad), (11, AV.bad), (12, AV.bad), (20, AV.bad), (43, AV.bad), (50, AV.bad), (56, AV.bad), (62, AV.bad), (71, AV.bad), (80, AV.bad), (84, AV.bad), (89, AV.bad), (109, AV.bad), (111, AV.bad)] [] H'73 true) k)))))))))
 ((OkS ls59 s60) →
 ∀ (k078 : Nat),
 ∀ (H'79 : Heap),
 (List.length H'54 ≤ k078) →
 (Heap.blk H'79 k078 = some (Blk.mk (AV.arr 1 (row encZ (List.getD ls59 (Int.toNat s60) []))) true true)) →
 (Keep [] H'54 H'79) →
 ∃ (i80 : Nat),
 ∃ (j81 : Nat),
 ∃ (vs82 : List AV),
 ∃ (ls83 : List (List Int)),
 ∃ (s84 : Int),
 And ([AV.ptr (Pl.mk j 0 [] 1), AV.int IntKind.i64 0] = [AV.ptr (Pl.mk i80 0 [] 1), AV.int IntKind.i64 s84])
 (And (PinsR H'79 i80 j81 vs82 ls83)
 (And ((¬OkS ls83 s84 ∨ List.getD ls83 (Int.toNat s84) [] = []) →
 ∀ (H'85 : Heap),
 (Keep [] H'79 H'85) →
 ∃ (v86 : AV),
 ∃ (w87 : AV),
 ∃ (l88 : List Int),
 ∃ (m89 : List Int),
 And ([AV.sl (Pl.mk k078 0 [] (List.length (List.getD ls59 (Int.toNat s60) []))) 1 (List.length (List.getD ls59 (Int.toNat s60) [])) 0 (List.length (List.getD ls59 (Int.toNat s60) [])), AV.nils] = [v86, w87])
 (And (Slot H'85 v86 l88)
 (And (Slot H'85 w87 m89)
 (And (List.length l88 ≤ 1000)
 (cond (!decide (l88 = m89))
 (k (AV.bool false) H'85 true)
 (resPS (S F) TL N 9 fuel 6 2 n0 [] [true, true, true, true, true, false, true] m (St.mk [(0, AV.nils), (1, AV.isl 3 (row encSt m2)), (4, AV.bad), (5, AV.ptr (Pl.mk i 0 [] 1)), (6, AV.bad), (7, AV.ptr (Pl.mk j 0 [] 1)), (8, AV.bad), (9, AV.int IntKind.i64 (IntKind.wrap IntKind.i64 (ix + 1))), (10, AV.bad), (11, AV.bad), (12, AV.bad), (20, AV.bad), (43, AV.bad), (50, AV.bad), (56, AV.bad), (62, AV.bad), (71, AV.bad), (80, AV.bad), (84, AV.bad), (89, AV.bad), (109, AV.bad), (111, AV.bad)] [] H'85 true) k))))))
 ((OkS ls83 s84) →
 ∀ (k090 : Nat),
 ∀ (H'91 : Heap),
 (List.length H'79 ≤ k090) →
 (Heap.blk H'91 k090 = some (Blk.mk (AV.arr 1 (row encZ (List.getD ls83 (Int.toNat s84) []))) true true)) →
 (Keep [] H'79 H'91) →
 ∃ (v92 : AV),
 ∃ (w93 : AV),
 ∃ (l94 : List Int),
 ∃ (m95 : List Int),
 And ([AV.sl (Pl.mk k078 0 [] (List.length (List.getD ls59 (Int.toNat s60) []))) 1 (List.length (List.getD ls59 (Int.toNat s60) [])) 0 (List.length (List.getD ls59 (Int.toNat s60) [])), AV.sl (Pl.mk k090 0 [] (List.length (List.getD ls83 (Int.toNat s84) []))) 1 (List.length (List.getD ls83 (Int.toNat s84) [])) 0 (List.length (List.getD ls83 (Int.toNat s84) []))] = [v92, w93])
 (And (Slot H'91 v92 l94)
 (And (Slot H'91 w93 m95)
 (And (List.length l94 ≤ 1000)
 (cond (!decide (l94 = m95))
 (k (AV.bool false) H'91 true)
 (resPS (S F) TL N 9 fuel 6 2 n0 [] [true, true, true, true, true, false, true] m (St.mk [(0, AV.nils), (1, AV.isl 3 (row encSt m2)), (4, AV.bad), (5, AV.ptr (Pl.mk i 0 [] 1)), (6, AV.bad), (7, AV.ptr (Pl.mk j 0 [] 1)), (8, AV.bad), (9, AV.int IntKind.i64 (IntKind.wrap IntKind.i64 (ix + 1))), (10, AV.bad), (11, AV.bad), (12, AV.bad), (20, AV.bad), (43, AV.bad), (50, AV.bad), (56, AV.bad), (62, AV.bad), (71, AV.bad), (80, AV.bad), (84, AV.bad), (89, AV.bad), (109, AV.bad), (111, AV.bad)] [] H'91 true) k))))))))))))))
 (False))
 (False))
 (False))
 (False))
 (False)))
 (False))
 (False))
 (False))
 (False))
 (False))
 (∃ (i96 : Nat),
 ∃ (j97 : Nat),
 ∃ (vs98 : List AV),
 ∃ (ls99 : List (List Int)),
 ∃ (s100 : Int),
 And ([AV.ptr (Pl.mk i 0 [] 1), AV.int IntKind.i64 0] = [AV.ptr (Pl.mk i96 0 [] 1), AV.int IntKind.i64 s100])
 (And (PinsR H i96 j97 vs98 ls99)
 (And ((¬OkS ls99 s100 ∨ List.getD ls99 (Int.toNat s100) [] = []) →
 ∀ (H'101 : Heap),
 (Keep [] H H'101) →
 ∃ (i102 : Nat),
 ∃ (j103 : Nat),
 ∃ (vs104 : List AV),
 ∃ (ls105 : List (List Int)),
 ∃ (s106 : Int),
 And ([AV.ptr (Pl.mk j 0 [] 1), AV.int IntKind.i64 0] = [AV.ptr (Pl.mk i102 0 [] 1), AV.int IntKind.i64 s106])
 (And (PinsR H'101 i102 j103 vs104 ls105)
 (And ((¬OkS ls105 s106 ∨ List.getD ls105 (Int.toNat s106) [] = []) →
 ∀ (H'107 : Heap),
 (Keep [] H'101 H'107) →
 ∃ (v108 : AV),
 ∃ (w109 : AV),
 ∃ (l110 : List Int),
 ∃ (m111 : List Int),
 And ([AV.nils, AV.nils] = [v108, w109])
 (And (Slot H'107 v108 l110)
 (And (Slot H'107 w109 m111)
 (And (List.length l110 ≤ 1000)
 (cond (!decide (l110 = m111))
 (k (AV.bool false) H'107 true)
 (resPS (S F) TL N 9 fuel 6 2 n0 [] [true, true, true, true, true, false, true] m (St.mk [(0, AV.nils), (1, AV.isl 3 (row encSt m2)), (4, AV.bad), (5, AV.ptr (Pl.mk i 0 [] 1)), (6, AV.bad), (7, AV.ptr (Pl.mk j 0 [] 1)), (8, AV.bad), (9, AV.int IntKind.i64 (IntKind.wrap IntKind.i64 (ix + 1))), (10, AV.bad), (11, AV.bad), (12, AV.bad), (20, AV.bad), (43, AV.bad), (50, AV.bad), (56, AV.bad), (62, AV.bad), (71, AV.bad), (80, AV.bad), (84, AV.bad), (89, AV.bad), (109, AV.bad), (111, AV.bad)] [] H'107 true) k))))))
 ((OkS ls105 s106) →
 ∀ (k0112 : Nat),
 ∀ (H'113 : Heap),
 (List.length H'101 ≤ k0112) →
 (Heap.blk H'113 k0112 = some (Blk.mk (AV.arr 1 (row encZ (List.getD ls105 (Int.toNat s106) []))) true true)) →
 (Keep [] H'101 H'113) →
 ∃ (v114 : AV),
 ∃ (w115 : AV),
 ∃ (l116 : List Int),
 ∃ (m117 : List Int),
 And ([AV.nils, AV.sl (Pl.mk k0112 0 [] (List.length (List.getD ls105 (Int.toNat s106) []))) 1 (List.length (List.getD ls105 (Int.toNat s106) [])) 0 (List.length (List.getD ls105 (Int.toNat s106) []))] = [v114, w115])
 (And (Slot H'113 v114 l116)
 (And (Slot H'113 w115 m117)
 (And (List.length l116 ≤ 1000)
 (cond (!decide (l116 = m117))
 (k (AV.bool false) H'113 true)
 (resPS (S F) TL N 9 fuel 6 2 n0 [] [true, true, true, true, true, false, true] m (St.mk [(0, AV.nils), (1, AV.isl 3 (row encSt m2)), (4, AV.bad), (5, AV.ptr (Pl.mk i 0 [] 1)), (6, AV.bad), (7, AV.ptr (Pl.mk j 0 [] 1)), (8, AV.bad), (9, AV.int IntKind.i64 (IntKind.wrap IntKind.i64 (ix + 1))), (10, AV.bad), (11, AV.bad), (12, AV.bad), (20, AV.bad), (43, AV.bad), (50, AV.bad), (56, AV.bad), (62, AV.bad), (71, AV.bad), (80, AV.bad), (84, AV.bad), (89, AV.bad), (109, AV.bad), (111, AV.bad)] [] H'113 true) k)))))))))
 ((OkS ls99 s100) →
 ∀ (k0118 : Nat),
 ∀ (H'119 : Heap),
 (List.length H ≤ k0118) →
 (Heap.blk H'119 k0118 = some (Blk.mk (AV.arr 1 (row encZ (List.getD ls99 (Int.toNat s100) []))) true true)) →
 (Keep [] H H'119) →
 ∃ (i120 : Nat),
 ∃ (j121 : Nat),
 ∃ (vs122 : List AV),
 ∃ (ls123 : List (List Int)),
 ∃ (s124 : Int),
 And ([AV.ptr (Pl.mk j 0 [] 1), AV.int IntKind.i64 0] = [AV.ptr (Pl.mk i120 0 [] 1), AV.int IntKind.i64 s124])
 (And (PinsR H'119 i120 j121 vs122 ls123)
 (And ((¬OkS ls123 s124 ∨ List.getD ls123 (Int.toNat s124) [] = []) →
 ∀ (H'125 : Heap),
 (Keep [] H'119 H'125) →
 ∃ (v126 : AV),
 ∃ (w127 : AV),
 ∃ (l128 : List Int),
 ∃ (m129 : List Int),
 And ([AV.sl (Pl.mk k0118 0 [] (List.length (List.getD ls99 (Int.toNat s100) []))) 1 (List.length (List.getD ls99 (Int.toNat s100) [])) 0 (List.length (List.getD ls99 (Int.toNat s100) [])), AV.nils] = [v126, w127])
 (And (Slot H'125 v126 l128)
 (And (Slot H'125 w127 m129)
 (And (List.length l128 ≤ 1000)
 (cond (!decide (l128 = m129))
 (k (AV.bool false) H'125 true)
 (resPS (S F) TL N 9 fuel 6 2 n0 [] [true, true, true, true, true, false, true] m (St.mk [(0, AV.nils), (1, AV.isl 3 (row encSt m2)), (4, AV.bad), (5, AV.ptr (Pl.mk i 0 [] 1)), (6, AV.bad), (7, AV.ptr (Pl.mk j 0 [] 1)), (8, AV.bad), (9, AV.int IntKind.i64 (IntKind.wrap IntKind.i64 (ix + 1))), (10, AV.bad), (11, AV.bad), (12, AV.bad), (20, AV.bad), (43, AV.bad), (50, AV.bad), (56, AV.bad), (62, AV.bad), (71, AV.bad), (80, AV.bad), (84, AV.bad), (89, AV.bad), (109, AV.bad), (111, AV.bad)] [] H'125 true) k))))))
 ((OkS ls123 s124) →
 ∀ (k0130 : Nat),
 ∀ (H'131 : Heap),
 (List.length H'119 ≤ k0130) →
 (Heap.blk H'131 k0130 = some (Blk.mk (AV.arr 1 (row encZ (List.getD ls123 (Int.toNat s124) []))) true true)) →
 (Keep [] H'119 H'131) →
 ∃ (v132 : AV),
 ∃ (w133 : AV),
 ∃ (l134 : List Int),
 ∃ (m135 : List Int),
 And ([AV.sl (Pl.mk k0118 0 [] (List.length (List.getD ls99 (Int.toNat s100) []))) 1 (List.length (List.getD ls99 (Int.toNat s100) [])) 0 (List.length (List.getD ls99 (Int.toNat s100) [])), AV.sl (Pl.mk k0130 0 [] (List.length (List.getD ls123 (Int.toNat s124) []))) 1 (List.length (List.getD ls123 (Int.toNat s124) [])) 0 (List.length (List.getD ls123 (Int.toNat s124) []))] = [v132, w133])
 (And (Slot H'131 v132 l134)
 (And (Slot H'131 w133 m135)
 (And (List.length l134 ≤ 1000)
 (cond (!decide (l134 = m135))
 (k (AV.bool false) H'131 true)
 (resPS (S F) TL N 9 fuel 6 2 n0 [] [true, true, true, true, true, false, true] m (St.mk [(0, AV.nils), (1, AV.isl 3 (row encSt m2)), (4, AV.bad), (5, AV.ptr (Pl.mk i 0 [] 1)), (6, AV.bad), (7, AV.ptr (Pl.mk j 0 [] 1)), (8, AV.bad), (9, AV.int IntKind.i64 (IntKind.wrap IntKind.i64 (ix + 1))), (10, AV.bad), (11, AV.bad), (12, AV.bad), (20, AV.bad), (43, AV.bad), (50, AV.bad), (56, AV.bad), (62, AV.bad), (71, AV.bad), (80, AV.bad), (84, AV.bad), (89, AV.bad), (109, AV.bad), (111, AV.bad)] [] H'131 true) k))))))))))))))
 (resPS (S F) TL N 9 fuel 6 2 n0 [] [true, true, true, true, true, true, true, false, true] fuel (St.mk [(0, AV.bad), (1, AV.bad), (4, AV.bad), (5, AV.ptr (Pl.mk i 0 [] 1)), (6, AV.bad), (7, AV.bad), (8, AV.bad), (9, AV.bad), (10, AV.bad), (11, AV.int IntKind.i64 0), (12, AV.int IntKind.i64 0), (20, AV.bad), (43, AV.bad), (50, AV.bad), (56, AV.bad), (62, AV.bad), (71, AV.bad), (80, AV.bad), (84, AV.bad), (89, AV.bad), (109, AV.bad), (111, AV.bad)] [] H true) k)) : Prop) := by kernel_rfl
theorem step6m (N fuel m n0 : Nat) (l : List Stp) (i j : Nat) (H : Heap) (ix : Int) (k : AV → Heap → Bool → Prop) :
 (resPS (S F) TL N 9 fuel 6 2 n0 [] [true, true, true, true, true, false, true] (m + 1) ⟨L6 (.isl 3 (row encSt l)) .nils i j ix, [], H, true⟩ k) =
 ((cond (decide (ix < if (↑0 : Int) > (↑(List.length (row encSt l)) : Int) then (↑0 : Int) else (↑(List.length (row encSt l)) : Int)))
 (cond (decide (ix < (↑(List.length (row encSt l)) : Int)))
 (cond (decide (0 ≤ ix))
 (cond (AV.isAggN (Option.getD (row encSt l)[Int.toNat ix]? AV.bad) 3 3)
 (cond (AV.isBoolV (AV.part (Option.getD (row encSt l)[Int.toNat ix]? AV.bad) 0))
 (cond (AV.isIntK (AV.part (Option.getD (row encSt l)[Int.toNat ix]? AV.bad) 1) IntKind.i64)
 (cond (AV.isIntK (AV.part (Option.getD (row encSt l)[Int.toNat ix]? AV.bad) 2) IntKind.i64)
 (∃ (b0 : Blk),
 And (Heap.blk (H ++ [some (Blk.mk (AV.agg 3 [AV.bool false, AV.int IntKind.i64 0, AV.int IntKind.i64 0]) false true)]) (List.length H) = some b0)
 (cond (okPl b0.1 [] 0 3 3)
 (∀ (H'1 : Heap),
 (H'1 = List.set (H ++ [some (Blk.mk (AV.agg 3 [AV.bool false, AV.int IntKind.i64 0, AV.int IntKind.i64 0]) false true)]) (List.length H) (some (Blk.mk (AV.agg 3 [AV.bool (AV.toBool (AV.part (Option.getD (row encSt l)[Int.toNat ix]? AV.bad) 0)), AV.int IntKind.i64 (AV.toInt (AV.part (Option.getD (row encSt l)[Int.toNat ix]? AV.bad) 1)), AV.int IntKind.i64 (AV.toInt (AV.part (Option.getD (row encSt l)[Int.toNat ix]? AV.bad) 2))]) b0.2 b0.3))) →
 ∃ (b2 : Blk),
 And (Heap.blk H'1 (List.length H) = some b2)
 (cond (okAt b2.1 [0] 0 3 false 1)
 (cond (AV.isBoolV (projT [0] b2.1))
 (cond (AV.toBool (projT [0] b2.1))
 (∃ (b3 : Blk),
 And (Heap.blk H'1 (List.length H) = some b3)
 (cond (okAt b3.1 [2] 2 3 false 1)
 (cond (AV.isIntK (projT [2] b3.1) IntKind.i64)
 (∃ (b4 : Blk),
 And (Heap.blk H'1 (List.length H) = some b4)
 (cond (okAt b4.1 [2] 2 3 false 1)
 (cond (AV.isIntK (projT [2] b4.1) IntKind.i64)
 (∃ (i5 : Nat),
 ∃ (j6 : Nat),
 ∃ (vs7 : List AV),
 ∃ (ls8 : List (List Int)),
 ∃ (s9 : Int),
 ∃ (pg10 : Int),
 And ([AV.ptr (Pl.mk i 0 [] 1), AV.int IntKind.i64 0, AV.int IntKind.i64 (AV.toInt (projT [2] b3.1))] = [AV.ptr (Pl.mk i5 0 [] 1), AV.int IntKind.i64 s9, AV.int IntKind.i64 pg10])
 (And (PinsR H'1 i5 j6 vs7 ls8)
 (∀ (H'11 : Heap),
 ∀ (vs'12 : List AV),
 (PinsR H'11 i5 j6 vs'12 (dropS ls8 s9 pg10)) →
 (Nxt H'1 i5 j6 vs7 H'11 vs'12) →
 ∃ (i13 : Nat),
 ∃ (j14 : Nat),
 ∃ (vs15 : List AV),
 ∃ (ls16 : List (List Int)),
 ∃ (s17 : Int),
 ∃ (pg18 : Int),
 And ([AV.ptr (Pl.mk j 0 [] 1), AV.int IntKind.i64 0, AV.int IntKind.i64 (AV.toInt (projT [2] b4.1))] = [AV.ptr (Pl.mk i13 0 [] 1), AV.int IntKind.i64 s17, AV.int IntKind.i64 pg18])
 (And (PinsR H'11 i13 j14 vs15 ls16)
 (∀ (H'19 : Heap),
 ∀ (vs'20 : List AV),
 (PinsR H'19 i13 j14 vs'20 (dropS ls16 s17 pg18)) →
 (Nxt H'11 i13 j14 vs15 H'19 vs'20) →
 ∃ (b21 : Blk),
 And (Heap.blk H'11 (List.length H) = some b21)
 (cond (okAt b21.1 [2] 2 3 false 1)
 (cond (AV.beq (projT [2] b21.1) (AV.int IntKind.i64 (AV.toInt (projT [2] b4.1))))
 (cond (!dropErr ls8 s9 pg10 == dropErr ls16 s17 pg18)
 (k (AV.bool false) H'19 true)
 (cond (decide (ix < (↑0 : Int)))
 (False)
 (∃ (i22 : Nat),
 ∃ (j23 : Nat),
 ∃ (vs24 : List AV),
 ∃ (ls25 : List (List Int)),
 ∃ (s26 : Int),
 And ([AV.ptr (Pl.mk i 0 [] 1), AV.int IntKind.i64 0] = [AV.ptr (Pl.mk i22 0 [] 1), AV.int IntKind.i64 s26])
 (And (PinsR H'19 i22 j23 vs24 ls25)
 (And ((¬OkS ls25 s26 ∨ List.getD ls25 (Int.toNat s26) [] = []) →
 ∀ (H'27 : Heap),
 (Keep [] H'19 H'27) →
 ∃ (i28 : Nat),
 ∃ (j29 : Nat),
 ∃ (vs30 : List AV),
 ∃ (ls31 : List (List Int)),
 ∃ (s32 : Int),
 And ([AV.ptr (Pl.mk j 0 [] 1), AV.int IntKind.i64 0] = [AV.ptr (Pl.mk i28 0 [] 1), AV.int IntKind.i64 s32])
 (And (PinsR H'27 i28 j29 vs30 ls31)
 (And ((¬OkS ls31 s32 ∨ List.getD ls31 (Int.toNat s32) [] = []) →
 ∀ (H'33 : Heap),
 (Keep [] H'27 H'33) →
 ∃ (v34 : AV),
 ∃ (w35 : AV),
 ∃ (l36 : List Int),
 ∃ (m37 : List Int),
 And ([AV.nils, AV.nils] = [v34, w35])
 (And (Slot H'33 v34 l36)
 (And (Slot H'33 w35 m37)
 (And (List.length l36 ≤ 1000)
 (cond (!decide (l36 = m37))
 (k (AV.bool false) H'33 true)
 (resPS (S F) TL N 9 fuel 6 2 n0 [] [true, true, true, true, true, false, true] m (St.mk [(0, AV.isl 3 (row encSt l)), (1, AV.nils), (4, AV.bad), (5, AV.ptr (Pl.mk i 0 [] 1)), (6, AV.bad), (7, AV.ptr (Pl.mk j 0 [] 1)), (8, AV.bad), (9, AV.int IntKind.i64 (IntKind.wrap IntKind.i64 (ix + 1))), (10, AV.bad), (11, AV.bad), (12, AV.bad), (20, AV.bad), (43, AV.bad), (50, AV.bad), (56, AV.bad), (62, AV.bad), (71, AV.bad), (80, AV.bad), (84, AV.bad), (89, AV.bad), (109, AV.bad), (111, AV.bad)] [] H'33 true) k))))))
 ((OkS ls31 s32) →
 ∀ (k038 : Nat),
 ∀ (H'39 : Heap),
 (List.length H'27 ≤ k038) →
 (Heap.blk H'39 k038 = some (Blk.mk (AV.arr 1 (row encZ (List.getD ls31 (Int.toNat s32) []))) true true)) →
 (Keep [] H'27 H'39) →
 ∃ (v40 : AV),
 ∃ (w41 : AV),
 ∃ (l42 : List Int),
 ∃ (m43 : List Int),
 And ([AV.nils, AV.sl (Pl.mk k038 0 [] (List.length (List.getD ls31 (Int.toNat s32) []))) 1 (List.length (List.getD ls31 (Int.toNat s32) [])) 0 (List.length (List.getD ls31 (Int.toNat s32) []))] = [v40, w41])
 (And (Slot H'39 v40 l42)
 (And (Slot H'39 w41 m43)
 (And (List.length l42 ≤ 1000)
 (cond (!decide (l42 = m43))
 (k (AV.bool false) H'39 true)
 (resPS (S F) TL N 9 fuel 6 2 n0 [] [true, true, true, true, true, false, true] m (St.mk [(0, AV.isl 3 (row encSt l)), (1, AV.nils), (4, AV.bad), (5, AV.ptr (Pl.mk i 0 [] 1)), (6, AV.bad), (7, AV.ptr (Pl.mk j 0 [] 1)), (8, AV.bad), (9, AV.int IntKind.i64 (IntKind.wrap IntKind.i64 (ix + 1))), (10, AV.bad), (11, AV.bad), (12, AV.bad), (20, AV.bad), (43, AV.bad), (50, AV.bad), (56, AV.bad), (62, AV.bad), (71, AV.bad), (80, AV.bad), (84, AV.bad), (89, AV.bad), (109, AV.bad), (111, AV.bad)] [] H'39 true) k)))))))))
 ((OkS ls25 s26) →
 ∀ (k044 : Nat),
 ∀ (H'45 : Heap),
 (List.length H'19 ≤ k044) →
 (Heap.blk H'45 k044 = some (Blk.mk (AV.arr 1 (row encZ (List.getD ls25 (Int.toNat s26) []))) true true)) →
 (Keep [] H'19 H'45) →
 ∃ (i46 : Nat),
 ∃ (j47 : Nat),
 ∃ (vs48 : List AV),
 ∃ (ls49 : List (List Int)),
 ∃ (s50 : Int),
 And ([AV.ptr (Pl.mk j 0 [] 1), AV.int IntKind.i64 0] = [AV.ptr (Pl.mk i46 0 [] 1), AV.int IntKind.i64 s50])
 (And (PinsR H'45 i46 j47 vs48 ls49)
 (And ((¬OkS ls49 s50 ∨ List.getD ls49 (Int.toNat s50) [] = []) →
 ∀ (H'51 : Heap),
 (Keep [] H'45 H'51) →
 ∃ (v52 : AV),
 ∃ (w53 : AV),
 ∃ (l54 : List Int),
 ∃ (m55 : List Int),
 And ([AV.sl (Pl.mk k044 0 [] (List.length (List.getD ls25 (Int.toNat s26) []))) 1 (List.length (List.getD ls25 (Int.toNat s26) [])) 0 (List.length (List.getD ls25 (Int.toNat s26) [])), AV.nils] = [v52, w53])
 (And (Slot H'51 v52 l54)
 (And (Slot H'51 w53 m55)
 (And (List.length l54 ≤ 1000)
 (cond (!decide (l54 = m55))
 (k (AV.bool false) H'51 true)
 (resPS (S F) TL N 9 fuel 6 2 n0 [] [true, true, true, true, true, false, true] m (St.mk [(0, AV.isl 3 (row encSt l)), (1, AV.nils), (4, AV.bad), (5, AV.ptr (Pl.mk i 0 [] 1)), (6, AV.bad), (7, AV.ptr (Pl.mk j 0 [] 1)), (8, AV.bad), (9, AV.int IntKind.i64 (IntKind.wrap IntKind.i64 (ix + 1))), (10, AV.bad), (11, AV.bad), (12, AV.bad), (20, AV.bad), (43, AV.bad), (50, AV.bad), (56, AV.bad), (62, AV.bad), (71, AV.bad), (80, AV.bad), (84, AV.bad), (89, AV.bad), (109, AV.bad), (111, AV.bad)] [] H'51 true) k))))))
 ((OkS ls49 s50) →
 ∀ (k056 : Nat),
 ∀ (H'57 : Heap),
 (List.length H'45 ≤ k056) →
 (Heap.blk H'57 k056 = some (Blk.mk (AV.arr 1 (row encZ (List.getD ls49 (Int.toNat s50) []))) true true)) →
 (Keep [] H'45 H'57) →
 ∃ (v58 : AV),
 ∃ (w59 : AV),
 ∃ (l60 : List Int),
 ∃ (m61 : List Int),
 And ([AV.sl (Pl.mk k044 0 [] (List.length (List.getD ls25 (Int.toNat s26) []))) 1 (List.length (List.getD ls25 (Int.toNat s26) [])) 0 (List.length (List.getD ls25 (Int.toNat s26) [])), AV.sl (Pl.mk k056 0 [] (List.length (List.getD ls49 (Int.toNat s50) []))) 1 (List.length (List.getD ls49 (Int.toNat s50) [])) 0 (List.length (List.getD ls49 (Int.toNat s50) []))] = [v58, w59])
 (And (Slot H'57 v58 l60)
 (And (Slot H'57 w59 m61)
 (And (List.length l60 ≤ 1000)
 (cond (!decide (l60 = m61))
 (k (AV.bool false) H'57 true)
 (resPS (S F) TL N 9 fuel 6 2 n0 [] [true, true, true, true, true, false, true] m (St.mk [(0, AV.isl 3 (row encSt l)), (1, AV.nils), (4, AV.bad), (5, AV.ptr (Pl.mk i 0 [] 1)), (6, AV.bad), (7, AV.ptr (Pl.mk j 0 [] 1)), (8, AV.bad), (9, AV.int IntKind.i64 (IntKind.wrap IntKind.i64 (ix + 1))), (10, AV.bad), (11, AV.bad), (12, AV.bad), (20, AV.bad), (43, AV.bad), (50, AV.bad), (56, AV.bad), (62, AV.bad), (71, AV.bad), (80, AV.bad), (84, AV.bad), (89, AV.bad), (109, AV.bad), (111, AV.bad)] [] H'57 true) k))))))))))))))
 (False))
 (False)))))))
 (False))
 (False)))
 (False))
 (False)))
 (∃ (b62 : Blk),
 And (Heap.blk H'1 (List.length H) = some b62)
 (cond (okAt b62.1 [2] 2 3 false 1)
 (cond (AV.isIntK (projT [2] b62.1) IntKind.i64)
 (∃ (b63 : Blk),
 And (Heap.blk H'1 (List.length H) = some b63)
 (cond (okAt b63.1 [2] 2 3 false 1)
 (cond (AV.isIntK (projT [2] b63.1) IntKind.i64)
 (∃ (i64 : Nat),
 ∃ (j65 : Nat),
 ∃ (vs66 : List AV),
 ∃ (ls67 : List (List Int)),
 ∃ (s68 : Int),
 ∃ (pg69 : Int),
 And ([AV.ptr (Pl.mk i 0 [] 1), AV.int IntKind.i64 0, AV.int IntKind.i64 (AV.toInt (projT [2] b62.1))] = [AV.ptr (Pl.mk i64 0 [] 1), AV.int IntKind.i64 s68, AV.int IntKind.i64 pg69])
 (And (PinsR H'1 i64 j65 vs66 ls67)
 (∀ (H'70 : Heap),
 ∀ (vs'71 : List AV),
 (PinsR H'70 i64 j65 vs'71 (addS ls67 s68 pg69)) →
 (Nxt H'1 i64 j65 vs66 H'70 vs'71) →
 ∃ (i72 : Nat),
 ∃ (j73 : Nat),
 ∃ (vs74 : List AV),
 ∃ (ls75 : List (List Int)),
 ∃ (s76 : Int),
 ∃ (pg77 : Int),
 And ([AV.ptr (Pl.mk j 0 [] 1), AV.int IntKind.i64 0, AV.int IntKind.i64 (AV.toInt (projT [2] b63.1))] = [AV.ptr (Pl.mk i72 0 [] 1), AV.int IntKind.i64 s76, AV.int IntKind.i64 pg77])
 (And (PinsR H'70 i72 j73 vs74 ls75)
 (∀ (H'78 : Heap),
 ∀ (vs'79 : List AV),
 (PinsR H'78 i72 j73 vs'79 (addS ls75 s76 pg77)) →
 (Nxt H'70 i72 j73 vs74 H'78 vs'79) →
 ∃ (b80 : Blk),
 And (Heap.blk H'70 (List.length H) = some b80)
 (cond (okAt b80.1 [2] 2 3 false 1)
 (cond (AV.beq (projT [2] b80.1) (AV.int IntKind.i64 (AV.toInt (projT [2] b63.1))))
 (cond (!addErr ls67 s68 pg69 == addErr ls75 s76 pg77)
 (k (AV.bool false) H'78 true)
 (cond (decide (ix < (↑0 : Int)))
 (False)
 (∃ (i81 : Nat),
 ∃ (j82 : Nat),
 ∃ (vs83 : List AV),
 ∃ (ls84 : List (List Int)),
 ∃ (s85 : Int),
 And ([AV.ptr (Pl.mk i 0 [] 1), AV.int IntKind.i64 0] = [AV.ptr (Pl.mk i81 0 [] 1), AV.int IntKind.i64 s85])
 (And (PinsR H'78 i81 j82 vs83 ls84)
 (And ((¬OkS ls84 s85 ∨ List.getD ls84 (Int.toNat s85) [] = []) →
 ∀ (H'86 : Heap),
 (Keep [] H'78 H'86) →
 ∃ (i87 : Nat),
 ∃ (j88 : Nat),
 ∃ (vs89 : List AV),
 ∃ (ls90 : List (List Int)),
 ∃ (s91 : Int),
 And ([AV.ptr (Pl.mk j 0 [] 1), AV.int IntKind.i64 0] = [AV.ptr (Pl.mk i87 0 [] 1), AV.int IntKind.i64 s91])
 (And (PinsR H'86 i87 j88 vs89 ls90)
 (And ((¬OkS ls90 s91 ∨ List.getD ls90 (Int.toNat s91) [] = []) →
 ∀ (H'92 : Heap),
 (Keep [] H'86 H'92) →
 ∃ (v93 : AV),
 ∃ (w94 : AV),
 ∃ (l95 : List Int),
 ∃ (m96 : List Int),
 And ([AV.nils, AV.nils] = [v93, w94])
 (And (Slot H'92 v93 l95)
 (And (Slot H'92 w94 m96)
 (And (List.length l95 ≤ 1000)
 (cond (!decide (l95 = m96))
 (k (AV.bool false) H'92 true)
 (resPS (S F) TL N 9 fuel 6 2 n0 [] [true, true, true, true, true, false, true] m (St.mk [(0, AV.isl 3 (row encSt l)), (1, AV.nils), (4, AV.bad), (5, AV.ptr (Pl.mk i 0 [] 1)), (6, AV.bad), (7, AV.ptr (Pl.mk j 0 [] 1)), (8, AV.bad), (9, AV.int IntKind.i64 (IntKind.wrap IntKind.i64 (ix + 1))), (10, AV.bad), (11, AV.bad), (12, AV.bad), (20, AV.bad), (43, AV.bad), (50, AV.bad), (56, AV.bad), (62, AV.bad), (71, AV.bad), (80, AV.bad), (84, AV.bad), (89, AV.bad), (109, AV.bad), (111, AV.bad)] [] H'92 true) k))))))
 ((OkS ls90 s91) →
 ∀ (k097 : Nat),
 ∀ (H'98 : Heap),
 (List.length H'86 ≤ k097) →
 (Heap.blk H'98 k097 = some (Blk.mk (AV.arr 1 (row encZ (List.getD ls90 (Int.toNat s91) []))) true true)) →
 (Keep [] H'86 H'98) →
 ∃ (v99 : AV),
 ∃ (w100 : AV),
 ∃ (l101 : List Int),
 ∃ (m102 : List Int),
 And ([AV.nils, AV.sl (Pl.mk k097 0 [] (List.length (List.getD ls90 (Int.toNat s91) []))) 1 (List.length (List.getD ls90 (Int.toNat s91) [])) 0 (List.length (List.getD ls90 (Int.toNat s91) []))] = [v99, w100])
 (And (Slot H'98 v99 l101)
 (And (Slot H'98 w100 m102)
 (And (List.length l101 ≤ 1000)
 (cond (!decide (l101 = m102))
 (k (AV.bool false) H'98 true)
 (resPS (S F) TL N 9 fuel 6 2 n0 [] [true, true, true, true, true, false, true] m (St.mk [(0, AV.isl 3 (row encSt l)), (1, AV.nils), (4, AV.bad), (5, AV.ptr (Pl.mk i 0 [] 1)), (6, AV.bad), (7, AV.ptr (Pl.mk j 0 [] 1)), (8, AV.bad), (9, AV.int IntKind.i64 (IntKind.wrap IntKind.i64 (ix + 1))), (10, AV.bad), (11, AV.bad), (12, AV.bad), (20, AV.bad), (43, AV.bad), (50, AV.bad), (56, AV.bad), (62, AV.bad), (71, AV.bad), (80, AV.bad), (84, AV.bad), (89, AV.bad), (109, AV.bad), (111, AV.bad)] [] H'98 true) k)))))))))
 ((OkS ls84 s85) →
 ∀ (k0103 : Nat),
 ∀ (H'104 : Heap),
 (List.length H'78 ≤ k0103) →
 (Heap.blk H'104 k0103 = some (Blk.mk (AV.arr 1 (row encZ (List.getD ls84 (Int.toNat s85) []))) true true)) →
 (Keep [] H'78 H'104) →
 ∃ (i105 : Nat),
 ∃ (j106 : Nat),
 ∃ (vs107 : List AV),
 ∃ (ls108 : List (List Int)),
 ∃ (s109 : Int),
 And ([AV.ptr (Pl.mk j 0 [] 1), AV.int IntKind.i64 0] = [AV.ptr (Pl.mk i105 0 [] 1), AV.int IntKind.i64 s109])
 (And (PinsR H'104 i105 j106 vs107 ls108)
 (And ((¬OkS ls108 s109 ∨ List.getD ls108 (Int.toNat s109) [] = []) →
 ∀ (H'110 : Heap),
 (Keep [] H'104 H'110) →
 ∃ (v111 : AV),
 ∃ (w112 : AV),
 ∃ (l113 : List Int),
 ∃ (m114 : List Int),
 And ([AV.sl (Pl.mk k0103 0 [] (List.length (List.getD ls84 (Int.toNat s85) []))) 1 (List.length (List.getD ls84 (Int.toNat s85) [])) 0 (List.length (List.getD ls84 (Int.toNat s85) [])), AV.nils] = [v111, w112])
 (And (Slot H'110 v111 l113)
 (And (Slot H'110 w112 m114)
 (And (List.length l113 ≤ 1000)
 (cond (!decide (l113 = m114))
 (k (AV.bool false) H'110 true)
 (resPS (S F) TL N 9 fuel 6 2 n0 [] [true, true, true, true, true, false, true] m (St.mk [(0, AV.isl 3 (row encSt l)), (1, AV.nils), (4, AV.bad), (5, AV.ptr (Pl.mk i 0 [] 1)), (6, AV.bad), (7, AV.ptr (Pl.mk j 0 [] 1)), (8, AV.bad), (9, AV.int IntKind.i64 (IntKind.wrap IntKind.i64 (ix + 1))), (10, AV.bad), (11, AV.bad), (12, AV.bad), (20, AV.bad), (43, AV.bad), (50, AV.bad), (56, AV.bad), (62, AV.bad), (71, AV.bad), (80, AV.bad), (84, AV.bad), (89, AV.bad), (109, AV.bad), (111, AV.bad)] [] H'110 true) k))))))
 ((OkS ls108 s109) →
 ∀ (k0115 : Nat),
 ∀ (H'116 : Heap),
 (List.length H'104 ≤ k0115) →
 (Heap.blk H'116 k0115 = some (Blk.mk (AV.arr 1 (row encZ (List.getD ls108 (Int.toNat s109) []))) true true)) →
 (Keep [] H'104 H'116) →
 ∃ (v117 : AV),
 ∃ (w118 : AV),
 ∃ (l119 : List Int),
 ∃ (m120 : List Int),
 And ([AV.sl (Pl.mk k0103 0 [] (List.length (List.getD ls84 (Int.toNat s85) []))) 1 (List.length (List.getD ls84 (Int.toNat s85) [])) 0 (List.length (List.getD ls84 (Int.toNat s85) [])), AV.sl (Pl.mk k0115 0 [] (List.length (List.getD ls108 (Int.toNat s109) []))) 1 (List.length (List.getD ls108 (Int.toNat s109) [])) 0 (List.length (List.getD ls108 (Int.toNat s109) []))] = [v117, w118])
 (And (Slot H'116 v117 l119)
 (And (Slot H'116 w118 m120)
 (And (List.length l119 ≤ 1000)
 (cond (!decide (l119 = m120))
 (k (AV.bool false) H'116 true)
 (resPS (S F) TL N 9 fuel 6 2 n0 [] [true, true, true, true, true, false, true] m (St.mk [(0, AV.isl 3 (row encSt l)), (1, AV.nils), (4, AV.bad), (5, AV.ptr (Pl.mk i 0 [] 1)), (6, AV.bad), (7, AV.ptr (Pl.mk j 0 [] 1)), (8, AV.bad), (9, AV.int IntKind.i64 (IntKind.wrap IntKind.i64 (ix + 1))), (10, AV.bad), (11, AV.bad), (12, AV.bad), (20, AV.bad), (43, AV.bad), (50, AV.bad), (56, AV.bad), (62, AV.bad), (71, AV.bad), (80, AV.bad), (84, AV.bad), (89, AV.bad), (109, AV.bad), (111, AV.bad)] [] H'116 true) k))))))))))))))
 (False))
 (False)))))))
 (False))
 (False)))
 (False))
 (False))))
 (False))
 (False)))
 (False)))
 (False))
 (False))
 (False))
 (False))
 (False))
 (cond (decide (ix < (↑0 : Int)))
 (False)
 (∃ (i121 : Nat),
 ∃ (j122 : Nat),
 ∃ (vs123 : List AV),
 ∃ (ls124 : List (List Int)),
 ∃ (s125 : Int),
 And ([AV.ptr (Pl.mk i 0 [] 1), AV.int IntKind.i64 0] = [AV.ptr (Pl.mk i121 0 [] 1), AV.int IntKind.i64 s125])
 (And (PinsR H i121 j122 vs123 ls124)
 (And ((¬OkS ls124 s125 ∨ List.getD ls124 (Int.toNat s125) [] = []) →
 ∀ (H'126 : Heap),
 (Keep [] H H'126) →
 ∃ (i127 : Nat),
 ∃ (j128 : Nat),
 ∃ (vs129 : List AV),
 ∃ (ls130 : List (List Int)),
 ∃ (s131 : Int),
 And ([AV.ptr (Pl.mk j 0 [] 1), AV.int IntKind.i64 0] = [AV.ptr (Pl.mk i127 0 [] 1), AV.int IntKind.i64 s131])
 (And (PinsR H'126 i127 j128 vs129 ls130)
 (And ((¬OkS ls130 s131 ∨ List.getD ls130 (Int.toNat s131) [] = []) →
 ∀ (H'132 : Heap),
 (Keep [] H'126 H'132) →
 ∃ (v133 : AV),
 ∃ (w134 : AV),
 ∃ (l135 : List Int),
 ∃ (m136 : List Int),
 And ([AV.nils, AV.nils] = [v133, w134])
 (And (Slot H'132 v133 l135)
 (And (Slot H'132 w134 m136)
 (And (List.length l135 ≤ 1000)
 (cond (!decide (l135 = m136))
 (k (AV.bool false) H'132 true)
 (resPS (S F) TL N 9 fuel 6 2 n0 [] [true, true, true, true, true, false, true] m (St.mk [(0, AV.isl 3 (row encSt l)), (1, AV.nils), (4, AV.bad), (5, AV.ptr (Pl.mk i 0 [] 1)), (6, AV.bad), (7, AV.ptr (Pl.mk j 0 [] 1)), (8, AV.bad), (9, AV.int IntKind.i64 (IntKind.wrap IntKind.i64 (ix + 1))), (10, AV.bad), (11, AV.bad), (12, AV.bad), (20, AV.bad), (43, AV.bad), (50, AV.bad), (56, AV.bad), (62, AV.bad), (71, AV.bad), (80, AV.bad), (84, AV.bad), (89, AV.bad), (109, AV.bad), (111, AV.bad)] [] H'132 true) k))))))
 ((OkS ls130 s131) →
 ∀ (k0137 : Nat),
 ∀ (H'138 : Heap),
 (List.length H'126 ≤ k0137) →
 (Heap.blk H'138 k0137 = some (Blk.mk (AV.arr 1 (row encZ (List.getD ls130 (Int.toNat s131) []))) true true)) →
 (Keep [] H'126 H'138) →
 ∃ (v139 : AV),
 ∃ (w140 : AV),
 ∃ (l141 : List Int),
 ∃ (m142 : List Int),
 And ([AV.nils, AV.sl (Pl.mk k0137 0 [] (List.length (List.getD ls130 (Int.toNat s131) []))) 1 (List.length (List.getD ls130 (Int.toNat s131) [])) 0 (List.length (List.getD ls130 (Int.toNat s131) []))] = [v139, w140])
 (And (Slot H'138 v139 l141)
 (And (Slot H'138 w140 m142)
 (And (List.length l141 ≤ 1000)
 (cond (!decide (l141 = m142))
 (k (AV.bool false) H'138 true)
 (resPS (S F) TL N 9 fuel 6 2 n0 [] [true, true, true, true, true, false, true] m (St.mk [(0, AV.isl 3 (row encSt l)), (1, AV.nils), (4, AV.bad), (5, AV.ptr (Pl.mk i 0 [] 1)), (6, AV.bad), (7, AV.ptr (Pl.mk j 0 [] 1)), (8, AV.bad), (9, AV.int IntKind.i64 (IntKind.wrap IntKind.i64 (ix + 1))), (10, AV.bad), (11, AV.bad), (12, AV.bad), (20, AV.bad), (43, AV.bad), (50, AV.bad), (56, AV.bad), (62, AV.bad), (71, AV.bad), (80, AV.bad), (84, AV.bad), (89, AV.bad), (109, AV.bad), (111, AV.bad)] [] H'138 true) k)))))))))
 ((OkS ls124 s125) →
 ∀ (k0143 : Nat),
 ∀ (H'144 : Heap),
 (List.length H ≤ k0143) →
 (Heap.blk H'144 k0143 = some (Blk.mk (AV.arr 1 (row encZ (List.getD ls124 (Int.toNat s125) []))) true true)) →
 (Keep [] H H'144) →
 ∃ (i145 : Nat),
 ∃ (j146 : Nat),
 ∃ (vs147 : List AV),
 ∃ (ls148 : List (List Int)),
 ∃ (s149 : Int),
 And ([AV.ptr (Pl.mk j 0 [] 1), AV.int IntKind.i64 0] = [AV.ptr (Pl.mk i145 0 [] 1), AV.int IntKind.i64 s149])
 (And (PinsR H'144 i145 j146 vs147 ls148)
 (And ((¬OkS ls148 s149 ∨ List.getD ls148 (Int.toNat s149) [] = []) →
 ∀ (H'150 : Heap),
 (Keep [] H'144 H'150) →
 ∃ (v151 : AV),
 ∃ (w152 : AV),
 ∃ (l153 : List Int),
 ∃ (m154 : List Int),
 And ([AV.sl (Pl.mk k0143 0 [] (List.length (List.getD ls124 (Int.toNat s125) []))) 1 (List.length (List.getD ls124 (Int.toNat s125) [])) 0 (List.length (List.getD ls124 (Int.toNat s125) [])), AV.nils] = [v151, w152])
 (And (Slot H'150 v151 l153)
 (And (Slot H'150 w152 m154)
 (And (List.length l153 ≤ 1000)
 (cond (!decide (l153 = m154))
 (k (AV.bool false) H'150 true)
 (resPS (S F) TL N 9 fuel 6 2 n0 [] [true, true, true, true, true, false, true] m (St.mk [(0, AV.isl 3 (row encSt l)), (1, AV.nils), (4, AV.bad), (5, AV.ptr (Pl.mk i 0 [] 1)), (6, AV.bad), (7, AV.ptr (Pl.mk j 0 [] 1)), (8, AV.bad), (9, AV.int IntKind.i64 (IntKind.wrap IntKind.i64 (ix + 1))), (10, AV.bad), (11, AV.bad), (12, AV.bad), (20, AV.bad), (43, AV.bad), (50, AV.bad), (56, AV.bad), (62, AV.bad), (71, AV.bad), (80, AV.bad), (84, AV.bad), (89, AV.bad), (109, AV.bad), (111, AV.bad)] [] H'150 true) k))))))
 ((OkS ls148 s149) →
 ∀ (k0155 : Nat),
 ∀ (H'156 : Heap),
 (List.length H'144 ≤ k0155) →
 (Heap.blk H'156 k0155 = some (Blk.mk (AV.arr 1 (row encZ (List.getD ls148 (Int.toNat s149) []))) true true)) →
 (Keep [] H'144 H'156) →
 ∃ (v157 : AV),
 ∃ (w158 : AV),
 ∃ (l159 : List Int),
 ∃ (m160 : List Int),
 And ([AV.sl (Pl.mk k0143 0 [] (List.length (List.getD ls124 (Int.toNat s125) []))) 1 (List.length (List.getD ls124 (Int.toNat s125) [])) 0 (List.length (List.getD ls124 (Int.toNat s125) [])), AV.sl (Pl.mk k0155 0 [] (List.length (List.getD ls148 (Int.toNat s149) []))) 1 (List.length (List.getD ls148 (Int.toNat s149) [])) 0 (List.length (List.getD ls148 (Int.toNat s149) []))] = [v157, w158])
 (And (Slot H'156 v157 l159)
 (And (Slot H'156 w158 m160)
 (And (List.length l159 ≤ 1000)
 (cond (!decide (l159 = m160))
 (k (AV.bool false) H'156 true)
 (resPS (S F) TL N 9 fuel 6 2 n0 [] [true, true, true, true, true, false, true] m (St.mk [(0, AV.isl 3 (row encSt l)), (1, AV.nils), (4, AV.bad), (5, AV.ptr (Pl.mk i 0 [] 1)), (6, AV.bad), (7, AV.ptr (Pl.mk j 0 [] 1)), (8, AV.bad), (9, AV.int IntKind.i64 (IntKind.wrap IntKind.i64 (ix + 1))), (10, AV.bad), (11, AV.bad), (12, AV.bad), (20, AV.bad), (43, AV.bad), (50, AV.bad), (56, AV.bad), (62, AV.bad), (71, AV.bad), (80, AV.bad), (84, AV.bad), (89, AV.bad), (109, AV.bad), (111, AV.bad)] [] H'156 true) k))))))))))))))
 (resPS (S F) TL N 9 fuel 6 2 n0 [] [true, true, true, true, true, true, true, false, true] fuel (St.mk [(0, AV.bad), (1, AV.bad), (4, AV.bad), (5, AV.ptr (Pl.mk i 0 [] 1)), (6, AV.bad), (7, AV.bad), (8, AV.bad), (9, AV.bad), (10, AV.bad), (11, AV.int IntKind.i64 0), (12, AV.int IntKind.i64 0), (20, AV.bad), (43, AV.bad), (50, AV.bad), (56, AV.bad), (62, AV.bad), (71, AV.bad), (80, AV.bad), (84, AV.bad), (89, AV.bad), (109, AV.bad), (111, AV.bad)] [] H true) k)) : Prop) := by kernel_rfl
theorem step6z (N fuel m n0 : Nat) (i j : Nat) (H : Heap) (k : AV → Heap → Bool → Prop) :
 (resPS (S F) TL N 9 fuel 6 2 n0 [] [true, true, true, true, true, false, true] (m + 1) ⟨L6 .nils .nils i j 0, [], H, true⟩ k) =
 ((resPS (S F) TL N 9 fuel 6 2 n0 [] [true, true, true, true, true, true, true, false, true] fuel (St.mk [(0, AV.bad), (1, AV.bad), (4, AV.bad), (5, AV.ptr (Pl.mk i 0 [] 1)), (6, AV.bad), (7, AV.bad), (8, AV.bad), (9, AV.bad), (10, AV.bad), (11, AV.int IntKind.i64 0), (12, AV.int IntKind.i64 0), (20, AV.bad), (43, AV.bad), (50, AV.bad), (56, AV.bad), (62, AV.bad), (71, AV.bad), (80, AV.bad), (84, AV.bad), (89, AV.bad), (109, AV.bad), (111, AV.bad)] [] H true) k) : Prop) := by kernel_rfl
theorem start6n (N fuel : Nat) (m2 : List Stp) (k : AV → Heap → Bool → Prop) :
 (runP (S F) TL N 9 fuel 6 [.nils, .isl 3 (row encSt m2)] [] k) =
 ((cond (decide ((↑(List.length (row encSt m2)) : Int) > 60))
 (And (([] : List AV) = [])
 (k (AV.bool true) [] true))
 (∃ (n0 : Int),
 And ([AV.int IntKind.i64 2] = [AV.int IntKind.i64 n0])
 (And ((¬(1 ≤ n0 ∧ n0 ≤ 4)) →
 ∃ (n1 : Int),
 And ([AV.int IntKind.i64 2] = [AV.int IntKind.i64 n1])
 (And ((¬(1 ≤ n1 ∧ n1 ≤ 4)) →
 k (AV.bool false) [] true)
 ((1 ≤ n1) →
 (n1 ≤ 4) →
 ∀ (i2 : Nat),
 ∀ (j3 : Nat),
 ∀ (vs4 : List AV),
 ∀ (H'5 : Heap),
 (PinsR H'5 i2 j3 vs4 (List.replicate (Int.toNat n1) [])) →
 (Keep [] [] H'5) →
 (Fresh [] (i2 :: j3 :: refsL vs4)) →
 k (AV.bool false) H'5 true)))
 ((1 ≤ n0) →
 (n0 ≤ 4) →
 ∀ (i6 : Nat),
 ∀ (j7 : Nat),
 ∀ (vs8 : List AV),
 ∀ (H'9 : Heap),
 (PinsR H'9 i6 j7 vs8 (List.replicate (Int.toNat n0) [])) →
 (Keep [] [] H'9) →
 (Fresh [] (i6 :: j7 :: refsL vs8)) →
 ∃ (n10 : Int),
 And ([AV.int IntKind.i64 2] = [AV.int IntKind.i64 n10])
 (And ((¬(1 ≤ n10 ∧ n10 ≤ 4)) →
 k (AV.bool false) H'9 true)
 ((1 ≤ n10) →
 (n10 ≤ 4) →
 ∀ (i11 : Nat),
 ∀ (j12 : Nat),
 ∀ (vs13 : List AV),
 ∀ (H'14 : Heap),
 (PinsR H'14 i11 j12 vs13 (List.replicate (Int.toNat n10) [])) →
 (Keep [] H'9 H'14) →
 (Fresh H'9 (i11 :: j12 :: refsL vs13)) →
 resPS (S F) TL N 9 fuel 6 2 0 [] [true, true, true, true, true, false, true] fuel (St.mk [(0, AV.nils), (1, AV.isl 3 (row encSt m2)), (4, AV.bad), (5, AV.ptr (Pl.mk i6 0 [] 1)), (6, AV.bad), (7, AV.ptr (Pl.mk i11 0 [] 1)), (8, AV.bad), (9, AV.int IntKind.i64 0), (10, AV.bad), (11, AV.bad), (12, AV.bad), (20, AV.bad), (43, AV.bad), (50, AV.bad), (56, AV.bad), (62, AV.bad), (71, AV.bad), (80, AV.bad), (84, AV.bad), (89, AV.bad), (109, AV.bad), (111, AV.bad)] [] H'14 true) k)))))) : Prop) := by kernel_rfl
theorem start6m (N fuel : Nat) (l : List Stp) (k : AV → Heap → Bool → Prop) :
 (runP (S F) TL N 9 fuel 6 [.isl 3 (row encSt l), .nils] [] k) =
 ((cond (decide ((↑(List.length (row encSt l)) : Int) > 60))
 (And (([] : List AV) = [])
 (k (AV.bool true) [] true))
 (∃ (n0 : Int),
 And ([AV.int IntKind.i64 2] = [AV.int IntKind.i64 n0])
 (And ((¬(1 ≤ n0 ∧ n0 ≤ 4)) →
 ∃ (n1 : Int),
 And ([AV.int IntKind.i64 2] = [AV.int IntKind.i64 n1])
 (And ((¬(1 ≤ n1 ∧ n1 ≤ 4)) →
 k (AV.bool false) [] true)
 ((1 ≤ n1) →
 (n1 ≤ 4) →
 ∀ (i2 : Nat),
 ∀ (j3 : Nat),
 ∀ (vs4 : List AV),
 ∀ (H'5 : Heap),
 (PinsR H'5 i2 j3 vs4 (List.replicate (Int.toNat n1) [])) →
 (Keep [] [] H'5) →
 (Fresh [] (i2 :: j3 :: refsL vs4)) →
 k (AV.bool false) H'5 true)))
 ((1 ≤ n0) →
 (n0 ≤ 4) →
 ∀ (i6 : Nat),
 ∀ (j7 : Nat),
 ∀ (vs8 : List AV),
 ∀ (H'9 : Heap),
 (PinsR H'9 i6 j7 vs8 (List.replicate (Int.toNat n0) [])) →
 (Keep [] [] H'9) →
 (Fresh [] (i6 :: j7 :: refsL vs8)) →
 ∃ (n10 : Int),
 And ([AV.int IntKind.i64 2] = [AV.int IntKind.i64 n10])
 (And ((¬(1 ≤ n10 ∧ n10 ≤ 4)) →
 k (AV.bool false) H'9 true)
 ((1 ≤ n10) →
 (n10 ≤ 4) →
 ∀ (i11 : Nat),
 ∀ (j12 : Nat),
 ∀ (vs13 : List AV),
 ∀ (H'14 : Heap),
 (PinsR H'14 i11 j12 vs13 (List.replicate (Int.toNat n10) [])) →
 (Keep [] H'9 H'14) →
 (Fresh H'9 (i11 :: j12 :: refsL vs13)) →
 resPS (S F) TL N 9 fuel 6 2 0 [] [true, true, true, true, true, false, true] fuel (St.mk [(0, AV.isl 3 (row encSt l)), (1, AV.nils), (4, AV.bad), (5, AV.ptr (Pl.mk i6 0 [] 1)), (6, AV.bad), (7, AV.ptr (Pl.mk i11 0 [] 1)), (8, AV.bad), (9, AV.int IntKind.i64 0), (10, AV.bad), (11, AV.bad), (12, AV.bad), (20, AV.bad), (43, AV.bad), (50, AV.bad), (56, AV.bad), (62, AV.bad), (71, AV.bad), (80, AV.bad), (84, AV.bad), (89, AV.bad), (109, AV.bad), (111, AV.bad)] [] H'14 true) k)))))) : Prop) := by kernel_rfl
theorem start6z (N fuel : Nat) (k : AV → Heap → Bool → Prop) :
 (runP (S F) TL N 9 fuel 6 [.nils, .nils] [] k) =
 ((∃ (n0 : Int),
 And ([AV.int IntKind.i64 2] = [AV.int IntKind.i64 n0])
 (And ((¬(1 ≤ n0 ∧ n0 ≤ 4)) →
 ∃ (n1 : Int),
 And ([AV.int IntKind.i64 2] = [AV.int IntKind.i64 n1])
 (And ((¬(1 ≤ n1 ∧ n1 ≤ 4)) →
 k (AV.bool false) [] true)
 ((1 ≤ n1) →
 (n1 ≤ 4) →
 ∀ (i2 : Nat),
 ∀ (j3 : Nat),
 ∀ (vs4 : List AV),
 ∀ (H'5 : Heap),
 (PinsR H'5 i2 j3 vs4 (List.replicate (Int.toNat n1) [])) →
 (Keep [] [] H'5) →
 (Fresh [] (i2 :: j3 :: refsL vs4)) →
 k (AV.bool false) H'5 true)))
 ((1 ≤ n0) →
 (n0 ≤ 4) →
 ∀ (i6 : Nat),
 ∀ (j7 : Nat),
 ∀ (vs8 : List AV),
 ∀ (H'9 : Heap),
 (PinsR H'9 i6 j7 vs8 (List.replicate (Int.toNat n0) [])) →
 (Keep [] [] H'9) →
 (Fresh [] (i6 :: j7 :: refsL vs8)) →
 ∃ (n10 : Int),
 And ([AV.int IntKind.i64 2] = [AV.int IntKind.i64 n10])
 (And ((¬(1 ≤ n10 ∧ n10 ≤ 4)) →
 k (AV.bool false) H'9 true)
 ((1 ≤ n10) →
 (n10 ≤ 4) →
 ∀ (i11 : Nat),
 ∀ (j12 : Nat),
 ∀ (vs13 : List AV),
 ∀ (H'14 : Heap),
 (PinsR H'14 i11 j12 vs13 (List.replicate (Int.toNat n10) [])) →
 (Keep [] H'9 H'14) →
 (Fresh H'9 (i11 :: j12 :: refsL vs13)) →
 resPS (S F) TL N 9 fuel 6 2 0 [] [true, true, true, true, true, false, true] fuel (St.mk [(0, AV.nils), (1, AV.nils), (4, AV.bad), (5, AV.ptr (Pl.mk i6 0 [] 1)), (6, AV.bad), (7, AV.ptr (Pl.mk i11 0 [] 1)), (8, AV.bad), (9, AV.int IntKind.i64 0), (10, AV.bad), (11, AV.bad), (12, AV.bad), (20, AV.bad), (43, AV.bad), (50, AV.bad), (56, AV.bad), (62, AV.bad), (71, AV.bad), (80, AV.bad), (84, AV.bad), (89, AV.bad), (109, AV.bad), (111, AV.bad)] [] H'14 true) k))))) : Prop) := by kernel_rfl
end Go.Proofs.Ytclmndonaljppaa
