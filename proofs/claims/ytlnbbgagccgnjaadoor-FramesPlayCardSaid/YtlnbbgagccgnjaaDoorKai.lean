/- FramesPlay: a step of the law.
-/
import Derived.Test.YtlnbbgagccgnjaaDoorKah

namespace Go.Proofs.YtlnbbgagccgnjaaDoor
open Go Go.X
variable {F : Nat}
theorem step6 (N fuel n : Nat) (l : List Stp) (i : Int) (s : FS) (r : RS) (k : AV → Heap → Bool → Prop) :
 (resPS (S F) (T6 F) N 9 fuel 6 2 0 [] p6 (n + 1) ⟨L6 FP QP (row encSt l) i, [], PH s r, false⟩ k) =
 ((cond (decide (i < (↑(List.length (row encSt l)) : Int)))
 (cond (decide (0 ≤ i))
 (cond (AV.isAggN (Option.getD (row encSt l)[Int.toNat i]? AV.bad) 6 6)
 (cond (AV.isIntK (AV.part (Option.getD (row encSt l)[Int.toNat i]? AV.bad) 0) IntKind.i64)
 (cond (AV.isIntK (AV.part (Option.getD (row encSt l)[Int.toNat i]? AV.bad) 1) IntKind.i64)
 (cond (AV.isIntK (AV.part (Option.getD (row encSt l)[Int.toNat i]? AV.bad) 2) IntKind.i64)
 (cond (AV.isIntK (AV.part (Option.getD (row encSt l)[Int.toNat i]? AV.bad) 3) IntKind.i64)
 (cond (AV.isIntK (AV.part (Option.getD (row encSt l)[Int.toNat i]? AV.bad) 4) IntKind.u8)
 (cond (AV.isNils (AV.part (Option.getD (row encSt l)[Int.toNat i]? AV.bad) 5))
 (cond (AV.toInt (AV.int IntKind.i64 (AV.toInt (AV.part (Option.getD (row encSt l)[Int.toNat i]? AV.bad) 0))) == 0)
 (∃ (v0 : Int),
 And ([AV.int IntKind.u8 (AV.toInt (AV.int IntKind.u8 (AV.toInt (AV.part (Option.getD (row encSt l)[Int.toNat i]? AV.bad) 4))))] = [AV.int IntKind.u8 v0])
 (And (([] : Heap) = [])
 (∃ (s1 : FS),
 ∃ (fr2 : Int),
 ∃ (a3 : Int),
 ∃ (p4 : Ar 32),
 And ([AV.ptr (Pl.mk 0 0 [] 3), AV.int IntKind.i64 (AV.toInt (AV.int IntKind.i64 (AV.toInt (AV.part (Option.getD (row encSt l)[Int.toNat i]? AV.bad) 1)))), AV.int IntKind.i64 (AV.toInt (AV.int IntKind.i64 (AV.toInt (AV.part (Option.getD (row encSt l)[Int.toNat i]? AV.bad) 2)))), AV.arr 1 (encL IntKind.u8 32 (leafA v0).1)] = [AV.ptr (Pl.mk 0 0 [] 3), AV.int IntKind.i64 fr2, AV.int IntKind.i64 a3, encA IntKind.u8 p4])
 (And (FH s = FH s1)
 (And (OkS s1)
 (∃ (v5 : Int),
 And ([AV.int IntKind.u8 (AV.toInt (AV.int IntKind.u8 (AV.toInt (AV.part (Option.getD (row encSt l)[Int.toNat i]? AV.bad) 4))))] = [AV.int IntKind.u8 v5])
 (And (([] : Heap) = [])
 (∃ (s6 : RS),
 ∃ (fr7 : Int),
 ∃ (a8 : Int),
 ∃ (p9 : Ar 32),
 And ([AV.ptr (Pl.mk 0 0 [] 2), AV.int IntKind.i64 (AV.toInt (AV.int IntKind.i64 (AV.toInt (AV.part (Option.getD (row encSt l)[Int.toNat i]? AV.bad) 1)))), AV.int IntKind.i64 (AV.toInt (AV.int IntKind.i64 (AV.toInt (AV.part (Option.getD (row encSt l)[Int.toNat i]? AV.bad) 2)))), AV.arr 1 (encL IntKind.u8 32 (leafA v5).1)] = [AV.ptr (Pl.mk 0 0 [] 2), AV.int IntKind.i64 fr7, AV.int IntKind.i64 a8, encA IntKind.u8 p9])
 (And (GH r = GH s6)
 (And (OkG s6)
 (cond (AV.beq (AV.int IntKind.i64 (AV.toInt (AV.part (Option.getD (row encSt l)[Int.toNat i]? AV.bad) 1))) (AV.int IntKind.i64 (AV.toInt (AV.int IntKind.i64 (AV.toInt (AV.part (Option.getD (row encSt l)[Int.toNat i]? AV.bad) 1))))))
 (cond (AV.beq (AV.int IntKind.i64 (AV.toInt (AV.part (Option.getD (row encSt l)[Int.toNat i]? AV.bad) 2))) (AV.int IntKind.i64 (AV.toInt (AV.int IntKind.i64 (AV.toInt (AV.part (Option.getD (row encSt l)[Int.toNat i]? AV.bad) 2))))))
 (cond (AV.beq (AV.int IntKind.i64 (AV.toInt (AV.part (Option.getD (row encSt l)[Int.toNat i]? AV.bad) 1))) (AV.int IntKind.i64 (AV.toInt (AV.int IntKind.i64 (AV.toInt (AV.part (Option.getD (row encSt l)[Int.toNat i]? AV.bad) 1))))))
 (cond (AV.beq (AV.int IntKind.i64 (AV.toInt (AV.part (Option.getD (row encSt l)[Int.toNat i]? AV.bad) 1))) (AV.int IntKind.i64 (AV.toInt (AV.int IntKind.i64 (AV.toInt (AV.part (Option.getD (row encSt l)[Int.toNat i]? AV.bad) 1))))))
 (cond (AV.beq (AV.int IntKind.i64 (AV.toInt (AV.part (Option.getD (row encSt l)[Int.toNat i]? AV.bad) 1))) (AV.int IntKind.i64 (AV.toInt (AV.int IntKind.i64 (AV.toInt (AV.part (Option.getD (row encSt l)[Int.toNat i]? AV.bad) 1))))))
 (cond (AV.beq (AV.int IntKind.i64 (AV.toInt (AV.part (Option.getD (row encSt l)[Int.toNat i]? AV.bad) 2))) (AV.int IntKind.i64 (AV.toInt (AV.int IntKind.i64 (AV.toInt (AV.part (Option.getD (row encSt l)[Int.toNat i]? AV.bad) 2))))))
 (cond (AV.beq (AV.int IntKind.i64 (AV.toInt (AV.part (Option.getD (row encSt l)[Int.toNat i]? AV.bad) 2))) (AV.int IntKind.i64 (AV.toInt (AV.int IntKind.i64 (AV.toInt (AV.part (Option.getD (row encSt l)[Int.toNat i]? AV.bad) 2))))))
 (cond (AV.beq (AV.int IntKind.i64 (AV.toInt (AV.part (Option.getD (row encSt l)[Int.toNat i]? AV.bad) 2))) (AV.int IntKind.i64 (AV.toInt (AV.int IntKind.i64 (AV.toInt (AV.part (Option.getD (row encSt l)[Int.toNat i]? AV.bad) 2))))))
 (cond (AV.beq (AV.int IntKind.u8 (AV.toInt (AV.part (Option.getD (row encSt l)[Int.toNat i]? AV.bad) 4))) (AV.int IntKind.u8 (AV.toInt (AV.int IntKind.u8 (AV.toInt (AV.part (Option.getD (row encSt l)[Int.toNat i]? AV.bad) 4))))))
 (cond (AV.beq (AV.int IntKind.u8 (AV.toInt (AV.part (Option.getD (row encSt l)[Int.toNat i]? AV.bad) 4))) (AV.int IntKind.u8 (AV.toInt (AV.int IntKind.u8 (AV.toInt (AV.part (Option.getD (row encSt l)[Int.toNat i]? AV.bad) 4))))))
 (cond (!Option.isSome (holdR s1 fr2 a3 p4) == Option.isSome (holdPG s6 fr7 a8 p9))
 (k (AV.bool false) [] false)
 (∃ (s10 : FS),
 And ([AV.ptr (Pl.mk 0 0 [] 3)] = [AV.ptr (Pl.mk 0 0 [] 3)])
 (And (FH (Option.getD (holdR s1 fr2 a3 p4) s1) = FH s10)
 (And (OkS s10)
 (And ((sortZ (dirties s10) = []) →
 ∃ (s11 : RS),
 And ([AV.ptr (Pl.mk 0 0 [] 2)] = [AV.ptr (Pl.mk 0 0 [] 2)])
 (And (GH (Option.getD (holdPG s6 fr7 a8 p9) s6) = GH s11)
 (And (OkG s11)
 (And ((gdirts s11 = []) →
 ∃ (l12 : List Int),
 ∃ (m13 : List Int),
 And ([AV.nils, AV.nils] = [numsAV l12, numsAV m13])
 (And (([] : Heap) = [])
 (And (List.length l12 < 5000)
 (cond (!decide (l12 = m13))
 (k (AV.bool false) [] false)
 (resPS (S F) (T6 F) N 9 fuel 6 2 0 [(p7, fuel)] p6 n (St.mk [(0, AV.bad), (1, AV.isl 6 (row encSt l)), (4, AV.bad), (5, AV.ptr (Pl.mk 4 0 [] 3)), (6, AV.bad), (7, AV.ptr (Pl.mk 9 0 [] 2)), (8, AV.bad), (9, AV.int IntKind.i64 i), (10, AV.bad), (11, AV.bad), (12, AV.bad), (13, AV.bad), (14, AV.bad), (15, AV.bad), (16, AV.int IntKind.i64 0), (17, AV.bad), (18, AV.bad), (19, AV.bad), (20, AV.bad), (21, AV.bad), (22, AV.bad), (25, AV.bad), (55, AV.bad), (63, AV.bad), (71, AV.bad), (72, AV.bad), (92, AV.bad), (114, AV.bad), (134, AV.bad), (144, AV.bad), (154, AV.bad), (168, AV.bad), (197, AV.bad), (199, AV.bad), (256, AV.bad), (264, AV.bad), (299, AV.bad)] [] (PH (Option.getD (holdR s1 fr2 a3 p4) s1) (Option.getD (holdPG s6 fr7 a8 p9) s6)) false) k)))))
 (∀ (l14 : List Int),
 (l14 = gdirts s11) →
 (l14 ≠ []) →
 cond (decide (AV.flatLen (AV.arr 1 (row encZ l14)) = List.length l14))
 (cond (decide (List.length (row encZ l14) = List.length l14))
 (cond (decide (0 + List.length l14 ≤ List.length l14))
 (cond (reflessL (List.take (List.length l14) (List.drop 0 (row encZ l14))) && true)
 (∃ (l15 : List Int),
 ∃ (m16 : List Int),
 And ([AV.nils, AV.isl 1 (List.take (List.length l14) (List.drop 0 (row encZ l14)))] = [numsAV l15, numsAV m16])
 (And (([] : Heap) = [])
 (And (List.length l15 < 5000)
 (cond (!decide (l15 = m16))
 (k (AV.bool false) [] false)
 (resPS (S F) (T6 F) N 9 fuel 6 2 0 [(p7, fuel)] p6 n (St.mk [(0, AV.bad), (1, AV.isl 6 (row encSt l)), (4, AV.bad), (5, AV.ptr (Pl.mk 4 0 [] 3)), (6, AV.bad), (7, AV.ptr (Pl.mk 9 0 [] 2)), (8, AV.bad), (9, AV.int IntKind.i64 i), (10, AV.bad), (11, AV.bad), (12, AV.bad), (13, AV.bad), (14, AV.bad), (15, AV.bad), (16, AV.int IntKind.i64 0), (17, AV.bad), (18, AV.bad), (19, AV.bad), (20, AV.bad), (21, AV.bad), (22, AV.bad), (25, AV.bad), (55, AV.bad), (63, AV.bad), (71, AV.bad), (72, AV.bad), (92, AV.bad), (114, AV.bad), (134, AV.bad), (144, AV.bad), (154, AV.bad), (168, AV.bad), (197, AV.bad), (199, AV.bad), (256, AV.bad), (264, AV.bad), (299, AV.bad)] [] (PH (Option.getD (holdR s1 fr2 a3 p4) s1) s11) false) k)))))
 (False))
 (False))
 (False))
 (False))))))
 (∀ (l17 : List Int),
 (l17 = sortZ (dirties s10)) →
 (l17 ≠ []) →
 ∃ (s18 : RS),
 And ([AV.ptr (Pl.mk 0 0 [] 2)] = [AV.ptr (Pl.mk 0 0 [] 2)])
 (And (GH (Option.getD (holdPG s6 fr7 a8 p9) s6) = GH s18)
 (And (OkG s18)
 (And ((gdirts s18 = []) →
 cond (decide (AV.flatLen (AV.arr 1 (row encZ l17)) = List.length l17))
 (cond (decide (List.length (row encZ l17) = List.length l17))
 (cond (decide (0 + List.length l17 ≤ List.length l17))
 (cond (reflessL (List.take (List.length l17) (List.drop 0 (row encZ l17))) && true)
 (∃ (l19 : List Int),
 ∃ (m20 : List Int),
 And ([AV.isl 1 (List.take (List.length l17) (List.drop 0 (row encZ l17))), AV.nils] = [numsAV l19, numsAV m20])
 (And (([] : Heap) = [])
 (And (List.length l19 < 5000)
 (cond (!decide (l19 = m20))
 (k (AV.bool false) [] false)
 (resPS (S F) (T6 F) N 9 fuel 6 2 0 [(p7, fuel)] p6 n (St.mk [(0, AV.bad), (1, AV.isl 6 (row encSt l)), (4, AV.bad), (5, AV.ptr (Pl.mk 4 0 [] 3)), (6, AV.bad), (7, AV.ptr (Pl.mk 9 0 [] 2)), (8, AV.bad), (9, AV.int IntKind.i64 i), (10, AV.bad), (11, AV.bad), (12, AV.bad), (13, AV.bad), (14, AV.bad), (15, AV.bad), (16, AV.int IntKind.i64 0), (17, AV.bad), (18, AV.bad), (19, AV.bad), (20, AV.bad), (21, AV.bad), (22, AV.bad), (25, AV.bad), (55, AV.bad), (63, AV.bad), (71, AV.bad), (72, AV.bad), (92, AV.bad), (114, AV.bad), (134, AV.bad), (144, AV.bad), (154, AV.bad), (168, AV.bad), (197, AV.bad), (199, AV.bad), (256, AV.bad), (264, AV.bad), (299, AV.bad)] [] (PH s10 (Option.getD (holdPG s6 fr7 a8 p9) s6)) false) k)))))
 (False))
 (False))
 (False))
 (False))
 (∀ (l21 : List Int),
 (l21 = gdirts s18) →
 (l21 ≠ []) →
 cond (decide (AV.flatLen (AV.arr 1 (row encZ l17)) = List.length l17))
 (cond (decide (List.length (row encZ l17) = List.length l17))
 (cond (decide (0 + List.length l17 ≤ List.length l17))
 (cond (reflessL (List.take (List.length l17) (List.drop 0 (row encZ l17))) && true)
 (cond (decide (AV.flatLen (AV.arr 1 (row encZ l21)) = List.length l21))
 (cond (decide (List.length (row encZ l21) = List.length l21))
 (cond (decide (0 + List.length l21 ≤ List.length l21))
 (cond (reflessL (List.take (List.length l21) (List.drop 0 (row encZ l21))) && true)
 (∃ (l22 : List Int),
 ∃ (m23 : List Int),
 And ([AV.isl 1 (List.take (List.length l17) (List.drop 0 (row encZ l17))), AV.isl 1 (List.take (List.length l21) (List.drop 0 (row encZ l21)))] = [numsAV l22, numsAV m23])
 (And (([] : Heap) = [])
 (And (List.length l22 < 5000)
 (cond (!decide (l22 = m23))
 (k (AV.bool false) [] false)
 (resPS (S F) (T6 F) N 9 fuel 6 2 0 [(p7, fuel)] p6 n (St.mk [(0, AV.bad), (1, AV.isl 6 (row encSt l)), (4, AV.bad), (5, AV.ptr (Pl.mk 4 0 [] 3)), (6, AV.bad), (7, AV.ptr (Pl.mk 9 0 [] 2)), (8, AV.bad), (9, AV.int IntKind.i64 i), (10, AV.bad), (11, AV.bad), (12, AV.bad), (13, AV.bad), (14, AV.bad), (15, AV.bad), (16, AV.int IntKind.i64 0), (17, AV.bad), (18, AV.bad), (19, AV.bad), (20, AV.bad), (21, AV.bad), (22, AV.bad), (25, AV.bad), (55, AV.bad), (63, AV.bad), (71, AV.bad), (72, AV.bad), (92, AV.bad), (114, AV.bad), (134, AV.bad), (144, AV.bad), (154, AV.bad), (168, AV.bad), (197, AV.bad), (199, AV.bad), (256, AV.bad), (264, AV.bad), (299, AV.bad)] [] (PH s10 s18) false) k)))))
 (False))
 (False))
 (False))
 (False))
 (False))
 (False))
 (False))
 (False)))))))))))
 (False))
 (False))
 (False))
 (False))
 (False))
 (False))
 (False))
 (False))
 (False))
 (False))))))))))))
 (cond (AV.toInt (AV.int IntKind.i64 (AV.toInt (AV.part (Option.getD (row encSt l)[Int.toNat i]? AV.bad) 0))) == 1)
 (∃ (s24 : FS),
 ∃ (fr25 : Int),
 ∃ (a26 : Int),
 ∃ (p27 : Ar 8),
 And ([AV.ptr (Pl.mk 0 0 [] 3), AV.int IntKind.i64 (AV.toInt (AV.int IntKind.i64 (AV.toInt (AV.part (Option.getD (row encSt l)[Int.toNat i]? AV.bad) 1)))), AV.int IntKind.i64 (AV.toInt (AV.int IntKind.i64 (AV.toInt (AV.part (Option.getD (row encSt l)[Int.toNat i]? AV.bad) 2)))), AV.arr 1 (arI IntKind.i64 8 (AV.arr 1 (AV.int IntKind.i64 (IntKind.wrap IntKind.i64 (AV.toInt (AV.int IntKind.u8 (AV.toInt (AV.part (Option.getD (row encSt l)[Int.toNat i]? AV.bad) 4))))) :: AV.int IntKind.i64 (AV.toInt (AV.int IntKind.i64 (AV.toInt (AV.part (Option.getD (row encSt l)[Int.toNat i]? AV.bad) 3)))) :: encL IntKind.i64 6 fun (_i : Nat) => 0)))] = [AV.ptr (Pl.mk 0 0 [] 3), AV.int IntKind.i64 fr25, AV.int IntKind.i64 a26, encA IntKind.i64 p27])
 (And (FH s = FH s24)
 (And (OkS s24)
 (∃ (s28 : RS),
 ∃ (fr29 : Int),
 ∃ (a30 : Int),
 ∃ (p31 : Ar 8),
 And ([AV.ptr (Pl.mk 0 0 [] 2), AV.int IntKind.i64 (AV.toInt (AV.int IntKind.i64 (AV.toInt (AV.part (Option.getD (row encSt l)[Int.toNat i]? AV.bad) 1)))), AV.int IntKind.i64 (AV.toInt (AV.int IntKind.i64 (AV.toInt (AV.part (Option.getD (row encSt l)[Int.toNat i]? AV.bad) 2)))), AV.arr 1 (arI IntKind.i64 8 (AV.arr 1 (AV.int IntKind.i64 (IntKind.wrap IntKind.i64 (AV.toInt (AV.int IntKind.u8 (AV.toInt (AV.part (Option.getD (row encSt l)[Int.toNat i]? AV.bad) 4))))) :: AV.int IntKind.i64 (AV.toInt (AV.int IntKind.i64 (AV.toInt (AV.part (Option.getD (row encSt l)[Int.toNat i]? AV.bad) 3)))) :: encL IntKind.i64 6 fun (_i : Nat) => 0)))] = [AV.ptr (Pl.mk 0 0 [] 2), AV.int IntKind.i64 fr29, AV.int IntKind.i64 a30, encA IntKind.i64 p31])
 (And (GH r = GH s28)
 (And (OkG s28)
 (cond (AV.beq (AV.int IntKind.i64 (AV.toInt (AV.part (Option.getD (row encSt l)[Int.toNat i]? AV.bad) 1))) (AV.int IntKind.i64 (AV.toInt (AV.int IntKind.i64 (AV.toInt (AV.part (Option.getD (row encSt l)[Int.toNat i]? AV.bad) 1))))))
 (cond (AV.beq (AV.int IntKind.i64 (AV.toInt (AV.part (Option.getD (row encSt l)[Int.toNat i]? AV.bad) 2))) (AV.int IntKind.i64 (AV.toInt (AV.int IntKind.i64 (AV.toInt (AV.part (Option.getD (row encSt l)[Int.toNat i]? AV.bad) 2))))))
 (cond (AV.beq (AV.arr 1 (AV.int IntKind.i64 (IntKind.wrap IntKind.i64 (AV.toInt (AV.int IntKind.u8 (AV.toInt (AV.part (Option.getD (row encSt l)[Int.toNat i]? AV.bad) 4))))) :: AV.int IntKind.i64 (AV.toInt (AV.int IntKind.i64 (AV.toInt (AV.part (Option.getD (row encSt l)[Int.toNat i]? AV.bad) 3)))) :: encL IntKind.i64 6 fun (_i : Nat) => 0)) (AV.arr 1 (arI IntKind.i64 8 (AV.arr 1 (AV.int IntKind.i64 (IntKind.wrap IntKind.i64 (AV.toInt (AV.int IntKind.u8 (AV.toInt (AV.part (Option.getD (row encSt l)[Int.toNat i]? AV.bad) 4))))) :: AV.int IntKind.i64 (AV.toInt (AV.int IntKind.i64 (AV.toInt (AV.part (Option.getD (row encSt l)[Int.toNat i]? AV.bad) 3)))) :: encL IntKind.i64 6 fun (_i : Nat) => 0)))))
 (cond (!Option.isSome (holdMapR s24 fr25 a26 p27) == Option.isSome (holdMG s28 fr29 a30 p31))
 (k (AV.bool false) [] false)
 (∃ (s32 : FS),
 And ([AV.ptr (Pl.mk 0 0 [] 3)] = [AV.ptr (Pl.mk 0 0 [] 3)])
 (And (FH (Option.getD (holdMapR s24 fr25 a26 p27) s24) = FH s32)
 (And (OkS s32)
 (And ((sortZ (dirties s32) = []) →
 ∃ (s33 : RS),
 And ([AV.ptr (Pl.mk 0 0 [] 2)] = [AV.ptr (Pl.mk 0 0 [] 2)])
 (And (GH (Option.getD (holdMG s28 fr29 a30 p31) s28) = GH s33)
 (And (OkG s33)
 (And ((gdirts s33 = []) →
 ∃ (l34 : List Int),
 ∃ (m35 : List Int),
 And ([AV.nils, AV.nils] = [numsAV l34, numsAV m35])
 (And (([] : Heap) = [])
 (And (List.length l34 < 5000)
 (cond (!decide (l34 = m35))
 (k (AV.bool false) [] false)
 (resPS (S F) (T6 F) N 9 fuel 6 2 0 [(p7, fuel)] p6 n (St.mk [(0, AV.bad), (1, AV.isl 6 (row encSt l)), (4, AV.bad), (5, AV.ptr (Pl.mk 4 0 [] 3)), (6, AV.bad), (7, AV.ptr (Pl.mk 9 0 [] 2)), (8, AV.bad), (9, AV.int IntKind.i64 i), (10, AV.bad), (11, AV.bad), (12, AV.bad), (13, AV.bad), (14, AV.bad), (15, AV.bad), (16, AV.int IntKind.i64 0), (17, AV.bad), (18, AV.bad), (19, AV.bad), (20, AV.bad), (21, AV.bad), (22, AV.bad), (25, AV.bad), (55, AV.bad), (63, AV.bad), (71, AV.bad), (72, AV.bad), (92, AV.bad), (114, AV.bad), (134, AV.bad), (144, AV.bad), (154, AV.bad), (168, AV.bad), (197, AV.bad), (199, AV.bad), (256, AV.bad), (264, AV.bad), (299, AV.bad)] [] (PH (Option.getD (holdMapR s24 fr25 a26 p27) s24) (Option.getD (holdMG s28 fr29 a30 p31) s28)) false) k)))))
 (∀ (l36 : List Int),
 (l36 = gdirts s33) →
 (l36 ≠ []) →
 cond (decide (AV.flatLen (AV.arr 1 (row encZ l36)) = List.length l36))
 (cond (decide (List.length (row encZ l36) = List.length l36))
 (cond (decide (0 + List.length l36 ≤ List.length l36))
 (cond (reflessL (List.take (List.length l36) (List.drop 0 (row encZ l36))) && true)
 (∃ (l37 : List Int),
 ∃ (m38 : List Int),
 And ([AV.nils, AV.isl 1 (List.take (List.length l36) (List.drop 0 (row encZ l36)))] = [numsAV l37, numsAV m38])
 (And (([] : Heap) = [])
 (And (List.length l37 < 5000)
 (cond (!decide (l37 = m38))
 (k (AV.bool false) [] false)
 (resPS (S F) (T6 F) N 9 fuel 6 2 0 [(p7, fuel)] p6 n (St.mk [(0, AV.bad), (1, AV.isl 6 (row encSt l)), (4, AV.bad), (5, AV.ptr (Pl.mk 4 0 [] 3)), (6, AV.bad), (7, AV.ptr (Pl.mk 9 0 [] 2)), (8, AV.bad), (9, AV.int IntKind.i64 i), (10, AV.bad), (11, AV.bad), (12, AV.bad), (13, AV.bad), (14, AV.bad), (15, AV.bad), (16, AV.int IntKind.i64 0), (17, AV.bad), (18, AV.bad), (19, AV.bad), (20, AV.bad), (21, AV.bad), (22, AV.bad), (25, AV.bad), (55, AV.bad), (63, AV.bad), (71, AV.bad), (72, AV.bad), (92, AV.bad), (114, AV.bad), (134, AV.bad), (144, AV.bad), (154, AV.bad), (168, AV.bad), (197, AV.bad), (199, AV.bad), (256, AV.bad), (264, AV.bad), (299, AV.bad)] [] (PH (Option.getD (holdMapR s24 fr25 a26 p27) s24) s33) false) k)))))
 (False))
 (False))
 (False))
 (False))))))
 (∀ (l39 : List Int),
 (l39 = sortZ (dirties s32)) →
 (l39 ≠ []) →
 ∃ (s40 : RS),
 And ([AV.ptr (Pl.mk 0 0 [] 2)] = [AV.ptr (Pl.mk 0 0 [] 2)])
 (And (GH (Option.getD (holdMG s28 fr29 a30 p31) s28) = GH s40)
 (And (OkG s40)
 (And ((gdirts s40 = []) →
 cond (decide (AV.flatLen (AV.arr 1 (row encZ l39)) = List.length l39))
 (cond (decide (List.length (row encZ l39) = List.length l39))
 (cond (decide (0 + List.length l39 ≤ List.length l39))
 (cond (reflessL (List.take (List.length l39) (List.drop 0 (row encZ l39))) && true)
 (∃ (l41 : List Int),
 ∃ (m42 : List Int),
 And ([AV.isl 1 (List.take (List.length l39) (List.drop 0 (row encZ l39))), AV.nils] = [numsAV l41, numsAV m42])
 (And (([] : Heap) = [])
 (And (List.length l41 < 5000)
 (cond (!decide (l41 = m42))
 (k (AV.bool false) [] false)
 (resPS (S F) (T6 F) N 9 fuel 6 2 0 [(p7, fuel)] p6 n (St.mk [(0, AV.bad), (1, AV.isl 6 (row encSt l)), (4, AV.bad), (5, AV.ptr (Pl.mk 4 0 [] 3)), (6, AV.bad), (7, AV.ptr (Pl.mk 9 0 [] 2)), (8, AV.bad), (9, AV.int IntKind.i64 i), (10, AV.bad), (11, AV.bad), (12, AV.bad), (13, AV.bad), (14, AV.bad), (15, AV.bad), (16, AV.int IntKind.i64 0), (17, AV.bad), (18, AV.bad), (19, AV.bad), (20, AV.bad), (21, AV.bad), (22, AV.bad), (25, AV.bad), (55, AV.bad), (63, AV.bad), (71, AV.bad), (72, AV.bad), (92, AV.bad), (114, AV.bad), (134, AV.bad), (144, AV.bad), (154, AV.bad), (168, AV.bad), (197, AV.bad), (199, AV.bad), (256, AV.bad), (264, AV.bad), (299, AV.bad)] [] (PH s32 (Option.getD (holdMG s28 fr29 a30 p31) s28)) false) k)))))
 (False))
 (False))
 (False))
 (False))
 (∀ (l43 : List Int),
 (l43 = gdirts s40) →
 (l43 ≠ []) →
 cond (decide (AV.flatLen (AV.arr 1 (row encZ l39)) = List.length l39))
 (cond (decide (List.length (row encZ l39) = List.length l39))
 (cond (decide (0 + List.length l39 ≤ List.length l39))
 (cond (reflessL (List.take (List.length l39) (List.drop 0 (row encZ l39))) && true)
 (cond (decide (AV.flatLen (AV.arr 1 (row encZ l43)) = List.length l43))
 (cond (decide (List.length (row encZ l43) = List.length l43))
 (cond (decide (0 + List.length l43 ≤ List.length l43))
 (cond (reflessL (List.take (List.length l43) (List.drop 0 (row encZ l43))) && true)
 (∃ (l44 : List Int),
 ∃ (m45 : List Int),
 And ([AV.isl 1 (List.take (List.length l39) (List.drop 0 (row encZ l39))), AV.isl 1 (List.take (List.length l43) (List.drop 0 (row encZ l43)))] = [numsAV l44, numsAV m45])
 (And (([] : Heap) = [])
 (And (List.length l44 < 5000)
 (cond (!decide (l44 = m45))
 (k (AV.bool false) [] false)
 (resPS (S F) (T6 F) N 9 fuel 6 2 0 [(p7, fuel)] p6 n (St.mk [(0, AV.bad), (1, AV.isl 6 (row encSt l)), (4, AV.bad), (5, AV.ptr (Pl.mk 4 0 [] 3)), (6, AV.bad), (7, AV.ptr (Pl.mk 9 0 [] 2)), (8, AV.bad), (9, AV.int IntKind.i64 i), (10, AV.bad), (11, AV.bad), (12, AV.bad), (13, AV.bad), (14, AV.bad), (15, AV.bad), (16, AV.int IntKind.i64 0), (17, AV.bad), (18, AV.bad), (19, AV.bad), (20, AV.bad), (21, AV.bad), (22, AV.bad), (25, AV.bad), (55, AV.bad), (63, AV.bad), (71, AV.bad), (72, AV.bad), (92, AV.bad), (114, AV.bad), (134, AV.bad), (144, AV.bad), (154, AV.bad), (168, AV.bad), (197, AV.bad), (199, AV.bad), (256, AV.bad), (264, AV.bad), (299, AV.bad)] [] (PH s32 s40) false) k)))))
 (False))
 (False))
 (False))
 (False))
 (False))
 (False))
 (False))
 (False)))))))))))
 (False))
 (False))
 (False))))))))
 (cond (AV.toInt (AV.int IntKind.i64 (AV.toInt (AV.part (Option.getD (row encSt l)[Int.toNat i]? AV.bad) 0))) == 2)
 (∃ (s46 : FS),
 ∃ (a47 : Int),
 ∃ (off48 : Int),
 ∃ (ds49 : List Int),
 And ([AV.ptr (Pl.mk 0 0 [] 3), AV.int IntKind.i64 (AV.toInt (AV.int IntKind.i64 (AV.toInt (AV.part (Option.getD (row encSt l)[Int.toNat i]? AV.bad) 2)))), AV.int IntKind.i64 (AV.toInt (AV.int IntKind.i64 (AV.toInt (AV.part (Option.getD (row encSt l)[Int.toNat i]? AV.bad) 3)))), AV.sl (Pl.mk 5 0 [] 0) 1 0 0 0] = [AV.ptr (Pl.mk 0 0 [] 3), AV.int IntKind.i64 a47, AV.int IntKind.i64 off48, AV.sl (Pl.mk 5 0 [] (List.length ds49)) 1 (List.length ds49) 0 (List.length ds49)])
 (And (WR (List.length s.1) (List.length s.3) (List.length s.4) s.2 (row encF s.1) (row encP s.3) (row encH s.4) [] = WH s46 ds49)
 (And (OkS s46)
 (And (List.length ds49 < 1000)
 (∃ (s50 : RS),
 ∃ (a51 : Int),
 ∃ (off52 : Int),
 ∃ (d53 : Option (List Int)),
 And ([AV.ptr (Pl.mk 0 0 [] 2), AV.int IntKind.i64 (AV.toInt (AV.int IntKind.i64 (AV.toInt (AV.part (Option.getD (row encSt l)[Int.toNat i]? AV.bad) 2)))), AV.int IntKind.i64 (AV.toInt (AV.int IntKind.i64 (AV.toInt (AV.part (Option.getD (row encSt l)[Int.toNat i]? AV.bad) 3)))), AV.nils] = [AV.ptr (Pl.mk 0 0 [] 2), AV.int IntKind.i64 a51, AV.int IntKind.i64 off52, dataAV d53])
 (And (GH r = GH s50)
 (And (OkG s50)
 (And (List.length (Option.getD d53 []) < 1000)
 (cond (AV.beq (AV.int IntKind.i64 (AV.toInt (AV.part (Option.getD (row encSt l)[Int.toNat i]? AV.bad) 2))) (AV.int IntKind.i64 (AV.toInt (AV.int IntKind.i64 (AV.toInt (AV.part (Option.getD (row encSt l)[Int.toNat i]? AV.bad) 2))))))
 (cond (AV.beq (AV.int IntKind.i64 (AV.toInt (AV.part (Option.getD (row encSt l)[Int.toNat i]? AV.bad) 2))) (AV.int IntKind.i64 (AV.toInt (AV.int IntKind.i64 (AV.toInt (AV.part (Option.getD (row encSt l)[Int.toNat i]? AV.bad) 2))))))
 (cond (AV.beq (AV.int IntKind.i64 (AV.toInt (AV.part (Option.getD (row encSt l)[Int.toNat i]? AV.bad) 3))) (AV.int IntKind.i64 (AV.toInt (AV.int IntKind.i64 (AV.toInt (AV.part (Option.getD (row encSt l)[Int.toNat i]? AV.bad) 3))))))
 (cond (AV.beq (AV.int IntKind.i64 (AV.toInt (AV.part (Option.getD (row encSt l)[Int.toNat i]? AV.bad) 3))) (AV.int IntKind.i64 (AV.toInt (AV.int IntKind.i64 (AV.toInt (AV.part (Option.getD (row encSt l)[Int.toNat i]? AV.bad) 3))))))
 (cond (AV.beq (AV.int IntKind.i64 (AV.toInt (AV.part (Option.getD (row encSt l)[Int.toNat i]? AV.bad) 2))) (AV.int IntKind.i64 (AV.toInt (AV.int IntKind.i64 (AV.toInt (AV.part (Option.getD (row encSt l)[Int.toNat i]? AV.bad) 2))))))
 (cond (AV.beq (AV.int IntKind.i64 (AV.toInt (AV.part (Option.getD (row encSt l)[Int.toNat i]? AV.bad) 2))) (AV.int IntKind.i64 (AV.toInt (AV.int IntKind.i64 (AV.toInt (AV.part (Option.getD (row encSt l)[Int.toNat i]? AV.bad) 2))))))
 (cond (AV.beq (AV.int IntKind.i64 (AV.toInt (AV.part (Option.getD (row encSt l)[Int.toNat i]? AV.bad) 2))) (AV.int IntKind.i64 (AV.toInt (AV.int IntKind.i64 (AV.toInt (AV.part (Option.getD (row encSt l)[Int.toNat i]? AV.bad) 2))))))
 (cond (AV.beq (AV.int IntKind.i64 (AV.toInt (AV.part (Option.getD (row encSt l)[Int.toNat i]? AV.bad) 3))) (AV.int IntKind.i64 (AV.toInt (AV.int IntKind.i64 (AV.toInt (AV.part (Option.getD (row encSt l)[Int.toNat i]? AV.bad) 3))))))
 (cond (AV.beq (AV.int IntKind.i64 (AV.toInt (AV.part (Option.getD (row encSt l)[Int.toNat i]? AV.bad) 3))) (AV.int IntKind.i64 (AV.toInt (AV.int IntKind.i64 (AV.toInt (AV.part (Option.getD (row encSt l)[Int.toNat i]? AV.bad) 3))))))
 (cond (AV.beq (AV.int IntKind.i64 (AV.toInt (AV.part (Option.getD (row encSt l)[Int.toNat i]? AV.bad) 3))) (AV.int IntKind.i64 (AV.toInt (AV.int IntKind.i64 (AV.toInt (AV.part (Option.getD (row encSt l)[Int.toNat i]? AV.bad) 3))))))
 (cond (!(writeR s46 a47 off48 ds49).1 == (writeG s50 a51 off52 (Option.getD d53 [])).1)
 (k (AV.bool false) [] false)
 (∃ (s54 : FS),
 And ([AV.ptr (Pl.mk 0 0 [] 3)] = [AV.ptr (Pl.mk 0 0 [] 3)])
 (And (FH (writeR s46 a47 off48 ds49).2 = FH s54)
 (And (OkS s54)
 (And ((sortZ (dirties s54) = []) →
 ∃ (s55 : RS),
 And ([AV.ptr (Pl.mk 0 0 [] 2)] = [AV.ptr (Pl.mk 0 0 [] 2)])
 (And (GH (writeG s50 a51 off52 (Option.getD d53 [])).2 = GH s55)
 (And (OkG s55)
 (And ((gdirts s55 = []) →
 ∃ (l56 : List Int),
 ∃ (m57 : List Int),
 And ([AV.nils, AV.nils] = [numsAV l56, numsAV m57])
 (And (([] : Heap) = [])
 (And (List.length l56 < 5000)
 (cond (!decide (l56 = m57))
 (k (AV.bool false) [] false)
 (resPS (S F) (T6 F) N 9 fuel 6 2 0 [(p7, fuel)] p6 n (St.mk [(0, AV.bad), (1, AV.isl 6 (row encSt l)), (4, AV.bad), (5, AV.ptr (Pl.mk 4 0 [] 3)), (6, AV.bad), (7, AV.ptr (Pl.mk 9 0 [] 2)), (8, AV.bad), (9, AV.int IntKind.i64 i), (10, AV.bad), (11, AV.bad), (12, AV.bad), (13, AV.bad), (14, AV.bad), (15, AV.bad), (16, AV.int IntKind.i64 0), (17, AV.bad), (18, AV.bad), (19, AV.bad), (20, AV.bad), (21, AV.bad), (22, AV.bad), (25, AV.bad), (55, AV.bad), (63, AV.bad), (71, AV.bad), (72, AV.bad), (92, AV.bad), (114, AV.bad), (134, AV.bad), (144, AV.bad), (154, AV.bad), (168, AV.bad), (197, AV.bad), (199, AV.bad), (256, AV.bad), (264, AV.bad), (299, AV.bad)] [] (PH (writeR s46 a47 off48 ds49).2 (writeG s50 a51 off52 (Option.getD d53 [])).2) false) k)))))
 (∀ (l58 : List Int),
 (l58 = gdirts s55) →
 (l58 ≠ []) →
 cond (decide (AV.flatLen (AV.arr 1 (row encZ l58)) = List.length l58))
 (cond (decide (List.length (row encZ l58) = List.length l58))
 (cond (decide (0 + List.length l58 ≤ List.length l58))
 (cond (reflessL (List.take (List.length l58) (List.drop 0 (row encZ l58))) && true)
 (∃ (l59 : List Int),
 ∃ (m60 : List Int),
 And ([AV.nils, AV.isl 1 (List.take (List.length l58) (List.drop 0 (row encZ l58)))] = [numsAV l59, numsAV m60])
 (And (([] : Heap) = [])
 (And (List.length l59 < 5000)
 (cond (!decide (l59 = m60))
 (k (AV.bool false) [] false)
 (resPS (S F) (T6 F) N 9 fuel 6 2 0 [(p7, fuel)] p6 n (St.mk [(0, AV.bad), (1, AV.isl 6 (row encSt l)), (4, AV.bad), (5, AV.ptr (Pl.mk 4 0 [] 3)), (6, AV.bad), (7, AV.ptr (Pl.mk 9 0 [] 2)), (8, AV.bad), (9, AV.int IntKind.i64 i), (10, AV.bad), (11, AV.bad), (12, AV.bad), (13, AV.bad), (14, AV.bad), (15, AV.bad), (16, AV.int IntKind.i64 0), (17, AV.bad), (18, AV.bad), (19, AV.bad), (20, AV.bad), (21, AV.bad), (22, AV.bad), (25, AV.bad), (55, AV.bad), (63, AV.bad), (71, AV.bad), (72, AV.bad), (92, AV.bad), (114, AV.bad), (134, AV.bad), (144, AV.bad), (154, AV.bad), (168, AV.bad), (197, AV.bad), (199, AV.bad), (256, AV.bad), (264, AV.bad), (299, AV.bad)] [] (PH (writeR s46 a47 off48 ds49).2 s55) false) k)))))
 (False))
 (False))
 (False))
 (False))))))
 (∀ (l61 : List Int),
 (l61 = sortZ (dirties s54)) →
 (l61 ≠ []) →
 ∃ (s62 : RS),
 And ([AV.ptr (Pl.mk 0 0 [] 2)] = [AV.ptr (Pl.mk 0 0 [] 2)])
 (And (GH (writeG s50 a51 off52 (Option.getD d53 [])).2 = GH s62)
 (And (OkG s62)
 (And ((gdirts s62 = []) →
 cond (decide (AV.flatLen (AV.arr 1 (row encZ l61)) = List.length l61))
 (cond (decide (List.length (row encZ l61) = List.length l61))
 (cond (decide (0 + List.length l61 ≤ List.length l61))
 (cond (reflessL (List.take (List.length l61) (List.drop 0 (row encZ l61))) && true)
 (∃ (l63 : List Int),
 ∃ (m64 : List Int),
 And ([AV.isl 1 (List.take (List.length l61) (List.drop 0 (row encZ l61))), AV.nils] = [numsAV l63, numsAV m64])
 (And (([] : Heap) = [])
 (And (List.length l63 < 5000)
 (cond (!decide (l63 = m64))
 (k (AV.bool false) [] false)
 (resPS (S F) (T6 F) N 9 fuel 6 2 0 [(p7, fuel)] p6 n (St.mk [(0, AV.bad), (1, AV.isl 6 (row encSt l)), (4, AV.bad), (5, AV.ptr (Pl.mk 4 0 [] 3)), (6, AV.bad), (7, AV.ptr (Pl.mk 9 0 [] 2)), (8, AV.bad), (9, AV.int IntKind.i64 i), (10, AV.bad), (11, AV.bad), (12, AV.bad), (13, AV.bad), (14, AV.bad), (15, AV.bad), (16, AV.int IntKind.i64 0), (17, AV.bad), (18, AV.bad), (19, AV.bad), (20, AV.bad), (21, AV.bad), (22, AV.bad), (25, AV.bad), (55, AV.bad), (63, AV.bad), (71, AV.bad), (72, AV.bad), (92, AV.bad), (114, AV.bad), (134, AV.bad), (144, AV.bad), (154, AV.bad), (168, AV.bad), (197, AV.bad), (199, AV.bad), (256, AV.bad), (264, AV.bad), (299, AV.bad)] [] (PH s54 (writeG s50 a51 off52 (Option.getD d53 [])).2) false) k)))))
 (False))
 (False))
 (False))
 (False))
 (∀ (l65 : List Int),
 (l65 = gdirts s62) →
 (l65 ≠ []) →
 cond (decide (AV.flatLen (AV.arr 1 (row encZ l61)) = List.length l61))
 (cond (decide (List.length (row encZ l61) = List.length l61))
 (cond (decide (0 + List.length l61 ≤ List.length l61))
 (cond (reflessL (List.take (List.length l61) (List.drop 0 (row encZ l61))) && true)
 (cond (decide (AV.flatLen (AV.arr 1 (row encZ l65)) = List.length l65))
 (cond (decide (List.length (row encZ l65) = List.length l65))
 (cond (decide (0 + List.length l65 ≤ List.length l65))
 (cond (reflessL (List.take (List.length l65) (List.drop 0 (row encZ l65))) && true)
 (∃ (l66 : List Int),
 ∃ (m67 : List Int),
 And ([AV.isl 1 (List.take (List.length l61) (List.drop 0 (row encZ l61))), AV.isl 1 (List.take (List.length l65) (List.drop 0 (row encZ l65)))] = [numsAV l66, numsAV m67])
 (And (([] : Heap) = [])
 (And (List.length l66 < 5000)
 (cond (!decide (l66 = m67))
 (k (AV.bool false) [] false)
 (resPS (S F) (T6 F) N 9 fuel 6 2 0 [(p7, fuel)] p6 n (St.mk [(0, AV.bad), (1, AV.isl 6 (row encSt l)), (4, AV.bad), (5, AV.ptr (Pl.mk 4 0 [] 3)), (6, AV.bad), (7, AV.ptr (Pl.mk 9 0 [] 2)), (8, AV.bad), (9, AV.int IntKind.i64 i), (10, AV.bad), (11, AV.bad), (12, AV.bad), (13, AV.bad), (14, AV.bad), (15, AV.bad), (16, AV.int IntKind.i64 0), (17, AV.bad), (18, AV.bad), (19, AV.bad), (20, AV.bad), (21, AV.bad), (22, AV.bad), (25, AV.bad), (55, AV.bad), (63, AV.bad), (71, AV.bad), (72, AV.bad), (92, AV.bad), (114, AV.bad), (134, AV.bad), (144, AV.bad), (154, AV.bad), (168, AV.bad), (197, AV.bad), (199, AV.bad), (256, AV.bad), (264, AV.bad), (299, AV.bad)] [] (PH s54 s62) false) k)))))
 (False))
 (False))
 (False))
 (False))
 (False))
 (False))
 (False))
 (False)))))))))))
 (False))
 (False))
 (False))
 (False))
 (False))
 (False))
 (False))
 (False))
 (False))
 (False))))))))))
 (cond (AV.toInt (AV.int IntKind.i64 (AV.toInt (AV.part (Option.getD (row encSt l)[Int.toNat i]? AV.bad) 0))) == 3)
 (∃ (s68 : FS),
 ∃ (a69 : Int),
 And ([AV.ptr (Pl.mk 0 0 [] 3), AV.int IntKind.i64 (AV.toInt (AV.int IntKind.i64 (AV.toInt (AV.part (Option.getD (row encSt l)[Int.toNat i]? AV.bad) 2))))] = [AV.ptr (Pl.mk 0 0 [] 3), AV.int IntKind.i64 a69])
 (And (FH s = FH s68)
 (And (OkS s68)
 (∃ (s70 : RS),
 ∃ (a71 : Int),
 And ([AV.ptr (Pl.mk 0 0 [] 2), AV.int IntKind.i64 (AV.toInt (AV.int IntKind.i64 (AV.toInt (AV.part (Option.getD (row encSt l)[Int.toNat i]? AV.bad) 2))))] = [AV.ptr (Pl.mk 0 0 [] 2), AV.int IntKind.i64 a71])
 (And (GH r = GH s70)
 (And (OkG s70)
 (∃ (s72 : FS),
 And ([AV.ptr (Pl.mk 0 0 [] 3)] = [AV.ptr (Pl.mk 0 0 [] 3)])
 (And (FH (cleanS s68 a69) = FH s72)
 (And (OkS s72)
 (And ((sortZ (dirties s72) = []) →
 ∃ (s73 : RS),
 And ([AV.ptr (Pl.mk 0 0 [] 2)] = [AV.ptr (Pl.mk 0 0 [] 2)])
 (And (GH (cleanG s70 a71) = GH s73)
 (And (OkG s73)
 (And ((gdirts s73 = []) →
 ∃ (l74 : List Int),
 ∃ (m75 : List Int),
 And ([AV.nils, AV.nils] = [numsAV l74, numsAV m75])
 (And (([] : Heap) = [])
 (And (List.length l74 < 5000)
 (cond (!decide (l74 = m75))
 (k (AV.bool false) [] false)
 (resPS (S F) (T6 F) N 9 fuel 6 2 0 [(p7, fuel)] p6 n (St.mk [(0, AV.bad), (1, AV.isl 6 (row encSt l)), (4, AV.bad), (5, AV.ptr (Pl.mk 4 0 [] 3)), (6, AV.bad), (7, AV.ptr (Pl.mk 9 0 [] 2)), (8, AV.bad), (9, AV.int IntKind.i64 i), (10, AV.bad), (11, AV.bad), (12, AV.bad), (13, AV.bad), (14, AV.bad), (15, AV.bad), (16, AV.int IntKind.i64 0), (17, AV.bad), (18, AV.bad), (19, AV.bad), (20, AV.bad), (21, AV.bad), (22, AV.bad), (25, AV.bad), (55, AV.bad), (63, AV.bad), (71, AV.bad), (72, AV.bad), (92, AV.bad), (114, AV.bad), (134, AV.bad), (144, AV.bad), (154, AV.bad), (168, AV.bad), (197, AV.bad), (199, AV.bad), (256, AV.bad), (264, AV.bad), (299, AV.bad)] [] (PH (cleanS s68 a69) (cleanG s70 a71)) false) k)))))
 (∀ (l76 : List Int),
 (l76 = gdirts s73) →
 (l76 ≠ []) →
 cond (decide (AV.flatLen (AV.arr 1 (row encZ l76)) = List.length l76))
 (cond (decide (List.length (row encZ l76) = List.length l76))
 (cond (decide (0 + List.length l76 ≤ List.length l76))
 (cond (reflessL (List.take (List.length l76) (List.drop 0 (row encZ l76))) && true)
 (∃ (l77 : List Int),
 ∃ (m78 : List Int),
 And ([AV.nils, AV.isl 1 (List.take (List.length l76) (List.drop 0 (row encZ l76)))] = [numsAV l77, numsAV m78])
 (And (([] : Heap) = [])
 (And (List.length l77 < 5000)
 (cond (!decide (l77 = m78))
 (k (AV.bool false) [] false)
 (resPS (S F) (T6 F) N 9 fuel 6 2 0 [(p7, fuel)] p6 n (St.mk [(0, AV.bad), (1, AV.isl 6 (row encSt l)), (4, AV.bad), (5, AV.ptr (Pl.mk 4 0 [] 3)), (6, AV.bad), (7, AV.ptr (Pl.mk 9 0 [] 2)), (8, AV.bad), (9, AV.int IntKind.i64 i), (10, AV.bad), (11, AV.bad), (12, AV.bad), (13, AV.bad), (14, AV.bad), (15, AV.bad), (16, AV.int IntKind.i64 0), (17, AV.bad), (18, AV.bad), (19, AV.bad), (20, AV.bad), (21, AV.bad), (22, AV.bad), (25, AV.bad), (55, AV.bad), (63, AV.bad), (71, AV.bad), (72, AV.bad), (92, AV.bad), (114, AV.bad), (134, AV.bad), (144, AV.bad), (154, AV.bad), (168, AV.bad), (197, AV.bad), (199, AV.bad), (256, AV.bad), (264, AV.bad), (299, AV.bad)] [] (PH (cleanS s68 a69) s73) false) k)))))
 (False))
 (False))
 (False))
 (False))))))
 (∀ (l79 : List Int),
 (l79 = sortZ (dirties s72)) →
 (l79 ≠ []) →
 ∃ (s80 : RS),
 And ([AV.ptr (Pl.mk 0 0 [] 2)] = [AV.ptr (Pl.mk 0 0 [] 2)])
 (And (GH (cleanG s70 a71) = GH s80)
 (And (OkG s80)
 (And ((gdirts s80 = []) →
 cond (decide (AV.flatLen (AV.arr 1 (row encZ l79)) = List.length l79))
 (cond (decide (List.length (row encZ l79) = List.length l79))
 (cond (decide (0 + List.length l79 ≤ List.length l79))
 (cond (reflessL (List.take (List.length l79) (List.drop 0 (row encZ l79))) && true)
 (∃ (l81 : List Int),
 ∃ (m82 : List Int),
 And ([AV.isl 1 (List.take (List.length l79) (List.drop 0 (row encZ l79))), AV.nils] = [numsAV l81, numsAV m82])
 (And (([] : Heap) = [])
 (And (List.length l81 < 5000)
 (cond (!decide (l81 = m82))
 (k (AV.bool false) [] false)
 (resPS (S F) (T6 F) N 9 fuel 6 2 0 [(p7, fuel)] p6 n (St.mk [(0, AV.bad), (1, AV.isl 6 (row encSt l)), (4, AV.bad), (5, AV.ptr (Pl.mk 4 0 [] 3)), (6, AV.bad), (7, AV.ptr (Pl.mk 9 0 [] 2)), (8, AV.bad), (9, AV.int IntKind.i64 i), (10, AV.bad), (11, AV.bad), (12, AV.bad), (13, AV.bad), (14, AV.bad), (15, AV.bad), (16, AV.int IntKind.i64 0), (17, AV.bad), (18, AV.bad), (19, AV.bad), (20, AV.bad), (21, AV.bad), (22, AV.bad), (25, AV.bad), (55, AV.bad), (63, AV.bad), (71, AV.bad), (72, AV.bad), (92, AV.bad), (114, AV.bad), (134, AV.bad), (144, AV.bad), (154, AV.bad), (168, AV.bad), (197, AV.bad), (199, AV.bad), (256, AV.bad), (264, AV.bad), (299, AV.bad)] [] (PH s72 (cleanG s70 a71)) false) k)))))
 (False))
 (False))
 (False))
 (False))
 (∀ (l83 : List Int),
 (l83 = gdirts s80) →
 (l83 ≠ []) →
 cond (decide (AV.flatLen (AV.arr 1 (row encZ l79)) = List.length l79))
 (cond (decide (List.length (row encZ l79) = List.length l79))
 (cond (decide (0 + List.length l79 ≤ List.length l79))
 (cond (reflessL (List.take (List.length l79) (List.drop 0 (row encZ l79))) && true)
 (cond (decide (AV.flatLen (AV.arr 1 (row encZ l83)) = List.length l83))
 (cond (decide (List.length (row encZ l83) = List.length l83))
 (cond (decide (0 + List.length l83 ≤ List.length l83))
 (cond (reflessL (List.take (List.length l83) (List.drop 0 (row encZ l83))) && true)
 (∃ (l84 : List Int),
 ∃ (m85 : List Int),
 And ([AV.isl 1 (List.take (List.length l79) (List.drop 0 (row encZ l79))), AV.isl 1 (List.take (List.length l83) (List.drop 0 (row encZ l83)))] = [numsAV l84, numsAV m85])
 (And (([] : Heap) = [])
 (And (List.length l84 < 5000)
 (cond (!decide (l84 = m85))
 (k (AV.bool false) [] false)
 (resPS (S F) (T6 F) N 9 fuel 6 2 0 [(p7, fuel)] p6 n (St.mk [(0, AV.bad), (1, AV.isl 6 (row encSt l)), (4, AV.bad), (5, AV.ptr (Pl.mk 4 0 [] 3)), (6, AV.bad), (7, AV.ptr (Pl.mk 9 0 [] 2)), (8, AV.bad), (9, AV.int IntKind.i64 i), (10, AV.bad), (11, AV.bad), (12, AV.bad), (13, AV.bad), (14, AV.bad), (15, AV.bad), (16, AV.int IntKind.i64 0), (17, AV.bad), (18, AV.bad), (19, AV.bad), (20, AV.bad), (21, AV.bad), (22, AV.bad), (25, AV.bad), (55, AV.bad), (63, AV.bad), (71, AV.bad), (72, AV.bad), (92, AV.bad), (114, AV.bad), (134, AV.bad), (144, AV.bad), (154, AV.bad), (168, AV.bad), (197, AV.bad), (199, AV.bad), (256, AV.bad), (264, AV.bad), (299, AV.bad)] [] (PH s72 s80) false) k)))))
 (False))
 (False))
 (False))
 (False))
 (False))
 (False))
 (False))
 (False))))))))))))))))
 (cond (AV.toInt (AV.int IntKind.i64 (AV.toInt (AV.part (Option.getD (row encSt l)[Int.toNat i]? AV.bad) 0))) == 4)
 (∃ (s86 : FS),
 ∃ (a87 : Int),
 And ([AV.ptr (Pl.mk 0 0 [] 3), AV.int IntKind.i64 (AV.toInt (AV.int IntKind.i64 (AV.toInt (AV.part (Option.getD (row encSt l)[Int.toNat i]? AV.bad) 2))))] = [AV.ptr (Pl.mk 0 0 [] 3), AV.int IntKind.i64 a87])
 (And (FH s = FH s86)
 (And (OkS s86)
 (∃ (s88 : RS),
 ∃ (a89 : Int),
 And ([AV.ptr (Pl.mk 0 0 [] 2), AV.int IntKind.i64 (AV.toInt (AV.int IntKind.i64 (AV.toInt (AV.part (Option.getD (row encSt l)[Int.toNat i]? AV.bad) 2))))] = [AV.ptr (Pl.mk 0 0 [] 2), AV.int IntKind.i64 a89])
 (And (GH r = GH s88)
 (And (OkG s88)
 (cond (AV.beq (AV.int IntKind.i64 (AV.toInt (AV.part (Option.getD (row encSt l)[Int.toNat i]? AV.bad) 2))) (AV.int IntKind.i64 (AV.toInt (AV.int IntKind.i64 (AV.toInt (AV.part (Option.getD (row encSt l)[Int.toNat i]? AV.bad) 2))))))
 (cond (!Option.isSome (forgetR s86 a87) == Option.isSome (forgetG s88 a89))
 (k (AV.bool false) [] false)
 (∃ (s90 : FS),
 And ([AV.ptr (Pl.mk 0 0 [] 3)] = [AV.ptr (Pl.mk 0 0 [] 3)])
 (And (FH (Option.getD (forgetR s86 a87) s86) = FH s90)
 (And (OkS s90)
 (And ((sortZ (dirties s90) = []) →
 ∃ (s91 : RS),
 And ([AV.ptr (Pl.mk 0 0 [] 2)] = [AV.ptr (Pl.mk 0 0 [] 2)])
 (And (GH (Option.getD (forgetG s88 a89) s88) = GH s91)
 (And (OkG s91)
 (And ((gdirts s91 = []) →
 ∃ (l92 : List Int),
 ∃ (m93 : List Int),
 And ([AV.nils, AV.nils] = [numsAV l92, numsAV m93])
 (And (([] : Heap) = [])
 (And (List.length l92 < 5000)
 (cond (!decide (l92 = m93))
 (k (AV.bool false) [] false)
 (resPS (S F) (T6 F) N 9 fuel 6 2 0 [(p7, fuel)] p6 n (St.mk [(0, AV.bad), (1, AV.isl 6 (row encSt l)), (4, AV.bad), (5, AV.ptr (Pl.mk 4 0 [] 3)), (6, AV.bad), (7, AV.ptr (Pl.mk 9 0 [] 2)), (8, AV.bad), (9, AV.int IntKind.i64 i), (10, AV.bad), (11, AV.bad), (12, AV.bad), (13, AV.bad), (14, AV.bad), (15, AV.bad), (16, AV.int IntKind.i64 0), (17, AV.bad), (18, AV.bad), (19, AV.bad), (20, AV.bad), (21, AV.bad), (22, AV.bad), (25, AV.bad), (55, AV.bad), (63, AV.bad), (71, AV.bad), (72, AV.bad), (92, AV.bad), (114, AV.bad), (134, AV.bad), (144, AV.bad), (154, AV.bad), (168, AV.bad), (197, AV.bad), (199, AV.bad), (256, AV.bad), (264, AV.bad), (299, AV.bad)] [] (PH (Option.getD (forgetR s86 a87) s86) (Option.getD (forgetG s88 a89) s88)) false) k)))))
 (∀ (l94 : List Int),
 (l94 = gdirts s91) →
 (l94 ≠ []) →
 cond (decide (AV.flatLen (AV.arr 1 (row encZ l94)) = List.length l94))
 (cond (decide (List.length (row encZ l94) = List.length l94))
 (cond (decide (0 + List.length l94 ≤ List.length l94))
 (cond (reflessL (List.take (List.length l94) (List.drop 0 (row encZ l94))) && true)
 (∃ (l95 : List Int),
 ∃ (m96 : List Int),
 And ([AV.nils, AV.isl 1 (List.take (List.length l94) (List.drop 0 (row encZ l94)))] = [numsAV l95, numsAV m96])
 (And (([] : Heap) = [])
 (And (List.length l95 < 5000)
 (cond (!decide (l95 = m96))
 (k (AV.bool false) [] false)
 (resPS (S F) (T6 F) N 9 fuel 6 2 0 [(p7, fuel)] p6 n (St.mk [(0, AV.bad), (1, AV.isl 6 (row encSt l)), (4, AV.bad), (5, AV.ptr (Pl.mk 4 0 [] 3)), (6, AV.bad), (7, AV.ptr (Pl.mk 9 0 [] 2)), (8, AV.bad), (9, AV.int IntKind.i64 i), (10, AV.bad), (11, AV.bad), (12, AV.bad), (13, AV.bad), (14, AV.bad), (15, AV.bad), (16, AV.int IntKind.i64 0), (17, AV.bad), (18, AV.bad), (19, AV.bad), (20, AV.bad), (21, AV.bad), (22, AV.bad), (25, AV.bad), (55, AV.bad), (63, AV.bad), (71, AV.bad), (72, AV.bad), (92, AV.bad), (114, AV.bad), (134, AV.bad), (144, AV.bad), (154, AV.bad), (168, AV.bad), (197, AV.bad), (199, AV.bad), (256, AV.bad), (264, AV.bad), (299, AV.bad)] [] (PH (Option.getD (forgetR s86 a87) s86) s91) false) k)))))
 (False))
 (False))
 (False))
 (False))))))
 (∀ (l97 : List Int),
 (l97 = sortZ (dirties s90)) →
 (l97 ≠ []) →
 ∃ (s98 : RS),
 And ([AV.ptr (Pl.mk 0 0 [] 2)] = [AV.ptr (Pl.mk 0 0 [] 2)])
 (And (GH (Option.getD (forgetG s88 a89) s88) = GH s98)
 (And (OkG s98)
 (And ((gdirts s98 = []) →
 cond (decide (AV.flatLen (AV.arr 1 (row encZ l97)) = List.length l97))
 (cond (decide (List.length (row encZ l97) = List.length l97))
 (cond (decide (0 + List.length l97 ≤ List.length l97))
 (cond (reflessL (List.take (List.length l97) (List.drop 0 (row encZ l97))) && true)
 (∃ (l99 : List Int),
 ∃ (m100 : List Int),
 And ([AV.isl 1 (List.take (List.length l97) (List.drop 0 (row encZ l97))), AV.nils] = [numsAV l99, numsAV m100])
 (And (([] : Heap) = [])
 (And (List.length l99 < 5000)
 (cond (!decide (l99 = m100))
 (k (AV.bool false) [] false)
 (resPS (S F) (T6 F) N 9 fuel 6 2 0 [(p7, fuel)] p6 n (St.mk [(0, AV.bad), (1, AV.isl 6 (row encSt l)), (4, AV.bad), (5, AV.ptr (Pl.mk 4 0 [] 3)), (6, AV.bad), (7, AV.ptr (Pl.mk 9 0 [] 2)), (8, AV.bad), (9, AV.int IntKind.i64 i), (10, AV.bad), (11, AV.bad), (12, AV.bad), (13, AV.bad), (14, AV.bad), (15, AV.bad), (16, AV.int IntKind.i64 0), (17, AV.bad), (18, AV.bad), (19, AV.bad), (20, AV.bad), (21, AV.bad), (22, AV.bad), (25, AV.bad), (55, AV.bad), (63, AV.bad), (71, AV.bad), (72, AV.bad), (92, AV.bad), (114, AV.bad), (134, AV.bad), (144, AV.bad), (154, AV.bad), (168, AV.bad), (197, AV.bad), (199, AV.bad), (256, AV.bad), (264, AV.bad), (299, AV.bad)] [] (PH s90 (Option.getD (forgetG s88 a89) s88)) false) k)))))
 (False))
 (False))
 (False))
 (False))
 (∀ (l101 : List Int),
 (l101 = gdirts s98) →
 (l101 ≠ []) →
 cond (decide (AV.flatLen (AV.arr 1 (row encZ l97)) = List.length l97))
 (cond (decide (List.length (row encZ l97) = List.length l97))
 (cond (decide (0 + List.length l97 ≤ List.length l97))
 (cond (reflessL (List.take (List.length l97) (List.drop 0 (row encZ l97))) && true)
 (cond (decide (AV.flatLen (AV.arr 1 (row encZ l101)) = List.length l101))
 (cond (decide (List.length (row encZ l101) = List.length l101))
 (cond (decide (0 + List.length l101 ≤ List.length l101))
 (cond (reflessL (List.take (List.length l101) (List.drop 0 (row encZ l101))) && true)
 (∃ (l102 : List Int),
 ∃ (m103 : List Int),
 And ([AV.isl 1 (List.take (List.length l97) (List.drop 0 (row encZ l97))), AV.isl 1 (List.take (List.length l101) (List.drop 0 (row encZ l101)))] = [numsAV l102, numsAV m103])
 (And (([] : Heap) = [])
 (And (List.length l102 < 5000)
 (cond (!decide (l102 = m103))
 (k (AV.bool false) [] false)
 (resPS (S F) (T6 F) N 9 fuel 6 2 0 [(p7, fuel)] p6 n (St.mk [(0, AV.bad), (1, AV.isl 6 (row encSt l)), (4, AV.bad), (5, AV.ptr (Pl.mk 4 0 [] 3)), (6, AV.bad), (7, AV.ptr (Pl.mk 9 0 [] 2)), (8, AV.bad), (9, AV.int IntKind.i64 i), (10, AV.bad), (11, AV.bad), (12, AV.bad), (13, AV.bad), (14, AV.bad), (15, AV.bad), (16, AV.int IntKind.i64 0), (17, AV.bad), (18, AV.bad), (19, AV.bad), (20, AV.bad), (21, AV.bad), (22, AV.bad), (25, AV.bad), (55, AV.bad), (63, AV.bad), (71, AV.bad), (72, AV.bad), (92, AV.bad), (114, AV.bad), (134, AV.bad), (144, AV.bad), (154, AV.bad), (168, AV.bad), (197, AV.bad), (199, AV.bad), (256, AV.bad), (264, AV.bad), (299, AV.bad)] [] (PH s90 s98) false) k)))))
 (False))
 (False))
 (False))
 (False))
 (False))
 (False))
 (False))
 (False)))))))))))
 (False))))))))
 (cond (AV.toInt (AV.int IntKind.i64 (AV.toInt (AV.part (Option.getD (row encSt l)[Int.toNat i]? AV.bad) 0))) == 5)
 (∃ (fs104 : List Fr),
 ∃ (hand105 : Int),
 ∃ (a106 : Int),
 And ([AV.ptr (Pl.mk 0 0 [] 2), AV.int IntKind.i64 (AV.toInt (AV.int IntKind.i64 (AV.toInt (AV.part (Option.getD (row encSt l)[Int.toNat i]? AV.bad) 1))))] = [AV.ptr (Pl.mk 0 0 [] 2), AV.int IntKind.i64 a106])
 (And (CH s.1 s.2 = CH fs104 hand105)
 (∃ (fs107 : List Fr),
 ∃ (a108 : Int),
 And ([AV.ptr (Pl.mk 0 0 [] 2), AV.int IntKind.i64 (AV.toInt (AV.int IntKind.i64 (AV.toInt (AV.part (Option.getD (row encSt l)[Int.toNat i]? AV.bad) 1))))] = [AV.ptr (Pl.mk 0 0 [] 2), AV.int IntKind.i64 a108])
 (And (CR (List.length r.1) 0 (row encR r.1) = CR (List.length fs107) 0 (row encR fs107))
 (cond (AV.beq (AV.int IntKind.i64 (AV.toInt (AV.part (Option.getD (row encSt l)[Int.toNat i]? AV.bad) 1))) (AV.int IntKind.i64 (AV.toInt (AV.int IntKind.i64 (AV.toInt (AV.part (Option.getD (row encSt l)[Int.toNat i]? AV.bad) 1))))))
 (cond (AV.beq (AV.int IntKind.i64 (AV.toInt (AV.part (Option.getD (row encSt l)[Int.toNat i]? AV.bad) 1))) (AV.int IntKind.i64 (AV.toInt (AV.int IntKind.i64 (AV.toInt (AV.part (Option.getD (row encSt l)[Int.toNat i]? AV.bad) 1))))))
 (cond (AV.beq (AV.int IntKind.i64 (AV.toInt (AV.part (Option.getD (row encSt l)[Int.toNat i]? AV.bad) 1))) (AV.int IntKind.i64 (AV.toInt (AV.int IntKind.i64 (AV.toInt (AV.part (Option.getD (row encSt l)[Int.toNat i]? AV.bad) 1))))))
 (cond (!Option.isSome (pinF fs104 a106 true) == Option.isSome (pinG fs107 a108 true))
 (k (AV.bool false) [] false)
 (∃ (s109 : FS),
 And ([AV.ptr (Pl.mk 0 0 [] 3)] = [AV.ptr (Pl.mk 0 0 [] 3)])
 (And (FH
 (FS.mk
 (match pinF fs104 a106 true with
 | some x => x
 | none => fs104)
 hand105 s.3 s.4) =
 FH s109)
 (And (OkS s109)
 (And ((sortZ (dirties s109) = []) →
 ∃ (s110 : RS),
 And ([AV.ptr (Pl.mk 0 0 [] 2)] = [AV.ptr (Pl.mk 0 0 [] 2)])
 (And (GH
 (RS.mk
 (match pinG fs107 a108 true with
 | some x => x
 | none => fs107)
 r.2) =
 GH s110)
 (And (OkG s110)
 (And ((gdirts s110 = []) →
 ∃ (l111 : List Int),
 ∃ (m112 : List Int),
 And ([AV.nils, AV.nils] = [numsAV l111, numsAV m112])
 (And (([] : Heap) = [])
 (And (List.length l111 < 5000)
 (cond (!decide (l111 = m112))
 (k (AV.bool false) [] false)
 (resPS (S F) (T6 F) N 9 fuel 6 2 0 [(p7, fuel)] p6 n (St.mk [(0, AV.bad), (1, AV.isl 6 (row encSt l)), (4, AV.bad), (5, AV.ptr (Pl.mk 4 0 [] 3)), (6, AV.bad), (7, AV.ptr (Pl.mk 9 0 [] 2)), (8, AV.bad), (9, AV.int IntKind.i64 i), (10, AV.bad), (11, AV.bad), (12, AV.bad), (13, AV.bad), (14, AV.bad), (15, AV.bad), (16, AV.int IntKind.i64 0), (17, AV.bad), (18, AV.bad), (19, AV.bad), (20, AV.bad), (21, AV.bad), (22, AV.bad), (25, AV.bad), (55, AV.bad), (63, AV.bad), (71, AV.bad), (72, AV.bad), (92, AV.bad), (114, AV.bad), (134, AV.bad), (144, AV.bad), (154, AV.bad), (168, AV.bad), (197, AV.bad), (199, AV.bad), (256, AV.bad), (264, AV.bad), (299, AV.bad)] [] (PH (FS.mk (match pinF fs104 a106 true with | some x => x | none => fs104) hand105 s.3 s.4) (RS.mk (match pinG fs107 a108 true with | some x => x | none => fs107) r.2)) false) k)))))
 (∀ (l113 : List Int),
 (l113 = gdirts s110) →
 (l113 ≠ []) →
 cond (decide (AV.flatLen (AV.arr 1 (row encZ l113)) = List.length l113))
 (cond (decide (List.length (row encZ l113) = List.length l113))
 (cond (decide (0 + List.length l113 ≤ List.length l113))
 (cond (reflessL (List.take (List.length l113) (List.drop 0 (row encZ l113))) && true)
 (∃ (l114 : List Int),
 ∃ (m115 : List Int),
 And ([AV.nils, AV.isl 1 (List.take (List.length l113) (List.drop 0 (row encZ l113)))] = [numsAV l114, numsAV m115])
 (And (([] : Heap) = [])
 (And (List.length l114 < 5000)
 (cond (!decide (l114 = m115))
 (k (AV.bool false) [] false)
 (resPS (S F) (T6 F) N 9 fuel 6 2 0 [(p7, fuel)] p6 n (St.mk [(0, AV.bad), (1, AV.isl 6 (row encSt l)), (4, AV.bad), (5, AV.ptr (Pl.mk 4 0 [] 3)), (6, AV.bad), (7, AV.ptr (Pl.mk 9 0 [] 2)), (8, AV.bad), (9, AV.int IntKind.i64 i), (10, AV.bad), (11, AV.bad), (12, AV.bad), (13, AV.bad), (14, AV.bad), (15, AV.bad), (16, AV.int IntKind.i64 0), (17, AV.bad), (18, AV.bad), (19, AV.bad), (20, AV.bad), (21, AV.bad), (22, AV.bad), (25, AV.bad), (55, AV.bad), (63, AV.bad), (71, AV.bad), (72, AV.bad), (92, AV.bad), (114, AV.bad), (134, AV.bad), (144, AV.bad), (154, AV.bad), (168, AV.bad), (197, AV.bad), (199, AV.bad), (256, AV.bad), (264, AV.bad), (299, AV.bad)] [] (PH (FS.mk (match pinF fs104 a106 true with | some x => x | none => fs104) hand105 s.3 s.4) s110) false) k)))))
 (False))
 (False))
 (False))
 (False))))))
 (∀ (l116 : List Int),
 (l116 = sortZ (dirties s109)) →
 (l116 ≠ []) →
 ∃ (s117 : RS),
 And ([AV.ptr (Pl.mk 0 0 [] 2)] = [AV.ptr (Pl.mk 0 0 [] 2)])
 (And (GH
 (RS.mk
 (match pinG fs107 a108 true with
 | some x => x
 | none => fs107)
 r.2) =
 GH s117)
 (And (OkG s117)
 (And ((gdirts s117 = []) →
 cond (decide (AV.flatLen (AV.arr 1 (row encZ l116)) = List.length l116))
 (cond (decide (List.length (row encZ l116) = List.length l116))
 (cond (decide (0 + List.length l116 ≤ List.length l116))
 (cond (reflessL (List.take (List.length l116) (List.drop 0 (row encZ l116))) && true)
 (∃ (l118 : List Int),
 ∃ (m119 : List Int),
 And ([AV.isl 1 (List.take (List.length l116) (List.drop 0 (row encZ l116))), AV.nils] = [numsAV l118, numsAV m119])
 (And (([] : Heap) = [])
 (And (List.length l118 < 5000)
 (cond (!decide (l118 = m119))
 (k (AV.bool false) [] false)
 (resPS (S F) (T6 F) N 9 fuel 6 2 0 [(p7, fuel)] p6 n (St.mk [(0, AV.bad), (1, AV.isl 6 (row encSt l)), (4, AV.bad), (5, AV.ptr (Pl.mk 4 0 [] 3)), (6, AV.bad), (7, AV.ptr (Pl.mk 9 0 [] 2)), (8, AV.bad), (9, AV.int IntKind.i64 i), (10, AV.bad), (11, AV.bad), (12, AV.bad), (13, AV.bad), (14, AV.bad), (15, AV.bad), (16, AV.int IntKind.i64 0), (17, AV.bad), (18, AV.bad), (19, AV.bad), (20, AV.bad), (21, AV.bad), (22, AV.bad), (25, AV.bad), (55, AV.bad), (63, AV.bad), (71, AV.bad), (72, AV.bad), (92, AV.bad), (114, AV.bad), (134, AV.bad), (144, AV.bad), (154, AV.bad), (168, AV.bad), (197, AV.bad), (199, AV.bad), (256, AV.bad), (264, AV.bad), (299, AV.bad)] [] (PH s109 (RS.mk (match pinG fs107 a108 true with | some x => x | none => fs107) r.2)) false) k)))))
 (False))
 (False))
 (False))
 (False))
 (∀ (l120 : List Int),
 (l120 = gdirts s117) →
 (l120 ≠ []) →
 cond (decide (AV.flatLen (AV.arr 1 (row encZ l116)) = List.length l116))
 (cond (decide (List.length (row encZ l116) = List.length l116))
 (cond (decide (0 + List.length l116 ≤ List.length l116))
 (cond (reflessL (List.take (List.length l116) (List.drop 0 (row encZ l116))) && true)
 (cond (decide (AV.flatLen (AV.arr 1 (row encZ l120)) = List.length l120))
 (cond (decide (List.length (row encZ l120) = List.length l120))
 (cond (decide (0 + List.length l120 ≤ List.length l120))
 (cond (reflessL (List.take (List.length l120) (List.drop 0 (row encZ l120))) && true)
 (∃ (l121 : List Int),
 ∃ (m122 : List Int),
 And ([AV.isl 1 (List.take (List.length l116) (List.drop 0 (row encZ l116))), AV.isl 1 (List.take (List.length l120) (List.drop 0 (row encZ l120)))] = [numsAV l121, numsAV m122])
 (And (([] : Heap) = [])
 (And (List.length l121 < 5000)
 (cond (!decide (l121 = m122))
 (k (AV.bool false) [] false)
 (resPS (S F) (T6 F) N 9 fuel 6 2 0 [(p7, fuel)] p6 n (St.mk [(0, AV.bad), (1, AV.isl 6 (row encSt l)), (4, AV.bad), (5, AV.ptr (Pl.mk 4 0 [] 3)), (6, AV.bad), (7, AV.ptr (Pl.mk 9 0 [] 2)), (8, AV.bad), (9, AV.int IntKind.i64 i), (10, AV.bad), (11, AV.bad), (12, AV.bad), (13, AV.bad), (14, AV.bad), (15, AV.bad), (16, AV.int IntKind.i64 0), (17, AV.bad), (18, AV.bad), (19, AV.bad), (20, AV.bad), (21, AV.bad), (22, AV.bad), (25, AV.bad), (55, AV.bad), (63, AV.bad), (71, AV.bad), (72, AV.bad), (92, AV.bad), (114, AV.bad), (134, AV.bad), (144, AV.bad), (154, AV.bad), (168, AV.bad), (197, AV.bad), (199, AV.bad), (256, AV.bad), (264, AV.bad), (299, AV.bad)] [] (PH s109 s117) false) k)))))
 (False))
 (False))
 (False))
 (False))
 (False))
 (False))
 (False))
 (False)))))))))))
 (False))
 (False))
 (False))))))
 (cond (AV.toInt (AV.int IntKind.i64 (AV.toInt (AV.part (Option.getD (row encSt l)[Int.toNat i]? AV.bad) 0))) == 6)
 (∃ (fs123 : List Fr),
 ∃ (hand124 : Int),
 ∃ (a125 : Int),
 And ([AV.ptr (Pl.mk 0 0 [] 2), AV.int IntKind.i64 (AV.toInt (AV.int IntKind.i64 (AV.toInt (AV.part (Option.getD (row encSt l)[Int.toNat i]? AV.bad) 1))))] = [AV.ptr (Pl.mk 0 0 [] 2), AV.int IntKind.i64 a125])
 (And (CH s.1 s.2 = CH fs123 hand124)
 (∃ (fs126 : List Fr),
 ∃ (a127 : Int),
 And ([AV.ptr (Pl.mk 0 0 [] 2), AV.int IntKind.i64 (AV.toInt (AV.int IntKind.i64 (AV.toInt (AV.part (Option.getD (row encSt l)[Int.toNat i]? AV.bad) 1))))] = [AV.ptr (Pl.mk 0 0 [] 2), AV.int IntKind.i64 a127])
 (And (CR (List.length r.1) 0 (row encR r.1) = CR (List.length fs126) 0 (row encR fs126))
 (cond (AV.beq (AV.int IntKind.i64 (AV.toInt (AV.part (Option.getD (row encSt l)[Int.toNat i]? AV.bad) 1))) (AV.int IntKind.i64 (AV.toInt (AV.int IntKind.i64 (AV.toInt (AV.part (Option.getD (row encSt l)[Int.toNat i]? AV.bad) 1))))))
 (cond (AV.beq (AV.int IntKind.i64 (AV.toInt (AV.part (Option.getD (row encSt l)[Int.toNat i]? AV.bad) 1))) (AV.int IntKind.i64 (AV.toInt (AV.int IntKind.i64 (AV.toInt (AV.part (Option.getD (row encSt l)[Int.toNat i]? AV.bad) 1))))))
 (cond (AV.beq (AV.int IntKind.i64 (AV.toInt (AV.part (Option.getD (row encSt l)[Int.toNat i]? AV.bad) 1))) (AV.int IntKind.i64 (AV.toInt (AV.int IntKind.i64 (AV.toInt (AV.part (Option.getD (row encSt l)[Int.toNat i]? AV.bad) 1))))))
 (cond (!Option.isSome (pinF fs123 a125 false) == Option.isSome (pinG fs126 a127 false))
 (k (AV.bool false) [] false)
 (∃ (s128 : FS),
 And ([AV.ptr (Pl.mk 0 0 [] 3)] = [AV.ptr (Pl.mk 0 0 [] 3)])
 (And (FH
 (FS.mk
 (match pinF fs123 a125 false with
 | some x => x
 | none => fs123)
 hand124 s.3 s.4) =
 FH s128)
 (And (OkS s128)
 (And ((sortZ (dirties s128) = []) →
 ∃ (s129 : RS),
 And ([AV.ptr (Pl.mk 0 0 [] 2)] = [AV.ptr (Pl.mk 0 0 [] 2)])
 (And (GH
 (RS.mk
 (match pinG fs126 a127 false with
 | some x => x
 | none => fs126)
 r.2) =
 GH s129)
 (And (OkG s129)
 (And ((gdirts s129 = []) →
 ∃ (l130 : List Int),
 ∃ (m131 : List Int),
 And ([AV.nils, AV.nils] = [numsAV l130, numsAV m131])
 (And (([] : Heap) = [])
 (And (List.length l130 < 5000)
 (cond (!decide (l130 = m131))
 (k (AV.bool false) [] false)
 (resPS (S F) (T6 F) N 9 fuel 6 2 0 [(p7, fuel)] p6 n (St.mk [(0, AV.bad), (1, AV.isl 6 (row encSt l)), (4, AV.bad), (5, AV.ptr (Pl.mk 4 0 [] 3)), (6, AV.bad), (7, AV.ptr (Pl.mk 9 0 [] 2)), (8, AV.bad), (9, AV.int IntKind.i64 i), (10, AV.bad), (11, AV.bad), (12, AV.bad), (13, AV.bad), (14, AV.bad), (15, AV.bad), (16, AV.int IntKind.i64 0), (17, AV.bad), (18, AV.bad), (19, AV.bad), (20, AV.bad), (21, AV.bad), (22, AV.bad), (25, AV.bad), (55, AV.bad), (63, AV.bad), (71, AV.bad), (72, AV.bad), (92, AV.bad), (114, AV.bad), (134, AV.bad), (144, AV.bad), (154, AV.bad), (168, AV.bad), (197, AV.bad), (199, AV.bad), (256, AV.bad), (264, AV.bad), (299, AV.bad)] [] (PH (FS.mk (match pinF fs123 a125 false with | some x => x | none => fs123) hand124 s.3 s.4) (RS.mk (match pinG fs126 a127 false with | some x => x | none => fs126) r.2)) false) k)))))
 (∀ (l132 : List Int),
 (l132 = gdirts s129) →
 (l132 ≠ []) →
 cond (decide (AV.flatLen (AV.arr 1 (row encZ l132)) = List.length l132))
 (cond (decide (List.length (row encZ l132) = List.length l132))
 (cond (decide (0 + List.length l132 ≤ List.length l132))
 (cond (reflessL (List.take (List.length l132) (List.drop 0 (row encZ l132))) && true)
 (∃ (l133 : List Int),
 ∃ (m134 : List Int),
 And ([AV.nils, AV.isl 1 (List.take (List.length l132) (List.drop 0 (row encZ l132)))] = [numsAV l133, numsAV m134])
 (And (([] : Heap) = [])
 (And (List.length l133 < 5000)
 (cond (!decide (l133 = m134))
 (k (AV.bool false) [] false)
 (resPS (S F) (T6 F) N 9 fuel 6 2 0 [(p7, fuel)] p6 n (St.mk [(0, AV.bad), (1, AV.isl 6 (row encSt l)), (4, AV.bad), (5, AV.ptr (Pl.mk 4 0 [] 3)), (6, AV.bad), (7, AV.ptr (Pl.mk 9 0 [] 2)), (8, AV.bad), (9, AV.int IntKind.i64 i), (10, AV.bad), (11, AV.bad), (12, AV.bad), (13, AV.bad), (14, AV.bad), (15, AV.bad), (16, AV.int IntKind.i64 0), (17, AV.bad), (18, AV.bad), (19, AV.bad), (20, AV.bad), (21, AV.bad), (22, AV.bad), (25, AV.bad), (55, AV.bad), (63, AV.bad), (71, AV.bad), (72, AV.bad), (92, AV.bad), (114, AV.bad), (134, AV.bad), (144, AV.bad), (154, AV.bad), (168, AV.bad), (197, AV.bad), (199, AV.bad), (256, AV.bad), (264, AV.bad), (299, AV.bad)] [] (PH (FS.mk (match pinF fs123 a125 false with | some x => x | none => fs123) hand124 s.3 s.4) s129) false) k)))))
 (False))
 (False))
 (False))
 (False))))))
 (∀ (l135 : List Int),
 (l135 = sortZ (dirties s128)) →
 (l135 ≠ []) →
 ∃ (s136 : RS),
 And ([AV.ptr (Pl.mk 0 0 [] 2)] = [AV.ptr (Pl.mk 0 0 [] 2)])
 (And (GH
 (RS.mk
 (match pinG fs126 a127 false with
 | some x => x
 | none => fs126)
 r.2) =
 GH s136)
 (And (OkG s136)
 (And ((gdirts s136 = []) →
 cond (decide (AV.flatLen (AV.arr 1 (row encZ l135)) = List.length l135))
 (cond (decide (List.length (row encZ l135) = List.length l135))
 (cond (decide (0 + List.length l135 ≤ List.length l135))
 (cond (reflessL (List.take (List.length l135) (List.drop 0 (row encZ l135))) && true)
 (∃ (l137 : List Int),
 ∃ (m138 : List Int),
 And ([AV.isl 1 (List.take (List.length l135) (List.drop 0 (row encZ l135))), AV.nils] = [numsAV l137, numsAV m138])
 (And (([] : Heap) = [])
 (And (List.length l137 < 5000)
 (cond (!decide (l137 = m138))
 (k (AV.bool false) [] false)
 (resPS (S F) (T6 F) N 9 fuel 6 2 0 [(p7, fuel)] p6 n (St.mk [(0, AV.bad), (1, AV.isl 6 (row encSt l)), (4, AV.bad), (5, AV.ptr (Pl.mk 4 0 [] 3)), (6, AV.bad), (7, AV.ptr (Pl.mk 9 0 [] 2)), (8, AV.bad), (9, AV.int IntKind.i64 i), (10, AV.bad), (11, AV.bad), (12, AV.bad), (13, AV.bad), (14, AV.bad), (15, AV.bad), (16, AV.int IntKind.i64 0), (17, AV.bad), (18, AV.bad), (19, AV.bad), (20, AV.bad), (21, AV.bad), (22, AV.bad), (25, AV.bad), (55, AV.bad), (63, AV.bad), (71, AV.bad), (72, AV.bad), (92, AV.bad), (114, AV.bad), (134, AV.bad), (144, AV.bad), (154, AV.bad), (168, AV.bad), (197, AV.bad), (199, AV.bad), (256, AV.bad), (264, AV.bad), (299, AV.bad)] [] (PH s128 (RS.mk (match pinG fs126 a127 false with | some x => x | none => fs126) r.2)) false) k)))))
 (False))
 (False))
 (False))
 (False))
 (∀ (l139 : List Int),
 (l139 = gdirts s136) →
 (l139 ≠ []) →
 cond (decide (AV.flatLen (AV.arr 1 (row encZ l135)) = List.length l135))
 (cond (decide (List.length (row encZ l135) = List.length l135))
 (cond (decide (0 + List.length l135 ≤ List.length l135))
 (cond (reflessL (List.take (List.length l135) (List.drop 0 (row encZ l135))) && true)
 (cond (decide (AV.flatLen (AV.arr 1 (row encZ l139)) = List.length l139))
 (cond (decide (List.length (row encZ l139) = List.length l139))
 (cond (decide (0 + List.length l139 ≤ List.length l139))
 (cond (reflessL (List.take (List.length l139) (List.drop 0 (row encZ l139))) && true)
 (∃ (l140 : List Int),
 ∃ (m141 : List Int),
 And ([AV.isl 1 (List.take (List.length l135) (List.drop 0 (row encZ l135))), AV.isl 1 (List.take (List.length l139) (List.drop 0 (row encZ l139)))] = [numsAV l140, numsAV m141])
 (And (([] : Heap) = [])
 (And (List.length l140 < 5000)
 (cond (!decide (l140 = m141))
 (k (AV.bool false) [] false)
 (resPS (S F) (T6 F) N 9 fuel 6 2 0 [(p7, fuel)] p6 n (St.mk [(0, AV.bad), (1, AV.isl 6 (row encSt l)), (4, AV.bad), (5, AV.ptr (Pl.mk 4 0 [] 3)), (6, AV.bad), (7, AV.ptr (Pl.mk 9 0 [] 2)), (8, AV.bad), (9, AV.int IntKind.i64 i), (10, AV.bad), (11, AV.bad), (12, AV.bad), (13, AV.bad), (14, AV.bad), (15, AV.bad), (16, AV.int IntKind.i64 0), (17, AV.bad), (18, AV.bad), (19, AV.bad), (20, AV.bad), (21, AV.bad), (22, AV.bad), (25, AV.bad), (55, AV.bad), (63, AV.bad), (71, AV.bad), (72, AV.bad), (92, AV.bad), (114, AV.bad), (134, AV.bad), (144, AV.bad), (154, AV.bad), (168, AV.bad), (197, AV.bad), (199, AV.bad), (256, AV.bad), (264, AV.bad), (299, AV.bad)] [] (PH s128 s136) false) k)))))
 (False))
 (False))
 (False))
 (False))
 (False))
 (False))
 (False))
 (False)))))))))))
 (False))
 (False))
 (False))))))
 (∃ (s142 : FS),
 And ([AV.ptr (Pl.mk 0 0 [] 3)] = [AV.ptr (Pl.mk 0 0 [] 3)])
 (And (FH s = FH s142)
 (And (OkS s142)
 (And ((sortZ (dirties s142) = []) →
 ∃ (s143 : RS),
 And ([AV.ptr (Pl.mk 0 0 [] 2)] = [AV.ptr (Pl.mk 0 0 [] 2)])
 (And (GH r = GH s143)
 (And (OkG s143)
 (And ((gdirts s143 = []) →
 ∃ (l144 : List Int),
 ∃ (m145 : List Int),
 And ([AV.nils, AV.nils] = [numsAV l144, numsAV m145])
 (And (([] : Heap) = [])
 (And (List.length l144 < 5000)
 (cond (!decide (l144 = m145))
 (k (AV.bool false) [] false)
 (resPS (S F) (T6 F) N 9 fuel 6 2 0 [(p7, fuel)] p6 n (St.mk [(0, AV.bad), (1, AV.isl 6 (row encSt l)), (4, AV.bad), (5, AV.ptr (Pl.mk 4 0 [] 3)), (6, AV.bad), (7, AV.ptr (Pl.mk 9 0 [] 2)), (8, AV.bad), (9, AV.int IntKind.i64 i), (10, AV.bad), (11, AV.bad), (12, AV.bad), (13, AV.bad), (14, AV.bad), (15, AV.bad), (16, AV.int IntKind.i64 0), (17, AV.bad), (18, AV.bad), (19, AV.bad), (20, AV.bad), (21, AV.bad), (22, AV.bad), (25, AV.bad), (55, AV.bad), (63, AV.bad), (71, AV.bad), (72, AV.bad), (92, AV.bad), (114, AV.bad), (134, AV.bad), (144, AV.bad), (154, AV.bad), (168, AV.bad), (197, AV.bad), (199, AV.bad), (256, AV.bad), (264, AV.bad), (299, AV.bad)] [] (PH s r) false) k)))))
 (∀ (l146 : List Int),
 (l146 = gdirts s143) →
 (l146 ≠ []) →
 cond (decide (AV.flatLen (AV.arr 1 (row encZ l146)) = List.length l146))
 (cond (decide (List.length (row encZ l146) = List.length l146))
 (cond (decide (0 + List.length l146 ≤ List.length l146))
 (cond (reflessL (List.take (List.length l146) (List.drop 0 (row encZ l146))) && true)
 (∃ (l147 : List Int),
 ∃ (m148 : List Int),
 And ([AV.nils, AV.isl 1 (List.take (List.length l146) (List.drop 0 (row encZ l146)))] = [numsAV l147, numsAV m148])
 (And (([] : Heap) = [])
 (And (List.length l147 < 5000)
 (cond (!decide (l147 = m148))
 (k (AV.bool false) [] false)
 (resPS (S F) (T6 F) N 9 fuel 6 2 0 [(p7, fuel)] p6 n (St.mk [(0, AV.bad), (1, AV.isl 6 (row encSt l)), (4, AV.bad), (5, AV.ptr (Pl.mk 4 0 [] 3)), (6, AV.bad), (7, AV.ptr (Pl.mk 9 0 [] 2)), (8, AV.bad), (9, AV.int IntKind.i64 i), (10, AV.bad), (11, AV.bad), (12, AV.bad), (13, AV.bad), (14, AV.bad), (15, AV.bad), (16, AV.int IntKind.i64 0), (17, AV.bad), (18, AV.bad), (19, AV.bad), (20, AV.bad), (21, AV.bad), (22, AV.bad), (25, AV.bad), (55, AV.bad), (63, AV.bad), (71, AV.bad), (72, AV.bad), (92, AV.bad), (114, AV.bad), (134, AV.bad), (144, AV.bad), (154, AV.bad), (168, AV.bad), (197, AV.bad), (199, AV.bad), (256, AV.bad), (264, AV.bad), (299, AV.bad)] [] (PH s s143) false) k)))))
 (False))
 (False))
 (False))
 (False))))))
 (∀ (l149 : List Int),
 (l149 = sortZ (dirties s142)) →
 (l149 ≠ []) →
 ∃ (s150 : RS),
 And ([AV.ptr (Pl.mk 0 0 [] 2)] = [AV.ptr (Pl.mk 0 0 [] 2)])
 (And (GH r = GH s150)
 (And (OkG s150)
 (And ((gdirts s150 = []) →
 cond (decide (AV.flatLen (AV.arr 1 (row encZ l149)) = List.length l149))
 (cond (decide (List.length (row encZ l149) = List.length l149))
 (cond (decide (0 + List.length l149 ≤ List.length l149))
 (cond (reflessL (List.take (List.length l149) (List.drop 0 (row encZ l149))) && true)
 (∃ (l151 : List Int),
 ∃ (m152 : List Int),
 And ([AV.isl 1 (List.take (List.length l149) (List.drop 0 (row encZ l149))), AV.nils] = [numsAV l151, numsAV m152])
 (And (([] : Heap) = [])
 (And (List.length l151 < 5000)
 (cond (!decide (l151 = m152))
 (k (AV.bool false) [] false)
 (resPS (S F) (T6 F) N 9 fuel 6 2 0 [(p7, fuel)] p6 n (St.mk [(0, AV.bad), (1, AV.isl 6 (row encSt l)), (4, AV.bad), (5, AV.ptr (Pl.mk 4 0 [] 3)), (6, AV.bad), (7, AV.ptr (Pl.mk 9 0 [] 2)), (8, AV.bad), (9, AV.int IntKind.i64 i), (10, AV.bad), (11, AV.bad), (12, AV.bad), (13, AV.bad), (14, AV.bad), (15, AV.bad), (16, AV.int IntKind.i64 0), (17, AV.bad), (18, AV.bad), (19, AV.bad), (20, AV.bad), (21, AV.bad), (22, AV.bad), (25, AV.bad), (55, AV.bad), (63, AV.bad), (71, AV.bad), (72, AV.bad), (92, AV.bad), (114, AV.bad), (134, AV.bad), (144, AV.bad), (154, AV.bad), (168, AV.bad), (197, AV.bad), (199, AV.bad), (256, AV.bad), (264, AV.bad), (299, AV.bad)] [] (PH s142 r) false) k)))))
 (False))
 (False))
 (False))
 (False))
 (∀ (l153 : List Int),
 (l153 = gdirts s150) →
 (l153 ≠ []) →
 cond (decide (AV.flatLen (AV.arr 1 (row encZ l149)) = List.length l149))
 (cond (decide (List.length (row encZ l149) = List.length l149))
 (cond (decide (0 + List.length l149 ≤ List.length l149))
 (cond (reflessL (List.take (List.length l149) (List.drop 0 (row encZ l149))) && true)
 (cond (decide (AV.flatLen (AV.arr 1 (row encZ l153)) = List.length l153))
 (cond (decide (List.length (row encZ l153) = List.length l153))
 (cond (decide (0 + List.length l153 ≤ List.length l153))
 (cond (reflessL (List.take (List.length l153) (List.drop 0 (row encZ l153))) && true)
 (∃ (l154 : List Int),
 ∃ (m155 : List Int),
 And ([AV.isl 1 (List.take (List.length l149) (List.drop 0 (row encZ l149))), AV.isl 1 (List.take (List.length l153) (List.drop 0 (row encZ l153)))] = [numsAV l154, numsAV m155])
 (And (([] : Heap) = [])
 (And (List.length l154 < 5000)
 (cond (!decide (l154 = m155))
 (k (AV.bool false) [] false)
 (resPS (S F) (T6 F) N 9 fuel 6 2 0 [(p7, fuel)] p6 n (St.mk [(0, AV.bad), (1, AV.isl 6 (row encSt l)), (4, AV.bad), (5, AV.ptr (Pl.mk 4 0 [] 3)), (6, AV.bad), (7, AV.ptr (Pl.mk 9 0 [] 2)), (8, AV.bad), (9, AV.int IntKind.i64 i), (10, AV.bad), (11, AV.bad), (12, AV.bad), (13, AV.bad), (14, AV.bad), (15, AV.bad), (16, AV.int IntKind.i64 0), (17, AV.bad), (18, AV.bad), (19, AV.bad), (20, AV.bad), (21, AV.bad), (22, AV.bad), (25, AV.bad), (55, AV.bad), (63, AV.bad), (71, AV.bad), (72, AV.bad), (92, AV.bad), (114, AV.bad), (134, AV.bad), (144, AV.bad), (154, AV.bad), (168, AV.bad), (197, AV.bad), (199, AV.bad), (256, AV.bad), (264, AV.bad), (299, AV.bad)] [] (PH s142 s150) false) k)))))
 (False))
 (False))
 (False))
 (False))
 (False))
 (False))
 (False))
 (False)))))))))))))))))
 (cond (AV.isIslN (AV.part (Option.getD (row encSt l)[Int.toNat i]? AV.bad) 5) 1)
 (cond (AV.toInt (AV.int IntKind.i64 (AV.toInt (AV.part (Option.getD (row encSt l)[Int.toNat i]? AV.bad) 0))) == 0)
 (∃ (v156 : Int),
 And ([AV.int IntKind.u8 (AV.toInt (AV.int IntKind.u8 (AV.toInt (AV.part (Option.getD (row encSt l)[Int.toNat i]? AV.bad) 4))))] = [AV.int IntKind.u8 v156])
 (And (([] : Heap) = [])
 (∃ (s157 : FS),
 ∃ (fr158 : Int),
 ∃ (a159 : Int),
 ∃ (p160 : Ar 32),
 And ([AV.ptr (Pl.mk 0 0 [] 3), AV.int IntKind.i64 (AV.toInt (AV.int IntKind.i64 (AV.toInt (AV.part (Option.getD (row encSt l)[Int.toNat i]? AV.bad) 1)))), AV.int IntKind.i64 (AV.toInt (AV.int IntKind.i64 (AV.toInt (AV.part (Option.getD (row encSt l)[Int.toNat i]? AV.bad) 2)))), AV.arr 1 (encL IntKind.u8 32 (leafA v156).1)] = [AV.ptr (Pl.mk 0 0 [] 3), AV.int IntKind.i64 fr158, AV.int IntKind.i64 a159, encA IntKind.u8 p160])
 (And (FH s = FH s157)
 (And (OkS s157)
 (∃ (v161 : Int),
 And ([AV.int IntKind.u8 (AV.toInt (AV.int IntKind.u8 (AV.toInt (AV.part (Option.getD (row encSt l)[Int.toNat i]? AV.bad) 4))))] = [AV.int IntKind.u8 v161])
 (And (([] : Heap) = [])
 (∃ (s162 : RS),
 ∃ (fr163 : Int),
 ∃ (a164 : Int),
 ∃ (p165 : Ar 32),
 And ([AV.ptr (Pl.mk 0 0 [] 2), AV.int IntKind.i64 (AV.toInt (AV.int IntKind.i64 (AV.toInt (AV.part (Option.getD (row encSt l)[Int.toNat i]? AV.bad) 1)))), AV.int IntKind.i64 (AV.toInt (AV.int IntKind.i64 (AV.toInt (AV.part (Option.getD (row encSt l)[Int.toNat i]? AV.bad) 2)))), AV.arr 1 (encL IntKind.u8 32 (leafA v161).1)] = [AV.ptr (Pl.mk 0 0 [] 2), AV.int IntKind.i64 fr163, AV.int IntKind.i64 a164, encA IntKind.u8 p165])
 (And (GH r = GH s162)
 (And (OkG s162)
 (cond (AV.beq (AV.int IntKind.i64 (AV.toInt (AV.part (Option.getD (row encSt l)[Int.toNat i]? AV.bad) 1))) (AV.int IntKind.i64 (AV.toInt (AV.int IntKind.i64 (AV.toInt (AV.part (Option.getD (row encSt l)[Int.toNat i]? AV.bad) 1))))))
 (cond (AV.beq (AV.int IntKind.i64 (AV.toInt (AV.part (Option.getD (row encSt l)[Int.toNat i]? AV.bad) 2))) (AV.int IntKind.i64 (AV.toInt (AV.int IntKind.i64 (AV.toInt (AV.part (Option.getD (row encSt l)[Int.toNat i]? AV.bad) 2))))))
 (cond (AV.beq (AV.int IntKind.i64 (AV.toInt (AV.part (Option.getD (row encSt l)[Int.toNat i]? AV.bad) 1))) (AV.int IntKind.i64 (AV.toInt (AV.int IntKind.i64 (AV.toInt (AV.part (Option.getD (row encSt l)[Int.toNat i]? AV.bad) 1))))))
 (cond (AV.beq (AV.int IntKind.i64 (AV.toInt (AV.part (Option.getD (row encSt l)[Int.toNat i]? AV.bad) 1))) (AV.int IntKind.i64 (AV.toInt (AV.int IntKind.i64 (AV.toInt (AV.part (Option.getD (row encSt l)[Int.toNat i]? AV.bad) 1))))))
 (cond (AV.beq (AV.int IntKind.i64 (AV.toInt (AV.part (Option.getD (row encSt l)[Int.toNat i]? AV.bad) 1))) (AV.int IntKind.i64 (AV.toInt (AV.int IntKind.i64 (AV.toInt (AV.part (Option.getD (row encSt l)[Int.toNat i]? AV.bad) 1))))))
 (cond (AV.beq (AV.int IntKind.i64 (AV.toInt (AV.part (Option.getD (row encSt l)[Int.toNat i]? AV.bad) 2))) (AV.int IntKind.i64 (AV.toInt (AV.int IntKind.i64 (AV.toInt (AV.part (Option.getD (row encSt l)[Int.toNat i]? AV.bad) 2))))))
 (cond (AV.beq (AV.int IntKind.i64 (AV.toInt (AV.part (Option.getD (row encSt l)[Int.toNat i]? AV.bad) 2))) (AV.int IntKind.i64 (AV.toInt (AV.int IntKind.i64 (AV.toInt (AV.part (Option.getD (row encSt l)[Int.toNat i]? AV.bad) 2))))))
 (cond (AV.beq (AV.int IntKind.i64 (AV.toInt (AV.part (Option.getD (row encSt l)[Int.toNat i]? AV.bad) 2))) (AV.int IntKind.i64 (AV.toInt (AV.int IntKind.i64 (AV.toInt (AV.part (Option.getD (row encSt l)[Int.toNat i]? AV.bad) 2))))))
 (cond (AV.beq (AV.int IntKind.u8 (AV.toInt (AV.part (Option.getD (row encSt l)[Int.toNat i]? AV.bad) 4))) (AV.int IntKind.u8 (AV.toInt (AV.int IntKind.u8 (AV.toInt (AV.part (Option.getD (row encSt l)[Int.toNat i]? AV.bad) 4))))))
 (cond (AV.beq (AV.int IntKind.u8 (AV.toInt (AV.part (Option.getD (row encSt l)[Int.toNat i]? AV.bad) 4))) (AV.int IntKind.u8 (AV.toInt (AV.int IntKind.u8 (AV.toInt (AV.part (Option.getD (row encSt l)[Int.toNat i]? AV.bad) 4))))))
 (cond (!Option.isSome (holdR s157 fr158 a159 p160) == Option.isSome (holdPG s162 fr163 a164 p165))
 (k (AV.bool false) [] false)
 (∃ (s166 : FS),
 And ([AV.ptr (Pl.mk 0 0 [] 3)] = [AV.ptr (Pl.mk 0 0 [] 3)])
 (And (FH (Option.getD (holdR s157 fr158 a159 p160) s157) = FH s166)
 (And (OkS s166)
 (And ((sortZ (dirties s166) = []) →
 ∃ (s167 : RS),
 And ([AV.ptr (Pl.mk 0 0 [] 2)] = [AV.ptr (Pl.mk 0 0 [] 2)])
 (And (GH (Option.getD (holdPG s162 fr163 a164 p165) s162) = GH s167)
 (And (OkG s167)
 (And ((gdirts s167 = []) →
 ∃ (l168 : List Int),
 ∃ (m169 : List Int),
 And ([AV.nils, AV.nils] = [numsAV l168, numsAV m169])
 (And (([] : Heap) = [])
 (And (List.length l168 < 5000)
 (cond (!decide (l168 = m169))
 (k (AV.bool false) [] false)
 (resPS (S F) (T6 F) N 9 fuel 6 2 0 [(p7, fuel)] p6 n (St.mk [(0, AV.bad), (1, AV.isl 6 (row encSt l)), (4, AV.bad), (5, AV.ptr (Pl.mk 4 0 [] 3)), (6, AV.bad), (7, AV.ptr (Pl.mk 9 0 [] 2)), (8, AV.bad), (9, AV.int IntKind.i64 i), (10, AV.bad), (11, AV.bad), (12, AV.bad), (13, AV.bad), (14, AV.bad), (15, AV.bad), (16, AV.int IntKind.i64 0), (17, AV.bad), (18, AV.bad), (19, AV.bad), (20, AV.bad), (21, AV.bad), (22, AV.bad), (25, AV.bad), (55, AV.bad), (63, AV.bad), (71, AV.bad), (72, AV.bad), (92, AV.bad), (114, AV.bad), (134, AV.bad), (144, AV.bad), (154, AV.bad), (168, AV.bad), (197, AV.bad), (199, AV.bad), (256, AV.bad), (264, AV.bad), (299, AV.bad)] [] (PH (Option.getD (holdR s157 fr158 a159 p160) s157) (Option.getD (holdPG s162 fr163 a164 p165) s162)) false) k)))))
 (∀ (l170 : List Int),
 (l170 = gdirts s167) →
 (l170 ≠ []) →
 cond (decide (AV.flatLen (AV.arr 1 (row encZ l170)) = List.length l170))
 (cond (decide (List.length (row encZ l170) = List.length l170))
 (cond (decide (0 + List.length l170 ≤ List.length l170))
 (cond (reflessL (List.take (List.length l170) (List.drop 0 (row encZ l170))) && true)
 (∃ (l171 : List Int),
 ∃ (m172 : List Int),
 And ([AV.nils, AV.isl 1 (List.take (List.length l170) (List.drop 0 (row encZ l170)))] = [numsAV l171, numsAV m172])
 (And (([] : Heap) = [])
 (And (List.length l171 < 5000)
 (cond (!decide (l171 = m172))
 (k (AV.bool false) [] false)
 (resPS (S F) (T6 F) N 9 fuel 6 2 0 [(p7, fuel)] p6 n (St.mk [(0, AV.bad), (1, AV.isl 6 (row encSt l)), (4, AV.bad), (5, AV.ptr (Pl.mk 4 0 [] 3)), (6, AV.bad), (7, AV.ptr (Pl.mk 9 0 [] 2)), (8, AV.bad), (9, AV.int IntKind.i64 i), (10, AV.bad), (11, AV.bad), (12, AV.bad), (13, AV.bad), (14, AV.bad), (15, AV.bad), (16, AV.int IntKind.i64 0), (17, AV.bad), (18, AV.bad), (19, AV.bad), (20, AV.bad), (21, AV.bad), (22, AV.bad), (25, AV.bad), (55, AV.bad), (63, AV.bad), (71, AV.bad), (72, AV.bad), (92, AV.bad), (114, AV.bad), (134, AV.bad), (144, AV.bad), (154, AV.bad), (168, AV.bad), (197, AV.bad), (199, AV.bad), (256, AV.bad), (264, AV.bad), (299, AV.bad)] [] (PH (Option.getD (holdR s157 fr158 a159 p160) s157) s167) false) k)))))
 (False))
 (False))
 (False))
 (False))))))
 (∀ (l173 : List Int),
 (l173 = sortZ (dirties s166)) →
 (l173 ≠ []) →
 ∃ (s174 : RS),
 And ([AV.ptr (Pl.mk 0 0 [] 2)] = [AV.ptr (Pl.mk 0 0 [] 2)])
 (And (GH (Option.getD (holdPG s162 fr163 a164 p165) s162) = GH s174)
 (And (OkG s174)
 (And ((gdirts s174 = []) →
 cond (decide (AV.flatLen (AV.arr 1 (row encZ l173)) = List.length l173))
 (cond (decide (List.length (row encZ l173) = List.length l173))
 (cond (decide (0 + List.length l173 ≤ List.length l173))
 (cond (reflessL (List.take (List.length l173) (List.drop 0 (row encZ l173))) && true)
 (∃ (l175 : List Int),
 ∃ (m176 : List Int),
 And ([AV.isl 1 (List.take (List.length l173) (List.drop 0 (row encZ l173))), AV.nils] = [numsAV l175, numsAV m176])
 (And (([] : Heap) = [])
 (And (List.length l175 < 5000)
 (cond (!decide (l175 = m176))
 (k (AV.bool false) [] false)
 (resPS (S F) (T6 F) N 9 fuel 6 2 0 [(p7, fuel)] p6 n (St.mk [(0, AV.bad), (1, AV.isl 6 (row encSt l)), (4, AV.bad), (5, AV.ptr (Pl.mk 4 0 [] 3)), (6, AV.bad), (7, AV.ptr (Pl.mk 9 0 [] 2)), (8, AV.bad), (9, AV.int IntKind.i64 i), (10, AV.bad), (11, AV.bad), (12, AV.bad), (13, AV.bad), (14, AV.bad), (15, AV.bad), (16, AV.int IntKind.i64 0), (17, AV.bad), (18, AV.bad), (19, AV.bad), (20, AV.bad), (21, AV.bad), (22, AV.bad), (25, AV.bad), (55, AV.bad), (63, AV.bad), (71, AV.bad), (72, AV.bad), (92, AV.bad), (114, AV.bad), (134, AV.bad), (144, AV.bad), (154, AV.bad), (168, AV.bad), (197, AV.bad), (199, AV.bad), (256, AV.bad), (264, AV.bad), (299, AV.bad)] [] (PH s166 (Option.getD (holdPG s162 fr163 a164 p165) s162)) false) k)))))
 (False))
 (False))
 (False))
 (False))
 (∀ (l177 : List Int),
 (l177 = gdirts s174) →
 (l177 ≠ []) →
 cond (decide (AV.flatLen (AV.arr 1 (row encZ l173)) = List.length l173))
 (cond (decide (List.length (row encZ l173) = List.length l173))
 (cond (decide (0 + List.length l173 ≤ List.length l173))
 (cond (reflessL (List.take (List.length l173) (List.drop 0 (row encZ l173))) && true)
 (cond (decide (AV.flatLen (AV.arr 1 (row encZ l177)) = List.length l177))
 (cond (decide (List.length (row encZ l177) = List.length l177))
 (cond (decide (0 + List.length l177 ≤ List.length l177))
 (cond (reflessL (List.take (List.length l177) (List.drop 0 (row encZ l177))) && true)
 (∃ (l178 : List Int),
 ∃ (m179 : List Int),
 And ([AV.isl 1 (List.take (List.length l173) (List.drop 0 (row encZ l173))), AV.isl 1 (List.take (List.length l177) (List.drop 0 (row encZ l177)))] = [numsAV l178, numsAV m179])
 (And (([] : Heap) = [])
 (And (List.length l178 < 5000)
 (cond (!decide (l178 = m179))
 (k (AV.bool false) [] false)
 (resPS (S F) (T6 F) N 9 fuel 6 2 0 [(p7, fuel)] p6 n (St.mk [(0, AV.bad), (1, AV.isl 6 (row encSt l)), (4, AV.bad), (5, AV.ptr (Pl.mk 4 0 [] 3)), (6, AV.bad), (7, AV.ptr (Pl.mk 9 0 [] 2)), (8, AV.bad), (9, AV.int IntKind.i64 i), (10, AV.bad), (11, AV.bad), (12, AV.bad), (13, AV.bad), (14, AV.bad), (15, AV.bad), (16, AV.int IntKind.i64 0), (17, AV.bad), (18, AV.bad), (19, AV.bad), (20, AV.bad), (21, AV.bad), (22, AV.bad), (25, AV.bad), (55, AV.bad), (63, AV.bad), (71, AV.bad), (72, AV.bad), (92, AV.bad), (114, AV.bad), (134, AV.bad), (144, AV.bad), (154, AV.bad), (168, AV.bad), (197, AV.bad), (199, AV.bad), (256, AV.bad), (264, AV.bad), (299, AV.bad)] [] (PH s166 s174) false) k)))))
 (False))
 (False))
 (False))
 (False))
 (False))
 (False))
 (False))
 (False)))))))))))
 (False))
 (False))
 (False))
 (False))
 (False))
 (False))
 (False))
 (False))
 (False))
 (False))))))))))))
 (cond (AV.toInt (AV.int IntKind.i64 (AV.toInt (AV.part (Option.getD (row encSt l)[Int.toNat i]? AV.bad) 0))) == 1)
 (∃ (s180 : FS),
 ∃ (fr181 : Int),
 ∃ (a182 : Int),
 ∃ (p183 : Ar 8),
 And ([AV.ptr (Pl.mk 0 0 [] 3), AV.int IntKind.i64 (AV.toInt (AV.int IntKind.i64 (AV.toInt (AV.part (Option.getD (row encSt l)[Int.toNat i]? AV.bad) 1)))), AV.int IntKind.i64 (AV.toInt (AV.int IntKind.i64 (AV.toInt (AV.part (Option.getD (row encSt l)[Int.toNat i]? AV.bad) 2)))), AV.arr 1 (arI IntKind.i64 8 (AV.arr 1 (AV.int IntKind.i64 (IntKind.wrap IntKind.i64 (AV.toInt (AV.int IntKind.u8 (AV.toInt (AV.part (Option.getD (row encSt l)[Int.toNat i]? AV.bad) 4))))) :: AV.int IntKind.i64 (AV.toInt (AV.int IntKind.i64 (AV.toInt (AV.part (Option.getD (row encSt l)[Int.toNat i]? AV.bad) 3)))) :: encL IntKind.i64 6 fun (_i : Nat) => 0)))] = [AV.ptr (Pl.mk 0 0 [] 3), AV.int IntKind.i64 fr181, AV.int IntKind.i64 a182, encA IntKind.i64 p183])
 (And (FH s = FH s180)
 (And (OkS s180)
 (∃ (s184 : RS),
 ∃ (fr185 : Int),
 ∃ (a186 : Int),
 ∃ (p187 : Ar 8),
 And ([AV.ptr (Pl.mk 0 0 [] 2), AV.int IntKind.i64 (AV.toInt (AV.int IntKind.i64 (AV.toInt (AV.part (Option.getD (row encSt l)[Int.toNat i]? AV.bad) 1)))), AV.int IntKind.i64 (AV.toInt (AV.int IntKind.i64 (AV.toInt (AV.part (Option.getD (row encSt l)[Int.toNat i]? AV.bad) 2)))), AV.arr 1 (arI IntKind.i64 8 (AV.arr 1 (AV.int IntKind.i64 (IntKind.wrap IntKind.i64 (AV.toInt (AV.int IntKind.u8 (AV.toInt (AV.part (Option.getD (row encSt l)[Int.toNat i]? AV.bad) 4))))) :: AV.int IntKind.i64 (AV.toInt (AV.int IntKind.i64 (AV.toInt (AV.part (Option.getD (row encSt l)[Int.toNat i]? AV.bad) 3)))) :: encL IntKind.i64 6 fun (_i : Nat) => 0)))] = [AV.ptr (Pl.mk 0 0 [] 2), AV.int IntKind.i64 fr185, AV.int IntKind.i64 a186, encA IntKind.i64 p187])
 (And (GH r = GH s184)
 (And (OkG s184)
 (cond (AV.beq (AV.int IntKind.i64 (AV.toInt (AV.part (Option.getD (row encSt l)[Int.toNat i]? AV.bad) 1))) (AV.int IntKind.i64 (AV.toInt (AV.int IntKind.i64 (AV.toInt (AV.part (Option.getD (row encSt l)[Int.toNat i]? AV.bad) 1))))))
 (cond (AV.beq (AV.int IntKind.i64 (AV.toInt (AV.part (Option.getD (row encSt l)[Int.toNat i]? AV.bad) 2))) (AV.int IntKind.i64 (AV.toInt (AV.int IntKind.i64 (AV.toInt (AV.part (Option.getD (row encSt l)[Int.toNat i]? AV.bad) 2))))))
 (cond (AV.beq (AV.arr 1 (AV.int IntKind.i64 (IntKind.wrap IntKind.i64 (AV.toInt (AV.int IntKind.u8 (AV.toInt (AV.part (Option.getD (row encSt l)[Int.toNat i]? AV.bad) 4))))) :: AV.int IntKind.i64 (AV.toInt (AV.int IntKind.i64 (AV.toInt (AV.part (Option.getD (row encSt l)[Int.toNat i]? AV.bad) 3)))) :: encL IntKind.i64 6 fun (_i : Nat) => 0)) (AV.arr 1 (arI IntKind.i64 8 (AV.arr 1 (AV.int IntKind.i64 (IntKind.wrap IntKind.i64 (AV.toInt (AV.int IntKind.u8 (AV.toInt (AV.part (Option.getD (row encSt l)[Int.toNat i]? AV.bad) 4))))) :: AV.int IntKind.i64 (AV.toInt (AV.int IntKind.i64 (AV.toInt (AV.part (Option.getD (row encSt l)[Int.toNat i]? AV.bad) 3)))) :: encL IntKind.i64 6 fun (_i : Nat) => 0)))))
 (cond (!Option.isSome (holdMapR s180 fr181 a182 p183) == Option.isSome (holdMG s184 fr185 a186 p187))
 (k (AV.bool false) [] false)
 (∃ (s188 : FS),
 And ([AV.ptr (Pl.mk 0 0 [] 3)] = [AV.ptr (Pl.mk 0 0 [] 3)])
 (And (FH (Option.getD (holdMapR s180 fr181 a182 p183) s180) = FH s188)
 (And (OkS s188)
 (And ((sortZ (dirties s188) = []) →
 ∃ (s189 : RS),
 And ([AV.ptr (Pl.mk 0 0 [] 2)] = [AV.ptr (Pl.mk 0 0 [] 2)])
 (And (GH (Option.getD (holdMG s184 fr185 a186 p187) s184) = GH s189)
 (And (OkG s189)
 (And ((gdirts s189 = []) →
 ∃ (l190 : List Int),
 ∃ (m191 : List Int),
 And ([AV.nils, AV.nils] = [numsAV l190, numsAV m191])
 (And (([] : Heap) = [])
 (And (List.length l190 < 5000)
 (cond (!decide (l190 = m191))
 (k (AV.bool false) [] false)
 (resPS (S F) (T6 F) N 9 fuel 6 2 0 [(p7, fuel)] p6 n (St.mk [(0, AV.bad), (1, AV.isl 6 (row encSt l)), (4, AV.bad), (5, AV.ptr (Pl.mk 4 0 [] 3)), (6, AV.bad), (7, AV.ptr (Pl.mk 9 0 [] 2)), (8, AV.bad), (9, AV.int IntKind.i64 i), (10, AV.bad), (11, AV.bad), (12, AV.bad), (13, AV.bad), (14, AV.bad), (15, AV.bad), (16, AV.int IntKind.i64 0), (17, AV.bad), (18, AV.bad), (19, AV.bad), (20, AV.bad), (21, AV.bad), (22, AV.bad), (25, AV.bad), (55, AV.bad), (63, AV.bad), (71, AV.bad), (72, AV.bad), (92, AV.bad), (114, AV.bad), (134, AV.bad), (144, AV.bad), (154, AV.bad), (168, AV.bad), (197, AV.bad), (199, AV.bad), (256, AV.bad), (264, AV.bad), (299, AV.bad)] [] (PH (Option.getD (holdMapR s180 fr181 a182 p183) s180) (Option.getD (holdMG s184 fr185 a186 p187) s184)) false) k)))))
 (∀ (l192 : List Int),
 (l192 = gdirts s189) →
 (l192 ≠ []) →
 cond (decide (AV.flatLen (AV.arr 1 (row encZ l192)) = List.length l192))
 (cond (decide (List.length (row encZ l192) = List.length l192))
 (cond (decide (0 + List.length l192 ≤ List.length l192))
 (cond (reflessL (List.take (List.length l192) (List.drop 0 (row encZ l192))) && true)
 (∃ (l193 : List Int),
 ∃ (m194 : List Int),
 And ([AV.nils, AV.isl 1 (List.take (List.length l192) (List.drop 0 (row encZ l192)))] = [numsAV l193, numsAV m194])
 (And (([] : Heap) = [])
 (And (List.length l193 < 5000)
 (cond (!decide (l193 = m194))
 (k (AV.bool false) [] false)
 (resPS (S F) (T6 F) N 9 fuel 6 2 0 [(p7, fuel)] p6 n (St.mk [(0, AV.bad), (1, AV.isl 6 (row encSt l)), (4, AV.bad), (5, AV.ptr (Pl.mk 4 0 [] 3)), (6, AV.bad), (7, AV.ptr (Pl.mk 9 0 [] 2)), (8, AV.bad), (9, AV.int IntKind.i64 i), (10, AV.bad), (11, AV.bad), (12, AV.bad), (13, AV.bad), (14, AV.bad), (15, AV.bad), (16, AV.int IntKind.i64 0), (17, AV.bad), (18, AV.bad), (19, AV.bad), (20, AV.bad), (21, AV.bad), (22, AV.bad), (25, AV.bad), (55, AV.bad), (63, AV.bad), (71, AV.bad), (72, AV.bad), (92, AV.bad), (114, AV.bad), (134, AV.bad), (144, AV.bad), (154, AV.bad), (168, AV.bad), (197, AV.bad), (199, AV.bad), (256, AV.bad), (264, AV.bad), (299, AV.bad)] [] (PH (Option.getD (holdMapR s180 fr181 a182 p183) s180) s189) false) k)))))
 (False))
 (False))
 (False))
 (False))))))
 (∀ (l195 : List Int),
 (l195 = sortZ (dirties s188)) →
 (l195 ≠ []) →
 ∃ (s196 : RS),
 And ([AV.ptr (Pl.mk 0 0 [] 2)] = [AV.ptr (Pl.mk 0 0 [] 2)])
 (And (GH (Option.getD (holdMG s184 fr185 a186 p187) s184) = GH s196)
 (And (OkG s196)
 (And ((gdirts s196 = []) →
 cond (decide (AV.flatLen (AV.arr 1 (row encZ l195)) = List.length l195))
 (cond (decide (List.length (row encZ l195) = List.length l195))
 (cond (decide (0 + List.length l195 ≤ List.length l195))
 (cond (reflessL (List.take (List.length l195) (List.drop 0 (row encZ l195))) && true)
 (∃ (l197 : List Int),
 ∃ (m198 : List Int),
 And ([AV.isl 1 (List.take (List.length l195) (List.drop 0 (row encZ l195))), AV.nils] = [numsAV l197, numsAV m198])
 (And (([] : Heap) = [])
 (And (List.length l197 < 5000)
 (cond (!decide (l197 = m198))
 (k (AV.bool false) [] false)
 (resPS (S F) (T6 F) N 9 fuel 6 2 0 [(p7, fuel)] p6 n (St.mk [(0, AV.bad), (1, AV.isl 6 (row encSt l)), (4, AV.bad), (5, AV.ptr (Pl.mk 4 0 [] 3)), (6, AV.bad), (7, AV.ptr (Pl.mk 9 0 [] 2)), (8, AV.bad), (9, AV.int IntKind.i64 i), (10, AV.bad), (11, AV.bad), (12, AV.bad), (13, AV.bad), (14, AV.bad), (15, AV.bad), (16, AV.int IntKind.i64 0), (17, AV.bad), (18, AV.bad), (19, AV.bad), (20, AV.bad), (21, AV.bad), (22, AV.bad), (25, AV.bad), (55, AV.bad), (63, AV.bad), (71, AV.bad), (72, AV.bad), (92, AV.bad), (114, AV.bad), (134, AV.bad), (144, AV.bad), (154, AV.bad), (168, AV.bad), (197, AV.bad), (199, AV.bad), (256, AV.bad), (264, AV.bad), (299, AV.bad)] [] (PH s188 (Option.getD (holdMG s184 fr185 a186 p187) s184)) false) k)))))
 (False))
 (False))
 (False))
 (False))
 (∀ (l199 : List Int),
 (l199 = gdirts s196) →
 (l199 ≠ []) →
 cond (decide (AV.flatLen (AV.arr 1 (row encZ l195)) = List.length l195))
 (cond (decide (List.length (row encZ l195) = List.length l195))
 (cond (decide (0 + List.length l195 ≤ List.length l195))
 (cond (reflessL (List.take (List.length l195) (List.drop 0 (row encZ l195))) && true)
 (cond (decide (AV.flatLen (AV.arr 1 (row encZ l199)) = List.length l199))
 (cond (decide (List.length (row encZ l199) = List.length l199))
 (cond (decide (0 + List.length l199 ≤ List.length l199))
 (cond (reflessL (List.take (List.length l199) (List.drop 0 (row encZ l199))) && true)
 (∃ (l200 : List Int),
 ∃ (m201 : List Int),
 And ([AV.isl 1 (List.take (List.length l195) (List.drop 0 (row encZ l195))), AV.isl 1 (List.take (List.length l199) (List.drop 0 (row encZ l199)))] = [numsAV l200, numsAV m201])
 (And (([] : Heap) = [])
 (And (List.length l200 < 5000)
 (cond (!decide (l200 = m201))
 (k (AV.bool false) [] false)
 (resPS (S F) (T6 F) N 9 fuel 6 2 0 [(p7, fuel)] p6 n (St.mk [(0, AV.bad), (1, AV.isl 6 (row encSt l)), (4, AV.bad), (5, AV.ptr (Pl.mk 4 0 [] 3)), (6, AV.bad), (7, AV.ptr (Pl.mk 9 0 [] 2)), (8, AV.bad), (9, AV.int IntKind.i64 i), (10, AV.bad), (11, AV.bad), (12, AV.bad), (13, AV.bad), (14, AV.bad), (15, AV.bad), (16, AV.int IntKind.i64 0), (17, AV.bad), (18, AV.bad), (19, AV.bad), (20, AV.bad), (21, AV.bad), (22, AV.bad), (25, AV.bad), (55, AV.bad), (63, AV.bad), (71, AV.bad), (72, AV.bad), (92, AV.bad), (114, AV.bad), (134, AV.bad), (144, AV.bad), (154, AV.bad), (168, AV.bad), (197, AV.bad), (199, AV.bad), (256, AV.bad), (264, AV.bad), (299, AV.bad)] [] (PH s188 s196) false) k)))))
 (False))
 (False))
 (False))
 (False))
 (False))
 (False))
 (False))
 (False)))))))))))
 (False))
 (False))
 (False))))))))
 (cond (AV.toInt (AV.int IntKind.i64 (AV.toInt (AV.part (Option.getD (row encSt l)[Int.toNat i]? AV.bad) 0))) == 2)
 (cond (reflessL (AV.toList (AV.part (Option.getD (row encSt l)[Int.toNat i]? AV.bad) 5)) && List.all (AV.toList (AV.part (Option.getD (row encSt l)[Int.toNat i]? AV.bad) 5)) fun (u : AV) => AV.flatLen u == 1)
 (cond (decide (0 + List.length (AV.toList (AV.part (Option.getD (row encSt l)[Int.toNat i]? AV.bad) 5)) ≤ 0))
 (∃ (s202 : FS),
 ∃ (a203 : Int),
 ∃ (off204 : Int),
 ∃ (ds205 : List Int),
 And ([AV.ptr (Pl.mk 0 0 [] 3), AV.int IntKind.i64 (AV.toInt (AV.int IntKind.i64 (AV.toInt (AV.part (Option.getD (row encSt l)[Int.toNat i]? AV.bad) 2)))), AV.int IntKind.i64 (AV.toInt (AV.int IntKind.i64 (AV.toInt (AV.part (Option.getD (row encSt l)[Int.toNat i]? AV.bad) 3)))), AV.sl (Pl.mk 5 0 [] 0) 1 0 0 (0 + List.length (AV.toList (AV.part (Option.getD (row encSt l)[Int.toNat i]? AV.bad) 5)))] = [AV.ptr (Pl.mk 0 0 [] 3), AV.int IntKind.i64 a203, AV.int IntKind.i64 off204, AV.sl (Pl.mk 5 0 [] (List.length ds205)) 1 (List.length ds205) 0 (List.length ds205)])
 (And (WR (List.length s.1) (List.length s.3) (List.length s.4) s.2 (row encF s.1) (row encP s.3) (row encH s.4) (setMany [] 0 (AV.toList (AV.part (Option.getD (row encSt l)[Int.toNat i]? AV.bad) 5))) = WH s202 ds205)
 (And (OkS s202)
 (And (List.length ds205 < 1000)
 (∃ (s206 : RS),
 ∃ (a207 : Int),
 ∃ (off208 : Int),
 ∃ (d209 : Option (List Int)),
 And ([AV.ptr (Pl.mk 0 0 [] 2), AV.int IntKind.i64 (AV.toInt (AV.int IntKind.i64 (AV.toInt (AV.part (Option.getD (row encSt l)[Int.toNat i]? AV.bad) 2)))), AV.int IntKind.i64 (AV.toInt (AV.int IntKind.i64 (AV.toInt (AV.part (Option.getD (row encSt l)[Int.toNat i]? AV.bad) 3)))), AV.isl 1 (AV.toList (AV.part (Option.getD (row encSt l)[Int.toNat i]? AV.bad) 5))] = [AV.ptr (Pl.mk 0 0 [] 2), AV.int IntKind.i64 a207, AV.int IntKind.i64 off208, dataAV d209])
 (And (GH r = GH s206)
 (And (OkG s206)
 (And (List.length (Option.getD d209 []) < 1000)
 (cond (AV.beq (AV.int IntKind.i64 (AV.toInt (AV.part (Option.getD (row encSt l)[Int.toNat i]? AV.bad) 2))) (AV.int IntKind.i64 (AV.toInt (AV.int IntKind.i64 (AV.toInt (AV.part (Option.getD (row encSt l)[Int.toNat i]? AV.bad) 2))))))
 (cond (AV.beq (AV.int IntKind.i64 (AV.toInt (AV.part (Option.getD (row encSt l)[Int.toNat i]? AV.bad) 2))) (AV.int IntKind.i64 (AV.toInt (AV.int IntKind.i64 (AV.toInt (AV.part (Option.getD (row encSt l)[Int.toNat i]? AV.bad) 2))))))
 (cond (AV.beq (AV.int IntKind.i64 (AV.toInt (AV.part (Option.getD (row encSt l)[Int.toNat i]? AV.bad) 3))) (AV.int IntKind.i64 (AV.toInt (AV.int IntKind.i64 (AV.toInt (AV.part (Option.getD (row encSt l)[Int.toNat i]? AV.bad) 3))))))
 (cond (AV.beq (AV.int IntKind.i64 (AV.toInt (AV.part (Option.getD (row encSt l)[Int.toNat i]? AV.bad) 3))) (AV.int IntKind.i64 (AV.toInt (AV.int IntKind.i64 (AV.toInt (AV.part (Option.getD (row encSt l)[Int.toNat i]? AV.bad) 3))))))
 (cond (AV.beq (AV.isl 1 (AV.toList (AV.part (Option.getD (row encSt l)[Int.toNat i]? AV.bad) 5))) (AV.isl 1 (AV.toList (AV.part (Option.getD (row encSt l)[Int.toNat i]? AV.bad) 5))))
 (cond (AV.beq (AV.int IntKind.i64 (AV.toInt (AV.part (Option.getD (row encSt l)[Int.toNat i]? AV.bad) 2))) (AV.int IntKind.i64 (AV.toInt (AV.int IntKind.i64 (AV.toInt (AV.part (Option.getD (row encSt l)[Int.toNat i]? AV.bad) 2))))))
 (cond (AV.beq (AV.int IntKind.i64 (AV.toInt (AV.part (Option.getD (row encSt l)[Int.toNat i]? AV.bad) 2))) (AV.int IntKind.i64 (AV.toInt (AV.int IntKind.i64 (AV.toInt (AV.part (Option.getD (row encSt l)[Int.toNat i]? AV.bad) 2))))))
 (cond (AV.beq (AV.int IntKind.i64 (AV.toInt (AV.part (Option.getD (row encSt l)[Int.toNat i]? AV.bad) 2))) (AV.int IntKind.i64 (AV.toInt (AV.int IntKind.i64 (AV.toInt (AV.part (Option.getD (row encSt l)[Int.toNat i]? AV.bad) 2))))))
 (cond (AV.beq (AV.int IntKind.i64 (AV.toInt (AV.part (Option.getD (row encSt l)[Int.toNat i]? AV.bad) 3))) (AV.int IntKind.i64 (AV.toInt (AV.int IntKind.i64 (AV.toInt (AV.part (Option.getD (row encSt l)[Int.toNat i]? AV.bad) 3))))))
 (cond (AV.beq (AV.int IntKind.i64 (AV.toInt (AV.part (Option.getD (row encSt l)[Int.toNat i]? AV.bad) 3))) (AV.int IntKind.i64 (AV.toInt (AV.int IntKind.i64 (AV.toInt (AV.part (Option.getD (row encSt l)[Int.toNat i]? AV.bad) 3))))))
 (cond (AV.beq (AV.int IntKind.i64 (AV.toInt (AV.part (Option.getD (row encSt l)[Int.toNat i]? AV.bad) 3))) (AV.int IntKind.i64 (AV.toInt (AV.int IntKind.i64 (AV.toInt (AV.part (Option.getD (row encSt l)[Int.toNat i]? AV.bad) 3))))))
 (cond (AV.beq (AV.isl 1 (AV.toList (AV.part (Option.getD (row encSt l)[Int.toNat i]? AV.bad) 5))) (AV.isl 1 (AV.toList (AV.part (Option.getD (row encSt l)[Int.toNat i]? AV.bad) 5))))
 (cond (AV.beq (AV.isl 1 (AV.toList (AV.part (Option.getD (row encSt l)[Int.toNat i]? AV.bad) 5))) (AV.isl 1 (AV.toList (AV.part (Option.getD (row encSt l)[Int.toNat i]? AV.bad) 5))))
 (cond (AV.beq (AV.isl 1 (AV.toList (AV.part (Option.getD (row encSt l)[Int.toNat i]? AV.bad) 5))) (AV.isl 1 (AV.toList (AV.part (Option.getD (row encSt l)[Int.toNat i]? AV.bad) 5))))
 (cond (!(writeR s202 a203 off204 ds205).1 == (writeG s206 a207 off208 (Option.getD d209 [])).1)
 (k (AV.bool false) [] false)
 (∃ (s210 : FS),
 And ([AV.ptr (Pl.mk 0 0 [] 3)] = [AV.ptr (Pl.mk 0 0 [] 3)])
 (And (FH (writeR s202 a203 off204 ds205).2 = FH s210)
 (And (OkS s210)
 (And ((sortZ (dirties s210) = []) →
 ∃ (s211 : RS),
 And ([AV.ptr (Pl.mk 0 0 [] 2)] = [AV.ptr (Pl.mk 0 0 [] 2)])
 (And (GH (writeG s206 a207 off208 (Option.getD d209 [])).2 = GH s211)
 (And (OkG s211)
 (And ((gdirts s211 = []) →
 ∃ (l212 : List Int),
 ∃ (m213 : List Int),
 And ([AV.nils, AV.nils] = [numsAV l212, numsAV m213])
 (And (([] : Heap) = [])
 (And (List.length l212 < 5000)
 (cond (!decide (l212 = m213))
 (k (AV.bool false) [] false)
 (resPS (S F) (T6 F) N 9 fuel 6 2 0 [(p7, fuel)] p6 n (St.mk [(0, AV.bad), (1, AV.isl 6 (row encSt l)), (4, AV.bad), (5, AV.ptr (Pl.mk 4 0 [] 3)), (6, AV.bad), (7, AV.ptr (Pl.mk 9 0 [] 2)), (8, AV.bad), (9, AV.int IntKind.i64 i), (10, AV.bad), (11, AV.bad), (12, AV.bad), (13, AV.bad), (14, AV.bad), (15, AV.bad), (16, AV.int IntKind.i64 0), (17, AV.bad), (18, AV.bad), (19, AV.bad), (20, AV.bad), (21, AV.bad), (22, AV.bad), (25, AV.bad), (55, AV.bad), (63, AV.bad), (71, AV.bad), (72, AV.bad), (92, AV.bad), (114, AV.bad), (134, AV.bad), (144, AV.bad), (154, AV.bad), (168, AV.bad), (197, AV.bad), (199, AV.bad), (256, AV.bad), (264, AV.bad), (299, AV.bad)] [] (PH (writeR s202 a203 off204 ds205).2 (writeG s206 a207 off208 (Option.getD d209 [])).2) false) k)))))
 (∀ (l214 : List Int),
 (l214 = gdirts s211) →
 (l214 ≠ []) →
 cond (decide (AV.flatLen (AV.arr 1 (row encZ l214)) = List.length l214))
 (cond (decide (List.length (row encZ l214) = List.length l214))
 (cond (decide (0 + List.length l214 ≤ List.length l214))
 (cond (reflessL (List.take (List.length l214) (List.drop 0 (row encZ l214))) && true)
 (∃ (l215 : List Int),
 ∃ (m216 : List Int),
 And ([AV.nils, AV.isl 1 (List.take (List.length l214) (List.drop 0 (row encZ l214)))] = [numsAV l215, numsAV m216])
 (And (([] : Heap) = [])
 (And (List.length l215 < 5000)
 (cond (!decide (l215 = m216))
 (k (AV.bool false) [] false)
 (resPS (S F) (T6 F) N 9 fuel 6 2 0 [(p7, fuel)] p6 n (St.mk [(0, AV.bad), (1, AV.isl 6 (row encSt l)), (4, AV.bad), (5, AV.ptr (Pl.mk 4 0 [] 3)), (6, AV.bad), (7, AV.ptr (Pl.mk 9 0 [] 2)), (8, AV.bad), (9, AV.int IntKind.i64 i), (10, AV.bad), (11, AV.bad), (12, AV.bad), (13, AV.bad), (14, AV.bad), (15, AV.bad), (16, AV.int IntKind.i64 0), (17, AV.bad), (18, AV.bad), (19, AV.bad), (20, AV.bad), (21, AV.bad), (22, AV.bad), (25, AV.bad), (55, AV.bad), (63, AV.bad), (71, AV.bad), (72, AV.bad), (92, AV.bad), (114, AV.bad), (134, AV.bad), (144, AV.bad), (154, AV.bad), (168, AV.bad), (197, AV.bad), (199, AV.bad), (256, AV.bad), (264, AV.bad), (299, AV.bad)] [] (PH (writeR s202 a203 off204 ds205).2 s211) false) k)))))
 (False))
 (False))
 (False))
 (False))))))
 (∀ (l217 : List Int),
 (l217 = sortZ (dirties s210)) →
 (l217 ≠ []) →
 ∃ (s218 : RS),
 And ([AV.ptr (Pl.mk 0 0 [] 2)] = [AV.ptr (Pl.mk 0 0 [] 2)])
 (And (GH (writeG s206 a207 off208 (Option.getD d209 [])).2 = GH s218)
 (And (OkG s218)
 (And ((gdirts s218 = []) →
 cond (decide (AV.flatLen (AV.arr 1 (row encZ l217)) = List.length l217))
 (cond (decide (List.length (row encZ l217) = List.length l217))
 (cond (decide (0 + List.length l217 ≤ List.length l217))
 (cond (reflessL (List.take (List.length l217) (List.drop 0 (row encZ l217))) && true)
 (∃ (l219 : List Int),
 ∃ (m220 : List Int),
 And ([AV.isl 1 (List.take (List.length l217) (List.drop 0 (row encZ l217))), AV.nils] = [numsAV l219, numsAV m220])
 (And (([] : Heap) = [])
 (And (List.length l219 < 5000)
 (cond (!decide (l219 = m220))
 (k (AV.bool false) [] false)
 (resPS (S F) (T6 F) N 9 fuel 6 2 0 [(p7, fuel)] p6 n (St.mk [(0, AV.bad), (1, AV.isl 6 (row encSt l)), (4, AV.bad), (5, AV.ptr (Pl.mk 4 0 [] 3)), (6, AV.bad), (7, AV.ptr (Pl.mk 9 0 [] 2)), (8, AV.bad), (9, AV.int IntKind.i64 i), (10, AV.bad), (11, AV.bad), (12, AV.bad), (13, AV.bad), (14, AV.bad), (15, AV.bad), (16, AV.int IntKind.i64 0), (17, AV.bad), (18, AV.bad), (19, AV.bad), (20, AV.bad), (21, AV.bad), (22, AV.bad), (25, AV.bad), (55, AV.bad), (63, AV.bad), (71, AV.bad), (72, AV.bad), (92, AV.bad), (114, AV.bad), (134, AV.bad), (144, AV.bad), (154, AV.bad), (168, AV.bad), (197, AV.bad), (199, AV.bad), (256, AV.bad), (264, AV.bad), (299, AV.bad)] [] (PH s210 (writeG s206 a207 off208 (Option.getD d209 [])).2) false) k)))))
 (False))
 (False))
 (False))
 (False))
 (∀ (l221 : List Int),
 (l221 = gdirts s218) →
 (l221 ≠ []) →
 cond (decide (AV.flatLen (AV.arr 1 (row encZ l217)) = List.length l217))
 (cond (decide (List.length (row encZ l217) = List.length l217))
 (cond (decide (0 + List.length l217 ≤ List.length l217))
 (cond (reflessL (List.take (List.length l217) (List.drop 0 (row encZ l217))) && true)
 (cond (decide (AV.flatLen (AV.arr 1 (row encZ l221)) = List.length l221))
 (cond (decide (List.length (row encZ l221) = List.length l221))
 (cond (decide (0 + List.length l221 ≤ List.length l221))
 (cond (reflessL (List.take (List.length l221) (List.drop 0 (row encZ l221))) && true)
 (∃ (l222 : List Int),
 ∃ (m223 : List Int),
 And ([AV.isl 1 (List.take (List.length l217) (List.drop 0 (row encZ l217))), AV.isl 1 (List.take (List.length l221) (List.drop 0 (row encZ l221)))] = [numsAV l222, numsAV m223])
 (And (([] : Heap) = [])
 (And (List.length l222 < 5000)
 (cond (!decide (l222 = m223))
 (k (AV.bool false) [] false)
 (resPS (S F) (T6 F) N 9 fuel 6 2 0 [(p7, fuel)] p6 n (St.mk [(0, AV.bad), (1, AV.isl 6 (row encSt l)), (4, AV.bad), (5, AV.ptr (Pl.mk 4 0 [] 3)), (6, AV.bad), (7, AV.ptr (Pl.mk 9 0 [] 2)), (8, AV.bad), (9, AV.int IntKind.i64 i), (10, AV.bad), (11, AV.bad), (12, AV.bad), (13, AV.bad), (14, AV.bad), (15, AV.bad), (16, AV.int IntKind.i64 0), (17, AV.bad), (18, AV.bad), (19, AV.bad), (20, AV.bad), (21, AV.bad), (22, AV.bad), (25, AV.bad), (55, AV.bad), (63, AV.bad), (71, AV.bad), (72, AV.bad), (92, AV.bad), (114, AV.bad), (134, AV.bad), (144, AV.bad), (154, AV.bad), (168, AV.bad), (197, AV.bad), (199, AV.bad), (256, AV.bad), (264, AV.bad), (299, AV.bad)] [] (PH s210 s218) false) k)))))
 (False))
 (False))
 (False))
 (False))
 (False))
 (False))
 (False))
 (False)))))))))))
 (False))
 (False))
 (False))
 (False))
 (False))
 (False))
 (False))
 (False))
 (False))
 (False))
 (False))
 (False))
 (False))
 (False))))))))))
 (cond (true && decide ((0 + List.length (AV.toList (AV.part (Option.getD (row encSt l)[Int.toNat i]? AV.bad) 5))) * 1 ≤ 70368744177664) && decide (0 + List.length (AV.toList (AV.part (Option.getD (row encSt l)[Int.toNat i]? AV.bad) 5)) ≤ 70368744177664))
 (∃ (s224 : FS),
 ∃ (a225 : Int),
 ∃ (off226 : Int),
 ∃ (ds227 : List Int),
 And ([AV.ptr (Pl.mk 0 0 [] 3), AV.int IntKind.i64 (AV.toInt (AV.int IntKind.i64 (AV.toInt (AV.part (Option.getD (row encSt l)[Int.toNat i]? AV.bad) 2)))), AV.int IntKind.i64 (AV.toInt (AV.int IntKind.i64 (AV.toInt (AV.part (Option.getD (row encSt l)[Int.toNat i]? AV.bad) 3)))), AV.sl (Pl.mk 5 0 [] (1 * (0 + List.length (AV.toList (AV.part (Option.getD (row encSt l)[Int.toNat i]? AV.bad) 5))))) 1 (0 + List.length (AV.toList (AV.part (Option.getD (row encSt l)[Int.toNat i]? AV.bad) 5))) 0 (0 + List.length (AV.toList (AV.part (Option.getD (row encSt l)[Int.toNat i]? AV.bad) 5)))] = [AV.ptr (Pl.mk 0 0 [] 3), AV.int IntKind.i64 a225, AV.int IntKind.i64 off226, AV.sl (Pl.mk 5 0 [] (List.length ds227)) 1 (List.length ds227) 0 (List.length ds227)])
 (And (WR (List.length s.1) (List.length s.3) (List.length s.4) s.2 (row encF s.1) (row encP s.3) (row encH s.4) ([] ++ AV.toList (AV.part (Option.getD (row encSt l)[Int.toNat i]? AV.bad) 5)) = WH s224 ds227)
 (And (OkS s224)
 (And (List.length ds227 < 1000)
 (∃ (s228 : RS),
 ∃ (a229 : Int),
 ∃ (off230 : Int),
 ∃ (d231 : Option (List Int)),
 And ([AV.ptr (Pl.mk 0 0 [] 2), AV.int IntKind.i64 (AV.toInt (AV.int IntKind.i64 (AV.toInt (AV.part (Option.getD (row encSt l)[Int.toNat i]? AV.bad) 2)))), AV.int IntKind.i64 (AV.toInt (AV.int IntKind.i64 (AV.toInt (AV.part (Option.getD (row encSt l)[Int.toNat i]? AV.bad) 3)))), AV.isl 1 (AV.toList (AV.part (Option.getD (row encSt l)[Int.toNat i]? AV.bad) 5))] = [AV.ptr (Pl.mk 0 0 [] 2), AV.int IntKind.i64 a229, AV.int IntKind.i64 off230, dataAV d231])
 (And (GH r = GH s228)
 (And (OkG s228)
 (And (List.length (Option.getD d231 []) < 1000)
 (cond (AV.beq (AV.int IntKind.i64 (AV.toInt (AV.part (Option.getD (row encSt l)[Int.toNat i]? AV.bad) 2))) (AV.int IntKind.i64 (AV.toInt (AV.int IntKind.i64 (AV.toInt (AV.part (Option.getD (row encSt l)[Int.toNat i]? AV.bad) 2))))))
 (cond (AV.beq (AV.int IntKind.i64 (AV.toInt (AV.part (Option.getD (row encSt l)[Int.toNat i]? AV.bad) 2))) (AV.int IntKind.i64 (AV.toInt (AV.int IntKind.i64 (AV.toInt (AV.part (Option.getD (row encSt l)[Int.toNat i]? AV.bad) 2))))))
 (cond (AV.beq (AV.int IntKind.i64 (AV.toInt (AV.part (Option.getD (row encSt l)[Int.toNat i]? AV.bad) 3))) (AV.int IntKind.i64 (AV.toInt (AV.int IntKind.i64 (AV.toInt (AV.part (Option.getD (row encSt l)[Int.toNat i]? AV.bad) 3))))))
 (cond (AV.beq (AV.int IntKind.i64 (AV.toInt (AV.part (Option.getD (row encSt l)[Int.toNat i]? AV.bad) 3))) (AV.int IntKind.i64 (AV.toInt (AV.int IntKind.i64 (AV.toInt (AV.part (Option.getD (row encSt l)[Int.toNat i]? AV.bad) 3))))))
 (cond (AV.beq (AV.isl 1 (AV.toList (AV.part (Option.getD (row encSt l)[Int.toNat i]? AV.bad) 5))) (AV.isl 1 (AV.toList (AV.part (Option.getD (row encSt l)[Int.toNat i]? AV.bad) 5))))
 (cond (AV.beq (AV.int IntKind.i64 (AV.toInt (AV.part (Option.getD (row encSt l)[Int.toNat i]? AV.bad) 2))) (AV.int IntKind.i64 (AV.toInt (AV.int IntKind.i64 (AV.toInt (AV.part (Option.getD (row encSt l)[Int.toNat i]? AV.bad) 2))))))
 (cond (AV.beq (AV.int IntKind.i64 (AV.toInt (AV.part (Option.getD (row encSt l)[Int.toNat i]? AV.bad) 2))) (AV.int IntKind.i64 (AV.toInt (AV.int IntKind.i64 (AV.toInt (AV.part (Option.getD (row encSt l)[Int.toNat i]? AV.bad) 2))))))
 (cond (AV.beq (AV.int IntKind.i64 (AV.toInt (AV.part (Option.getD (row encSt l)[Int.toNat i]? AV.bad) 2))) (AV.int IntKind.i64 (AV.toInt (AV.int IntKind.i64 (AV.toInt (AV.part (Option.getD (row encSt l)[Int.toNat i]? AV.bad) 2))))))
 (cond (AV.beq (AV.int IntKind.i64 (AV.toInt (AV.part (Option.getD (row encSt l)[Int.toNat i]? AV.bad) 3))) (AV.int IntKind.i64 (AV.toInt (AV.int IntKind.i64 (AV.toInt (AV.part (Option.getD (row encSt l)[Int.toNat i]? AV.bad) 3))))))
 (cond (AV.beq (AV.int IntKind.i64 (AV.toInt (AV.part (Option.getD (row encSt l)[Int.toNat i]? AV.bad) 3))) (AV.int IntKind.i64 (AV.toInt (AV.int IntKind.i64 (AV.toInt (AV.part (Option.getD (row encSt l)[Int.toNat i]? AV.bad) 3))))))
 (cond (AV.beq (AV.int IntKind.i64 (AV.toInt (AV.part (Option.getD (row encSt l)[Int.toNat i]? AV.bad) 3))) (AV.int IntKind.i64 (AV.toInt (AV.int IntKind.i64 (AV.toInt (AV.part (Option.getD (row encSt l)[Int.toNat i]? AV.bad) 3))))))
 (cond (AV.beq (AV.isl 1 (AV.toList (AV.part (Option.getD (row encSt l)[Int.toNat i]? AV.bad) 5))) (AV.isl 1 (AV.toList (AV.part (Option.getD (row encSt l)[Int.toNat i]? AV.bad) 5))))
 (cond (AV.beq (AV.isl 1 (AV.toList (AV.part (Option.getD (row encSt l)[Int.toNat i]? AV.bad) 5))) (AV.isl 1 (AV.toList (AV.part (Option.getD (row encSt l)[Int.toNat i]? AV.bad) 5))))
 (cond (AV.beq (AV.isl 1 (AV.toList (AV.part (Option.getD (row encSt l)[Int.toNat i]? AV.bad) 5))) (AV.isl 1 (AV.toList (AV.part (Option.getD (row encSt l)[Int.toNat i]? AV.bad) 5))))
 (cond (!(writeR s224 a225 off226 ds227).1 == (writeG s228 a229 off230 (Option.getD d231 [])).1)
 (k (AV.bool false) [] false)
 (∃ (s232 : FS),
 And ([AV.ptr (Pl.mk 0 0 [] 3)] = [AV.ptr (Pl.mk 0 0 [] 3)])
 (And (FH (writeR s224 a225 off226 ds227).2 = FH s232)
 (And (OkS s232)
 (And ((sortZ (dirties s232) = []) →
 ∃ (s233 : RS),
 And ([AV.ptr (Pl.mk 0 0 [] 2)] = [AV.ptr (Pl.mk 0 0 [] 2)])
 (And (GH (writeG s228 a229 off230 (Option.getD d231 [])).2 = GH s233)
 (And (OkG s233)
 (And ((gdirts s233 = []) →
 ∃ (l234 : List Int),
 ∃ (m235 : List Int),
 And ([AV.nils, AV.nils] = [numsAV l234, numsAV m235])
 (And (([] : Heap) = [])
 (And (List.length l234 < 5000)
 (cond (!decide (l234 = m235))
 (k (AV.bool false) [] false)
 (resPS (S F) (T6 F) N 9 fuel 6 2 0 [(p7, fuel)] p6 n (St.mk [(0, AV.bad), (1, AV.isl 6 (row encSt l)), (4, AV.bad), (5, AV.ptr (Pl.mk 4 0 [] 3)), (6, AV.bad), (7, AV.ptr (Pl.mk 9 0 [] 2)), (8, AV.bad), (9, AV.int IntKind.i64 i), (10, AV.bad), (11, AV.bad), (12, AV.bad), (13, AV.bad), (14, AV.bad), (15, AV.bad), (16, AV.int IntKind.i64 0), (17, AV.bad), (18, AV.bad), (19, AV.bad), (20, AV.bad), (21, AV.bad), (22, AV.bad), (25, AV.bad), (55, AV.bad), (63, AV.bad), (71, AV.bad), (72, AV.bad), (92, AV.bad), (114, AV.bad), (134, AV.bad), (144, AV.bad), (154, AV.bad), (168, AV.bad), (197, AV.bad), (199, AV.bad), (256, AV.bad), (264, AV.bad), (299, AV.bad)] [] (PH (writeR s224 a225 off226 ds227).2 (writeG s228 a229 off230 (Option.getD d231 [])).2) false) k)))))
 (∀ (l236 : List Int),
 (l236 = gdirts s233) →
 (l236 ≠ []) →
 cond (decide (AV.flatLen (AV.arr 1 (row encZ l236)) = List.length l236))
 (cond (decide (List.length (row encZ l236) = List.length l236))
 (cond (decide (0 + List.length l236 ≤ List.length l236))
 (cond (reflessL (List.take (List.length l236) (List.drop 0 (row encZ l236))) && true)
 (∃ (l237 : List Int),
 ∃ (m238 : List Int),
 And ([AV.nils, AV.isl 1 (List.take (List.length l236) (List.drop 0 (row encZ l236)))] = [numsAV l237, numsAV m238])
 (And (([] : Heap) = [])
 (And (List.length l237 < 5000)
 (cond (!decide (l237 = m238))
 (k (AV.bool false) [] false)
 (resPS (S F) (T6 F) N 9 fuel 6 2 0 [(p7, fuel)] p6 n (St.mk [(0, AV.bad), (1, AV.isl 6 (row encSt l)), (4, AV.bad), (5, AV.ptr (Pl.mk 4 0 [] 3)), (6, AV.bad), (7, AV.ptr (Pl.mk 9 0 [] 2)), (8, AV.bad), (9, AV.int IntKind.i64 i), (10, AV.bad), (11, AV.bad), (12, AV.bad), (13, AV.bad), (14, AV.bad), (15, AV.bad), (16, AV.int IntKind.i64 0), (17, AV.bad), (18, AV.bad), (19, AV.bad), (20, AV.bad), (21, AV.bad), (22, AV.bad), (25, AV.bad), (55, AV.bad), (63, AV.bad), (71, AV.bad), (72, AV.bad), (92, AV.bad), (114, AV.bad), (134, AV.bad), (144, AV.bad), (154, AV.bad), (168, AV.bad), (197, AV.bad), (199, AV.bad), (256, AV.bad), (264, AV.bad), (299, AV.bad)] [] (PH (writeR s224 a225 off226 ds227).2 s233) false) k)))))
 (False))
 (False))
 (False))
 (False))))))
 (∀ (l239 : List Int),
 (l239 = sortZ (dirties s232)) →
 (l239 ≠ []) →
 ∃ (s240 : RS),
 And ([AV.ptr (Pl.mk 0 0 [] 2)] = [AV.ptr (Pl.mk 0 0 [] 2)])
 (And (GH (writeG s228 a229 off230 (Option.getD d231 [])).2 = GH s240)
 (And (OkG s240)
 (And ((gdirts s240 = []) →
 cond (decide (AV.flatLen (AV.arr 1 (row encZ l239)) = List.length l239))
 (cond (decide (List.length (row encZ l239) = List.length l239))
 (cond (decide (0 + List.length l239 ≤ List.length l239))
 (cond (reflessL (List.take (List.length l239) (List.drop 0 (row encZ l239))) && true)
 (∃ (l241 : List Int),
 ∃ (m242 : List Int),
 And ([AV.isl 1 (List.take (List.length l239) (List.drop 0 (row encZ l239))), AV.nils] = [numsAV l241, numsAV m242])
 (And (([] : Heap) = [])
 (And (List.length l241 < 5000)
 (cond (!decide (l241 = m242))
 (k (AV.bool false) [] false)
 (resPS (S F) (T6 F) N 9 fuel 6 2 0 [(p7, fuel)] p6 n (St.mk [(0, AV.bad), (1, AV.isl 6 (row encSt l)), (4, AV.bad), (5, AV.ptr (Pl.mk 4 0 [] 3)), (6, AV.bad), (7, AV.ptr (Pl.mk 9 0 [] 2)), (8, AV.bad), (9, AV.int IntKind.i64 i), (10, AV.bad), (11, AV.bad), (12, AV.bad), (13, AV.bad), (14, AV.bad), (15, AV.bad), (16, AV.int IntKind.i64 0), (17, AV.bad), (18, AV.bad), (19, AV.bad), (20, AV.bad), (21, AV.bad), (22, AV.bad), (25, AV.bad), (55, AV.bad), (63, AV.bad), (71, AV.bad), (72, AV.bad), (92, AV.bad), (114, AV.bad), (134, AV.bad), (144, AV.bad), (154, AV.bad), (168, AV.bad), (197, AV.bad), (199, AV.bad), (256, AV.bad), (264, AV.bad), (299, AV.bad)] [] (PH s232 (writeG s228 a229 off230 (Option.getD d231 [])).2) false) k)))))
 (False))
 (False))
 (False))
 (False))
 (∀ (l243 : List Int),
 (l243 = gdirts s240) →
 (l243 ≠ []) →
 cond (decide (AV.flatLen (AV.arr 1 (row encZ l239)) = List.length l239))
 (cond (decide (List.length (row encZ l239) = List.length l239))
 (cond (decide (0 + List.length l239 ≤ List.length l239))
 (cond (reflessL (List.take (List.length l239) (List.drop 0 (row encZ l239))) && true)
 (cond (decide (AV.flatLen (AV.arr 1 (row encZ l243)) = List.length l243))
 (cond (decide (List.length (row encZ l243) = List.length l243))
 (cond (decide (0 + List.length l243 ≤ List.length l243))
 (cond (reflessL (List.take (List.length l243) (List.drop 0 (row encZ l243))) && true)
 (∃ (l244 : List Int),
 ∃ (m245 : List Int),
 And ([AV.isl 1 (List.take (List.length l239) (List.drop 0 (row encZ l239))), AV.isl 1 (List.take (List.length l243) (List.drop 0 (row encZ l243)))] = [numsAV l244, numsAV m245])
 (And (([] : Heap) = [])
 (And (List.length l244 < 5000)
 (cond (!decide (l244 = m245))
 (k (AV.bool false) [] false)
 (resPS (S F) (T6 F) N 9 fuel 6 2 0 [(p7, fuel)] p6 n (St.mk [(0, AV.bad), (1, AV.isl 6 (row encSt l)), (4, AV.bad), (5, AV.ptr (Pl.mk 4 0 [] 3)), (6, AV.bad), (7, AV.ptr (Pl.mk 9 0 [] 2)), (8, AV.bad), (9, AV.int IntKind.i64 i), (10, AV.bad), (11, AV.bad), (12, AV.bad), (13, AV.bad), (14, AV.bad), (15, AV.bad), (16, AV.int IntKind.i64 0), (17, AV.bad), (18, AV.bad), (19, AV.bad), (20, AV.bad), (21, AV.bad), (22, AV.bad), (25, AV.bad), (55, AV.bad), (63, AV.bad), (71, AV.bad), (72, AV.bad), (92, AV.bad), (114, AV.bad), (134, AV.bad), (144, AV.bad), (154, AV.bad), (168, AV.bad), (197, AV.bad), (199, AV.bad), (256, AV.bad), (264, AV.bad), (299, AV.bad)] [] (PH s232 s240) false) k)))))
 (False))
 (False))
 (False))
 (False))
 (False))
 (False))
 (False))
 (False)))))))))))
 (False))
 (False))
 (False))
 (False))
 (False))
 (False))
 (False))
 (False))
 (False))
 (False))
 (False))
 (False))
 (False))
 (False))))))))))
 (False)))
 (False))
 (cond (AV.toInt (AV.int IntKind.i64 (AV.toInt (AV.part (Option.getD (row encSt l)[Int.toNat i]? AV.bad) 0))) == 3)
 (∃ (s246 : FS),
 ∃ (a247 : Int),
 And ([AV.ptr (Pl.mk 0 0 [] 3), AV.int IntKind.i64 (AV.toInt (AV.int IntKind.i64 (AV.toInt (AV.part (Option.getD (row encSt l)[Int.toNat i]? AV.bad) 2))))] = [AV.ptr (Pl.mk 0 0 [] 3), AV.int IntKind.i64 a247])
 (And (FH s = FH s246)
 (And (OkS s246)
 (∃ (s248 : RS),
 ∃ (a249 : Int),
 And ([AV.ptr (Pl.mk 0 0 [] 2), AV.int IntKind.i64 (AV.toInt (AV.int IntKind.i64 (AV.toInt (AV.part (Option.getD (row encSt l)[Int.toNat i]? AV.bad) 2))))] = [AV.ptr (Pl.mk 0 0 [] 2), AV.int IntKind.i64 a249])
 (And (GH r = GH s248)
 (And (OkG s248)
 (∃ (s250 : FS),
 And ([AV.ptr (Pl.mk 0 0 [] 3)] = [AV.ptr (Pl.mk 0 0 [] 3)])
 (And (FH (cleanS s246 a247) = FH s250)
 (And (OkS s250)
 (And ((sortZ (dirties s250) = []) →
 ∃ (s251 : RS),
 And ([AV.ptr (Pl.mk 0 0 [] 2)] = [AV.ptr (Pl.mk 0 0 [] 2)])
 (And (GH (cleanG s248 a249) = GH s251)
 (And (OkG s251)
 (And ((gdirts s251 = []) →
 ∃ (l252 : List Int),
 ∃ (m253 : List Int),
 And ([AV.nils, AV.nils] = [numsAV l252, numsAV m253])
 (And (([] : Heap) = [])
 (And (List.length l252 < 5000)
 (cond (!decide (l252 = m253))
 (k (AV.bool false) [] false)
 (resPS (S F) (T6 F) N 9 fuel 6 2 0 [(p7, fuel)] p6 n (St.mk [(0, AV.bad), (1, AV.isl 6 (row encSt l)), (4, AV.bad), (5, AV.ptr (Pl.mk 4 0 [] 3)), (6, AV.bad), (7, AV.ptr (Pl.mk 9 0 [] 2)), (8, AV.bad), (9, AV.int IntKind.i64 i), (10, AV.bad), (11, AV.bad), (12, AV.bad), (13, AV.bad), (14, AV.bad), (15, AV.bad), (16, AV.int IntKind.i64 0), (17, AV.bad), (18, AV.bad), (19, AV.bad), (20, AV.bad), (21, AV.bad), (22, AV.bad), (25, AV.bad), (55, AV.bad), (63, AV.bad), (71, AV.bad), (72, AV.bad), (92, AV.bad), (114, AV.bad), (134, AV.bad), (144, AV.bad), (154, AV.bad), (168, AV.bad), (197, AV.bad), (199, AV.bad), (256, AV.bad), (264, AV.bad), (299, AV.bad)] [] (PH (cleanS s246 a247) (cleanG s248 a249)) false) k)))))
 (∀ (l254 : List Int),
 (l254 = gdirts s251) →
 (l254 ≠ []) →
 cond (decide (AV.flatLen (AV.arr 1 (row encZ l254)) = List.length l254))
 (cond (decide (List.length (row encZ l254) = List.length l254))
 (cond (decide (0 + List.length l254 ≤ List.length l254))
 (cond (reflessL (List.take (List.length l254) (List.drop 0 (row encZ l254))) && true)
 (∃ (l255 : List Int),
 ∃ (m256 : List Int),
 And ([AV.nils, AV.isl 1 (List.take (List.length l254) (List.drop 0 (row encZ l254)))] = [numsAV l255, numsAV m256])
 (And (([] : Heap) = [])
 (And (List.length l255 < 5000)
 (cond (!decide (l255 = m256))
 (k (AV.bool false) [] false)
 (resPS (S F) (T6 F) N 9 fuel 6 2 0 [(p7, fuel)] p6 n (St.mk [(0, AV.bad), (1, AV.isl 6 (row encSt l)), (4, AV.bad), (5, AV.ptr (Pl.mk 4 0 [] 3)), (6, AV.bad), (7, AV.ptr (Pl.mk 9 0 [] 2)), (8, AV.bad), (9, AV.int IntKind.i64 i), (10, AV.bad), (11, AV.bad), (12, AV.bad), (13, AV.bad), (14, AV.bad), (15, AV.bad), (16, AV.int IntKind.i64 0), (17, AV.bad), (18, AV.bad), (19, AV.bad), (20, AV.bad), (21, AV.bad), (22, AV.bad), (25, AV.bad), (55, AV.bad), (63, AV.bad), (71, AV.bad), (72, AV.bad), (92, AV.bad), (114, AV.bad), (134, AV.bad), (144, AV.bad), (154, AV.bad), (168, AV.bad), (197, AV.bad), (199, AV.bad), (256, AV.bad), (264, AV.bad), (299, AV.bad)] [] (PH (cleanS s246 a247) s251) false) k)))))
 (False))
 (False))
 (False))
 (False))))))
 (∀ (l257 : List Int),
 (l257 = sortZ (dirties s250)) →
 (l257 ≠ []) →
 ∃ (s258 : RS),
 And ([AV.ptr (Pl.mk 0 0 [] 2)] = [AV.ptr (Pl.mk 0 0 [] 2)])
 (And (GH (cleanG s248 a249) = GH s258)
 (And (OkG s258)
 (And ((gdirts s258 = []) →
 cond (decide (AV.flatLen (AV.arr 1 (row encZ l257)) = List.length l257))
 (cond (decide (List.length (row encZ l257) = List.length l257))
 (cond (decide (0 + List.length l257 ≤ List.length l257))
 (cond (reflessL (List.take (List.length l257) (List.drop 0 (row encZ l257))) && true)
 (∃ (l259 : List Int),
 ∃ (m260 : List Int),
 And ([AV.isl 1 (List.take (List.length l257) (List.drop 0 (row encZ l257))), AV.nils] = [numsAV l259, numsAV m260])
 (And (([] : Heap) = [])
 (And (List.length l259 < 5000)
 (cond (!decide (l259 = m260))
 (k (AV.bool false) [] false)
 (resPS (S F) (T6 F) N 9 fuel 6 2 0 [(p7, fuel)] p6 n (St.mk [(0, AV.bad), (1, AV.isl 6 (row encSt l)), (4, AV.bad), (5, AV.ptr (Pl.mk 4 0 [] 3)), (6, AV.bad), (7, AV.ptr (Pl.mk 9 0 [] 2)), (8, AV.bad), (9, AV.int IntKind.i64 i), (10, AV.bad), (11, AV.bad), (12, AV.bad), (13, AV.bad), (14, AV.bad), (15, AV.bad), (16, AV.int IntKind.i64 0), (17, AV.bad), (18, AV.bad), (19, AV.bad), (20, AV.bad), (21, AV.bad), (22, AV.bad), (25, AV.bad), (55, AV.bad), (63, AV.bad), (71, AV.bad), (72, AV.bad), (92, AV.bad), (114, AV.bad), (134, AV.bad), (144, AV.bad), (154, AV.bad), (168, AV.bad), (197, AV.bad), (199, AV.bad), (256, AV.bad), (264, AV.bad), (299, AV.bad)] [] (PH s250 (cleanG s248 a249)) false) k)))))
 (False))
 (False))
 (False))
 (False))
 (∀ (l261 : List Int),
 (l261 = gdirts s258) →
 (l261 ≠ []) →
 cond (decide (AV.flatLen (AV.arr 1 (row encZ l257)) = List.length l257))
 (cond (decide (List.length (row encZ l257) = List.length l257))
 (cond (decide (0 + List.length l257 ≤ List.length l257))
 (cond (reflessL (List.take (List.length l257) (List.drop 0 (row encZ l257))) && true)
 (cond (decide (AV.flatLen (AV.arr 1 (row encZ l261)) = List.length l261))
 (cond (decide (List.length (row encZ l261) = List.length l261))
 (cond (decide (0 + List.length l261 ≤ List.length l261))
 (cond (reflessL (List.take (List.length l261) (List.drop 0 (row encZ l261))) && true)
 (∃ (l262 : List Int),
 ∃ (m263 : List Int),
 And ([AV.isl 1 (List.take (List.length l257) (List.drop 0 (row encZ l257))), AV.isl 1 (List.take (List.length l261) (List.drop 0 (row encZ l261)))] = [numsAV l262, numsAV m263])
 (And (([] : Heap) = [])
 (And (List.length l262 < 5000)
 (cond (!decide (l262 = m263))
 (k (AV.bool false) [] false)
 (resPS (S F) (T6 F) N 9 fuel 6 2 0 [(p7, fuel)] p6 n (St.mk [(0, AV.bad), (1, AV.isl 6 (row encSt l)), (4, AV.bad), (5, AV.ptr (Pl.mk 4 0 [] 3)), (6, AV.bad), (7, AV.ptr (Pl.mk 9 0 [] 2)), (8, AV.bad), (9, AV.int IntKind.i64 i), (10, AV.bad), (11, AV.bad), (12, AV.bad), (13, AV.bad), (14, AV.bad), (15, AV.bad), (16, AV.int IntKind.i64 0), (17, AV.bad), (18, AV.bad), (19, AV.bad), (20, AV.bad), (21, AV.bad), (22, AV.bad), (25, AV.bad), (55, AV.bad), (63, AV.bad), (71, AV.bad), (72, AV.bad), (92, AV.bad), (114, AV.bad), (134, AV.bad), (144, AV.bad), (154, AV.bad), (168, AV.bad), (197, AV.bad), (199, AV.bad), (256, AV.bad), (264, AV.bad), (299, AV.bad)] [] (PH s250 s258) false) k)))))
 (False))
 (False))
 (False))
 (False))
 (False))
 (False))
 (False))
 (False))))))))))))))))
 (cond (AV.toInt (AV.int IntKind.i64 (AV.toInt (AV.part (Option.getD (row encSt l)[Int.toNat i]? AV.bad) 0))) == 4)
 (∃ (s264 : FS),
 ∃ (a265 : Int),
 And ([AV.ptr (Pl.mk 0 0 [] 3), AV.int IntKind.i64 (AV.toInt (AV.int IntKind.i64 (AV.toInt (AV.part (Option.getD (row encSt l)[Int.toNat i]? AV.bad) 2))))] = [AV.ptr (Pl.mk 0 0 [] 3), AV.int IntKind.i64 a265])
 (And (FH s = FH s264)
 (And (OkS s264)
 (∃ (s266 : RS),
 ∃ (a267 : Int),
 And ([AV.ptr (Pl.mk 0 0 [] 2), AV.int IntKind.i64 (AV.toInt (AV.int IntKind.i64 (AV.toInt (AV.part (Option.getD (row encSt l)[Int.toNat i]? AV.bad) 2))))] = [AV.ptr (Pl.mk 0 0 [] 2), AV.int IntKind.i64 a267])
 (And (GH r = GH s266)
 (And (OkG s266)
 (cond (AV.beq (AV.int IntKind.i64 (AV.toInt (AV.part (Option.getD (row encSt l)[Int.toNat i]? AV.bad) 2))) (AV.int IntKind.i64 (AV.toInt (AV.int IntKind.i64 (AV.toInt (AV.part (Option.getD (row encSt l)[Int.toNat i]? AV.bad) 2))))))
 (cond (!Option.isSome (forgetR s264 a265) == Option.isSome (forgetG s266 a267))
 (k (AV.bool false) [] false)
 (∃ (s268 : FS),
 And ([AV.ptr (Pl.mk 0 0 [] 3)] = [AV.ptr (Pl.mk 0 0 [] 3)])
 (And (FH (Option.getD (forgetR s264 a265) s264) = FH s268)
 (And (OkS s268)
 (And ((sortZ (dirties s268) = []) →
 ∃ (s269 : RS),
 And ([AV.ptr (Pl.mk 0 0 [] 2)] = [AV.ptr (Pl.mk 0 0 [] 2)])
 (And (GH (Option.getD (forgetG s266 a267) s266) = GH s269)
 (And (OkG s269)
 (And ((gdirts s269 = []) →
 ∃ (l270 : List Int),
 ∃ (m271 : List Int),
 And ([AV.nils, AV.nils] = [numsAV l270, numsAV m271])
 (And (([] : Heap) = [])
 (And (List.length l270 < 5000)
 (cond (!decide (l270 = m271))
 (k (AV.bool false) [] false)
 (resPS (S F) (T6 F) N 9 fuel 6 2 0 [(p7, fuel)] p6 n (St.mk [(0, AV.bad), (1, AV.isl 6 (row encSt l)), (4, AV.bad), (5, AV.ptr (Pl.mk 4 0 [] 3)), (6, AV.bad), (7, AV.ptr (Pl.mk 9 0 [] 2)), (8, AV.bad), (9, AV.int IntKind.i64 i), (10, AV.bad), (11, AV.bad), (12, AV.bad), (13, AV.bad), (14, AV.bad), (15, AV.bad), (16, AV.int IntKind.i64 0), (17, AV.bad), (18, AV.bad), (19, AV.bad), (20, AV.bad), (21, AV.bad), (22, AV.bad), (25, AV.bad), (55, AV.bad), (63, AV.bad), (71, AV.bad), (72, AV.bad), (92, AV.bad), (114, AV.bad), (134, AV.bad), (144, AV.bad), (154, AV.bad), (168, AV.bad), (197, AV.bad), (199, AV.bad), (256, AV.bad), (264, AV.bad), (299, AV.bad)] [] (PH (Option.getD (forgetR s264 a265) s264) (Option.getD (forgetG s266 a267) s266)) false) k)))))
 (∀ (l272 : List Int),
 (l272 = gdirts s269) →
 (l272 ≠ []) →
 cond (decide (AV.flatLen (AV.arr 1 (row encZ l272)) = List.length l272))
 (cond (decide (List.length (row encZ l272) = List.length l272))
 (cond (decide (0 + List.length l272 ≤ List.length l272))
 (cond (reflessL (List.take (List.length l272) (List.drop 0 (row encZ l272))) && true)
 (∃ (l273 : List Int),
 ∃ (m274 : List Int),
 And ([AV.nils, AV.isl 1 (List.take (List.length l272) (List.drop 0 (row encZ l272)))] = [numsAV l273, numsAV m274])
 (And (([] : Heap) = [])
 (And (List.length l273 < 5000)
 (cond (!decide (l273 = m274))
 (k (AV.bool false) [] false)
 (resPS (S F) (T6 F) N 9 fuel 6 2 0 [(p7, fuel)] p6 n (St.mk [(0, AV.bad), (1, AV.isl 6 (row encSt l)), (4, AV.bad), (5, AV.ptr (Pl.mk 4 0 [] 3)), (6, AV.bad), (7, AV.ptr (Pl.mk 9 0 [] 2)), (8, AV.bad), (9, AV.int IntKind.i64 i), (10, AV.bad), (11, AV.bad), (12, AV.bad), (13, AV.bad), (14, AV.bad), (15, AV.bad), (16, AV.int IntKind.i64 0), (17, AV.bad), (18, AV.bad), (19, AV.bad), (20, AV.bad), (21, AV.bad), (22, AV.bad), (25, AV.bad), (55, AV.bad), (63, AV.bad), (71, AV.bad), (72, AV.bad), (92, AV.bad), (114, AV.bad), (134, AV.bad), (144, AV.bad), (154, AV.bad), (168, AV.bad), (197, AV.bad), (199, AV.bad), (256, AV.bad), (264, AV.bad), (299, AV.bad)] [] (PH (Option.getD (forgetR s264 a265) s264) s269) false) k)))))
 (False))
 (False))
 (False))
 (False))))))
 (∀ (l275 : List Int),
 (l275 = sortZ (dirties s268)) →
 (l275 ≠ []) →
 ∃ (s276 : RS),
 And ([AV.ptr (Pl.mk 0 0 [] 2)] = [AV.ptr (Pl.mk 0 0 [] 2)])
 (And (GH (Option.getD (forgetG s266 a267) s266) = GH s276)
 (And (OkG s276)
 (And ((gdirts s276 = []) →
 cond (decide (AV.flatLen (AV.arr 1 (row encZ l275)) = List.length l275))
 (cond (decide (List.length (row encZ l275) = List.length l275))
 (cond (decide (0 + List.length l275 ≤ List.length l275))
 (cond (reflessL (List.take (List.length l275) (List.drop 0 (row encZ l275))) && true)
 (∃ (l277 : List Int),
 ∃ (m278 : List Int),
 And ([AV.isl 1 (List.take (List.length l275) (List.drop 0 (row encZ l275))), AV.nils] = [numsAV l277, numsAV m278])
 (And (([] : Heap) = [])
 (And (List.length l277 < 5000)
 (cond (!decide (l277 = m278))
 (k (AV.bool false) [] false)
 (resPS (S F) (T6 F) N 9 fuel 6 2 0 [(p7, fuel)] p6 n (St.mk [(0, AV.bad), (1, AV.isl 6 (row encSt l)), (4, AV.bad), (5, AV.ptr (Pl.mk 4 0 [] 3)), (6, AV.bad), (7, AV.ptr (Pl.mk 9 0 [] 2)), (8, AV.bad), (9, AV.int IntKind.i64 i), (10, AV.bad), (11, AV.bad), (12, AV.bad), (13, AV.bad), (14, AV.bad), (15, AV.bad), (16, AV.int IntKind.i64 0), (17, AV.bad), (18, AV.bad), (19, AV.bad), (20, AV.bad), (21, AV.bad), (22, AV.bad), (25, AV.bad), (55, AV.bad), (63, AV.bad), (71, AV.bad), (72, AV.bad), (92, AV.bad), (114, AV.bad), (134, AV.bad), (144, AV.bad), (154, AV.bad), (168, AV.bad), (197, AV.bad), (199, AV.bad), (256, AV.bad), (264, AV.bad), (299, AV.bad)] [] (PH s268 (Option.getD (forgetG s266 a267) s266)) false) k)))))
 (False))
 (False))
 (False))
 (False))
 (∀ (l279 : List Int),
 (l279 = gdirts s276) →
 (l279 ≠ []) →
 cond (decide (AV.flatLen (AV.arr 1 (row encZ l275)) = List.length l275))
 (cond (decide (List.length (row encZ l275) = List.length l275))
 (cond (decide (0 + List.length l275 ≤ List.length l275))
 (cond (reflessL (List.take (List.length l275) (List.drop 0 (row encZ l275))) && true)
 (cond (decide (AV.flatLen (AV.arr 1 (row encZ l279)) = List.length l279))
 (cond (decide (List.length (row encZ l279) = List.length l279))
 (cond (decide (0 + List.length l279 ≤ List.length l279))
 (cond (reflessL (List.take (List.length l279) (List.drop 0 (row encZ l279))) && true)
 (∃ (l280 : List Int),
 ∃ (m281 : List Int),
 And ([AV.isl 1 (List.take (List.length l275) (List.drop 0 (row encZ l275))), AV.isl 1 (List.take (List.length l279) (List.drop 0 (row encZ l279)))] = [numsAV l280, numsAV m281])
 (And (([] : Heap) = [])
 (And (List.length l280 < 5000)
 (cond (!decide (l280 = m281))
 (k (AV.bool false) [] false)
 (resPS (S F) (T6 F) N 9 fuel 6 2 0 [(p7, fuel)] p6 n (St.mk [(0, AV.bad), (1, AV.isl 6 (row encSt l)), (4, AV.bad), (5, AV.ptr (Pl.mk 4 0 [] 3)), (6, AV.bad), (7, AV.ptr (Pl.mk 9 0 [] 2)), (8, AV.bad), (9, AV.int IntKind.i64 i), (10, AV.bad), (11, AV.bad), (12, AV.bad), (13, AV.bad), (14, AV.bad), (15, AV.bad), (16, AV.int IntKind.i64 0), (17, AV.bad), (18, AV.bad), (19, AV.bad), (20, AV.bad), (21, AV.bad), (22, AV.bad), (25, AV.bad), (55, AV.bad), (63, AV.bad), (71, AV.bad), (72, AV.bad), (92, AV.bad), (114, AV.bad), (134, AV.bad), (144, AV.bad), (154, AV.bad), (168, AV.bad), (197, AV.bad), (199, AV.bad), (256, AV.bad), (264, AV.bad), (299, AV.bad)] [] (PH s268 s276) false) k)))))
 (False))
 (False))
 (False))
 (False))
 (False))
 (False))
 (False))
 (False)))))))))))
 (False))))))))
 (cond (AV.toInt (AV.int IntKind.i64 (AV.toInt (AV.part (Option.getD (row encSt l)[Int.toNat i]? AV.bad) 0))) == 5)
 (∃ (fs282 : List Fr),
 ∃ (hand283 : Int),
 ∃ (a284 : Int),
 And ([AV.ptr (Pl.mk 0 0 [] 2), AV.int IntKind.i64 (AV.toInt (AV.int IntKind.i64 (AV.toInt (AV.part (Option.getD (row encSt l)[Int.toNat i]? AV.bad) 1))))] = [AV.ptr (Pl.mk 0 0 [] 2), AV.int IntKind.i64 a284])
 (And (CH s.1 s.2 = CH fs282 hand283)
 (∃ (fs285 : List Fr),
 ∃ (a286 : Int),
 And ([AV.ptr (Pl.mk 0 0 [] 2), AV.int IntKind.i64 (AV.toInt (AV.int IntKind.i64 (AV.toInt (AV.part (Option.getD (row encSt l)[Int.toNat i]? AV.bad) 1))))] = [AV.ptr (Pl.mk 0 0 [] 2), AV.int IntKind.i64 a286])
 (And (CR (List.length r.1) 0 (row encR r.1) = CR (List.length fs285) 0 (row encR fs285))
 (cond (AV.beq (AV.int IntKind.i64 (AV.toInt (AV.part (Option.getD (row encSt l)[Int.toNat i]? AV.bad) 1))) (AV.int IntKind.i64 (AV.toInt (AV.int IntKind.i64 (AV.toInt (AV.part (Option.getD (row encSt l)[Int.toNat i]? AV.bad) 1))))))
 (cond (AV.beq (AV.int IntKind.i64 (AV.toInt (AV.part (Option.getD (row encSt l)[Int.toNat i]? AV.bad) 1))) (AV.int IntKind.i64 (AV.toInt (AV.int IntKind.i64 (AV.toInt (AV.part (Option.getD (row encSt l)[Int.toNat i]? AV.bad) 1))))))
 (cond (AV.beq (AV.int IntKind.i64 (AV.toInt (AV.part (Option.getD (row encSt l)[Int.toNat i]? AV.bad) 1))) (AV.int IntKind.i64 (AV.toInt (AV.int IntKind.i64 (AV.toInt (AV.part (Option.getD (row encSt l)[Int.toNat i]? AV.bad) 1))))))
 (cond (!Option.isSome (pinF fs282 a284 true) == Option.isSome (pinG fs285 a286 true))
 (k (AV.bool false) [] false)
 (∃ (s287 : FS),
 And ([AV.ptr (Pl.mk 0 0 [] 3)] = [AV.ptr (Pl.mk 0 0 [] 3)])
 (And (FH
 (FS.mk
 (match pinF fs282 a284 true with
 | some x => x
 | none => fs282)
 hand283 s.3 s.4) =
 FH s287)
 (And (OkS s287)
 (And ((sortZ (dirties s287) = []) →
 ∃ (s288 : RS),
 And ([AV.ptr (Pl.mk 0 0 [] 2)] = [AV.ptr (Pl.mk 0 0 [] 2)])
 (And (GH
 (RS.mk
 (match pinG fs285 a286 true with
 | some x => x
 | none => fs285)
 r.2) =
 GH s288)
 (And (OkG s288)
 (And ((gdirts s288 = []) →
 ∃ (l289 : List Int),
 ∃ (m290 : List Int),
 And ([AV.nils, AV.nils] = [numsAV l289, numsAV m290])
 (And (([] : Heap) = [])
 (And (List.length l289 < 5000)
 (cond (!decide (l289 = m290))
 (k (AV.bool false) [] false)
 (resPS (S F) (T6 F) N 9 fuel 6 2 0 [(p7, fuel)] p6 n (St.mk [(0, AV.bad), (1, AV.isl 6 (row encSt l)), (4, AV.bad), (5, AV.ptr (Pl.mk 4 0 [] 3)), (6, AV.bad), (7, AV.ptr (Pl.mk 9 0 [] 2)), (8, AV.bad), (9, AV.int IntKind.i64 i), (10, AV.bad), (11, AV.bad), (12, AV.bad), (13, AV.bad), (14, AV.bad), (15, AV.bad), (16, AV.int IntKind.i64 0), (17, AV.bad), (18, AV.bad), (19, AV.bad), (20, AV.bad), (21, AV.bad), (22, AV.bad), (25, AV.bad), (55, AV.bad), (63, AV.bad), (71, AV.bad), (72, AV.bad), (92, AV.bad), (114, AV.bad), (134, AV.bad), (144, AV.bad), (154, AV.bad), (168, AV.bad), (197, AV.bad), (199, AV.bad), (256, AV.bad), (264, AV.bad), (299, AV.bad)] [] (PH (FS.mk (match pinF fs282 a284 true with | some x => x | none => fs282) hand283 s.3 s.4) (RS.mk (match pinG fs285 a286 true with | some x => x | none => fs285) r.2)) false) k)))))
 (∀ (l291 : List Int),
 (l291 = gdirts s288) →
 (l291 ≠ []) →
 cond (decide (AV.flatLen (AV.arr 1 (row encZ l291)) = List.length l291))
 (cond (decide (List.length (row encZ l291) = List.length l291))
 (cond (decide (0 + List.length l291 ≤ List.length l291))
 (cond (reflessL (List.take (List.length l291) (List.drop 0 (row encZ l291))) && true)
 (∃ (l292 : List Int),
 ∃ (m293 : List Int),
 And ([AV.nils, AV.isl 1 (List.take (List.length l291) (List.drop 0 (row encZ l291)))] = [numsAV l292, numsAV m293])
 (And (([] : Heap) = [])
 (And (List.length l292 < 5000)
 (cond (!decide (l292 = m293))
 (k (AV.bool false) [] false)
 (resPS (S F) (T6 F) N 9 fuel 6 2 0 [(p7, fuel)] p6 n (St.mk [(0, AV.bad), (1, AV.isl 6 (row encSt l)), (4, AV.bad), (5, AV.ptr (Pl.mk 4 0 [] 3)), (6, AV.bad), (7, AV.ptr (Pl.mk 9 0 [] 2)), (8, AV.bad), (9, AV.int IntKind.i64 i), (10, AV.bad), (11, AV.bad), (12, AV.bad), (13, AV.bad), (14, AV.bad), (15, AV.bad), (16, AV.int IntKind.i64 0), (17, AV.bad), (18, AV.bad), (19, AV.bad), (20, AV.bad), (21, AV.bad), (22, AV.bad), (25, AV.bad), (55, AV.bad), (63, AV.bad), (71, AV.bad), (72, AV.bad), (92, AV.bad), (114, AV.bad), (134, AV.bad), (144, AV.bad), (154, AV.bad), (168, AV.bad), (197, AV.bad), (199, AV.bad), (256, AV.bad), (264, AV.bad), (299, AV.bad)] [] (PH (FS.mk (match pinF fs282 a284 true with | some x => x | none => fs282) hand283 s.3 s.4) s288) false) k)))))
 (False))
 (False))
 (False))
 (False))))))
 (∀ (l294 : List Int),
 (l294 = sortZ (dirties s287)) →
 (l294 ≠ []) →
 ∃ (s295 : RS),
 And ([AV.ptr (Pl.mk 0 0 [] 2)] = [AV.ptr (Pl.mk 0 0 [] 2)])
 (And (GH
 (RS.mk
 (match pinG fs285 a286 true with
 | some x => x
 | none => fs285)
 r.2) =
 GH s295)
 (And (OkG s295)
 (And ((gdirts s295 = []) →
 cond (decide (AV.flatLen (AV.arr 1 (row encZ l294)) = List.length l294))
 (cond (decide (List.length (row encZ l294) = List.length l294))
 (cond (decide (0 + List.length l294 ≤ List.length l294))
 (cond (reflessL (List.take (List.length l294) (List.drop 0 (row encZ l294))) && true)
 (∃ (l296 : List Int),
 ∃ (m297 : List Int),
 And ([AV.isl 1 (List.take (List.length l294) (List.drop 0 (row encZ l294))), AV.nils] = [numsAV l296, numsAV m297])
 (And (([] : Heap) = [])
 (And (List.length l296 < 5000)
 (cond (!decide (l296 = m297))
 (k (AV.bool false) [] false)
 (resPS (S F) (T6 F) N 9 fuel 6 2 0 [(p7, fuel)] p6 n (St.mk [(0, AV.bad), (1, AV.isl 6 (row encSt l)), (4, AV.bad), (5, AV.ptr (Pl.mk 4 0 [] 3)), (6, AV.bad), (7, AV.ptr (Pl.mk 9 0 [] 2)), (8, AV.bad), (9, AV.int IntKind.i64 i), (10, AV.bad), (11, AV.bad), (12, AV.bad), (13, AV.bad), (14, AV.bad), (15, AV.bad), (16, AV.int IntKind.i64 0), (17, AV.bad), (18, AV.bad), (19, AV.bad), (20, AV.bad), (21, AV.bad), (22, AV.bad), (25, AV.bad), (55, AV.bad), (63, AV.bad), (71, AV.bad), (72, AV.bad), (92, AV.bad), (114, AV.bad), (134, AV.bad), (144, AV.bad), (154, AV.bad), (168, AV.bad), (197, AV.bad), (199, AV.bad), (256, AV.bad), (264, AV.bad), (299, AV.bad)] [] (PH s287 (RS.mk (match pinG fs285 a286 true with | some x => x | none => fs285) r.2)) false) k)))))
 (False))
 (False))
 (False))
 (False))
 (∀ (l298 : List Int),
 (l298 = gdirts s295) →
 (l298 ≠ []) →
 cond (decide (AV.flatLen (AV.arr 1 (row encZ l294)) = List.length l294))
 (cond (decide (List.length (row encZ l294) = List.length l294))
 (cond (decide (0 + List.length l294 ≤ List.length l294))
 (cond (reflessL (List.take (List.length l294) (List.drop 0 (row encZ l294))) && true)
 (cond (decide (AV.flatLen (AV.arr 1 (row encZ l298)) = List.length l298))
 (cond (decide (List.length (row encZ l298) = List.length l298))
 (cond (decide (0 + List.length l298 ≤ List.length l298))
 (cond (reflessL (List.take (List.length l298) (List.drop 0 (row encZ l298))) && true)
 (∃ (l299 : List Int),
 ∃ (m300 : List Int),
 And ([AV.isl 1 (List.take (List.length l294) (List.drop 0 (row encZ l294))), AV.isl 1 (List.take (List.length l298) (List.drop 0 (row encZ l298)))] = [numsAV l299, numsAV m300])
 (And (([] : Heap) = [])
 (And (List.length l299 < 5000)
 (cond (!decide (l299 = m300))
 (k (AV.bool false) [] false)
 (resPS (S F) (T6 F) N 9 fuel 6 2 0 [(p7, fuel)] p6 n (St.mk [(0, AV.bad), (1, AV.isl 6 (row encSt l)), (4, AV.bad), (5, AV.ptr (Pl.mk 4 0 [] 3)), (6, AV.bad), (7, AV.ptr (Pl.mk 9 0 [] 2)), (8, AV.bad), (9, AV.int IntKind.i64 i), (10, AV.bad), (11, AV.bad), (12, AV.bad), (13, AV.bad), (14, AV.bad), (15, AV.bad), (16, AV.int IntKind.i64 0), (17, AV.bad), (18, AV.bad), (19, AV.bad), (20, AV.bad), (21, AV.bad), (22, AV.bad), (25, AV.bad), (55, AV.bad), (63, AV.bad), (71, AV.bad), (72, AV.bad), (92, AV.bad), (114, AV.bad), (134, AV.bad), (144, AV.bad), (154, AV.bad), (168, AV.bad), (197, AV.bad), (199, AV.bad), (256, AV.bad), (264, AV.bad), (299, AV.bad)] [] (PH s287 s295) false) k)))))
 (False))
 (False))
 (False))
 (False))
 (False))
 (False))
 (False))
 (False)))))))))))
 (False))
 (False))
 (False))))))
 (cond (AV.toInt (AV.int IntKind.i64 (AV.toInt (AV.part (Option.getD (row encSt l)[Int.toNat i]? AV.bad) 0))) == 6)
 (∃ (fs301 : List Fr),
 ∃ (hand302 : Int),
 ∃ (a303 : Int),
 And ([AV.ptr (Pl.mk 0 0 [] 2), AV.int IntKind.i64 (AV.toInt (AV.int IntKind.i64 (AV.toInt (AV.part (Option.getD (row encSt l)[Int.toNat i]? AV.bad) 1))))] = [AV.ptr (Pl.mk 0 0 [] 2), AV.int IntKind.i64 a303])
 (And (CH s.1 s.2 = CH fs301 hand302)
 (∃ (fs304 : List Fr),
 ∃ (a305 : Int),
 And ([AV.ptr (Pl.mk 0 0 [] 2), AV.int IntKind.i64 (AV.toInt (AV.int IntKind.i64 (AV.toInt (AV.part (Option.getD (row encSt l)[Int.toNat i]? AV.bad) 1))))] = [AV.ptr (Pl.mk 0 0 [] 2), AV.int IntKind.i64 a305])
 (And (CR (List.length r.1) 0 (row encR r.1) = CR (List.length fs304) 0 (row encR fs304))
 (cond (AV.beq (AV.int IntKind.i64 (AV.toInt (AV.part (Option.getD (row encSt l)[Int.toNat i]? AV.bad) 1))) (AV.int IntKind.i64 (AV.toInt (AV.int IntKind.i64 (AV.toInt (AV.part (Option.getD (row encSt l)[Int.toNat i]? AV.bad) 1))))))
 (cond (AV.beq (AV.int IntKind.i64 (AV.toInt (AV.part (Option.getD (row encSt l)[Int.toNat i]? AV.bad) 1))) (AV.int IntKind.i64 (AV.toInt (AV.int IntKind.i64 (AV.toInt (AV.part (Option.getD (row encSt l)[Int.toNat i]? AV.bad) 1))))))
 (cond (AV.beq (AV.int IntKind.i64 (AV.toInt (AV.part (Option.getD (row encSt l)[Int.toNat i]? AV.bad) 1))) (AV.int IntKind.i64 (AV.toInt (AV.int IntKind.i64 (AV.toInt (AV.part (Option.getD (row encSt l)[Int.toNat i]? AV.bad) 1))))))
 (cond (!Option.isSome (pinF fs301 a303 false) == Option.isSome (pinG fs304 a305 false))
 (k (AV.bool false) [] false)
 (∃ (s306 : FS),
 And ([AV.ptr (Pl.mk 0 0 [] 3)] = [AV.ptr (Pl.mk 0 0 [] 3)])
 (And (FH
 (FS.mk
 (match pinF fs301 a303 false with
 | some x => x
 | none => fs301)
 hand302 s.3 s.4) =
 FH s306)
 (And (OkS s306)
 (And ((sortZ (dirties s306) = []) →
 ∃ (s307 : RS),
 And ([AV.ptr (Pl.mk 0 0 [] 2)] = [AV.ptr (Pl.mk 0 0 [] 2)])
 (And (GH
 (RS.mk
 (match pinG fs304 a305 false with
 | some x => x
 | none => fs304)
 r.2) =
 GH s307)
 (And (OkG s307)
 (And ((gdirts s307 = []) →
 ∃ (l308 : List Int),
 ∃ (m309 : List Int),
 And ([AV.nils, AV.nils] = [numsAV l308, numsAV m309])
 (And (([] : Heap) = [])
 (And (List.length l308 < 5000)
 (cond (!decide (l308 = m309))
 (k (AV.bool false) [] false)
 (resPS (S F) (T6 F) N 9 fuel 6 2 0 [(p7, fuel)] p6 n (St.mk [(0, AV.bad), (1, AV.isl 6 (row encSt l)), (4, AV.bad), (5, AV.ptr (Pl.mk 4 0 [] 3)), (6, AV.bad), (7, AV.ptr (Pl.mk 9 0 [] 2)), (8, AV.bad), (9, AV.int IntKind.i64 i), (10, AV.bad), (11, AV.bad), (12, AV.bad), (13, AV.bad), (14, AV.bad), (15, AV.bad), (16, AV.int IntKind.i64 0), (17, AV.bad), (18, AV.bad), (19, AV.bad), (20, AV.bad), (21, AV.bad), (22, AV.bad), (25, AV.bad), (55, AV.bad), (63, AV.bad), (71, AV.bad), (72, AV.bad), (92, AV.bad), (114, AV.bad), (134, AV.bad), (144, AV.bad), (154, AV.bad), (168, AV.bad), (197, AV.bad), (199, AV.bad), (256, AV.bad), (264, AV.bad), (299, AV.bad)] [] (PH (FS.mk (match pinF fs301 a303 false with | some x => x | none => fs301) hand302 s.3 s.4) (RS.mk (match pinG fs304 a305 false with | some x => x | none => fs304) r.2)) false) k)))))
 (∀ (l310 : List Int),
 (l310 = gdirts s307) →
 (l310 ≠ []) →
 cond (decide (AV.flatLen (AV.arr 1 (row encZ l310)) = List.length l310))
 (cond (decide (List.length (row encZ l310) = List.length l310))
 (cond (decide (0 + List.length l310 ≤ List.length l310))
 (cond (reflessL (List.take (List.length l310) (List.drop 0 (row encZ l310))) && true)
 (∃ (l311 : List Int),
 ∃ (m312 : List Int),
 And ([AV.nils, AV.isl 1 (List.take (List.length l310) (List.drop 0 (row encZ l310)))] = [numsAV l311, numsAV m312])
 (And (([] : Heap) = [])
 (And (List.length l311 < 5000)
 (cond (!decide (l311 = m312))
 (k (AV.bool false) [] false)
 (resPS (S F) (T6 F) N 9 fuel 6 2 0 [(p7, fuel)] p6 n (St.mk [(0, AV.bad), (1, AV.isl 6 (row encSt l)), (4, AV.bad), (5, AV.ptr (Pl.mk 4 0 [] 3)), (6, AV.bad), (7, AV.ptr (Pl.mk 9 0 [] 2)), (8, AV.bad), (9, AV.int IntKind.i64 i), (10, AV.bad), (11, AV.bad), (12, AV.bad), (13, AV.bad), (14, AV.bad), (15, AV.bad), (16, AV.int IntKind.i64 0), (17, AV.bad), (18, AV.bad), (19, AV.bad), (20, AV.bad), (21, AV.bad), (22, AV.bad), (25, AV.bad), (55, AV.bad), (63, AV.bad), (71, AV.bad), (72, AV.bad), (92, AV.bad), (114, AV.bad), (134, AV.bad), (144, AV.bad), (154, AV.bad), (168, AV.bad), (197, AV.bad), (199, AV.bad), (256, AV.bad), (264, AV.bad), (299, AV.bad)] [] (PH (FS.mk (match pinF fs301 a303 false with | some x => x | none => fs301) hand302 s.3 s.4) s307) false) k)))))
 (False))
 (False))
 (False))
 (False))))))
 (∀ (l313 : List Int),
 (l313 = sortZ (dirties s306)) →
 (l313 ≠ []) →
 ∃ (s314 : RS),
 And ([AV.ptr (Pl.mk 0 0 [] 2)] = [AV.ptr (Pl.mk 0 0 [] 2)])
 (And (GH
 (RS.mk
 (match pinG fs304 a305 false with
 | some x => x
 | none => fs304)
 r.2) =
 GH s314)
 (And (OkG s314)
 (And ((gdirts s314 = []) →
 cond (decide (AV.flatLen (AV.arr 1 (row encZ l313)) = List.length l313))
 (cond (decide (List.length (row encZ l313) = List.length l313))
 (cond (decide (0 + List.length l313 ≤ List.length l313))
 (cond (reflessL (List.take (List.length l313) (List.drop 0 (row encZ l313))) && true)
 (∃ (l315 : List Int),
 ∃ (m316 : List Int),
 And ([AV.isl 1 (List.take (List.length l313) (List.drop 0 (row encZ l313))), AV.nils] = [numsAV l315, numsAV m316])
 (And (([] : Heap) = [])
 (And (List.length l315 < 5000)
 (cond (!decide (l315 = m316))
 (k (AV.bool false) [] false)
 (resPS (S F) (T6 F) N 9 fuel 6 2 0 [(p7, fuel)] p6 n (St.mk [(0, AV.bad), (1, AV.isl 6 (row encSt l)), (4, AV.bad), (5, AV.ptr (Pl.mk 4 0 [] 3)), (6, AV.bad), (7, AV.ptr (Pl.mk 9 0 [] 2)), (8, AV.bad), (9, AV.int IntKind.i64 i), (10, AV.bad), (11, AV.bad), (12, AV.bad), (13, AV.bad), (14, AV.bad), (15, AV.bad), (16, AV.int IntKind.i64 0), (17, AV.bad), (18, AV.bad), (19, AV.bad), (20, AV.bad), (21, AV.bad), (22, AV.bad), (25, AV.bad), (55, AV.bad), (63, AV.bad), (71, AV.bad), (72, AV.bad), (92, AV.bad), (114, AV.bad), (134, AV.bad), (144, AV.bad), (154, AV.bad), (168, AV.bad), (197, AV.bad), (199, AV.bad), (256, AV.bad), (264, AV.bad), (299, AV.bad)] [] (PH s306 (RS.mk (match pinG fs304 a305 false with | some x => x | none => fs304) r.2)) false) k)))))
 (False))
 (False))
 (False))
 (False))
 (∀ (l317 : List Int),
 (l317 = gdirts s314) →
 (l317 ≠ []) →
 cond (decide (AV.flatLen (AV.arr 1 (row encZ l313)) = List.length l313))
 (cond (decide (List.length (row encZ l313) = List.length l313))
 (cond (decide (0 + List.length l313 ≤ List.length l313))
 (cond (reflessL (List.take (List.length l313) (List.drop 0 (row encZ l313))) && true)
 (cond (decide (AV.flatLen (AV.arr 1 (row encZ l317)) = List.length l317))
 (cond (decide (List.length (row encZ l317) = List.length l317))
 (cond (decide (0 + List.length l317 ≤ List.length l317))
 (cond (reflessL (List.take (List.length l317) (List.drop 0 (row encZ l317))) && true)
 (∃ (l318 : List Int),
 ∃ (m319 : List Int),
 And ([AV.isl 1 (List.take (List.length l313) (List.drop 0 (row encZ l313))), AV.isl 1 (List.take (List.length l317) (List.drop 0 (row encZ l317)))] = [numsAV l318, numsAV m319])
 (And (([] : Heap) = [])
 (And (List.length l318 < 5000)
 (cond (!decide (l318 = m319))
 (k (AV.bool false) [] false)
 (resPS (S F) (T6 F) N 9 fuel 6 2 0 [(p7, fuel)] p6 n (St.mk [(0, AV.bad), (1, AV.isl 6 (row encSt l)), (4, AV.bad), (5, AV.ptr (Pl.mk 4 0 [] 3)), (6, AV.bad), (7, AV.ptr (Pl.mk 9 0 [] 2)), (8, AV.bad), (9, AV.int IntKind.i64 i), (10, AV.bad), (11, AV.bad), (12, AV.bad), (13, AV.bad), (14, AV.bad), (15, AV.bad), (16, AV.int IntKind.i64 0), (17, AV.bad), (18, AV.bad), (19, AV.bad), (20, AV.bad), (21, AV.bad), (22, AV.bad), (25, AV.bad), (55, AV.bad), (63, AV.bad), (71, AV.bad), (72, AV.bad), (92, AV.bad), (114, AV.bad), (134, AV.bad), (144, AV.bad), (154, AV.bad), (168, AV.bad), (197, AV.bad), (199, AV.bad), (256, AV.bad), (264, AV.bad), (299, AV.bad)] [] (PH s306 s314) false) k)))))
 (False))
 (False))
 (False))
 (False))
 (False))
 (False))
 (False))
 (False)))))))))))
 (False))
 (False))
 (False))))))
 (∃ (s320 : FS),
 And ([AV.ptr (Pl.mk 0 0 [] 3)] = [AV.ptr (Pl.mk 0 0 [] 3)])
 (And (FH s = FH s320)
 (And (OkS s320)
 (And ((sortZ (dirties s320) = []) →
 ∃ (s321 : RS),
 And ([AV.ptr (Pl.mk 0 0 [] 2)] = [AV.ptr (Pl.mk 0 0 [] 2)])
 (And (GH r = GH s321)
 (And (OkG s321)
 (And ((gdirts s321 = []) →
 ∃ (l322 : List Int),
 ∃ (m323 : List Int),
 And ([AV.nils, AV.nils] = [numsAV l322, numsAV m323])
 (And (([] : Heap) = [])
 (And (List.length l322 < 5000)
 (cond (!decide (l322 = m323))
 (k (AV.bool false) [] false)
 (resPS (S F) (T6 F) N 9 fuel 6 2 0 [(p7, fuel)] p6 n (St.mk [(0, AV.bad), (1, AV.isl 6 (row encSt l)), (4, AV.bad), (5, AV.ptr (Pl.mk 4 0 [] 3)), (6, AV.bad), (7, AV.ptr (Pl.mk 9 0 [] 2)), (8, AV.bad), (9, AV.int IntKind.i64 i), (10, AV.bad), (11, AV.bad), (12, AV.bad), (13, AV.bad), (14, AV.bad), (15, AV.bad), (16, AV.int IntKind.i64 0), (17, AV.bad), (18, AV.bad), (19, AV.bad), (20, AV.bad), (21, AV.bad), (22, AV.bad), (25, AV.bad), (55, AV.bad), (63, AV.bad), (71, AV.bad), (72, AV.bad), (92, AV.bad), (114, AV.bad), (134, AV.bad), (144, AV.bad), (154, AV.bad), (168, AV.bad), (197, AV.bad), (199, AV.bad), (256, AV.bad), (264, AV.bad), (299, AV.bad)] [] (PH s r) false) k)))))
 (∀ (l324 : List Int),
 (l324 = gdirts s321) →
 (l324 ≠ []) →
 cond (decide (AV.flatLen (AV.arr 1 (row encZ l324)) = List.length l324))
 (cond (decide (List.length (row encZ l324) = List.length l324))
 (cond (decide (0 + List.length l324 ≤ List.length l324))
 (cond (reflessL (List.take (List.length l324) (List.drop 0 (row encZ l324))) && true)
 (∃ (l325 : List Int),
 ∃ (m326 : List Int),
 And ([AV.nils, AV.isl 1 (List.take (List.length l324) (List.drop 0 (row encZ l324)))] = [numsAV l325, numsAV m326])
 (And (([] : Heap) = [])
 (And (List.length l325 < 5000)
 (cond (!decide (l325 = m326))
 (k (AV.bool false) [] false)
 (resPS (S F) (T6 F) N 9 fuel 6 2 0 [(p7, fuel)] p6 n (St.mk [(0, AV.bad), (1, AV.isl 6 (row encSt l)), (4, AV.bad), (5, AV.ptr (Pl.mk 4 0 [] 3)), (6, AV.bad), (7, AV.ptr (Pl.mk 9 0 [] 2)), (8, AV.bad), (9, AV.int IntKind.i64 i), (10, AV.bad), (11, AV.bad), (12, AV.bad), (13, AV.bad), (14, AV.bad), (15, AV.bad), (16, AV.int IntKind.i64 0), (17, AV.bad), (18, AV.bad), (19, AV.bad), (20, AV.bad), (21, AV.bad), (22, AV.bad), (25, AV.bad), (55, AV.bad), (63, AV.bad), (71, AV.bad), (72, AV.bad), (92, AV.bad), (114, AV.bad), (134, AV.bad), (144, AV.bad), (154, AV.bad), (168, AV.bad), (197, AV.bad), (199, AV.bad), (256, AV.bad), (264, AV.bad), (299, AV.bad)] [] (PH s s321) false) k)))))
 (False))
 (False))
 (False))
 (False))))))
 (∀ (l327 : List Int),
 (l327 = sortZ (dirties s320)) →
 (l327 ≠ []) →
 ∃ (s328 : RS),
 And ([AV.ptr (Pl.mk 0 0 [] 2)] = [AV.ptr (Pl.mk 0 0 [] 2)])
 (And (GH r = GH s328)
 (And (OkG s328)
 (And ((gdirts s328 = []) →
 cond (decide (AV.flatLen (AV.arr 1 (row encZ l327)) = List.length l327))
 (cond (decide (List.length (row encZ l327) = List.length l327))
 (cond (decide (0 + List.length l327 ≤ List.length l327))
 (cond (reflessL (List.take (List.length l327) (List.drop 0 (row encZ l327))) && true)
 (∃ (l329 : List Int),
 ∃ (m330 : List Int),
 And ([AV.isl 1 (List.take (List.length l327) (List.drop 0 (row encZ l327))), AV.nils] = [numsAV l329, numsAV m330])
 (And (([] : Heap) = [])
 (And (List.length l329 < 5000)
 (cond (!decide (l329 = m330))
 (k (AV.bool false) [] false)
 (resPS (S F) (T6 F) N 9 fuel 6 2 0 [(p7, fuel)] p6 n (St.mk [(0, AV.bad), (1, AV.isl 6 (row encSt l)), (4, AV.bad), (5, AV.ptr (Pl.mk 4 0 [] 3)), (6, AV.bad), (7, AV.ptr (Pl.mk 9 0 [] 2)), (8, AV.bad), (9, AV.int IntKind.i64 i), (10, AV.bad), (11, AV.bad), (12, AV.bad), (13, AV.bad), (14, AV.bad), (15, AV.bad), (16, AV.int IntKind.i64 0), (17, AV.bad), (18, AV.bad), (19, AV.bad), (20, AV.bad), (21, AV.bad), (22, AV.bad), (25, AV.bad), (55, AV.bad), (63, AV.bad), (71, AV.bad), (72, AV.bad), (92, AV.bad), (114, AV.bad), (134, AV.bad), (144, AV.bad), (154, AV.bad), (168, AV.bad), (197, AV.bad), (199, AV.bad), (256, AV.bad), (264, AV.bad), (299, AV.bad)] [] (PH s320 r) false) k)))))
 (False))
 (False))
 (False))
 (False))
 (∀ (l331 : List Int),
 (l331 = gdirts s328) →
 (l331 ≠ []) →
 cond (decide (AV.flatLen (AV.arr 1 (row encZ l327)) = List.length l327))
 (cond (decide (List.length (row encZ l327) = List.length l327))
 (cond (decide (0 + List.length l327 ≤ List.length l327))
 (cond (reflessL (List.take (List.length l327) (List.drop 0 (row encZ l327))) && true)
 (cond (decide (AV.flatLen (AV.arr 1 (row encZ l331)) = List.length l331))
 (cond (decide (List.length (row encZ l331) = List.length l331))
 (cond (decide (0 + List.length l331 ≤ List.length l331))
 (cond (reflessL (List.take (List.length l331) (List.drop 0 (row encZ l331))) && true)
 (∃ (l332 : List Int),
 ∃ (m333 : List Int),
 And ([AV.isl 1 (List.take (List.length l327) (List.drop 0 (row encZ l327))), AV.isl 1 (List.take (List.length l331) (List.drop 0 (row encZ l331)))] = [numsAV l332, numsAV m333])
 (And (([] : Heap) = [])
 (And (List.length l332 < 5000)
 (cond (!decide (l332 = m333))
 (k (AV.bool false) [] false)
 (resPS (S F) (T6 F) N 9 fuel 6 2 0 [(p7, fuel)] p6 n (St.mk [(0, AV.bad), (1, AV.isl 6 (row encSt l)), (4, AV.bad), (5, AV.ptr (Pl.mk 4 0 [] 3)), (6, AV.bad), (7, AV.ptr (Pl.mk 9 0 [] 2)), (8, AV.bad), (9, AV.int IntKind.i64 i), (10, AV.bad), (11, AV.bad), (12, AV.bad), (13, AV.bad), (14, AV.bad), (15, AV.bad), (16, AV.int IntKind.i64 0), (17, AV.bad), (18, AV.bad), (19, AV.bad), (20, AV.bad), (21, AV.bad), (22, AV.bad), (25, AV.bad), (55, AV.bad), (63, AV.bad), (71, AV.bad), (72, AV.bad), (92, AV.bad), (114, AV.bad), (134, AV.bad), (144, AV.bad), (154, AV.bad), (168, AV.bad), (197, AV.bad), (199, AV.bad), (256, AV.bad), (264, AV.bad), (299, AV.bad)] [] (PH s320 s328) false) k)))))
 (False))
 (False))
 (False))
 (False))
 (False))
 (False))
 (False))
 (False)))))))))))))))))
 (False)))
 (False))
 (False))
 (False))
 (False))
 (False))
 (False))
 (False))
 (And (([] : List AV) = [])
 (k (AV.bool true) [] false))) : Prop) := by kernel_rfl
end Go.Proofs.YtlnbbgagccgnjaaDoor
