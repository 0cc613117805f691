/- FramesPlay: a page of a step.
-/
import Derived.Test.YtlnbbgagccgnjaaDoorKah
import Derived.Test.YtlnbbgagccgnjaaDoorKag

namespace Go.Proofs.YtlnbbgagccgnjaaDoor
open Go Go.X
variable {F : Nat}
abbrev L7 (xs : List AV) (i p : Int) : List (Nat × AV) := [(0, .bad), (1, .isl 6 xs), (4, .bad), (5, FP), (6, .bad), (7, QP), (8, .bad), (9, .int .i64 i)] ++ ([10, 11, 12, 13, 14, 15].map fun t => (t, AV.bad)) ++ [(16, .int .i64 p)] ++ ([17, 18, 19, 20, 21, 22, 25, 55, 63, 71, 72, 92, 114, 134, 144, 154, 168, 197, 199, 256, 264, 299].map fun t => (t, AV.bad))
theorem inner6 (N fuel n m : Nat) (l : List Stp) (i p : Int) (s : FS) (r : RS) (k : AV → Heap → Bool → Prop) :
 (resPS (S F) (T6 F) N 9 fuel 6 2 0 [(p7, m + 1)] p6 n ⟨L7 (row encSt l) i p, [], PH s r, false⟩ k) =
 ((cond (decide (p < 12))
 (∃ (s0 : FS),
 ∃ (a1 : Int),
 And ([AV.ptr (Pl.mk 0 0 [] 3), AV.int IntKind.i64 p] = [AV.ptr (Pl.mk 0 0 [] 3), AV.int IntKind.i64 a1])
 (And (FH s = FH s0)
 (And (OkS s0)
 (∃ (s2 : RS),
 ∃ (a3 : Int),
 And ([AV.ptr (Pl.mk 0 0 [] 2), AV.int IntKind.i64 p] = [AV.ptr (Pl.mk 0 0 [] 2), AV.int IntKind.i64 a3])
 (And (GH r = GH s2)
 (And (OkG s2)
 (cond (!Option.isSome (pgR s0 a1) == decide (fV (ofG s2 a3) ≥ 0))
 (k (AV.bool false) [] false)
 (cond (Option.isSome (pgR s0 a1))
 (cond (decide (0 ≤ fV (ofG s2 a3)))
 (cond (decide (Int.toNat (fV (ofG s2 a3)) < List.length r.2))
 (cond (okAt (AV.arr 72 (row encHd r.2)) [0 + Int.toNat (fV (ofG s2 a3)), 0] (0 + (0 + Int.toNat (fV (ofG s2 a3))) * 72 + 0) (72 * List.length r.2) true 32)
 (cond (AV.isArrI (projT [0 + Int.toNat (fV (ofG s2 a3)), 0] (AV.arr 72 (row encHd r.2))) 32 IntKind.u8)
 (cond (Option.isSome (eqNil Tryd.prog 32 (Operand.tmp 219) (Operand.tmp 227) (AV.arr 1 (arI IntKind.u8 32 (AV.arr 1 (encL IntKind.u8 32 (Option.getD (Option.map Pg.base (pgR s0 a1)) (Ar.zero 32)).1)))) (AV.arr 1 (arI IntKind.u8 32 (projT [0 + Int.toNat (fV (ofG s2 a3)), 0] (AV.arr 72 (row encHd r.2)))))))
 (cond (!Option.getD (eqNil Tryd.prog 32 (Operand.tmp 219) (Operand.tmp 227) (AV.arr 1 (arI IntKind.u8 32 (AV.arr 1 (encL IntKind.u8 32 (Option.getD (Option.map Pg.base (pgR s0 a1)) (Ar.zero 32)).1)))) (AV.arr 1 (arI IntKind.u8 32 (projT [0 + Int.toNat (fV (ofG s2 a3)), 0] (AV.arr 72 (row encHd r.2)))))) false)
 (k (AV.bool false) [] false)
 (cond (decide (0 ≤ fV (ofG s2 a3)))
 (cond (decide (Int.toNat (fV (ofG s2 a3)) < List.length r.2))
 (cond (okAt (AV.arr 72 (row encHd r.2)) [0 + Int.toNat (fV (ofG s2 a3)), 1] (0 + (0 + Int.toNat (fV (ofG s2 a3))) * 72 + 32) (72 * List.length r.2) true 32)
 (cond (AV.isArrI (projT [0 + Int.toNat (fV (ofG s2 a3)), 1] (AV.arr 72 (row encHd r.2))) 32 IntKind.u8)
 (cond (Option.isSome (eqNil Tryd.prog 32 (Operand.tmp 230) (Operand.tmp 238) (AV.arr 1 (arI IntKind.u8 32 (AV.arr 1 (encL IntKind.u8 32 (Option.getD (Option.map Pg.now (pgR s0 a1)) (Ar.zero 32)).1)))) (AV.arr 1 (arI IntKind.u8 32 (projT [0 + Int.toNat (fV (ofG s2 a3)), 1] (AV.arr 72 (row encHd r.2)))))))
 (cond (!Option.getD (eqNil Tryd.prog 32 (Operand.tmp 230) (Operand.tmp 238) (AV.arr 1 (arI IntKind.u8 32 (AV.arr 1 (encL IntKind.u8 32 (Option.getD (Option.map Pg.now (pgR s0 a1)) (Ar.zero 32)).1)))) (AV.arr 1 (arI IntKind.u8 32 (projT [0 + Int.toNat (fV (ofG s2 a3)), 1] (AV.arr 72 (row encHd r.2)))))) false)
 (k (AV.bool false) [] false)
 (cond (!Option.isSome (pgR s0 a1))
 (cond (Option.isSome (eqNil Tryd.prog 32 (Operand.tmp 247) (Operand.tmp 248) (AV.arr 1 (arI IntKind.u8 32 (AV.arr 1 (encL IntKind.u8 32 (Option.getD (Option.map Pg.base (pgR s0 a1)) (Ar.zero 32)).1)))) (AV.arr 1 (encL IntKind.u8 32 fun (_i : Nat) => 0))))
 (cond (!Option.getD (eqNil Tryd.prog 32 (Operand.tmp 247) (Operand.tmp 248) (AV.arr 1 (arI IntKind.u8 32 (AV.arr 1 (encL IntKind.u8 32 (Option.getD (Option.map Pg.base (pgR s0 a1)) (Ar.zero 32)).1)))) (AV.arr 1 (encL IntKind.u8 32 fun (_i : Nat) => 0))) false)
 (k (AV.bool false) [] false)
 (cond (Option.isSome (eqNil Tryd.prog 32 (Operand.tmp 251) (Operand.tmp 252) (AV.arr 1 (arI IntKind.u8 32 (AV.arr 1 (encL IntKind.u8 32 (Option.getD (Option.map Pg.now (pgR s0 a1)) (Ar.zero 32)).1)))) (AV.arr 1 (encL IntKind.u8 32 fun (_i : Nat) => 0))))
 (cond (!Option.getD (eqNil Tryd.prog 32 (Operand.tmp 251) (Operand.tmp 252) (AV.arr 1 (arI IntKind.u8 32 (AV.arr 1 (encL IntKind.u8 32 (Option.getD (Option.map Pg.now (pgR s0 a1)) (Ar.zero 32)).1)))) (AV.arr 1 (encL IntKind.u8 32 fun (_i : Nat) => 0))) false)
 (k (AV.bool false) [] false)
 (∃ (s4 : FS),
 ∃ (a5 : Int),
 And ([AV.ptr (Pl.mk 0 0 [] 3), AV.int IntKind.i64 p] = [AV.ptr (Pl.mk 0 0 [] 3), AV.int IntKind.i64 a5])
 (And (FH s = FH s4)
 (And (OkS s4)
 (cond (decide (p < 8))
 (∃ (fs6 : List Fr),
 ∃ (key7 : Int),
 And ([AV.ptr (Pl.mk 0 0 [] 2), AV.int IntKind.i64 (IntKind.wrap IntKind.i64 (64 + p))] = [AV.ptr (Pl.mk 0 0 [] 2), AV.int IntKind.i64 key7])
 (And (CR (List.length r.1) 0 (row encR r.1) = CR (List.length fs6) 0 (row encR fs6))
 (And (List.length fs6 < 1000)
 (cond (!Option.isSome (mapR s4 a5) == decide (fV (fR key7 fs6) ≥ 0))
 (k (AV.bool false) [] false)
 (cond (Option.isSome (mapR s4 a5))
 (cond (decide (0 ≤ fV (fR key7 fs6)))
 (cond (decide (Int.toNat (fV (fR key7 fs6)) < List.length r.2))
 (cond (okAt (AV.arr 72 (row encHd r.2)) [0 + Int.toNat (fV (fR key7 fs6)), 2] (0 + (0 + Int.toNat (fV (fR key7 fs6))) * 72 + 64) (72 * List.length r.2) true 8)
 (cond (AV.isArrI (projT [0 + Int.toNat (fV (fR key7 fs6)), 2] (AV.arr 72 (row encHd r.2))) 8 IntKind.i64)
 (cond (Option.isSome (eqNil Tryd.prog 49 (Operand.tmp 279) (Operand.tmp 287) (AV.arr 1 (arI IntKind.i64 8 (AV.arr 1 (encL IntKind.i64 8 (Option.getD (mapR s4 a5) (Ar.zero 8)).1)))) (AV.arr 1 (arI IntKind.i64 8 (projT [0 + Int.toNat (fV (fR key7 fs6)), 2] (AV.arr 72 (row encHd r.2)))))))
 (cond (!Option.getD (eqNil Tryd.prog 49 (Operand.tmp 279) (Operand.tmp 287) (AV.arr 1 (arI IntKind.i64 8 (AV.arr 1 (encL IntKind.i64 8 (Option.getD (mapR s4 a5) (Ar.zero 8)).1)))) (AV.arr 1 (arI IntKind.i64 8 (projT [0 + Int.toNat (fV (fR key7 fs6)), 2] (AV.arr 72 (row encHd r.2)))))) false)
 (k (AV.bool false) [] false)
 (cond (!Option.isSome (mapR s4 a5))
 (cond (Option.isSome (eqNil Tryd.prog 49 (Operand.tmp 295) (Operand.tmp 296) (AV.arr 1 (arI IntKind.i64 8 (AV.arr 1 (encL IntKind.i64 8 (Option.getD (mapR s4 a5) (Ar.zero 8)).1)))) (AV.arr 1 (encL IntKind.i64 8 fun (_i : Nat) => 0))))
 (cond (!Option.getD (eqNil Tryd.prog 49 (Operand.tmp 295) (Operand.tmp 296) (AV.arr 1 (arI IntKind.i64 8 (AV.arr 1 (encL IntKind.i64 8 (Option.getD (mapR s4 a5) (Ar.zero 8)).1)))) (AV.arr 1 (encL IntKind.i64 8 fun (_i : Nat) => 0))) false)
 (k (AV.bool false) [] false)
 (resPS (S F) (T6 F) N 9 fuel 6 2 0 [(p7, m)] p6 n (St.mk [(0, AV.bad), (1, AV.isl 6 (row encSt l)), (4, AV.bad), (5, AV.ptr (Pl.mk 4 0 [] 3)), (6, AV.bad), (7, AV.ptr (Pl.mk 9 0 [] 2)), (8, AV.bad), (9, AV.int IntKind.i64 i), (10, AV.bad), (11, AV.bad), (12, AV.bad), (13, AV.bad), (14, AV.bad), (15, AV.bad), (16, AV.int IntKind.i64 (IntKind.wrap IntKind.i64 (p + 1))), (17, AV.bad), (18, AV.bad), (19, AV.bad), (20, AV.bad), (21, AV.bad), (22, AV.bad), (25, AV.bad), (55, AV.bad), (63, AV.bad), (71, AV.bad), (72, AV.bad), (92, AV.bad), (114, AV.bad), (134, AV.bad), (144, AV.bad), (154, AV.bad), (168, AV.bad), (197, AV.bad), (199, AV.bad), (256, AV.bad), (264, AV.bad), (299, AV.bad)] [] (PH s r) false) k))
 (False))
 (resPS (S F) (T6 F) N 9 fuel 6 2 0 [(p7, m)] p6 n (St.mk [(0, AV.bad), (1, AV.isl 6 (row encSt l)), (4, AV.bad), (5, AV.ptr (Pl.mk 4 0 [] 3)), (6, AV.bad), (7, AV.ptr (Pl.mk 9 0 [] 2)), (8, AV.bad), (9, AV.int IntKind.i64 i), (10, AV.bad), (11, AV.bad), (12, AV.bad), (13, AV.bad), (14, AV.bad), (15, AV.bad), (16, AV.int IntKind.i64 (IntKind.wrap IntKind.i64 (p + 1))), (17, AV.bad), (18, AV.bad), (19, AV.bad), (20, AV.bad), (21, AV.bad), (22, AV.bad), (25, AV.bad), (55, AV.bad), (63, AV.bad), (71, AV.bad), (72, AV.bad), (92, AV.bad), (114, AV.bad), (134, AV.bad), (144, AV.bad), (154, AV.bad), (168, AV.bad), (197, AV.bad), (199, AV.bad), (256, AV.bad), (264, AV.bad), (299, AV.bad)] [] (PH s r) false) k)))
 (False))
 (False))
 (False))
 (False))
 (False))
 (cond (!Option.isSome (mapR s4 a5))
 (cond (Option.isSome (eqNil Tryd.prog 49 (Operand.tmp 295) (Operand.tmp 296) (AV.arr 1 (arI IntKind.i64 8 (AV.arr 1 (encL IntKind.i64 8 (Option.getD (mapR s4 a5) (Ar.zero 8)).1)))) (AV.arr 1 (encL IntKind.i64 8 fun (_i : Nat) => 0))))
 (cond (!Option.getD (eqNil Tryd.prog 49 (Operand.tmp 295) (Operand.tmp 296) (AV.arr 1 (arI IntKind.i64 8 (AV.arr 1 (encL IntKind.i64 8 (Option.getD (mapR s4 a5) (Ar.zero 8)).1)))) (AV.arr 1 (encL IntKind.i64 8 fun (_i : Nat) => 0))) false)
 (k (AV.bool false) [] false)
 (resPS (S F) (T6 F) N 9 fuel 6 2 0 [(p7, m)] p6 n (St.mk [(0, AV.bad), (1, AV.isl 6 (row encSt l)), (4, AV.bad), (5, AV.ptr (Pl.mk 4 0 [] 3)), (6, AV.bad), (7, AV.ptr (Pl.mk 9 0 [] 2)), (8, AV.bad), (9, AV.int IntKind.i64 i), (10, AV.bad), (11, AV.bad), (12, AV.bad), (13, AV.bad), (14, AV.bad), (15, AV.bad), (16, AV.int IntKind.i64 (IntKind.wrap IntKind.i64 (p + 1))), (17, AV.bad), (18, AV.bad), (19, AV.bad), (20, AV.bad), (21, AV.bad), (22, AV.bad), (25, AV.bad), (55, AV.bad), (63, AV.bad), (71, AV.bad), (72, AV.bad), (92, AV.bad), (114, AV.bad), (134, AV.bad), (144, AV.bad), (154, AV.bad), (168, AV.bad), (197, AV.bad), (199, AV.bad), (256, AV.bad), (264, AV.bad), (299, AV.bad)] [] (PH s r) false) k))
 (False))
 (resPS (S F) (T6 F) N 9 fuel 6 2 0 [(p7, m)] p6 n (St.mk [(0, AV.bad), (1, AV.isl 6 (row encSt l)), (4, AV.bad), (5, AV.ptr (Pl.mk 4 0 [] 3)), (6, AV.bad), (7, AV.ptr (Pl.mk 9 0 [] 2)), (8, AV.bad), (9, AV.int IntKind.i64 i), (10, AV.bad), (11, AV.bad), (12, AV.bad), (13, AV.bad), (14, AV.bad), (15, AV.bad), (16, AV.int IntKind.i64 (IntKind.wrap IntKind.i64 (p + 1))), (17, AV.bad), (18, AV.bad), (19, AV.bad), (20, AV.bad), (21, AV.bad), (22, AV.bad), (25, AV.bad), (55, AV.bad), (63, AV.bad), (71, AV.bad), (72, AV.bad), (92, AV.bad), (114, AV.bad), (134, AV.bad), (144, AV.bad), (154, AV.bad), (168, AV.bad), (197, AV.bad), (199, AV.bad), (256, AV.bad), (264, AV.bad), (299, AV.bad)] [] (PH s r) false) k)))))))
 (cond (!Option.isSome (mapR s4 a5) == false)
 (k (AV.bool false) [] false)
 (cond (Option.isSome (mapR s4 a5))
 (False)
 (cond (!Option.isSome (mapR s4 a5))
 (cond (Option.isSome (eqNil Tryd.prog 49 (Operand.tmp 295) (Operand.tmp 296) (AV.arr 1 (arI IntKind.i64 8 (AV.arr 1 (encL IntKind.i64 8 (Option.getD (mapR s4 a5) (Ar.zero 8)).1)))) (AV.arr 1 (encL IntKind.i64 8 fun (_i : Nat) => 0))))
 (cond (!Option.getD (eqNil Tryd.prog 49 (Operand.tmp 295) (Operand.tmp 296) (AV.arr 1 (arI IntKind.i64 8 (AV.arr 1 (encL IntKind.i64 8 (Option.getD (mapR s4 a5) (Ar.zero 8)).1)))) (AV.arr 1 (encL IntKind.i64 8 fun (_i : Nat) => 0))) false)
 (k (AV.bool false) [] false)
 (resPS (S F) (T6 F) N 9 fuel 6 2 0 [(p7, m)] p6 n (St.mk [(0, AV.bad), (1, AV.isl 6 (row encSt l)), (4, AV.bad), (5, AV.ptr (Pl.mk 4 0 [] 3)), (6, AV.bad), (7, AV.ptr (Pl.mk 9 0 [] 2)), (8, AV.bad), (9, AV.int IntKind.i64 i), (10, AV.bad), (11, AV.bad), (12, AV.bad), (13, AV.bad), (14, AV.bad), (15, AV.bad), (16, AV.int IntKind.i64 (IntKind.wrap IntKind.i64 (p + 1))), (17, AV.bad), (18, AV.bad), (19, AV.bad), (20, AV.bad), (21, AV.bad), (22, AV.bad), (25, AV.bad), (55, AV.bad), (63, AV.bad), (71, AV.bad), (72, AV.bad), (92, AV.bad), (114, AV.bad), (134, AV.bad), (144, AV.bad), (154, AV.bad), (168, AV.bad), (197, AV.bad), (199, AV.bad), (256, AV.bad), (264, AV.bad), (299, AV.bad)] [] (PH s r) false) k))
 (False))
 (resPS (S F) (T6 F) N 9 fuel 6 2 0 [(p7, m)] p6 n (St.mk [(0, AV.bad), (1, AV.isl 6 (row encSt l)), (4, AV.bad), (5, AV.ptr (Pl.mk 4 0 [] 3)), (6, AV.bad), (7, AV.ptr (Pl.mk 9 0 [] 2)), (8, AV.bad), (9, AV.int IntKind.i64 i), (10, AV.bad), (11, AV.bad), (12, AV.bad), (13, AV.bad), (14, AV.bad), (15, AV.bad), (16, AV.int IntKind.i64 (IntKind.wrap IntKind.i64 (p + 1))), (17, AV.bad), (18, AV.bad), (19, AV.bad), (20, AV.bad), (21, AV.bad), (22, AV.bad), (25, AV.bad), (55, AV.bad), (63, AV.bad), (71, AV.bad), (72, AV.bad), (92, AV.bad), (114, AV.bad), (134, AV.bad), (144, AV.bad), (154, AV.bad), (168, AV.bad), (197, AV.bad), (199, AV.bad), (256, AV.bad), (264, AV.bad), (299, AV.bad)] [] (PH s r) false) k)))))))))
 (False)))
 (False))
 (∃ (s8 : FS),
 ∃ (a9 : Int),
 And ([AV.ptr (Pl.mk 0 0 [] 3), AV.int IntKind.i64 p] = [AV.ptr (Pl.mk 0 0 [] 3), AV.int IntKind.i64 a9])
 (And (FH s = FH s8)
 (And (OkS s8)
 (cond (decide (p < 8))
 (∃ (fs10 : List Fr),
 ∃ (key11 : Int),
 And ([AV.ptr (Pl.mk 0 0 [] 2), AV.int IntKind.i64 (IntKind.wrap IntKind.i64 (64 + p))] = [AV.ptr (Pl.mk 0 0 [] 2), AV.int IntKind.i64 key11])
 (And (CR (List.length r.1) 0 (row encR r.1) = CR (List.length fs10) 0 (row encR fs10))
 (And (List.length fs10 < 1000)
 (cond (!Option.isSome (mapR s8 a9) == decide (fV (fR key11 fs10) ≥ 0))
 (k (AV.bool false) [] false)
 (cond (Option.isSome (mapR s8 a9))
 (cond (decide (0 ≤ fV (fR key11 fs10)))
 (cond (decide (Int.toNat (fV (fR key11 fs10)) < List.length r.2))
 (cond (okAt (AV.arr 72 (row encHd r.2)) [0 + Int.toNat (fV (fR key11 fs10)), 2] (0 + (0 + Int.toNat (fV (fR key11 fs10))) * 72 + 64) (72 * List.length r.2) true 8)
 (cond (AV.isArrI (projT [0 + Int.toNat (fV (fR key11 fs10)), 2] (AV.arr 72 (row encHd r.2))) 8 IntKind.i64)
 (cond (Option.isSome (eqNil Tryd.prog 49 (Operand.tmp 279) (Operand.tmp 287) (AV.arr 1 (arI IntKind.i64 8 (AV.arr 1 (encL IntKind.i64 8 (Option.getD (mapR s8 a9) (Ar.zero 8)).1)))) (AV.arr 1 (arI IntKind.i64 8 (projT [0 + Int.toNat (fV (fR key11 fs10)), 2] (AV.arr 72 (row encHd r.2)))))))
 (cond (!Option.getD (eqNil Tryd.prog 49 (Operand.tmp 279) (Operand.tmp 287) (AV.arr 1 (arI IntKind.i64 8 (AV.arr 1 (encL IntKind.i64 8 (Option.getD (mapR s8 a9) (Ar.zero 8)).1)))) (AV.arr 1 (arI IntKind.i64 8 (projT [0 + Int.toNat (fV (fR key11 fs10)), 2] (AV.arr 72 (row encHd r.2)))))) false)
 (k (AV.bool false) [] false)
 (cond (!Option.isSome (mapR s8 a9))
 (cond (Option.isSome (eqNil Tryd.prog 49 (Operand.tmp 295) (Operand.tmp 296) (AV.arr 1 (arI IntKind.i64 8 (AV.arr 1 (encL IntKind.i64 8 (Option.getD (mapR s8 a9) (Ar.zero 8)).1)))) (AV.arr 1 (encL IntKind.i64 8 fun (_i : Nat) => 0))))
 (cond (!Option.getD (eqNil Tryd.prog 49 (Operand.tmp 295) (Operand.tmp 296) (AV.arr 1 (arI IntKind.i64 8 (AV.arr 1 (encL IntKind.i64 8 (Option.getD (mapR s8 a9) (Ar.zero 8)).1)))) (AV.arr 1 (encL IntKind.i64 8 fun (_i : Nat) => 0))) false)
 (k (AV.bool false) [] false)
 (resPS (S F) (T6 F) N 9 fuel 6 2 0 [(p7, m)] p6 n (St.mk [(0, AV.bad), (1, AV.isl 6 (row encSt l)), (4, AV.bad), (5, AV.ptr (Pl.mk 4 0 [] 3)), (6, AV.bad), (7, AV.ptr (Pl.mk 9 0 [] 2)), (8, AV.bad), (9, AV.int IntKind.i64 i), (10, AV.bad), (11, AV.bad), (12, AV.bad), (13, AV.bad), (14, AV.bad), (15, AV.bad), (16, AV.int IntKind.i64 (IntKind.wrap IntKind.i64 (p + 1))), (17, AV.bad), (18, AV.bad), (19, AV.bad), (20, AV.bad), (21, AV.bad), (22, AV.bad), (25, AV.bad), (55, AV.bad), (63, AV.bad), (71, AV.bad), (72, AV.bad), (92, AV.bad), (114, AV.bad), (134, AV.bad), (144, AV.bad), (154, AV.bad), (168, AV.bad), (197, AV.bad), (199, AV.bad), (256, AV.bad), (264, AV.bad), (299, AV.bad)] [] (PH s r) false) k))
 (False))
 (resPS (S F) (T6 F) N 9 fuel 6 2 0 [(p7, m)] p6 n (St.mk [(0, AV.bad), (1, AV.isl 6 (row encSt l)), (4, AV.bad), (5, AV.ptr (Pl.mk 4 0 [] 3)), (6, AV.bad), (7, AV.ptr (Pl.mk 9 0 [] 2)), (8, AV.bad), (9, AV.int IntKind.i64 i), (10, AV.bad), (11, AV.bad), (12, AV.bad), (13, AV.bad), (14, AV.bad), (15, AV.bad), (16, AV.int IntKind.i64 (IntKind.wrap IntKind.i64 (p + 1))), (17, AV.bad), (18, AV.bad), (19, AV.bad), (20, AV.bad), (21, AV.bad), (22, AV.bad), (25, AV.bad), (55, AV.bad), (63, AV.bad), (71, AV.bad), (72, AV.bad), (92, AV.bad), (114, AV.bad), (134, AV.bad), (144, AV.bad), (154, AV.bad), (168, AV.bad), (197, AV.bad), (199, AV.bad), (256, AV.bad), (264, AV.bad), (299, AV.bad)] [] (PH s r) false) k)))
 (False))
 (False))
 (False))
 (False))
 (False))
 (cond (!Option.isSome (mapR s8 a9))
 (cond (Option.isSome (eqNil Tryd.prog 49 (Operand.tmp 295) (Operand.tmp 296) (AV.arr 1 (arI IntKind.i64 8 (AV.arr 1 (encL IntKind.i64 8 (Option.getD (mapR s8 a9) (Ar.zero 8)).1)))) (AV.arr 1 (encL IntKind.i64 8 fun (_i : Nat) => 0))))
 (cond (!Option.getD (eqNil Tryd.prog 49 (Operand.tmp 295) (Operand.tmp 296) (AV.arr 1 (arI IntKind.i64 8 (AV.arr 1 (encL IntKind.i64 8 (Option.getD (mapR s8 a9) (Ar.zero 8)).1)))) (AV.arr 1 (encL IntKind.i64 8 fun (_i : Nat) => 0))) false)
 (k (AV.bool false) [] false)
 (resPS (S F) (T6 F) N 9 fuel 6 2 0 [(p7, m)] p6 n (St.mk [(0, AV.bad), (1, AV.isl 6 (row encSt l)), (4, AV.bad), (5, AV.ptr (Pl.mk 4 0 [] 3)), (6, AV.bad), (7, AV.ptr (Pl.mk 9 0 [] 2)), (8, AV.bad), (9, AV.int IntKind.i64 i), (10, AV.bad), (11, AV.bad), (12, AV.bad), (13, AV.bad), (14, AV.bad), (15, AV.bad), (16, AV.int IntKind.i64 (IntKind.wrap IntKind.i64 (p + 1))), (17, AV.bad), (18, AV.bad), (19, AV.bad), (20, AV.bad), (21, AV.bad), (22, AV.bad), (25, AV.bad), (55, AV.bad), (63, AV.bad), (71, AV.bad), (72, AV.bad), (92, AV.bad), (114, AV.bad), (134, AV.bad), (144, AV.bad), (154, AV.bad), (168, AV.bad), (197, AV.bad), (199, AV.bad), (256, AV.bad), (264, AV.bad), (299, AV.bad)] [] (PH s r) false) k))
 (False))
 (resPS (S F) (T6 F) N 9 fuel 6 2 0 [(p7, m)] p6 n (St.mk [(0, AV.bad), (1, AV.isl 6 (row encSt l)), (4, AV.bad), (5, AV.ptr (Pl.mk 4 0 [] 3)), (6, AV.bad), (7, AV.ptr (Pl.mk 9 0 [] 2)), (8, AV.bad), (9, AV.int IntKind.i64 i), (10, AV.bad), (11, AV.bad), (12, AV.bad), (13, AV.bad), (14, AV.bad), (15, AV.bad), (16, AV.int IntKind.i64 (IntKind.wrap IntKind.i64 (p + 1))), (17, AV.bad), (18, AV.bad), (19, AV.bad), (20, AV.bad), (21, AV.bad), (22, AV.bad), (25, AV.bad), (55, AV.bad), (63, AV.bad), (71, AV.bad), (72, AV.bad), (92, AV.bad), (114, AV.bad), (134, AV.bad), (144, AV.bad), (154, AV.bad), (168, AV.bad), (197, AV.bad), (199, AV.bad), (256, AV.bad), (264, AV.bad), (299, AV.bad)] [] (PH s r) false) k)))))))
 (cond (!Option.isSome (mapR s8 a9) == false)
 (k (AV.bool false) [] false)
 (cond (Option.isSome (mapR s8 a9))
 (False)
 (cond (!Option.isSome (mapR s8 a9))
 (cond (Option.isSome (eqNil Tryd.prog 49 (Operand.tmp 295) (Operand.tmp 296) (AV.arr 1 (arI IntKind.i64 8 (AV.arr 1 (encL IntKind.i64 8 (Option.getD (mapR s8 a9) (Ar.zero 8)).1)))) (AV.arr 1 (encL IntKind.i64 8 fun (_i : Nat) => 0))))
 (cond (!Option.getD (eqNil Tryd.prog 49 (Operand.tmp 295) (Operand.tmp 296) (AV.arr 1 (arI IntKind.i64 8 (AV.arr 1 (encL IntKind.i64 8 (Option.getD (mapR s8 a9) (Ar.zero 8)).1)))) (AV.arr 1 (encL IntKind.i64 8 fun (_i : Nat) => 0))) false)
 (k (AV.bool false) [] false)
 (resPS (S F) (T6 F) N 9 fuel 6 2 0 [(p7, m)] p6 n (St.mk [(0, AV.bad), (1, AV.isl 6 (row encSt l)), (4, AV.bad), (5, AV.ptr (Pl.mk 4 0 [] 3)), (6, AV.bad), (7, AV.ptr (Pl.mk 9 0 [] 2)), (8, AV.bad), (9, AV.int IntKind.i64 i), (10, AV.bad), (11, AV.bad), (12, AV.bad), (13, AV.bad), (14, AV.bad), (15, AV.bad), (16, AV.int IntKind.i64 (IntKind.wrap IntKind.i64 (p + 1))), (17, AV.bad), (18, AV.bad), (19, AV.bad), (20, AV.bad), (21, AV.bad), (22, AV.bad), (25, AV.bad), (55, AV.bad), (63, AV.bad), (71, AV.bad), (72, AV.bad), (92, AV.bad), (114, AV.bad), (134, AV.bad), (144, AV.bad), (154, AV.bad), (168, AV.bad), (197, AV.bad), (199, AV.bad), (256, AV.bad), (264, AV.bad), (299, AV.bad)] [] (PH s r) false) k))
 (False))
 (resPS (S F) (T6 F) N 9 fuel 6 2 0 [(p7, m)] p6 n (St.mk [(0, AV.bad), (1, AV.isl 6 (row encSt l)), (4, AV.bad), (5, AV.ptr (Pl.mk 4 0 [] 3)), (6, AV.bad), (7, AV.ptr (Pl.mk 9 0 [] 2)), (8, AV.bad), (9, AV.int IntKind.i64 i), (10, AV.bad), (11, AV.bad), (12, AV.bad), (13, AV.bad), (14, AV.bad), (15, AV.bad), (16, AV.int IntKind.i64 (IntKind.wrap IntKind.i64 (p + 1))), (17, AV.bad), (18, AV.bad), (19, AV.bad), (20, AV.bad), (21, AV.bad), (22, AV.bad), (25, AV.bad), (55, AV.bad), (63, AV.bad), (71, AV.bad), (72, AV.bad), (92, AV.bad), (114, AV.bad), (134, AV.bad), (144, AV.bad), (154, AV.bad), (168, AV.bad), (197, AV.bad), (199, AV.bad), (256, AV.bad), (264, AV.bad), (299, AV.bad)] [] (PH s r) false) k))))))))))
 (False))
 (False))
 (False))
 (False))
 (False)))
 (False))
 (False))
 (False))
 (False))
 (False))
 (cond (!Option.isSome (pgR s0 a1))
 (cond (Option.isSome (eqNil Tryd.prog 32 (Operand.tmp 247) (Operand.tmp 248) (AV.arr 1 (arI IntKind.u8 32 (AV.arr 1 (encL IntKind.u8 32 (Option.getD (Option.map Pg.base (pgR s0 a1)) (Ar.zero 32)).1)))) (AV.arr 1 (encL IntKind.u8 32 fun (_i : Nat) => 0))))
 (cond (!Option.getD (eqNil Tryd.prog 32 (Operand.tmp 247) (Operand.tmp 248) (AV.arr 1 (arI IntKind.u8 32 (AV.arr 1 (encL IntKind.u8 32 (Option.getD (Option.map Pg.base (pgR s0 a1)) (Ar.zero 32)).1)))) (AV.arr 1 (encL IntKind.u8 32 fun (_i : Nat) => 0))) false)
 (k (AV.bool false) [] false)
 (cond (Option.isSome (eqNil Tryd.prog 32 (Operand.tmp 251) (Operand.tmp 252) (AV.arr 1 (arI IntKind.u8 32 (AV.arr 1 (encL IntKind.u8 32 (Option.getD (Option.map Pg.now (pgR s0 a1)) (Ar.zero 32)).1)))) (AV.arr 1 (encL IntKind.u8 32 fun (_i : Nat) => 0))))
 (cond (!Option.getD (eqNil Tryd.prog 32 (Operand.tmp 251) (Operand.tmp 252) (AV.arr 1 (arI IntKind.u8 32 (AV.arr 1 (encL IntKind.u8 32 (Option.getD (Option.map Pg.now (pgR s0 a1)) (Ar.zero 32)).1)))) (AV.arr 1 (encL IntKind.u8 32 fun (_i : Nat) => 0))) false)
 (k (AV.bool false) [] false)
 (∃ (s12 : FS),
 ∃ (a13 : Int),
 And ([AV.ptr (Pl.mk 0 0 [] 3), AV.int IntKind.i64 p] = [AV.ptr (Pl.mk 0 0 [] 3), AV.int IntKind.i64 a13])
 (And (FH s = FH s12)
 (And (OkS s12)
 (cond (decide (p < 8))
 (∃ (fs14 : List Fr),
 ∃ (key15 : Int),
 And ([AV.ptr (Pl.mk 0 0 [] 2), AV.int IntKind.i64 (IntKind.wrap IntKind.i64 (64 + p))] = [AV.ptr (Pl.mk 0 0 [] 2), AV.int IntKind.i64 key15])
 (And (CR (List.length r.1) 0 (row encR r.1) = CR (List.length fs14) 0 (row encR fs14))
 (And (List.length fs14 < 1000)
 (cond (!Option.isSome (mapR s12 a13) == decide (fV (fR key15 fs14) ≥ 0))
 (k (AV.bool false) [] false)
 (cond (Option.isSome (mapR s12 a13))
 (cond (decide (0 ≤ fV (fR key15 fs14)))
 (cond (decide (Int.toNat (fV (fR key15 fs14)) < List.length r.2))
 (cond (okAt (AV.arr 72 (row encHd r.2)) [0 + Int.toNat (fV (fR key15 fs14)), 2] (0 + (0 + Int.toNat (fV (fR key15 fs14))) * 72 + 64) (72 * List.length r.2) true 8)
 (cond (AV.isArrI (projT [0 + Int.toNat (fV (fR key15 fs14)), 2] (AV.arr 72 (row encHd r.2))) 8 IntKind.i64)
 (cond (Option.isSome (eqNil Tryd.prog 49 (Operand.tmp 279) (Operand.tmp 287) (AV.arr 1 (arI IntKind.i64 8 (AV.arr 1 (encL IntKind.i64 8 (Option.getD (mapR s12 a13) (Ar.zero 8)).1)))) (AV.arr 1 (arI IntKind.i64 8 (projT [0 + Int.toNat (fV (fR key15 fs14)), 2] (AV.arr 72 (row encHd r.2)))))))
 (cond (!Option.getD (eqNil Tryd.prog 49 (Operand.tmp 279) (Operand.tmp 287) (AV.arr 1 (arI IntKind.i64 8 (AV.arr 1 (encL IntKind.i64 8 (Option.getD (mapR s12 a13) (Ar.zero 8)).1)))) (AV.arr 1 (arI IntKind.i64 8 (projT [0 + Int.toNat (fV (fR key15 fs14)), 2] (AV.arr 72 (row encHd r.2)))))) false)
 (k (AV.bool false) [] false)
 (cond (!Option.isSome (mapR s12 a13))
 (cond (Option.isSome (eqNil Tryd.prog 49 (Operand.tmp 295) (Operand.tmp 296) (AV.arr 1 (arI IntKind.i64 8 (AV.arr 1 (encL IntKind.i64 8 (Option.getD (mapR s12 a13) (Ar.zero 8)).1)))) (AV.arr 1 (encL IntKind.i64 8 fun (_i : Nat) => 0))))
 (cond (!Option.getD (eqNil Tryd.prog 49 (Operand.tmp 295) (Operand.tmp 296) (AV.arr 1 (arI IntKind.i64 8 (AV.arr 1 (encL IntKind.i64 8 (Option.getD (mapR s12 a13) (Ar.zero 8)).1)))) (AV.arr 1 (encL IntKind.i64 8 fun (_i : Nat) => 0))) false)
 (k (AV.bool false) [] false)
 (resPS (S F) (T6 F) N 9 fuel 6 2 0 [(p7, m)] p6 n (St.mk [(0, AV.bad), (1, AV.isl 6 (row encSt l)), (4, AV.bad), (5, AV.ptr (Pl.mk 4 0 [] 3)), (6, AV.bad), (7, AV.ptr (Pl.mk 9 0 [] 2)), (8, AV.bad), (9, AV.int IntKind.i64 i), (10, AV.bad), (11, AV.bad), (12, AV.bad), (13, AV.bad), (14, AV.bad), (15, AV.bad), (16, AV.int IntKind.i64 (IntKind.wrap IntKind.i64 (p + 1))), (17, AV.bad), (18, AV.bad), (19, AV.bad), (20, AV.bad), (21, AV.bad), (22, AV.bad), (25, AV.bad), (55, AV.bad), (63, AV.bad), (71, AV.bad), (72, AV.bad), (92, AV.bad), (114, AV.bad), (134, AV.bad), (144, AV.bad), (154, AV.bad), (168, AV.bad), (197, AV.bad), (199, AV.bad), (256, AV.bad), (264, AV.bad), (299, AV.bad)] [] (PH s r) false) k))
 (False))
 (resPS (S F) (T6 F) N 9 fuel 6 2 0 [(p7, m)] p6 n (St.mk [(0, AV.bad), (1, AV.isl 6 (row encSt l)), (4, AV.bad), (5, AV.ptr (Pl.mk 4 0 [] 3)), (6, AV.bad), (7, AV.ptr (Pl.mk 9 0 [] 2)), (8, AV.bad), (9, AV.int IntKind.i64 i), (10, AV.bad), (11, AV.bad), (12, AV.bad), (13, AV.bad), (14, AV.bad), (15, AV.bad), (16, AV.int IntKind.i64 (IntKind.wrap IntKind.i64 (p + 1))), (17, AV.bad), (18, AV.bad), (19, AV.bad), (20, AV.bad), (21, AV.bad), (22, AV.bad), (25, AV.bad), (55, AV.bad), (63, AV.bad), (71, AV.bad), (72, AV.bad), (92, AV.bad), (114, AV.bad), (134, AV.bad), (144, AV.bad), (154, AV.bad), (168, AV.bad), (197, AV.bad), (199, AV.bad), (256, AV.bad), (264, AV.bad), (299, AV.bad)] [] (PH s r) false) k)))
 (False))
 (False))
 (False))
 (False))
 (False))
 (cond (!Option.isSome (mapR s12 a13))
 (cond (Option.isSome (eqNil Tryd.prog 49 (Operand.tmp 295) (Operand.tmp 296) (AV.arr 1 (arI IntKind.i64 8 (AV.arr 1 (encL IntKind.i64 8 (Option.getD (mapR s12 a13) (Ar.zero 8)).1)))) (AV.arr 1 (encL IntKind.i64 8 fun (_i : Nat) => 0))))
 (cond (!Option.getD (eqNil Tryd.prog 49 (Operand.tmp 295) (Operand.tmp 296) (AV.arr 1 (arI IntKind.i64 8 (AV.arr 1 (encL IntKind.i64 8 (Option.getD (mapR s12 a13) (Ar.zero 8)).1)))) (AV.arr 1 (encL IntKind.i64 8 fun (_i : Nat) => 0))) false)
 (k (AV.bool false) [] false)
 (resPS (S F) (T6 F) N 9 fuel 6 2 0 [(p7, m)] p6 n (St.mk [(0, AV.bad), (1, AV.isl 6 (row encSt l)), (4, AV.bad), (5, AV.ptr (Pl.mk 4 0 [] 3)), (6, AV.bad), (7, AV.ptr (Pl.mk 9 0 [] 2)), (8, AV.bad), (9, AV.int IntKind.i64 i), (10, AV.bad), (11, AV.bad), (12, AV.bad), (13, AV.bad), (14, AV.bad), (15, AV.bad), (16, AV.int IntKind.i64 (IntKind.wrap IntKind.i64 (p + 1))), (17, AV.bad), (18, AV.bad), (19, AV.bad), (20, AV.bad), (21, AV.bad), (22, AV.bad), (25, AV.bad), (55, AV.bad), (63, AV.bad), (71, AV.bad), (72, AV.bad), (92, AV.bad), (114, AV.bad), (134, AV.bad), (144, AV.bad), (154, AV.bad), (168, AV.bad), (197, AV.bad), (199, AV.bad), (256, AV.bad), (264, AV.bad), (299, AV.bad)] [] (PH s r) false) k))
 (False))
 (resPS (S F) (T6 F) N 9 fuel 6 2 0 [(p7, m)] p6 n (St.mk [(0, AV.bad), (1, AV.isl 6 (row encSt l)), (4, AV.bad), (5, AV.ptr (Pl.mk 4 0 [] 3)), (6, AV.bad), (7, AV.ptr (Pl.mk 9 0 [] 2)), (8, AV.bad), (9, AV.int IntKind.i64 i), (10, AV.bad), (11, AV.bad), (12, AV.bad), (13, AV.bad), (14, AV.bad), (15, AV.bad), (16, AV.int IntKind.i64 (IntKind.wrap IntKind.i64 (p + 1))), (17, AV.bad), (18, AV.bad), (19, AV.bad), (20, AV.bad), (21, AV.bad), (22, AV.bad), (25, AV.bad), (55, AV.bad), (63, AV.bad), (71, AV.bad), (72, AV.bad), (92, AV.bad), (114, AV.bad), (134, AV.bad), (144, AV.bad), (154, AV.bad), (168, AV.bad), (197, AV.bad), (199, AV.bad), (256, AV.bad), (264, AV.bad), (299, AV.bad)] [] (PH s r) false) k)))))))
 (cond (!Option.isSome (mapR s12 a13) == false)
 (k (AV.bool false) [] false)
 (cond (Option.isSome (mapR s12 a13))
 (False)
 (cond (!Option.isSome (mapR s12 a13))
 (cond (Option.isSome (eqNil Tryd.prog 49 (Operand.tmp 295) (Operand.tmp 296) (AV.arr 1 (arI IntKind.i64 8 (AV.arr 1 (encL IntKind.i64 8 (Option.getD (mapR s12 a13) (Ar.zero 8)).1)))) (AV.arr 1 (encL IntKind.i64 8 fun (_i : Nat) => 0))))
 (cond (!Option.getD (eqNil Tryd.prog 49 (Operand.tmp 295) (Operand.tmp 296) (AV.arr 1 (arI IntKind.i64 8 (AV.arr 1 (encL IntKind.i64 8 (Option.getD (mapR s12 a13) (Ar.zero 8)).1)))) (AV.arr 1 (encL IntKind.i64 8 fun (_i : Nat) => 0))) false)
 (k (AV.bool false) [] false)
 (resPS (S F) (T6 F) N 9 fuel 6 2 0 [(p7, m)] p6 n (St.mk [(0, AV.bad), (1, AV.isl 6 (row encSt l)), (4, AV.bad), (5, AV.ptr (Pl.mk 4 0 [] 3)), (6, AV.bad), (7, AV.ptr (Pl.mk 9 0 [] 2)), (8, AV.bad), (9, AV.int IntKind.i64 i), (10, AV.bad), (11, AV.bad), (12, AV.bad), (13, AV.bad), (14, AV.bad), (15, AV.bad), (16, AV.int IntKind.i64 (IntKind.wrap IntKind.i64 (p + 1))), (17, AV.bad), (18, AV.bad), (19, AV.bad), (20, AV.bad), (21, AV.bad), (22, AV.bad), (25, AV.bad), (55, AV.bad), (63, AV.bad), (71, AV.bad), (72, AV.bad), (92, AV.bad), (114, AV.bad), (134, AV.bad), (144, AV.bad), (154, AV.bad), (168, AV.bad), (197, AV.bad), (199, AV.bad), (256, AV.bad), (264, AV.bad), (299, AV.bad)] [] (PH s r) false) k))
 (False))
 (resPS (S F) (T6 F) N 9 fuel 6 2 0 [(p7, m)] p6 n (St.mk [(0, AV.bad), (1, AV.isl 6 (row encSt l)), (4, AV.bad), (5, AV.ptr (Pl.mk 4 0 [] 3)), (6, AV.bad), (7, AV.ptr (Pl.mk 9 0 [] 2)), (8, AV.bad), (9, AV.int IntKind.i64 i), (10, AV.bad), (11, AV.bad), (12, AV.bad), (13, AV.bad), (14, AV.bad), (15, AV.bad), (16, AV.int IntKind.i64 (IntKind.wrap IntKind.i64 (p + 1))), (17, AV.bad), (18, AV.bad), (19, AV.bad), (20, AV.bad), (21, AV.bad), (22, AV.bad), (25, AV.bad), (55, AV.bad), (63, AV.bad), (71, AV.bad), (72, AV.bad), (92, AV.bad), (114, AV.bad), (134, AV.bad), (144, AV.bad), (154, AV.bad), (168, AV.bad), (197, AV.bad), (199, AV.bad), (256, AV.bad), (264, AV.bad), (299, AV.bad)] [] (PH s r) false) k)))))))))
 (False)))
 (False))
 (∃ (s16 : FS),
 ∃ (a17 : Int),
 And ([AV.ptr (Pl.mk 0 0 [] 3), AV.int IntKind.i64 p] = [AV.ptr (Pl.mk 0 0 [] 3), AV.int IntKind.i64 a17])
 (And (FH s = FH s16)
 (And (OkS s16)
 (cond (decide (p < 8))
 (∃ (fs18 : List Fr),
 ∃ (key19 : Int),
 And ([AV.ptr (Pl.mk 0 0 [] 2), AV.int IntKind.i64 (IntKind.wrap IntKind.i64 (64 + p))] = [AV.ptr (Pl.mk 0 0 [] 2), AV.int IntKind.i64 key19])
 (And (CR (List.length r.1) 0 (row encR r.1) = CR (List.length fs18) 0 (row encR fs18))
 (And (List.length fs18 < 1000)
 (cond (!Option.isSome (mapR s16 a17) == decide (fV (fR key19 fs18) ≥ 0))
 (k (AV.bool false) [] false)
 (cond (Option.isSome (mapR s16 a17))
 (cond (decide (0 ≤ fV (fR key19 fs18)))
 (cond (decide (Int.toNat (fV (fR key19 fs18)) < List.length r.2))
 (cond (okAt (AV.arr 72 (row encHd r.2)) [0 + Int.toNat (fV (fR key19 fs18)), 2] (0 + (0 + Int.toNat (fV (fR key19 fs18))) * 72 + 64) (72 * List.length r.2) true 8)
 (cond (AV.isArrI (projT [0 + Int.toNat (fV (fR key19 fs18)), 2] (AV.arr 72 (row encHd r.2))) 8 IntKind.i64)
 (cond (Option.isSome (eqNil Tryd.prog 49 (Operand.tmp 279) (Operand.tmp 287) (AV.arr 1 (arI IntKind.i64 8 (AV.arr 1 (encL IntKind.i64 8 (Option.getD (mapR s16 a17) (Ar.zero 8)).1)))) (AV.arr 1 (arI IntKind.i64 8 (projT [0 + Int.toNat (fV (fR key19 fs18)), 2] (AV.arr 72 (row encHd r.2)))))))
 (cond (!Option.getD (eqNil Tryd.prog 49 (Operand.tmp 279) (Operand.tmp 287) (AV.arr 1 (arI IntKind.i64 8 (AV.arr 1 (encL IntKind.i64 8 (Option.getD (mapR s16 a17) (Ar.zero 8)).1)))) (AV.arr 1 (arI IntKind.i64 8 (projT [0 + Int.toNat (fV (fR key19 fs18)), 2] (AV.arr 72 (row encHd r.2)))))) false)
 (k (AV.bool false) [] false)
 (cond (!Option.isSome (mapR s16 a17))
 (cond (Option.isSome (eqNil Tryd.prog 49 (Operand.tmp 295) (Operand.tmp 296) (AV.arr 1 (arI IntKind.i64 8 (AV.arr 1 (encL IntKind.i64 8 (Option.getD (mapR s16 a17) (Ar.zero 8)).1)))) (AV.arr 1 (encL IntKind.i64 8 fun (_i : Nat) => 0))))
 (cond (!Option.getD (eqNil Tryd.prog 49 (Operand.tmp 295) (Operand.tmp 296) (AV.arr 1 (arI IntKind.i64 8 (AV.arr 1 (encL IntKind.i64 8 (Option.getD (mapR s16 a17) (Ar.zero 8)).1)))) (AV.arr 1 (encL IntKind.i64 8 fun (_i : Nat) => 0))) false)
 (k (AV.bool false) [] false)
 (resPS (S F) (T6 F) N 9 fuel 6 2 0 [(p7, m)] p6 n (St.mk [(0, AV.bad), (1, AV.isl 6 (row encSt l)), (4, AV.bad), (5, AV.ptr (Pl.mk 4 0 [] 3)), (6, AV.bad), (7, AV.ptr (Pl.mk 9 0 [] 2)), (8, AV.bad), (9, AV.int IntKind.i64 i), (10, AV.bad), (11, AV.bad), (12, AV.bad), (13, AV.bad), (14, AV.bad), (15, AV.bad), (16, AV.int IntKind.i64 (IntKind.wrap IntKind.i64 (p + 1))), (17, AV.bad), (18, AV.bad), (19, AV.bad), (20, AV.bad), (21, AV.bad), (22, AV.bad), (25, AV.bad), (55, AV.bad), (63, AV.bad), (71, AV.bad), (72, AV.bad), (92, AV.bad), (114, AV.bad), (134, AV.bad), (144, AV.bad), (154, AV.bad), (168, AV.bad), (197, AV.bad), (199, AV.bad), (256, AV.bad), (264, AV.bad), (299, AV.bad)] [] (PH s r) false) k))
 (False))
 (resPS (S F) (T6 F) N 9 fuel 6 2 0 [(p7, m)] p6 n (St.mk [(0, AV.bad), (1, AV.isl 6 (row encSt l)), (4, AV.bad), (5, AV.ptr (Pl.mk 4 0 [] 3)), (6, AV.bad), (7, AV.ptr (Pl.mk 9 0 [] 2)), (8, AV.bad), (9, AV.int IntKind.i64 i), (10, AV.bad), (11, AV.bad), (12, AV.bad), (13, AV.bad), (14, AV.bad), (15, AV.bad), (16, AV.int IntKind.i64 (IntKind.wrap IntKind.i64 (p + 1))), (17, AV.bad), (18, AV.bad), (19, AV.bad), (20, AV.bad), (21, AV.bad), (22, AV.bad), (25, AV.bad), (55, AV.bad), (63, AV.bad), (71, AV.bad), (72, AV.bad), (92, AV.bad), (114, AV.bad), (134, AV.bad), (144, AV.bad), (154, AV.bad), (168, AV.bad), (197, AV.bad), (199, AV.bad), (256, AV.bad), (264, AV.bad), (299, AV.bad)] [] (PH s r) false) k)))
 (False))
 (False))
 (False))
 (False))
 (False))
 (cond (!Option.isSome (mapR s16 a17))
 (cond (Option.isSome (eqNil Tryd.prog 49 (Operand.tmp 295) (Operand.tmp 296) (AV.arr 1 (arI IntKind.i64 8 (AV.arr 1 (encL IntKind.i64 8 (Option.getD (mapR s16 a17) (Ar.zero 8)).1)))) (AV.arr 1 (encL IntKind.i64 8 fun (_i : Nat) => 0))))
 (cond (!Option.getD (eqNil Tryd.prog 49 (Operand.tmp 295) (Operand.tmp 296) (AV.arr 1 (arI IntKind.i64 8 (AV.arr 1 (encL IntKind.i64 8 (Option.getD (mapR s16 a17) (Ar.zero 8)).1)))) (AV.arr 1 (encL IntKind.i64 8 fun (_i : Nat) => 0))) false)
 (k (AV.bool false) [] false)
 (resPS (S F) (T6 F) N 9 fuel 6 2 0 [(p7, m)] p6 n (St.mk [(0, AV.bad), (1, AV.isl 6 (row encSt l)), (4, AV.bad), (5, AV.ptr (Pl.mk 4 0 [] 3)), (6, AV.bad), (7, AV.ptr (Pl.mk 9 0 [] 2)), (8, AV.bad), (9, AV.int IntKind.i64 i), (10, AV.bad), (11, AV.bad), (12, AV.bad), (13, AV.bad), (14, AV.bad), (15, AV.bad), (16, AV.int IntKind.i64 (IntKind.wrap IntKind.i64 (p + 1))), (17, AV.bad), (18, AV.bad), (19, AV.bad), (20, AV.bad), (21, AV.bad), (22, AV.bad), (25, AV.bad), (55, AV.bad), (63, AV.bad), (71, AV.bad), (72, AV.bad), (92, AV.bad), (114, AV.bad), (134, AV.bad), (144, AV.bad), (154, AV.bad), (168, AV.bad), (197, AV.bad), (199, AV.bad), (256, AV.bad), (264, AV.bad), (299, AV.bad)] [] (PH s r) false) k))
 (False))
 (resPS (S F) (T6 F) N 9 fuel 6 2 0 [(p7, m)] p6 n (St.mk [(0, AV.bad), (1, AV.isl 6 (row encSt l)), (4, AV.bad), (5, AV.ptr (Pl.mk 4 0 [] 3)), (6, AV.bad), (7, AV.ptr (Pl.mk 9 0 [] 2)), (8, AV.bad), (9, AV.int IntKind.i64 i), (10, AV.bad), (11, AV.bad), (12, AV.bad), (13, AV.bad), (14, AV.bad), (15, AV.bad), (16, AV.int IntKind.i64 (IntKind.wrap IntKind.i64 (p + 1))), (17, AV.bad), (18, AV.bad), (19, AV.bad), (20, AV.bad), (21, AV.bad), (22, AV.bad), (25, AV.bad), (55, AV.bad), (63, AV.bad), (71, AV.bad), (72, AV.bad), (92, AV.bad), (114, AV.bad), (134, AV.bad), (144, AV.bad), (154, AV.bad), (168, AV.bad), (197, AV.bad), (199, AV.bad), (256, AV.bad), (264, AV.bad), (299, AV.bad)] [] (PH s r) false) k)))))))
 (cond (!Option.isSome (mapR s16 a17) == false)
 (k (AV.bool false) [] false)
 (cond (Option.isSome (mapR s16 a17))
 (False)
 (cond (!Option.isSome (mapR s16 a17))
 (cond (Option.isSome (eqNil Tryd.prog 49 (Operand.tmp 295) (Operand.tmp 296) (AV.arr 1 (arI IntKind.i64 8 (AV.arr 1 (encL IntKind.i64 8 (Option.getD (mapR s16 a17) (Ar.zero 8)).1)))) (AV.arr 1 (encL IntKind.i64 8 fun (_i : Nat) => 0))))
 (cond (!Option.getD (eqNil Tryd.prog 49 (Operand.tmp 295) (Operand.tmp 296) (AV.arr 1 (arI IntKind.i64 8 (AV.arr 1 (encL IntKind.i64 8 (Option.getD (mapR s16 a17) (Ar.zero 8)).1)))) (AV.arr 1 (encL IntKind.i64 8 fun (_i : Nat) => 0))) false)
 (k (AV.bool false) [] false)
 (resPS (S F) (T6 F) N 9 fuel 6 2 0 [(p7, m)] p6 n (St.mk [(0, AV.bad), (1, AV.isl 6 (row encSt l)), (4, AV.bad), (5, AV.ptr (Pl.mk 4 0 [] 3)), (6, AV.bad), (7, AV.ptr (Pl.mk 9 0 [] 2)), (8, AV.bad), (9, AV.int IntKind.i64 i), (10, AV.bad), (11, AV.bad), (12, AV.bad), (13, AV.bad), (14, AV.bad), (15, AV.bad), (16, AV.int IntKind.i64 (IntKind.wrap IntKind.i64 (p + 1))), (17, AV.bad), (18, AV.bad), (19, AV.bad), (20, AV.bad), (21, AV.bad), (22, AV.bad), (25, AV.bad), (55, AV.bad), (63, AV.bad), (71, AV.bad), (72, AV.bad), (92, AV.bad), (114, AV.bad), (134, AV.bad), (144, AV.bad), (154, AV.bad), (168, AV.bad), (197, AV.bad), (199, AV.bad), (256, AV.bad), (264, AV.bad), (299, AV.bad)] [] (PH s r) false) k))
 (False))
 (resPS (S F) (T6 F) N 9 fuel 6 2 0 [(p7, m)] p6 n (St.mk [(0, AV.bad), (1, AV.isl 6 (row encSt l)), (4, AV.bad), (5, AV.ptr (Pl.mk 4 0 [] 3)), (6, AV.bad), (7, AV.ptr (Pl.mk 9 0 [] 2)), (8, AV.bad), (9, AV.int IntKind.i64 i), (10, AV.bad), (11, AV.bad), (12, AV.bad), (13, AV.bad), (14, AV.bad), (15, AV.bad), (16, AV.int IntKind.i64 (IntKind.wrap IntKind.i64 (p + 1))), (17, AV.bad), (18, AV.bad), (19, AV.bad), (20, AV.bad), (21, AV.bad), (22, AV.bad), (25, AV.bad), (55, AV.bad), (63, AV.bad), (71, AV.bad), (72, AV.bad), (92, AV.bad), (114, AV.bad), (134, AV.bad), (144, AV.bad), (154, AV.bad), (168, AV.bad), (197, AV.bad), (199, AV.bad), (256, AV.bad), (264, AV.bad), (299, AV.bad)] [] (PH s r) false) k)))))))))))))))))
 (resPS (S F) (T6 F) N 9 fuel 6 2 0 [] p6 n (St.mk (L6 (AV.ptr (Pl.mk 4 0 [] 3)) (AV.ptr (Pl.mk 9 0 [] 2)) (row encSt l) (IntKind.wrap IntKind.i64 (i + 1))) [] (PH s r) false) k)) : Prop) := by kernel_rfl
end Go.Proofs.YtlnbbgagccgnjaaDoor
/-
  Frames, as pages are looked up in them: what each call changes.
-/
namespace Go.Proofs.YtlnbbgagccgnjaaDoor
open Go Go.X
/-- No key is in two frames; keys are pages' or mapping pages'. -/
structure UK (fs : List Fr) : Prop where
  uniq : ∀ i j (hi : i < fs.length) (hj : j < fs.length), fs[i].key = fs[j].key → fs[i].key ≠ -1 → i = j
  low : ∀ i (hi : i < fs.length), -1 ≤ fs[i].key
theorem fnd_none {key : Int} : ∀ {fs : List Fr} {j : Nat}, fnd key fs j = none → ∀ f ∈ fs, f.key ≠ key
  | [], _, _ => by simp
  | f :: r, j, h => by
    unfold fnd at h
    split at h
    · cases h
    · rename_i hk
      intro g hg
      rcases List.mem_cons.1 hg with rfl | hg
      · exact hk
      · exact fnd_none h g hg
theorem fR_iff {fs : List Fr} (hu : UK fs) {key : Int} (hk : 0 ≤ key) {j : Nat} : fR key fs = some j ↔ ∃ h : j < fs.length, fs[j].key = key := by
  constructor
  · intro h
    exact ⟨fR_lt h, fR_key h (fR_lt h)⟩
  · rintro ⟨hj, hkey⟩
    cases hf : fR key fs with
    | none =>
      unfold fR at hf
      rw [if_neg (by omega)] at hf
      exact absurd hkey (fnd_none hf _ (List.getElem_mem hj))
    | some i =>
      have hi := fR_lt hf
      have := fR_key hf hi
      rw [hu.uniq i j hi hj (by rw [this, hkey]) (by omega)]
theorem fR_none {fs : List Fr} {key : Int} (hk : 0 ≤ key) : fR key fs = none ↔ ∀ j (h : j < fs.length), fs[j].key ≠ key := by
  constructor
  · intro h j hj
    unfold fR at h
    rw [if_neg (by omega)] at h
    exact fnd_none h _ (List.getElem_mem hj)
  · intro h
    cases hf : fR key fs with
    | none => rfl
    | some i => exact absurd (fR_key hf (fR_lt hf)) (h i (fR_lt hf))
theorem fR_ext {fs gs : List Fr} (hu : UK fs) (hv : UK gs) {key : Int} (hk : 0 ≤ key) (h : ∀ j, (∃ hj : j < fs.length, fs[j].key = key) ↔ ∃ hj : j < gs.length, gs[j].key = key) : fR key fs = fR key gs := by
  cases hf : fR key fs with
  | some j => exact ((fR_iff hv hk).2 ((h j).1 ((fR_iff hu hk).1 hf))).symm
  | none =>
    symm
    rw [fR_none hk]
    intro j hj hkey
    obtain ⟨hj', hkey'⟩ := (h j).2 ⟨hj, hkey⟩
    exact (fR_none hk).1 hf j hj' hkey'
/-- Setting a frame that keeps its key. -/
theorem UK_set {fs : List Fr} (hu : UK fs) {j : Nat} (hj : j < fs.length) {f : Fr} (hf : f.key = fs[j].key) : UK (fs.set j f) ∧ ∀ key, 0 ≤ key → fR key (fs.set j f) = fR key fs := by
  have hkey : ∀ i (hi : i < (fs.set j f).length), (fs.set j f)[i].key = (fs[i]'(by simpa using hi)).key := by
    intro i hi
    rw [List.getElem_set]
    split
    · rename_i h; subst h; exact hf
    · rfl
  have hu' : UK (fs.set j f) := ⟨fun i k hi hk h h' => by
    rw [hkey i hi, hkey k hk] at h
    rw [hkey i hi] at h'
    exact hu.uniq i k _ _ h h', fun i hi => by rw [hkey i hi]; exact hu.low i _⟩
  refine ⟨hu', fun key hk => fR_ext hu' hu hk fun i => ?_⟩
  constructor
  · rintro ⟨hi, h⟩
    rw [hkey i hi] at h
    exact ⟨by simpa using hi, h⟩
  · rintro ⟨hi, h⟩
    exact ⟨by simpa using hi, by rw [hkey i (by simpa using hi)]; exact h⟩
/-- A frame takes a key that no other one has. -/
theorem UK_put {fs : List Fr} (hu : UK fs) {j : Nat} (hj : j < fs.length) {f : Fr} (h0 : 0 ≤ f.key) (hn : ∀ i (hi : i < fs.length), fs[i].key = f.key → i = j) :
    UK (fs.set j f) ∧ ∀ key, 0 ≤ key → fR key (fs.set j f) = if key = f.key then some j else if fs[j].key = key then none else fR key fs := by
  have hget : ∀ i (hi : i < (fs.set j f).length), (fs.set j f)[i] = if j = i then f else fs[i]'(by simpa using hi) := fun i hi => List.getElem_set hi
  have hu' : UK (fs.set j f) := ⟨fun i k hi hk h h' => by
    rw [hget i hi, hget k hk] at h
    rw [hget i hi] at h'
    by_cases h1 : j = i
    · rw [if_pos h1] at h h'
      by_cases h2 : j = k
      · omega
      · rw [if_neg h2] at h
        have := hn k (by simpa using hk) h.symm
        omega
    · rw [if_neg h1] at h h'
      by_cases h2 : j = k
      · rw [if_pos h2] at h
        have := hn i (by simpa using hi) h
        omega
      · rw [if_neg h2] at h
        exact hu.uniq i k _ _ h h', fun i hi => by
    rw [hget i hi]
    split
    · omega
    · exact hu.low i _⟩
  refine ⟨hu', fun key hk => ?_⟩
  by_cases h1 : key = f.key
  · rw [if_pos h1, fR_iff hu' hk]
    exact ⟨by simpa using hj, by simp [h1]⟩
  · rw [if_neg h1]
    by_cases h2 : fs[j].key = key
    · rw [if_pos h2, fR_none hk]
      intro i hi
      rw [hget i hi]
      split
      · exact fun h => h1 h.symm
      · rename_i h3
        exact fun h => h3 (hu.uniq j i hj (by simpa using hi) (by rw [h2, h]) (by omega))
    · rw [if_neg h2]
      refine fR_ext hu' hu hk fun i => ?_
      constructor
      · rintro ⟨hi, h⟩
        rw [hget i hi] at h
        split at h
        · exact absurd h.symm h1
        · exact ⟨by simpa using hi, h⟩
      · rintro ⟨hi, h⟩
        refine ⟨by simpa using hi, ?_⟩
        rw [hget i (by simpa using hi)]
        split
        · rename_i h3; subst h3; exact absurd h h2
        · exact h
theorem ofR_eq {s : FS} {a : Int} (h0 : 0 ≤ a) (h1 : a < 64) : ofR s a = fR a s.fs := by
  unfold ofR
  rw [if_neg (by omega), if_pos h1]
theorem pgR_eq {s : FS} {a : Int} (h0 : 0 ≤ a) (h1 : a < 64) : pgR s a = (fR a s.fs).bind (s.ps[·]?) := by
  unfold pgR
  rw [ofR_eq h0 h1]
/-- A frame that holds a dirty page. -/
theorem dirty_key {s : FS} (hs : OkS s) (hu : UK s.fs) {fr key : Int} (hk : keyR s.fs fr = some key) (h0 : 0 ≤ key) (h1 : key < 64) : ∃ p, pgR s key = some p ∧ (dirtyB s fr = true ↔ p.base ≠ p.now) := by
  obtain ⟨j, hj, rfl, hjk, hne⟩ := keyR_some hk
  have hp : j < s.ps.length := by rw [hs.hp]; exact hj
  have hf : fR key s.fs = some j := (fR_iff hu h0).2 ⟨hj, hjk⟩
  refine ⟨s.ps[j], by rw [pgR_eq h0 h1, hf]; simp [hp], ?_⟩
  unfold dirtyB
  simp [hk, hp, h0, h1]
theorem keyR_iff {fs : List Fr} {j : Nat} (hj : j < fs.length) {key : Int} (hne : key ≠ -1) : keyR fs j = some key ↔ fs[j].key = key := by
  unfold keyR
  rw [if_neg (by omega)]
  simp only [Int.toNat_natCast, List.getElem?_eq_getElem hj]
  split
  · rename_i h
    constructor
    · intro h'; cases h'
    · intro h'; omega
  · simp
theorem keyR_none {fs : List Fr} {j : Nat} (hj : j < fs.length) : keyR fs j = none ↔ fs[j].key = -1 := by
  unfold keyR
  rw [if_neg (by omega)]
  simp only [Int.toNat_natCast, List.getElem?_eq_getElem hj]
  split
  · rename_i h; simp [h]
  · rename_i h; simp [h]
/-- What holding a page comes to. -/
theorem hold_look {s s' : FS} (hs : OkS s) (hu : UK s.fs) {fr a : Int} {p : Ar 32} (h : holdR s fr a p = some s') : OkS s' ∧ UK s'.fs ∧ s'.fs.length = s.fs.length ∧ 0 ≤ a ∧ a < 64 ∧ dirtyB s fr = false ∧
    (∀ b, 0 ≤ b → b < 64 → pgR s' b = if b = a then some ⟨p, p⟩ else if keyR s.fs fr = some b then none else pgR s b) ∧
    (∀ j (hj : j < s'.fs.length), s'.fs[j].key = a ∨ ∃ hj' : j < s.fs.length, s'.fs[j].key = s.fs[j].key) := by
  unfold holdR at h
  split at h
  · cases h
  · rename_i hc
    have hd : dirtyB s fr = false := by
      cases hd : dirtyB s fr with
      | true => exact absurd (Or.inr (Or.inr (Or.inl hd))) hc
      | false => rfl
    have ha : 0 ≤ a ∧ a < 64 ∧ 0 ≤ fr := ⟨by omega, by omega, by omega⟩
    obtain ⟨j, rfl⟩ : ∃ j : Nat, fr = j := ⟨fr.toNat, by omega⟩
    simp only [Int.toNat_natCast, Option.map_eq_some_iff] at h
    obtain ⟨fs, hf, rfl⟩ := h
    unfold putF at hf
    split at hf
    · rename_i f hfj
      obtain ⟨hj, rfl⟩ := List.getElem?_eq_some_iff.1 hfj
      split at hf
      · rename_i hp
        obtain rfl := Option.some.inj hf
        have hn : ∀ i (hi : i < s.fs.length), s.fs[i].key = a → i = j := fun i hi hk => by
          have := (fR_iff hu ha.1).2 ⟨hi, hk⟩
          rcases hp.1 with h | h
          · rw [h] at this; cases this
          · rw [h] at this; exact (Option.some.inj this).symm
        obtain ⟨hu', hfr⟩ := UK_put hu hj (f := ⟨a, true, s.fs[j].pins⟩) ha.1 hn
        have hpl : j < s.ps.length := by rw [hs.hp]; exact hj
        refine ⟨⟨by simp [hs.hp], by simp [hs.hh], by simp [hs.hl]⟩, hu', by simp, ha.1, ha.2.1, hd, fun b h0 h1 => ?_, fun i hi => ?_⟩
        · rw [pgR_eq h0 h1, pgR_eq h0 h1]
          simp only
          rw [hfr b h0]
          by_cases hb : b = a
          · simp [hb, hpl]
          · simp only [hb, if_false]
            by_cases hk : s.fs[j].key = b
            · have : keyR s.fs j = some b := (keyR_iff hj (by omega)).2 hk
              simp [hk, this]
            · have : keyR s.fs j ≠ some b := fun h => hk ((keyR_iff hj (by omega)).1 h)
              simp only [hk, if_false, this]
              cases hfb : fR b s.fs with
              | none => rfl
              | some i =>
                have hij : i ≠ j := fun h => hk (by subst h; exact fR_key hfb hj)
                simp only [Option.bind_some]
                rw [List.getElem?_set_ne (by omega)]
        · simp only [List.length_set] at hi
          by_cases hij : j = i
          · left; subst hij; simp
          · right
            refine ⟨by simpa using hi, ?_⟩
            simp [List.getElem_set, hij]
      · cases hf
    · cases hf
/-- What cleaning comes to. -/
theorem clean_look {s : FS} (hs : OkS s) (hu : UK s.fs) {a : Int} (h0 : 0 ≤ a) (h1 : a < 64) : OkS (cleanS s a) ∧ (cleanS s a).fs = s.fs ∧
    ∀ b, 0 ≤ b → b < 64 → pgR (cleanS s a) b = if b = a then (pgR s a).map (fun p => ⟨p.now, p.now⟩) else pgR s b := by
  unfold cleanS
  rw [ofR_eq h0 h1]
  cases hf : fR a s.fs with
  | none =>
    refine ⟨hs, rfl, fun b h0' h1' => ?_⟩
    show pgR s b = _
    by_cases h : b = a
    · subst h; simp [pgR_eq h0 h1, hf]
    · simp [h]
  | some j =>
    have hj := fR_lt hf
    have hp : j < s.ps.length := by rw [hs.hp]; exact hj
    simp only [List.getElem?_eq_getElem hp]
    refine ⟨⟨by simp [hs.hp], hs.hh, hs.hl⟩, by trivial, fun b h0' h1' => ?_⟩
    rw [pgR_eq h0' h1', pgR_eq h0' h1', pgR_eq h0 h1]
    by_cases hb : b = a
    · subst hb
      simp [hf, hp]
    · simp only [hb, if_false]
      cases hfb : fR b s.fs with
      | none => rfl
      | some i =>
        have hij : i ≠ j := fun h => by
          subst h
          have := fR_key hf hj
          have := fR_key hfb hj
          omega
        simp only [Option.bind_some]
        rw [List.getElem?_set_ne (by omega)]
/-- What writing comes to. -/
theorem write_none {s : FS} {a off : Int} {ds : List Int} (hs : OkS s) (h0 : 0 ≤ a) (h1 : a < 64) (h : pgR s a = none) : writeR s a off ds = (17, s) := by
  rw [pgR_eq h0 h1] at h
  unfold writeR
  rw [ofR_eq h0 h1]
  cases hf : fR a s.fs with
  | none => rfl
  | some j =>
    have hp : j < s.ps.length := by rw [hs.hp]; exact fR_lt hf
    rw [hf] at h
    simp [hp] at h
theorem write_bad {s : FS} {a off : Int} {ds : List Int} (hs : OkS s) (h0 : 0 ≤ a) (h1 : a < 64) {p : Pg} (h : pgR s a = some p) (hq : applyA p.now off ds = none) : writeR s a off ds = (18, s) := by
  rw [pgR_eq h0 h1] at h
  unfold writeR
  rw [ofR_eq h0 h1]
  cases hf : fR a s.fs with
  | none => rw [hf] at h; cases h
  | some j =>
    have hj := fR_lt hf
    have hp : j < s.ps.length := by rw [hs.hp]; exact hj
    rw [hf] at h
    simp only [Option.bind_some, List.getElem?_eq_getElem hp, Option.some.injEq] at h
    simp only [List.getElem?_eq_getElem hp, List.getElem?_eq_getElem hj, h, hq]
theorem write_look {s : FS} {a off : Int} {ds : List Int} (hs : OkS s) (hu : UK s.fs) (h0 : 0 ≤ a) (h1 : a < 64) {p : Pg} {q : Ar 32} (h : pgR s a = some p) (hq : applyA p.now off ds = some q) :
    ∃ s', writeR s a off ds = (0, s') ∧ OkS s' ∧ UK s'.fs ∧ s'.fs.length = s.fs.length ∧ (∀ j (hj : j < s'.fs.length), ∃ hj' : j < s.fs.length, s'.fs[j].key = s.fs[j].key) ∧
      ∀ b, 0 ≤ b → b < 64 → pgR s' b = if b = a then some ⟨p.base, q⟩ else pgR s b := by
  rw [pgR_eq h0 h1] at h
  unfold writeR
  rw [ofR_eq h0 h1]
  cases hf : fR a s.fs with
  | none => rw [hf] at h; cases h
  | some j =>
    have hj := fR_lt hf
    have hp : j < s.ps.length := by rw [hs.hp]; exact hj
    rw [hf] at h
    simp only [Option.bind_some, List.getElem?_eq_getElem hp, Option.some.injEq] at h
    simp only [List.getElem?_eq_getElem hp, List.getElem?_eq_getElem hj, h, hq]
    obtain ⟨hu', hfr⟩ := UK_set hu hj (f := ⟨s.fs[j].key, true, s.fs[j].pins⟩) rfl
    refine ⟨_, rfl, ⟨by simp [hs.hp], by simp [hs.hh], by simp [hs.hl]⟩, hu', by simp, fun i hi => ⟨by simpa using hi, ?_⟩, fun b h0' h1' => ?_⟩
    · simp only [List.getElem_set]
      split
      · rename_i h; subst h; rfl
      · rfl
    · rw [pgR_eq h0' h1', pgR_eq h0' h1']
      simp only
      rw [hfr b h0']
      by_cases hb : b = a
      · subst hb
        simp [hf, hp]
      · simp only [hb, if_false]
        cases hfb : fR b s.fs with
        | none => rfl
        | some i =>
          have hij : i ≠ j := fun h => by
            subst h
            have := fR_key hf hj
            have := fR_key hfb hj
            omega
          simp only [Option.bind_some]
          rw [List.getElem?_set_ne (by omega)]
end Go.Proofs.YtlnbbgagccgnjaaDoor
/-
  The dirty ones, in order: those pages of 0 to 63 that are held and differ.
-/
namespace Go.Proofs.YtlnbbgagccgnjaaDoor
open Go Go.X
theorem eq_of_lt : ∀ {l m : List Int}, l.Pairwise (· < ·) → m.Pairwise (· < ·) → (∀ x, x ∈ l ↔ x ∈ m) → l = m
  | [], [], _, _, _ => rfl
  | [], b :: m, _, _, h => by simpa using (h b)
  | a :: l, [], _, _, h => by simpa using (h a)
  | a :: l, b :: m, hl, hm, h => by
    rw [List.pairwise_cons] at hl hm
    have hab : a = b := by
      have h1 := (h a).1 (by simp)
      have h2 := (h b).2 (by simp)
      rcases List.mem_cons.1 h1 with h1 | h1
      · exact h1
      · rcases List.mem_cons.1 h2 with h2 | h2
        · exact h2.symm
        · have := hl.1 b h2
          have := hm.1 a h1
          omega
    subst hab
    rw [eq_of_lt hl.2 hm.2 fun x => ⟨fun hx => ?_, fun hx => ?_⟩]
    · rcases List.mem_cons.1 ((h x).1 (List.mem_cons_of_mem _ hx)) with h1 | h1
      · have := hl.1 x hx; omega
      · exact h1
    · rcases List.mem_cons.1 ((h x).2 (List.mem_cons_of_mem _ hx)) with h1 | h1
      · have := hm.1 x hx; omega
      · exact h1
theorem mem_dFrom (s : FS) : ∀ (d j : Nat) (x : Int), x ∈ dFrom s d j ↔ ∃ i : Nat, j ≤ i ∧ i < j + d ∧ dirtyB s i = true ∧ (keyR s.fs i).getD 0 = x
  | 0, j, x => by
    simp only [dFrom, List.not_mem_nil, false_iff]
    rintro ⟨i, h1, h2, _⟩
    omega
  | d + 1, j, x => by
    unfold dFrom
    rw [List.mem_append, mem_dFrom s d (j + 1)]
    constructor
    · rintro (h | ⟨i, h1, h2, h3⟩)
      · split at h
        · rename_i hd
          exact ⟨j, Nat.le_refl _, by omega, hd, (List.mem_singleton.1 h).symm⟩
        · cases h
      · exact ⟨i, by omega, by omega, h3⟩
    · rintro ⟨i, h1, h2, h3, h4⟩
      by_cases hi : i = j
      · subst hi
        left
        rw [if_pos h3]
        simp [h4]
      · exact .inr ⟨i, by omega, by omega, h3, h4⟩
open Classical in
/-- Is a page held, and other than it was? -/
noncomputable def dk (s : FS) (x : Int) : Bool := match pgR s x with
  | some p => !decide (p.base = p.now)
  | none => false
theorem dirty_mem {s : FS} (hs : OkS s) (hu : UK s.fs) {i : Nat} (h : dirtyB s i = true) : ∃ hi : i < s.fs.length, ∃ x : Int, 0 ≤ x ∧ x < 64 ∧ s.fs[i].key = x ∧ (keyR s.fs i).getD 0 = x ∧ dk s x = true := by
  have h' := h
  unfold dirtyB at h
  cases hk : keyR s.fs i with
  | none => rw [hk] at h; simp at h
  | some key =>
    rw [hk] at h
    simp only [Bool.and_eq_true, decide_eq_true_eq] at h
    obtain ⟨j, hj, hij, hjk, hne⟩ := keyR_some hk
    obtain rfl : i = j := by omega
    obtain ⟨p, hp, hd⟩ := dirty_key hs hu hk h.1.1 h.1.2
    refine ⟨hj, key, h.1.1, h.1.2, hjk, rfl, ?_⟩
    unfold dk
    rw [hp]
    simpa using hd.1 h'
theorem dFrom_nodup {s : FS} (hs : OkS s) (hu : UK s.fs) : ∀ (d j : Nat), (dFrom s d j).Pairwise (· ≠ ·)
  | 0, j => by simp [dFrom]
  | d + 1, j => by
    unfold dFrom
    rw [List.pairwise_append]
    refine ⟨by split <;> simp, dFrom_nodup hs hu d (j + 1), fun x hx y hy => ?_⟩
    split at hx
    · rename_i hd
      obtain rfl := List.mem_singleton.1 hx
      obtain ⟨i, h1, h2, h3, h4⟩ := (mem_dFrom s d (j + 1) y).1 hy
      obtain ⟨hi, a, ha0, _, hak, hag, _⟩ := dirty_mem hs hu hd
      obtain ⟨hi', b, hb0, _, hbk, hbg, _⟩ := dirty_mem hs hu h3
      rw [hag, ← h4, hbg]
      intro hab
      have := hu.uniq j i hi hi' (by rw [hak, hbk, hab]) (by omega)
      omega
    · cases hx
theorem sortZ_lt {l : List Int} (h : l.Pairwise (· ≠ ·)) : (sortZ l).Pairwise (· < ·) := by
  have h1 : (sortZ l).Pairwise (fun a b => decide (a ≤ b) = true) := List.pairwise_mergeSort (le := fun x y => decide (x ≤ y)) (fun a b c h1 h2 => by simp only [decide_eq_true_eq] at *; omega) (fun a b => by simp only [Bool.or_eq_true, decide_eq_true_eq]; omega) l
  have h2 : (sortZ l).Pairwise (· ≠ ·) := (List.Perm.pairwise_iff (fun {a b} (h : a ≠ b) => h.symm) (List.mergeSort_perm l _)).2 h
  exact (List.Pairwise.and h1 h2).imp fun {a b} hab => by
    have := of_decide_eq_true hab.1
    have := hab.2
    omega
theorem mem_sortZ {l : List Int} {x : Int} : x ∈ sortZ l ↔ x ∈ l := List.mem_mergeSort
def nums (n : Nat) : List Int := (List.range n).map fun (i : Nat) => (i : Int)
theorem mem_nums {n : Nat} {x : Int} : x ∈ nums n ↔ 0 ≤ x ∧ x < n := by
  simp only [nums, List.mem_map, List.mem_range]
  constructor
  · rintro ⟨i, hi, rfl⟩; omega
  · rintro ⟨h1, h2⟩; exact ⟨x.toNat, by omega, by omega⟩
theorem nums_lt (n : Nat) : (nums n).Pairwise (· < ·) := by
  unfold nums
  rw [List.pairwise_map]
  exact List.pairwise_lt_range.imp fun h => by omega
theorem dirties_eq {s : FS} (hs : OkS s) (hu : UK s.fs) : sortZ (dirties s) = (nums 64).filter (dk s) := by
  refine eq_of_lt (sortZ_lt (dFrom_nodup hs hu _ _)) ((nums_lt 64).filter _) fun x => ?_
  rw [mem_sortZ, List.mem_filter, mem_nums]
  unfold dirties
  rw [mem_dFrom]
  constructor
  · rintro ⟨i, _, h2, h3, h4⟩
    obtain ⟨hi, a, ha0, ha1, _, hag, hdk⟩ := dirty_mem hs hu h3
    obtain rfl : a = x := hag.symm.trans h4
    exact ⟨⟨ha0, ha1⟩, hdk⟩
  · rintro ⟨⟨h0, h1⟩, h2⟩
    have h1 : x < 64 := h1
    unfold dk at h2
    cases hp : pgR s x with
    | none => rw [hp] at h2; cases h2
    | some p =>
      rw [pgR_eq h0 h1] at hp
      cases hf : fR x s.fs with
      | none => rw [hf] at hp; cases hp
      | some j =>
        have hj := fR_lt hf
        have hk := (keyR_iff hj (show x ≠ -1 by omega)).2 (fR_key hf hj)
        obtain ⟨p', hp', hd⟩ := dirty_key hs hu hk h0 h1
        rw [pgR_eq h0 h1, hp] at hp'
        obtain rfl := Option.some.inj hp'
        refine ⟨j, Nat.zero_le _, by omega, hd.2 ?_, by rw [hk]; rfl⟩
        rw [pgR_eq h0 h1, hp] at h2
        simpa using h2
end Go.Proofs.YtlnbbgagccgnjaaDoor
/-
  FramesPlay: the program's frames and the reference's hold the same.
-/
namespace Go.Proofs.YtlnbbgagccgnjaaDoor
open Go Go.X
structure Rel (s : FS) (r : RS) (b : Int) : Prop where
  ok : OkS s
  og : OkG r
  fs : r.fs = s.fs
  key : ∀ i (h : i < s.fs.length), -1 ≤ s.fs[i].key ∧ s.fs[i].key < 72
  pin : ∀ i (h : i < s.fs.length), 0 ≤ s.fs[i].pins ∧ s.fs[i].pins ≤ b
  uk : UK s.fs
  pg : ∀ i (h : i < s.fs.length) (h1 : i < s.ps.length) (h2 : i < r.hs.length), 0 ≤ s.fs[i].key → s.fs[i].key < 64 → r.hs[i].base = s.ps[i].base ∧ r.hs[i].now = s.ps[i].now
  mp : ∀ i (h : i < s.fs.length) (h1 : i < s.hs.length) (h2 : i < r.hs.length), 64 ≤ s.fs[i].key → r.hs[i].heads = s.hs[i]
theorem Rel.of {s : FS} {r : RS} {b : Int} (h : Rel s r b) (a : Int) : ofG r a = ofR s a := by
  unfold ofG ofR
  rw [h.fs]
  by_cases h0 : a < 0
  · simp [h0]
  by_cases h1 : a < 64
  · have : ¬ a ≥ 64 := by omega
    simp [h0, h1, this]
  · have : a ≥ 64 := by omega
    simp [h0, h1, this]
theorem Rel.dirty {s : FS} {r : RS} {b : Int} (h : Rel s r b) {i : Nat} (hi : i < s.fs.length) : dirtyG r i = dirtyB s i := by
  have hp : i < s.ps.length := by rw [h.ok.hp]; exact hi
  have hr : i < r.fs.length := by rw [h.fs]; exact hi
  have hh : i < r.hs.length := by rw [h.og.hh]; exact hr
  have hk := h.key i hi
  have hg := h.pg i hi hp hh
  have e : r.fs[i] = s.fs[i] := by simp only [h.fs]
  unfold dirtyG dirtyB keyR
  have h0 : ¬ ((i : Int) < 0) := by omega
  simp only [List.getElem?_eq_getElem hr, List.getElem?_eq_getElem hh, h0, if_false, Int.toNat_natCast, List.getElem?_eq_getElem hi, List.getElem?_eq_getElem hp, e]
  by_cases h1 : s.fs[i].key = -1
  · simp [h1]
  · simp only [h1, if_false]
    by_cases h2 : 0 ≤ s.fs[i].key ∧ s.fs[i].key < 64
    · obtain ⟨g1, g2⟩ := hg h2.1 h2.2
      rw [g1, g2]
    · simp [h2]
theorem Rel.put {s : FS} {r : RS} {b : Int} (h : Rel s r b) {j : Nat} (hj : j < s.fs.length) {key : Int} (hk : 0 ≤ key) : putG r.fs j key = putF s.fs j key := by
  have h0 : ¬ ((j : Int) < 0) := by omega
  have h1 : ¬ key < 0 := by omega
  have hp := (h.pin j hj).1
  unfold putG putF
  simp only [h.fs, h0, h1, if_false, Int.toNat_natCast, List.getElem?_eq_getElem hj]
  by_cases g : s.fs[j].pins > 0
  · simp [g]
  · have e : s.fs[j].pins = 0 := by omega
    simp [e]
theorem ofR_key {s : FS} {a : Int} {j : Nat} (h : ofR s a = some j) : ∃ hj : j < s.fs.length, s.fs[j].key = a ∧ 0 ≤ a ∧ a < 64 := by
  unfold ofR at h
  split at h
  · cases h
  · split at h
    · have hj := fR_lt h
      exact ⟨hj, fR_key h hj, by omega, by omega⟩
    · cases h
theorem Rel.gd {s : FS} {r : RS} {b : Int} (h : Rel s r b) (x : Int) : gd r x = dk s x := by
  unfold Go.Proofs.YtlnbbgagccgnjaaDoor.gd dk pgR
  rw [h.of]
  cases ho : ofR s x with
  | none => rfl
  | some j =>
    obtain ⟨hj, hk, h0, h1⟩ := ofR_key ho
    have hp : j < s.ps.length := by rw [h.ok.hp]; exact hj
    simp only [Option.bind_some, List.getElem?_eq_getElem hp, h.dirty hj]
    unfold dirtyB keyR
    have g0 : ¬ ((j : Int) < 0) := by omega
    have g1 : ¬ (x = -1) := by omega
    have g2 : 0 ≤ x ∧ x < 64 := ⟨h0, h1⟩
    simp only [g0, if_false, Int.toNat_natCast, List.getElem?_eq_getElem hj, List.getElem?_eq_getElem hp, hk, g1, g2, and_self, decide_true, Bool.true_and]
theorem gFrom_eq (r : RS) : ∀ d j, gFrom r d j = ((List.range' j d).map fun (i : Nat) => (i : Int)).filter (gd r)
  | 0, _ => rfl
  | d + 1, j => by
    rw [gFrom, gFrom_eq r d (j + 1), List.range'_succ, List.map_cons, List.filter_cons]
    cases gd r j <;> simp
theorem Rel.dirts {s : FS} {r : RS} {b : Int} (h : Rel s r b) : gdirts r = sortZ (dirties s) := by
  rw [dirties_eq h.ok h.uk]
  unfold gdirts nums
  rw [gFrom_eq, List.range_eq_range']
  exact List.filter_congr fun x _ => h.gd x
/-- One frame changed, and what it holds. -/
theorem Rel.set {s : FS} {r : RS} {b c : Int} (h : Rel s r b) (hbc : b ≤ c) {j : Nat} (hj : j < s.fs.length) {f : Fr} {ps : List Pg} {hs : List (Ar 8)} {rh : List Hd}
    (hk : -1 ≤ f.key ∧ f.key < 72) (hp : 0 ≤ f.pins ∧ f.pins ≤ c) (hu : UK (s.fs.set j f)) (l1 : ps.length = s.fs.length) (l2 : hs.length = s.fs.length) (l3 : rh.length = s.fs.length)
    (o1 : ∀ i (h1 : i < ps.length) (h2 : i < s.ps.length), i ≠ j → ps[i] = s.ps[i]) (o2 : ∀ i (h1 : i < hs.length) (h2 : i < s.hs.length), i ≠ j → hs[i] = s.hs[i]) (o3 : ∀ i (h1 : i < rh.length) (h2 : i < r.hs.length), i ≠ j → rh[i] = r.hs[i])
    (g1 : ∀ (h1 : j < ps.length) (h2 : j < rh.length), 0 ≤ f.key → f.key < 64 → rh[j].base = ps[j].base ∧ rh[j].now = ps[j].now) (g2 : ∀ (h1 : j < hs.length) (h2 : j < rh.length), 64 ≤ f.key → rh[j].heads = hs[j]) :
    Rel ⟨s.fs.set j f, s.hand, ps, hs⟩ ⟨s.fs.set j f, rh⟩ c := by
  have hl := h.ok.hl
  have key' : ∀ i (hi : i < (s.fs.set j f).length), i ≠ j → (s.fs.set j f)[i] = s.fs[i]'(by simpa using hi) := fun i hi hne => by
    rw [List.getElem_set, if_neg fun e => hne e.symm]
  refine ⟨⟨by simpa using l1, by simpa using l2, by simpa using hl⟩, ⟨by simpa using l3, by simpa using hl⟩, rfl, fun i hi => ?_, fun i hi => ?_, hu, fun i hi h1 h2 k0 k1 => ?_, fun i hi h1 h2 k0 => ?_⟩
  · by_cases e : i = j
    · subst e; simpa using hk
    · simp only [key' i hi e]; exact h.key i _
  · by_cases e : i = j
    · subst e; simpa using hp
    · simp only [key' i hi e]; have := h.pin i (by simpa using hi); omega
  · by_cases e : i = j
    · subst e
      simp only [List.getElem_set_self] at k0 k1
      exact g1 h1 h2 k0 k1
    · simp only [key' i hi e] at k0 k1
      have hi' : i < s.fs.length := by simpa using hi
      have q1 : i < s.ps.length := by rw [h.ok.hp]; exact hi'
      have q2 : i < r.hs.length := by rw [h.og.hh, h.fs]; exact hi'
      have := h.pg i hi' q1 q2 k0 k1
      simp only [o1 i h1 q1 e, o3 i h2 q2 e]
      exact this
  · by_cases e : i = j
    · subst e
      simp only [List.getElem_set_self] at k0
      exact g2 h1 h2 k0
    · simp only [key' i hi e] at k0
      have hi' : i < s.fs.length := by simpa using hi
      have q1 : i < s.hs.length := by rw [h.ok.hh]; exact hi'
      have q2 : i < r.hs.length := by rw [h.og.hh, h.fs]; exact hi'
      have := h.mp i hi' q1 q2 k0
      simp only [o2 i h1 q1 e, o3 i h2 q2 e]
      exact this
theorem putF_some {fs fs' : List Fr} {j : Nat} {key : Int} (h : putF fs j key = some fs') : ∃ hj : j < fs.length, fs' = fs.set j ⟨key, true, fs[j].pins⟩ ∧ (fR key fs = none ∨ fR key fs = some j) ∧ ¬ fs[j].pins > 0 := by
  unfold putF at h
  split at h
  · rename_i f hf
    obtain ⟨hj, rfl⟩ := List.getElem?_eq_some_iff.1 hf
    split at h
    · rename_i hc
      simp only [Option.some.injEq] at h
      exact ⟨hj, h.symm, hc.1, hc.2⟩
    · cases h
  · cases h
theorem UK_putF {fs : List Fr} (hu : UK fs) {j : Nat} (hj : j < fs.length) {key : Int} (hk : 0 ≤ key) (hf : fR key fs = none ∨ fR key fs = some j) {m : Bool} {p : Int} : UK (fs.set j ⟨key, m, p⟩) := by
  refine (UK_put hu hj (f := ⟨key, m, p⟩) hk fun i hi he => ?_).1
  have h1 := (fR_iff hu hk).2 ⟨hi, he⟩
  rcases hf with h2 | h2 <;> rw [h2] at h1
  · cases h1
  · simpa using h1.symm
theorem Rel.holdP {s : FS} {r : RS} {b : Int} (h : Rel s r b) (fr a : Int) (p : Ar 32) :
    (holdR s fr a p = none ∧ holdPG r fr a p = none) ∨ ∃ s' r', holdR s fr a p = some s' ∧ holdPG r fr a p = some r' ∧ Rel s' r' b := by
  unfold holdR holdPG holdG
  by_cases h0 : a < 0
  · left; simp [h0]
  by_cases h1 : a < 64
  case neg =>
    have : a ≥ 64 := by omega
    left; simp [h0, h1, this]
  have h2 : ¬ a ≥ 64 := by omega
  by_cases h3 : fr < 0
  · left; simp [h0, h1, h3]
  obtain ⟨j, rfl⟩ : ∃ j : Nat, fr = j := ⟨fr.toNat, by omega⟩
  simp only [h0, h1, h2, h3, false_or, or_false, if_false, if_true, Int.toNat_natCast, h.fs]
  by_cases hj : j < s.fs.length
  case neg =>
    left
    have hf : putF s.fs j a = none := by unfold putF; rw [List.getElem?_eq_none (by omega)]
    simp [hj, hf]
  rw [if_pos hj, h.dirty hj]
  cases hd : dirtyB s j with
  | true => left; simp
  | false =>
    have hp := h.put hj (key := a) (by omega)
    rw [h.fs] at hp
    simp only [Bool.false_eq_true, if_false, hp]
    cases hq : putF s.fs j a with
    | none => left; simp
    | some fs =>
      right
      obtain ⟨_, rfl, hf, hpin⟩ := putF_some hq
      have hpn := h.pin j hj
      refine ⟨_, _, rfl, rfl, h.set (Int.le_refl b) hj (show -1 ≤ a ∧ a < 72 by omega) hpn (UK_putF h.uk hj (by omega) hf) (by simp [h.ok.hp]) h.ok.hh (by simp [h.og.hh, h.fs]) (fun i h1 h2 hne => ?_) (fun i h1 h2 hne => rfl) (fun i h1 h2 hne => ?_) (fun h1 h2 _ _ => ?_) (fun h1 h2 g => ?_)⟩
      · rw [List.getElem_set, if_neg fun e => hne e.symm]
      · rw [List.getElem_set, if_neg fun e => hne e.symm]
      · simp
      · simp only at g; omega
theorem Rel.holdM {s : FS} {r : RS} {b : Int} (h : Rel s r b) (fr a : Int) (p : Ar 8) :
    (holdMapR s fr a p = none ∧ holdMG r fr a p = none) ∨ ∃ s' r', holdMapR s fr a p = some s' ∧ holdMG r fr a p = some r' ∧ Rel s' r' b := by
  unfold holdMapR holdMG holdG
  by_cases h0 : a < 0
  · left; simp [h0]
  by_cases h1 : a < 8
  case neg =>
    have : a ≥ 8 := by omega
    left; simp [h0, h1, this]
  have h2 : ¬ a ≥ 8 := by omega
  by_cases h3 : fr < 0
  · left; simp [h0, h1, h3]
  obtain ⟨j, rfl⟩ : ∃ j : Nat, fr = j := ⟨fr.toNat, by omega⟩
  simp only [h0, h1, h2, h3, false_or, or_false, if_false, if_true, Int.toNat_natCast, h.fs]
  by_cases hj : j < s.fs.length
  case neg =>
    left
    have hf : putF s.fs j (64 + a) = none := by unfold putF; rw [List.getElem?_eq_none (by omega)]
    simp [hj, hf]
  rw [if_pos hj, h.dirty hj]
  cases hd : dirtyB s j with
  | true => left; simp
  | false =>
    have hp := h.put hj (key := 64 + a) (by omega)
    rw [h.fs] at hp
    simp only [Bool.false_eq_true, if_false, hp]
    cases hq : putF s.fs j (64 + a) with
    | none => left; simp
    | some fs =>
      right
      obtain ⟨_, rfl, hf, hpin⟩ := putF_some hq
      have hpn := h.pin j hj
      refine ⟨_, _, rfl, rfl, h.set (Int.le_refl b) hj (show -1 ≤ 64 + a ∧ 64 + a < 72 by omega) hpn (UK_putF h.uk hj (by omega) hf) h.ok.hp (by simp [h.ok.hh]) (by simp [h.og.hh, h.fs]) (fun i h1 h2 hne => rfl) (fun i h1 h2 hne => ?_) (fun i h1 h2 hne => ?_) (fun h1 h2 _ g => ?_) (fun h1 h2 g => ?_)⟩
      · rw [List.getElem_set, if_neg fun e => hne e.symm]
      · rw [List.getElem_set, if_neg fun e => hne e.symm]
      · simp only at g; omega
      · simp
theorem Rel.forget {s : FS} {r : RS} {b : Int} (h : Rel s r b) (a : Int) :
    (forgetR s a = none ∧ forgetG r a = none) ∨ ∃ s' r', forgetR s a = some s' ∧ forgetG r a = some r' ∧ Rel s' r' b := by
  unfold forgetR forgetG
  rw [h.fs]
  cases hf : fR a s.fs with
  | none => left; simp
  | some j =>
    have hj := fR_lt hf
    have hpn := h.pin j hj
    have h0 : ¬ ((j : Int) < 0) := by omega
    simp only [Option.bind_some, dropF, dropG, h0, if_false, Int.toNat_natCast, List.getElem?_eq_getElem hj]
    by_cases hp : s.fs[j].pins > 0
    · left; simp [hp]
    right
    have e : s.fs[j].pins = 0 := by omega
    have g : ¬ ((0 : Int) > 0) := by omega
    simp only [e, g, if_false, Option.map_some]
    have hu : UK (s.fs.set j ⟨-1, false, 0⟩) := by
      refine ⟨fun i k hi hk he hne => ?_, fun i hi => ?_⟩
      · rw [List.getElem_set] at he hne
        rw [List.getElem_set] at he
        split at hne
        · exact absurd rfl hne
        · rename_i q1
          rw [if_neg q1] at he
          split at he
          · exact absurd he hne
          · exact h.uk.uniq i k (by simpa using hi) (by simpa using hk) he hne
      · rw [List.getElem_set]
        split
        · simp
        · exact h.uk.low i (by simpa using hi)
    refine ⟨_, _, rfl, rfl, h.set (Int.le_refl b) hj (show -1 ≤ (-1 : Int) ∧ (-1 : Int) < 72 by omega) (show 0 ≤ (0 : Int) ∧ (0 : Int) ≤ b by omega) hu h.ok.hp h.ok.hh (by rw [h.og.hh, h.fs]) (fun i h1 h2 hne => rfl) (fun i h1 h2 hne => rfl) (fun i h1 h2 hne => rfl) (fun h1 h2 g _ => ?_) (fun h1 h2 g => ?_)⟩
    · simp only at g; omega
    · simp only at g; omega
theorem Rel.keep {s : FS} {r : RS} {b c : Int} (h : Rel s r b) (hbc : b ≤ c) {j : Nat} (hj : j < s.fs.length) {f : Fr} (hf : f.key = s.fs[j].key) (hp : 0 ≤ f.pins ∧ f.pins ≤ c) :
    Rel ⟨s.fs.set j f, s.hand, s.ps, s.hs⟩ ⟨s.fs.set j f, r.hs⟩ c := by
  have hk := h.key j hj
  refine h.set hbc hj (by rw [hf]; exact hk) hp (UK_set h.uk hj hf).1 h.ok.hp h.ok.hh (by rw [h.og.hh, h.fs]) (fun i h1 h2 hne => rfl) (fun i h1 h2 hne => rfl) (fun i h1 h2 hne => rfl) (fun h1 h2 g g' => ?_) (fun h1 h2 g => ?_)
  · rw [hf] at g g'; exact h.pg j hj h1 h2 g g'
  · rw [hf] at g; exact h.mp j hj h1 h2 g
theorem Rel.wide {s : FS} {r : RS} {b c : Int} (h : Rel s r b) (hbc : b ≤ c) : Rel s r c :=
  ⟨h.ok, h.og, h.fs, h.key, fun i hi => ⟨(h.pin i hi).1, by have := (h.pin i hi).2; omega⟩, h.uk, h.pg, h.mp⟩
theorem Rel.pins {s : FS} {r : RS} {b : Int} (h : Rel s r b) (hb : 0 ≤ b ∧ b < 1000) (a : Int) (up : Bool) :
    (pinF s.fs a up = none ∧ pinG r.fs a up = none) ∨ ∃ fs, pinF s.fs a up = some fs ∧ pinG r.fs a up = some fs ∧ Rel ⟨fs, s.hand, s.ps, s.hs⟩ ⟨fs, r.hs⟩ (b + 1) := by
  unfold pinF pinG
  rw [h.fs]
  by_cases h0 : a < 0
  · left; simp [h0]
  obtain ⟨j, rfl⟩ : ∃ j : Nat, a = j := ⟨a.toNat, by omega⟩
  simp only [h0, if_false, Int.toNat_natCast]
  by_cases hj : j < s.fs.length
  case neg => left; rw [List.getElem?_eq_none (by omega)]; simp
  rw [List.getElem?_eq_getElem hj]
  have hk := h.key j hj
  have hp := h.pin j hj
  cases up with
  | true =>
    simp only [if_true]
    by_cases g : s.fs[j].key = -1
    · left; simp [g]
    · have g' : ¬ s.fs[j].key < 0 := by omega
      have hw : IntKind.i64.wrap (s.fs[j].pins + 1) = s.fs[j].pins + 1 := by rw [IntKind.wrap_i64]; omega
      right
      rw [if_neg g, if_neg g', hw]
      exact ⟨_, rfl, rfl, h.keep (by omega) hj rfl (show 0 ≤ s.fs[j].pins + 1 ∧ s.fs[j].pins + 1 ≤ b + 1 by omega)⟩
  | false =>
    simp only [Bool.false_eq_true, if_false]
    by_cases g : s.fs[j].pins = 0
    · left; simp [g]
    · have hw : IntKind.i64.wrap (s.fs[j].pins - 1) = s.fs[j].pins - 1 := by rw [IntKind.wrap_i64]; omega
      right
      rw [if_neg g, hw]
      exact ⟨_, rfl, rfl, h.keep (by omega) hj rfl (show 0 ≤ s.fs[j].pins - 1 ∧ s.fs[j].pins - 1 ≤ b + 1 by omega)⟩
theorem Rel.clean {s : FS} {r : RS} {b : Int} (h : Rel s r b) (a : Int) : Rel (cleanS s a) (cleanG r a) b := by
  unfold cleanS cleanG
  rw [h.of]
  cases ho : ofR s a with
  | none => exact h
  | some j =>
    obtain ⟨hj, hk, h0, h1⟩ := ofR_key ho
    have hp : j < s.ps.length := by rw [h.ok.hp]; exact hj
    have hh : j < r.hs.length := by rw [h.og.hh, h.fs]; exact hj
    have hg := h.pg j hj hp hh (by omega) (by omega)
    simp only [List.getElem?_eq_getElem hp, List.getElem?_eq_getElem hh, h.fs]
    have e : s.fs.set j s.fs[j] = s.fs := List.set_getElem_self hj
    have q := h.set (Int.le_refl b) hj (f := s.fs[j]) (ps := s.ps.set j ⟨s.ps[j].now, s.ps[j].now⟩) (hs := s.hs) (rh := r.hs.set j ⟨r.hs[j].now, r.hs[j].now, r.hs[j].heads⟩) (h.key j hj) (h.pin j hj) (by rw [e]; exact h.uk) (by simp [h.ok.hp]) h.ok.hh (by simp [h.og.hh, h.fs]) (fun i h1 h2 hne => by rw [List.getElem_set, if_neg fun e => hne e.symm]) (fun i h1 h2 hne => rfl) (fun i h1 h2 hne => by rw [List.getElem_set, if_neg fun e => hne e.symm]) (fun h1 h2 _ _ => by simp [hg.2]) (fun h1 h2 g => by omega)
    rw [e] at q
    exact q
theorem Rel.write {s : FS} {r : RS} {b : Int} (h : Rel s r b) (a off : Int) (ds : List Int) : (writeR s a off ds).1 = (writeG r a off ds).1 ∧ Rel (writeR s a off ds).2 (writeG r a off ds).2 b := by
  unfold writeR writeG
  rw [h.of]
  cases ho : ofR s a with
  | none => exact ⟨rfl, h⟩
  | some j =>
    obtain ⟨hj, hk, h0, h1⟩ := ofR_key ho
    have hp : j < s.ps.length := by rw [h.ok.hp]; exact hj
    have hh : j < r.hs.length := by rw [h.og.hh, h.fs]; exact hj
    have hg := h.pg j hj hp hh (by omega) (by omega)
    have hpn := h.pin j hj
    simp only [List.getElem?_eq_getElem hp, List.getElem?_eq_getElem hh, List.getElem?_eq_getElem hj, h.fs, hg.2]
    cases hq : applyA s.ps[j].now off ds with
    | none => exact ⟨rfl, h⟩
    | some q =>
      refine ⟨rfl, ?_⟩
      have e : touchG s.fs j = s.fs.set j ⟨s.fs[j].key, true, s.fs[j].pins⟩ := by
        unfold touchG
        have g0 : ¬ ((j : Int) < 0) := by omega
        have g1 : ¬ (s.fs[j].key < 0) := by omega
        simp [g0, g1, hj]
      simp only [e]
      exact h.set (Int.le_refl b) hj (f := ⟨s.fs[j].key, true, s.fs[j].pins⟩) (h.key j hj) hpn (UK_set (f := ⟨s.fs[j].key, true, s.fs[j].pins⟩) h.uk hj rfl).1 (by simp [h.ok.hp]) h.ok.hh (by simp [h.og.hh, h.fs]) (fun i h1 h2 hne => by rw [List.getElem_set, if_neg fun e => hne e.symm]) (fun i h1 h2 hne => rfl) (fun i h1 h2 hne => by rw [List.getElem_set, if_neg fun e => hne e.symm]) (fun h1 h2 _ _ => by simp [hg.1]) (fun h1 h2 g => by simp only at g; omega)
theorem Rel.page {s : FS} {r : RS} {b : Int} (h : Rel s r b) (a : Int) : (pgR s a).isSome = (ofG r a).isSome ∧ ∀ j, ofG r a = some j → ∃ (h1 : j < s.ps.length) (h2 : j < r.hs.length), pgR s a = some s.ps[j] ∧ r.hs[j].base = s.ps[j].base ∧ r.hs[j].now = s.ps[j].now := by
  rw [h.of]
  unfold pgR
  cases ho : ofR s a with
  | none => exact ⟨rfl, fun j hj => by cases hj⟩
  | some i =>
    obtain ⟨hj, hk, h0, h1⟩ := ofR_key ho
    have hp : i < s.ps.length := by rw [h.ok.hp]; exact hj
    have hh : i < r.hs.length := by rw [h.og.hh, h.fs]; exact hj
    refine ⟨by simp [hp], fun j e => ?_⟩
    obtain rfl : i = j := by simpa using e
    exact ⟨hp, hh, by simp [hp], h.pg i hj hp hh (by omega) (by omega)⟩
theorem Rel.map {s : FS} {r : RS} {b : Int} (h : Rel s r b) {a : Int} (h0 : 0 ≤ a) (h8 : a < 8) : (mapR s a).isSome = (fR (64 + a) r.fs).isSome ∧ ∀ j, fR (64 + a) r.fs = some j → ∃ (h1 : j < s.hs.length) (h2 : j < r.hs.length), mapR s a = some s.hs[j] ∧ r.hs[j].heads = s.hs[j] := by
  have g : ¬ a < 0 := by omega
  unfold mapR
  rw [h.fs, if_neg g, if_pos h8]
  cases ho : fR (64 + a) s.fs with
  | none => exact ⟨rfl, fun j hj => by cases hj⟩
  | some i =>
    have hj := fR_lt ho
    have hk := fR_key ho hj
    have hp : i < s.hs.length := by rw [h.ok.hh]; exact hj
    have hh : i < r.hs.length := by rw [h.og.hh, h.fs]; exact hj
    refine ⟨by simp [hp], fun j e => ?_⟩
    obtain rfl : i = j := by simpa using e
    exact ⟨hp, hh, by simp [hp], h.mp i hj hp hh (by omega)⟩
theorem Rel.new {n : Nat} (hn : n ≤ 16) : Rel (fs0 n) (rs0 n) 0 := by
  refine ⟨⟨by simp [fs0], by simp [fs0], by simp [fs0]; omega⟩, ⟨by simp [rs0], by simp [rs0]; omega⟩, rfl, fun i hi => ?_, fun i hi => ?_, ⟨fun i k hi hk _ hne => ?_, fun i hi => ?_⟩, fun i hi _ _ g _ => ?_, fun i hi _ _ g => ?_⟩
  · simp [fs0, fr0]
  · simp [fs0, fr0]
  · exact absurd (by simp [fs0, fr0]) hne
  · simp [fs0, fr0]
  · simp [fs0, fr0] at g
  · simp [fs0, fr0] at g
end Go.Proofs.YtlnbbgagccgnjaaDoor
/-
  FramesPlay: the dirty ones of both are asked and compared.
-/
namespace Go.Proofs.YtlnbbgagccgnjaaDoor
open Go Go.X
theorem condT {b : Bool} {A B : Prop} (h : b = true) (a : A) : cond b A B := by rw [h]; exact a
theorem condF {b : Bool} {A B : Prop} (h : b = false) (a : B) : cond b A B := by rw [h]; exact a
theorem gdirts_lt (r : RS) : (gdirts r).length < 5000 := by
  unfold gdirts
  rw [gFrom_eq]
  refine Nat.lt_of_le_of_lt (List.length_filter_le _ _) ?_
  simp
theorem numsAV_ne {l : List Int} (h : l ≠ []) : numsAV l = .isl 1 (row encZ l) := by cases l with | nil => exact absurd rfl h | cons _ _ => rfl
theorem takeRow (l : List Int) : List.take l.length (List.drop 0 (row encZ l)) = row encZ l := by rw [List.drop_zero, List.take_of_length_le (by simp)]
theorem sl_ok {l : List Int} {P : Prop} (h : P) : cond (decide (AV.flatLen (AV.arr 1 (row encZ l)) = List.length l))
  (cond (decide (List.length (row encZ l) = List.length l))
   (cond (decide (0 + List.length l ≤ List.length l))
    (cond (reflessL (List.take (List.length l) (List.drop 0 (row encZ l))) && true) P False) False) False) False := by
  rw [takeRow]
  have h1 : AV.flatLen (AV.arr 1 (row encZ l)) = List.length l := by rw [row_flatLen]; omega
  have h2 : reflessL (row encZ l) = true := reflessL_row (fun x => rfl) l
  simp [h1, h2, h]
theorem tailD {A : FS} {B : RS} {b : Int} {Kf : Prop} {I : FS → RS → Prop} (h : Rel A B b) (hI : I A B) :
  (∃ (s0 : FS),
  And ([AV.ptr (Pl.mk 0 0 [] 3)] = [AV.ptr (Pl.mk 0 0 [] 3)])
  (And (FH A = FH s0)
  (And (OkS s0)
  (And ((sortZ (dirties s0) = []) →
  ∃ (s1 : RS),
  And ([AV.ptr (Pl.mk 0 0 [] 2)] = [AV.ptr (Pl.mk 0 0 [] 2)])
  (And (GH B = GH s1)
  (And (OkG s1)
  (And ((gdirts s1 = []) →
   ∃ (l2 : List Int),
    ∃ (m3 : List Int),
     And ([AV.nils, AV.nils] = [numsAV l2, numsAV m3])
      (And (([] : Heap) = [])
       (And (List.length l2 < 5000)
        (cond (!decide (l2 = m3))
         (Kf)
         (I A B)))))
   (∀ (l4 : List Int),
   (l4 = gdirts s1) →
   (l4 ≠ []) →
   cond (decide (AV.flatLen (AV.arr 1 (row encZ l4)) = List.length l4))
    (cond (decide (List.length (row encZ l4) = List.length l4))
     (cond (decide (0 + List.length l4 ≤ List.length l4))
      (cond (reflessL (List.take (List.length l4) (List.drop 0 (row encZ l4))) && true)
       (∃ (l5 : List Int),
        ∃ (m6 : List Int),
         And ([AV.nils, AV.isl 1 (List.take (List.length l4) (List.drop 0 (row encZ l4)))] = [numsAV l5, numsAV m6])
          (And (([] : Heap) = [])
           (And (List.length l5 < 5000)
            (cond (!decide (l5 = m6))
             (Kf)
             (I A s1)))))
       (False))
      (False))
     (False))
    (False))))))
  (∀ (l7 : List Int),
  (l7 = sortZ (dirties s0)) →
  (l7 ≠ []) →
  ∃ (s8 : RS),
  And ([AV.ptr (Pl.mk 0 0 [] 2)] = [AV.ptr (Pl.mk 0 0 [] 2)])
  (And (GH B = GH s8)
  (And (OkG s8)
  (And ((gdirts s8 = []) →
   cond (decide (AV.flatLen (AV.arr 1 (row encZ l7)) = List.length l7))
    (cond (decide (List.length (row encZ l7) = List.length l7))
     (cond (decide (0 + List.length l7 ≤ List.length l7))
      (cond (reflessL (List.take (List.length l7) (List.drop 0 (row encZ l7))) && true)
       (∃ (l9 : List Int),
        ∃ (m10 : List Int),
         And ([AV.isl 1 (List.take (List.length l7) (List.drop 0 (row encZ l7))), AV.nils] = [numsAV l9, numsAV m10])
          (And (([] : Heap) = [])
           (And (List.length l9 < 5000)
            (cond (!decide (l9 = m10))
             (Kf)
             (I s0 B)))))
       (False))
      (False))
     (False))
    (False))
   (∀ (l11 : List Int),
   (l11 = gdirts s8) →
   (l11 ≠ []) →
   cond (decide (AV.flatLen (AV.arr 1 (row encZ l7)) = List.length l7))
    (cond (decide (List.length (row encZ l7) = List.length l7))
     (cond (decide (0 + List.length l7 ≤ List.length l7))
      (cond (reflessL (List.take (List.length l7) (List.drop 0 (row encZ l7))) && true)
       (cond (decide (AV.flatLen (AV.arr 1 (row encZ l11)) = List.length l11))
        (cond (decide (List.length (row encZ l11) = List.length l11))
         (cond (decide (0 + List.length l11 ≤ List.length l11))
          (cond (reflessL (List.take (List.length l11) (List.drop 0 (row encZ l11))) && true)
           (∃ (l12 : List Int),
            ∃ (m13 : List Int),
             And ([AV.isl 1 (List.take (List.length l7) (List.drop 0 (row encZ l7))), AV.isl 1 (List.take (List.length l11) (List.drop 0 (row encZ l11)))] = [numsAV l12, numsAV m13])
              (And (([] : Heap) = [])
               (And (List.length l12 < 5000)
                (cond (!decide (l12 = m13))
                 (Kf)
                 (I s0 s8)))))
           (False))
          (False))
         (False))
        (False))
       (False))
      (False))
     (False))
    (False)))))))))) := by
  have hd : gdirts B = sortZ (dirties A) := h.dirts
  have hl := gdirts_lt B
  refine ⟨A, rfl, rfl, h.ok, fun hn => ⟨B, rfl, rfl, h.og, fun _ => ⟨[], [], rfl, rfl, by simp, condF (by simp) hI⟩, fun l hq hne => ?_⟩, fun l hq hne => ⟨B, rfl, rfl, h.og, fun hn => ?_, fun m hm hme => ?_⟩⟩
  · rw [hd, hn] at hq; exact absurd hq hne
  · rw [hd, ← hq] at hn; exact absurd hn hne
  · have e : m = l := by rw [hm, hq, hd]
    subst e
    refine sl_ok (sl_ok ⟨m, m, ?_, rfl, by rw [hm]; exact hl, condF (by simp) hI⟩)
    rw [takeRow, numsAV_ne hme]
end Go.Proofs.YtlnbbgagccgnjaaDoor
/-
  FramesKeep: the table, the states at the loops' heads.
-/
namespace Go.Proofs.YtlnbbgagccgnjaaDoor
open Go Go.X
variable {F : Nat}
def T4 (F : Nat) : FuncId → Option PT := fun f => if f = 9 then some (t9 F) else if f = 11 then some t11 else if f = 7 then some t7 else if f = 13 then some t13 else if f = 15 then some t15 else if f = 16 then some t16 else if f = 17 then some t17 else if f = 18 then some t18 else T3 f
def LM (s : FS) (B N D : List AV) : Heap := LH s ++ [some ⟨.arr 32 B, false, true⟩, some ⟨.arr 32 N, false, true⟩, some ⟨.arr 1 D, false, true⟩]
abbrev LT (xs : List AV) (i : Int) : List (Nat × AV) := [(0, .isl 6 xs), (2, .bad), (3, .ptr ⟨4, 0, [], 3⟩), (4, .bad), (5, .ptr ⟨5, 0, [], 256⟩), (6, .ptr ⟨6, 0, [], 256⟩), (7, .ptr ⟨7, 0, [], 8⟩), (8, .int .i64 i)] ++ ([9, 10, 11, 12, 13, 14, 15, 16, 17, 18, 19, 20, 21, 22, 42, 60, 74, 75, 92, 112, 113, 114, 129, 150, 153, 159, 170, 201, 205, 219, 231, 237].map fun t => (t, AV.bad))
abbrev LI (xs : List AV) (i kk : Int) : List (Nat × AV) := [(0, .isl 6 xs), (2, .bad), (3, .ptr ⟨4, 0, [], 3⟩), (4, .bad), (5, .ptr ⟨5, 0, [], 256⟩), (6, .ptr ⟨6, 0, [], 256⟩), (7, .ptr ⟨7, 0, [], 8⟩), (8, .int .i64 i)] ++ ([9, 10, 11, 12, 13, 14, 15].map fun t => (t, AV.bad)) ++ [(16, .int .i64 kk)] ++ ([17, 18, 19, 20, 21, 22, 42, 60, 74, 75, 92, 112, 113, 114, 129, 150, 153, 159, 170, 201, 205, 219, 231, 237].map fun t => (t, AV.bad))
abbrev LJ (xs : List AV) (i : Int) (d : AV) (at' kk : Int) : List (Nat × AV) := [(0, .isl 6 xs), (2, .bad), (3, .ptr ⟨4, 0, [], 3⟩), (4, .bad), (5, .ptr ⟨5, 0, [], 256⟩), (6, .ptr ⟨6, 0, [], 256⟩), (7, .ptr ⟨7, 0, [], 8⟩), (8, .int .i64 i)] ++ ([9, 10, 11, 12, 13, 14, 15, 16, 17, 18, 19].map fun t => (t, AV.bad)) ++ [(20, d), (21, .int .i64 at'), (22, .int .i64 kk)] ++ ([42, 60, 74, 75, 92, 112, 113, 114, 129, 150, 153, 159, 170, 201, 205, 219, 231, 237].map fun t => (t, AV.bad))
def LD (s : FS) (B N D d : List AV) : Heap := LM s B N D ++ [none, some ⟨.arr 1 d, true, true⟩]
abbrev pO : List Bool := [true, true, true, true, true, false, true]
abbrev p1 : List Bool := [true, false, true, true, true, true, false, true]
abbrev p2 : List Bool := [true, false, true, true, true, true, true, true, true, false, true]
end Go.Proofs.YtlnbbgagccgnjaaDoor
