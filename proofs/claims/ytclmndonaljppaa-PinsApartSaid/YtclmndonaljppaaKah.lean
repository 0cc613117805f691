/- Pins: one more: tree.
-/
import Derived.Test.YtclmndonaljppaaKag

namespace Go.Proofs.Ytclmndonaljppaa
open Go Go.X
variable {F : Nat}
abbrev T25 : FuncId → Option PT := fun f => if f = 25 then some t25 else if f = 20 then some t20 else if f = 26 then some t26 else if f = 21 then some t21 else if f = 22 then some t22 else if f = 23 then some t23 else none
theorem tree12 (N fuel : Nat) (i : Nat) (H : Heap) (s pg : Int) (k : AV → Heap → Bool → Prop) :
 (runP (S F) T25 N 30 fuel 12 [.ptr ⟨i, 0, [], 1⟩, .int .i64 s, .int .i64 pg] H k) =
 ((∃ (i0 : Nat),
 ∃ (j1 : Nat),
 ∃ (vs2 : List AV),
 ∃ (ls3 : List (List Int)),
 ∃ (s4 : Int),
 ∃ (pg5 : Int),
 And ([AV.ptr (Pl.mk i 0 [] 1), AV.int IntKind.i64 s, AV.int IntKind.i64 pg] = [AV.ptr (Pl.mk i0 0 [] 1), AV.int IntKind.i64 s4, AV.int IntKind.i64 pg5])
 (And (PinsR H i0 j1 vs2 ls3)
 (And ((¬OkS ls3 s4) →
 ∃ (p6 : List Nat),
 And (Option.map List.reverse (reach (H ++ [fB [112, 105, 110, 115] 20, fW (List.length H)]) 0 1000 [List.length H + 1] []) = some p6)
 (∃ (c7 : Nat),
 And (ErrP [AV.iface 73 (AV.ptr (Pl.mk (idx p6 (List.length H + 1)) 0 [] 3))] (pieceH p6 (H ++ [fB [112, 105, 110, 115] 20, fW (List.length H)])) (Int.ofNat (c7 + 1)))
 (∀ (H28 : Heap),
 (H28 = backH p6 (H ++ [fB [112, 105, 110, 115] 20, fW (List.length H)]) (pieceH p6 (H ++ [fB [112, 105, 110, 115] 20, fW (List.length H)]))) →
 k (AV.int IntKind.i64 (Int.ofNat (c7 + 1))) H28 true)))
 (And ((OkS ls3 s4) →
 (¬OkP pg5) →
 ∃ (p9 : List Nat),
 And (Option.map List.reverse (reach (H ++ [fB [97, 100, 100] 16]) 0 1000 [List.length H] []) = some p9)
 (∃ (c10 : Nat),
 And (ErrP [AV.iface 73 (AV.ptr (Pl.mk (idx p9 (List.length H)) 0 [] 3))] (pieceH p9 (H ++ [fB [97, 100, 100] 16])) (Int.ofNat (c10 + 1)))
 (∀ (H211 : Heap),
 (H211 = backH p9 (H ++ [fB [97, 100, 100] 16]) (pieceH p9 (H ++ [fB [97, 100, 100] 16]))) →
 k (AV.int IntKind.i64 (Int.ofNat (c10 + 1))) H211 true)))
 (And ((OkS ls3 s4) →
 (OkP pg5) →
 (16 ≤ List.length (List.getD ls3 (Int.toNat s4) [])) →
 ∃ (p12 : List Nat),
 And (Option.map List.reverse (reach (H ++ [fB [97, 100, 100] 19]) 0 1000 [List.length H] []) = some p12)
 (∃ (c13 : Nat),
 And (ErrP [AV.iface 73 (AV.ptr (Pl.mk (idx p12 (List.length H)) 0 [] 3))] (pieceH p12 (H ++ [fB [97, 100, 100] 19])) (Int.ofNat (c13 + 1)))
 (∀ (H214 : Heap),
 (H214 = backH p12 (H ++ [fB [97, 100, 100] 19]) (pieceH p12 (H ++ [fB [97, 100, 100] 19]))) →
 k (AV.int IntKind.i64 (Int.ofNat (c13 + 1))) H214 true)))
 ((OkS ls3 s4) →
 (OkP pg5) →
 (List.length (List.getD ls3 (Int.toNat s4) []) < 16) →
 ∃ (p15 : List Nat),
 And (some [] = some p15)
 (And (pieceH p15 H = [])
 (∀ (H216 : Heap),
 (H216 = backH p15 H []) →
 ∃ (b17 : Blk),
 And (Heap.blk H216 i = some b17)
 (cond (okAt b17.1 [0] 0 1 false 1)
 (∃ (p18 : Pl),
 ∃ (n19 : Nat),
 ∃ (off20 : Nat),
 ∃ (len21 : Nat),
 And (projT [0] b17.1 = AV.sl p18 1 n19 off20 len21)
 (∃ (b22 : Blk),
 And (Heap.blk H216 i = some b22)
 (cond (okAt b22.1 [0] 0 1 false 1)
 (∃ (p23 : Pl),
 ∃ (n24 : Nat),
 ∃ (off25 : Nat),
 ∃ (len26 : Nat),
 And (projT [0] b22.1 = AV.sl p23 1 n24 off25 len26)
 (cond (decide (0 ≤ s))
 (cond (decide (Int.toNat s < len26))
 (∃ (b27 : Blk),
 And (Heap.blk H216 p23.1 = some b27)
 (cond (okAt b27.1 (p23.3 ++ [off25 + Int.toNat s]) (p23.2 + (off25 + Int.toNat s) * 1) p23.4 false 1)
 (And ((projT (p23.3 ++ [off25 + Int.toNat s]) b27.1 = AV.nils) →
 ∃ (b28 : Blk),
 ∃ (ys29 : List AV),
 And (Heap.blk (H216 ++ [some (Blk.mk (AV.arr 1 [AV.int IntKind.i64 pg]) true true)]) (List.length H216) = some b28)
 (And (b28.1 = AV.arr 1 ys29)
 (And (([] : List Nat) = [])
 (And (0 = 0)
 (And (1 = 1)
 (cond (decide (1 * List.length ys29 = 1))
 (cond (decide (List.length ys29 = 1))
 (cond (reflessL (List.take 1 ys29) && List.all (List.take 1 ys29) fun (u : AV) => AV.flatLen u == 1)
 (cond (List.isEmpty (List.take 1 ys29))
 (cond (decide (0 ≤ s))
 (cond (decide (Int.toNat s < len21))
 (∃ (b30 : Blk),
 And (Heap.blk (H216 ++ [some (Blk.mk (AV.arr 1 [AV.int IntKind.i64 pg]) true true)]) p18.1 = some b30)
 (cond (okPl b30.1 (p18.3 ++ [off20 + Int.toNat s]) (p18.2 + (off20 + Int.toNat s) * 1) p18.4 1)
 (∀ (H'31 : Heap),
 (H'31 = List.set (H216 ++ [some (Blk.mk (AV.arr 1 [AV.int IntKind.i64 pg]) true true)]) p18.1 (some (Blk.mk (putT (p18.3 ++ [off20 + Int.toNat s]) b30.1 AV.nils) b30.2 (b30.3 && true)))) →
 ∃ (b32 : Blk),
 And (Heap.blk (H216 ++ [some (Blk.mk (AV.arr 1 [AV.int IntKind.i64 pg]) true true)]) i = some b32)
 (cond (okAt b32.1 [0] 0 1 false 1)
 (cond (AV.beq (projT [0] b32.1) (AV.sl p18 1 n19 off20 len21))
 (∃ (b33 : Blk),
 And (Heap.blk (H216 ++ [some (Blk.mk (AV.arr 1 [AV.int IntKind.i64 pg]) true true)]) i = some b33)
 (cond (okAt b33.1 [0] 0 1 false 1)
 (cond (AV.beq (projT [0] b33.1) (AV.sl p18 1 n19 off20 len21))
 (∃ (b34 : Blk),
 And (Heap.blk (H216 ++ [some (Blk.mk (AV.arr 1 [AV.int IntKind.i64 pg]) true true)]) i = some b34)
 (cond (okAt b34.1 [0] 0 1 false 1)
 (cond (AV.beq (projT [0] b34.1) (AV.sl p23 1 n24 off25 len26))
 (∃ (b35 : Blk),
 And (Heap.blk (H216 ++ [some (Blk.mk (AV.arr 1 [AV.int IntKind.i64 pg]) true true)]) p23.1 = some b35)
 (cond (okAt b35.1 (p23.3 ++ [off25 + Int.toNat s]) (p23.2 + (off25 + Int.toNat s) * 1) p23.4 false 1)
 (cond (AV.beq (projT (p23.3 ++ [off25 + Int.toNat s]) b35.1) AV.nils)
 (∃ (b36 : Blk),
 And (Heap.blk H'31 i = some b36)
 (cond (okAt b36.1 [0] 0 1 false 1)
 (∃ (p37 : Pl),
 ∃ (n38 : Nat),
 ∃ (off39 : Nat),
 ∃ (len40 : Nat),
 And (projT [0] b36.1 = AV.sl p37 1 n38 off39 len40)
 (cond (decide (0 ≤ s))
 (cond (decide (Int.toNat s < len40))
 (∃ (b41 : Blk),
 And (Heap.blk H'31 p37.1 = some b41)
 (cond (okAt b41.1 (p37.3 ++ [off39 + Int.toNat s]) (p37.2 + (off39 + Int.toNat s) * 1) p37.4 false 1)
 (And ((projT (p37.3 ++ [off39 + Int.toNat s]) b41.1 = AV.nils) →
 ∃ (p42 : Nat),
 ∃ (n43 : Nat),
 ∃ (l44 : Nat),
 ∃ (xs45 : List Int),
 And ([AV.nils] = [AV.sl (Pl.mk p42 0 [] n43) 1 n43 0 l44])
 (And (Heap.blk H'31 p42 = some (Blk.mk (AV.arr 1 (row encZ xs45)) true true))
 (And (List.length xs45 = n43)
 (And (0 < l44)
 (And (l44 ≤ n43)
 (And (l44 ≤ 1000)
 (∀ (H'46 : List (Option Blk)),
 (H'46 = List.set H'31 p42 (some (Blk.mk (AV.arr 1 (row encZ (sortI (List.take l44 xs45) ++ List.drop l44 xs45))) true true))) →
 k (AV.int IntKind.i64 0) H'46 true)))))))
 (And (∀ (p47 : Pl),
 ∀ (n48 : Nat),
 ∀ (off49 : Nat),
 ∀ (len50 : Nat),
 (projT (p37.3 ++ [off39 + Int.toNat s]) b41.1 = AV.sl p47 1 n48 off49 len50) →
 ∃ (p51 : Nat),
 ∃ (n52 : Nat),
 ∃ (l53 : Nat),
 ∃ (xs54 : List Int),
 And ([AV.sl p47 1 n48 off49 len50] = [AV.sl (Pl.mk p51 0 [] n52) 1 n52 0 l53])
 (And (Heap.blk H'31 p51 = some (Blk.mk (AV.arr 1 (row encZ xs54)) true true))
 (And (List.length xs54 = n52)
 (And (0 < l53)
 (And (l53 ≤ n52)
 (And (l53 ≤ 1000)
 (∀ (H'55 : List (Option Blk)),
 (H'55 = List.set H'31 p51 (some (Blk.mk (AV.arr 1 (row encZ (sortI (List.take l53 xs54) ++ List.drop l53 xs54))) true true))) →
 k (AV.int IntKind.i64 0) H'55 true)))))))
 (projT (p37.3 ++ [off39 + Int.toNat s]) b41.1 = AV.nils ∨ ∃ (p : Pl), ∃ (n : Nat), ∃ (off : Nat), ∃ (len : Nat), projT (p37.3 ++ [off39 + Int.toNat s]) b41.1 = AV.sl p 1 n off len)))
 (False)))
 (False))
 (False)))
 (False)))
 (False))
 (False)))
 (False))
 (False)))
 (False))
 (False)))
 (False))
 (False)))
 (False)))
 (False))
 (False))
 (cond (decide (List.length (List.take 1 ys29) * 8 ≤ 70368744177664) && decide (List.length (List.take 1 ys29) ≤ 70368744177664))
 (cond (decide (0 ≤ s))
 (cond (decide (Int.toNat s < len21))
 (∃ (b56 : Blk),
 And (Heap.blk (H216 ++ [some (Blk.mk (AV.arr 1 [AV.int IntKind.i64 pg]) true true)] ++ [some (Blk.mk (AV.arr 1 (List.take 1 ys29)) true true)]) p18.1 = some b56)
 (cond (okPl b56.1 (p18.3 ++ [off20 + Int.toNat s]) (p18.2 + (off20 + Int.toNat s) * 1) p18.4 1)
 (∀ (H'57 : Heap),
 (H'57 = List.set (H216 ++ [some (Blk.mk (AV.arr 1 [AV.int IntKind.i64 pg]) true true)] ++ [some (Blk.mk (AV.arr 1 (List.take 1 ys29)) true true)]) p18.1 (some (Blk.mk (putT (p18.3 ++ [off20 + Int.toNat s]) b56.1 (AV.sl (Pl.mk (List.length (H216 ++ [some (Blk.mk (AV.arr 1 [AV.int IntKind.i64 pg]) true true)])) 0 [] (1 * List.length (List.take 1 ys29))) 1 (List.length (List.take 1 ys29)) 0 (List.length (List.take 1 ys29)))) b56.2 (b56.3 && false)))) →
 ∃ (b58 : Blk),
 And (Heap.blk (H216 ++ [some (Blk.mk (AV.arr 1 [AV.int IntKind.i64 pg]) true true)]) i = some b58)
 (cond (okAt b58.1 [0] 0 1 false 1)
 (cond (AV.beq (projT [0] b58.1) (AV.sl p18 1 n19 off20 len21))
 (∃ (b59 : Blk),
 And (Heap.blk (H216 ++ [some (Blk.mk (AV.arr 1 [AV.int IntKind.i64 pg]) true true)] ++ [some (Blk.mk (AV.arr 1 (List.take 1 ys29)) true true)]) i = some b59)
 (cond (okAt b59.1 [0] 0 1 false 1)
 (cond (AV.beq (projT [0] b59.1) (AV.sl p18 1 n19 off20 len21))
 (∃ (b60 : Blk),
 And (Heap.blk (H216 ++ [some (Blk.mk (AV.arr 1 [AV.int IntKind.i64 pg]) true true)]) i = some b60)
 (cond (okAt b60.1 [0] 0 1 false 1)
 (cond (AV.beq (projT [0] b60.1) (AV.sl p23 1 n24 off25 len26))
 (∃ (b61 : Blk),
 And (Heap.blk (H216 ++ [some (Blk.mk (AV.arr 1 [AV.int IntKind.i64 pg]) true true)]) p23.1 = some b61)
 (cond (okAt b61.1 (p23.3 ++ [off25 + Int.toNat s]) (p23.2 + (off25 + Int.toNat s) * 1) p23.4 false 1)
 (cond (AV.beq (projT (p23.3 ++ [off25 + Int.toNat s]) b61.1) AV.nils)
 (∃ (b62 : Blk),
 And (Heap.blk H'57 i = some b62)
 (cond (okAt b62.1 [0] 0 1 false 1)
 (∃ (p63 : Pl),
 ∃ (n64 : Nat),
 ∃ (off65 : Nat),
 ∃ (len66 : Nat),
 And (projT [0] b62.1 = AV.sl p63 1 n64 off65 len66)
 (cond (decide (0 ≤ s))
 (cond (decide (Int.toNat s < len66))
 (∃ (b67 : Blk),
 And (Heap.blk H'57 p63.1 = some b67)
 (cond (okAt b67.1 (p63.3 ++ [off65 + Int.toNat s]) (p63.2 + (off65 + Int.toNat s) * 1) p63.4 false 1)
 (And ((projT (p63.3 ++ [off65 + Int.toNat s]) b67.1 = AV.nils) →
 ∃ (p68 : Nat),
 ∃ (n69 : Nat),
 ∃ (l70 : Nat),
 ∃ (xs71 : List Int),
 And ([AV.nils] = [AV.sl (Pl.mk p68 0 [] n69) 1 n69 0 l70])
 (And (Heap.blk H'57 p68 = some (Blk.mk (AV.arr 1 (row encZ xs71)) true true))
 (And (List.length xs71 = n69)
 (And (0 < l70)
 (And (l70 ≤ n69)
 (And (l70 ≤ 1000)
 (∀ (H'72 : List (Option Blk)),
 (H'72 = List.set H'57 p68 (some (Blk.mk (AV.arr 1 (row encZ (sortI (List.take l70 xs71) ++ List.drop l70 xs71))) true true))) →
 k (AV.int IntKind.i64 0) H'72 true)))))))
 (And (∀ (p73 : Pl),
 ∀ (n74 : Nat),
 ∀ (off75 : Nat),
 ∀ (len76 : Nat),
 (projT (p63.3 ++ [off65 + Int.toNat s]) b67.1 = AV.sl p73 1 n74 off75 len76) →
 ∃ (p77 : Nat),
 ∃ (n78 : Nat),
 ∃ (l79 : Nat),
 ∃ (xs80 : List Int),
 And ([AV.sl p73 1 n74 off75 len76] = [AV.sl (Pl.mk p77 0 [] n78) 1 n78 0 l79])
 (And (Heap.blk H'57 p77 = some (Blk.mk (AV.arr 1 (row encZ xs80)) true true))
 (And (List.length xs80 = n78)
 (And (0 < l79)
 (And (l79 ≤ n78)
 (And (l79 ≤ 1000)
 (∀ (H'81 : List (Option Blk)),
 (H'81 = List.set H'57 p77 (some (Blk.mk (AV.arr 1 (row encZ (sortI (List.take l79 xs80) ++ List.drop l79 xs80))) true true))) →
 k (AV.int IntKind.i64 0) H'81 true)))))))
 (projT (p63.3 ++ [off65 + Int.toNat s]) b67.1 = AV.nils ∨ ∃ (p : Pl), ∃ (n : Nat), ∃ (off : Nat), ∃ (len : Nat), projT (p63.3 ++ [off65 + Int.toNat s]) b67.1 = AV.sl p 1 n off len)))
 (False)))
 (False))
 (False)))
 (False)))
 (False))
 (False)))
 (False))
 (False)))
 (False))
 (False)))
 (False))
 (False)))
 (False)))
 (False))
 (False))
 (False)))
 (False))
 (False))
 (False)))))))
 (And (∀ (p82 : Pl),
 ∀ (n83 : Nat),
 ∀ (off84 : Nat),
 ∀ (len85 : Nat),
 (projT (p23.3 ++ [off25 + Int.toNat s]) b27.1 = AV.sl p82 1 n83 off84 len85) →
 ∃ (b86 : Blk),
 ∃ (ys87 : List AV),
 And (Heap.blk (H216 ++ [some (Blk.mk (AV.arr 1 [AV.int IntKind.i64 pg]) true true)]) (List.length H216) = some b86)
 (And (b86.1 = AV.arr 1 ys87)
 (And (([] : List Nat) = [])
 (And (0 = 0)
 (And (1 = 1)
 (cond (decide (1 * List.length ys87 = 1))
 (cond (decide (List.length ys87 = 1))
 (cond (reflessL (List.take 1 ys87) && List.all (List.take 1 ys87) fun (u : AV) => AV.flatLen u == 1)
 (∃ (b88 : Blk),
 ∃ (ys89 : List AV),
 And (Heap.blk (H216 ++ [some (Blk.mk (AV.arr 1 [AV.int IntKind.i64 pg]) true true)]) p82.1 = some b88)
 (And (b88.1 = AV.arr 1 ys89)
 (And (p82.3 = [])
 (And (p82.2 = 0)
 (And (1 = 1)
 (cond (decide (1 * List.length ys89 = p82.4) && decide (List.length ys89 = n83) && decide (off84 + len85 ≤ n83))
 (cond (decide (off84 + len85 + List.length (List.take 1 ys87) ≤ n83))
 (∀ (H'90 : Heap),
 (H'90 = List.set (H216 ++ [some (Blk.mk (AV.arr 1 [AV.int IntKind.i64 pg]) true true)]) p82.1 (some (Blk.mk (AV.arr 1 (setMany ys89 (off84 + len85) (List.take 1 ys87))) b88.2 b88.3))) →
 cond (decide (0 ≤ s))
 (cond (decide (Int.toNat s < len21))
 (∃ (b91 : Blk),
 And (Heap.blk H'90 p18.1 = some b91)
 (cond (okPl b91.1 (p18.3 ++ [off20 + Int.toNat s]) (p18.2 + (off20 + Int.toNat s) * 1) p18.4 1)
 (∀ (H'92 : Heap),
 (H'92 = List.set H'90 p18.1 (some (Blk.mk (putT (p18.3 ++ [off20 + Int.toNat s]) b91.1 (AV.sl p82 1 n83 off84 (len85 + List.length (List.take 1 ys87)))) b91.2 (b91.3 && false)))) →
 ∃ (b93 : Blk),
 And (Heap.blk (H216 ++ [some (Blk.mk (AV.arr 1 [AV.int IntKind.i64 pg]) true true)]) i = some b93)
 (cond (okAt b93.1 [0] 0 1 false 1)
 (cond (AV.beq (projT [0] b93.1) (AV.sl p18 1 n19 off20 len21))
 (∃ (b94 : Blk),
 And (Heap.blk H'90 i = some b94)
 (cond (okAt b94.1 [0] 0 1 false 1)
 (cond (AV.beq (projT [0] b94.1) (AV.sl p18 1 n19 off20 len21))
 (∃ (b95 : Blk),
 And (Heap.blk (H216 ++ [some (Blk.mk (AV.arr 1 [AV.int IntKind.i64 pg]) true true)]) i = some b95)
 (cond (okAt b95.1 [0] 0 1 false 1)
 (cond (AV.beq (projT [0] b95.1) (AV.sl p23 1 n24 off25 len26))
 (∃ (b96 : Blk),
 And (Heap.blk (H216 ++ [some (Blk.mk (AV.arr 1 [AV.int IntKind.i64 pg]) true true)]) p23.1 = some b96)
 (cond (okAt b96.1 (p23.3 ++ [off25 + Int.toNat s]) (p23.2 + (off25 + Int.toNat s) * 1) p23.4 false 1)
 (cond (AV.beq (projT (p23.3 ++ [off25 + Int.toNat s]) b96.1) (AV.sl p82 1 n83 off84 len85))
 (∃ (b97 : Blk),
 And (Heap.blk H'92 i = some b97)
 (cond (okAt b97.1 [0] 0 1 false 1)
 (∃ (p98 : Pl),
 ∃ (n99 : Nat),
 ∃ (off100 : Nat),
 ∃ (len101 : Nat),
 And (projT [0] b97.1 = AV.sl p98 1 n99 off100 len101)
 (cond (decide (0 ≤ s))
 (cond (decide (Int.toNat s < len101))
 (∃ (b102 : Blk),
 And (Heap.blk H'92 p98.1 = some b102)
 (cond (okAt b102.1 (p98.3 ++ [off100 + Int.toNat s]) (p98.2 + (off100 + Int.toNat s) * 1) p98.4 false 1)
 (And ((projT (p98.3 ++ [off100 + Int.toNat s]) b102.1 = AV.nils) →
 ∃ (p103 : Nat),
 ∃ (n104 : Nat),
 ∃ (l105 : Nat),
 ∃ (xs106 : List Int),
 And ([AV.nils] = [AV.sl (Pl.mk p103 0 [] n104) 1 n104 0 l105])
 (And (Heap.blk H'92 p103 = some (Blk.mk (AV.arr 1 (row encZ xs106)) true true))
 (And (List.length xs106 = n104)
 (And (0 < l105)
 (And (l105 ≤ n104)
 (And (l105 ≤ 1000)
 (∀ (H'107 : List (Option Blk)),
 (H'107 = List.set H'92 p103 (some (Blk.mk (AV.arr 1 (row encZ (sortI (List.take l105 xs106) ++ List.drop l105 xs106))) true true))) →
 k (AV.int IntKind.i64 0) H'107 true)))))))
 (And (∀ (p108 : Pl),
 ∀ (n109 : Nat),
 ∀ (off110 : Nat),
 ∀ (len111 : Nat),
 (projT (p98.3 ++ [off100 + Int.toNat s]) b102.1 = AV.sl p108 1 n109 off110 len111) →
 ∃ (p112 : Nat),
 ∃ (n113 : Nat),
 ∃ (l114 : Nat),
 ∃ (xs115 : List Int),
 And ([AV.sl p108 1 n109 off110 len111] = [AV.sl (Pl.mk p112 0 [] n113) 1 n113 0 l114])
 (And (Heap.blk H'92 p112 = some (Blk.mk (AV.arr 1 (row encZ xs115)) true true))
 (And (List.length xs115 = n113)
 (And (0 < l114)
 (And (l114 ≤ n113)
 (And (l114 ≤ 1000)
 (∀ (H'116 : List (Option Blk)),
 (H'116 = List.set H'92 p112 (some (Blk.mk (AV.arr 1 (row encZ (sortI (List.take l114 xs115) ++ List.drop l114 xs115))) true true))) →
 k (AV.int IntKind.i64 0) H'116 true)))))))
 (projT (p98.3 ++ [off100 + Int.toNat s]) b102.1 = AV.nils ∨ ∃ (p : Pl), ∃ (n : Nat), ∃ (off : Nat), ∃ (len : Nat), projT (p98.3 ++ [off100 + Int.toNat s]) b102.1 = AV.sl p 1 n off len)))
 (False)))
 (False))
 (False)))
 (False)))
 (False))
 (False)))
 (False))
 (False)))
 (False))
 (False)))
 (False))
 (False)))
 (False)))
 (False))
 (False))
 (cond (decide (off84 = 0) && decide (len85 = n83) && b88.2 && decide ((n83 + List.length (List.take 1 ys87)) * 8 ≤ 70368744177664) && decide (n83 + List.length (List.take 1 ys87) ≤ 70368744177664))
 (∀ (H'117 : Heap),
 (H'117 = List.set (H216 ++ [some (Blk.mk (AV.arr 1 [AV.int IntKind.i64 pg]) true true)]) p82.1 (some (Blk.mk (AV.arr 1 (ys89 ++ List.take 1 ys87)) true b88.3))) →
 cond (decide (0 ≤ s))
 (cond (decide (Int.toNat s < len21))
 (∃ (b118 : Blk),
 And (Heap.blk H'117 p18.1 = some b118)
 (cond (okPl b118.1 (p18.3 ++ [off20 + Int.toNat s]) (p18.2 + (off20 + Int.toNat s) * 1) p18.4 1)
 (∀ (H'119 : Heap),
 (H'119 = List.set H'117 p18.1 (some (Blk.mk (putT (p18.3 ++ [off20 + Int.toNat s]) b118.1 (AV.sl (Pl.mk p82.1 0 [] (1 * (n83 + List.length (List.take 1 ys87)))) 1 (n83 + List.length (List.take 1 ys87)) 0 (n83 + List.length (List.take 1 ys87)))) b118.2 (b118.3 && false)))) →
 ∃ (b120 : Blk),
 And (Heap.blk (H216 ++ [some (Blk.mk (AV.arr 1 [AV.int IntKind.i64 pg]) true true)]) i = some b120)
 (cond (okAt b120.1 [0] 0 1 false 1)
 (cond (AV.beq (projT [0] b120.1) (AV.sl p18 1 n19 off20 len21))
 (∃ (b121 : Blk),
 And (Heap.blk H'117 i = some b121)
 (cond (okAt b121.1 [0] 0 1 false 1)
 (cond (AV.beq (projT [0] b121.1) (AV.sl p18 1 n19 off20 len21))
 (∃ (b122 : Blk),
 And (Heap.blk (H216 ++ [some (Blk.mk (AV.arr 1 [AV.int IntKind.i64 pg]) true true)]) i = some b122)
 (cond (okAt b122.1 [0] 0 1 false 1)
 (cond (AV.beq (projT [0] b122.1) (AV.sl p23 1 n24 off25 len26))
 (∃ (b123 : Blk),
 And (Heap.blk (H216 ++ [some (Blk.mk (AV.arr 1 [AV.int IntKind.i64 pg]) true true)]) p23.1 = some b123)
 (cond (okAt b123.1 (p23.3 ++ [off25 + Int.toNat s]) (p23.2 + (off25 + Int.toNat s) * 1) p23.4 false 1)
 (cond (AV.beq (projT (p23.3 ++ [off25 + Int.toNat s]) b123.1) (AV.sl p82 1 n83 off84 len85))
 (∃ (b124 : Blk),
 And (Heap.blk H'119 i = some b124)
 (cond (okAt b124.1 [0] 0 1 false 1)
 (∃ (p125 : Pl),
 ∃ (n126 : Nat),
 ∃ (off127 : Nat),
 ∃ (len128 : Nat),
 And (projT [0] b124.1 = AV.sl p125 1 n126 off127 len128)
 (cond (decide (0 ≤ s))
 (cond (decide (Int.toNat s < len128))
 (∃ (b129 : Blk),
 And (Heap.blk H'119 p125.1 = some b129)
 (cond (okAt b129.1 (p125.3 ++ [off127 + Int.toNat s]) (p125.2 + (off127 + Int.toNat s) * 1) p125.4 false 1)
 (And ((projT (p125.3 ++ [off127 + Int.toNat s]) b129.1 = AV.nils) →
 ∃ (p130 : Nat),
 ∃ (n131 : Nat),
 ∃ (l132 : Nat),
 ∃ (xs133 : List Int),
 And ([AV.nils] = [AV.sl (Pl.mk p130 0 [] n131) 1 n131 0 l132])
 (And (Heap.blk H'119 p130 = some (Blk.mk (AV.arr 1 (row encZ xs133)) true true))
 (And (List.length xs133 = n131)
 (And (0 < l132)
 (And (l132 ≤ n131)
 (And (l132 ≤ 1000)
 (∀ (H'134 : List (Option Blk)),
 (H'134 = List.set H'119 p130 (some (Blk.mk (AV.arr 1 (row encZ (sortI (List.take l132 xs133) ++ List.drop l132 xs133))) true true))) →
 k (AV.int IntKind.i64 0) H'134 true)))))))
 (And (∀ (p135 : Pl),
 ∀ (n136 : Nat),
 ∀ (off137 : Nat),
 ∀ (len138 : Nat),
 (projT (p125.3 ++ [off127 + Int.toNat s]) b129.1 = AV.sl p135 1 n136 off137 len138) →
 ∃ (p139 : Nat),
 ∃ (n140 : Nat),
 ∃ (l141 : Nat),
 ∃ (xs142 : List Int),
 And ([AV.sl p135 1 n136 off137 len138] = [AV.sl (Pl.mk p139 0 [] n140) 1 n140 0 l141])
 (And (Heap.blk H'119 p139 = some (Blk.mk (AV.arr 1 (row encZ xs142)) true true))
 (And (List.length xs142 = n140)
 (And (0 < l141)
 (And (l141 ≤ n140)
 (And (l141 ≤ 1000)
 (∀ (H'143 : List (Option Blk)),
 (H'143 = List.set H'119 p139 (some (Blk.mk (AV.arr 1 (row encZ (sortI (List.take l141 xs142) ++ List.drop l141 xs142))) true true))) →
 k (AV.int IntKind.i64 0) H'143 true)))))))
 (projT (p125.3 ++ [off127 + Int.toNat s]) b129.1 = AV.nils ∨ ∃ (p : Pl), ∃ (n : Nat), ∃ (off : Nat), ∃ (len : Nat), projT (p125.3 ++ [off127 + Int.toNat s]) b129.1 = AV.sl p 1 n off len)))
 (False)))
 (False))
 (False)))
 (False)))
 (False))
 (False)))
 (False))
 (False)))
 (False))
 (False)))
 (False))
 (False)))
 (False)))
 (False))
 (False))
 (False)))
 (False)))))))
 (False))
 (False))
 (False)))))))
 (projT (p23.3 ++ [off25 + Int.toNat s]) b27.1 = AV.nils ∨ ∃ (p : Pl), ∃ (n : Nat), ∃ (off : Nat), ∃ (len : Nat), projT (p23.3 ++ [off25 + Int.toNat s]) b27.1 = AV.sl p 1 n off len)))
 (False)))
 (False))
 (False)))
 (False))))
 (False)))))))))) : Prop) := by kernel_rfl
theorem tree10 (N fuel : Nat) (i : Nat) (H : Heap) (s pg : Int) (k : AV → Heap → Bool → Prop) :
 (runP (S F) T25 N 30 fuel 10 [.ptr ⟨i, 0, [], 1⟩, .int .i64 s, .int .i64 pg] H k) =
 ((∃ (i0 : Nat),
 ∃ (j1 : Nat),
 ∃ (vs2 : List AV),
 ∃ (ls3 : List (List Int)),
 ∃ (s4 : Int),
 And ([AV.ptr (Pl.mk i 0 [] 1), AV.int IntKind.i64 s] = [AV.ptr (Pl.mk i0 0 [] 1), AV.int IntKind.i64 s4])
 (And (PinsR H i0 j1 vs2 ls3)
 (And ((OkS ls3 s4) →
 ∃ (p5 : List Nat),
 And (some [] = some p5)
 (And (pieceH p5 H = [])
 (∀ (H26 : Heap),
 (H26 = backH p5 H []) →
 ∃ (b7 : Blk),
 And (Heap.blk H26 i = some b7)
 (cond (okAt b7.1 [0] 0 1 false 1)
 (∃ (p8 : Pl),
 ∃ (n9 : Nat),
 ∃ (off10 : Nat),
 ∃ (len11 : Nat),
 And (projT [0] b7.1 = AV.sl p8 1 n9 off10 len11)
 (cond (decide (0 ≤ s))
 (cond (decide (Int.toNat s < len11))
 (∃ (b12 : Blk),
 And (Heap.blk H26 p8.1 = some b12)
 (cond (okAt b12.1 (p8.3 ++ [off10 + Int.toNat s]) (p8.2 + (off10 + Int.toNat s) * 1) p8.4 false 1)
 (And ((projT (p8.3 ++ [off10 + Int.toNat s]) b12.1 = AV.nils) →
 ∃ (v13 : AV),
 ∃ (l14 : List Int),
 ∃ (x15 : Int),
 And ([AV.nils, AV.int IntKind.i64 pg] = [v13, AV.int IntKind.i64 x15])
 (And (Slot H26 v13 l14)
 (And (List.length l14 ≤ 1000)
 (cond (decide (ixF x15 l14 0 < 0))
 (k (AV.int IntKind.i64 19) H26 true)
 (∃ (b16 : Blk),
 And (Heap.blk H26 i = some b16)
 (cond (okAt b16.1 [0] 0 1 false 1)
 (∃ (p17 : Pl),
 ∃ (n18 : Nat),
 ∃ (off19 : Nat),
 ∃ (len20 : Nat),
 And (projT [0] b16.1 = AV.sl p17 1 n18 off19 len20)
 (∃ (b21 : Blk),
 And (Heap.blk H26 i = some b21)
 (cond (okAt b21.1 [0] 0 1 false 1)
 (∃ (p22 : Pl),
 ∃ (n23 : Nat),
 ∃ (off24 : Nat),
 ∃ (len25 : Nat),
 And (projT [0] b21.1 = AV.sl p22 1 n23 off24 len25)
 (cond (decide (0 ≤ s))
 (cond (decide (Int.toNat s < len25))
 (∃ (b26 : Blk),
 And (Heap.blk H26 p22.1 = some b26)
 (cond (okAt b26.1 (p22.3 ++ [off24 + Int.toNat s]) (p22.2 + (off24 + Int.toNat s) * 1) p22.4 false 1)
 (And ((projT (p22.3 ++ [off24 + Int.toNat s]) b26.1 = AV.nils) →
 ∃ (k027 : Nat),
 ∃ (u28 : List Int),
 ∃ (w29 : List Int),
 ∃ (tl30 : List Int),
 ∃ (x31 : Int),
 And ([AV.nils, AV.int IntKind.i64 (ixF x15 l14 0), AV.int IntKind.i64 (IntKind.wrap IntKind.i64 (ixF x15 l14 0 + 1))] = [AV.sl (Pl.mk k027 0 [] (List.length (u28 ++ x31 :: w29) + List.length tl30)) 1 (List.length (u28 ++ x31 :: w29) + List.length tl30) 0 (List.length (u28 ++ x31 :: w29)), AV.int IntKind.i64 (↑(List.length u28) : Int), AV.int IntKind.i64 (IntKind.wrap IntKind.i64 ((↑(List.length u28) : Int) + 1))])
 (And (Heap.blk H26 k027 = some (Blk.mk (AV.arr 1 (row encZ (u28 ++ x31 :: w29 ++ tl30))) true true))
 (And (List.length u28 ≤ 1000)
 (∀ (H'32 : List (Option Blk)),
 (H'32 = List.set H26 k027 (some (Blk.mk (AV.arr 1 (row encZ (u28 ++ w29 ++ 0 :: tl30))) true true))) →
 cond (decide (0 ≤ s))
 (cond (decide (Int.toNat s < len20))
 (∃ (b33 : Blk),
 And (Heap.blk H'32 p17.1 = some b33)
 (cond (okPl b33.1 (p17.3 ++ [off19 + Int.toNat s]) (p17.2 + (off19 + Int.toNat s) * 1) p17.4 1)
 (∀ (H'34 : Heap),
 (H'34 = List.set H'32 p17.1 (some (Blk.mk (putT (p17.3 ++ [off19 + Int.toNat s]) b33.1 (AV.sl (Pl.mk k027 0 [] (List.length (u28 ++ x31 :: w29) + List.length tl30)) 1 (List.length (u28 ++ x31 :: w29) + List.length tl30) 0 (List.length u28 + List.length w29))) b33.2 (b33.3 && false)))) →
 ∃ (b35 : Blk),
 And (Heap.blk H'32 i = some b35)
 (cond (okAt b35.1 [0] 0 1 false 1)
 (cond (AV.beq (projT [0] b35.1) (AV.sl p17 1 n18 off19 len20))
 (k (AV.int IntKind.i64 0) H'34 true)
 (False))
 (False)))
 (False)))
 (False))
 (False)))))
 (And (∀ (p36 : Pl),
 ∀ (n37 : Nat),
 ∀ (off38 : Nat),
 ∀ (len39 : Nat),
 (projT (p22.3 ++ [off24 + Int.toNat s]) b26.1 = AV.sl p36 1 n37 off38 len39) →
 ∃ (k040 : Nat),
 ∃ (u41 : List Int),
 ∃ (w42 : List Int),
 ∃ (tl43 : List Int),
 ∃ (x44 : Int),
 And ([AV.sl p36 1 n37 off38 len39, AV.int IntKind.i64 (ixF x15 l14 0), AV.int IntKind.i64 (IntKind.wrap IntKind.i64 (ixF x15 l14 0 + 1))] = [AV.sl (Pl.mk k040 0 [] (List.length (u41 ++ x44 :: w42) + List.length tl43)) 1 (List.length (u41 ++ x44 :: w42) + List.length tl43) 0 (List.length (u41 ++ x44 :: w42)), AV.int IntKind.i64 (↑(List.length u41) : Int), AV.int IntKind.i64 (IntKind.wrap IntKind.i64 ((↑(List.length u41) : Int) + 1))])
 (And (Heap.blk H26 k040 = some (Blk.mk (AV.arr 1 (row encZ (u41 ++ x44 :: w42 ++ tl43))) true true))
 (And (List.length u41 ≤ 1000)
 (∀ (H'45 : List (Option Blk)),
 (H'45 = List.set H26 k040 (some (Blk.mk (AV.arr 1 (row encZ (u41 ++ w42 ++ 0 :: tl43))) true true))) →
 cond (decide (0 ≤ s))
 (cond (decide (Int.toNat s < len20))
 (∃ (b46 : Blk),
 And (Heap.blk H'45 p17.1 = some b46)
 (cond (okPl b46.1 (p17.3 ++ [off19 + Int.toNat s]) (p17.2 + (off19 + Int.toNat s) * 1) p17.4 1)
 (∀ (H'47 : Heap),
 (H'47 = List.set H'45 p17.1 (some (Blk.mk (putT (p17.3 ++ [off19 + Int.toNat s]) b46.1 (AV.sl (Pl.mk k040 0 [] (List.length (u41 ++ x44 :: w42) + List.length tl43)) 1 (List.length (u41 ++ x44 :: w42) + List.length tl43) 0 (List.length u41 + List.length w42))) b46.2 (b46.3 && false)))) →
 ∃ (b48 : Blk),
 And (Heap.blk H'45 i = some b48)
 (cond (okAt b48.1 [0] 0 1 false 1)
 (cond (AV.beq (projT [0] b48.1) (AV.sl p17 1 n18 off19 len20))
 (k (AV.int IntKind.i64 0) H'47 true)
 (False))
 (False)))
 (False)))
 (False))
 (False)))))
 (projT (p22.3 ++ [off24 + Int.toNat s]) b26.1 = AV.nils ∨ ∃ (p : Pl), ∃ (n : Nat), ∃ (off : Nat), ∃ (len : Nat), projT (p22.3 ++ [off24 + Int.toNat s]) b26.1 = AV.sl p 1 n off len)))
 (False)))
 (False))
 (False)))
 (False))))
 (False)))))))
 (And (∀ (p49 : Pl),
 ∀ (n50 : Nat),
 ∀ (off51 : Nat),
 ∀ (len52 : Nat),
 (projT (p8.3 ++ [off10 + Int.toNat s]) b12.1 = AV.sl p49 1 n50 off51 len52) →
 ∃ (v53 : AV),
 ∃ (l54 : List Int),
 ∃ (x55 : Int),
 And ([AV.sl p49 1 n50 off51 len52, AV.int IntKind.i64 pg] = [v53, AV.int IntKind.i64 x55])
 (And (Slot H26 v53 l54)
 (And (List.length l54 ≤ 1000)
 (cond (decide (ixF x55 l54 0 < 0))
 (k (AV.int IntKind.i64 19) H26 true)
 (∃ (b56 : Blk),
 And (Heap.blk H26 i = some b56)
 (cond (okAt b56.1 [0] 0 1 false 1)
 (∃ (p57 : Pl),
 ∃ (n58 : Nat),
 ∃ (off59 : Nat),
 ∃ (len60 : Nat),
 And (projT [0] b56.1 = AV.sl p57 1 n58 off59 len60)
 (∃ (b61 : Blk),
 And (Heap.blk H26 i = some b61)
 (cond (okAt b61.1 [0] 0 1 false 1)
 (∃ (p62 : Pl),
 ∃ (n63 : Nat),
 ∃ (off64 : Nat),
 ∃ (len65 : Nat),
 And (projT [0] b61.1 = AV.sl p62 1 n63 off64 len65)
 (cond (decide (0 ≤ s))
 (cond (decide (Int.toNat s < len65))
 (∃ (b66 : Blk),
 And (Heap.blk H26 p62.1 = some b66)
 (cond (okAt b66.1 (p62.3 ++ [off64 + Int.toNat s]) (p62.2 + (off64 + Int.toNat s) * 1) p62.4 false 1)
 (And ((projT (p62.3 ++ [off64 + Int.toNat s]) b66.1 = AV.nils) →
 ∃ (k067 : Nat),
 ∃ (u68 : List Int),
 ∃ (w69 : List Int),
 ∃ (tl70 : List Int),
 ∃ (x71 : Int),
 And ([AV.nils, AV.int IntKind.i64 (ixF x55 l54 0), AV.int IntKind.i64 (IntKind.wrap IntKind.i64 (ixF x55 l54 0 + 1))] = [AV.sl (Pl.mk k067 0 [] (List.length (u68 ++ x71 :: w69) + List.length tl70)) 1 (List.length (u68 ++ x71 :: w69) + List.length tl70) 0 (List.length (u68 ++ x71 :: w69)), AV.int IntKind.i64 (↑(List.length u68) : Int), AV.int IntKind.i64 (IntKind.wrap IntKind.i64 ((↑(List.length u68) : Int) + 1))])
 (And (Heap.blk H26 k067 = some (Blk.mk (AV.arr 1 (row encZ (u68 ++ x71 :: w69 ++ tl70))) true true))
 (And (List.length u68 ≤ 1000)
 (∀ (H'72 : List (Option Blk)),
 (H'72 = List.set H26 k067 (some (Blk.mk (AV.arr 1 (row encZ (u68 ++ w69 ++ 0 :: tl70))) true true))) →
 cond (decide (0 ≤ s))
 (cond (decide (Int.toNat s < len60))
 (∃ (b73 : Blk),
 And (Heap.blk H'72 p57.1 = some b73)
 (cond (okPl b73.1 (p57.3 ++ [off59 + Int.toNat s]) (p57.2 + (off59 + Int.toNat s) * 1) p57.4 1)
 (∀ (H'74 : Heap),
 (H'74 = List.set H'72 p57.1 (some (Blk.mk (putT (p57.3 ++ [off59 + Int.toNat s]) b73.1 (AV.sl (Pl.mk k067 0 [] (List.length (u68 ++ x71 :: w69) + List.length tl70)) 1 (List.length (u68 ++ x71 :: w69) + List.length tl70) 0 (List.length u68 + List.length w69))) b73.2 (b73.3 && false)))) →
 ∃ (b75 : Blk),
 And (Heap.blk H'72 i = some b75)
 (cond (okAt b75.1 [0] 0 1 false 1)
 (cond (AV.beq (projT [0] b75.1) (AV.sl p57 1 n58 off59 len60))
 (k (AV.int IntKind.i64 0) H'74 true)
 (False))
 (False)))
 (False)))
 (False))
 (False)))))
 (And (∀ (p76 : Pl),
 ∀ (n77 : Nat),
 ∀ (off78 : Nat),
 ∀ (len79 : Nat),
 (projT (p62.3 ++ [off64 + Int.toNat s]) b66.1 = AV.sl p76 1 n77 off78 len79) →
 ∃ (k080 : Nat),
 ∃ (u81 : List Int),
 ∃ (w82 : List Int),
 ∃ (tl83 : List Int),
 ∃ (x84 : Int),
 And ([AV.sl p76 1 n77 off78 len79, AV.int IntKind.i64 (ixF x55 l54 0), AV.int IntKind.i64 (IntKind.wrap IntKind.i64 (ixF x55 l54 0 + 1))] = [AV.sl (Pl.mk k080 0 [] (List.length (u81 ++ x84 :: w82) + List.length tl83)) 1 (List.length (u81 ++ x84 :: w82) + List.length tl83) 0 (List.length (u81 ++ x84 :: w82)), AV.int IntKind.i64 (↑(List.length u81) : Int), AV.int IntKind.i64 (IntKind.wrap IntKind.i64 ((↑(List.length u81) : Int) + 1))])
 (And (Heap.blk H26 k080 = some (Blk.mk (AV.arr 1 (row encZ (u81 ++ x84 :: w82 ++ tl83))) true true))
 (And (List.length u81 ≤ 1000)
 (∀ (H'85 : List (Option Blk)),
 (H'85 = List.set H26 k080 (some (Blk.mk (AV.arr 1 (row encZ (u81 ++ w82 ++ 0 :: tl83))) true true))) →
 cond (decide (0 ≤ s))
 (cond (decide (Int.toNat s < len60))
 (∃ (b86 : Blk),
 And (Heap.blk H'85 p57.1 = some b86)
 (cond (okPl b86.1 (p57.3 ++ [off59 + Int.toNat s]) (p57.2 + (off59 + Int.toNat s) * 1) p57.4 1)
 (∀ (H'87 : Heap),
 (H'87 = List.set H'85 p57.1 (some (Blk.mk (putT (p57.3 ++ [off59 + Int.toNat s]) b86.1 (AV.sl (Pl.mk k080 0 [] (List.length (u81 ++ x84 :: w82) + List.length tl83)) 1 (List.length (u81 ++ x84 :: w82) + List.length tl83) 0 (List.length u81 + List.length w82))) b86.2 (b86.3 && false)))) →
 ∃ (b88 : Blk),
 And (Heap.blk H'85 i = some b88)
 (cond (okAt b88.1 [0] 0 1 false 1)
 (cond (AV.beq (projT [0] b88.1) (AV.sl p57 1 n58 off59 len60))
 (k (AV.int IntKind.i64 0) H'87 true)
 (False))
 (False)))
 (False)))
 (False))
 (False)))))
 (projT (p62.3 ++ [off64 + Int.toNat s]) b66.1 = AV.nils ∨ ∃ (p : Pl), ∃ (n : Nat), ∃ (off : Nat), ∃ (len : Nat), projT (p62.3 ++ [off64 + Int.toNat s]) b66.1 = AV.sl p 1 n off len)))
 (False)))
 (False))
 (False)))
 (False))))
 (False)))))))
 (projT (p8.3 ++ [off10 + Int.toNat s]) b12.1 = AV.nils ∨ ∃ (p : Pl), ∃ (n : Nat), ∃ (off : Nat), ∃ (len : Nat), projT (p8.3 ++ [off10 + Int.toNat s]) b12.1 = AV.sl p 1 n off len)))
 (False)))
 (False))
 (False)))
 (False)))))
 ((¬OkS ls3 s4) →
 ∃ (p89 : List Nat),
 And (Option.map List.reverse (reach (H ++ [fB [112, 105, 110, 115] 20]) 0 1000 [List.length H] []) = some p89)
 (∃ (c90 : Nat),
 And (ErrP [AV.iface 73 (AV.ptr (Pl.mk (idx p89 (List.length H)) 0 [] 3))] (pieceH p89 (H ++ [fB [112, 105, 110, 115] 20])) (Int.ofNat (c90 + 1)))
 (∀ (H291 : Heap),
 (H291 = backH p89 (H ++ [fB [112, 105, 110, 115] 20]) (pieceH p89 (H ++ [fB [112, 105, 110, 115] 20]))) →
 k (AV.int IntKind.i64 (Int.ofNat (c90 + 1))) H291 true)))))) : Prop) := by kernel_rfl
end Go.Proofs.Ytclmndonaljppaa
/-
  Going down a tree over memory that is told of.
-/
namespace Go.X
/-- Blocks that were not there. -/
def Fresh (H : Heap) (l : List Nat) : Prop := ∀ x ∈ l, H.length ≤ x
theorem ldg {H : Heap} {i : Nat} {b : Blk} {f : Blk → Bool} {X : Blk → Prop} (hb : H.blk i = some b) (hf : f b = true) (h : X b) : ∃ b, H.blk i = some b ∧ cond (f b) (X b) False := ⟨b, hb, by rw [hf]; exact h⟩
theorem cT {c : Bool} {X Y : Prop} (hc : c = true) (h : X) : cond c X Y := by rw [hc]; exact h
theorem cF {c : Bool} {X Y : Prop} (hc : c = false) (h : Y) : cond c X Y := by rw [hc]; exact h
theorem cD {c : Prop} [Decidable c] {X Y : Prop} (hc : c) (h : X) : cond (decide c) X Y := cT (decide_eq_true hc) h
theorem cN {c : Prop} [Decidable c] {X Y : Prop} (hc : ¬ c) (h : Y) : cond (decide c) X Y := cF (decide_eq_false hc) h
theorem beq_sl {p : Pl} {e n o l : Nat} : (AV.sl p e n o l).beq (.sl p e n o l) = true := by simp [AV.beq]
theorem backH_length {p : List Nat} {H H1 : Heap} : (backH p H H1).length = H.length + (H1.length - p.length) := by simp [backH, setAll_length]
theorem Keep.setIn {fp : List Nat} {H H1 : Heap} {i : Nat} {b : Option Blk} (h : Keep fp H H1) (hi : i ∈ fp ∨ H.length ≤ i) : Keep fp H (H1.set i b) :=
  h.trans' (Keep.set H1 i b) fun x hx => by
    simp only [List.mem_singleton] at hx
    exact hx ▸ hi
theorem Keep.appIn {fp : List Nat} {H H1 : Heap} {l : List (Option Blk)} (h : Keep fp H H1) : Keep fp H (H1 ++ l) := h.trans' (Keep.app H1 l) fun x hx => by cases hx
/-- A call on blocks of its own leaves the rest. -/
theorem back_keep {p : List Nat} {H0 H H1 : Heap} (hp : Piece H p) (hl : p.length ≤ H1.length) (hk : Keep [] H0 H) (hn : ∀ x ∈ p, H0.length ≤ x) : Keep [] H0 (backH p H H1) := by
  refine ⟨by rw [backH_length]; have := hk.le; omega, fun x hx _ => ?_⟩
  rw [backH_raw hp hl]
  have hxp : x ∉ p := fun h => by have := hn x h; omega
  have hlt : x < H.length := Nat.lt_of_lt_of_le hx hk.le
  have : srcN p H.length x = none := by simp [srcN, hxp, hlt]
  rw [this]
  exact hk.raw x hx (by simp)
end Go.X
/-
  Pins that are written; errors' numbers, where they stand in memory.
-/
namespace Go.Proofs.Ytclmndonaljppaa
open Go Go.X
variable {F : Nat} {H H' : Heap} {i j : Nat} {vs : List AV} {ls : List (List Int)}
set_option maxRecDepth 100000
theorem reach_one {k : Nat} {b : Blk} (hb : H.blk k = some b) (hf : b.flat = true) : reach H 0 1000 [k] [] = some [k] := by
  rw [reach, if_neg (by omega), if_neg (by simp), hb]
  simp only [hf, if_true]
  rfl
theorem piece_one {k : Nat} {b : Blk} (hb : H.blk k = some b) (hf : b.flat = true) : Piece H [k] := by
  refine ⟨by simp, fun x hx => ?_, fun x hx bk hbk hfl => ?_⟩
  · simp only [List.mem_singleton] at hx
    subst hx
    exact blk_lt hb
  · simp only [List.mem_singleton] at hx
    subst hx
    rw [hb] at hbk
    obtain rfl := Option.some.inj hbk
    rw [hf] at hfl
    cases hfl
theorem pieceH_one {k : Nat} {b : Blk} (hb : H.blk k = some b) (hf : b.flat = true) : pieceH [k] H = [some b] := by
  have h1 := (raw_blk.1 hb).1
  simp only [pieceH, List.map_cons, List.map_nil, h1]
  have h2 := (raw_blk.1 hb).2
  simp [renB, renBk, hf, h2]
/-- An error's number, behind a block of its own. -/
theorem call_err {w : List Nat} {c : Nat} {k : AV → Heap → Bool → Prop} (he : ErrP [E0] [fB w c.succ] (Int.ofNat (c + 1))) (hk : ∀ H', Keep [] H H' → k (.int .i64 (Int.ofNat (c + 1))) H' true) :
    ∃ p, Option.map List.reverse (reach (H ++ [fB w c.succ]) 0 1000 [H.length] []) = some p ∧ ∃ c' : Nat, ErrP [.iface 73 (.ptr ⟨idx p H.length, 0, [], 3⟩)] (pieceH p (H ++ [fB w c.succ])) (Int.ofNat (c' + 1)) ∧
      ∀ H2, H2 = backH p (H ++ [fB w c.succ]) (pieceH p (H ++ [fB w c.succ])) → k (.int .i64 (Int.ofNat (c' + 1))) H2 true := by
  have hb : Heap.blk (H ++ [fB w c.succ]) H.length = some ⟨.agg 3 [.str (ByteArray.mk (Array.mk (w.map UInt8.ofNat))), .iface 25 (.int .i64 ((c.succ : Nat) : Int)), .bool false], false, true⟩ := blk_new rfl
  refine ⟨[H.length], by rw [reach_one hb rfl]; rfl, c, ?_, ?_⟩
  · rw [pieceH_one hb rfl, idx_eq]
    exact he
  · rintro H2 rfl
    exact hk _ (back_keep (piece_one hb rfl) (by simp [pieceH]) (Keep.app _ _) (by simp))
/-- .. about another one. -/
theorem call_err2 {k : AV → Heap → Bool → Prop} (hk : ∀ H', Keep [] H H' → k (.int .i64 20) H' true) :
    ∃ p, Option.map List.reverse (reach (H ++ [fB wP 20, fW H.length]) 0 1000 [H.length + 1] []) = some p ∧ ∃ c' : Nat, ErrP [.iface 73 (.ptr ⟨idx p (H.length + 1), 0, [], 3⟩)] (pieceH p (H ++ [fB wP 20, fW H.length])) (Int.ofNat (c' + 1)) ∧
      ∀ H2, H2 = backH p (H ++ [fB wP 20, fW H.length]) (pieceH p (H ++ [fB wP 20, fW H.length])) → k (.int .i64 (Int.ofNat (c' + 1))) H2 true := by
  have hb : Heap.blk (H ++ [fB wP 20, fW H.length]) H.length = some ⟨.agg 3 [.str (ByteArray.mk (Array.mk (wP.map UInt8.ofNat))), .iface 25 (.int .i64 20), .bool false], false, true⟩ := blk_new rfl
  have e1 : H ++ [fB wP 20, fW H.length] = (H ++ [fB wP 20]) ++ [fW H.length] := by simp
  have e2 : H.length + 1 = (H ++ [fB wP 20]).length := by simp
  have hw : Heap.blk (H ++ [fB wP 20, fW H.length]) (H.length + 1) = some ⟨.agg 3 [.str (ByteArray.mk (Array.mk [UInt8.ofNat 97, UInt8.ofNat 100, UInt8.ofNat 100])), .iface 73 (.ptr ⟨H.length, 0, [], 3⟩), .bool true], false, false⟩ := by
    rw [e1, e2]
    exact blk_new rfl
  have hr : reach (H ++ [fB wP 20, fW H.length]) 0 1000 [H.length + 1] [] = some [H.length, H.length + 1] := by
    rw [reach, if_neg (by omega), if_neg (by simp), hw]
    simp only [AV.refs, refsL, List.append_nil, List.nil_append, Bool.false_eq_true, if_false]
    rw [show (999 : Nat) = 998 + 1 from rfl, reach, if_neg (by omega), if_neg (by simp), hb]
    rfl
  have hp : Piece (H ++ [fB wP 20, fW H.length]) [H.length + 1, H.length] := by
    refine ⟨by simp, fun x hx => ?_, fun x hx bk hbk hfl r hr => ?_⟩
    · simp only [List.mem_cons, List.not_mem_nil, or_false] at hx
      simp only [List.length_append, List.length_cons, List.length_nil]
      omega
    · simp only [List.mem_cons, List.not_mem_nil, or_false] at hx
      rcases hx with rfl | rfl
      · rw [hw] at hbk
        obtain rfl := Option.some.inj hbk
        simp only [AV.refs, refsL, List.append_nil, List.nil_append, List.mem_singleton] at hr
        simp [hr]
      · rw [hb] at hbk
        obtain rfl := Option.some.inj hbk
        cases hfl
  have hpH : pieceH [H.length + 1, H.length] (H ++ [fB wP 20, fW H.length]) = [fW 1, fB wP 20] := by
    have r1 := (raw_blk.1 hw).1
    have r2 := (raw_blk.1 hb).1
    simp only [pieceH, List.map_cons, List.map_nil, r1, r2]
    have hi : idx [H.length + 1, H.length] H.length = 1 := by rw [idx_ne (by omega), idx_eq]
    simp only [renB, AV.isTup, renBk, Bool.false_eq_true, if_false, AV.ren, renL, hi, if_true]
    rfl
  refine ⟨[H.length + 1, H.length], by rw [hr]; rfl, 19, ?_, ?_⟩
  · rw [hpH, idx_eq]
    exact .sess'
  · rintro H2 rfl
    exact hk _ (back_keep hp (by simp [pieceH]) (Keep.app _ _) (by simp))
/-- Slots apart. -/
theorem refsL_apart : ∀ {vs : List AV} (_ : (refsL vs).Nodup) {n m : Nat} (hn : n < vs.length) (hm : m < vs.length), n ≠ m → ∀ x ∈ vs[n].refs, x ∉ vs[m].refs
  | [], _, n, _, hn, _, _ => by simp at hn
  | v :: vs, h, n, m, hn, hm, hne => by
    rw [refsL, List.nodup_append] at h
    obtain ⟨_, h2, h3⟩ := h
    intro x hx hx'
    cases n with
    | zero =>
      cases m with
      | zero => exact hne rfl
      | succ m => exact h3 x (by simpa using hx) x (mem_refsL.2 ⟨m, by simpa using hm, by simpa using hx'⟩) rfl
    | succ n =>
      cases m with
      | zero => exact h3 x (by simpa using hx') x (mem_refsL.2 ⟨n, by simpa using hn, by simpa using hx⟩) rfl
      | succ m => exact refsL_apart h2 (n := n) (m := m) (by simpa using hn) (by simpa using hm) (by omega) x (by simpa using hx) (by simpa using hx')
/-- What a step leaves of what is apart. -/
structure Nxt (H : Heap) (i j : Nat) (vs : List AV) (H' : Heap) (vs' : List AV) : Prop where
  keep : Keep (i :: j :: refsL vs) H H'
  new : ∀ x ∈ refsL vs', x ∈ refsL vs ∨ H.length ≤ x
/-- One slot is written. -/
theorem PinsR.upd (hR : PinsR H i j vs ls) {n : Nat} (hn : n < vs.length) {v' : AV} {l' : List Int} (hk : Keep (j :: vs[n].refs) H H') {f : Bool} (ha : H'.blk j = some ⟨.arr 1 (vs.set n v'), true, f⟩)
    (hs : Slot H' v' l') (hc : l'.length ≤ 16) (hv : v'.refs = vs[n].refs ∨ (vs[n].refs = [] ∧ ∃ k0, v'.refs = [k0] ∧ H.length ≤ k0)) : PinsR H' i j (vs.set n v') (ls.set n l') ∧ Nxt H i j vs H' (vs.set n v') := by
  have hnd := hR.nodup
  simp only [List.nodup_cons, List.mem_cons, not_or] at hnd
  obtain ⟨⟨hij, hi⟩, hj, hnd⟩ := hnd
  have hsub : ∀ x ∈ vs[n].refs, x ∈ refsL vs := fun x hx => mem_refsL.2 ⟨n, hn, hx⟩
  have hlt := hR.lt
  constructor
  · refine ⟨?_, ⟨f, ha⟩, by simp [hR.len], fun m hm => ?_, ?_, by simpa using hR.le, fun l hl => ?_⟩
    · rw [hk.blk (hlt i (by simp)) (by simp only [List.mem_cons, not_or]; exact ⟨hij, fun h => hi (hsub i h)⟩), hR.top]
      simp
    · rw [List.length_set] at hm
      by_cases hmn : m = n
      · subst hmn
        have hml : m < ls.length := by have := hR.len; omega
        have e : (ls.set m l').getD m [] = l' := by simp [List.getD, hml]
        rw [e]
        simpa using hs
      · have e1 : (vs.set n v')[m]'(by simpa using hm) = vs[m] := by rw [List.getElem_set_ne (Ne.symm hmn)]
        have e2 : (ls.set n l').getD m [] = ls.getD m [] := by simp [List.getD, List.getElem?_set_ne (Ne.symm hmn)]
        rw [e1, e2]
        refine (hR.slots m hm).keep fun x hx => hk.blk (hlt x (by simp only [List.mem_cons]; exact .inr (.inr (mem_refsL.2 ⟨m, hm, hx⟩)))) ?_
        simp only [List.mem_cons, not_or]
        exact ⟨fun h => hj (h ▸ mem_refsL.2 ⟨m, hm, hx⟩), refsL_apart hnd hm hn hmn x hx⟩
    · rcases hv with hv | ⟨hv0, k0, hv1, hk0⟩
      · rw [refsL_set hn hv.symm]
        exact hR.nodup
      · have hp := refsL_set_new (v := v') hn hv0
        rw [hv1, List.singleton_append] at hp
        refine ((hp.cons j).cons i).symm.nodup ?_
        have hk1 : ∀ x ∈ i :: j :: refsL vs, x ≠ k0 := fun x hx he => by have := hlt x hx; omega
        have := hR.nodup
        simp only [List.nodup_cons, List.mem_cons, not_or] at this ⊢
        refine ⟨⟨this.1.1, hk1 i (by simp), this.1.2⟩, ⟨hk1 j (by simp), this.2.1⟩, fun h => hk1 k0 (by simp [h]) rfl, this.2.2⟩
    · rcases List.mem_or_eq_of_mem_set hl with hl | rfl
      · exact hR.cap l hl
      · exact hc
  · refine ⟨hk.sub fun x hx => ?_, fun x hx => ?_⟩
    · simp only [List.mem_cons] at hx ⊢
      rcases hx with rfl | hx
      · exact .inr (.inl rfl)
      · exact .inr (.inr (hsub x hx))
    · rcases hv with hv | ⟨hv0, k0, hv1, hk0⟩
      · rw [refsL_set hn hv.symm] at hx
        exact .inl hx
      · have hp := (refsL_set_new (v := v') hn hv0).mem_iff.1 hx
        rw [hv1, List.singleton_append, List.mem_cons] at hp
        rcases hp with rfl | hp
        · exact .inr hk0
        · exact .inl hp
/-- The slot's place, to be written. -/
theorem okPl_slot {n m : Nat} (hn : n < vs.length) (hm : vs.length = m) (h1 : vs[n].flatLen = 1) : okPl (.arr 1 vs) ([] ++ [0 + n]) (0 + (0 + n) * 1) m 1 = true := by
  have h := okPl_row (enc := id) (l := vs) (j := n) (e := 1) (c := 0 + (0 + n) * 1) (g := m) (n := 1) (r := []) hn (by omega) (by show 1 * n + coffOf vs[n] [] = _; cases vs[n] <;> simp [coffOf]) (by simp [inAt]) (by simpa [projT] using h1)
  rw [row_id] at h
  rw [Nat.zero_add n]
  simpa only [Nat.zero_add, List.nil_append] using h
theorem putT_slot {n : Nat} {v : AV} : putT ([] ++ [0 + n]) (.arr 1 vs) v = .arr 1 (vs.set n v) := by
  rw [Nat.zero_add]
  rfl
end Go.Proofs.Ytclmndonaljppaa
/-
  One pin more.
-/
namespace Go.Proofs.Ytclmndonaljppaa
open Go Go.X
variable {F : Nat} {H H' : Heap} {i j : Nat} {vs : List AV} {ls : List (List Int)}
set_option maxRecDepth 100000
def addErr (ls : List (List Int)) (s pg : Int) : Int := if OkS ls s then if OkP pg then if 16 ≤ (ls.getD s.toNat []).length then 19 else 0 else 16 else 20
noncomputable def addS (ls : List (List Int)) (s pg : Int) : List (List Int) := if addErr ls s pg = 0 then ls.set s.toNat (sortI (ls.getD s.toNat [] ++ [pg])) else ls
theorem Nxt.trans {H1 H2 : Heap} {vs1 vs2 : List AV} (h1 : Nxt H i j vs H1 vs1) (h2 : Nxt H1 i j vs1 H2 vs2) (hi : i < H.length) (hj : j < H.length) : Nxt H i j vs H2 vs2 := by
  refine ⟨h1.keep.trans' h2.keep fun x hx => ?_, fun x hx => ?_⟩
  · simp only [List.mem_cons] at hx ⊢
    rcases hx with h | h | h
    · exact .inl (.inl h)
    · exact .inl (.inr (.inl h))
    · exact (h1.new x h).imp (fun h => .inr (.inr h)) id
  · rcases h2.new x hx with h | h
    · exact h1.new x h
    · have := h1.keep.le
      exact .inr (by omega)
theorem Nxt.refl : Nxt H i j vs H vs := ⟨Keep.refl _ _, fun _ h => .inl h⟩
theorem Nxt.ofKeep (h : Keep [] H H') : Nxt H i j vs H' vs := ⟨h.sub (fun _ hx => by cases hx), fun _ h => .inl h⟩
theorem sortI_length (l : List Int) : (sortI l).length = l.length := by simp [sortI]
theorem set_getD {n : Nat} (hn : n < vs.length) : vs.set n vs[n] = vs := List.set_getElem_self hn
/-- What stands in the slot is sorted. -/
theorem tail12 {s : Int} {k : AV → Heap → Bool → Prop} (hR : PinsR H i j vs ls) (hs : OkS ls s) (hne : ls.getD s.toNat [] ≠ []) (hk : ∀ H', PinsR H' i j vs (ls.set s.toNat (sortI (ls.getD s.toNat []))) → Nxt H i j vs H' vs → k (.int .i64 0) H' true) :
  (∃ (b36 : Blk), And (Heap.blk H i = some b36) (cond (okAt b36.1 [0] 0 1 false 1) (∃ (p37 : Pl), ∃ (n38 : Nat), ∃ (off39 : Nat), ∃ (len40 : Nat), And (projT [0] b36.1 = AV.sl p37 1 n38 off39 len40) (cond (decide (0 ≤ s)) (cond (decide (Int.toNat s < len40)) (∃ (b41 : Blk), And (Heap.blk H p37.1 = some b41) (cond (okAt b41.1 (p37.3 ++ [off39 + Int.toNat s]) (p37.2 + (off39 + Int.toNat s) * 1) p37.4 false 1) (And ((projT (p37.3 ++ [off39 + Int.toNat s]) b41.1 = AV.nils) → ∃ (p42 : Nat), ∃ (n43 : Nat), ∃ (l44 : Nat), ∃ (xs45 : List Int), And ([AV.nils] = [AV.sl (Pl.mk p42 0 [] n43) 1 n43 0 l44]) (And (Heap.blk H p42 = some (Blk.mk (AV.arr 1 (row encZ xs45)) true true)) (And (List.length xs45 = n43) (And (0 < l44) (And (l44 ≤ n43) (And (l44 ≤ 1000) (∀ (H'46 : List (Option Blk)), (H'46 = List.set H p42 (some (Blk.mk (AV.arr 1 (row encZ (sortI (List.take l44 xs45) ++ List.drop l44 xs45))) true true))) → k (AV.int IntKind.i64 0) H'46 true))))))) (And (∀ (p47 : Pl), ∀ (n48 : Nat), ∀ (off49 : Nat), ∀ (len50 : Nat), (projT (p37.3 ++ [off39 + Int.toNat s]) b41.1 = AV.sl p47 1 n48 off49 len50) → ∃ (p51 : Nat), ∃ (n52 : Nat), ∃ (l53 : Nat), ∃ (xs54 : List Int), And ([AV.sl p47 1 n48 off49 len50] = [AV.sl (Pl.mk p51 0 [] n52) 1 n52 0 l53]) (And (Heap.blk H p51 = some (Blk.mk (AV.arr 1 (row encZ xs54)) true true)) (And (List.length xs54 = n52) (And (0 < l53) (And (l53 ≤ n52) (And (l53 ≤ 1000) (∀ (H'55 : List (Option Blk)), (H'55 = List.set H p51 (some (Blk.mk (AV.arr 1 (row encZ (sortI (List.take l53 xs54) ++ List.drop l53 xs54))) true true))) → k (AV.int IntKind.i64 0) H'55 true))))))) (projT (p37.3 ++ [off39 + Int.toNat s]) b41.1 = AV.nils ∨ ∃ (p : Pl), ∃ (n : Nat), ∃ (off : Nat), ∃ (len : Nat), projT (p37.3 ++ [off39 + Int.toNat s]) b41.1 = AV.sl p 1 n off len))) (False))) (False)) (False))) (False))) := by
  obtain ⟨hv, hn, hg, hsl, hcap, hok, hpr⟩ := hR.slot hs
  obtain ⟨f, ha⟩ := hR.arr
  refine ldg hR.top okTop ⟨⟨j, 0, [], ls.length⟩, ls.length, 0, ls.length, rfl, cD hs.1 (cD hn (ldg ha hok ?_))⟩
  rw [hpr]
  rw [hg] at hne hk
  rcases hsl with ⟨hv', hl⟩ | ⟨k0, tl, hv', hb⟩
  · exact absurd hl hne
  · refine ⟨fun he => ?_, fun p n off len he => ?_, .inr ⟨_, _, _, _, hv'⟩⟩
    · rw [hv'] at he; cases he
    · have he' := he
      rw [hv'] at he'
      injection he' with e1 e2 e3 e4 e5
      subst e1 e3 e4 e5
      have hpos : 0 < ls[s.toNat].length := List.length_pos_iff.2 hne
      refine ⟨k0, _, ls[s.toNat].length, ls[s.toNat] ++ tl, rfl, hb, by simp, hpos, by omega, by omega, ?_⟩
      rintro H' rfl
      have hkl := blk_lt hb
      have hrf : vs[s.toNat].refs = [k0] := by rw [hv']; rfl
      have hjk : j ≠ k0 := by
        have hnd := hR.nodup
        simp only [List.nodup_cons, List.mem_cons, not_or] at hnd
        intro h
        exact hnd.2.1 (mem_refsL.2 ⟨_, hv, by rw [hrf, h]; simp⟩)
      have e6 : (ls[s.toNat] ++ tl).take ls[s.toNat].length = ls[s.toNat] := by simp
      have e7 : (ls[s.toNat] ++ tl).drop ls[s.toNat].length = tl := by simp
      rw [e6, e7]
      have h9 := hR.upd (H' := H.set k0 (some ⟨.arr 1 (row encZ (sortI ls[s.toNat] ++ tl)), true, true⟩)) hv (v' := vs[s.toNat]) (l' := sortI ls[s.toNat]) (f := f)
        ((Keep.set H k0 _).sub (by rw [hrf]; simp)) (by rw [blk_set_ne hjk, ha, set_getD hv]) (by
          refine .inr ⟨k0, tl, by rw [hv', sortI_length], blk_set hkl rfl⟩) (by rw [sortI_length]; exact hcap) (.inl rfl)
      rw [set_getD hv] at h9
      exact hk _ h9.1 h9.2
/-- .. behind the writing of the slot. -/
theorem tail12a {s pg : Int} {k : AV → Heap → Bool → Prop} (hR : PinsR H i j vs ls) (hs : OkS ls s) (hl : (ls.getD s.toNat []).length < 16) (hv : s.toNat < vs.length)
    (hk : ∀ (H' : Heap) (vs' : List AV), PinsR H' i j vs' (ls.set s.toNat (sortI (ls.getD s.toNat [] ++ [pg]))) → Nxt H i j vs H' vs' → k (.int .i64 0) H' true)
    {H3 : Heap} {v' : AV} {fl : Bool} (hK : Keep (j :: vs[s.toNat].refs) H H3) (h3 : H3.blk j = some ⟨.arr 1 (vs.set s.toNat v'), true, fl⟩) (hS : Slot H3 v' (ls.getD s.toNat [] ++ [pg]))
    (hr : v'.refs = vs[s.toNat].refs ∨ (vs[s.toNat].refs = [] ∧ ∃ k0, v'.refs = [k0] ∧ H.length ≤ k0)) :
  (∃ (b36 : Blk), And (Heap.blk H3 i = some b36) (cond (okAt b36.1 [0] 0 1 false 1) (∃ (p37 : Pl), ∃ (n38 : Nat), ∃ (off39 : Nat), ∃ (len40 : Nat), And (projT [0] b36.1 = AV.sl p37 1 n38 off39 len40) (cond (decide (0 ≤ s)) (cond (decide (Int.toNat s < len40)) (∃ (b41 : Blk), And (Heap.blk H3 p37.1 = some b41) (cond (okAt b41.1 (p37.3 ++ [off39 + Int.toNat s]) (p37.2 + (off39 + Int.toNat s) * 1) p37.4 false 1) (And ((projT (p37.3 ++ [off39 + Int.toNat s]) b41.1 = AV.nils) → ∃ (p42 : Nat), ∃ (n43 : Nat), ∃ (l44 : Nat), ∃ (xs45 : List Int), And ([AV.nils] = [AV.sl (Pl.mk p42 0 [] n43) 1 n43 0 l44]) (And (Heap.blk H3 p42 = some (Blk.mk (AV.arr 1 (row encZ xs45)) true true)) (And (List.length xs45 = n43) (And (0 < l44) (And (l44 ≤ n43) (And (l44 ≤ 1000) (∀ (H'46 : List (Option Blk)), (H'46 = List.set H3 p42 (some (Blk.mk (AV.arr 1 (row encZ (sortI (List.take l44 xs45) ++ List.drop l44 xs45))) true true))) → k (AV.int IntKind.i64 0) H'46 true))))))) (And (∀ (p47 : Pl), ∀ (n48 : Nat), ∀ (off49 : Nat), ∀ (len50 : Nat), (projT (p37.3 ++ [off39 + Int.toNat s]) b41.1 = AV.sl p47 1 n48 off49 len50) → ∃ (p51 : Nat), ∃ (n52 : Nat), ∃ (l53 : Nat), ∃ (xs54 : List Int), And ([AV.sl p47 1 n48 off49 len50] = [AV.sl (Pl.mk p51 0 [] n52) 1 n52 0 l53]) (And (Heap.blk H3 p51 = some (Blk.mk (AV.arr 1 (row encZ xs54)) true true)) (And (List.length xs54 = n52) (And (0 < l53) (And (l53 ≤ n52) (And (l53 ≤ 1000) (∀ (H'55 : List (Option Blk)), (H'55 = List.set H3 p51 (some (Blk.mk (AV.arr 1 (row encZ (sortI (List.take l53 xs54) ++ List.drop l53 xs54))) true true))) → k (AV.int IntKind.i64 0) H'55 true))))))) (projT (p37.3 ++ [off39 + Int.toNat s]) b41.1 = AV.nils ∨ ∃ (p : Pl), ∃ (n : Nat), ∃ (off : Nat), ∃ (len : Nat), projT (p37.3 ++ [off39 + Int.toNat s]) b41.1 = AV.sl p 1 n off len))) (False))) (False)) (False))) (False))) := by
  have hil := hR.lt i (by simp)
  have hjl := hR.lt j (by simp)
  have hn : s.toNat < ls.length := by rw [← hR.len]; exact hv
  obtain ⟨h4, h5⟩ := hR.upd hv hK h3 hS (by rw [List.length_append]; exact hl) hr
  have hgd : ∀ x, (ls.set s.toNat x).getD s.toNat [] = x := fun x => by simp [List.getD, hn]
  refine tail12 h4 ⟨hs.1, by rw [List.length_set]; exact hs.2⟩ (by rw [hgd]; simp) fun H' h6 h7 => hk H' _ ?_ (h5.trans h7 hil hjl)
  rw [hgd, List.set_set] at h6
  exact h6
theorem setMany_row {l t : List Int} {a x : Int} : setMany (row encZ (l ++ a :: t)) (0 + l.length) [encZ x] = row encZ (l ++ [x] ++ t) := by
  have e : (row encZ l).length = l.length := row_length
  have h1 : (row encZ (l ++ a :: t)).take (0 + l.length) = row encZ l := by simp [row]
  have h2 : (row encZ (l ++ a :: t)).drop (0 + l.length + 1) = row encZ t := by
    rw [Nat.zero_add, ← List.drop_drop]
    simp [row]
  unfold setMany
  simp only [List.length_cons, List.length_nil, Nat.zero_add] at h1 h2 ⊢
  rw [h1, h2]
  simp [row]
def t12 : PT := fun args H k => ∃ (i j : Nat) (vs : List AV) (ls : List (List Int)) (s pg : Int), args = [.ptr ⟨i, 0, [], 1⟩, .int .i64 s, .int .i64 pg] ∧ PinsR H i j vs ls ∧
  ∀ H' vs', PinsR H' i j vs' (addS ls s pg) → Nxt H i j vs H' vs' → k (.int .i64 (addErr ls s pg)) H' true
theorem backNil : backH [] H [] = H := by simp [backH, setAll]
theorem beqNils : AV.nils.beq .nils = true := rfl
theorem add12 (N : Nat) (args : List AV) (H : Heap) (k : AV → Heap → Bool → Prop) : t12 args H k → runP (S F) T25 N 30 (S F).fu 12 args H k := by
  rintro ⟨i, j, vs, ls, s, pg, rfl, hR, hk⟩
  rw [tree12]
  have herr : ∀ c : Int, c ≠ 0 → addErr ls s pg = c → ∀ H', Keep [] H H' → k (.int .i64 c) H' true := by
    rintro c hc he H' hK
    have e : addS ls s pg = ls := by unfold addS; rw [if_neg (by rw [he]; exact hc)]
    have := hk H' vs (by rw [e]; exact hR.keep' hK (by simp)) (Nxt.ofKeep hK)
    rwa [he] at this
  refine ⟨i, j, vs, ls, s, pg, rfl, hR, fun hs => ?_, fun hs hp => ?_, fun hs hp hl => ?_, fun hs hp hl => ?_⟩
  · exact call_err2 (herr 20 (by decide) (if_neg hs))
  · exact call_err (c := 15) .page (herr 16 (by decide) (by unfold addErr; rw [if_pos hs, if_neg hp]))
  · exact call_err (c := 18) .pin (herr 19 (by decide) (by unfold addErr; rw [if_pos hs, if_pos hp, if_pos hl]))
  · have e0 : addErr ls s pg = 0 := by unfold addErr; rw [if_pos hs, if_pos hp, if_neg (by omega)]
    have e1 : addS ls s pg = ls.set s.toNat (sortI (ls.getD s.toNat [] ++ [pg])) := if_pos e0
    rw [e0, e1] at hk
    refine ⟨[], rfl, rfl, ?_⟩
    rintro H2 rfl
    rw [backNil]
    obtain ⟨hv, hn, hg, hsl, hcap, hok, hpr⟩ := hR.slot hs
    obtain ⟨f, ha⟩ := hR.arr
    have hil := hR.lt i (by simp)
    have hjl := hR.lt j (by simp)
    have hnd := hR.nodup
    simp only [List.nodup_cons, List.mem_cons, not_or] at hnd
    obtain ⟨⟨hij, hir⟩, hjr, _⟩ := hnd
    have hpl := okPl_slot (vs := vs) hv hR.len hsl.one.1
    refine ldg hR.top okTop ⟨⟨j, 0, [], ls.length⟩, ls.length, 0, ls.length, rfl, ldg hR.top okTop ⟨⟨j, 0, [], ls.length⟩, ls.length, 0, ls.length, rfl, cD hs.1 (cD hn (ldg ha hok ?_))⟩⟩
    rw [hpr]
    have hl1 : ∀ b : Option Blk, (H ++ [b]).length = H.length + 1 := fun b => by simp
    refine ⟨fun he => ?_, fun p n off len he => ?_, ?_⟩
    · have hl0 : ls[s.toNat] = [] := by
        rcases hsl with ⟨_, hl⟩ | ⟨_, _, hv', _⟩
        · exact hl
        · rw [hv'] at he; cases he
      refine ⟨_, _, blk_new rfl, rfl, rfl, rfl, rfl, cT rfl (cT rfl (cT rfl (cF rfl (cT rfl (cD hs.1 (cD hn ?_))))))⟩
      have hb1 : Heap.blk (H ++ [some (Blk.mk (AV.arr 1 [AV.int IntKind.i64 pg]) true true)]) i = _ := (blk_app hil).trans hR.top
      have hj1 : Heap.blk (H ++ [some (Blk.mk (AV.arr 1 [AV.int IntKind.i64 pg]) true true)]) j = _ := (blk_app hjl).trans ha
      have hb2 : Heap.blk (H ++ [some (Blk.mk (AV.arr 1 [AV.int IntKind.i64 pg]) true true)] ++ [some (Blk.mk (AV.arr 1 (List.take 1 [AV.int IntKind.i64 pg])) true true)]) i = _ := (blk_app (by rw [hl1]; omega)).trans hb1
      have hj2 : Heap.blk (H ++ [some (Blk.mk (AV.arr 1 [AV.int IntKind.i64 pg]) true true)] ++ [some (Blk.mk (AV.arr 1 (List.take 1 [AV.int IntKind.i64 pg])) true true)]) j = _ := (blk_app (by rw [hl1]; omega)).trans hj1
      refine ldg hj2 hpl ?_
      rintro H3 rfl
      rw [putT_slot]
      refine ldg hb1 okTop (cT beq_sl (ldg hb2 okTop (cT beq_sl (ldg hb1 okTop (cT beq_sl (ldg hj1 hok (cT (by rw [hpr, he]; rfl) ?_)))))))
      refine tail12a hR hs hl hv hk ((Keep.refl _ H).appIn.appIn.setIn (.inl (by simp))) (blk_set ?_ rfl) ?_ ?_
      · simp; omega
      · rw [hg, hl0]
        refine .inr ⟨_, [], rfl, ?_⟩
        refine (blk_set_ne ?_).trans ((blk_new rfl).trans rfl)
        have := hl1 (some (Blk.mk (AV.arr 1 [AV.int IntKind.i64 pg]) true true))
        show List.length _ ≠ j
        omega
      · rw [he]
        exact .inr ⟨rfl, _, rfl, by simp⟩
    · rcases hsl with ⟨hv', _⟩ | ⟨k0, tl, hv', hb⟩
      · rw [hv'] at he; cases he
      have he' := he
      rw [hv'] at he'
      injection he' with e1 e2 e3 e4 e5
      subst e1 e3 e4 e5
      have hkl := blk_lt hb
      have hrf : vs[s.toNat].refs = [k0] := by rw [hv']; rfl
      have hkr : k0 ∈ refsL vs := mem_refsL.2 ⟨_, hv, by rw [hrf]; simp⟩
      have hjk : j ≠ k0 := fun h => hjr (h ▸ hkr)
      have hik : i ≠ k0 := fun h => hir (h ▸ hkr)
      have hb1 : Heap.blk (H ++ [some (Blk.mk (AV.arr 1 [AV.int IntKind.i64 pg]) true true)]) i = _ := (blk_app hil).trans hR.top
      have hj1 : Heap.blk (H ++ [some (Blk.mk (AV.arr 1 [AV.int IntKind.i64 pg]) true true)]) j = _ := (blk_app hjl).trans ha
      have hk1 : Heap.blk (H ++ [some (Blk.mk (AV.arr 1 [AV.int IntKind.i64 pg]) true true)]) k0 = _ := (blk_app hkl).trans hb
      have e8 : (row encZ (ls[s.toNat] ++ tl)).length = ls[s.toNat].length + tl.length := by simp [row]
      have e9 : 0 + ls[s.toNat].length ≤ ls[s.toNat].length + tl.length := by omega
      have e10 : (List.take 1 [AV.int IntKind.i64 pg]).length = 1 := rfl
      refine ⟨_, _, blk_new rfl, rfl, rfl, rfl, rfl, cT rfl (cT rfl (cT rfl ⟨_, _, hk1, rfl, rfl, rfl, rfl, cT (by simp only [e8, Nat.one_mul, e9, decide_true, Bool.and_self]) ?_⟩))⟩
      rw [e10]
      by_cases ht : 0 + ls[s.toNat].length + 1 ≤ ls[s.toNat].length + tl.length
      · refine cD ht ?_
        rintro H2 rfl
        refine cD hs.1 (cD hn (ldg ((blk_set_ne hjk).trans hj1) hpl ?_))
        rintro H3 rfl
        rw [putT_slot]
        have hbi2 := (blk_set_ne (H := H ++ [some (Blk.mk (AV.arr 1 [AV.int IntKind.i64 pg]) true true)]) (b := some (Blk.mk (AV.arr 1 (setMany (row encZ (ls[s.toNat] ++ tl)) (0 + ls[s.toNat].length) (List.take 1 [AV.int IntKind.i64 pg]))) true true)) hik).trans hb1
        refine ldg hb1 okTop (cT beq_sl (ldg hbi2 okTop (cT beq_sl (ldg hb1 okTop (cT beq_sl (ldg hj1 hok (cT (by rw [hpr, he]; exact beq_sl) ?_)))))))
        refine tail12a hR hs hl hv hk ((Keep.refl _ H).appIn.setIn (.inl (by rw [hrf]; simp)) |>.setIn (.inl (by simp))) (blk_set ?_ rfl) ?_ ?_
        · simp; omega
        · obtain ⟨a, tr, rfl⟩ : ∃ a tr, tl = a :: tr := by
            cases tl with
            | nil => exact absurd ht (by simp)
            | cons a b => exact ⟨a, b, rfl⟩
          rw [hg]
          refine .inr ⟨k0, tr, ?_, ?_⟩
          · have : (ls[s.toNat] ++ [pg]).length + tr.length = ls[s.toNat].length + (a :: tr).length := by simp; omega
            rw [this]
            simp
          · rw [blk_set_ne (Ne.symm hjk), blk_set (by simp; omega) (by rfl)]
            exact congrArg (fun r => some (Blk.mk (AV.arr 1 r) true true)) setMany_row
        · rw [hrf]
          exact .inl rfl
      · have htl : tl = [] := by
          cases tl with
          | nil => rfl
          | cons a b => simp at ht
        subst htl
        refine cN ht (cT ?_ ?_)
        · have h1 : (ls[s.toNat].length + ([] : List Int).length + 1) * 8 ≤ 70368744177664 := by simp; omega
          have h2 : ls[s.toNat].length + ([] : List Int).length + 1 ≤ 70368744177664 := by simp; omega
          simp only [e10, decide_true, Bool.true_and, Bool.and_true, Bool.and_eq_true, decide_eq_true_eq]
          exact ⟨⟨rfl, h1⟩, h2⟩
        rintro H2 rfl
        refine cD hs.1 (cD hn (ldg ((blk_set_ne hjk).trans hj1) hpl ?_))
        rintro H3 rfl
        rw [putT_slot]
        have hbi2 := (blk_set_ne (H := H ++ [some (Blk.mk (AV.arr 1 [AV.int IntKind.i64 pg]) true true)]) (b := some (Blk.mk (AV.arr 1 (row encZ (ls[s.toNat] ++ []) ++ (List.take 1 [AV.int IntKind.i64 pg]))) true true)) hik).trans hb1
        refine ldg hb1 okTop (cT beq_sl (ldg hbi2 okTop (cT beq_sl (ldg hb1 okTop (cT beq_sl (ldg hj1 hok (cT (by rw [hpr, he]; exact beq_sl) ?_)))))))
        refine tail12a hR hs hl hv hk ((Keep.refl _ H).appIn.setIn (.inl (by rw [hrf]; simp)) |>.setIn (.inl (by simp))) (blk_set ?_ rfl) ?_ ?_
        · simp; omega
        · rw [hg]
          refine .inr ⟨k0, [], ?_, ?_⟩
          · simp
          · rw [blk_set_ne (Ne.symm hjk), blk_set (by simp; omega) (by rfl)]
            simp [row, encK]
        · rw [hrf]
          exact .inl rfl
    · rcases hsl with ⟨hv', _⟩ | ⟨k0, tl, hv', _⟩
      · exact .inl hv'
      · exact .inr ⟨_, _, _, _, hv'⟩
end Go.Proofs.Ytclmndonaljppaa
/-
  One pin fewer.
-/
namespace Go.Proofs.Ytclmndonaljppaa
open Go Go.X
variable {F : Nat} {H H' : Heap} {i j : Nat} {vs : List AV} {ls : List (List Int)}
set_option maxRecDepth 100000
def dropErr (ls : List (List Int)) (s pg : Int) : Int := if OkS ls s then if pg ∈ ls.getD s.toNat [] then 0 else 19 else 20
def dropS (ls : List (List Int)) (s pg : Int) : List (List Int) := if dropErr ls s pg = 0 then ls.set s.toNat ((ls.getD s.toNat []).erase pg) else ls
theorem ixF_none {x : Int} : ∀ {l : List Int} {j : Nat}, x ∉ l → ixF x l j = -1
  | [], _, _ => rfl
  | a :: l, j, h => by
    rw [List.mem_cons, not_or] at h
    rw [ixF, if_neg h.1]
    exact ixF_none h.2
theorem ixF_some {x : Int} : ∀ {l : List Int} {j : Nat}, x ∈ l → ∃ u w, l = u ++ x :: w ∧ ixF x l j = ((j + u.length : Nat) : Int) ∧ l.erase x = u ++ w
  | [], _, h => by cases h
  | a :: l, j, h => by
    by_cases hx : x = a
    · subst hx
      exact ⟨[], l, rfl, by simp [ixF], by simp⟩
    · have h' : x ∈ l := by
        rcases List.mem_cons.1 h with h | h
        · exact absurd h hx
        · exact h
      obtain ⟨u, w, h1, h2, h3⟩ := ixF_some (j := j + 1) h'
      refine ⟨a :: u, w, by rw [h1]; rfl, ?_, ?_⟩
      · rw [ixF, if_neg hx, h2]
        simp only [List.length_cons]
        omega
      · rw [List.erase_cons_tail (by simpa using Ne.symm hx), h3]
        rfl
def t10 : PT := fun args H k => ∃ (i j : Nat) (vs : List AV) (ls : List (List Int)) (s pg : Int), args = [.ptr ⟨i, 0, [], 1⟩, .int .i64 s, .int .i64 pg] ∧ PinsR H i j vs ls ∧
  ∀ H' vs', PinsR H' i j vs' (dropS ls s pg) → Nxt H i j vs H' vs' → k (.int .i64 (dropErr ls s pg)) H' true
theorem drop10 (N : Nat) (args : List AV) (H : Heap) (k : AV → Heap → Bool → Prop) : t10 args H k → runP (S F) T25 N 30 (S F).fu 10 args H k := by
  rintro ⟨i, j, vs, ls, s, pg, rfl, hR, hk⟩
  rw [tree10]
  have herr : ∀ c : Int, c ≠ 0 → dropErr ls s pg = c → ∀ H', Keep [] H H' → k (.int .i64 c) H' true := by
    rintro c hc he H' hK
    have e : dropS ls s pg = ls := by unfold dropS; rw [if_neg (by rw [he]; exact hc)]
    have := hk H' vs (by rw [e]; exact hR.keep' hK (by simp)) (Nxt.ofKeep hK)
    rwa [he] at this
  refine ⟨i, j, vs, ls, s, rfl, hR, fun hs => ?_, fun hs => ?_⟩
  · refine ⟨[], rfl, rfl, ?_⟩
    rintro H2 rfl
    rw [backNil]
    obtain ⟨hv, hn, hg, hsl, hcap, hok, hpr⟩ := hR.slot hs
    obtain ⟨f, ha⟩ := hR.arr
    have hpl := okPl_slot (vs := vs) hv hR.len hsl.one.1
    refine ldg hR.top okTop ⟨⟨j, 0, [], ls.length⟩, ls.length, 0, ls.length, rfl, cD hs.1 (cD hn (ldg ha hok ?_))⟩
    rw [hpr]
    refine ⟨fun he => ?_, fun p n off len he => ?_, ?_⟩
    · have hl0 : ls[s.toNat] = [] := by
        rcases hsl with ⟨_, hl⟩ | ⟨_, _, hv', _⟩
        · exact hl
        · rw [hv'] at he; cases he
      refine ⟨.nils, [], pg, rfl, .inl ⟨rfl, rfl⟩, by simp, cD (by simp [ixF]) (herr 19 (by decide) ?_ H (Keep.refl _ _))⟩
      unfold dropErr
      rw [if_pos hs, hg, hl0, if_neg (by simp)]
    · refine ⟨_, ls[s.toNat], pg, rfl, he ▸ hsl, by omega, ?_⟩
      by_cases hm : pg ∈ ls[s.toNat]
      · obtain ⟨u, w, hl, hix, her⟩ := ixF_some (j := 0) hm
        rw [Nat.zero_add] at hix
        rw [hix]
        refine cN (by omega) ?_
        rcases hsl with ⟨hv', _⟩ | ⟨k0, tl, hv', hb⟩
        · rw [hv'] at he; cases he
        have he' := he
        rw [hv'] at he'
        injection he' with e1 e2 e3 e4 e5
        subst e1 e3 e4 e5
        refine ldg hR.top okTop ⟨⟨j, 0, [], ls.length⟩, ls.length, 0, ls.length, rfl, ldg hR.top okTop ⟨⟨j, 0, [], ls.length⟩, ls.length, 0, ls.length, rfl, cD hs.1 (cD hn (ldg ha hok ?_))⟩⟩
        rw [hpr]
        have hkl := blk_lt hb
        have hrf : vs[s.toNat].refs = [k0] := by rw [hv']; rfl
        have hkr : k0 ∈ refsL vs := mem_refsL.2 ⟨_, hv, by rw [hrf]; simp⟩
        have hnd := hR.nodup
        simp only [List.nodup_cons, List.mem_cons, not_or] at hnd
        obtain ⟨⟨hij, hir⟩, hjr, _⟩ := hnd
        have hjk : j ≠ k0 := fun h => hjr (h ▸ hkr)
        have hik : i ≠ k0 := fun h => hir (h ▸ hkr)
        refine ⟨fun h => ?_, fun p n off len h => ?_, .inr ⟨_, _, _, _, hv'⟩⟩
        · rw [hv'] at h; cases h
        have h' := h
        rw [hv'] at h'
        injection h' with e1 e2 e3 e4 e5
        subst e1 e3 e4 e5
        have hlen : ls[s.toNat].length = (u ++ pg :: w).length := by rw [hl]
        have hul : u.length ≤ 1000 := by
          rw [hl] at hcap
          simp at hcap
          omega
        refine ⟨k0, u, w, tl, pg, by rw [hlen], by rw [← hl]; exact hb, hul, ?_⟩
        rintro H1 rfl
        refine cD hs.1 (cD hn (ldg ((blk_set_ne hjk).trans ha) hpl ?_))
        rintro H3 rfl
        rw [putT_slot]
        refine ldg ((blk_set_ne hik).trans hR.top) okTop (cT beq_sl ?_)
        have e0 : dropErr ls s pg = 0 := by
          unfold dropErr
          rw [if_pos hs, hg, if_pos hm]
        have e1 : dropS ls s pg = ls.set s.toNat (u ++ w) := by
          unfold dropS
          rw [if_pos e0, hg, her]
        have h9 := hR.upd (H' := (H.set k0 (some ⟨.arr 1 (row encZ (u ++ w ++ 0 :: tl)), true, true⟩)).set j (some ⟨.arr 1 (vs.set s.toNat (.sl ⟨k0, 0, [], (u ++ pg :: w).length + tl.length⟩ 1 ((u ++ pg :: w).length + tl.length) 0 (u.length + w.length))), true, f && false⟩)) hv
          (v' := .sl ⟨k0, 0, [], (u ++ pg :: w).length + tl.length⟩ 1 ((u ++ pg :: w).length + tl.length) 0 (u.length + w.length)) (l' := u ++ w) (f := f && false)
          (((Keep.refl _ H).setIn (.inl (by rw [hrf]; simp))).setIn (.inl (by simp))) (blk_set (by simp; exact blk_lt ha) rfl) ?_ ?_ ?_
        · have := hk _ _ (by rw [e1]; exact h9.1) h9.2
          rwa [e0] at this
        · refine .inr ⟨k0, 0 :: tl, ?_, ?_⟩
          · have : (u ++ w).length + (0 :: tl).length = (u ++ pg :: w).length + tl.length := by simp; omega
            rw [this]
            simp
          · rw [blk_set_ne (Ne.symm hjk), blk_set hkl rfl]
        · rw [hl] at hcap
          simp at hcap ⊢
          omega
        · rw [hrf]
          exact .inl rfl
      · rw [ixF_none hm]
        refine cD (by omega) (herr 19 (by decide) ?_ H (Keep.refl _ _))
        unfold dropErr
        rw [if_pos hs, hg, if_neg hm]
    · rcases hsl with ⟨hv', _⟩ | ⟨k0, tl, hv', _⟩
      · exact .inl hv'
      · exact .inr ⟨_, _, _, _, hv'⟩
  · exact call_err (c := 19) .sess (herr 20 (by decide) (if_neg hs))
end Go.Proofs.Ytclmndonaljppaa
/- Pins, the reference's and what compares: trees.
-/
namespace Go.Proofs.Ytclmndonaljppaa
open Go Go.X
variable {F : Nat}
abbrev L14 (a b : AV) (i : Int) : List (Nat × AV) := [(0, a), (1, b), (4, .bad), (5, .int .i64 i), (10, .bad), (14, .bad), (25, .bad)]
abbrev L17 (p : Pl) (n off len : Nat) (pg c i : Int) : List (Nat × AV) := [(0, .bad), (1, .int .i64 pg), (4, .bad), (5, .int .i64 c), (7, .bad), (9, .bad), (11, .bad), (15, .sl p 1 n off len), (16, .int .i64 len), (17, .int .i64 i), (18, .bad), (21, .bad), (22, .bad), (23, .bad), (24, .bad), (29, .bad)]
abbrev L17i (p : Pl) (n off len : Nat) (pg c i : Int) (v : AV) (l j : Int) : List (Nat × AV) := [(0, .bad), (1, .int .i64 pg), (4, .bad), (5, .int .i64 c), (7, .bad), (9, .bad), (11, .bad), (15, .sl p 1 n off len), (16, .int .i64 len), (17, .int .i64 i), (18, .bad), (21, v), (22, .int .i64 l), (23, .int .i64 j), (24, .bad), (29, .bad)]
abbrev L16 (i : Nat) (s : Int) (o : AV) (j : Int) : List (Nat × AV) := [(0, .ptr ⟨i, 0, [], 1⟩), (1, .int .i64 s), (4, .bad), (5, o), (6, .int .i64 j), (7, .bad), (14, .bad), (27, .bad)]
abbrev L18 (i : Nat) (pg c j : Int) : List (Nat × AV) := [(0, .ptr ⟨i, 0, [], 1⟩), (1, .int .i64 pg), (4, .bad), (5, .int .i64 c), (6, .int .i64 j), (21, .bad)]
theorem start14 (N fuel : Nat) (p : Pl) (n off len : Nat) (q : Pl) (n2 off2 len2 : Nat) (H : Heap) (k : AV → Heap → Bool → Prop) :
 (runP (S F) T0 N 30 fuel 14 [.sl p 1 n off len, .sl q 1 n2 off2 len2] H k) =
 ((cond (!(↑len : Int) == (↑len2 : Int))
 (k (AV.bool false) H true)
 (resPS (S F) T0 N 30 fuel 14 2 H.length [] [true, true, false, true] fuel (St.mk [(0, AV.sl p 1 n off len), (1, AV.sl q 1 n2 off2 len2), (4, AV.bad), (5, AV.int IntKind.i64 0), (10, AV.bad), (14, AV.bad), (25, AV.bad)] [] H true) k)) : Prop) := by kernel_rfl
theorem start14n (N fuel : Nat) (q : Pl) (n2 off2 len2 : Nat) (H : Heap) (k : AV → Heap → Bool → Prop) :
 (runP (S F) T0 N 30 fuel 14 [.nils, .sl q 1 n2 off2 len2] H k) =
 ((cond (!(↑0 : Int) == (↑len2 : Int))
 (k (AV.bool false) H true)
 (resPS (S F) T0 N 30 fuel 14 2 H.length [] [true, true, false, true] fuel (St.mk [(0, AV.nils), (1, AV.sl q 1 n2 off2 len2), (4, AV.bad), (5, AV.int IntKind.i64 0), (10, AV.bad), (14, AV.bad), (25, AV.bad)] [] H true) k)) : Prop) := by kernel_rfl
theorem start14m (N fuel : Nat) (q : Pl) (n2 off2 len2 : Nat) (H : Heap) (k : AV → Heap → Bool → Prop) :
 (runP (S F) T0 N 30 fuel 14 [.sl q 1 n2 off2 len2, .nils] H k) =
 ((cond (!(↑len2 : Int) == (↑0 : Int))
 (k (AV.bool false) H true)
 (resPS (S F) T0 N 30 fuel 14 2 H.length [] [true, true, false, true] fuel (St.mk [(0, AV.sl q 1 n2 off2 len2), (1, AV.nils), (4, AV.bad), (5, AV.int IntKind.i64 0), (10, AV.bad), (14, AV.bad), (25, AV.bad)] [] H true) k)) : Prop) := by kernel_rfl
theorem start14o (N fuel : Nat) (H : Heap) (k : AV → Heap → Bool → Prop) :
 (runP (S F) T0 N 30 (fuel + 2) 14 [.nils, .nils] H k) =
 ((k (AV.bool true) H true) : Prop) := by kernel_rfl
theorem step14 (N fuel m n0 : Nat) (p : Pl) (n off len : Nat) (q : Pl) (n2 off2 len2 : Nat) (H : Heap) (i : Int) (k : AV → Heap → Bool → Prop) :
 (resPS (S F) T0 N 30 fuel 14 2 n0 [] [true, true, false, true] (m + 1) ⟨L14 (.sl p 1 n off len) (.sl q 1 n2 off2 len2) i, [], H, true⟩ k) =
 ((cond (decide (i < (↑len : Int)))
 (cond (decide (0 ≤ i))
 (cond (decide (Int.toNat i < len))
 (∃ (b0 : Blk),
 And (Heap.blk H p.1 = some b0)
 (cond (okAt b0.1 (p.3 ++ [off + Int.toNat i]) (p.2 + (off + Int.toNat i) * 1) p.4 false 1)
 (cond (AV.isIntK (projT (p.3 ++ [off + Int.toNat i]) b0.1) IntKind.i64)
 (cond (decide (0 ≤ i))
 (cond (decide (Int.toNat i < len2))
 (∃ (b1 : Blk),
 And (Heap.blk H q.1 = some b1)
 (cond (okAt b1.1 (q.3 ++ [off2 + Int.toNat i]) (q.2 + (off2 + Int.toNat i) * 1) q.4 false 1)
 (cond (AV.isIntK (projT (q.3 ++ [off2 + Int.toNat i]) b1.1) IntKind.i64)
 (cond (!AV.toInt (projT (p.3 ++ [off + Int.toNat i]) b0.1) == AV.toInt (projT (q.3 ++ [off2 + Int.toNat i]) b1.1))
 (k (AV.bool false) H true)
 (resPS (S F) T0 N 30 fuel 14 2 n0 [] [true, true, false, true] m (St.mk [(0, AV.sl p 1 n off len), (1, AV.sl q 1 n2 off2 len2), (4, AV.bad), (5, AV.int IntKind.i64 (IntKind.wrap IntKind.i64 (i + 1))), (10, AV.bad), (14, AV.bad), (25, AV.bad)] [] H true) k))
 (False))
 (False)))
 (False))
 (False))
 (False))
 (False)))
 (False))
 (False))
 (k (AV.bool true) H true)) : Prop) := by kernel_rfl
theorem step14n (N fuel m n0 : Nat) (q : Pl) (n2 off2 len2 : Nat) (H : Heap) (k : AV → Heap → Bool → Prop) :
 (resPS (S F) T0 N 30 fuel 14 2 n0 [] [true, true, false, true] (m + 1) ⟨L14 .nils (.sl q 1 n2 off2 len2) 0, [], H, true⟩ k) =
 ((k (AV.bool true) H true) : Prop) := by kernel_rfl
theorem step14m (N fuel m n0 : Nat) (p : Pl) (n off : Nat) (H : Heap) (k : AV → Heap → Bool → Prop) :
 (resPS (S F) T0 N 30 fuel 14 2 n0 [] [true, true, false, true] (m + 1) ⟨L14 (.sl p 1 n off 0) .nils 0, [], H, true⟩ k) =
 ((k (AV.bool true) H true) : Prop) := by kernel_rfl
theorem start17 (N fuel : Nat) (i : Nat) (H : Heap) (pg : Int) (k : AV → Heap → Bool → Prop) :
 (runP (S F) T0 N 30 fuel 17 [.ptr ⟨i, 0, [], 1⟩, .int .i64 pg] H k) =
 ((∃ (b0 : Blk),
 And (Heap.blk H i = some b0)
 (cond (okAt b0.1 [0] 0 1 false 1)
 (∃ (p1 : Pl),
 ∃ (n2 : Nat),
 ∃ (off3 : Nat),
 ∃ (len4 : Nat),
 And (projT [0] b0.1 = AV.sl p1 1 n2 off3 len4)
 (resPS (S F) T0 N 30 fuel 17 2 H.length [] [true, true, true, false, true] fuel (St.mk [(0, AV.bad), (1, AV.int IntKind.i64 pg), (4, AV.bad), (5, AV.int IntKind.i64 0), (7, AV.bad), (9, AV.bad), (11, AV.bad), (15, AV.sl p1 1 n2 off3 len4), (16, AV.int IntKind.i64 (↑len4 : Int)), (17, AV.int IntKind.i64 0), (18, AV.bad), (21, AV.bad), (22, AV.bad), (23, AV.bad), (24, AV.bad), (29, AV.bad)] [] H true) k))
 (False))) : Prop) := by kernel_rfl
theorem step17 (N fuel m n0 : Nat) (p : Pl) (n off len : Nat) (H : Heap) (pg c i : Int) (k : AV → Heap → Bool → Prop) :
 (resPS (S F) T0 N 30 fuel 17 2 n0 [] [true, true, true, false, true] (m + 1) ⟨L17 p n off len pg c i, [], H, true⟩ k) =
 ((cond (decide (i < (↑len : Int)))
 (cond (decide (0 ≤ i))
 (cond (decide (Int.toNat i < len))
 (∃ (b0 : Blk),
 And (Heap.blk H p.1 = some b0)
 (cond (okAt b0.1 (p.3 ++ [off + Int.toNat i]) (p.2 + (off + Int.toNat i) * 1) p.4 false 1)
 (And ((projT (p.3 ++ [off + Int.toNat i]) b0.1 = AV.nils) →
 resPS (S F) T0 N 30 fuel 17 2 n0 [([true, true, false, true, true], fuel)] [true, true, true, false, true] m (St.mk [(0, AV.bad), (1, AV.int IntKind.i64 pg), (4, AV.bad), (5, AV.int IntKind.i64 c), (7, AV.bad), (9, AV.bad), (11, AV.bad), (15, AV.sl p 1 n off len), (16, AV.int IntKind.i64 (↑len : Int)), (17, AV.int IntKind.i64 i), (18, AV.bad), (21, AV.nils), (22, AV.int IntKind.i64 (↑0 : Int)), (23, AV.int IntKind.i64 0), (24, AV.bad), (29, AV.bad)] [] H true) k)
 (And (∀ (p1 : Pl),
 ∀ (n2 : Nat),
 ∀ (off3 : Nat),
 ∀ (len4 : Nat),
 (projT (p.3 ++ [off + Int.toNat i]) b0.1 = AV.sl p1 1 n2 off3 len4) →
 resPS (S F) T0 N 30 fuel 17 2 n0 [([true, true, false, true, true], fuel)] [true, true, true, false, true] m (St.mk [(0, AV.bad), (1, AV.int IntKind.i64 pg), (4, AV.bad), (5, AV.int IntKind.i64 c), (7, AV.bad), (9, AV.bad), (11, AV.bad), (15, AV.sl p 1 n off len), (16, AV.int IntKind.i64 (↑len : Int)), (17, AV.int IntKind.i64 i), (18, AV.bad), (21, AV.sl p1 1 n2 off3 len4), (22, AV.int IntKind.i64 (↑len4 : Int)), (23, AV.int IntKind.i64 0), (24, AV.bad), (29, AV.bad)] [] H true) k)
 (projT (p.3 ++ [off + Int.toNat i]) b0.1 = AV.nils ∨ ∃ (p_1 : Pl), ∃ (n : Nat), ∃ (off_1 : Nat), ∃ (len : Nat), projT (p.3 ++ [off + Int.toNat i]) b0.1 = AV.sl p_1 1 n off_1 len)))
 (False)))
 (False))
 (False))
 (k (AV.int IntKind.i64 c) H true)) : Prop) := by kernel_rfl
theorem step17i (N fuel m m2 n0 : Nat) (p : Pl) (n off len : Nat) (q : Pl) (n2 off2 len2 : Nat) (H : Heap) (pg c i j : Int) (k : AV → Heap → Bool → Prop) :
 (resPS (S F) T0 N 30 fuel 17 2 n0 [([true, true, false, true, true], m2 + 1)] [true, true, true, false, true] m ⟨L17i p n off len pg c i (.sl q 1 n2 off2 len2) len2 j, [], H, true⟩ k) =
 ((cond (decide (j < (↑len2 : Int)))
 (cond (decide (0 ≤ j))
 (cond (decide (Int.toNat j < len2))
 (∃ (b0 : Blk),
 And (Heap.blk H q.1 = some b0)
 (cond (okAt b0.1 (q.3 ++ [off2 + Int.toNat j]) (q.2 + (off2 + Int.toNat j) * 1) q.4 false 1)
 (cond (AV.isIntK (projT (q.3 ++ [off2 + Int.toNat j]) b0.1) IntKind.i64)
 (cond (AV.toInt (projT (q.3 ++ [off2 + Int.toNat j]) b0.1) == pg)
 (resPS (S F) T0 N 30 fuel 17 2 n0 [([true, true, false, true, true], m2)] [true, true, true, false, true] m (St.mk [(0, AV.bad), (1, AV.int IntKind.i64 pg), (4, AV.bad), (5, AV.int IntKind.i64 (IntKind.wrap IntKind.i64 (c + 1))), (7, AV.bad), (9, AV.bad), (11, AV.bad), (15, AV.sl p 1 n off len), (16, AV.int IntKind.i64 (↑len : Int)), (17, AV.int IntKind.i64 i), (18, AV.bad), (21, AV.sl q 1 n2 off2 len2), (22, AV.int IntKind.i64 (↑len2 : Int)), (23, AV.int IntKind.i64 (IntKind.wrap IntKind.i64 (j + 1))), (24, AV.bad), (29, AV.bad)] [] H true) k)
 (resPS (S F) T0 N 30 fuel 17 2 n0 [([true, true, false, true, true], m2)] [true, true, true, false, true] m (St.mk [(0, AV.bad), (1, AV.int IntKind.i64 pg), (4, AV.bad), (5, AV.int IntKind.i64 c), (7, AV.bad), (9, AV.bad), (11, AV.bad), (15, AV.sl p 1 n off len), (16, AV.int IntKind.i64 (↑len : Int)), (17, AV.int IntKind.i64 i), (18, AV.bad), (21, AV.sl q 1 n2 off2 len2), (22, AV.int IntKind.i64 (↑len2 : Int)), (23, AV.int IntKind.i64 (IntKind.wrap IntKind.i64 (j + 1))), (24, AV.bad), (29, AV.bad)] [] H true) k))
 (False))
 (False)))
 (False))
 (False))
 (resPS (S F) T0 N 30 fuel 17 2 n0 [] [true, true, true, false, true] m (St.mk [(0, AV.bad), (1, AV.int IntKind.i64 pg), (4, AV.bad), (5, AV.int IntKind.i64 c), (7, AV.bad), (9, AV.bad), (11, AV.bad), (15, AV.sl p 1 n off len), (16, AV.int IntKind.i64 (↑len : Int)), (17, AV.int IntKind.i64 (IntKind.wrap IntKind.i64 (i + 1))), (18, AV.bad), (21, AV.bad), (22, AV.bad), (23, AV.bad), (24, AV.bad), (29, AV.bad)] [] H true) k)) : Prop) := by kernel_rfl
theorem step17n (N fuel m m2 n0 : Nat) (p : Pl) (n off len : Nat) (H : Heap) (pg c i : Int) (k : AV → Heap → Bool → Prop) :
 (resPS (S F) T0 N 30 fuel 17 2 n0 [([true, true, false, true, true], m2 + 1)] [true, true, true, false, true] m ⟨L17i p n off len pg c i .nils 0 0, [], H, true⟩ k) =
 ((resPS (S F) T0 N 30 fuel 17 2 n0 [] [true, true, true, false, true] m (St.mk [(0, AV.bad), (1, AV.int IntKind.i64 pg), (4, AV.bad), (5, AV.int IntKind.i64 c), (7, AV.bad), (9, AV.bad), (11, AV.bad), (15, AV.sl p 1 n off len), (16, AV.int IntKind.i64 (↑len : Int)), (17, AV.int IntKind.i64 (IntKind.wrap IntKind.i64 (i + 1))), (18, AV.bad), (21, AV.bad), (22, AV.bad), (23, AV.bad), (24, AV.bad), (29, AV.bad)] [] H true) k) : Prop) := by kernel_rfl
theorem start16 (N fuel : Nat) (i : Nat) (H : Heap) (s : Int) (k : AV → Heap → Bool → Prop) :
 (runP (S F) T0 N 30 fuel 16 [.ptr ⟨i, 0, [], 1⟩, .int .i64 s] H k) =
 ((resPS (S F) T0 N 30 fuel 16 2 H.length [] [true, true, false, true] fuel (St.mk [(0, AV.ptr (Pl.mk i 0 [] 1)), (1, AV.int IntKind.i64 s), (4, AV.bad), (5, AV.nils), (6, AV.int IntKind.i64 0), (7, AV.bad), (14, AV.bad), (27, AV.bad)] [] H true) k) : Prop) := by kernel_rfl
theorem start18 (N fuel : Nat) (i : Nat) (H : Heap) (pg : Int) (k : AV → Heap → Bool → Prop) :
 (runP (S F) T0 N 30 fuel 18 [.ptr ⟨i, 0, [], 1⟩, .int .i64 pg] H k) =
 ((resPS (S F) T0 N 30 fuel 18 2 H.length [] [true, true, false, true] fuel (St.mk [(0, AV.ptr (Pl.mk i 0 [] 1)), (1, AV.int IntKind.i64 pg), (4, AV.bad), (5, AV.int IntKind.i64 0), (6, AV.int IntKind.i64 0), (21, AV.bad)] [] H true) k) : Prop) := by kernel_rfl
theorem step18 (N fuel m n0 i : Nat) (H : Heap) (pg c j : Int) (k : AV → Heap → Bool → Prop) :
 (resPS (S F) T0 N 30 fuel 18 2 n0 [] [true, true, false, true] (m + 1) ⟨L18 i pg c j, [], H, true⟩ k) =
 ((∃ (b0 : Blk),
 And (Heap.blk H i = some b0)
 (cond (okAt b0.1 [0] 0 1 false 1)
 (∃ (p1 : Pl),
 ∃ (n2 : Nat),
 ∃ (off3 : Nat),
 ∃ (len4 : Nat),
 And (projT [0] b0.1 = AV.sl p1 64 n2 off3 len4)
 (cond (decide (j < (↑len4 : Int)))
 (cond (decide (pg ≥ 0))
 (cond (decide (pg < 64))
 (∃ (b5 : Blk),
 And (Heap.blk H i = some b5)
 (cond (okAt b5.1 [0] 0 1 false 1)
 (∃ (p6 : Pl),
 ∃ (n7 : Nat),
 ∃ (off8 : Nat),
 ∃ (len9 : Nat),
 And (projT [0] b5.1 = AV.sl p6 64 n7 off8 len9)
 (cond (decide (0 ≤ j))
 (cond (decide (Int.toNat j < len9))
 (cond (decide (0 ≤ pg))
 (cond (decide (Int.toNat pg < 64))
 (∃ (b10 : Blk),
 And (Heap.blk H p6.1 = some b10)
 (cond (okAt b10.1 (p6.3 ++ [off8 + Int.toNat j] ++ [Int.toNat pg]) (p6.2 + (off8 + Int.toNat j) * 64 + Int.toNat pg * 1) p6.4 false 1)
 (cond (AV.isIntK (projT (p6.3 ++ [off8 + Int.toNat j] ++ [Int.toNat pg]) b10.1) IntKind.i64)
 (resPS (S F) T0 N 30 fuel 18 2 n0 [] [true, true, false, true] m (St.mk [(0, AV.ptr (Pl.mk i 0 [] 1)), (1, AV.int IntKind.i64 pg), (4, AV.bad), (5, AV.int IntKind.i64 (IntKind.wrap IntKind.i64 (c + AV.toInt (projT (p6.3 ++ [off8 + Int.toNat j] ++ [Int.toNat pg]) b10.1)))), (6, AV.int IntKind.i64 (IntKind.wrap IntKind.i64 (j + 1))), (21, AV.bad)] [] H true) k)
 (False))
 (False)))
 (False))
 (False))
 (False))
 (False)))
 (False)))
 (k (AV.int IntKind.i64 c) H true))
 (k (AV.int IntKind.i64 c) H true))
 (k (AV.int IntKind.i64 c) H true)))
 (False))) : Prop) := by kernel_rfl
theorem tree24 (N fuel : Nat) (i : Nat) (H : Heap) (s : Int) (k : AV → Heap → Bool → Prop) :
 (runP (S F) T0 N 30 fuel 24 [.ptr ⟨i, 0, [], 1⟩, .int .i64 s] H k) =
 ((cond (decide (s ≥ 0))
 (∃ (b0 : Blk),
 And (Heap.blk H i = some b0)
 (cond (okAt b0.1 [0] 0 1 false 1)
 (∃ (p1 : Pl),
 ∃ (n2 : Nat),
 ∃ (off3 : Nat),
 ∃ (len4 : Nat),
 And (projT [0] b0.1 = AV.sl p1 64 n2 off3 len4)
 (k (AV.bool (decide (s < (↑len4 : Int)))) H true))
 (False)))
 (k (AV.bool false) H true)) : Prop) := by kernel_rfl
theorem tree23 (N fuel : Nat) (p : Pl) (l off n : Nat) (H : Heap) (a b : Int) (k : AV → Heap → Bool → Prop) :
 (runP (S F) T0 N 30 fuel 23 [.sl p 1 n off l, .int .i64 a, .int .i64 b] H k) =
 ((cond (decide (0 ≤ b))
 (cond (decide (0 ≤ a))
 (cond (decide (Int.toNat a ≤ Int.toNat b) && decide (Int.toNat b ≤ l) && decide (l ≤ l))
 (cond (a == b)
 (k (AV.sl p 1 n off l) H true)
 (cond (decide (0 ≤ a))
 (cond (true && decide (off + Int.toNat a ≤ n) && (decide (Int.toNat a ≤ l) || decide (Option.map (fun (b : Blk) => AV.flatLen b.1) (Heap.blk H p.1) = some p.4)))
 (cond (decide (0 ≤ b))
 (cond (decide (Int.toNat b ≤ l) && decide (off + l ≤ n) && (decide (l ≤ l) || decide (Option.map (fun (b : Blk) => AV.flatLen b.1) (Heap.blk H p.1) = some p.4)))
 (∃ (b0 : Blk),
 ∃ (ys1 : List AV),
 And (Heap.blk H p.1 = some b0)
 (And (b0.1 = AV.arr 1 ys1)
 (And (p.3 = [])
 (And (p.2 = 0)
 (And (1 = 1)
 (cond (decide (1 * List.length ys1 = p.4))
 (cond (decide (List.length ys1 = n))
 (cond (decide (off + Int.toNat b + (l - Int.toNat b) ≤ n))
 (cond (reflessL (List.take (l - Int.toNat b) (List.drop (off + Int.toNat b) ys1)) && List.all (List.take (l - Int.toNat b) (List.drop (off + Int.toNat b) ys1)) fun (u : AV) => AV.flatLen u == 1)
 (∃ (b2 : Blk),
 ∃ (ys3 : List AV),
 And (Heap.blk H p.1 = some b2)
 (And (b2.1 = AV.arr 1 ys3)
 (And (p.3 = [])
 (And (p.2 = 0)
 (And (1 = 1)
 (cond (decide (1 * List.length ys3 = p.4) && decide (List.length ys3 = n) && decide (off + (Int.toNat a - 0) ≤ n))
 (cond (decide (off + (Int.toNat a - 0) + List.length (List.take (l - Int.toNat b) (List.drop (off + Int.toNat b) ys1)) ≤ n))
 (∀ (H'4 : Heap),
 (H'4 = List.set H p.1 (some (Blk.mk (AV.arr 1 (setMany ys3 (off + (Int.toNat a - 0)) (List.take (l - Int.toNat b) (List.drop (off + Int.toNat b) ys1)))) b2.2 b2.3))) →
 cond (decide (Int.toNat (↑(Int.toNat a - 0 + List.length (List.take (l - Int.toNat b) (List.drop (off + Int.toNat b) ys1))) : Int) ≤ l) && decide (off + l ≤ n) && (decide (l ≤ Int.toNat a - 0 + List.length (List.take (l - Int.toNat b) (List.drop (off + Int.toNat b) ys1))) || decide (Option.map (fun (b : Blk) => AV.flatLen b.1) (Heap.blk H'4 p.1) = some p.4)))
 (∃ (b5 : Blk),
 ∃ (ys6 : List AV),
 And (Heap.blk H'4 p.1 = some b5)
 (And (b5.1 = AV.arr 1 ys6)
 (And (p.3 = [])
 (And (p.2 = 0)
 (cond (decide (1 * List.length ys6 = p.4) && decide (List.length ys6 = n) && decide (off + Int.toNat (↑(Int.toNat a - 0 + List.length (List.take (l - Int.toNat b) (List.drop (off + Int.toNat b) ys1))) : Int) + (l - Int.toNat (↑(Int.toNat a - 0 + List.length (List.take (l - Int.toNat b) (List.drop (off + Int.toNat b) ys1))) : Int)) ≤ n) && decide (0 < l - Int.toNat (↑(Int.toNat a - 0 + List.length (List.take (l - Int.toNat b) (List.drop (off + Int.toNat b) ys1))) : Int)))
 (∀ (H'7 : Heap),
 (H'7 = List.set H'4 p.1 (some (Blk.mk (AV.arr 1 (setMany ys6 (off + Int.toNat (↑(Int.toNat a - 0 + List.length (List.take (l - Int.toNat b) (List.drop (off + Int.toNat b) ys1))) : Int)) (List.replicate (l - Int.toNat (↑(Int.toNat a - 0 + List.length (List.take (l - Int.toNat b) (List.drop (off + Int.toNat b) ys1))) : Int)) (AV.int IntKind.i64 0)))) b5.2 b5.3))) →
 k (AV.sl p 1 n off (Int.toNat a - 0 + List.length (List.take (l - Int.toNat b) (List.drop (off + Int.toNat b) ys1)))) H'7 true)
 (False))))))
 (False))
 (cond (decide (off = 0) && decide (Int.toNat a - 0 = n) && b2.2 && decide ((n + List.length (List.take (l - Int.toNat b) (List.drop (off + Int.toNat b) ys1))) * 8 ≤ 70368744177664) && decide (n + List.length (List.take (l - Int.toNat b) (List.drop (off + Int.toNat b) ys1)) ≤ 70368744177664))
 (∀ (H'8 : Heap),
 (H'8 = List.set H p.1 (some (Blk.mk (AV.arr 1 (ys3 ++ List.take (l - Int.toNat b) (List.drop (off + Int.toNat b) ys1))) true b2.3))) →
 cond (decide (Int.toNat (↑(n + List.length (List.take (l - Int.toNat b) (List.drop (off + Int.toNat b) ys1))) : Int) ≤ l) && decide (0 + l ≤ n + List.length (List.take (l - Int.toNat b) (List.drop (off + Int.toNat b) ys1))) && (decide (l ≤ n + List.length (List.take (l - Int.toNat b) (List.drop (off + Int.toNat b) ys1))) || decide (Option.map (fun (b : Blk) => AV.flatLen b.1) (Heap.blk H'8 p.1) = some (1 * (n + List.length (List.take (l - Int.toNat b) (List.drop (off + Int.toNat b) ys1)))))))
 (∃ (b9 : Blk),
 ∃ (ys10 : List AV),
 And (Heap.blk H'8 p.1 = some b9)
 (And (b9.1 = AV.arr 1 ys10)
 (And (([] : List Nat) = [])
 (And (0 = 0)
 (cond (decide (1 * List.length ys10 = 1 * (n + List.length (List.take (l - Int.toNat b) (List.drop (off + Int.toNat b) ys1)))) && decide (List.length ys10 = n + List.length (List.take (l - Int.toNat b) (List.drop (off + Int.toNat b) ys1))) && decide (0 + Int.toNat (↑(n + List.length (List.take (l - Int.toNat b) (List.drop (off + Int.toNat b) ys1))) : Int) + (l - Int.toNat (↑(n + List.length (List.take (l - Int.toNat b) (List.drop (off + Int.toNat b) ys1))) : Int)) ≤ n + List.length (List.take (l - Int.toNat b) (List.drop (off + Int.toNat b) ys1))) && decide (0 < l - Int.toNat (↑(n + List.length (List.take (l - Int.toNat b) (List.drop (off + Int.toNat b) ys1))) : Int)))
 (∀ (H'11 : Heap),
 (H'11 = List.set H'8 p.1 (some (Blk.mk (AV.arr 1 (setMany ys10 (0 + Int.toNat (↑(n + List.length (List.take (l - Int.toNat b) (List.drop (off + Int.toNat b) ys1))) : Int)) (List.replicate (l - Int.toNat (↑(n + List.length (List.take (l - Int.toNat b) (List.drop (off + Int.toNat b) ys1))) : Int)) (AV.int IntKind.i64 0)))) b9.2 b9.3))) →
 k (AV.sl (Pl.mk p.1 0 [] (1 * (n + List.length (List.take (l - Int.toNat b) (List.drop (off + Int.toNat b) ys1))))) 1 (n + List.length (List.take (l - Int.toNat b) (List.drop (off + Int.toNat b) ys1))) 0 (n + List.length (List.take (l - Int.toNat b) (List.drop (off + Int.toNat b) ys1)))) H'11 true)
 (False))))))
 (False))
 (False)))
 (False)))))))
 (False))
 (False))
 (False))
 (False)))))))
 (False))
 (False))
 (False))
 (False)))
 (False))
 (False))
 (False)) : Prop) := by kernel_rfl
theorem new8 (N fuel : Nat) (H : Heap) (n : Int) (k : AV → Heap → Bool → Prop) :
 (runP (S F) T0 N 30 fuel 8 [.int .i64 n] H k) =
 ((cond (decide (n < 1))
 (k (AV.tuple [AV.nilp, AV.int IntKind.i64 1]) H true)
 (cond (decide (n > 4))
 (k (AV.tuple [AV.nilp, AV.int IntKind.i64 1]) H true)
 (cond (decide (0 ≤ n))
 (cond (decide (0 ≤ n))
 (cond (decide (Int.toNat n ≤ Int.toNat n) && decide (Int.toNat n * 24 ≤ 70368744177664) && decide (Int.toNat n ≤ 70368744177664))
 (k (AV.tuple [AV.ptr (Pl.mk (List.length (H ++ [some (Blk.mk (AV.arr 1 (List.replicate (Int.toNat n) AV.nils)) true true)])) 0 [] 1), AV.int IntKind.i64 0]) (H ++ [some (Blk.mk (AV.arr 1 (List.replicate (Int.toNat n) AV.nils)) true true)] ++ [some (Blk.mk (AV.agg 1 [AV.sl (Pl.mk (List.length H) 0 [] (1 * Int.toNat n)) 1 (Int.toNat n) 0 (Int.toNat n)]) false false)]) true)
 (False))
 (False))
 (False)))) : Prop) := by kernel_rfl
theorem new9 (N fuel : Nat) (H : Heap) (n : Int) (k : AV → Heap → Bool → Prop) :
 (runP (S F) T0 N 30 fuel 9 [.int .i64 n] H k) =
 ((cond (decide (n < 1))
 (k (AV.tuple [AV.nilp, AV.int IntKind.i64 1]) H true)
 (cond (decide (n > 4))
 (k (AV.tuple [AV.nilp, AV.int IntKind.i64 1]) H true)
 (cond (decide (0 ≤ n))
 (cond (decide (0 ≤ n))
 (cond (decide (Int.toNat n ≤ Int.toNat n) && decide (Int.toNat n * 512 ≤ 70368744177664) && decide (Int.toNat n ≤ 70368744177664))
 (k (AV.tuple [AV.ptr (Pl.mk (List.length (H ++ [some (Blk.mk (AV.arr 64 (List.replicate (Int.toNat n) (AV.arr 1 (encL IntKind.i64 64 fun (_i : Nat) => 0)))) true true)])) 0 [] 1), AV.int IntKind.i64 0]) (H ++ [some (Blk.mk (AV.arr 64 (List.replicate (Int.toNat n) (AV.arr 1 (encL IntKind.i64 64 fun (_i : Nat) => 0)))) true true)] ++ [some (Blk.mk (AV.agg 1 [AV.sl (Pl.mk (List.length H) 0 [] (64 * Int.toNat n)) 64 (Int.toNat n) 0 (Int.toNat n)]) false false)]) true)
 (False))
 (False))
 (False)))) : Prop) := by kernel_rfl
end Go.Proofs.Ytclmndonaljppaa
/-
  The reference's pins in memory.
-/
namespace Go.Proofs.Ytclmndonaljppaa
open Go Go.X
variable {F : Nat}
set_option maxRecDepth 100000
abbrev encN : Ar 64 → AV := encA IntKind.i64
structure RefR (H : Heap) (i j : Nat) (ns : List (Ar 64)) : Prop where
  top : H.blk i = some ⟨.agg 1 [.sl ⟨j, 0, [], 64 * ns.length⟩ 64 ns.length 0 ns.length], false, false⟩
  arr : H.blk j = some ⟨.arr 64 (row encN ns), true, true⟩
  ne : i ≠ j
  le : ns.length ≤ 4
theorem RefR.keep {H H' : Heap} {i j : Nat} {ns : List (Ar 64)} {fp : List Nat} (h : RefR H i j ns) (hk : Keep fp H H') (hi : i ∉ fp) (hj : j ∉ fp) : RefR H' i j ns :=
  ⟨(hk.blk (blk_lt h.top) hi).trans h.top, (hk.blk (blk_lt h.arr) hj).trans h.arr, h.ne, h.le⟩
def OkR (ns : List (Ar 64)) (s : Int) : Prop := 0 ≤ s ∧ s < ns.length
instance {ns : List (Ar 64)} {s : Int} : Decidable (OkR ns s) := by unfold OkR; infer_instance
theorem okTopR {j n : Nat} : okAt (AV.agg 1 [.sl ⟨j, 0, [], 64 * n⟩ 64 n 0 n]) [0] 0 1 false 1 = true := rfl
theorem okN {ns : List (Ar 64)} {n m g : Nat} (h : n < ns.length) (hm : m < 64) (hg : 64 * ns.length = g) : okAt (.arr 64 (row encN ns)) ([] ++ [0 + n] ++ [m]) (0 + (0 + n) * 64 + m * 1) g false 1 = true := by
  rw [Nat.zero_add n]
  refine okAt_row (enc := encN) (r := [m]) h hg ?_ ?_ ?_ ?_
  · simp only [coffOf, encA, encL_get hm, Option.getD_some]
    omega
  · simp [inAt, encA, encL_length, hm]
  · show (projT [m] (encA .i64 ns[n])).flatLen = 1
    rw [projT, elem_encA hm]
    rfl
  · show (projT [m] (encA .i64 ns[n])).isAgg = false
    rw [projT, elem_encA hm]
    rfl
theorem plN {ns : List (Ar 64)} {n m g : Nat} (h : n < ns.length) (hm : m < 64) (hg : 64 * ns.length = g) : okPl (.arr 64 (row encN ns)) ([] ++ [0 + n] ++ [m]) (0 + (0 + n) * 64 + m * 1) g 1 = true := (okAt_iff.1 (okN h hm hg)).1
theorem prN {ns : List (Ar 64)} {n m : Nat} (h : n < ns.length) (hm : m < 64) : projT ([] ++ [0 + n] ++ [m]) (.arr 64 (row encN ns)) = .int .i64 (ns[n].get m) := by
  rw [Nat.zero_add n]
  have h1 := projT_row (enc := encN) (e := 64) (r := [m]) h
  have h2 : projT [m] (encN ns[n]) = .int .i64 (ns[n].get m) := by
    show projT [m] (encA .i64 ns[n]) = _
    rw [projT, elem_encA hm]
    rfl
  exact h1.trans h2
theorem puN {ns : List (Ar 64)} {n m : Nat} {v : Int} (h : n < ns.length) : putT ([] ++ [0 + n] ++ [m]) (.arr 64 (row encN ns)) (.int .i64 v) = .arr 64 (row encN (ns.set n (ns[n].set m v))) := by
  rw [Nat.zero_add n]
  show putT [n, m] _ _ = _
  simp only [putT, row_elem h]
  rw [setElem_encA]
  simp only [setElem]
  rw [row_set]
def t24 : PT := fun args H k => ∃ (i j : Nat) (ns : List (Ar 64)) (s : Int), args = [.ptr ⟨i, 0, [], 1⟩, .int .i64 s] ∧ RefR H i j ns ∧ k (.bool (decide (OkR ns s))) H true
theorem has24 (N : Nat) (args : List AV) (H : Heap) (k : AV → Heap → Bool → Prop) : t24 args H k → runP (S F) T0 N 30 (S F).fu 24 args H k := by
  rintro ⟨i, j, ns, s, rfl, hR, hk⟩
  rw [tree24]
  by_cases h : s ≥ 0
  · refine cD h (ldg hR.top okTopR ⟨_, _, _, _, rfl, ?_⟩)
    have e : decide (OkR ns s) = decide (s < (ns.length : Int)) := decide_eq_decide.2 ⟨fun h => h.2, fun h2 => ⟨h, h2⟩⟩
    rwa [e] at hk
  · refine cN h ?_
    have e : decide (OkR ns s) = false := decide_eq_false fun h2 => h h2.1
    rwa [e] at hk
/-- The pages that numbers tell of. -/
def expand (a : Ar 64) : List Int := (List.range 64).flatMap fun k => List.replicate (a.get k).toNat (k : Int)
/-- How many there may be. -/
def SmallN (ns : List (Ar 64)) : Prop := ∀ a ∈ ns, ∀ k, k < 64 → 0 ≤ a.get k ∧ a.get k ≤ 16
def t16 : PT := fun args H k => ∃ (i j : Nat) (ns : List (Ar 64)) (s : Int), args = [.ptr ⟨i, 0, [], 1⟩, .int .i64 s] ∧ RefR H i j ns ∧ SmallN ns ∧
  ((¬ OkR ns s ∨ expand (ns.getD s.toNat (Ar.zero 64)) = []) → ∀ H', Keep [] H H' → k .nils H' true) ∧
  (OkR ns s → ∀ (k0 : Nat) (H' : Heap), H.length ≤ k0 → H'.blk k0 = some ⟨.arr 1 (row encZ (expand (ns.getD s.toNat (Ar.zero 64)))), true, true⟩ → Keep [] H H' →
    k (.sl ⟨k0, 0, [], (expand (ns.getD s.toNat (Ar.zero 64))).length⟩ 1 (expand (ns.getD s.toNat (Ar.zero 64))).length 0 (expand (ns.getD s.toNat (Ar.zero 64))).length) H' true)
end Go.Proofs.Ytclmndonaljppaa
