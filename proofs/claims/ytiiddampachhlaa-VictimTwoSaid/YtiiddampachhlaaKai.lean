/- VictimTwo: the law's trees.
-/
import Derived.Test.YtiiddampachhlaaKah

namespace Go.Proofs.Ytiiddampachhlaa
open Go Go.X
variable {F : Nat}
abbrev M1 (lv : List Int) (nt l : AV) (may s : Int) : List (Nat × AV) := [(0, LV lv), (1, nt), (4, .bad), (5, l), (6, .int .i64 may), (7, .int .i64 s), (8, .bad), (9, .bad), (10, .bad), (11, .bad), (12, .bad), (13, .bad), (14, .bad), (22, .bad), (30, .bad), (41, .bad), (53, .bad), (57, .bad), (65, .bad), (72, .bad), (76, .bad), (92, .bad), (119, .bad), (128, .bad), (153, .bad), (179, .bad)]
abbrev M1a (lv : List Int) (nt l : AV) (may s : Int) (out : Bool) (q : Int) : List (Nat × AV) := [(0, LV lv), (1, nt), (4, .bad), (5, l), (6, .int .i64 may), (7, .int .i64 s), (8, .bool out), (9, .int .i64 q), (10, .bad), (11, .bad), (12, .bad), (13, .bad), (14, .bad), (22, .bad), (30, .bad), (41, .bad), (53, .bad), (57, .bad), (65, .bad), (72, .bad), (76, .bad), (92, .bad), (119, .bad), (128, .bad), (153, .bad), (179, .bad)]
abbrev M1b (lv : List Int) (nt l : AV) (may s q : Int) : List (Nat × AV) := [(0, LV lv), (1, nt), (4, .bad), (5, l), (6, .int .i64 may), (7, .int .i64 s), (8, .bad), (9, .bad), (10, .int .i64 q), (11, .bad), (12, .bad), (13, .bad), (14, .bad), (22, .bad), (30, .bad), (41, .bad), (53, .bad), (57, .bad), (65, .bad), (72, .bad), (76, .bad), (92, .bad), (119, .bad), (128, .bad), (153, .bad), (179, .bad)]
abbrev M2 (lv : List Int) (nt l : AV) (q : Int) : List (Nat × AV) := [(0, LV lv), (1, nt), (4, .bad), (5, l), (6, .bad), (7, .bad), (8, .bad), (9, .bad), (10, .bad), (11, .int .i64 q), (12, .bad), (13, .bad), (14, .bad), (22, .bad), (30, .bad), (41, .bad), (53, .bad), (57, .bad), (65, .bad), (72, .bad), (76, .bad), (92, .bad), (119, .bad), (128, .bad), (153, .bad), (179, .bad)]
abbrev M3 (lv : List Int) (nt l : AV) (s : Int) : List (Nat × AV) := [(0, LV lv), (1, nt), (4, .bad), (5, l), (6, .bad), (7, .bad), (8, .bad), (9, .bad), (10, .bad), (11, .bad), (12, .int .i64 s), (13, .bad), (14, .bad), (22, .bad), (30, .bad), (41, .bad), (53, .bad), (57, .bad), (65, .bad), (72, .bad), (76, .bad), (92, .bad), (119, .bad), (128, .bad), (153, .bad), (179, .bad)]
abbrev M3a (lv : List Int) (nt l : AV) (s : Int) (out : Bool) (q : Int) : List (Nat × AV) := [(0, LV lv), (1, nt), (4, .bad), (5, l), (6, .bad), (7, .bad), (8, .bad), (9, .bad), (10, .bad), (11, .bad), (12, .int .i64 s), (13, .bool out), (14, .int .i64 q), (22, .bad), (30, .bad), (41, .bad), (53, .bad), (57, .bad), (65, .bad), (72, .bad), (76, .bad), (92, .bad), (119, .bad), (128, .bad), (153, .bad), (179, .bad)]
abbrev p31 : List Bool := [true, true, true, true, false, true]
abbrev q31a : List Bool := [true, false, true, false, true]
abbrev q31b : List Bool := [true, false, true, true, false, true, false, false, true]
abbrev p32 : List Bool := [true, true, true, true, true, true, false, true]
abbrev p33 : List Bool := [true, true, true, true, true, true, true, true, false, true]
abbrev q33 : List Bool := [true, false, true, false, true]
theorem start3i (N fuel : Nat) (lv nt : List Int) (k : AV → Heap → Bool → Prop) :
 (runP (S F) T3 N 9 fuel 3 [LV lv, LV nt] [] k) =
 ((cond (decide ((↑(List.length (row encZ lv)) : Int) > 60))
 (And (([] : List AV) = [])
 (k (AV.bool true) [] false))
 (cond (decide ((↑(List.length (row encZ nt)) : Int) > 60))
 (And (([] : List AV) = [])
 (k (AV.bool true) [] false))
 (∃ (lv0 : List Int),
 ∃ (dn1 : Option (List Int)),
 And ([AV.isl 1 (row encZ lv), AV.isl 1 (row encZ nt)] = [AV.isl 1 (row encZ lv0), dZ dn1])
 (And (([] : Heap) = [])
 (And (List.length lv0 < 400)
 (And (List.length (Option.getD dn1 []) < 400)
 (And (∀ (x2 : Int),
 (x2 ∈ lv0) →
 x2 < Int.ofNat 9223372036854775808)
 (∀ (l23 : List Int),
 ∀ (W4 : List Int),
 (List.Perm W4 (selF lv0 (Option.getD dn1 []) (List.length lv0) 0)) →
 (Srt lv0 W4) →
 (l23 = List.take 2 W4) →
 And ((l23 = []) →
 resPS (S F) T3 N 9 fuel 3 2 0 [] p31 fuel (St.mk [(0, AV.isl 1 (row encZ lv)), (1, AV.isl 1 (row encZ nt)), (4, AV.bad), (5, AV.nils), (6, AV.int IntKind.i64 0), (7, AV.int IntKind.i64 0), (8, AV.bad), (9, AV.bad), (10, AV.bad), (11, AV.bad), (12, AV.bad), (13, AV.bad), (14, AV.bad), (22, AV.bad), (30, AV.bad), (41, AV.bad), (53, AV.bad), (57, AV.bad), (65, AV.bad), (72, AV.bad), (76, AV.bad), (92, AV.bad), (119, AV.bad), (128, AV.bad), (153, AV.bad), (179, AV.bad)] [] [] false) k)
 ((l23 ≠ []) →
 resPS (S F) T3 N 9 fuel 3 2 0 [] p31 fuel (St.mk [(0, AV.isl 1 (row encZ lv)), (1, AV.isl 1 (row encZ nt)), (4, AV.bad), (5, AV.sl (Pl.mk 3 0 [] (List.length l23)) 1 (List.length l23) 0 (List.length l23)), (6, AV.int IntKind.i64 0), (7, AV.int IntKind.i64 0), (8, AV.bad), (9, AV.bad), (10, AV.bad), (11, AV.bad), (12, AV.bad), (13, AV.bad), (14, AV.bad), (22, AV.bad), (30, AV.bad), (41, AV.bad), (53, AV.bad), (57, AV.bad), (65, AV.bad), (72, AV.bad), (76, AV.bad), (92, AV.bad), (119, AV.bad), (128, AV.bad), (153, AV.bad), (179, AV.bad)] [] (HR l23) false) k))))))))) : Prop) := by kernel_rfl
theorem s1in (N fuel n : Nat) (lv nt : List Int) (may s : Int) (k : AV → Heap → Bool → Prop) :
 (resPS (S F) T3 N 9 fuel 3 2 0 [] p31 (n + 1) ⟨M1 lv (LV nt) .nils may s, [], [], false⟩ k) =
 ((cond (decide (s < (↑(List.length (row encZ lv)) : Int)))
 (cond (decide (0 ≤ s))
 (cond (AV.isIntK (Option.getD (row encZ lv)[Int.toNat s]? AV.bad) IntKind.i64)
 (resPS (S F) T3 N 9 fuel 3 2 0 [(q31a, fuel)] p31 n (St.mk [(0, AV.isl 1 (row encZ lv)), (1, AV.isl 1 (row encZ nt)), (4, AV.bad), (5, AV.nils), (6, AV.int IntKind.i64 may), (7, AV.int IntKind.i64 s), (8, AV.bool (decide (AV.toInt (Option.getD (row encZ lv)[Int.toNat s]? AV.bad) < 0))), (9, AV.int IntKind.i64 0), (10, AV.bad), (11, AV.bad), (12, AV.bad), (13, AV.bad), (14, AV.bad), (22, AV.bad), (30, AV.bad), (41, AV.bad), (53, AV.bad), (57, AV.bad), (65, AV.bad), (72, AV.bad), (76, AV.bad), (92, AV.bad), (119, AV.bad), (128, AV.bad), (153, AV.bad), (179, AV.bad)] [] [] false) k)
 (False))
 (False))
 (cond (!(↑0 : Int) == if may < 2 then may else (2 : Int))
 (k (AV.bool false) [] false)
 (resPS (S F) T3 N 9 fuel 3 2 0 [] p32 fuel (St.mk [(0, AV.isl 1 (row encZ lv)), (1, AV.isl 1 (row encZ nt)), (4, AV.bad), (5, AV.nils), (6, AV.bad), (7, AV.bad), (8, AV.bad), (9, AV.bad), (10, AV.bad), (11, AV.int IntKind.i64 0), (12, AV.bad), (13, AV.bad), (14, AV.bad), (22, AV.bad), (30, AV.bad), (41, AV.bad), (53, AV.bad), (57, AV.bad), (65, AV.bad), (72, AV.bad), (76, AV.bad), (92, AV.bad), (119, AV.bad), (128, AV.bad), (153, AV.bad), (179, AV.bad)] [] [] false) k))) : Prop) := by kernel_rfl
theorem a1in (N fuel n m : Nat) (lv nt : List Int) (may s : Int) (out : Bool) (q : Int) (k : AV → Heap → Bool → Prop) :
 (resPS (S F) T3 N 9 fuel 3 2 0 [(q31a, m + 1)] p31 n ⟨M1a lv (LV nt) .nils may s out q, [], [], false⟩ k) =
 ((cond (decide (q < (↑(List.length (row encZ nt)) : Int)))
 (cond (out)
 (resPS (S F) T3 N 9 fuel 3 2 0 [(q31a, m)] p31 n (St.mk [(0, AV.isl 1 (row encZ lv)), (1, AV.isl 1 (row encZ nt)), (4, AV.bad), (5, AV.nils), (6, AV.int IntKind.i64 may), (7, AV.int IntKind.i64 s), (8, AV.bool true), (9, AV.int IntKind.i64 (IntKind.wrap IntKind.i64 (q + 1))), (10, AV.bad), (11, AV.bad), (12, AV.bad), (13, AV.bad), (14, AV.bad), (22, AV.bad), (30, AV.bad), (41, AV.bad), (53, AV.bad), (57, AV.bad), (65, AV.bad), (72, AV.bad), (76, AV.bad), (92, AV.bad), (119, AV.bad), (128, AV.bad), (153, AV.bad), (179, AV.bad)] [] [] false) k)
 (cond (decide (0 ≤ q))
 (cond (AV.isIntK (Option.getD (row encZ nt)[Int.toNat q]? AV.bad) IntKind.i64)
 (resPS (S F) T3 N 9 fuel 3 2 0 [(q31a, m)] p31 n (St.mk [(0, AV.isl 1 (row encZ lv)), (1, AV.isl 1 (row encZ nt)), (4, AV.bad), (5, AV.nils), (6, AV.int IntKind.i64 may), (7, AV.int IntKind.i64 s), (8, AV.bool (AV.toInt (Option.getD (row encZ nt)[Int.toNat q]? AV.bad) == s)), (9, AV.int IntKind.i64 (IntKind.wrap IntKind.i64 (q + 1))), (10, AV.bad), (11, AV.bad), (12, AV.bad), (13, AV.bad), (14, AV.bad), (22, AV.bad), (30, AV.bad), (41, AV.bad), (53, AV.bad), (57, AV.bad), (65, AV.bad), (72, AV.bad), (76, AV.bad), (92, AV.bad), (119, AV.bad), (128, AV.bad), (153, AV.bad), (179, AV.bad)] [] [] false) k)
 (False))
 (False)))
 (cond (out)
 (resPS (S F) T3 N 9 fuel 3 2 0 [(q31b, fuel)] p31 n (St.mk [(0, AV.isl 1 (row encZ lv)), (1, AV.isl 1 (row encZ nt)), (4, AV.bad), (5, AV.nils), (6, AV.int IntKind.i64 may), (7, AV.int IntKind.i64 s), (8, AV.bad), (9, AV.bad), (10, AV.int IntKind.i64 0), (11, AV.bad), (12, AV.bad), (13, AV.bad), (14, AV.bad), (22, AV.bad), (30, AV.bad), (41, AV.bad), (53, AV.bad), (57, AV.bad), (65, AV.bad), (72, AV.bad), (76, AV.bad), (92, AV.bad), (119, AV.bad), (128, AV.bad), (153, AV.bad), (179, AV.bad)] [] [] false) k)
 (resPS (S F) T3 N 9 fuel 3 2 0 [] p31 n (St.mk [(0, AV.isl 1 (row encZ lv)), (1, AV.isl 1 (row encZ nt)), (4, AV.bad), (5, AV.nils), (6, AV.int IntKind.i64 (IntKind.wrap IntKind.i64 (may + 1))), (7, AV.int IntKind.i64 (IntKind.wrap IntKind.i64 (s + 1))), (8, AV.bad), (9, AV.bad), (10, AV.bad), (11, AV.bad), (12, AV.bad), (13, AV.bad), (14, AV.bad), (22, AV.bad), (30, AV.bad), (41, AV.bad), (53, AV.bad), (57, AV.bad), (65, AV.bad), (72, AV.bad), (76, AV.bad), (92, AV.bad), (119, AV.bad), (128, AV.bad), (153, AV.bad), (179, AV.bad)] [] [] false) k))) : Prop) := by kernel_rfl
theorem b1in (N fuel n m : Nat) (lv nt : List Int) (may s : Int) (k : AV → Heap → Bool → Prop) :
 (resPS (S F) T3 N 9 fuel 3 2 0 [(q31b, m + 1)] p31 n ⟨M1b lv (LV nt) .nils may s 0, [], [], false⟩ k) =
 ((resPS (S F) T3 N 9 fuel 3 2 0 [] p31 n (St.mk [(0, AV.isl 1 (row encZ lv)), (1, AV.isl 1 (row encZ nt)), (4, AV.bad), (5, AV.nils), (6, AV.int IntKind.i64 may), (7, AV.int IntKind.i64 (IntKind.wrap IntKind.i64 (s + 1))), (8, AV.bad), (9, AV.bad), (10, AV.bad), (11, AV.bad), (12, AV.bad), (13, AV.bad), (14, AV.bad), (22, AV.bad), (30, AV.bad), (41, AV.bad), (53, AV.bad), (57, AV.bad), (65, AV.bad), (72, AV.bad), (76, AV.bad), (92, AV.bad), (119, AV.bad), (128, AV.bad), (153, AV.bad), (179, AV.bad)] [] [] false) k) : Prop) := by kernel_rfl
theorem s2in (N fuel n : Nat) (lv nt : List Int) (k : AV → Heap → Bool → Prop) :
 (resPS (S F) T3 N 9 fuel 3 2 0 [] p32 (n + 1) ⟨M2 lv (LV nt) .nils 0, [], [], false⟩ k) =
 ((resPS (S F) T3 N 9 fuel 3 2 0 [] p33 fuel (St.mk [(0, AV.isl 1 (row encZ lv)), (1, AV.isl 1 (row encZ nt)), (4, AV.bad), (5, AV.nils), (6, AV.bad), (7, AV.bad), (8, AV.bad), (9, AV.bad), (10, AV.bad), (11, AV.bad), (12, AV.int IntKind.i64 0), (13, AV.bad), (14, AV.bad), (22, AV.bad), (30, AV.bad), (41, AV.bad), (53, AV.bad), (57, AV.bad), (65, AV.bad), (72, AV.bad), (76, AV.bad), (92, AV.bad), (119, AV.bad), (128, AV.bad), (153, AV.bad), (179, AV.bad)] [] [] false) k) : Prop) := by kernel_rfl
theorem s3in (N fuel n : Nat) (lv nt : List Int) (s : Int) (k : AV → Heap → Bool → Prop) :
 (resPS (S F) T3 N 9 fuel 3 2 0 [] p33 (n + 1) ⟨M3 lv (LV nt) .nils s, [], [], false⟩ k) =
 ((cond (decide (s < (↑(List.length (row encZ lv)) : Int)))
 (And (([] : List AV) = [])
 (k (AV.bool true) [] false))
 (And (([] : List AV) = [])
 (k (AV.bool true) [] false))) : Prop) := by kernel_rfl
theorem a3in (N fuel n m : Nat) (lv nt : List Int) (s : Int) (out : Bool) (q : Int) (k : AV → Heap → Bool → Prop) :
 (resPS (S F) T3 N 9 fuel 3 2 0 [(q33, m + 1)] p33 n ⟨M3a lv (LV nt) .nils s out q, [], [], false⟩ k) =
 ((cond (decide (q < (↑(List.length (row encZ nt)) : Int)))
 (cond (out)
 (resPS (S F) T3 N 9 fuel 3 2 0 [(q33, m)] p33 n (St.mk [(0, AV.isl 1 (row encZ lv)), (1, AV.isl 1 (row encZ nt)), (4, AV.bad), (5, AV.nils), (6, AV.bad), (7, AV.bad), (8, AV.bad), (9, AV.bad), (10, AV.bad), (11, AV.bad), (12, AV.int IntKind.i64 s), (13, AV.bool true), (14, AV.int IntKind.i64 (IntKind.wrap IntKind.i64 (q + 1))), (22, AV.bad), (30, AV.bad), (41, AV.bad), (53, AV.bad), (57, AV.bad), (65, AV.bad), (72, AV.bad), (76, AV.bad), (92, AV.bad), (119, AV.bad), (128, AV.bad), (153, AV.bad), (179, AV.bad)] [] [] false) k)
 (cond (decide (0 ≤ q))
 (cond (AV.isIntK (Option.getD (row encZ nt)[Int.toNat q]? AV.bad) IntKind.i64)
 (resPS (S F) T3 N 9 fuel 3 2 0 [(q33, m)] p33 n (St.mk [(0, AV.isl 1 (row encZ lv)), (1, AV.isl 1 (row encZ nt)), (4, AV.bad), (5, AV.nils), (6, AV.bad), (7, AV.bad), (8, AV.bad), (9, AV.bad), (10, AV.bad), (11, AV.bad), (12, AV.int IntKind.i64 s), (13, AV.bool (AV.toInt (Option.getD (row encZ nt)[Int.toNat q]? AV.bad) == s)), (14, AV.int IntKind.i64 (IntKind.wrap IntKind.i64 (q + 1))), (22, AV.bad), (30, AV.bad), (41, AV.bad), (53, AV.bad), (57, AV.bad), (65, AV.bad), (72, AV.bad), (76, AV.bad), (92, AV.bad), (119, AV.bad), (128, AV.bad), (153, AV.bad), (179, AV.bad)] [] [] false) k)
 (False))
 (False)))
 (cond (!out)
 (cond (decide (0 ≤ s))
 (cond (AV.isIntK (Option.getD (row encZ lv)[Int.toNat s]? AV.bad) IntKind.i64)
 (False)
 (False))
 (False))
 (resPS (S F) T3 N 9 fuel 3 2 0 [] p33 n (St.mk [(0, AV.isl 1 (row encZ lv)), (1, AV.isl 1 (row encZ nt)), (4, AV.bad), (5, AV.nils), (6, AV.bad), (7, AV.bad), (8, AV.bad), (9, AV.bad), (10, AV.bad), (11, AV.bad), (12, AV.int IntKind.i64 (IntKind.wrap IntKind.i64 (s + 1))), (13, AV.bad), (14, AV.bad), (22, AV.bad), (30, AV.bad), (41, AV.bad), (53, AV.bad), (57, AV.bad), (65, AV.bad), (72, AV.bad), (76, AV.bad), (92, AV.bad), (119, AV.bad), (128, AV.bad), (153, AV.bad), (179, AV.bad)] [] [] false) k))) : Prop) := by kernel_rfl
theorem s1is (N fuel n : Nat) (lv nt : List Int) (l2 : List Int) (may s : Int) (k : AV → Heap → Bool → Prop) :
 (resPS (S F) T3 N 9 fuel 3 2 0 [] p31 (n + 1) ⟨M1 lv (LV nt) (.sl ⟨3, 0, [], l2.length⟩ 1 l2.length 0 l2.length) may s, [], HR l2, false⟩ k) =
 ((cond (decide (s < (↑(List.length (row encZ lv)) : Int)))
 (cond (decide (0 ≤ s))
 (cond (AV.isIntK (Option.getD (row encZ lv)[Int.toNat s]? AV.bad) IntKind.i64)
 (resPS (S F) T3 N 9 fuel 3 2 0 [(q31a, fuel)] p31 n (St.mk [(0, AV.isl 1 (row encZ lv)), (1, AV.isl 1 (row encZ nt)), (4, AV.bad), (5, AV.sl (Pl.mk 3 0 [] (List.length l2)) 1 (List.length l2) 0 (List.length l2)), (6, AV.int IntKind.i64 may), (7, AV.int IntKind.i64 s), (8, AV.bool (decide (AV.toInt (Option.getD (row encZ lv)[Int.toNat s]? AV.bad) < 0))), (9, AV.int IntKind.i64 0), (10, AV.bad), (11, AV.bad), (12, AV.bad), (13, AV.bad), (14, AV.bad), (22, AV.bad), (30, AV.bad), (41, AV.bad), (53, AV.bad), (57, AV.bad), (65, AV.bad), (72, AV.bad), (76, AV.bad), (92, AV.bad), (119, AV.bad), (128, AV.bad), (153, AV.bad), (179, AV.bad)] [] (HR l2) false) k)
 (False))
 (False))
 (cond (!(↑(List.length l2) : Int) == if may < 2 then may else (2 : Int))
 (k (AV.bool false) [] false)
 (resPS (S F) T3 N 9 fuel 3 2 0 [] p32 fuel (St.mk [(0, AV.isl 1 (row encZ lv)), (1, AV.isl 1 (row encZ nt)), (4, AV.bad), (5, AV.sl (Pl.mk 3 0 [] (List.length l2)) 1 (List.length l2) 0 (List.length l2)), (6, AV.bad), (7, AV.bad), (8, AV.bad), (9, AV.bad), (10, AV.bad), (11, AV.int IntKind.i64 0), (12, AV.bad), (13, AV.bad), (14, AV.bad), (22, AV.bad), (30, AV.bad), (41, AV.bad), (53, AV.bad), (57, AV.bad), (65, AV.bad), (72, AV.bad), (76, AV.bad), (92, AV.bad), (119, AV.bad), (128, AV.bad), (153, AV.bad), (179, AV.bad)] [] (HR l2) false) k))) : Prop) := by kernel_rfl
theorem a1is (N fuel n m : Nat) (lv nt : List Int) (l2 : List Int) (may s : Int) (out : Bool) (q : Int) (k : AV → Heap → Bool → Prop) :
 (resPS (S F) T3 N 9 fuel 3 2 0 [(q31a, m + 1)] p31 n ⟨M1a lv (LV nt) (.sl ⟨3, 0, [], l2.length⟩ 1 l2.length 0 l2.length) may s out q, [], HR l2, false⟩ k) =
 ((cond (decide (q < (↑(List.length (row encZ nt)) : Int)))
 (cond (out)
 (resPS (S F) T3 N 9 fuel 3 2 0 [(q31a, m)] p31 n (St.mk [(0, AV.isl 1 (row encZ lv)), (1, AV.isl 1 (row encZ nt)), (4, AV.bad), (5, AV.sl (Pl.mk 3 0 [] (List.length l2)) 1 (List.length l2) 0 (List.length l2)), (6, AV.int IntKind.i64 may), (7, AV.int IntKind.i64 s), (8, AV.bool true), (9, AV.int IntKind.i64 (IntKind.wrap IntKind.i64 (q + 1))), (10, AV.bad), (11, AV.bad), (12, AV.bad), (13, AV.bad), (14, AV.bad), (22, AV.bad), (30, AV.bad), (41, AV.bad), (53, AV.bad), (57, AV.bad), (65, AV.bad), (72, AV.bad), (76, AV.bad), (92, AV.bad), (119, AV.bad), (128, AV.bad), (153, AV.bad), (179, AV.bad)] [] (HR l2) false) k)
 (cond (decide (0 ≤ q))
 (cond (AV.isIntK (Option.getD (row encZ nt)[Int.toNat q]? AV.bad) IntKind.i64)
 (resPS (S F) T3 N 9 fuel 3 2 0 [(q31a, m)] p31 n (St.mk [(0, AV.isl 1 (row encZ lv)), (1, AV.isl 1 (row encZ nt)), (4, AV.bad), (5, AV.sl (Pl.mk 3 0 [] (List.length l2)) 1 (List.length l2) 0 (List.length l2)), (6, AV.int IntKind.i64 may), (7, AV.int IntKind.i64 s), (8, AV.bool (AV.toInt (Option.getD (row encZ nt)[Int.toNat q]? AV.bad) == s)), (9, AV.int IntKind.i64 (IntKind.wrap IntKind.i64 (q + 1))), (10, AV.bad), (11, AV.bad), (12, AV.bad), (13, AV.bad), (14, AV.bad), (22, AV.bad), (30, AV.bad), (41, AV.bad), (53, AV.bad), (57, AV.bad), (65, AV.bad), (72, AV.bad), (76, AV.bad), (92, AV.bad), (119, AV.bad), (128, AV.bad), (153, AV.bad), (179, AV.bad)] [] (HR l2) false) k)
 (False))
 (False)))
 (cond (out)
 (resPS (S F) T3 N 9 fuel 3 2 0 [(q31b, fuel)] p31 n (St.mk [(0, AV.isl 1 (row encZ lv)), (1, AV.isl 1 (row encZ nt)), (4, AV.bad), (5, AV.sl (Pl.mk 3 0 [] (List.length l2)) 1 (List.length l2) 0 (List.length l2)), (6, AV.int IntKind.i64 may), (7, AV.int IntKind.i64 s), (8, AV.bad), (9, AV.bad), (10, AV.int IntKind.i64 0), (11, AV.bad), (12, AV.bad), (13, AV.bad), (14, AV.bad), (22, AV.bad), (30, AV.bad), (41, AV.bad), (53, AV.bad), (57, AV.bad), (65, AV.bad), (72, AV.bad), (76, AV.bad), (92, AV.bad), (119, AV.bad), (128, AV.bad), (153, AV.bad), (179, AV.bad)] [] (HR l2) false) k)
 (resPS (S F) T3 N 9 fuel 3 2 0 [] p31 n (St.mk [(0, AV.isl 1 (row encZ lv)), (1, AV.isl 1 (row encZ nt)), (4, AV.bad), (5, AV.sl (Pl.mk 3 0 [] (List.length l2)) 1 (List.length l2) 0 (List.length l2)), (6, AV.int IntKind.i64 (IntKind.wrap IntKind.i64 (may + 1))), (7, AV.int IntKind.i64 (IntKind.wrap IntKind.i64 (s + 1))), (8, AV.bad), (9, AV.bad), (10, AV.bad), (11, AV.bad), (12, AV.bad), (13, AV.bad), (14, AV.bad), (22, AV.bad), (30, AV.bad), (41, AV.bad), (53, AV.bad), (57, AV.bad), (65, AV.bad), (72, AV.bad), (76, AV.bad), (92, AV.bad), (119, AV.bad), (128, AV.bad), (153, AV.bad), (179, AV.bad)] [] (HR l2) false) k))) : Prop) := by kernel_rfl
theorem b1is (N fuel n m : Nat) (lv nt : List Int) (l2 : List Int) (may s : Int) (q : Int) (k : AV → Heap → Bool → Prop) :
 (resPS (S F) T3 N 9 fuel 3 2 0 [(q31b, m + 1)] p31 n ⟨M1b lv (LV nt) (.sl ⟨3, 0, [], l2.length⟩ 1 l2.length 0 l2.length) may s q, [], HR l2, false⟩ k) =
 ((cond (decide (q < (↑(List.length l2) : Int)))
 (cond (decide (0 ≤ q))
 (cond (decide (Int.toNat q < List.length l2))
 (cond (okAt (AV.arr 1 (row encZ l2)) [0 + Int.toNat q] (0 + (0 + Int.toNat q) * 1) (List.length l2) false 1)
 (cond (AV.isIntK (projT [0 + Int.toNat q] (AV.arr 1 (row encZ l2))) IntKind.i64)
 (cond (AV.toInt (projT [0 + Int.toNat q] (AV.arr 1 (row encZ l2))) == s)
 (k (AV.bool false) [] false)
 (resPS (S F) T3 N 9 fuel 3 2 0 [(q31b, m)] p31 n (St.mk [(0, AV.isl 1 (row encZ lv)), (1, AV.isl 1 (row encZ nt)), (4, AV.bad), (5, AV.sl (Pl.mk 3 0 [] (List.length l2)) 1 (List.length l2) 0 (List.length l2)), (6, AV.int IntKind.i64 may), (7, AV.int IntKind.i64 s), (8, AV.bad), (9, AV.bad), (10, AV.int IntKind.i64 (IntKind.wrap IntKind.i64 (q + 1))), (11, AV.bad), (12, AV.bad), (13, AV.bad), (14, AV.bad), (22, AV.bad), (30, AV.bad), (41, AV.bad), (53, AV.bad), (57, AV.bad), (65, AV.bad), (72, AV.bad), (76, AV.bad), (92, AV.bad), (119, AV.bad), (128, AV.bad), (153, AV.bad), (179, AV.bad)] [] (HR l2) false) k))
 (False))
 (False))
 (False))
 (False))
 (resPS (S F) T3 N 9 fuel 3 2 0 [] p31 n (St.mk [(0, AV.isl 1 (row encZ lv)), (1, AV.isl 1 (row encZ nt)), (4, AV.bad), (5, AV.sl (Pl.mk 3 0 [] (List.length l2)) 1 (List.length l2) 0 (List.length l2)), (6, AV.int IntKind.i64 may), (7, AV.int IntKind.i64 (IntKind.wrap IntKind.i64 (s + 1))), (8, AV.bad), (9, AV.bad), (10, AV.bad), (11, AV.bad), (12, AV.bad), (13, AV.bad), (14, AV.bad), (22, AV.bad), (30, AV.bad), (41, AV.bad), (53, AV.bad), (57, AV.bad), (65, AV.bad), (72, AV.bad), (76, AV.bad), (92, AV.bad), (119, AV.bad), (128, AV.bad), (153, AV.bad), (179, AV.bad)] [] (HR l2) false) k)) : Prop) := by kernel_rfl
theorem s2is (N fuel n : Nat) (lv nt : List Int) (l2 : List Int) (q : Int) (k : AV → Heap → Bool → Prop) :
 (resPS (S F) T3 N 9 fuel 3 2 0 [] p32 (n + 1) ⟨M2 lv (LV nt) (.sl ⟨3, 0, [], l2.length⟩ 1 l2.length 0 l2.length) q, [], HR l2, false⟩ k) =
 ((cond (decide (q < (↑(List.length l2) : Int)))
 (cond (decide (0 ≤ q))
 (cond (decide (Int.toNat q < List.length l2))
 (cond (okAt (AV.arr 1 (row encZ l2)) [0 + Int.toNat q] (0 + (0 + Int.toNat q) * 1) (List.length l2) false 1)
 (cond (AV.isIntK (projT [0 + Int.toNat q] (AV.arr 1 (row encZ l2))) IntKind.i64)
 (cond (decide (AV.toInt (projT [0 + Int.toNat q] (AV.arr 1 (row encZ l2))) < 0))
 (k (AV.bool false) [] false)
 (cond (decide (0 ≤ q))
 (cond (decide (Int.toNat q < List.length l2))
 (cond (okAt (AV.arr 1 (row encZ l2)) [0 + Int.toNat q] (0 + (0 + Int.toNat q) * 1) (List.length l2) false 1)
 (cond (AV.isIntK (projT [0 + Int.toNat q] (AV.arr 1 (row encZ l2))) IntKind.i64)
 (cond (decide (AV.toInt (projT [0 + Int.toNat q] (AV.arr 1 (row encZ l2))) ≥ (↑(List.length (row encZ lv)) : Int)))
 (k (AV.bool false) [] false)
 (resPS (S F) T3 N 9 fuel 3 2 0 [] p32 n (St.mk [(0, AV.isl 1 (row encZ lv)), (1, AV.isl 1 (row encZ nt)), (4, AV.bad), (5, AV.sl (Pl.mk 3 0 [] (List.length l2)) 1 (List.length l2) 0 (List.length l2)), (6, AV.bad), (7, AV.bad), (8, AV.bad), (9, AV.bad), (10, AV.bad), (11, AV.int IntKind.i64 (IntKind.wrap IntKind.i64 (q + 1))), (12, AV.bad), (13, AV.bad), (14, AV.bad), (22, AV.bad), (30, AV.bad), (41, AV.bad), (53, AV.bad), (57, AV.bad), (65, AV.bad), (72, AV.bad), (76, AV.bad), (92, AV.bad), (119, AV.bad), (128, AV.bad), (153, AV.bad), (179, AV.bad)] [] (HR l2) false) k))
 (False))
 (False))
 (False))
 (False)))
 (False))
 (False))
 (False))
 (False))
 (cond ((↑(List.length l2) : Int) == 2)
 (cond (decide (0 < List.length l2))
 (cond (okAt (AV.arr 1 (row encZ l2)) [0] 0 (List.length l2) false 1)
 (cond (AV.isIntK (projT [0] (AV.arr 1 (row encZ l2))) IntKind.i64)
 (cond (decide (1 < List.length l2))
 (cond (okAt (AV.arr 1 (row encZ l2)) [1] 1 (List.length l2) false 1)
 (cond (AV.isIntK (projT [1] (AV.arr 1 (row encZ l2))) IntKind.i64)
 (cond (AV.toInt (projT [0] (AV.arr 1 (row encZ l2))) == AV.toInt (projT [1] (AV.arr 1 (row encZ l2))))
 (k (AV.bool false) [] false)
 (cond (decide (0 < List.length l2))
 (cond (okAt (AV.arr 1 (row encZ l2)) [0] 0 (List.length l2) false 1)
 (cond (AV.isIntK (projT [0] (AV.arr 1 (row encZ l2))) IntKind.i64)
 (cond (decide (0 ≤ AV.toInt (projT [0] (AV.arr 1 (row encZ l2)))))
 (cond (AV.isIntK (Option.getD (row encZ lv)[Int.toNat (AV.toInt (projT [0] (AV.arr 1 (row encZ l2))))]? AV.bad) IntKind.i64)
 (cond (decide (1 < List.length l2))
 (cond (okAt (AV.arr 1 (row encZ l2)) [1] 1 (List.length l2) false 1)
 (cond (AV.isIntK (projT [1] (AV.arr 1 (row encZ l2))) IntKind.i64)
 (cond (decide (0 ≤ AV.toInt (projT [1] (AV.arr 1 (row encZ l2)))))
 (cond (AV.isIntK (Option.getD (row encZ lv)[Int.toNat (AV.toInt (projT [1] (AV.arr 1 (row encZ l2))))]? AV.bad) IntKind.i64)
 (cond (decide (AV.toInt (Option.getD (row encZ lv)[Int.toNat (AV.toInt (projT [0] (AV.arr 1 (row encZ l2))))]? AV.bad) > AV.toInt (Option.getD (row encZ lv)[Int.toNat (AV.toInt (projT [1] (AV.arr 1 (row encZ l2))))]? AV.bad)))
 (k (AV.bool false) [] false)
 (resPS (S F) T3 N 9 fuel 3 2 0 [] p33 fuel (St.mk [(0, AV.isl 1 (row encZ lv)), (1, AV.isl 1 (row encZ nt)), (4, AV.bad), (5, AV.sl (Pl.mk 3 0 [] (List.length l2)) 1 (List.length l2) 0 (List.length l2)), (6, AV.bad), (7, AV.bad), (8, AV.bad), (9, AV.bad), (10, AV.bad), (11, AV.bad), (12, AV.int IntKind.i64 0), (13, AV.bad), (14, AV.bad), (22, AV.bad), (30, AV.bad), (41, AV.bad), (53, AV.bad), (57, AV.bad), (65, AV.bad), (72, AV.bad), (76, AV.bad), (92, AV.bad), (119, AV.bad), (128, AV.bad), (153, AV.bad), (179, AV.bad)] [] (HR l2) false) k))
 (False))
 (False))
 (False))
 (False))
 (False))
 (False))
 (False))
 (False))
 (False))
 (False)))
 (False))
 (False))
 (False))
 (False))
 (False))
 (False))
 (resPS (S F) T3 N 9 fuel 3 2 0 [] p33 fuel (St.mk [(0, AV.isl 1 (row encZ lv)), (1, AV.isl 1 (row encZ nt)), (4, AV.bad), (5, AV.sl (Pl.mk 3 0 [] (List.length l2)) 1 (List.length l2) 0 (List.length l2)), (6, AV.bad), (7, AV.bad), (8, AV.bad), (9, AV.bad), (10, AV.bad), (11, AV.bad), (12, AV.int IntKind.i64 0), (13, AV.bad), (14, AV.bad), (22, AV.bad), (30, AV.bad), (41, AV.bad), (53, AV.bad), (57, AV.bad), (65, AV.bad), (72, AV.bad), (76, AV.bad), (92, AV.bad), (119, AV.bad), (128, AV.bad), (153, AV.bad), (179, AV.bad)] [] (HR l2) false) k))) : Prop) := by kernel_rfl
theorem s3is (N fuel n : Nat) (lv nt : List Int) (l2 : List Int) (s : Int) (k : AV → Heap → Bool → Prop) :
 (resPS (S F) T3 N 9 fuel 3 2 0 [] p33 (n + 1) ⟨M3 lv (LV nt) (.sl ⟨3, 0, [], l2.length⟩ 1 l2.length 0 l2.length) s, [], HR l2, false⟩ k) =
 ((cond (decide (s < (↑(List.length (row encZ lv)) : Int)))
 (cond ((↑(List.length l2) : Int) == 2)
 (cond (decide (0 ≤ s))
 (cond (AV.isIntK (Option.getD (row encZ lv)[Int.toNat s]? AV.bad) IntKind.i64)
 (cond (decide (AV.toInt (Option.getD (row encZ lv)[Int.toNat s]? AV.bad) < 0))
 (resPS (S F) T3 N 9 fuel 3 2 0 [(q33, fuel)] p33 n (St.mk [(0, AV.isl 1 (row encZ lv)), (1, AV.isl 1 (row encZ nt)), (4, AV.bad), (5, AV.sl (Pl.mk 3 0 [] (List.length l2)) 1 (List.length l2) 0 (List.length l2)), (6, AV.bad), (7, AV.bad), (8, AV.bad), (9, AV.bad), (10, AV.bad), (11, AV.bad), (12, AV.int IntKind.i64 s), (13, AV.bool true), (14, AV.int IntKind.i64 0), (22, AV.bad), (30, AV.bad), (41, AV.bad), (53, AV.bad), (57, AV.bad), (65, AV.bad), (72, AV.bad), (76, AV.bad), (92, AV.bad), (119, AV.bad), (128, AV.bad), (153, AV.bad), (179, AV.bad)] [] (HR l2) false) k)
 (cond (decide (0 < List.length l2))
 (cond (okAt (AV.arr 1 (row encZ l2)) [0] 0 (List.length l2) false 1)
 (cond (AV.isIntK (projT [0] (AV.arr 1 (row encZ l2))) IntKind.i64)
 (cond (s == AV.toInt (projT [0] (AV.arr 1 (row encZ l2))))
 (resPS (S F) T3 N 9 fuel 3 2 0 [(q33, fuel)] p33 n (St.mk [(0, AV.isl 1 (row encZ lv)), (1, AV.isl 1 (row encZ nt)), (4, AV.bad), (5, AV.sl (Pl.mk 3 0 [] (List.length l2)) 1 (List.length l2) 0 (List.length l2)), (6, AV.bad), (7, AV.bad), (8, AV.bad), (9, AV.bad), (10, AV.bad), (11, AV.bad), (12, AV.int IntKind.i64 s), (13, AV.bool true), (14, AV.int IntKind.i64 0), (22, AV.bad), (30, AV.bad), (41, AV.bad), (53, AV.bad), (57, AV.bad), (65, AV.bad), (72, AV.bad), (76, AV.bad), (92, AV.bad), (119, AV.bad), (128, AV.bad), (153, AV.bad), (179, AV.bad)] [] (HR l2) false) k)
 (cond (decide (1 < List.length l2))
 (cond (okAt (AV.arr 1 (row encZ l2)) [1] 1 (List.length l2) false 1)
 (cond (AV.isIntK (projT [1] (AV.arr 1 (row encZ l2))) IntKind.i64)
 (resPS (S F) T3 N 9 fuel 3 2 0 [(q33, fuel)] p33 n (St.mk [(0, AV.isl 1 (row encZ lv)), (1, AV.isl 1 (row encZ nt)), (4, AV.bad), (5, AV.sl (Pl.mk 3 0 [] (List.length l2)) 1 (List.length l2) 0 (List.length l2)), (6, AV.bad), (7, AV.bad), (8, AV.bad), (9, AV.bad), (10, AV.bad), (11, AV.bad), (12, AV.int IntKind.i64 s), (13, AV.bool (s == AV.toInt (projT [1] (AV.arr 1 (row encZ l2))))), (14, AV.int IntKind.i64 0), (22, AV.bad), (30, AV.bad), (41, AV.bad), (53, AV.bad), (57, AV.bad), (65, AV.bad), (72, AV.bad), (76, AV.bad), (92, AV.bad), (119, AV.bad), (128, AV.bad), (153, AV.bad), (179, AV.bad)] [] (HR l2) false) k)
 (False))
 (False))
 (False)))
 (False))
 (False))
 (False)))
 (False))
 (False))
 (And (([] : List AV) = [])
 (k (AV.bool true) [] false)))
 (And (([] : List AV) = [])
 (k (AV.bool true) [] false))) : Prop) := by kernel_rfl
theorem a3is (N fuel n m : Nat) (lv nt : List Int) (l2 : List Int) (s : Int) (out : Bool) (q : Int) (k : AV → Heap → Bool → Prop) :
 (resPS (S F) T3 N 9 fuel 3 2 0 [(q33, m + 1)] p33 n ⟨M3a lv (LV nt) (.sl ⟨3, 0, [], l2.length⟩ 1 l2.length 0 l2.length) s out q, [], HR l2, false⟩ k) =
 ((cond (decide (q < (↑(List.length (row encZ nt)) : Int)))
 (cond (out)
 (resPS (S F) T3 N 9 fuel 3 2 0 [(q33, m)] p33 n (St.mk [(0, AV.isl 1 (row encZ lv)), (1, AV.isl 1 (row encZ nt)), (4, AV.bad), (5, AV.sl (Pl.mk 3 0 [] (List.length l2)) 1 (List.length l2) 0 (List.length l2)), (6, AV.bad), (7, AV.bad), (8, AV.bad), (9, AV.bad), (10, AV.bad), (11, AV.bad), (12, AV.int IntKind.i64 s), (13, AV.bool true), (14, AV.int IntKind.i64 (IntKind.wrap IntKind.i64 (q + 1))), (22, AV.bad), (30, AV.bad), (41, AV.bad), (53, AV.bad), (57, AV.bad), (65, AV.bad), (72, AV.bad), (76, AV.bad), (92, AV.bad), (119, AV.bad), (128, AV.bad), (153, AV.bad), (179, AV.bad)] [] (HR l2) false) k)
 (cond (decide (0 ≤ q))
 (cond (AV.isIntK (Option.getD (row encZ nt)[Int.toNat q]? AV.bad) IntKind.i64)
 (resPS (S F) T3 N 9 fuel 3 2 0 [(q33, m)] p33 n (St.mk [(0, AV.isl 1 (row encZ lv)), (1, AV.isl 1 (row encZ nt)), (4, AV.bad), (5, AV.sl (Pl.mk 3 0 [] (List.length l2)) 1 (List.length l2) 0 (List.length l2)), (6, AV.bad), (7, AV.bad), (8, AV.bad), (9, AV.bad), (10, AV.bad), (11, AV.bad), (12, AV.int IntKind.i64 s), (13, AV.bool (AV.toInt (Option.getD (row encZ nt)[Int.toNat q]? AV.bad) == s)), (14, AV.int IntKind.i64 (IntKind.wrap IntKind.i64 (q + 1))), (22, AV.bad), (30, AV.bad), (41, AV.bad), (53, AV.bad), (57, AV.bad), (65, AV.bad), (72, AV.bad), (76, AV.bad), (92, AV.bad), (119, AV.bad), (128, AV.bad), (153, AV.bad), (179, AV.bad)] [] (HR l2) false) k)
 (False))
 (False)))
 (cond (!out)
 (cond (decide (0 ≤ s))
 (cond (AV.isIntK (Option.getD (row encZ lv)[Int.toNat s]? AV.bad) IntKind.i64)
 (cond (decide (1 < List.length l2))
 (cond (okAt (AV.arr 1 (row encZ l2)) [1] 1 (List.length l2) false 1)
 (cond (AV.isIntK (projT [1] (AV.arr 1 (row encZ l2))) IntKind.i64)
 (cond (decide (0 ≤ AV.toInt (projT [1] (AV.arr 1 (row encZ l2)))))
 (cond (AV.isIntK (Option.getD (row encZ lv)[Int.toNat (AV.toInt (projT [1] (AV.arr 1 (row encZ l2))))]? AV.bad) IntKind.i64)
 (cond (decide (AV.toInt (Option.getD (row encZ lv)[Int.toNat s]? AV.bad) < AV.toInt (Option.getD (row encZ lv)[Int.toNat (AV.toInt (projT [1] (AV.arr 1 (row encZ l2))))]? AV.bad)))
 (k (AV.bool false) [] false)
 (resPS (S F) T3 N 9 fuel 3 2 0 [] p33 n (St.mk [(0, AV.isl 1 (row encZ lv)), (1, AV.isl 1 (row encZ nt)), (4, AV.bad), (5, AV.sl (Pl.mk 3 0 [] (List.length l2)) 1 (List.length l2) 0 (List.length l2)), (6, AV.bad), (7, AV.bad), (8, AV.bad), (9, AV.bad), (10, AV.bad), (11, AV.bad), (12, AV.int IntKind.i64 (IntKind.wrap IntKind.i64 (s + 1))), (13, AV.bad), (14, AV.bad), (22, AV.bad), (30, AV.bad), (41, AV.bad), (53, AV.bad), (57, AV.bad), (65, AV.bad), (72, AV.bad), (76, AV.bad), (92, AV.bad), (119, AV.bad), (128, AV.bad), (153, AV.bad), (179, AV.bad)] [] (HR l2) false) k))
 (False))
 (False))
 (False))
 (False))
 (False))
 (False))
 (False))
 (resPS (S F) T3 N 9 fuel 3 2 0 [] p33 n (St.mk [(0, AV.isl 1 (row encZ lv)), (1, AV.isl 1 (row encZ nt)), (4, AV.bad), (5, AV.sl (Pl.mk 3 0 [] (List.length l2)) 1 (List.length l2) 0 (List.length l2)), (6, AV.bad), (7, AV.bad), (8, AV.bad), (9, AV.bad), (10, AV.bad), (11, AV.bad), (12, AV.int IntKind.i64 (IntKind.wrap IntKind.i64 (s + 1))), (13, AV.bad), (14, AV.bad), (22, AV.bad), (30, AV.bad), (41, AV.bad), (53, AV.bad), (57, AV.bad), (65, AV.bad), (72, AV.bad), (76, AV.bad), (92, AV.bad), (119, AV.bad), (128, AV.bad), (153, AV.bad), (179, AV.bad)] [] (HR l2) false) k))) : Prop) := by kernel_rfl
theorem start3j (N fuel : Nat) (lv : List Int) (k : AV → Heap → Bool → Prop) :
 (runP (S F) T3 N 9 fuel 3 [LV lv, .nils] [] k) =
 ((cond (decide ((↑(List.length (row encZ lv)) : Int) > 60))
 (And (([] : List AV) = [])
 (k (AV.bool true) [] false))
 (∃ (lv0 : List Int),
 ∃ (dn1 : Option (List Int)),
 And ([AV.isl 1 (row encZ lv), AV.nils] = [AV.isl 1 (row encZ lv0), dZ dn1])
 (And (([] : Heap) = [])
 (And (List.length lv0 < 400)
 (And (List.length (Option.getD dn1 []) < 400)
 (And (∀ (x2 : Int),
 (x2 ∈ lv0) →
 x2 < Int.ofNat 9223372036854775808)
 (∀ (l23 : List Int),
 ∀ (W4 : List Int),
 (List.Perm W4 (selF lv0 (Option.getD dn1 []) (List.length lv0) 0)) →
 (Srt lv0 W4) →
 (l23 = List.take 2 W4) →
 And ((l23 = []) →
 resPS (S F) T3 N 9 fuel 3 2 0 [] p31 fuel (St.mk [(0, AV.isl 1 (row encZ lv)), (1, AV.nils), (4, AV.bad), (5, AV.nils), (6, AV.int IntKind.i64 0), (7, AV.int IntKind.i64 0), (8, AV.bad), (9, AV.bad), (10, AV.bad), (11, AV.bad), (12, AV.bad), (13, AV.bad), (14, AV.bad), (22, AV.bad), (30, AV.bad), (41, AV.bad), (53, AV.bad), (57, AV.bad), (65, AV.bad), (72, AV.bad), (76, AV.bad), (92, AV.bad), (119, AV.bad), (128, AV.bad), (153, AV.bad), (179, AV.bad)] [] [] false) k)
 ((l23 ≠ []) →
 resPS (S F) T3 N 9 fuel 3 2 0 [] p31 fuel (St.mk [(0, AV.isl 1 (row encZ lv)), (1, AV.nils), (4, AV.bad), (5, AV.sl (Pl.mk 3 0 [] (List.length l23)) 1 (List.length l23) 0 (List.length l23)), (6, AV.int IntKind.i64 0), (7, AV.int IntKind.i64 0), (8, AV.bad), (9, AV.bad), (10, AV.bad), (11, AV.bad), (12, AV.bad), (13, AV.bad), (14, AV.bad), (22, AV.bad), (30, AV.bad), (41, AV.bad), (53, AV.bad), (57, AV.bad), (65, AV.bad), (72, AV.bad), (76, AV.bad), (92, AV.bad), (119, AV.bad), (128, AV.bad), (153, AV.bad), (179, AV.bad)] [] (HR l23) false) k)))))))) : Prop) := by kernel_rfl
theorem s1jn (N fuel n : Nat) (lv : List Int) (may s : Int) (k : AV → Heap → Bool → Prop) :
 (resPS (S F) T3 N 9 fuel 3 2 0 [] p31 (n + 1) ⟨M1 lv .nils .nils may s, [], [], false⟩ k) =
 ((cond (decide (s < (↑(List.length (row encZ lv)) : Int)))
 (cond (decide (0 ≤ s))
 (cond (AV.isIntK (Option.getD (row encZ lv)[Int.toNat s]? AV.bad) IntKind.i64)
 (resPS (S F) T3 N 9 fuel 3 2 0 [(q31a, fuel)] p31 n (St.mk [(0, AV.isl 1 (row encZ lv)), (1, AV.nils), (4, AV.bad), (5, AV.nils), (6, AV.int IntKind.i64 may), (7, AV.int IntKind.i64 s), (8, AV.bool (decide (AV.toInt (Option.getD (row encZ lv)[Int.toNat s]? AV.bad) < 0))), (9, AV.int IntKind.i64 0), (10, AV.bad), (11, AV.bad), (12, AV.bad), (13, AV.bad), (14, AV.bad), (22, AV.bad), (30, AV.bad), (41, AV.bad), (53, AV.bad), (57, AV.bad), (65, AV.bad), (72, AV.bad), (76, AV.bad), (92, AV.bad), (119, AV.bad), (128, AV.bad), (153, AV.bad), (179, AV.bad)] [] [] false) k)
 (False))
 (False))
 (cond (!(↑0 : Int) == if may < 2 then may else (2 : Int))
 (k (AV.bool false) [] false)
 (resPS (S F) T3 N 9 fuel 3 2 0 [] p32 fuel (St.mk [(0, AV.isl 1 (row encZ lv)), (1, AV.nils), (4, AV.bad), (5, AV.nils), (6, AV.bad), (7, AV.bad), (8, AV.bad), (9, AV.bad), (10, AV.bad), (11, AV.int IntKind.i64 0), (12, AV.bad), (13, AV.bad), (14, AV.bad), (22, AV.bad), (30, AV.bad), (41, AV.bad), (53, AV.bad), (57, AV.bad), (65, AV.bad), (72, AV.bad), (76, AV.bad), (92, AV.bad), (119, AV.bad), (128, AV.bad), (153, AV.bad), (179, AV.bad)] [] [] false) k))) : Prop) := by kernel_rfl
theorem a1jn (N fuel n m : Nat) (lv : List Int) (may s : Int) (out : Bool) (k : AV → Heap → Bool → Prop) :
 (resPS (S F) T3 N 9 fuel 3 2 0 [(q31a, m + 1)] p31 n ⟨M1a lv .nils .nils may s out 0, [], [], false⟩ k) =
 ((cond (out)
 (resPS (S F) T3 N 9 fuel 3 2 0 [(q31b, fuel)] p31 n (St.mk [(0, AV.isl 1 (row encZ lv)), (1, AV.nils), (4, AV.bad), (5, AV.nils), (6, AV.int IntKind.i64 may), (7, AV.int IntKind.i64 s), (8, AV.bad), (9, AV.bad), (10, AV.int IntKind.i64 0), (11, AV.bad), (12, AV.bad), (13, AV.bad), (14, AV.bad), (22, AV.bad), (30, AV.bad), (41, AV.bad), (53, AV.bad), (57, AV.bad), (65, AV.bad), (72, AV.bad), (76, AV.bad), (92, AV.bad), (119, AV.bad), (128, AV.bad), (153, AV.bad), (179, AV.bad)] [] [] false) k)
 (resPS (S F) T3 N 9 fuel 3 2 0 [] p31 n (St.mk [(0, AV.isl 1 (row encZ lv)), (1, AV.nils), (4, AV.bad), (5, AV.nils), (6, AV.int IntKind.i64 (IntKind.wrap IntKind.i64 (may + 1))), (7, AV.int IntKind.i64 (IntKind.wrap IntKind.i64 (s + 1))), (8, AV.bad), (9, AV.bad), (10, AV.bad), (11, AV.bad), (12, AV.bad), (13, AV.bad), (14, AV.bad), (22, AV.bad), (30, AV.bad), (41, AV.bad), (53, AV.bad), (57, AV.bad), (65, AV.bad), (72, AV.bad), (76, AV.bad), (92, AV.bad), (119, AV.bad), (128, AV.bad), (153, AV.bad), (179, AV.bad)] [] [] false) k)) : Prop) := by kernel_rfl
theorem b1jn (N fuel n m : Nat) (lv : List Int) (may s : Int) (k : AV → Heap → Bool → Prop) :
 (resPS (S F) T3 N 9 fuel 3 2 0 [(q31b, m + 1)] p31 n ⟨M1b lv .nils .nils may s 0, [], [], false⟩ k) =
 ((resPS (S F) T3 N 9 fuel 3 2 0 [] p31 n (St.mk [(0, AV.isl 1 (row encZ lv)), (1, AV.nils), (4, AV.bad), (5, AV.nils), (6, AV.int IntKind.i64 may), (7, AV.int IntKind.i64 (IntKind.wrap IntKind.i64 (s + 1))), (8, AV.bad), (9, AV.bad), (10, AV.bad), (11, AV.bad), (12, AV.bad), (13, AV.bad), (14, AV.bad), (22, AV.bad), (30, AV.bad), (41, AV.bad), (53, AV.bad), (57, AV.bad), (65, AV.bad), (72, AV.bad), (76, AV.bad), (92, AV.bad), (119, AV.bad), (128, AV.bad), (153, AV.bad), (179, AV.bad)] [] [] false) k) : Prop) := by kernel_rfl
theorem s2jn (N fuel n : Nat) (lv : List Int) (k : AV → Heap → Bool → Prop) :
 (resPS (S F) T3 N 9 fuel 3 2 0 [] p32 (n + 1) ⟨M2 lv .nils .nils 0, [], [], false⟩ k) =
 ((resPS (S F) T3 N 9 fuel 3 2 0 [] p33 fuel (St.mk [(0, AV.isl 1 (row encZ lv)), (1, AV.nils), (4, AV.bad), (5, AV.nils), (6, AV.bad), (7, AV.bad), (8, AV.bad), (9, AV.bad), (10, AV.bad), (11, AV.bad), (12, AV.int IntKind.i64 0), (13, AV.bad), (14, AV.bad), (22, AV.bad), (30, AV.bad), (41, AV.bad), (53, AV.bad), (57, AV.bad), (65, AV.bad), (72, AV.bad), (76, AV.bad), (92, AV.bad), (119, AV.bad), (128, AV.bad), (153, AV.bad), (179, AV.bad)] [] [] false) k) : Prop) := by kernel_rfl
theorem s3jn (N fuel n : Nat) (lv : List Int) (s : Int) (k : AV → Heap → Bool → Prop) :
 (resPS (S F) T3 N 9 fuel 3 2 0 [] p33 (n + 1) ⟨M3 lv .nils .nils s, [], [], false⟩ k) =
 ((cond (decide (s < (↑(List.length (row encZ lv)) : Int)))
 (And (([] : List AV) = [])
 (k (AV.bool true) [] false))
 (And (([] : List AV) = [])
 (k (AV.bool true) [] false))) : Prop) := by kernel_rfl
theorem a3jn (N fuel n m : Nat) (lv : List Int) (s : Int) (out : Bool) (k : AV → Heap → Bool → Prop) :
 (resPS (S F) T3 N 9 fuel 3 2 0 [(q33, m + 1)] p33 n ⟨M3a lv .nils .nils s out 0, [], [], false⟩ k) =
 ((cond (!out)
 (cond (decide (0 ≤ s))
 (cond (AV.isIntK (Option.getD (row encZ lv)[Int.toNat s]? AV.bad) IntKind.i64)
 (False)
 (False))
 (False))
 (resPS (S F) T3 N 9 fuel 3 2 0 [] p33 n (St.mk [(0, AV.isl 1 (row encZ lv)), (1, AV.nils), (4, AV.bad), (5, AV.nils), (6, AV.bad), (7, AV.bad), (8, AV.bad), (9, AV.bad), (10, AV.bad), (11, AV.bad), (12, AV.int IntKind.i64 (IntKind.wrap IntKind.i64 (s + 1))), (13, AV.bad), (14, AV.bad), (22, AV.bad), (30, AV.bad), (41, AV.bad), (53, AV.bad), (57, AV.bad), (65, AV.bad), (72, AV.bad), (76, AV.bad), (92, AV.bad), (119, AV.bad), (128, AV.bad), (153, AV.bad), (179, AV.bad)] [] [] false) k)) : Prop) := by kernel_rfl
theorem s1js (N fuel n : Nat) (lv : List Int) (l2 : List Int) (may s : Int) (k : AV → Heap → Bool → Prop) :
 (resPS (S F) T3 N 9 fuel 3 2 0 [] p31 (n + 1) ⟨M1 lv .nils (.sl ⟨3, 0, [], l2.length⟩ 1 l2.length 0 l2.length) may s, [], HR l2, false⟩ k) =
 ((cond (decide (s < (↑(List.length (row encZ lv)) : Int)))
 (cond (decide (0 ≤ s))
 (cond (AV.isIntK (Option.getD (row encZ lv)[Int.toNat s]? AV.bad) IntKind.i64)
 (resPS (S F) T3 N 9 fuel 3 2 0 [(q31a, fuel)] p31 n (St.mk [(0, AV.isl 1 (row encZ lv)), (1, AV.nils), (4, AV.bad), (5, AV.sl (Pl.mk 3 0 [] (List.length l2)) 1 (List.length l2) 0 (List.length l2)), (6, AV.int IntKind.i64 may), (7, AV.int IntKind.i64 s), (8, AV.bool (decide (AV.toInt (Option.getD (row encZ lv)[Int.toNat s]? AV.bad) < 0))), (9, AV.int IntKind.i64 0), (10, AV.bad), (11, AV.bad), (12, AV.bad), (13, AV.bad), (14, AV.bad), (22, AV.bad), (30, AV.bad), (41, AV.bad), (53, AV.bad), (57, AV.bad), (65, AV.bad), (72, AV.bad), (76, AV.bad), (92, AV.bad), (119, AV.bad), (128, AV.bad), (153, AV.bad), (179, AV.bad)] [] (HR l2) false) k)
 (False))
 (False))
 (cond (!(↑(List.length l2) : Int) == if may < 2 then may else (2 : Int))
 (k (AV.bool false) [] false)
 (resPS (S F) T3 N 9 fuel 3 2 0 [] p32 fuel (St.mk [(0, AV.isl 1 (row encZ lv)), (1, AV.nils), (4, AV.bad), (5, AV.sl (Pl.mk 3 0 [] (List.length l2)) 1 (List.length l2) 0 (List.length l2)), (6, AV.bad), (7, AV.bad), (8, AV.bad), (9, AV.bad), (10, AV.bad), (11, AV.int IntKind.i64 0), (12, AV.bad), (13, AV.bad), (14, AV.bad), (22, AV.bad), (30, AV.bad), (41, AV.bad), (53, AV.bad), (57, AV.bad), (65, AV.bad), (72, AV.bad), (76, AV.bad), (92, AV.bad), (119, AV.bad), (128, AV.bad), (153, AV.bad), (179, AV.bad)] [] (HR l2) false) k))) : Prop) := by kernel_rfl
theorem a1js (N fuel n m : Nat) (lv : List Int) (l2 : List Int) (may s : Int) (out : Bool) (k : AV → Heap → Bool → Prop) :
 (resPS (S F) T3 N 9 fuel 3 2 0 [(q31a, m + 1)] p31 n ⟨M1a lv .nils (.sl ⟨3, 0, [], l2.length⟩ 1 l2.length 0 l2.length) may s out 0, [], HR l2, false⟩ k) =
 ((cond (out)
 (resPS (S F) T3 N 9 fuel 3 2 0 [(q31b, fuel)] p31 n (St.mk [(0, AV.isl 1 (row encZ lv)), (1, AV.nils), (4, AV.bad), (5, AV.sl (Pl.mk 3 0 [] (List.length l2)) 1 (List.length l2) 0 (List.length l2)), (6, AV.int IntKind.i64 may), (7, AV.int IntKind.i64 s), (8, AV.bad), (9, AV.bad), (10, AV.int IntKind.i64 0), (11, AV.bad), (12, AV.bad), (13, AV.bad), (14, AV.bad), (22, AV.bad), (30, AV.bad), (41, AV.bad), (53, AV.bad), (57, AV.bad), (65, AV.bad), (72, AV.bad), (76, AV.bad), (92, AV.bad), (119, AV.bad), (128, AV.bad), (153, AV.bad), (179, AV.bad)] [] (HR l2) false) k)
 (resPS (S F) T3 N 9 fuel 3 2 0 [] p31 n (St.mk [(0, AV.isl 1 (row encZ lv)), (1, AV.nils), (4, AV.bad), (5, AV.sl (Pl.mk 3 0 [] (List.length l2)) 1 (List.length l2) 0 (List.length l2)), (6, AV.int IntKind.i64 (IntKind.wrap IntKind.i64 (may + 1))), (7, AV.int IntKind.i64 (IntKind.wrap IntKind.i64 (s + 1))), (8, AV.bad), (9, AV.bad), (10, AV.bad), (11, AV.bad), (12, AV.bad), (13, AV.bad), (14, AV.bad), (22, AV.bad), (30, AV.bad), (41, AV.bad), (53, AV.bad), (57, AV.bad), (65, AV.bad), (72, AV.bad), (76, AV.bad), (92, AV.bad), (119, AV.bad), (128, AV.bad), (153, AV.bad), (179, AV.bad)] [] (HR l2) false) k)) : Prop) := by kernel_rfl
theorem b1js (N fuel n m : Nat) (lv : List Int) (l2 : List Int) (may s : Int) (q : Int) (k : AV → Heap → Bool → Prop) :
 (resPS (S F) T3 N 9 fuel 3 2 0 [(q31b, m + 1)] p31 n ⟨M1b lv .nils (.sl ⟨3, 0, [], l2.length⟩ 1 l2.length 0 l2.length) may s q, [], HR l2, false⟩ k) =
 ((cond (decide (q < (↑(List.length l2) : Int)))
 (cond (decide (0 ≤ q))
 (cond (decide (Int.toNat q < List.length l2))
 (cond (okAt (AV.arr 1 (row encZ l2)) [0 + Int.toNat q] (0 + (0 + Int.toNat q) * 1) (List.length l2) false 1)
 (cond (AV.isIntK (projT [0 + Int.toNat q] (AV.arr 1 (row encZ l2))) IntKind.i64)
 (cond (AV.toInt (projT [0 + Int.toNat q] (AV.arr 1 (row encZ l2))) == s)
 (k (AV.bool false) [] false)
 (resPS (S F) T3 N 9 fuel 3 2 0 [(q31b, m)] p31 n (St.mk [(0, AV.isl 1 (row encZ lv)), (1, AV.nils), (4, AV.bad), (5, AV.sl (Pl.mk 3 0 [] (List.length l2)) 1 (List.length l2) 0 (List.length l2)), (6, AV.int IntKind.i64 may), (7, AV.int IntKind.i64 s), (8, AV.bad), (9, AV.bad), (10, AV.int IntKind.i64 (IntKind.wrap IntKind.i64 (q + 1))), (11, AV.bad), (12, AV.bad), (13, AV.bad), (14, AV.bad), (22, AV.bad), (30, AV.bad), (41, AV.bad), (53, AV.bad), (57, AV.bad), (65, AV.bad), (72, AV.bad), (76, AV.bad), (92, AV.bad), (119, AV.bad), (128, AV.bad), (153, AV.bad), (179, AV.bad)] [] (HR l2) false) k))
 (False))
 (False))
 (False))
 (False))
 (resPS (S F) T3 N 9 fuel 3 2 0 [] p31 n (St.mk [(0, AV.isl 1 (row encZ lv)), (1, AV.nils), (4, AV.bad), (5, AV.sl (Pl.mk 3 0 [] (List.length l2)) 1 (List.length l2) 0 (List.length l2)), (6, AV.int IntKind.i64 may), (7, AV.int IntKind.i64 (IntKind.wrap IntKind.i64 (s + 1))), (8, AV.bad), (9, AV.bad), (10, AV.bad), (11, AV.bad), (12, AV.bad), (13, AV.bad), (14, AV.bad), (22, AV.bad), (30, AV.bad), (41, AV.bad), (53, AV.bad), (57, AV.bad), (65, AV.bad), (72, AV.bad), (76, AV.bad), (92, AV.bad), (119, AV.bad), (128, AV.bad), (153, AV.bad), (179, AV.bad)] [] (HR l2) false) k)) : Prop) := by kernel_rfl
theorem s2js (N fuel n : Nat) (lv : List Int) (l2 : List Int) (q : Int) (k : AV → Heap → Bool → Prop) :
 (resPS (S F) T3 N 9 fuel 3 2 0 [] p32 (n + 1) ⟨M2 lv .nils (.sl ⟨3, 0, [], l2.length⟩ 1 l2.length 0 l2.length) q, [], HR l2, false⟩ k) =
 ((cond (decide (q < (↑(List.length l2) : Int)))
 (cond (decide (0 ≤ q))
 (cond (decide (Int.toNat q < List.length l2))
 (cond (okAt (AV.arr 1 (row encZ l2)) [0 + Int.toNat q] (0 + (0 + Int.toNat q) * 1) (List.length l2) false 1)
 (cond (AV.isIntK (projT [0 + Int.toNat q] (AV.arr 1 (row encZ l2))) IntKind.i64)
 (cond (decide (AV.toInt (projT [0 + Int.toNat q] (AV.arr 1 (row encZ l2))) < 0))
 (k (AV.bool false) [] false)
 (cond (decide (0 ≤ q))
 (cond (decide (Int.toNat q < List.length l2))
 (cond (okAt (AV.arr 1 (row encZ l2)) [0 + Int.toNat q] (0 + (0 + Int.toNat q) * 1) (List.length l2) false 1)
 (cond (AV.isIntK (projT [0 + Int.toNat q] (AV.arr 1 (row encZ l2))) IntKind.i64)
 (cond (decide (AV.toInt (projT [0 + Int.toNat q] (AV.arr 1 (row encZ l2))) ≥ (↑(List.length (row encZ lv)) : Int)))
 (k (AV.bool false) [] false)
 (resPS (S F) T3 N 9 fuel 3 2 0 [] p32 n (St.mk [(0, AV.isl 1 (row encZ lv)), (1, AV.nils), (4, AV.bad), (5, AV.sl (Pl.mk 3 0 [] (List.length l2)) 1 (List.length l2) 0 (List.length l2)), (6, AV.bad), (7, AV.bad), (8, AV.bad), (9, AV.bad), (10, AV.bad), (11, AV.int IntKind.i64 (IntKind.wrap IntKind.i64 (q + 1))), (12, AV.bad), (13, AV.bad), (14, AV.bad), (22, AV.bad), (30, AV.bad), (41, AV.bad), (53, AV.bad), (57, AV.bad), (65, AV.bad), (72, AV.bad), (76, AV.bad), (92, AV.bad), (119, AV.bad), (128, AV.bad), (153, AV.bad), (179, AV.bad)] [] (HR l2) false) k))
 (False))
 (False))
 (False))
 (False)))
 (False))
 (False))
 (False))
 (False))
 (cond ((↑(List.length l2) : Int) == 2)
 (cond (decide (0 < List.length l2))
 (cond (okAt (AV.arr 1 (row encZ l2)) [0] 0 (List.length l2) false 1)
 (cond (AV.isIntK (projT [0] (AV.arr 1 (row encZ l2))) IntKind.i64)
 (cond (decide (1 < List.length l2))
 (cond (okAt (AV.arr 1 (row encZ l2)) [1] 1 (List.length l2) false 1)
 (cond (AV.isIntK (projT [1] (AV.arr 1 (row encZ l2))) IntKind.i64)
 (cond (AV.toInt (projT [0] (AV.arr 1 (row encZ l2))) == AV.toInt (projT [1] (AV.arr 1 (row encZ l2))))
 (k (AV.bool false) [] false)
 (cond (decide (0 < List.length l2))
 (cond (okAt (AV.arr 1 (row encZ l2)) [0] 0 (List.length l2) false 1)
 (cond (AV.isIntK (projT [0] (AV.arr 1 (row encZ l2))) IntKind.i64)
 (cond (decide (0 ≤ AV.toInt (projT [0] (AV.arr 1 (row encZ l2)))))
 (cond (AV.isIntK (Option.getD (row encZ lv)[Int.toNat (AV.toInt (projT [0] (AV.arr 1 (row encZ l2))))]? AV.bad) IntKind.i64)
 (cond (decide (1 < List.length l2))
 (cond (okAt (AV.arr 1 (row encZ l2)) [1] 1 (List.length l2) false 1)
 (cond (AV.isIntK (projT [1] (AV.arr 1 (row encZ l2))) IntKind.i64)
 (cond (decide (0 ≤ AV.toInt (projT [1] (AV.arr 1 (row encZ l2)))))
 (cond (AV.isIntK (Option.getD (row encZ lv)[Int.toNat (AV.toInt (projT [1] (AV.arr 1 (row encZ l2))))]? AV.bad) IntKind.i64)
 (cond (decide (AV.toInt (Option.getD (row encZ lv)[Int.toNat (AV.toInt (projT [0] (AV.arr 1 (row encZ l2))))]? AV.bad) > AV.toInt (Option.getD (row encZ lv)[Int.toNat (AV.toInt (projT [1] (AV.arr 1 (row encZ l2))))]? AV.bad)))
 (k (AV.bool false) [] false)
 (resPS (S F) T3 N 9 fuel 3 2 0 [] p33 fuel (St.mk [(0, AV.isl 1 (row encZ lv)), (1, AV.nils), (4, AV.bad), (5, AV.sl (Pl.mk 3 0 [] (List.length l2)) 1 (List.length l2) 0 (List.length l2)), (6, AV.bad), (7, AV.bad), (8, AV.bad), (9, AV.bad), (10, AV.bad), (11, AV.bad), (12, AV.int IntKind.i64 0), (13, AV.bad), (14, AV.bad), (22, AV.bad), (30, AV.bad), (41, AV.bad), (53, AV.bad), (57, AV.bad), (65, AV.bad), (72, AV.bad), (76, AV.bad), (92, AV.bad), (119, AV.bad), (128, AV.bad), (153, AV.bad), (179, AV.bad)] [] (HR l2) false) k))
 (False))
 (False))
 (False))
 (False))
 (False))
 (False))
 (False))
 (False))
 (False))
 (False)))
 (False))
 (False))
 (False))
 (False))
 (False))
 (False))
 (resPS (S F) T3 N 9 fuel 3 2 0 [] p33 fuel (St.mk [(0, AV.isl 1 (row encZ lv)), (1, AV.nils), (4, AV.bad), (5, AV.sl (Pl.mk 3 0 [] (List.length l2)) 1 (List.length l2) 0 (List.length l2)), (6, AV.bad), (7, AV.bad), (8, AV.bad), (9, AV.bad), (10, AV.bad), (11, AV.bad), (12, AV.int IntKind.i64 0), (13, AV.bad), (14, AV.bad), (22, AV.bad), (30, AV.bad), (41, AV.bad), (53, AV.bad), (57, AV.bad), (65, AV.bad), (72, AV.bad), (76, AV.bad), (92, AV.bad), (119, AV.bad), (128, AV.bad), (153, AV.bad), (179, AV.bad)] [] (HR l2) false) k))) : Prop) := by kernel_rfl
theorem s3js (N fuel n : Nat) (lv : List Int) (l2 : List Int) (s : Int) (k : AV → Heap → Bool → Prop) :
 (resPS (S F) T3 N 9 fuel 3 2 0 [] p33 (n + 1) ⟨M3 lv .nils (.sl ⟨3, 0, [], l2.length⟩ 1 l2.length 0 l2.length) s, [], HR l2, false⟩ k) =
 ((cond (decide (s < (↑(List.length (row encZ lv)) : Int)))
 (cond ((↑(List.length l2) : Int) == 2)
 (cond (decide (0 ≤ s))
 (cond (AV.isIntK (Option.getD (row encZ lv)[Int.toNat s]? AV.bad) IntKind.i64)
 (cond (decide (AV.toInt (Option.getD (row encZ lv)[Int.toNat s]? AV.bad) < 0))
 (resPS (S F) T3 N 9 fuel 3 2 0 [(q33, fuel)] p33 n (St.mk [(0, AV.isl 1 (row encZ lv)), (1, AV.nils), (4, AV.bad), (5, AV.sl (Pl.mk 3 0 [] (List.length l2)) 1 (List.length l2) 0 (List.length l2)), (6, AV.bad), (7, AV.bad), (8, AV.bad), (9, AV.bad), (10, AV.bad), (11, AV.bad), (12, AV.int IntKind.i64 s), (13, AV.bool true), (14, AV.int IntKind.i64 0), (22, AV.bad), (30, AV.bad), (41, AV.bad), (53, AV.bad), (57, AV.bad), (65, AV.bad), (72, AV.bad), (76, AV.bad), (92, AV.bad), (119, AV.bad), (128, AV.bad), (153, AV.bad), (179, AV.bad)] [] (HR l2) false) k)
 (cond (decide (0 < List.length l2))
 (cond (okAt (AV.arr 1 (row encZ l2)) [0] 0 (List.length l2) false 1)
 (cond (AV.isIntK (projT [0] (AV.arr 1 (row encZ l2))) IntKind.i64)
 (cond (s == AV.toInt (projT [0] (AV.arr 1 (row encZ l2))))
 (resPS (S F) T3 N 9 fuel 3 2 0 [(q33, fuel)] p33 n (St.mk [(0, AV.isl 1 (row encZ lv)), (1, AV.nils), (4, AV.bad), (5, AV.sl (Pl.mk 3 0 [] (List.length l2)) 1 (List.length l2) 0 (List.length l2)), (6, AV.bad), (7, AV.bad), (8, AV.bad), (9, AV.bad), (10, AV.bad), (11, AV.bad), (12, AV.int IntKind.i64 s), (13, AV.bool true), (14, AV.int IntKind.i64 0), (22, AV.bad), (30, AV.bad), (41, AV.bad), (53, AV.bad), (57, AV.bad), (65, AV.bad), (72, AV.bad), (76, AV.bad), (92, AV.bad), (119, AV.bad), (128, AV.bad), (153, AV.bad), (179, AV.bad)] [] (HR l2) false) k)
 (cond (decide (1 < List.length l2))
 (cond (okAt (AV.arr 1 (row encZ l2)) [1] 1 (List.length l2) false 1)
 (cond (AV.isIntK (projT [1] (AV.arr 1 (row encZ l2))) IntKind.i64)
 (resPS (S F) T3 N 9 fuel 3 2 0 [(q33, fuel)] p33 n (St.mk [(0, AV.isl 1 (row encZ lv)), (1, AV.nils), (4, AV.bad), (5, AV.sl (Pl.mk 3 0 [] (List.length l2)) 1 (List.length l2) 0 (List.length l2)), (6, AV.bad), (7, AV.bad), (8, AV.bad), (9, AV.bad), (10, AV.bad), (11, AV.bad), (12, AV.int IntKind.i64 s), (13, AV.bool (s == AV.toInt (projT [1] (AV.arr 1 (row encZ l2))))), (14, AV.int IntKind.i64 0), (22, AV.bad), (30, AV.bad), (41, AV.bad), (53, AV.bad), (57, AV.bad), (65, AV.bad), (72, AV.bad), (76, AV.bad), (92, AV.bad), (119, AV.bad), (128, AV.bad), (153, AV.bad), (179, AV.bad)] [] (HR l2) false) k)
 (False))
 (False))
 (False)))
 (False))
 (False))
 (False)))
 (False))
 (False))
 (And (([] : List AV) = [])
 (k (AV.bool true) [] false)))
 (And (([] : List AV) = [])
 (k (AV.bool true) [] false))) : Prop) := by kernel_rfl
theorem a3js (N fuel n m : Nat) (lv : List Int) (l2 : List Int) (s : Int) (out : Bool) (k : AV → Heap → Bool → Prop) :
 (resPS (S F) T3 N 9 fuel 3 2 0 [(q33, m + 1)] p33 n ⟨M3a lv .nils (.sl ⟨3, 0, [], l2.length⟩ 1 l2.length 0 l2.length) s out 0, [], HR l2, false⟩ k) =
 ((cond (!out)
 (cond (decide (0 ≤ s))
 (cond (AV.isIntK (Option.getD (row encZ lv)[Int.toNat s]? AV.bad) IntKind.i64)
 (cond (decide (1 < List.length l2))
 (cond (okAt (AV.arr 1 (row encZ l2)) [1] 1 (List.length l2) false 1)
 (cond (AV.isIntK (projT [1] (AV.arr 1 (row encZ l2))) IntKind.i64)
 (cond (decide (0 ≤ AV.toInt (projT [1] (AV.arr 1 (row encZ l2)))))
 (cond (AV.isIntK (Option.getD (row encZ lv)[Int.toNat (AV.toInt (projT [1] (AV.arr 1 (row encZ l2))))]? AV.bad) IntKind.i64)
 (cond (decide (AV.toInt (Option.getD (row encZ lv)[Int.toNat s]? AV.bad) < AV.toInt (Option.getD (row encZ lv)[Int.toNat (AV.toInt (projT [1] (AV.arr 1 (row encZ l2))))]? AV.bad)))
 (k (AV.bool false) [] false)
 (resPS (S F) T3 N 9 fuel 3 2 0 [] p33 n (St.mk [(0, AV.isl 1 (row encZ lv)), (1, AV.nils), (4, AV.bad), (5, AV.sl (Pl.mk 3 0 [] (List.length l2)) 1 (List.length l2) 0 (List.length l2)), (6, AV.bad), (7, AV.bad), (8, AV.bad), (9, AV.bad), (10, AV.bad), (11, AV.bad), (12, AV.int IntKind.i64 (IntKind.wrap IntKind.i64 (s + 1))), (13, AV.bad), (14, AV.bad), (22, AV.bad), (30, AV.bad), (41, AV.bad), (53, AV.bad), (57, AV.bad), (65, AV.bad), (72, AV.bad), (76, AV.bad), (92, AV.bad), (119, AV.bad), (128, AV.bad), (153, AV.bad), (179, AV.bad)] [] (HR l2) false) k))
 (False))
 (False))
 (False))
 (False))
 (False))
 (False))
 (False))
 (resPS (S F) T3 N 9 fuel 3 2 0 [] p33 n (St.mk [(0, AV.isl 1 (row encZ lv)), (1, AV.nils), (4, AV.bad), (5, AV.sl (Pl.mk 3 0 [] (List.length l2)) 1 (List.length l2) 0 (List.length l2)), (6, AV.bad), (7, AV.bad), (8, AV.bad), (9, AV.bad), (10, AV.bad), (11, AV.bad), (12, AV.int IntKind.i64 (IntKind.wrap IntKind.i64 (s + 1))), (13, AV.bad), (14, AV.bad), (22, AV.bad), (30, AV.bad), (41, AV.bad), (53, AV.bad), (57, AV.bad), (65, AV.bad), (72, AV.bad), (76, AV.bad), (92, AV.bad), (119, AV.bad), (128, AV.bad), (153, AV.bad), (179, AV.bad)] [] (HR l2) false) k)) : Prop) := by kernel_rfl
theorem nil3i (N fuel : Nat) (nt : List Int) (k : AV → Heap → Bool → Prop) :
 (runP (S F) T3n N 9 (fuel + 1) 3 [.nils, LV nt] [] k) =
 ((cond (decide ((↑(List.length (row encZ nt)) : Int) > 60))
 (And (([] : List AV) = [])
 (k (AV.bool true) [] false))
 (∃ (dn0 : Option (List Int)),
 And ([AV.nils, AV.isl 1 (row encZ nt)] = [AV.nils, dZ dn0])
 (And (([] : Heap) = [])
 (And (([] : List AV) = [])
 (k (AV.bool true) [] false))))) : Prop) := by kernel_rfl
theorem nil3j (N fuel : Nat) (k : AV → Heap → Bool → Prop) :
 (runP (S F) T3n N 9 (fuel + 1) 3 [.nils, .nils] [] k) =
 ((∃ (dn0 : Option (List Int)),
 And ([AV.nils, AV.nils] = [AV.nils, dZ dn0])
 (And (([] : Heap) = [])
 (And (([] : List AV) = [])
 (k (AV.bool true) [] false)))) : Prop) := by kernel_rfl
end Go.Proofs.Ytiiddampachhlaa
/-
  VictimTwo: the law's loops.
-/
namespace Go.Proofs.Ytiiddampachhlaa
open Go Go.X
variable {F : Nat}
def lA : List Int → AV
  | [] => .nils
  | x :: r => .sl ⟨3, 0, [], (x :: r).length⟩ 1 (x :: r).length 0 (x :: r).length
def lH : List Int → Heap
  | [] => []
  | x :: r => HR (x :: r)
/-- May a segment be chosen? -/
def Cand (lv : List Int) (dn : Option (List Int)) (s : Int) : Prop := 0 ≤ key lv s ∧ ¬ s ∈ dn.getD []
structure Good (lv : List Int) (dn : Option (List Int)) (l2 : List Int) : Prop where
  mem : ∀ x, x ∈ l2 → 0 ≤ x ∧ x < lv.length ∧ Cand lv dn x
  len : l2.length = min 2 (selF lv (dn.getD []) lv.length 0).length
  two : ∀ x y, l2 = [x, y] → x ≠ y ∧ key lv x ≤ key lv y ∧ ∀ s : Nat, s < lv.length → Cand lv dn s → (s : Int) ≠ x → (s : Int) ≠ y → key lv y ≤ key lv s
theorem good_of {lv : List Int} {dn : Option (List Int)} {l2 W : List Int} (hp : W.Perm (selF lv (dn.getD []) lv.length 0)) (hs : Srt lv W) (hl : l2 = W.take 2) : Good lv dn l2 := by
  subst hl
  refine ⟨fun x hx => ?_, by rw [List.length_take, hp.length_eq], fun x y hxy => ?_⟩
  · have := hp.subset (List.mem_of_mem_take hx)
    obtain ⟨s, rfl, h1, h2, h3, h4⟩ := (selF_mem _ _ _).1 this
    exact ⟨by omega, by omega, h3, h4⟩
  · have hW : W = x :: y :: W.drop 2 := by
      have := List.take_append_drop 2 W
      rw [hxy] at this
      simpa using this.symm
    have hn : W.Nodup := hp.nodup_iff.2 (selF_nodup _ _)
    rw [hW] at hn hs
    have hxy' := (List.nodup_cons.1 hn).1
    have h1 := List.pairwise_cons.1 hs
    have h2 := List.pairwise_cons.1 h1.2
    refine ⟨fun h => hxy' (by simp [h]), h1.1 y (by simp), fun s hs' hc hsx hsy => ?_⟩
    have : (s : Int) ∈ W := hp.symm.subset ((selF_mem _ _ _).2 ⟨s, rfl, by omega, by omega, hc.1, hc.2⟩)
    rw [hW] at this
    simp only [List.mem_cons] at this
    rcases this with h | h | h
    · exact absurd h hsx
    · exact absurd h hsy
    · exact h2.1 _ h
theorem rowG {xs : List Int} {s : Nat} (h : s < xs.length) : (row encZ xs)[Int.toNat (s : Int)]?.getD .bad = .int .i64 xs[s] := by simp [row, h]; rfl
theorem keyG {lv : List Int} {s : Nat} (h : s < lv.length) : key lv s = lv[s] := by simp [key, h]
set_option maxHeartbeats 2000000 in
theorem loopB (N fuel n : Nat) (lv : List Int) (dn : Option (List Int)) (l2 : List Int) (may s : Int) (k : AV → Heap → Bool → Prop) (h2 : l2.length ≤ 2) (hs : ∀ x, x ∈ l2 → x ≠ s)
    (hk : resPS (S F) T3 N 9 fuel 3 2 0 [] p31 n ⟨M1 lv (dZ dn) (lA l2) may (IntKind.wrap .i64 (s + 1)), [], lH l2, false⟩ k) : ∀ (d q m : Nat), q + d = l2.length → d < m →
    resPS (S F) T3 N 9 fuel 3 2 0 [(q31b, m)] p31 n ⟨M1b lv (dZ dn) (lA l2) may s q, [], lH l2, false⟩ k
  | d, q, 0, _, hm => by omega
  | 0, q, m + 1, hd, _ => by
    rcases l2 with _ | ⟨x, r⟩
    · obtain rfl : q = 0 := by simpa using hd
      rcases dn with _ | nt
      · exact (b1jn (F := F) N fuel n m lv may s k).symm ▸ hk
      · exact (b1in (F := F) N fuel n m lv nt may s k).symm ▸ hk
    · rcases dn with _ | nt
      · refine (b1js (F := F) N fuel n m lv (x :: r) may s q k).symm ▸ ?_
        exact condF (decide_eq_false (by omega)) hk
      · refine (b1is (F := F) N fuel n m lv nt (x :: r) may s q k).symm ▸ ?_
        exact condF (decide_eq_false (by omega)) hk
  | d + 1, q, m + 1, hd, hm => by
    have ih := loopB N fuel n lv dn l2 may s k h2 hs hk d (q + 1) m (by omega) (by omega)
    have hw : IntKind.wrap .i64 ((q : Int) + 1) = ((q + 1 : Nat) : Int) := by rw [wrapI (by omega)]; omega
    have hq : q < l2.length := by omega
    have hx := hs _ (List.getElem_mem hq)
    have e1 := okX (xs := l2) (x := (q : Int)) rfl hq
    have e2 := prX (xs := l2) (x := (q : Int)) rfl hq
    rcases l2 with _ | ⟨x, r⟩
    · simp at hd
    · have go : ∀ {P : Prop}, P → (cond (decide ((q : Int) < (List.length (x :: r) : Int))) (cond (decide (0 ≤ (q : Int))) (cond (decide (Int.toNat (q : Int) < List.length (x :: r))) (cond (okAt (AV.arr 1 (row encZ (x :: r))) [0 + Int.toNat (q : Int)] (0 + (0 + Int.toNat (q : Int)) * 1) (List.length (x :: r)) false 1)
          (cond (AV.isIntK (projT [0 + Int.toNat (q : Int)] (AV.arr 1 (row encZ (x :: r)))) IntKind.i64) (cond (AV.toInt (projT [0 + Int.toNat (q : Int)] (AV.arr 1 (row encZ (x :: r)))) == s) (k (AV.bool false) [] false) P) False) False) False) False)
          (resPS (S F) T3 N 9 fuel 3 2 0 [] p31 n ⟨M1 lv (dZ dn) (lA (x :: r)) may (IntKind.wrap .i64 (s + 1)), [], lH (x :: r), false⟩ k)) := fun h => by
        refine condT (decide_eq_true (by omega)) (condT (by simp) (condT (by simpa using hq) (condT e1 ?_)))
        rw [e2]
        exact condT rfl (condF (by simpa [AV.toInt] using hx) h)
      rcases dn with _ | nt
      · refine (b1js (F := F) N fuel n m lv (x :: r) may s q k).symm ▸ ?_
        rw [hw]
        exact go ih
      · refine (b1is (F := F) N fuel n m lv nt (x :: r) may s q k).symm ▸ ?_
        rw [hw]
        exact go ih
set_option maxHeartbeats 2000000 in
theorem loopA (N fuel n : Nat) (lv : List Int) (dn : Option (List Int)) (l2 : List Int) (may : Int) (s : Nat) (k : AV → Heap → Bool → Prop) (hn : (dn.getD []).length ≤ 60)
    (h1 : ¬ Cand lv dn s → resPS (S F) T3 N 9 fuel 3 2 0 [(q31b, fuel)] p31 n ⟨M1b lv (dZ dn) (lA l2) may s 0, [], lH l2, false⟩ k)
    (h2 : Cand lv dn s → resPS (S F) T3 N 9 fuel 3 2 0 [] p31 n ⟨M1 lv (dZ dn) (lA l2) (IntKind.wrap .i64 (may + 1)) (IntKind.wrap .i64 (s + 1)), [], lH l2, false⟩ k) : ∀ (d q m : Nat) (out : Bool), q + d = (dn.getD []).length → d < m →
    (out = true ↔ key lv s < 0 ∨ ∃ c, ∃ (h : c < (dn.getD []).length), c < q ∧ (dn.getD [])[c] = (s : Int)) →
    resPS (S F) T3 N 9 fuel 3 2 0 [(q31a, m)] p31 n ⟨M1a lv (dZ dn) (lA l2) may s out q, [], lH l2, false⟩ k
  | d, q, 0, out, _, hm, _ => by omega
  | 0, q, m + 1, out, hd, _, ho => by
    have hc : out = true ↔ ¬ Cand lv dn s := by
      rw [ho]
      unfold Cand
      constructor
      · rintro (h | ⟨c, hc, _, he⟩)
        · exact fun h' => by omega
        · exact fun h' => h'.2 (he ▸ List.getElem_mem hc)
      · intro h
        by_cases h0 : key lv s < 0
        · exact .inl h0
        · right
          have : (s : Int) ∈ dn.getD [] := Decidable.not_not.1 fun h' => h ⟨by omega, h'⟩
          obtain ⟨c, hc, he⟩ := List.getElem_of_mem this
          exact ⟨c, hc, by omega, he⟩
    have fin : cond out (resPS (S F) T3 N 9 fuel 3 2 0 [(q31b, fuel)] p31 n ⟨M1b lv (dZ dn) (lA l2) may s 0, [], lH l2, false⟩ k) (resPS (S F) T3 N 9 fuel 3 2 0 [] p31 n ⟨M1 lv (dZ dn) (lA l2) (IntKind.wrap .i64 (may + 1)) (IntKind.wrap .i64 (s + 1)), [], lH l2, false⟩ k) := by
      cases out
      · exact h2 (Classical.not_not.1 (fun h => by have := hc.2 h; cases this))
      · exact h1 (hc.1 rfl)
    rcases dn with _ | nt
    · obtain rfl : q = 0 := by simpa using hd
      rcases l2 with _ | ⟨x, r⟩
      · exact (a1jn (F := F) N fuel n m lv may s out k).symm ▸ fin
      · exact (a1js (F := F) N fuel n m lv (x :: r) may s out k).symm ▸ fin
    · rcases l2 with _ | ⟨x, r⟩
      · refine (a1in (F := F) N fuel n m lv nt may s out q k).symm ▸ ?_
        exact condF (decide_eq_false (by rw [row_length]; simp at hd; omega)) fin
      · refine (a1is (F := F) N fuel n m lv nt (x :: r) may s out q k).symm ▸ ?_
        exact condF (decide_eq_false (by rw [row_length]; simp at hd; omega)) fin
  | d + 1, q, m + 1, out, hd, hm, ho => by
    rcases dn with _ | nt
    · simp at hd
    · simp only [Option.getD_some] at hd hn ho
      have hq : q < nt.length := by omega
      have hw : IntKind.wrap .i64 ((q : Int) + 1) = ((q + 1 : Nat) : Int) := by rw [wrapI (by omega)]; omega
      have ih := fun out' => loopA N fuel n lv (some nt) l2 may s k hn h1 h2 d (q + 1) m out' (by simp; omega) (by omega)
      have go : cond (decide ((q : Int) < (List.length (row encZ nt) : Int))) (cond out (resPS (S F) T3 N 9 fuel 3 2 0 [(q31a, m)] p31 n ⟨M1a lv (LV nt) (lA l2) may s true ((q + 1 : Nat) : Int), [], lH l2, false⟩ k)
          (cond (decide (0 ≤ (q : Int))) (cond (AV.isIntK (Option.getD (row encZ nt)[Int.toNat (q : Int)]? AV.bad) IntKind.i64) (resPS (S F) T3 N 9 fuel 3 2 0 [(q31a, m)] p31 n ⟨M1a lv (LV nt) (lA l2) may s (AV.toInt (Option.getD (row encZ nt)[Int.toNat (q : Int)]? AV.bad) == (s : Int)) ((q + 1 : Nat) : Int), [], lH l2, false⟩ k) False) False))
          (cond out (resPS (S F) T3 N 9 fuel 3 2 0 [(q31b, fuel)] p31 n ⟨M1b lv (LV nt) (lA l2) may s 0, [], lH l2, false⟩ k) (resPS (S F) T3 N 9 fuel 3 2 0 [] p31 n ⟨M1 lv (LV nt) (lA l2) (IntKind.wrap .i64 (may + 1)) (IntKind.wrap .i64 (s + 1)), [], lH l2, false⟩ k)) := by
        refine condT (decide_eq_true (by rw [row_length]; omega)) ?_
        cases out
        · refine condF rfl (condT (by simp) ?_)
          rw [rowG hq]
          refine condT rfl (ih _ ?_)
          simp only [AV.toInt, beq_iff_eq]
          constructor
          · intro h
            exact .inr ⟨q, hq, by omega, h⟩
          · rintro (h | ⟨c, hc, hcq, he⟩)
            · exact absurd (ho.2 (.inl h)) (by simp)
            · rcases Nat.lt_or_eq_of_le (Nat.lt_succ_iff.1 hcq) with h | rfl
              · exact absurd (ho.2 (.inr ⟨c, hc, h, he⟩)) (by simp)
              · exact he
        · refine condT rfl (ih true ⟨fun _ => ?_, fun _ => rfl⟩)
          rcases ho.1 rfl with h | ⟨c, hc, hcq, he⟩
          · exact .inl h
          · exact .inr ⟨c, hc, by omega, he⟩
      rcases l2 with _ | ⟨x, r⟩
      · refine (a1in (F := F) N fuel n m lv nt may s out q k).symm ▸ ?_
        rw [hw]
        exact go
      · refine (a1is (F := F) N fuel n m lv nt (x :: r) may s out q k).symm ▸ ?_
        rw [hw]
        exact go
end Go.Proofs.Ytiiddampachhlaa
/-
  VictimTwo: the law's other loops.
-/
namespace Go.Proofs.Ytiiddampachhlaa
open Go Go.X
variable {F : Nat}
theorem ok0 {x : Int} {r : List Int} {g : Nat} (hg : g = (x :: r).length) : okAt (AV.arr 1 (row encZ (x :: r))) [0] 0 g false 1 = true := by
  subst hg
  have := okX (xs := x :: r) (x := 0) (I := 0) rfl (by simp)
  simpa using this
theorem ok1 {x y : Int} {r : List Int} {g : Nat} (hg : g = (x :: y :: r).length) : okAt (AV.arr 1 (row encZ (x :: y :: r))) [1] 1 g false 1 = true := by
  subst hg
  have := okX (xs := x :: y :: r) (x := 1) (I := 1) rfl (by simp)
  simpa using this
theorem pr0 {x : Int} {r : List Int} : projT [0] (AV.arr 1 (row encZ (x :: r))) = .int .i64 x := rfl
theorem pr1 {x y : Int} {r : List Int} : projT [1] (AV.arr 1 (row encZ (x :: y :: r))) = .int .i64 y := rfl
theorem rowK {lv : List Int} {x : Int} (h0 : 0 ≤ x) (h1 : x < lv.length) : (row encZ lv)[x.toNat]?.getD .bad = .int .i64 (key lv x) := by
  have : x.toNat < lv.length := by omega
  simp [row, key, this]
  rfl
theorem rowK' {lv : List Int} {x : Int} (h0 : 0 ≤ x) (h1 : x < lv.length) : (row encZ lv)[(AV.toInt (AV.int IntKind.i64 x)).toNat]?.getD .bad = .int .i64 (key lv x) := rowK h0 h1
set_option maxHeartbeats 2000000 in
theorem loop3a (N fuel n : Nat) (lv : List Int) (dn : Option (List Int)) (x y : Int) (s : Nat) (k : AV → Heap → Bool → Prop) (hn : (dn.getD []).length ≤ 60) (hs : s < lv.length) (hg : Good lv dn [x, y])
    (hk : resPS (S F) T3 N 9 fuel 3 2 0 [] p33 n ⟨M3 lv (dZ dn) (lA [x, y]) (IntKind.wrap .i64 (s + 1)), [], lH [x, y], false⟩ k) : ∀ (d q m : Nat) (out : Bool), q + d = (dn.getD []).length → d < m →
    (out = true ↔ key lv s < 0 ∨ (s : Int) = x ∨ (s : Int) = y ∨ ∃ c, ∃ (h : c < (dn.getD []).length), c < q ∧ (dn.getD [])[c] = (s : Int)) →
    resPS (S F) T3 N 9 fuel 3 2 0 [(q33, m)] p33 n ⟨M3a lv (dZ dn) (lA [x, y]) s out q, [], lH [x, y], false⟩ k
  | d, q, 0, out, _, hm, _ => by omega
  | 0, q, m + 1, out, hd, _, ho => by
    have hy := hg.mem y (by simp)
    have fin : cond (!out) (cond (decide (0 ≤ (s : Int))) (cond (AV.isIntK (Option.getD (row encZ lv)[Int.toNat (s : Int)]? AV.bad) IntKind.i64) (cond (decide (1 < List.length [x, y])) (cond (okAt (AV.arr 1 (row encZ [x, y])) [1] 1 (List.length [x, y]) false 1)
          (cond (AV.isIntK (projT [1] (AV.arr 1 (row encZ [x, y]))) IntKind.i64) (cond (decide (0 ≤ AV.toInt (projT [1] (AV.arr 1 (row encZ [x, y]))))) (cond (AV.isIntK (Option.getD (row encZ lv)[Int.toNat (AV.toInt (projT [1] (AV.arr 1 (row encZ [x, y]))))]? AV.bad) IntKind.i64)
          (cond (decide (AV.toInt (Option.getD (row encZ lv)[Int.toNat (s : Int)]? AV.bad) < AV.toInt (Option.getD (row encZ lv)[Int.toNat (AV.toInt (projT [1] (AV.arr 1 (row encZ [x, y]))))]? AV.bad))) (k (AV.bool false) [] false)
          (resPS (S F) T3 N 9 fuel 3 2 0 [] p33 n ⟨M3 lv (dZ dn) (lA [x, y]) (IntKind.wrap .i64 (s + 1)), [], lH [x, y], false⟩ k)) False) False) False) False) False) False) False)
          (resPS (S F) T3 N 9 fuel 3 2 0 [] p33 n ⟨M3 lv (dZ dn) (lA [x, y]) (IntKind.wrap .i64 (s + 1)), [], lH [x, y], false⟩ k) := by
      cases out
      · refine condT rfl (condT (by simp) ?_)
        rw [rowG hs]
        refine condT rfl (condT (by simp) (condT (ok1 rfl) ?_))
        rw [pr1, rowK' hy.1 hy.2.1]
        refine condT rfl (condT (decide_eq_true (show (0 : Int) ≤ y from hy.1)) (condT rfl (condF (decide_eq_false ?_) hk)))
        have hc : Cand lv dn s := by
          unfold Cand
          have h1 : ¬ key lv s < 0 := fun h => by have := ho.2 (.inl h); cases this
          refine ⟨by omega, fun h => ?_⟩
          obtain ⟨c, hc, he⟩ := List.getElem_of_mem h
          have := ho.2 (.inr (.inr (.inr ⟨c, hc, by omega, he⟩)))
          cases this
        have := (hg.two x y rfl).2.2 s hs hc (fun h => by have := ho.2 (.inr (.inl h)); cases this) (fun h => by have := ho.2 (.inr (.inr (.inl h))); cases this)
        rw [keyG hs] at this
        show ¬ lv[s] < key lv y
        omega
      · exact condF rfl hk
    rcases dn with _ | nt
    · obtain rfl : q = 0 := by simpa using hd
      exact (a3js (F := F) N fuel n m lv [x, y] s out k).symm ▸ fin
    · refine (a3is (F := F) N fuel n m lv nt [x, y] s out q k).symm ▸ ?_
      exact condF (decide_eq_false (by rw [row_length]; simp at hd; omega)) fin
  | d + 1, q, m + 1, out, hd, hm, ho => by
    rcases dn with _ | nt
    · simp at hd
    · simp only [Option.getD_some] at hd hn ho
      have hq : q < nt.length := by omega
      have hw : IntKind.wrap .i64 ((q : Int) + 1) = ((q + 1 : Nat) : Int) := by rw [wrapI (by omega)]; omega
      have ih := fun out' => loop3a N fuel n lv (some nt) x y s k hn hs hg hk d (q + 1) m out' (by simp; omega) (by omega)
      refine (a3is (F := F) N fuel n m lv nt [x, y] s out q k).symm ▸ ?_
      rw [hw]
      refine condT (decide_eq_true (by rw [row_length]; omega)) ?_
      cases out
      · refine condF rfl (condT (by simp) ?_)
        rw [rowG hq]
        refine condT rfl (ih _ ?_)
        simp only [AV.toInt, beq_iff_eq]
        constructor
        · intro h
          exact .inr (.inr (.inr ⟨q, hq, by omega, h⟩))
        · rintro (h | h | h | ⟨c, hc, hcq, he⟩)
          · exact absurd (ho.2 (.inl h)) (by simp)
          · exact absurd (ho.2 (.inr (.inl h))) (by simp)
          · exact absurd (ho.2 (.inr (.inr (.inl h)))) (by simp)
          · rcases Nat.lt_or_eq_of_le (Nat.lt_succ_iff.1 hcq) with h | rfl
            · exact absurd (ho.2 (.inr (.inr (.inr ⟨c, hc, h, he⟩)))) (by simp)
            · exact he
      · refine condT rfl (ih true ⟨fun _ => ?_, fun _ => rfl⟩)
        rcases ho.1 rfl with h | h | h | ⟨c, hc, hcq, he⟩
        · exact .inl h
        · exact .inr (.inl h)
        · exact .inr (.inr (.inl h))
        · exact .inr (.inr (.inr ⟨c, hc, by omega, he⟩))
set_option maxHeartbeats 2000000 in
theorem loop3 (N fuel : Nat) (lv : List Int) (dn : Option (List Int)) (l2 : List Int) (k : AV → Heap → Bool → Prop) (hf : 100 < fuel) (hn : (dn.getD []).length ≤ 60) (hg : Good lv dn l2) (hl : lv.length ≤ 60) (h2 : l2.length ≤ 2) (hk : ∀ H, k (.bool true) H false) : ∀ (d s n : Nat), s + d = lv.length → d < n →
    resPS (S F) T3 N 9 fuel 3 2 0 [] p33 n ⟨M3 lv (dZ dn) (lA l2) s, [], lH l2, false⟩ k
  | d, s, 0, _, hn => by omega
  | 0, s, n + 1, hd, _ => by
    rcases dn with _ | nt <;> rcases l2 with _ | ⟨x, r⟩
    · exact (s3jn (F := F) N fuel n lv s k).symm ▸ condF (decide_eq_false (by rw [row_length]; omega)) ⟨rfl, hk _⟩
    · exact (s3js (F := F) N fuel n lv (x :: r) s k).symm ▸ condF (decide_eq_false (by rw [row_length]; omega)) ⟨rfl, hk _⟩
    · exact (s3in (F := F) N fuel n lv nt s k).symm ▸ condF (decide_eq_false (by rw [row_length]; omega)) ⟨rfl, hk _⟩
    · exact (s3is (F := F) N fuel n lv nt (x :: r) s k).symm ▸ condF (decide_eq_false (by rw [row_length]; omega)) ⟨rfl, hk _⟩
  | d + 1, s, n + 1, hd, hn' => by
    have hs : s < lv.length := by omega
    have hw : IntKind.wrap .i64 ((s : Int) + 1) = ((s + 1 : Nat) : Int) := by rw [wrapI (by omega)]; omega
    have ih := loop3 N fuel lv dn l2 k hf hn hg hl h2 hk d (s + 1) n (by omega) (by omega)
    have hlt : decide ((s : Int) < ((row encZ lv).length : Int)) = true := decide_eq_true (by rw [row_length]; omega)
    rcases l2 with _ | ⟨x, _ | ⟨y, _ | ⟨z, r⟩⟩⟩
    · rcases dn with _ | nt
      · exact (s3jn (F := F) N fuel n lv s k).symm ▸ condT hlt ⟨rfl, hk _⟩
      · exact (s3in (F := F) N fuel n lv nt s k).symm ▸ condT hlt ⟨rfl, hk _⟩
    · rcases dn with _ | nt
      · exact (s3js (F := F) N fuel n lv [x] s k).symm ▸ condT hlt (condF rfl ⟨rfl, hk _⟩)
      · exact (s3is (F := F) N fuel n lv nt [x] s k).symm ▸ condT hlt (condF rfl ⟨rfl, hk _⟩)
    · have inn := fun out => loop3a (F := F) N fuel n lv dn x y s k hn hs hg (by rw [hw]; exact ih) (dn.getD []).length 0 fuel out (by omega) (by omega)
      have i1 : key lv s < 0 → resPS (S F) T3 N 9 fuel 3 2 0 [(q33, fuel)] p33 n ⟨M3a lv (dZ dn) (lA [x, y]) s true 0, [], lH [x, y], false⟩ k := fun h => inn true ⟨fun _ => .inl h, fun _ => rfl⟩
      have i2 : (s : Int) = x → resPS (S F) T3 N 9 fuel 3 2 0 [(q33, fuel)] p33 n ⟨M3a lv (dZ dn) (lA [x, y]) s true 0, [], lH [x, y], false⟩ k := fun h => inn true ⟨fun _ => .inr (.inl h), fun _ => rfl⟩
      have i3 : ¬ key lv s < 0 → ¬ (s : Int) = x → resPS (S F) T3 N 9 fuel 3 2 0 [(q33, fuel)] p33 n ⟨M3a lv (dZ dn) (lA [x, y]) s ((s : Int) == y) 0, [], lH [x, y], false⟩ k := fun h1 h2 => inn _ (by
        simp only [beq_iff_eq]
        constructor
        · exact fun h => .inr (.inr (.inl h))
        · rintro (h | h | h | ⟨c, _, hc, _⟩)
          · exact absurd h h1
          · exact absurd h h2
          · exact h
          · omega)
      clear inn ih
      have hkey := keyG hs
      rcases dn with _ | nt
      all_goals
        first
          | refine (s3js (F := F) N fuel n lv [x, y] s k).symm ▸ ?_
          | refine (s3is (F := F) N fuel n lv nt [x, y] s k).symm ▸ ?_
        refine condT hlt (condT rfl (condT (by simp) ?_))
        rw [rowG hs]
        refine condT rfl ?_
        by_cases h1 : lv[s] < 0
        · exact condT (decide_eq_true h1) (i1 (by omega))
        · refine condF (decide_eq_false h1) (condT (by simp) (condT (ok0 rfl) ?_))
          rw [pr0]
          refine condT rfl ?_
          by_cases h3 : (s : Int) = x
          · exact condT (by simpa [AV.toInt] using h3) (i2 h3)
          · refine condF (by simpa [AV.toInt] using h3) (condT (by simp) (condT (ok1 rfl) ?_))
            rw [pr1]
            exact condT rfl (i3 (by omega) h3)
    · simp at h2
set_option maxHeartbeats 2000000 in
theorem loop2 (N fuel : Nat) (lv : List Int) (dn : Option (List Int)) (l2 : List Int) (k : AV → Heap → Bool → Prop) (hf : 100 < fuel) (hn : (dn.getD []).length ≤ 60) (hg : Good lv dn l2) (hl : lv.length ≤ 60) (h2 : l2.length ≤ 2) (hk : ∀ H, k (.bool true) H false) : ∀ (d q n : Nat), q + d = l2.length → d < n →
    resPS (S F) T3 N 9 fuel 3 2 0 [] p32 n ⟨M2 lv (dZ dn) (lA l2) q, [], lH l2, false⟩ k
  | d, q, 0, _, hn => by omega
  | 0, q, n + 1, hd, _ => by
    have h3 := loop3 (F := F) N fuel lv dn l2 k hf hn hg hl h2 hk lv.length 0 fuel (by omega) (by omega)
    rcases l2 with _ | ⟨x, _ | ⟨y, _ | ⟨z, r⟩⟩⟩
    · obtain rfl : q = 0 := by simpa using hd
      rcases dn with _ | nt
      · exact (s2jn (F := F) N fuel n lv k).symm ▸ h3
      · exact (s2in (F := F) N fuel n lv nt k).symm ▸ h3
    · rcases dn with _ | nt
      · exact (s2js (F := F) N fuel n lv [x] q k).symm ▸ condF (decide_eq_false (by omega)) (condF rfl h3)
      · exact (s2is (F := F) N fuel n lv nt [x] q k).symm ▸ condF (decide_eq_false (by omega)) (condF rfl h3)
    · have hx := hg.mem x (by simp)
      have hy := hg.mem y (by simp)
      have ht := hg.two x y rfl
      rcases dn with _ | nt
      all_goals
        first
          | refine (s2js (F := F) N fuel n lv [x, y] q k).symm ▸ ?_
          | refine (s2is (F := F) N fuel n lv nt [x, y] q k).symm ▸ ?_
        refine condF (decide_eq_false (by omega)) (condT rfl (condT (by simp) (condT (ok0 rfl) ?_)))
        rw [pr0, pr1, rowK' hx.1 hx.2.1, rowK' hy.1 hy.2.1]
        refine condT rfl (condT (by simp) (condT (ok1 rfl) (condT rfl (condF (beq_eq_false_iff_ne.2 (show x ≠ y from ht.1)) (condT (by simp) (condT (ok0 rfl) (condT rfl (condT (decide_eq_true (show (0 : Int) ≤ x from hx.1)) (condT rfl (condT (by simp) (condT (ok1 rfl) (condT rfl (condT (decide_eq_true (show (0 : Int) ≤ y from hy.1)) (condT rfl (condF (decide_eq_false ?_) h3)))))))))))))))
        show ¬ key lv x > key lv y
        omega
    · simp at h2
  | d + 1, q, n + 1, hd, hm => by
    have ih := loop2 N fuel lv dn l2 k hf hn hg hl h2 hk d (q + 1) n (by omega) (by omega)
    have hw : IntKind.wrap .i64 ((q : Int) + 1) = ((q + 1 : Nat) : Int) := by rw [wrapI (by omega)]; omega
    have hq : q < l2.length := by omega
    have hx := hg.mem _ (List.getElem_mem hq)
    have e1 := okX (xs := l2) (x := (q : Int)) rfl hq
    have e2 := prX (xs := l2) (x := (q : Int)) rfl hq
    rcases l2 with _ | ⟨x, r⟩
    · simp at hd
    · rcases dn with _ | nt
      all_goals
        first
          | refine (s2js (F := F) N fuel n lv (x :: r) q k).symm ▸ ?_
          | refine (s2is (F := F) N fuel n lv nt (x :: r) q k).symm ▸ ?_
        rw [hw]
        refine condT (decide_eq_true (by omega)) (condT (by simp) (condT (by simpa using hq) (condT e1 ?_)))
        rw [e2]
        refine condT rfl (condF (decide_eq_false (show ¬ (x :: r)[q] < 0 by have := hx.1; omega)) (condT (by simp) (condT (by simpa using hq) (condT e1 (condT rfl (condF ?_ ih))))))
        rw [row_length]
        exact decide_eq_false (show ¬ (x :: r)[q] ≥ (lv.length : Int) by have := hx.2.1; omega)
theorem selF_pos {lv : List Int} {dn : Option (List Int)} {d s : Nat} (h : Cand lv dn s) : selF lv (dn.getD []) (d + 1) s = (s : Int) :: selF lv (dn.getD []) d (s + 1) := if_pos h
theorem selF_neg {lv : List Int} {dn : Option (List Int)} {d s : Nat} (h : ¬ Cand lv dn s) : selF lv (dn.getD []) (d + 1) s = selF lv (dn.getD []) d (s + 1) := if_neg h
set_option maxHeartbeats 2000000 in
theorem loop1 (N fuel : Nat) (lv : List Int) (dn : Option (List Int)) (l2 : List Int) (k : AV → Heap → Bool → Prop) (hf : 100 < fuel) (hn : (dn.getD []).length ≤ 60) (hg : Good lv dn l2) (hl : lv.length ≤ 60) (h2 : l2.length ≤ 2) (hk : ∀ H, k (.bool true) H false) : ∀ (d s n may : Nat), s + d = lv.length → d < n → may ≤ s →
    may + (selF lv (dn.getD []) d s).length = (selF lv (dn.getD []) lv.length 0).length →
    resPS (S F) T3 N 9 fuel 3 2 0 [] p31 n ⟨M1 lv (dZ dn) (lA l2) may s, [], lH l2, false⟩ k
  | d, s, 0, may, _, hn, _, _ => by omega
  | 0, s, n + 1, may, hd, _, _, hmay => by
    have h3 := loop2 (F := F) N fuel lv dn l2 k hf hn hg hl h2 hk l2.length 0 fuel (by omega) (by omega)
    have hlen := hg.len
    simp only [selF, List.length_nil, Nat.add_zero] at hmay
    rw [← hmay] at hlen
    have hc : (!((l2.length : Int) == if (may : Int) < 2 then (may : Int) else 2)) = false := by
      have : (l2.length : Int) = if (may : Int) < 2 then (may : Int) else 2 := by split <;> omega
      rw [← this]
      simp
    have hlt : decide ((s : Int) < ((row encZ lv).length : Int)) = false := decide_eq_false (by rw [row_length]; omega)
    rcases dn with _ | nt <;> rcases l2 with _ | ⟨x, r⟩
    · exact (s1jn (F := F) N fuel n lv may s k).symm ▸ condF hlt (condF hc h3)
    · exact (s1js (F := F) N fuel n lv (x :: r) may s k).symm ▸ condF hlt (condF hc h3)
    · exact (s1in (F := F) N fuel n lv nt may s k).symm ▸ condF hlt (condF hc h3)
    · exact (s1is (F := F) N fuel n lv nt (x :: r) may s k).symm ▸ condF hlt (condF hc h3)
  | d + 1, s, n + 1, may, hd, hm, hms, hmay => by
    have hs : s < lv.length := by omega
    have hw : IntKind.wrap .i64 ((s : Int) + 1) = ((s + 1 : Nat) : Int) := by rw [wrapI (by omega)]; omega
    have hw2 : IntKind.wrap .i64 ((may : Int) + 1) = ((may + 1 : Nat) : Int) := by rw [wrapI (by omega)]; omega
    have ih := fun may' => loop1 N fuel lv dn l2 k hf hn hg hl h2 hk d (s + 1) n may' (by omega) (by omega)
    have hA := loopA (F := F) N fuel n lv dn l2 may s k hn (fun hc => by
      rw [selF_neg hc] at hmay
      exact loopB (F := F) N fuel n lv dn l2 may s k h2 (fun x hx he => hc (he ▸ (hg.mem x hx).2.2)) (by rw [hw]; exact ih may (by omega) hmay) l2.length 0 fuel (by omega) (by omega)) (fun hc => by
      rw [selF_pos hc, List.length_cons] at hmay
      rw [hw, hw2]
      exact ih (may + 1) (by omega) (by omega)) (dn.getD []).length 0 fuel (decide (lv[s] < 0)) (by omega) (by omega) (by
      rw [keyG hs]
      simp)
    clear ih hmay
    have hlt : decide ((s : Int) < ((row encZ lv).length : Int)) = true := decide_eq_true (by rw [row_length]; omega)
    rcases dn with _ | nt <;> rcases l2 with _ | ⟨x, r⟩
    all_goals
      first
        | refine (s1jn (F := F) N fuel n lv may s k).symm ▸ ?_
        | refine (s1js (F := F) N fuel n lv (x :: r) may s k).symm ▸ ?_
        | refine (s1in (F := F) N fuel n lv nt may s k).symm ▸ ?_
        | refine (s1is (F := F) N fuel n lv nt (x :: r) may s k).symm ▸ ?_
      refine condT hlt (condT (by simp) ?_)
      rw [rowG hs]
      exact condT rfl hA
end Go.Proofs.Ytiiddampachhlaa
/-
  VictimTwo: the law's run is true.
-/
namespace Go.Proofs.Ytiiddampachhlaa
open Go Go.X
variable {F : Nat}
set_option maxRecDepth 100000
theorem P0 : PTab (S F) T0 0 := PTab.none
theorem told5 (N : Nat) : Tells (S F) 5 t5 N := Tells.given rfl given5 N
theorem told14 : Tells (S F) 14 t14 9 := P0.told 9 rfl fun N => cmp14 N
theorem told22 : Tells (S F) 22 t22 9 := P0.told 9 rfl fun N => swap22 N
theorem told17 : Tells (S F) 17 t17 9 := P0.told 9 rfl fun N => idx17 N
theorem told15 : Tells (S F) 15 t15o 9 := P0.told 9 rfl fun N => cln15 N
theorem told19n : Tells (S F) 19 t19n 9 := P0.told 9 rfl fun N => ins19n N
theorem P1 : PTab (S F) T1 9 := (P0.mono (by omega)).cons told14
theorem told19 : Tells (S F) 19 t19 18 := P1.told 9 rfl fun N => ins19 N
theorem P12 : PTab (S F) T12 9 := (P0.mono (by omega)).cons told17
theorem told12 : Tells (S F) 12 t12 18 := P12.told 9 rfl fun N => has12 N
theorem P21 : PTab (S F) T21 9 := (P0.mono (by omega)).cons told22
theorem told21 : Tells (S F) 21 t21 18 := P21.told 9 rfl fun N => rot21 N
theorem told20 : ∀ d : Nat, Tells (S F) 20 (t20 d) (18 + 9 * d)
  | 0 => fun n _ args H k h => by
    obtain ⟨P, U, V, Q, lv, _, _, hU, _, hd, _⟩ := h
    have := List.length_pos_iff.2 hU
    simp only [List.length_append] at hd
    omega
  | d + 1 => by
    have h := told20 d
    have PT : PTab (S F) (T20 d) (18 + 9 * d) := (((P0.mono (by omega)).cons (told14.mono (by omega))).cons (told21.mono (by omega))).cons h
    exact (PT.told 9 rfl fun N => mrg20 d N).mono (by omega)
theorem P18 : PTab (S F) T18 9018 := ((P0.mono (by omega)).cons ((told20 1000).mono (by omega))).cons (told19.mono (by omega))
theorem told18 : Tells (S F) 18 t18 9027 := P18.told 9 rfl fun N => stb18 N
theorem P13 : PTab (S F) T13 9027 := (P0.mono (by omega)).cons told18
theorem told13 : Tells (S F) 13 t13 9036 := P13.told 9 rfl fun N => srt13 N
theorem P18n : PTab (S F) T18n 9 := (P0.mono (by omega)).cons told19n
theorem told18n : Tells (S F) 18 t18n 18 := P18n.told 9 rfl fun N => stb18n N
theorem P13n : PTab (S F) T13n 18 := (P0.mono (by omega)).cons told18n
theorem told13n : Tells (S F) 13 t13n 27 := P13n.told 9 rfl fun N => srt13n N
theorem told13o : Tells (S F) 13 t13o 9036 := fun n hn args H k h => by
  obtain ⟨dx, dl, rfl, rfl, h1, h2, h3, k1, k2, k3⟩ := h
  cases dx with
  | none =>
    refine told13n n (by omega) _ _ k ⟨dl, rfl, rfl, k1 rfl, fun lv hl => k2 lv rfl hl⟩
  | some X =>
    cases dl with
    | none => have := h1 rfl; cases this
    | some lv => exact told13 n hn _ _ k ⟨X, lv, rfl, rfl, h2, h3, fun W hp hs => k3 X lv rfl rfl W hp hs⟩
theorem P6 : PTab (S F) T6 9036 := ((P0.mono (by omega)).cons (told12.mono (by omega))).cons (told15.mono (by omega)) |>.cons told13o
theorem told6 : Tells (S F) 6 t6 9045 := P6.told 9 rfl fun N => two6 N
theorem told6n : Tells (S F) 6 t6n 9045 := P6.told 9 rfl fun N => two6n N
theorem P3 : PTab (S F) T3 9045 := ((P0.mono (by omega)).cons (told5 9045)).cons told6
theorem P3n : PTab (S F) T3n 9045 := ((P0.mono (by omega)).cons (told5 9045)).cons told6n
theorem law3 (N : Nat) (lv : List Int) (dn : Option (List Int)) (hb : ∀ x, x ∈ lv → x < 2 ^ 63) : runP (S F) T3 N 9 (S F).fu 3 [LV lv, dZ dn] [] fun v _ _ => v = .bool true := by
  have main : lv.length ≤ 60 → (dn.getD []).length ≤ 60 → ∀ l2 W : List Int, W.Perm (selF lv (dn.getD []) lv.length 0) → Srt lv W → l2 = W.take 2 →
      resPS (S F) T3 N 9 (S F).fu 3 2 0 [] p31 (S F).fu ⟨M1 lv (dZ dn) (lA l2) 0 0, [], lH l2, false⟩ fun v _ _ => v = .bool true := fun hl hn l2 W hp hs h2 =>
    loop1 (F := F) N (S F).fu lv dn l2 (fun v _ _ => v = .bool true) (by rw [S_fu]; omega) hn (good_of hp hs h2) hl (by rw [h2, List.length_take]; omega) (fun _ => rfl) lv.length 0 (S F).fu 0 (by omega) (by rw [S_fu]; omega) (by omega) (by omega)
  have both : lv.length ≤ 60 → (dn.getD []).length ≤ 60 → ∀ l2 W : List Int, W.Perm (selF lv (dn.getD []) lv.length 0) → Srt lv W → l2 = W.take 2 →
      ((l2 = []) → resPS (S F) T3 N 9 (S F).fu 3 2 0 [] p31 (S F).fu ⟨M1 lv (dZ dn) .nils 0 0, [], [], false⟩ fun v _ _ => v = .bool true) ∧
      ((l2 ≠ []) → resPS (S F) T3 N 9 (S F).fu 3 2 0 [] p31 (S F).fu ⟨M1 lv (dZ dn) (.sl ⟨3, 0, [], l2.length⟩ 1 l2.length 0 l2.length) 0 0, [], HR l2, false⟩ fun v _ _ => v = .bool true) := fun hl hn l2 W hp hs h2 => by
    have h := main hl hn l2 W hp hs h2
    cases l2 with
    | nil => exact ⟨fun _ => h, fun h' => absurd rfl h'⟩
    | cons x r => exact ⟨(fun h' => by cases h'), fun _ => h⟩
  rcases dn with _ | nt
  · show runP (S F) T3 N 9 (S F).fu 3 [LV lv, .nils] [] _
    rw [start3j]
    by_cases h1 : lv.length ≤ 60
    · refine condF (decide_eq_false (by rw [row_length]; omega)) ?_
      exact ⟨lv, none, rfl, rfl, by omega, by simp, hb, both h1 (by simp)⟩
    · exact condT (decide_eq_true (by rw [row_length]; omega)) ⟨rfl, rfl⟩
  · show runP (S F) T3 N 9 (S F).fu 3 [LV lv, LV nt] [] _
    rw [start3i]
    by_cases h1 : lv.length ≤ 60
    · refine condF (decide_eq_false (by rw [row_length]; omega)) ?_
      by_cases h2 : nt.length ≤ 60
      · refine condF (decide_eq_false (by rw [row_length]; omega)) ?_
        exact ⟨lv, some nt, rfl, rfl, by omega, by simp; omega, hb, both h1 h2⟩
      · exact condT (decide_eq_true (by rw [row_length]; omega)) ⟨rfl, rfl⟩
    · exact condT (decide_eq_true (by rw [row_length]; omega)) ⟨rfl, rfl⟩
theorem law3n (N : Nat) (dn : Option (List Int)) : runP (S F) T3n N 9 (S F).fu 3 [.nils, dZ dn] [] fun v _ _ => v = .bool true := by
  rcases dn with _ | nt
  · refine (nil3j (F := F) N (F + 4999) _).symm ▸ ?_
    exact ⟨none, rfl, rfl, rfl, rfl⟩
  · refine (nil3i (F := F) N (F + 4999) nt _).symm ▸ ?_
    cases hq : decide (((row encZ nt).length : Int) > 60)
    · exact condF rfl ⟨some nt, rfl, rfl, rfl, rfl⟩
    · exact condT rfl ⟨rfl, rfl⟩
theorem runTwo (lv : List Int) (dn : Option (List Int)) (hb : ∀ x, x ∈ lv → x < 2 ^ 63) : ∃ H' e, Ktrue Try.prog U.G 3 [LV lv, dZ dn] [] = some (.bool true, H', e) :=
  (P3 (F := 0)).law' okS 9 rfl (law3 9045 lv dn hb)
theorem runTwoN (dn : Option (List Int)) : ∃ H' e, Ktrue Try.prog U.G 3 [.nils, dZ dn] [] = some (.bool true, H', e) :=
  (P3n (F := 0)).law' okS 9 rfl (law3n 9045 dn)
end Go.Proofs.Ytiiddampachhlaa
