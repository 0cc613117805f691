/-
  Commit, of no core: it is wrong, whatever is wanted.
-/
import Derived.Test.YtkkbnchpedacjaaGreatDoorCoLawT
namespace Go.Proofs.YtkkbnchpedacjaaGreatDoor
open Go Go.X
def SC (xs : List AV) (ids : AV) (i : Int) (H : Heap) : St := ⟨[(0, .nilp), (1, .isl 34 xs), (4, .bad), (5, ids), (7, .bad), (8, .bad), (9, .bad), (11, .bad), (13, .bad), (14, .bad), (15, .bad), (16, .bad), (17, .bad), (18, .isl 34 xs), (19, .int .i64 xs.length), (20, .int .i64 i), (21, .bad), (36, .bad), (38, .bad), (39, .bad), (40, .bad), (41, .bad), (56, .bad), (58, .bad), (59, .bad), (60, .bad), (61, .bad), (74, .bad), (76, .bad)], [], H, false⟩
def idsV (n : Nat) : AV := .sl ⟨2, 0, [], 1 * n⟩ 1 n 0 n
def idsH (ys : List AV) : Heap := [none, none, some ⟨.arr 1 ys, true, true⟩]
theorem start19 {R : Type} (bot : R) (fuel : Nat) (xs : List AV) (K : Oracle) (KK : OracleK R) (k : AV → Heap → Bool → R) :
    evalFK bot true Tryz.prog U ann fuel K KK 19 [.nilp, .isl 34 xs] [] k =
    resumeFK bot true Tryz.prog U ann fuel K KK 19 2 0 [true, true, false, true] fuel (St.mk [((0 : Nat), AV.nilp), ((1 : Nat), AV.isl (34 : Nat) xs), ((4 : Nat), AV.bad), ((5 : Nat), AV.nils), ((7 : Nat), AV.bad), ((8 : Nat), AV.bad), ((9 : Nat), AV.bad), ((11 : Nat), AV.bad), ((13 : Nat), AV.bad), ((14 : Nat), AV.bad), ((15 : Nat), AV.bad), ((16 : Nat), AV.bad), ((17 : Nat), AV.bad), ((18 : Nat), AV.isl (34 : Nat) xs), ((19 : Nat), AV.int IntKind.i64 (↑(List.length xs) : Int)), ((20 : Nat), AV.int IntKind.i64 (0 : Int)), ((21 : Nat), AV.bad), ((36 : Nat), AV.bad), ((38 : Nat), AV.bad), ((39 : Nat), AV.bad), ((40 : Nat), AV.bad), ((41 : Nat), AV.bad), ((56 : Nat), AV.bad), ((58 : Nat), AV.bad), ((59 : Nat), AV.bad), ((60 : Nat), AV.bad), ((61 : Nat), AV.bad), ((74 : Nat), AV.bad), ((76 : Nat), AV.bad)] [] [] false) k := by kernel_rfl
theorem first19 {R : Type} (bot : R) (fuel n m : Nat) (xs : List AV) (k : AV → Heap → Bool → R) :
    resumeFK bot true Tryz.prog U ann fuel (evalN Tryz.prog U ann fuel (pureK (kOf T2)) (m + 2)) (evalTK bot Tryz.prog U ann fuel T2 (m + 2)) 19 2 0 [true, true, false, true] (n + 1) (SC xs .nils 0 []) k =
    cond (decide ((0 : Int) < (↑(List.length xs) : Int)))
     (cond (AV.isAggN (Option.getD xs[(0 : Nat)]? AV.bad) (34 : Nat) (3 : Nat))
      (cond (AV.isIntK (AV.part (Option.getD xs[(0 : Nat)]? AV.bad) (0 : Nat)) IntKind.i64)
       (cond (AV.isIntK (AV.part (Option.getD xs[(0 : Nat)]? AV.bad) (1 : Nat)) IntKind.i64)
        (cond (AV.isArrN (AV.part (Option.getD xs[(0 : Nat)]? AV.bad) (2 : Nat)) (1 : Nat) (32 : Nat))
         (cond (true && AV.refless (AV.agg (34 : Nat) [AV.int IntKind.i64 (AV.toInt (AV.part (Option.getD xs[(0 : Nat)]? AV.bad) (0 : Nat))), AV.int IntKind.i64 (AV.toInt (AV.part (Option.getD xs[(0 : Nat)]? AV.bad) (1 : Nat))), AV.arr (1 : Nat) (AV.toArr (AV.part (Option.getD xs[(0 : Nat)]? AV.bad) (2 : Nat)))]))
          (resumeFK bot true Tryz.prog U ann fuel (evalN Tryz.prog U ann fuel (pureK (kOf T2)) (m + 2)) (evalTK bot Tryz.prog U ann fuel T2 (m + 2)) 19 2 0 [true, true, false, true] n (St.mk [((0 : Nat), AV.nilp), ((1 : Nat), AV.isl (34 : Nat) xs), ((4 : Nat), AV.bad), ((5 : Nat), AV.sl (Pl.mk (2 : Nat) (0 : Nat) [] (1 : Nat)) (1 : Nat) (1 : Nat) (0 : Nat) (1 : Nat)), ((7 : Nat), AV.bad), ((8 : Nat), AV.bad), ((9 : Nat), AV.bad), ((11 : Nat), AV.bad), ((13 : Nat), AV.bad), ((14 : Nat), AV.bad), ((15 : Nat), AV.bad), ((16 : Nat), AV.bad), ((17 : Nat), AV.bad), ((18 : Nat), AV.isl (34 : Nat) xs), ((19 : Nat), AV.int IntKind.i64 (↑(List.length xs) : Int)), ((20 : Nat), AV.int IntKind.i64 (IntKind.wrap IntKind.i64 ((0 : Int) + (1 : Int)))), ((21 : Nat), AV.bad), ((36 : Nat), AV.bad), ((38 : Nat), AV.bad), ((39 : Nat), AV.bad), ((40 : Nat), AV.bad), ((41 : Nat), AV.bad), ((56 : Nat), AV.bad), ((58 : Nat), AV.bad), ((59 : Nat), AV.bad), ((60 : Nat), AV.bad), ((61 : Nat), AV.bad), ((74 : Nat), AV.bad), ((76 : Nat), AV.bad)] [] [none, none, some (Blk.mk (AV.arr (1 : Nat) [AV.int IntKind.i64 (AV.toInt (AV.int IntKind.i64 (AV.toInt (AV.part (Option.getD xs[(0 : Nat)]? AV.bad) (0 : Nat)))))]) true true)] false) k)
          (bot))
         (bot))
        (bot))
       (bot))
      (bot))
     (k (AV.int IntKind.i64 (1 : Int)) [] false) := by kernel_rfl
theorem step19 {R : Type} (bot : R) (fuel n m : Nat) (xs ys : List AV) (i : Nat) (k : AV → Heap → Bool → R) :
    resumeFK bot true Tryz.prog U ann fuel (evalN Tryz.prog U ann fuel (pureK (kOf T2)) (m + 2)) (evalTK bot Tryz.prog U ann fuel T2 (m + 2)) 19 2 0 [true, true, false, true] (n + 1) (SC xs (idsV i) i (idsH ys)) k =
    cond (decide ((↑i : Int) < (↑(List.length xs) : Int)))
     (cond (AV.isAggN (Option.getD xs[i]? AV.bad) (34 : Nat) (3 : Nat))
      (cond (AV.isIntK (AV.part (Option.getD xs[i]? AV.bad) (0 : Nat)) IntKind.i64)
       (cond (AV.isIntK (AV.part (Option.getD xs[i]? AV.bad) (1 : Nat)) IntKind.i64)
        (cond (AV.isArrN (AV.part (Option.getD xs[i]? AV.bad) (2 : Nat)) (1 : Nat) (32 : Nat))
         (cond (true && AV.refless (AV.agg (34 : Nat) [AV.int IntKind.i64 (AV.toInt (AV.part (Option.getD xs[i]? AV.bad) (0 : Nat))), AV.int IntKind.i64 (AV.toInt (AV.part (Option.getD xs[i]? AV.bad) (1 : Nat))), AV.arr (1 : Nat) (AV.toArr (AV.part (Option.getD xs[i]? AV.bad) (2 : Nat)))]))
          (cond (decide ((1 : Nat) * List.length ys = (1 : Nat) * i) && decide (List.length ys = i) && decide ((0 : Nat) + i ≤ i))
           (cond (decide ((0 : Nat) + i + (1 : Nat) ≤ i))
            (resumeFK bot true Tryz.prog U ann fuel (evalN Tryz.prog U ann fuel (pureK (kOf T2)) (m + 2)) (evalTK bot Tryz.prog U ann fuel T2 (m + 2)) 19 2 0 [true, true, false, true] n (St.mk [((0 : Nat), AV.nilp), ((1 : Nat), AV.isl (34 : Nat) xs), ((4 : Nat), AV.bad), ((5 : Nat), AV.sl (Pl.mk (2 : Nat) (0 : Nat) [] ((1 : Nat) * i)) (1 : Nat) i (0 : Nat) (i + (1 : Nat))), ((7 : Nat), AV.bad), ((8 : Nat), AV.bad), ((9 : Nat), AV.bad), ((11 : Nat), AV.bad), ((13 : Nat), AV.bad), ((14 : Nat), AV.bad), ((15 : Nat), AV.bad), ((16 : Nat), AV.bad), ((17 : Nat), AV.bad), ((18 : Nat), AV.isl (34 : Nat) xs), ((19 : Nat), AV.int IntKind.i64 (↑(List.length xs) : Int)), ((20 : Nat), AV.int IntKind.i64 (IntKind.wrap IntKind.i64 ((↑i : Int) + (1 : Int)))), ((21 : Nat), AV.bad), ((36 : Nat), AV.bad), ((38 : Nat), AV.bad), ((39 : Nat), AV.bad), ((40 : Nat), AV.bad), ((41 : Nat), AV.bad), ((56 : Nat), AV.bad), ((58 : Nat), AV.bad), ((59 : Nat), AV.bad), ((60 : Nat), AV.bad), ((61 : Nat), AV.bad), ((74 : Nat), AV.bad), ((76 : Nat), AV.bad)] [] [none, none, some (Blk.mk (AV.arr (1 : Nat) (setMany ys ((0 : Nat) + i) [AV.int IntKind.i64 (AV.toInt (AV.int IntKind.i64 (AV.toInt (AV.part (Option.getD xs[i]? AV.bad) (0 : Nat)))))])) true true)] false) k)
            (cond (true && decide (i = i) && true && decide ((i + (1 : Nat)) * (8 : Nat) ≤ (70368744177664 : Nat)) && decide (i + (1 : Nat) ≤ (70368744177664 : Nat)))
             (resumeFK bot true Tryz.prog U ann fuel (evalN Tryz.prog U ann fuel (pureK (kOf T2)) (m + 2)) (evalTK bot Tryz.prog U ann fuel T2 (m + 2)) 19 2 0 [true, true, false, true] n (St.mk [((0 : Nat), AV.nilp), ((1 : Nat), AV.isl (34 : Nat) xs), ((4 : Nat), AV.bad), ((5 : Nat), AV.sl (Pl.mk (2 : Nat) (0 : Nat) [] ((1 : Nat) * (i + (1 : Nat)))) (1 : Nat) (i + (1 : Nat)) (0 : Nat) (i + (1 : Nat))), ((7 : Nat), AV.bad), ((8 : Nat), AV.bad), ((9 : Nat), AV.bad), ((11 : Nat), AV.bad), ((13 : Nat), AV.bad), ((14 : Nat), AV.bad), ((15 : Nat), AV.bad), ((16 : Nat), AV.bad), ((17 : Nat), AV.bad), ((18 : Nat), AV.isl (34 : Nat) xs), ((19 : Nat), AV.int IntKind.i64 (↑(List.length xs) : Int)), ((20 : Nat), AV.int IntKind.i64 (IntKind.wrap IntKind.i64 ((↑i : Int) + (1 : Int)))), ((21 : Nat), AV.bad), ((36 : Nat), AV.bad), ((38 : Nat), AV.bad), ((39 : Nat), AV.bad), ((40 : Nat), AV.bad), ((41 : Nat), AV.bad), ((56 : Nat), AV.bad), ((58 : Nat), AV.bad), ((59 : Nat), AV.bad), ((60 : Nat), AV.bad), ((61 : Nat), AV.bad), ((74 : Nat), AV.bad), ((76 : Nat), AV.bad)] [] [none, none, some (Blk.mk (AV.arr (1 : Nat) (ys ++ [AV.int IntKind.i64 (AV.toInt (AV.int IntKind.i64 (AV.toInt (AV.part (Option.getD xs[i]? AV.bad) (0 : Nat)))))])) true true)] false) k)
             (bot)))
           (bot))
          (bot))
         (bot))
        (bot))
       (bot))
      (bot))
     (k (AV.int IntKind.i64 (1 : Int)) [] false) := by kernel_rfl

end Go.Proofs.YtkkbnchpedacjaaGreatDoor
