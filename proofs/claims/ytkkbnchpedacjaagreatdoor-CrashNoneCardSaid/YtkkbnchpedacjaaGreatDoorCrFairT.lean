/-
  Fair, of any entries: its rounds.
-/
import Derived.Test.YtkkbnchpedacjaaGreatDoorMBase
namespace Go.Proofs.YtkkbnchpedacjaaGreatDoor
open Go Go.X
def SQ (xs : List AV) (i : Int) : St := ⟨[(0, .isl 6 xs), (2, .bad), (3, .int .i64 i), (7, .bad), (17, .bad)], [], [], false⟩
theorem start53 {R : Type} (bot : R) (fuel : Nat) (xs : List AV) (K : Oracle) (KK : OracleK R) (k : AV → Heap → Bool → R) :
    evalFK bot true Tryz.prog U ann fuel K KK 53 [.isl 6 xs] [] k =
    resumeFK bot true Tryz.prog U ann fuel K KK 53 1 0 [true, false, true] fuel (St.mk [((0 : Nat), AV.isl (6 : Nat) xs), ((2 : Nat), AV.bad), ((3 : Nat), AV.int IntKind.i64 (0 : Int)), ((7 : Nat), AV.bad), ((17 : Nat), AV.bad)] [] [] false) k := by kernel_rfl
theorem step53 {R : Type} (bot : R) (fuel n : Nat) (xs : List AV) (i : Nat) (K : Oracle) (KK : OracleK R) (k : AV → Heap → Bool → R) :
    resumeFK bot true Tryz.prog U ann fuel K KK 53 1 0 [true, false, true] (n + 1) (SQ xs i) k =
    cond (decide ((↑i : Int) < (↑(List.length xs) : Int)))
     (cond (AV.isAggN (Option.getD xs[i]? AV.bad) (6 : Nat) (3 : Nat))
      (cond (AV.isIntK (AV.part (Option.getD xs[i]? AV.bad) (0 : Nat)) IntKind.i64)
       (cond (AV.isIntK (AV.part (Option.getD xs[i]? AV.bad) (1 : Nat)) IntKind.i64)
        (cond (AV.isAggN (AV.part (Option.getD xs[i]? AV.bad) (2 : Nat)) (4 : Nat) (4 : Nat))
         (cond (AV.isIntK (AV.part (AV.part (Option.getD xs[i]? AV.bad) (2 : Nat)) (0 : Nat)) IntKind.i64)
          (cond (AV.isIntK (AV.part (AV.part (Option.getD xs[i]? AV.bad) (2 : Nat)) (1 : Nat)) IntKind.i64)
           (cond (AV.isIntK (AV.part (AV.part (Option.getD xs[i]? AV.bad) (2 : Nat)) (2 : Nat)) IntKind.i64)
            (cond (AV.isNils (AV.part (AV.part (Option.getD xs[i]? AV.bad) (2 : Nat)) (3 : Nat)))
             (resumeFK bot true Tryz.prog U ann fuel K KK 53 1 0 [true, false, true] n (St.mk [((0 : Nat), AV.isl (6 : Nat) xs), ((2 : Nat), AV.bad), ((3 : Nat), AV.int IntKind.i64 (IntKind.wrap IntKind.i64 ((↑i : Int) + (1 : Int)))), ((7 : Nat), AV.bad), ((17 : Nat), AV.bad)] [] [] false) k)
             (cond (AV.isIslN (AV.part (AV.part (Option.getD xs[i]? AV.bad) (2 : Nat)) (3 : Nat)) (1 : Nat))
              (cond (decide ((↑(List.length (AV.toList (AV.part (AV.part (Option.getD xs[i]? AV.bad) (2 : Nat)) (3 : Nat)))) : Int) > (100 : Int)))
               (k (AV.bool false) [] false)
               (resumeFK bot true Tryz.prog U ann fuel K KK 53 1 0 [true, false, true] n (St.mk [((0 : Nat), AV.isl (6 : Nat) xs), ((2 : Nat), AV.bad), ((3 : Nat), AV.int IntKind.i64 (IntKind.wrap IntKind.i64 ((↑i : Int) + (1 : Int)))), ((7 : Nat), AV.bad), ((17 : Nat), AV.bad)] [] [] false) k))
              (bot)))
            (bot))
           (bot))
          (bot))
         (bot))
        (bot))
       (bot))
      (bot))
     (k (AV.bool (decide ((↑(List.length xs) : Int) ≤ (200 : Int)))) [] false) := by kernel_rfl
theorem nil53 {R : Type} (bot : R) (fuel : Nat) (K : Oracle) (KK : OracleK R) (k : AV → Heap → Bool → R) :
    evalFK bot true Tryz.prog U ann (fuel + 1) K KK 53 [.nils] [] k =
    k (AV.bool true) [] false := by kernel_rfl

end Go.Proofs.YtkkbnchpedacjaaGreatDoor
