/-
  The law's run, where its test run answers true.
-/
import Derived.Test.YtkkbnchpedacjaaGreatDoorCrFair
namespace Go.Proofs.YtkkbnchpedacjaaGreatDoor
open Go Go.X
def T1 : Table := fun f => if f = 67 then some (fun xs => match xs with
  | [] => some (true, .bool true)
  | _ => none) else T0 f
def T2 : Table := fun f => if f = 53 then some (fun xs => match xs with
  | [.isl 6 xs] => some (okEs xs && decide (xs.length ≤ 9223372036854775807), .bool (fairE xs))
  | [.nils] => some (true, .bool true)
  | _ => none) else T1 f
theorem law9nn {R : Type} (bot : R) (a : Int) (K : AV → Heap → Bool → R) :
    evalTK bot Tryz.prog U ann 1000 T2 50 9 [.nils, .agg 2 [.int .i64 a, .nils]] [] K =
    K (AV.bool true) [] false := by kernel_rfl
theorem law9ns {R : Type} (bot : R) (a : Int) (ys : List AV) (K : AV → Heap → Bool → R) :
    evalTK bot Tryz.prog U ann 1000 T2 50 9 [.nils, .agg 2 [.int .i64 a, .isl 1 ys]] [] K =
    cond (!decide ((↑(List.length ys) : Int) ≤ (300 : Int)))
     (K (AV.bool true) [] false)
     (K (AV.bool true) [] false) := by kernel_rfl
theorem law9sn {R : Type} (bot : R) (a : Int) (xs : List AV) (K : AV → Heap → Bool → R) :
    evalTK bot Tryz.prog U ann 1000 T2 50 9 [.isl 6 xs, .agg 2 [.int .i64 a, .nils]] [] K =
    cond (okEs xs && decide (List.length xs ≤ (9223372036854775807 : Nat)))
     (cond (!fairE xs)
      (K (AV.bool true) [] false)
      (K (AV.bool true) [] false))
     (bot) := by kernel_rfl
theorem law9ss {R : Type} (bot : R) (a : Int) (xs ys : List AV) (K : AV → Heap → Bool → R) :
    evalTK bot Tryz.prog U ann 1000 T2 50 9 [.isl 6 xs, .agg 2 [.int .i64 a, .isl 1 ys]] [] K =
    cond (okEs xs && decide (List.length xs ≤ (9223372036854775807 : Nat)))
     (cond (!fairE xs)
      (K (AV.bool true) [] false)
      (cond (!decide ((↑(List.length ys) : Int) ≤ (300 : Int)))
       (K (AV.bool true) [] false)
       (K (AV.bool true) [] false)))
     (bot) := by kernel_rfl

end Go.Proofs.YtkkbnchpedacjaaGreatDoor
