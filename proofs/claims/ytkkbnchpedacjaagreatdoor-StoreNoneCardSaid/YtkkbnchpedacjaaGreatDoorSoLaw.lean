/-
  The law's run, where its test run answers true.
-/
import Derived.Test.YtkkbnchpedacjaaGreatDoorMBase
namespace Go.Proofs.YtkkbnchpedacjaaGreatDoor
open Go Go.X
def T1 : Table := fun f => if f = 54 then some (fun xs => match xs with
  | [] => some (true, .bool true)
  | _ => none) else T0 f
theorem law8n {R : Type} (bot : R) (e s k p o : Int) (K : AV → Heap → Bool → R) :
    evalTK bot Tryz.prog U ann 1000 T1 50 8 [.agg 6 [.int .i64 e, .int .i64 s, .agg 4 [.int .i64 k, .int .i64 p, .int .i64 o, .nils]]] [] K =
    K (AV.bool true) [] false := by kernel_rfl
theorem law8s {R : Type} (bot : R) (e s k p o : Int) (xs : List AV) (K : AV → Heap → Bool → R) :
    evalTK bot Tryz.prog U ann 1000 T1 50 8 [.agg 6 [.int .i64 e, .int .i64 s, .agg 4 [.int .i64 k, .int .i64 p, .int .i64 o, .isl 1 xs]]] [] K =
    cond (decide ((↑(List.length xs) : Int) > (100 : Int)))
     (K (AV.bool true) [] false)
     (K (AV.bool true) [] false) := by kernel_rfl

end Go.Proofs.YtkkbnchpedacjaaGreatDoor
