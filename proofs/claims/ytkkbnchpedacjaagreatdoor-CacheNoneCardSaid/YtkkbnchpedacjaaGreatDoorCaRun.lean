/-
  The law's run: the test run answers true, so does the law.
-/
import Derived.Test.YtkkbnchpedacjaaGreatDoorCaW
import Derived.Test.YtkkbnchpedacjaaGreatDoorCaLaw
namespace Go.Proofs.YtkkbnchpedacjaaGreatDoor
open Go Go.X
theorem F1 : FunTab Tryz.prog U T1 := FunTab.none.addK (ann := ann) (fuel := 1000) (n := 100) CaSt extU mixed hA (g := 32) (fun xs v h => by
  split at h
  · simp only [Option.some.injEq, Prod.mk.injEq, true_and] at h
    subst h
    exact ⟨rfl, CawakesRun⟩
  · cases h)
theorem run6s (k p o : Int) (xs : List AV) : evalTK false Tryz.prog U ann 1000 T1 50 6 [.agg 4 [.int .i64 k, .int .i64 p, .int .i64 o, .isl 1 xs]] [] (fun v _ _ => v.isTrue) = true := by
  rw [law6s]
  cases decide ((xs.length : Int) > 100) <;> rfl
theorem run6n (k p o : Int) : evalTK false Tryz.prog U ann 1000 T1 50 6 [.agg 4 [.int .i64 k, .int .i64 p, .int .i64 o, .nils]] [] (fun v _ _ => v.isTrue) = true := law6n false k p o _
end Go.Proofs.YtkkbnchpedacjaaGreatDoor
