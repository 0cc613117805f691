/-
  The law's run: the test run answers true, so does the law.
-/
import Derived.Test.YtkkbnchpedacjaaGreatDoorSoW
import Derived.Test.YtkkbnchpedacjaaGreatDoorSoLaw
namespace Go.Proofs.YtkkbnchpedacjaaGreatDoor
open Go Go.X
theorem F1 : FunTab Tryz.prog U T1 := FunTab.none.addK (ann := ann) (fuel := 1000) (n := 100) SoSt extU mixed hA (g := 54) (fun xs v h => by
  split at h
  · simp only [Option.some.injEq, Prod.mk.injEq, true_and] at h
    subst h
    exact ⟨rfl, SowakesRun⟩
  · cases h)
theorem run8s (e s k p o : Int) (xs : List AV) : evalTK false Tryz.prog U ann 1000 T1 50 8 [.agg 6 [.int .i64 e, .int .i64 s, .agg 4 [.int .i64 k, .int .i64 p, .int .i64 o, .isl 1 xs]]] [] (fun v _ _ => v.isTrue) = true := by
  rw [law8s]
  cases decide ((xs.length : Int) > 100) <;> rfl
theorem run8n (e s k p o : Int) : evalTK false Tryz.prog U ann 1000 T1 50 8 [.agg 6 [.int .i64 e, .int .i64 s, .agg 4 [.int .i64 k, .int .i64 p, .int .i64 o, .nils]]] [] (fun v _ _ => v.isTrue) = true := law8n false e s k p o _
end Go.Proofs.YtkkbnchpedacjaaGreatDoor
