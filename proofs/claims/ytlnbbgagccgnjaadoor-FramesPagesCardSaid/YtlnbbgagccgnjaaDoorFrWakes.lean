/-
  The statements' own test run of the layer answers true.
-/
import Derived.Test.YtlnbbgagccgnjaaDoorFrPagesT
namespace Go.Proofs.YtlnbbgagccgnjaaDoor
open Go Go.X
theorem wakes : evalTK false Tryd.prog U ann 1000 T0 100 10 [] [] (fun v _ _ => v.isTrue) = true := by kernel_rfl
theorem F1 : FunTab Tryd.prog U T1 := FunTab.none.addN (ann := ann) (fuel := 1000) (n := 100) extU mixed hA (g := 10) (fun xs v h => by
  split at h
  · simp only [Option.some.injEq, Prod.mk.injEq, true_and] at h
    subst h
    exact ⟨rfl, run_of_trueT wakes⟩
  · cases h)
theorem G1 : MemTab Tryd.prog U T1 M0 := MemTab.ofFun F1
end Go.Proofs.YtlnbbgagccgnjaaDoor
