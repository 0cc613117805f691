/-
  The run of the law: each wakes is true.
-/
import Derived.Test.YtkkbnchpedacjaaGreatDoorClW
namespace Go.Proofs.YtkkbnchpedacjaaGreatDoor
open Go Go.X
def T1 : Table := fun f => if f = 26 then some (fun xs => match xs with
  | [] => some (true, .bool true)
  | _ => none) else T0 f
theorem F1 : FunTab Tryz.prog U T1 := FunTab.none.addK (ann := ann) (fuel := 1000) (n := 100) ClS2 extU mixed hA (g := 26) (fun xs v h => by
  split at h
  · simp only [Option.some.injEq, Prod.mk.injEq, true_and] at h
    subst h
    exact ⟨rfl, ClwakesRun⟩
  · cases h)
theorem lawNil : evalYQ false Tryz.prog U ann 1000 (pureK (kOf T1)) (ktab T1) (txt Bool) 100 5 [.nils] [] (fun v _ _ => v.isTrue) = true := of_whnf (by kernel_rfl)
theorem lawSl (xs : List AV) : evalYQ false Tryz.prog U ann 1000 (pureK (kOf T1)) (ktab T1) (txt Bool) 100 5 [.isl 1 xs] [] (fun v _ _ => v.isTrue) = cond (ltQ 100 (.ofNat xs.length)) true true := by kernel_rfl
theorem lawRun (xs : List AV) : evalYQ false Tryz.prog U ann 1000 (pureK (kOf T1)) (ktab T1) (txt Bool) 100 5 [.isl 1 xs] [] (fun v _ _ => v.isTrue) = true := by
  rw [lawSl]
  cases ltQ 100 (.ofNat xs.length) <;> rfl
end Go.Proofs.YtkkbnchpedacjaaGreatDoor
