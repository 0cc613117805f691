/-
  What is told of the functions that the law calls: each wakes is true; of no core there is no chain.
-/
import Derived.Test.YtkkbnchpedacjaaGreatDoorCoW
namespace Go.Proofs.YtkkbnchpedacjaaGreatDoor
open Go Go.X
set_option maxRecDepth 100000
def T1 : Table := fun f => if f = 15 then some (fun xs => match xs with
  | [] => some (true, .bool true)
  | _ => none) else T0 f
theorem F1 : FunTab Tryz.prog U T1 := FunTab.none.addK (ann := ann) (fuel := 1000) (n := 100) CoSt extU mixed hA (g := 15) (fun xs v h => by
  split at h
  · simp only [Option.some.injEq, Prod.mk.injEq, true_and] at h
    subst h
    exact ⟨rfl, CowakesRun⟩
  · cases h)
/-- No chain, of no core. -/
def noCh : AV := .tuple [.agg 33 [.nils, .arr 1 (rp 32 (.int .u8 0) [])], .int .i64 1]
theorem chain18 {R : Type} (bot : R) (id : Int) (n : Nat) (k : AV → Heap → Bool → R) : evalTK bot Tryz.prog U ann 1000 T1 (n + 3) 18 [.nilp, .int .i64 id] [] k =
    cond (decide (id < 0)) (k noCh [] false) (cond (decide (id ≥ 0)) (k noCh [] false) bot) := by kernel_rfl
def T2 : Table := fun f => if f = 18 then some (fun xs => match xs with
  | [.nilp, .int .i64 _] => some (true, noCh)
  | _ => none) else T1 f
theorem F2 : FunTab Tryz.prog U T2 := F1.add (ann := ann) (fuel := 1000) (n := 3) extU mixed hA (g := 18) (fun xs v h => by
  split at h
  · rename_i id
    simp only [Option.some.injEq, Prod.mk.injEq, true_and] at h
    subst h
    refine ⟨rfl, (chain18 none id 0 _).trans ?_⟩
    by_cases h : id < 0
    · simp [h]
    · simp [h, Int.not_lt.1 h]
  · cases h)
end Go.Proofs.YtkkbnchpedacjaaGreatDoor
