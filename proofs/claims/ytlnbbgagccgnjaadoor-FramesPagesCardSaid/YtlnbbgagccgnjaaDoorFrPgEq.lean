/-
  Pages of one byte are alike.
-/
import Derived.Test.YtlnbbgagccgnjaaDoorFrPagesT
namespace Go.Proofs.YtlnbbgagccgnjaaDoor
open Go Go.X
theorem t5agg : tagg Tryd.prog 5 = some false := by kernel_rfl
theorem eqB (a b : Int) : eqAV Tryd.prog 29 5 (.int .u8 a) (.int .u8 b) = some (a == b) := by kernel_rfl
theorem eqRep_same (v : Int) : ∀ (n : Nat), eqRep Tryd.prog (eqAV Tryd.prog 29) 5 (List.replicate n (.int .u8 v)) (List.replicate n (.int .u8 v)) = some true
  | 0 => rfl
  | n + 1 => by
    rw [List.replicate_succ, eqRep, t5agg]
    simp only [AV.isAgg, and_self, if_true, eqB, Option.bind_some, beq_self_eq_true]
    exact eqRep_same v n
theorem pgV_rep (v : Int) : pgV v = .arr 1 (List.replicate 32 (.int .u8 v)) := rfl
theorem eqPg (v : Int) (x y : Operand) : eqNil Tryd.prog 32 x y (pgV v) (pgV v) = some true := by
  have h : eqNil Tryd.prog 32 x y (pgV v) (pgV v) = eqRep Tryd.prog (eqAV Tryd.prog 29) 5 (List.replicate 32 (.int .u8 v)) (List.replicate 32 (.int .u8 v)) := by kernel_rfl
  rw [h]
  exact eqRep_same v 32
theorem beqL_same (v : Int) : ∀ (n : Nat), beqL (List.replicate n (.int .u8 v)) (List.replicate n (.int .u8 v)) = true
  | 0 => rfl
  | n + 1 => by
    rw [List.replicate_succ, beqL, beqL_same v n]
    simp [AV.beq]
theorem beqPg (v : Int) : AV.beq (pgV v) (pgV v) = true := by
  rw [pgV_rep]
  simp only [AV.beq, beqL_same]
  rfl
theorem treeTrue (v w : Int) (pin : Bool) : tree5 false v w pin (fun v _ _ => v.isTrue) = true := by
  unfold tree5
  simp only [eqPg, beqPg, Option.elim_some]
  cases pin <;> simp [AV.toInt, AV.isTrue]
end Go.Proofs.YtlnbbgagccgnjaaDoor
