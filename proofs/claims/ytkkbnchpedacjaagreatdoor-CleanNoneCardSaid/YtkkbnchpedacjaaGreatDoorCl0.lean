/-
  Facts of calls that have nothing to do with memory.
-/
import Derived.Test.YtkkbnchpedacjaaGreatDoorMRT
namespace Go.Proofs.YtkkbnchpedacjaaGreatDoor
open Go Go.X
set_option maxRecDepth 100000
noncomputable def ClKz : Oracle := fun _ _ _ => none
theorem ClSz (B : Nat) : OracleSound Tryz.prog B U.G ClKz := fun f args H v H' e h => by cases h
/-- silt/plan.Good: 716 times -/
noncomputable def Clp0 : PFact := ⟨73, [(.agg 4 [(ni 16), (ni 8), (ni 24), (ni 4)])], (.bool true)⟩
theorem Clp0r : evalZQ false Tryz.prog U ann 1000 ClKz (fun _ => none) (txt Bool) 100 73 [(.agg 4 [(ni 16), (ni 8), (ni 24), (ni 4)])] [] (fun u _ _ => u.beqR (.bool true)) = true := of_whnf (by kernel_rfl)
theorem Clp0o : PFactOk Tryz.prog U Clp0 := by
  obtain ⟨H', e, h⟩ := run_of_valZ (HkF.nothing false) (printed Bool) Clp0r
  exact pfact_ok ClSz extU mixed hA (x := Clp0) (of_whnf (by kernel_rfl)) (of_whnf (by kernel_rfl)) h
/-- silt/plan.Total: 388 times -/
noncomputable def Clp1 : PFact := ⟨75, [(.agg 4 [(ni 16), (ni 8), (ni 24), (ni 4)])], (ni 196)⟩
theorem Clp1r : evalZQ false Tryz.prog U ann 1000 ClKz (fun _ => none) (txt Bool) 100 75 [(.agg 4 [(ni 16), (ni 8), (ni 24), (ni 4)])] [] (fun u _ _ => u.beqR (ni 196)) = true := of_whnf (by kernel_rfl)
theorem Clp1o : PFactOk Tryz.prog U Clp1 := by
  obtain ⟨H', e, h⟩ := run_of_valZ (HkF.nothing false) (printed Bool) Clp1r
  exact pfact_ok ClSz extU mixed hA (x := Clp1) (of_whnf (by kernel_rfl)) (of_whnf (by kernel_rfl)) h
/-- silt/block.Decode: 192 times -/
noncomputable def Clp2 : PFact := ⟨173, [(.arr 1 (rp 64 (nb 0) []))], (.tuple [(.agg 45 [(ni 0), (ni 0), (.arr 1 (rp 32 (nb 0) [])), (ni 0), .nils, (ni 0), (.arr 1 (rp 8 (ni 0) []))]), (.int .u32 (.ofNat 0)), (ni 11)])⟩
theorem Clp2r : evalZQ false Tryz.prog U ann 1000 ClKz (fun _ => none) (txt Bool) 100 173 [(.arr 1 (rp 64 (nb 0) []))] [] (fun u _ _ => u.beqR (.tuple [(.agg 45 [(ni 0), (ni 0), (.arr 1 (rp 32 (nb 0) [])), (ni 0), .nils, (ni 0), (.arr 1 (rp 8 (ni 0) []))]), (.int .u32 (.ofNat 0)), (ni 11)])) = true := of_whnf (by kernel_rfl)
theorem Clp2o : PFactOk Tryz.prog U Clp2 := by
  obtain ⟨H', e, h⟩ := run_of_valZ (HkF.nothing false) (printed Bool) Clp2r
  exact pfact_ok ClSz extU mixed hA (x := Clp2) (of_whnf (by kernel_rfl)) (of_whnf (by kernel_rfl)) h
/-- silt/summary.Decode: 194 times -/
noncomputable def Clp3 : PFact := ⟨174, [(.arr 1 (rp 64 (nb 0) []))], (.tuple [(.agg 3 [(.int .u32 (.ofNat 0)), (.bool false), .nils]), (ni 11)])⟩
theorem Clp3r : evalZQ false Tryz.prog U ann 1000 ClKz (fun _ => none) (txt Bool) 100 174 [(.arr 1 (rp 64 (nb 0) []))] [] (fun u _ _ => u.beqR (.tuple [(.agg 3 [(.int .u32 (.ofNat 0)), (.bool false), .nils]), (ni 11)])) = true := of_whnf (by kernel_rfl)
theorem Clp3o : PFactOk Tryz.prog U Clp3 := by
  obtain ⟨H', e, h⟩ := run_of_valZ (HkF.nothing false) (printed Bool) Clp3r
  exact pfact_ok ClSz extU mixed hA (x := Clp3) (of_whnf (by kernel_rfl)) (of_whnf (by kernel_rfl)) h
/-- silt/plan.Of: 59 times -/
noncomputable def Clp4 : PFact := ⟨183, [(.agg 4 [(ni 16), (ni 8), (ni 24), (ni 4)]), (ni 0)], (.tuple [(ni 0), (ni 0), (.bool false)])⟩
theorem Clp4r : evalZQ false Tryz.prog U ann 1000 ClKz (fun _ => none) (txt Bool) 100 183 [(.agg 4 [(ni 16), (ni 8), (ni 24), (ni 4)]), (ni 0)] [] (fun u _ _ => u.beqR (.tuple [(ni 0), (ni 0), (.bool false)])) = true := of_whnf (by kernel_rfl)
theorem Clp4o : PFactOk Tryz.prog U Clp4 := by
  obtain ⟨H', e, h⟩ := run_of_valZ (HkF.nothing false) (printed Bool) Clp4r
  exact pfact_ok ClSz extU mixed hA (x := Clp4) (of_whnf (by kernel_rfl)) (of_whnf (by kernel_rfl)) h
noncomputable def ClP : List PFact := [Clp0, Clp1, Clp3, Clp2, Clp4]
theorem ClPo : PFactsOk Tryz.prog U ClP := .cons Clp0o (.cons Clp1o (.cons Clp3o (.cons Clp2o (.cons Clp4o (PFactsOk.nil)))))
noncomputable def ClK0 : Oracle := pureF ClP ClKz
noncomputable def ClT0 : FuncId → Option (Hnd Bool) := pureR ClP fun _ => none
theorem ClH0 : HkF false ClK0 ClT0 := HkF.pures false (HkF.nothing false)
theorem ClS0 (B : Nat) : OracleSound Tryz.prog B U.G ClK0 := pureF_sound ClPo ClSz B
end Go.Proofs.YtkkbnchpedacjaaGreatDoor
