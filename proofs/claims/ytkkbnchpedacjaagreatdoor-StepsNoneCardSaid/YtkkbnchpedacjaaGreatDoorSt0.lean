/-
  Facts of calls that have nothing to do with memory.
-/
import Derived.Test.YtkkbnchpedacjaaGreatDoorMRT
namespace Go.Proofs.YtkkbnchpedacjaaGreatDoor
open Go Go.X
set_option maxRecDepth 100000
noncomputable def StKz : Oracle := fun _ _ _ => none
theorem StSz (B : Nat) : OracleSound Tryz.prog B U.G StKz := fun f args H v H' e h => by cases h
/-- silt/plan.Good: 389 times -/
noncomputable def Stp0 : PFact := ⟨73, [(.agg 4 [(ni 16), (ni 8), (ni 24), (ni 4)])], (.bool true)⟩
theorem Stp0r : evalZQ false Tryz.prog U ann 1000 StKz (fun _ => none) (txt Bool) 100 73 [(.agg 4 [(ni 16), (ni 8), (ni 24), (ni 4)])] [] (fun u _ _ => u.beqR (.bool true)) = true := of_whnf (by kernel_rfl)
theorem Stp0o : PFactOk Tryz.prog U Stp0 := by
  obtain ⟨H', e, h⟩ := run_of_valZ (HkF.nothing false) (printed Bool) Stp0r
  exact pfact_ok StSz extU mixed hA (x := Stp0) (of_whnf (by kernel_rfl)) (of_whnf (by kernel_rfl)) h
/-- silt/plan.Total: 248 times -/
noncomputable def Stp1 : PFact := ⟨75, [(.agg 4 [(ni 16), (ni 8), (ni 24), (ni 4)])], (ni 196)⟩
theorem Stp1r : evalZQ false Tryz.prog U ann 1000 StKz (fun _ => none) (txt Bool) 100 75 [(.agg 4 [(ni 16), (ni 8), (ni 24), (ni 4)])] [] (fun u _ _ => u.beqR (ni 196)) = true := of_whnf (by kernel_rfl)
theorem Stp1o : PFactOk Tryz.prog U Stp1 := by
  obtain ⟨H', e, h⟩ := run_of_valZ (HkF.nothing false) (printed Bool) Stp1r
  exact pfact_ok StSz extU mixed hA (x := Stp1) (of_whnf (by kernel_rfl)) (of_whnf (by kernel_rfl)) h
/-- silt/block.Decode: 192 times -/
noncomputable def Stp2 : PFact := ⟨173, [(.arr 1 (rp 64 (nb 0) []))], (.tuple [(.agg 45 [(ni 0), (ni 0), (.arr 1 (rp 32 (nb 0) [])), (ni 0), .nils, (ni 0), (.arr 1 (rp 8 (ni 0) []))]), (.int .u32 (.ofNat 0)), (ni 11)])⟩
theorem Stp2r : evalZQ false Tryz.prog U ann 1000 StKz (fun _ => none) (txt Bool) 100 173 [(.arr 1 (rp 64 (nb 0) []))] [] (fun u _ _ => u.beqR (.tuple [(.agg 45 [(ni 0), (ni 0), (.arr 1 (rp 32 (nb 0) [])), (ni 0), .nils, (ni 0), (.arr 1 (rp 8 (ni 0) []))]), (.int .u32 (.ofNat 0)), (ni 11)])) = true := of_whnf (by kernel_rfl)
theorem Stp2o : PFactOk Tryz.prog U Stp2 := by
  obtain ⟨H', e, h⟩ := run_of_valZ (HkF.nothing false) (printed Bool) Stp2r
  exact pfact_ok StSz extU mixed hA (x := Stp2) (of_whnf (by kernel_rfl)) (of_whnf (by kernel_rfl)) h
/-- silt/summary.Decode: 194 times -/
noncomputable def Stp3 : PFact := ⟨174, [(.arr 1 (rp 64 (nb 0) []))], (.tuple [(.agg 3 [(.int .u32 (.ofNat 0)), (.bool false), .nils]), (ni 11)])⟩
theorem Stp3r : evalZQ false Tryz.prog U ann 1000 StKz (fun _ => none) (txt Bool) 100 174 [(.arr 1 (rp 64 (nb 0) []))] [] (fun u _ _ => u.beqR (.tuple [(.agg 3 [(.int .u32 (.ofNat 0)), (.bool false), .nils]), (ni 11)])) = true := of_whnf (by kernel_rfl)
theorem Stp3o : PFactOk Tryz.prog U Stp3 := by
  obtain ⟨H', e, h⟩ := run_of_valZ (HkF.nothing false) (printed Bool) Stp3r
  exact pfact_ok StSz extU mixed hA (x := Stp3) (of_whnf (by kernel_rfl)) (of_whnf (by kernel_rfl)) h
noncomputable def StP : List PFact := [Stp0, Stp1, Stp3, Stp2]
theorem StPo : PFactsOk Tryz.prog U StP := .cons Stp0o (.cons Stp1o (.cons Stp3o (.cons Stp2o (PFactsOk.nil))))
noncomputable def StK0 : Oracle := pureF StP StKz
noncomputable def StT0 : FuncId → Option (Hnd Bool) := pureR StP fun _ => none
theorem StH0 : HkF false StK0 StT0 := HkF.pures false (HkF.nothing false)
theorem StS0 (B : Nat) : OracleSound Tryz.prog B U.G StK0 := pureF_sound StPo StSz B
end Go.Proofs.YtkkbnchpedacjaaGreatDoor
