/-
  Facts of calls that have nothing to do with memory.
-/
import Derived.Test.YtkkbnchpedacjaaGreatDoorMRT
namespace Go.Proofs.YtkkbnchpedacjaaGreatDoor
open Go Go.X
set_option maxRecDepth 100000
theorem CoSz (B : Nat) : OracleSound Tryz.prog B U.G noneK := fun f args H v H' e h => by cases h
/-- silt/plan.Good: 937 times -/
noncomputable def Cop0 : PFact := ⟨73, [(.agg 4 [(ni 16), (ni 8), (ni 24), (ni 4)])], (.bool true)⟩
theorem Cop0r : evalZQ false Tryz.prog U ann 1000 noneK (fun _ => none) (txt Bool) 100 73 [(.agg 4 [(ni 16), (ni 8), (ni 24), (ni 4)])] [] (fun u _ _ => u.beqR (.bool true)) = true := of_whnf (by kernel_rfl)
theorem Cop0o : PFactOk Tryz.prog U Cop0 := by
  obtain ⟨H', e, h⟩ := run_of_valZ (HkF.nothing false) (printed Bool) Cop0r
  exact pfact_ok CoSz extU mixed hA (x := Cop0) (of_whnf (by kernel_rfl)) (of_whnf (by kernel_rfl)) h
/-- silt/plan.Total: 563 times -/
noncomputable def Cop1 : PFact := ⟨75, [(.agg 4 [(ni 16), (ni 8), (ni 24), (ni 4)])], (ni 196)⟩
theorem Cop1r : evalZQ false Tryz.prog U ann 1000 noneK (fun _ => none) (txt Bool) 100 75 [(.agg 4 [(ni 16), (ni 8), (ni 24), (ni 4)])] [] (fun u _ _ => u.beqR (ni 196)) = true := of_whnf (by kernel_rfl)
theorem Cop1o : PFactOk Tryz.prog U Cop1 := by
  obtain ⟨H', e, h⟩ := run_of_valZ (HkF.nothing false) (printed Bool) Cop1r
  exact pfact_ok CoSz extU mixed hA (x := Cop1) (of_whnf (by kernel_rfl)) (of_whnf (by kernel_rfl)) h
/-- silt/block.Decode: 377 times -/
noncomputable def Cop2 : PFact := ⟨173, [(.arr 1 (rp 64 (nb 0) []))], (.tuple [(.agg 45 [(ni 0), (ni 0), (.arr 1 (rp 32 (nb 0) [])), (ni 0), .nils, (ni 0), (.arr 1 (rp 8 (ni 0) []))]), (.int .u32 (.ofNat 0)), (ni 11)])⟩
theorem Cop2r : evalZQ false Tryz.prog U ann 1000 noneK (fun _ => none) (txt Bool) 100 173 [(.arr 1 (rp 64 (nb 0) []))] [] (fun u _ _ => u.beqR (.tuple [(.agg 45 [(ni 0), (ni 0), (.arr 1 (rp 32 (nb 0) [])), (ni 0), .nils, (ni 0), (.arr 1 (rp 8 (ni 0) []))]), (.int .u32 (.ofNat 0)), (ni 11)])) = true := of_whnf (by kernel_rfl)
theorem Cop2o : PFactOk Tryz.prog U Cop2 := by
  obtain ⟨H', e, h⟩ := run_of_valZ (HkF.nothing false) (printed Bool) Cop2r
  exact pfact_ok CoSz extU mixed hA (x := Cop2) (of_whnf (by kernel_rfl)) (of_whnf (by kernel_rfl)) h
/-- silt/summary.Decode: 381 times -/
noncomputable def Cop3 : PFact := ⟨174, [(.arr 1 (rp 64 (nb 0) []))], (.tuple [(.agg 3 [(.int .u32 (.ofNat 0)), (.bool false), .nils]), (ni 11)])⟩
theorem Cop3r : evalZQ false Tryz.prog U ann 1000 noneK (fun _ => none) (txt Bool) 100 174 [(.arr 1 (rp 64 (nb 0) []))] [] (fun u _ _ => u.beqR (.tuple [(.agg 3 [(.int .u32 (.ofNat 0)), (.bool false), .nils]), (ni 11)])) = true := of_whnf (by kernel_rfl)
theorem Cop3o : PFactOk Tryz.prog U Cop3 := by
  obtain ⟨H', e, h⟩ := run_of_valZ (HkF.nothing false) (printed Bool) Cop3r
  exact pfact_ok CoSz extU mixed hA (x := Cop3) (of_whnf (by kernel_rfl)) (of_whnf (by kernel_rfl)) h
/-- silt/plan.Seg: 66 times -/
noncomputable def Cop4 : PFact := ⟨171, [(.agg 4 [(ni 16), (ni 8), (ni 24), (ni 4)]), (ni 0)], (ni 4)⟩
theorem Cop4r : evalZQ false Tryz.prog U ann 1000 noneK (fun _ => none) (txt Bool) 100 171 [(.agg 4 [(ni 16), (ni 8), (ni 24), (ni 4)]), (ni 0)] [] (fun u _ _ => u.beqR (ni 4)) = true := of_whnf (by kernel_rfl)
theorem Cop4o : PFactOk Tryz.prog U Cop4 := by
  obtain ⟨H', e, h⟩ := run_of_valZ (HkF.nothing false) (printed Bool) Cop4r
  exact pfact_ok CoSz extU mixed hA (x := Cop4) (of_whnf (by kernel_rfl)) (of_whnf (by kernel_rfl)) h
/-- silt/plan.Seg: 48 times -/
noncomputable def Cop5 : PFact := ⟨171, [(.agg 4 [(ni 16), (ni 8), (ni 24), (ni 4)]), (ni 1)], (ni 28)⟩
theorem Cop5r : evalZQ false Tryz.prog U ann 1000 noneK (fun _ => none) (txt Bool) 100 171 [(.agg 4 [(ni 16), (ni 8), (ni 24), (ni 4)]), (ni 1)] [] (fun u _ _ => u.beqR (ni 28)) = true := of_whnf (by kernel_rfl)
theorem Cop5o : PFactOk Tryz.prog U Cop5 := by
  obtain ⟨H', e, h⟩ := run_of_valZ (HkF.nothing false) (printed Bool) Cop5r
  exact pfact_ok CoSz extU mixed hA (x := Cop5) (of_whnf (by kernel_rfl)) (of_whnf (by kernel_rfl)) h
/-- silt/plan.Of: 53 times -/
noncomputable def Cop6 : PFact := ⟨183, [(.agg 4 [(ni 16), (ni 8), (ni 24), (ni 4)]), (ni 0)], (.tuple [(ni 0), (ni 0), (.bool false)])⟩
theorem Cop6r : evalZQ false Tryz.prog U ann 1000 noneK (fun _ => none) (txt Bool) 100 183 [(.agg 4 [(ni 16), (ni 8), (ni 24), (ni 4)]), (ni 0)] [] (fun u _ _ => u.beqR (.tuple [(ni 0), (ni 0), (.bool false)])) = true := of_whnf (by kernel_rfl)
theorem Cop6o : PFactOk Tryz.prog U Cop6 := by
  obtain ⟨H', e, h⟩ := run_of_valZ (HkF.nothing false) (printed Bool) Cop6r
  exact pfact_ok CoSz extU mixed hA (x := Cop6) (of_whnf (by kernel_rfl)) (of_whnf (by kernel_rfl)) h
noncomputable def CoP : List PFact := [Cop0, Cop1, Cop3, Cop2, Cop4, Cop6, Cop5]
theorem CoPo : PFactsOk Tryz.prog U CoP := .cons Cop0o (.cons Cop1o (.cons Cop3o (.cons Cop2o (.cons Cop4o (.cons Cop6o (.cons Cop5o (PFactsOk.nil)))))))
noncomputable def CoKp : Oracle := pureF CoP noneK
noncomputable def CoTp : FuncId → Option (Hnd Bool) := pureR CoP fun _ => none
theorem CoHp : HkF false CoKp CoTp := HkF.pures false (HkF.nothing false)
theorem CoSp (B : Nat) : OracleSound Tryz.prog B U.G CoKp := pureF_sound CoPo CoSz B
noncomputable def CoK0 : Oracle := locMemo [] CoKp
noncomputable def CoT0 : FuncId → Option (Hnd Bool) := locR [] CoTp
theorem CoH0 : HkF false CoK0 CoT0 := hkf_loc false CoHp
theorem CoS0 (B : Nat) : OracleSound Tryz.prog B U.G CoK0 := locMemo_sound FactsOk.nil CoSp B
end Go.Proofs.YtkkbnchpedacjaaGreatDoor
