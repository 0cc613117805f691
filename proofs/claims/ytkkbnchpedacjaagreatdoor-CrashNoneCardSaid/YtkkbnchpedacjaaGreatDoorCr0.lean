/-
  Facts of calls that have nothing to do with memory.
-/
import Derived.Test.YtkkbnchpedacjaaGreatDoorMRT
namespace Go.Proofs.YtkkbnchpedacjaaGreatDoor
open Go Go.X
set_option maxRecDepth 100000
theorem CrSz (B : Nat) : OracleSound Tryz.prog B U.G noneK := fun f args H v H' e h => by cases h
/-- silt/plan.Good: 841 times -/
noncomputable def Crp0 : PFact := ⟨73, [(.agg 4 [(ni 16), (ni 8), (ni 24), (ni 4)])], (.bool true)⟩
theorem Crp0r : evalZQ false Tryz.prog U ann 1000 noneK (fun _ => none) (txt Bool) 100 73 [(.agg 4 [(ni 16), (ni 8), (ni 24), (ni 4)])] [] (fun u _ _ => u.beqR (.bool true)) = true := of_whnf (by kernel_rfl)
theorem Crp0o : PFactOk Tryz.prog U Crp0 := by
  obtain ⟨H', e, h⟩ := run_of_valZ (HkF.nothing false) (printed Bool) Crp0r
  exact pfact_ok CrSz extU mixed hA (x := Crp0) (of_whnf (by kernel_rfl)) (of_whnf (by kernel_rfl)) h
/-- silt/plan.Total: 496 times -/
noncomputable def Crp1 : PFact := ⟨75, [(.agg 4 [(ni 16), (ni 8), (ni 24), (ni 4)])], (ni 196)⟩
theorem Crp1r : evalZQ false Tryz.prog U ann 1000 noneK (fun _ => none) (txt Bool) 100 75 [(.agg 4 [(ni 16), (ni 8), (ni 24), (ni 4)])] [] (fun u _ _ => u.beqR (ni 196)) = true := of_whnf (by kernel_rfl)
theorem Crp1o : PFactOk Tryz.prog U Crp1 := by
  obtain ⟨H', e, h⟩ := run_of_valZ (HkF.nothing false) (printed Bool) Crp1r
  exact pfact_ok CrSz extU mixed hA (x := Crp1) (of_whnf (by kernel_rfl)) (of_whnf (by kernel_rfl)) h
/-- silt/block.Decode: 382 times -/
noncomputable def Crp2 : PFact := ⟨173, [(.arr 1 (rp 64 (nb 0) []))], (.tuple [(.agg 45 [(ni 0), (ni 0), (.arr 1 (rp 32 (nb 0) [])), (ni 0), .nils, (ni 0), (.arr 1 (rp 8 (ni 0) []))]), (.int .u32 (.ofNat 0)), (ni 11)])⟩
theorem Crp2r : evalZQ false Tryz.prog U ann 1000 noneK (fun _ => none) (txt Bool) 100 173 [(.arr 1 (rp 64 (nb 0) []))] [] (fun u _ _ => u.beqR (.tuple [(.agg 45 [(ni 0), (ni 0), (.arr 1 (rp 32 (nb 0) [])), (ni 0), .nils, (ni 0), (.arr 1 (rp 8 (ni 0) []))]), (.int .u32 (.ofNat 0)), (ni 11)])) = true := of_whnf (by kernel_rfl)
theorem Crp2o : PFactOk Tryz.prog U Crp2 := by
  obtain ⟨H', e, h⟩ := run_of_valZ (HkF.nothing false) (printed Bool) Crp2r
  exact pfact_ok CrSz extU mixed hA (x := Crp2) (of_whnf (by kernel_rfl)) (of_whnf (by kernel_rfl)) h
/-- silt/summary.Decode: 386 times -/
noncomputable def Crp3 : PFact := ⟨174, [(.arr 1 (rp 64 (nb 0) []))], (.tuple [(.agg 3 [(.int .u32 (.ofNat 0)), (.bool false), .nils]), (ni 11)])⟩
theorem Crp3r : evalZQ false Tryz.prog U ann 1000 noneK (fun _ => none) (txt Bool) 100 174 [(.arr 1 (rp 64 (nb 0) []))] [] (fun u _ _ => u.beqR (.tuple [(.agg 3 [(.int .u32 (.ofNat 0)), (.bool false), .nils]), (ni 11)])) = true := of_whnf (by kernel_rfl)
theorem Crp3o : PFactOk Tryz.prog U Crp3 := by
  obtain ⟨H', e, h⟩ := run_of_valZ (HkF.nothing false) (printed Bool) Crp3r
  exact pfact_ok CrSz extU mixed hA (x := Crp3) (of_whnf (by kernel_rfl)) (of_whnf (by kernel_rfl)) h
/-- silt/plan.Seg: 97 times -/
noncomputable def Crp4 : PFact := ⟨171, [(.agg 4 [(ni 16), (ni 8), (ni 24), (ni 4)]), (ni 0)], (ni 4)⟩
theorem Crp4r : evalZQ false Tryz.prog U ann 1000 noneK (fun _ => none) (txt Bool) 100 171 [(.agg 4 [(ni 16), (ni 8), (ni 24), (ni 4)]), (ni 0)] [] (fun u _ _ => u.beqR (ni 4)) = true := of_whnf (by kernel_rfl)
theorem Crp4o : PFactOk Tryz.prog U Crp4 := by
  obtain ⟨H', e, h⟩ := run_of_valZ (HkF.nothing false) (printed Bool) Crp4r
  exact pfact_ok CrSz extU mixed hA (x := Crp4) (of_whnf (by kernel_rfl)) (of_whnf (by kernel_rfl)) h
/-- silt/plan.Seg: 48 times -/
noncomputable def Crp5 : PFact := ⟨171, [(.agg 4 [(ni 16), (ni 8), (ni 24), (ni 4)]), (ni 1)], (ni 28)⟩
theorem Crp5r : evalZQ false Tryz.prog U ann 1000 noneK (fun _ => none) (txt Bool) 100 171 [(.agg 4 [(ni 16), (ni 8), (ni 24), (ni 4)]), (ni 1)] [] (fun u _ _ => u.beqR (ni 28)) = true := of_whnf (by kernel_rfl)
theorem Crp5o : PFactOk Tryz.prog U Crp5 := by
  obtain ⟨H', e, h⟩ := run_of_valZ (HkF.nothing false) (printed Bool) Crp5r
  exact pfact_ok CrSz extU mixed hA (x := Crp5) (of_whnf (by kernel_rfl)) (of_whnf (by kernel_rfl)) h
/-- silt/plan.Of: 48 times -/
noncomputable def Crp6 : PFact := ⟨183, [(.agg 4 [(ni 16), (ni 8), (ni 24), (ni 4)]), (ni 0)], (.tuple [(ni 0), (ni 0), (.bool false)])⟩
theorem Crp6r : evalZQ false Tryz.prog U ann 1000 noneK (fun _ => none) (txt Bool) 100 183 [(.agg 4 [(ni 16), (ni 8), (ni 24), (ni 4)]), (ni 0)] [] (fun u _ _ => u.beqR (.tuple [(ni 0), (ni 0), (.bool false)])) = true := of_whnf (by kernel_rfl)
theorem Crp6o : PFactOk Tryz.prog U Crp6 := by
  obtain ⟨H', e, h⟩ := run_of_valZ (HkF.nothing false) (printed Bool) Crp6r
  exact pfact_ok CrSz extU mixed hA (x := Crp6) (of_whnf (by kernel_rfl)) (of_whnf (by kernel_rfl)) h
noncomputable def CrP : List PFact := [Crp0, Crp1, Crp3, Crp2, Crp4, Crp6, Crp5]
theorem CrPo : PFactsOk Tryz.prog U CrP := .cons Crp0o (.cons Crp1o (.cons Crp3o (.cons Crp2o (.cons Crp4o (.cons Crp6o (.cons Crp5o (PFactsOk.nil)))))))
noncomputable def CrKp : Oracle := pureF CrP noneK
noncomputable def CrTp : FuncId → Option (Hnd Bool) := pureR CrP fun _ => none
theorem CrHp : HkF false CrKp CrTp := HkF.pures false (HkF.nothing false)
theorem CrSp (B : Nat) : OracleSound Tryz.prog B U.G CrKp := pureF_sound CrPo CrSz B
noncomputable def CrK0 : Oracle := locMemo [] CrKp
noncomputable def CrT0 : FuncId → Option (Hnd Bool) := locR [] CrTp
theorem CrH0 : HkF false CrK0 CrT0 := hkf_loc false CrHp
theorem CrS0 (B : Nat) : OracleSound Tryz.prog B U.G CrK0 := locMemo_sound FactsOk.nil CrSp B
end Go.Proofs.YtkkbnchpedacjaaGreatDoor
