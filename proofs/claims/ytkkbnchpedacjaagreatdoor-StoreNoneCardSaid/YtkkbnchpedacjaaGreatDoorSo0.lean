/-
  Facts of calls that have nothing to do with memory.
-/
import Derived.Test.YtkkbnchpedacjaaGreatDoorMRT
namespace Go.Proofs.YtkkbnchpedacjaaGreatDoor
open Go Go.X
set_option maxRecDepth 100000
theorem SoSz (B : Nat) : OracleSound Tryz.prog B U.G noneK := fun f args H v H' e h => by cases h
/-- silt/plan.Good: 818 times -/
noncomputable def Sop0 : PFact := ⟨73, [(.agg 4 [(ni 16), (ni 8), (ni 24), (ni 4)])], (.bool true)⟩
theorem Sop0r : evalZQ false Tryz.prog U ann 1000 noneK (fun _ => none) (txt Bool) 100 73 [(.agg 4 [(ni 16), (ni 8), (ni 24), (ni 4)])] [] (fun u _ _ => u.beqR (.bool true)) = true := of_whnf (by kernel_rfl)
theorem Sop0o : PFactOk Tryz.prog U Sop0 := by
  obtain ⟨H', e, h⟩ := run_of_valZ (HkF.nothing false) (printed Bool) Sop0r
  exact pfact_ok SoSz extU mixed hA (x := Sop0) (of_whnf (by kernel_rfl)) (of_whnf (by kernel_rfl)) h
/-- silt/plan.Total: 503 times -/
noncomputable def Sop1 : PFact := ⟨75, [(.agg 4 [(ni 16), (ni 8), (ni 24), (ni 4)])], (ni 196)⟩
theorem Sop1r : evalZQ false Tryz.prog U ann 1000 noneK (fun _ => none) (txt Bool) 100 75 [(.agg 4 [(ni 16), (ni 8), (ni 24), (ni 4)])] [] (fun u _ _ => u.beqR (ni 196)) = true := of_whnf (by kernel_rfl)
theorem Sop1o : PFactOk Tryz.prog U Sop1 := by
  obtain ⟨H', e, h⟩ := run_of_valZ (HkF.nothing false) (printed Bool) Sop1r
  exact pfact_ok SoSz extU mixed hA (x := Sop1) (of_whnf (by kernel_rfl)) (of_whnf (by kernel_rfl)) h
/-- silt/block.Decode: 382 times -/
noncomputable def Sop2 : PFact := ⟨173, [(.arr 1 (rp 64 (nb 0) []))], (.tuple [(.agg 45 [(ni 0), (ni 0), (.arr 1 (rp 32 (nb 0) [])), (ni 0), .nils, (ni 0), (.arr 1 (rp 8 (ni 0) []))]), (.int .u32 (.ofNat 0)), (ni 11)])⟩
theorem Sop2r : evalZQ false Tryz.prog U ann 1000 noneK (fun _ => none) (txt Bool) 100 173 [(.arr 1 (rp 64 (nb 0) []))] [] (fun u _ _ => u.beqR (.tuple [(.agg 45 [(ni 0), (ni 0), (.arr 1 (rp 32 (nb 0) [])), (ni 0), .nils, (ni 0), (.arr 1 (rp 8 (ni 0) []))]), (.int .u32 (.ofNat 0)), (ni 11)])) = true := of_whnf (by kernel_rfl)
theorem Sop2o : PFactOk Tryz.prog U Sop2 := by
  obtain ⟨H', e, h⟩ := run_of_valZ (HkF.nothing false) (printed Bool) Sop2r
  exact pfact_ok SoSz extU mixed hA (x := Sop2) (of_whnf (by kernel_rfl)) (of_whnf (by kernel_rfl)) h
/-- silt/summary.Decode: 386 times -/
noncomputable def Sop3 : PFact := ⟨174, [(.arr 1 (rp 64 (nb 0) []))], (.tuple [(.agg 3 [(.int .u32 (.ofNat 0)), (.bool false), .nils]), (ni 11)])⟩
theorem Sop3r : evalZQ false Tryz.prog U ann 1000 noneK (fun _ => none) (txt Bool) 100 174 [(.arr 1 (rp 64 (nb 0) []))] [] (fun u _ _ => u.beqR (.tuple [(.agg 3 [(.int .u32 (.ofNat 0)), (.bool false), .nils]), (ni 11)])) = true := of_whnf (by kernel_rfl)
theorem Sop3o : PFactOk Tryz.prog U Sop3 := by
  obtain ⟨H', e, h⟩ := run_of_valZ (HkF.nothing false) (printed Bool) Sop3r
  exact pfact_ok SoSz extU mixed hA (x := Sop3) (of_whnf (by kernel_rfl)) (of_whnf (by kernel_rfl)) h
/-- silt/plan.Seg: 75 times -/
noncomputable def Sop4 : PFact := ⟨171, [(.agg 4 [(ni 16), (ni 8), (ni 24), (ni 4)]), (ni 0)], (ni 4)⟩
theorem Sop4r : evalZQ false Tryz.prog U ann 1000 noneK (fun _ => none) (txt Bool) 100 171 [(.agg 4 [(ni 16), (ni 8), (ni 24), (ni 4)]), (ni 0)] [] (fun u _ _ => u.beqR (ni 4)) = true := of_whnf (by kernel_rfl)
theorem Sop4o : PFactOk Tryz.prog U Sop4 := by
  obtain ⟨H', e, h⟩ := run_of_valZ (HkF.nothing false) (printed Bool) Sop4r
  exact pfact_ok SoSz extU mixed hA (x := Sop4) (of_whnf (by kernel_rfl)) (of_whnf (by kernel_rfl)) h
/-- silt/plan.Seg: 48 times -/
noncomputable def Sop5 : PFact := ⟨171, [(.agg 4 [(ni 16), (ni 8), (ni 24), (ni 4)]), (ni 1)], (ni 28)⟩
theorem Sop5r : evalZQ false Tryz.prog U ann 1000 noneK (fun _ => none) (txt Bool) 100 171 [(.agg 4 [(ni 16), (ni 8), (ni 24), (ni 4)]), (ni 1)] [] (fun u _ _ => u.beqR (ni 28)) = true := of_whnf (by kernel_rfl)
theorem Sop5o : PFactOk Tryz.prog U Sop5 := by
  obtain ⟨H', e, h⟩ := run_of_valZ (HkF.nothing false) (printed Bool) Sop5r
  exact pfact_ok SoSz extU mixed hA (x := Sop5) (of_whnf (by kernel_rfl)) (of_whnf (by kernel_rfl)) h
/-- silt/plan.Of: 47 times -/
noncomputable def Sop6 : PFact := ⟨183, [(.agg 4 [(ni 16), (ni 8), (ni 24), (ni 4)]), (ni 0)], (.tuple [(ni 0), (ni 0), (.bool false)])⟩
theorem Sop6r : evalZQ false Tryz.prog U ann 1000 noneK (fun _ => none) (txt Bool) 100 183 [(.agg 4 [(ni 16), (ni 8), (ni 24), (ni 4)]), (ni 0)] [] (fun u _ _ => u.beqR (.tuple [(ni 0), (ni 0), (.bool false)])) = true := of_whnf (by kernel_rfl)
theorem Sop6o : PFactOk Tryz.prog U Sop6 := by
  obtain ⟨H', e, h⟩ := run_of_valZ (HkF.nothing false) (printed Bool) Sop6r
  exact pfact_ok SoSz extU mixed hA (x := Sop6) (of_whnf (by kernel_rfl)) (of_whnf (by kernel_rfl)) h
noncomputable def SoP : List PFact := [Sop0, Sop1, Sop3, Sop2, Sop4, Sop5, Sop6]
theorem SoPo : PFactsOk Tryz.prog U SoP := .cons Sop0o (.cons Sop1o (.cons Sop3o (.cons Sop2o (.cons Sop4o (.cons Sop5o (.cons Sop6o (PFactsOk.nil)))))))
noncomputable def SoKp : Oracle := pureF SoP noneK
noncomputable def SoTp : FuncId → Option (Hnd Bool) := pureR SoP fun _ => none
theorem SoHp : HkF false SoKp SoTp := HkF.pures false (HkF.nothing false)
theorem SoSp (B : Nat) : OracleSound Tryz.prog B U.G SoKp := pureF_sound SoPo SoSz B
noncomputable def SoK0 : Oracle := locMemo [] SoKp
noncomputable def SoT0 : FuncId → Option (Hnd Bool) := locR [] SoTp
theorem SoH0 : HkF false SoK0 SoT0 := hkf_loc false SoHp
theorem SoS0 (B : Nat) : OracleSound Tryz.prog B U.G SoK0 := locMemo_sound FactsOk.nil SoSp B
end Go.Proofs.YtkkbnchpedacjaaGreatDoor
