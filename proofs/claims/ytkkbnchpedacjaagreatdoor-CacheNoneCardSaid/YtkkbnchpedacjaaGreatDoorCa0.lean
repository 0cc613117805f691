/-
  Facts of calls that have nothing to do with memory.
-/
import Derived.Test.YtkkbnchpedacjaaGreatDoorMRT
namespace Go.Proofs.YtkkbnchpedacjaaGreatDoor
open Go Go.X
set_option maxRecDepth 100000
theorem CaSz (B : Nat) : OracleSound Tryz.prog B U.G noneK := fun f args H v H' e h => by cases h
/-- silt/plan.Good: 820 times -/
noncomputable def Cap0 : PFact := ⟨73, [(.agg 4 [(ni 16), (ni 8), (ni 24), (ni 4)])], (.bool true)⟩
theorem Cap0r : evalZQ false Tryz.prog U ann 1000 noneK (fun _ => none) (txt Bool) 100 73 [(.agg 4 [(ni 16), (ni 8), (ni 24), (ni 4)])] [] (fun u _ _ => u.beqR (.bool true)) = true := of_whnf (by kernel_rfl)
theorem Cap0o : PFactOk Tryz.prog U Cap0 := by
  obtain ⟨H', e, h⟩ := run_of_valZ (HkF.nothing false) (printed Bool) Cap0r
  exact pfact_ok CaSz extU mixed hA (x := Cap0) (of_whnf (by kernel_rfl)) (of_whnf (by kernel_rfl)) h
/-- silt/plan.Total: 505 times -/
noncomputable def Cap1 : PFact := ⟨75, [(.agg 4 [(ni 16), (ni 8), (ni 24), (ni 4)])], (ni 196)⟩
theorem Cap1r : evalZQ false Tryz.prog U ann 1000 noneK (fun _ => none) (txt Bool) 100 75 [(.agg 4 [(ni 16), (ni 8), (ni 24), (ni 4)])] [] (fun u _ _ => u.beqR (ni 196)) = true := of_whnf (by kernel_rfl)
theorem Cap1o : PFactOk Tryz.prog U Cap1 := by
  obtain ⟨H', e, h⟩ := run_of_valZ (HkF.nothing false) (printed Bool) Cap1r
  exact pfact_ok CaSz extU mixed hA (x := Cap1) (of_whnf (by kernel_rfl)) (of_whnf (by kernel_rfl)) h
/-- silt/block.Decode: 382 times -/
noncomputable def Cap2 : PFact := ⟨173, [(.arr 1 (rp 64 (nb 0) []))], (.tuple [(.agg 45 [(ni 0), (ni 0), (.arr 1 (rp 32 (nb 0) [])), (ni 0), .nils, (ni 0), (.arr 1 (rp 8 (ni 0) []))]), (.int .u32 (.ofNat 0)), (ni 11)])⟩
theorem Cap2r : evalZQ false Tryz.prog U ann 1000 noneK (fun _ => none) (txt Bool) 100 173 [(.arr 1 (rp 64 (nb 0) []))] [] (fun u _ _ => u.beqR (.tuple [(.agg 45 [(ni 0), (ni 0), (.arr 1 (rp 32 (nb 0) [])), (ni 0), .nils, (ni 0), (.arr 1 (rp 8 (ni 0) []))]), (.int .u32 (.ofNat 0)), (ni 11)])) = true := of_whnf (by kernel_rfl)
theorem Cap2o : PFactOk Tryz.prog U Cap2 := by
  obtain ⟨H', e, h⟩ := run_of_valZ (HkF.nothing false) (printed Bool) Cap2r
  exact pfact_ok CaSz extU mixed hA (x := Cap2) (of_whnf (by kernel_rfl)) (of_whnf (by kernel_rfl)) h
/-- silt/summary.Decode: 386 times -/
noncomputable def Cap3 : PFact := ⟨174, [(.arr 1 (rp 64 (nb 0) []))], (.tuple [(.agg 3 [(.int .u32 (.ofNat 0)), (.bool false), .nils]), (ni 11)])⟩
theorem Cap3r : evalZQ false Tryz.prog U ann 1000 noneK (fun _ => none) (txt Bool) 100 174 [(.arr 1 (rp 64 (nb 0) []))] [] (fun u _ _ => u.beqR (.tuple [(.agg 3 [(.int .u32 (.ofNat 0)), (.bool false), .nils]), (ni 11)])) = true := of_whnf (by kernel_rfl)
theorem Cap3o : PFactOk Tryz.prog U Cap3 := by
  obtain ⟨H', e, h⟩ := run_of_valZ (HkF.nothing false) (printed Bool) Cap3r
  exact pfact_ok CaSz extU mixed hA (x := Cap3) (of_whnf (by kernel_rfl)) (of_whnf (by kernel_rfl)) h
/-- silt/plan.Seg: 75 times -/
noncomputable def Cap4 : PFact := ⟨171, [(.agg 4 [(ni 16), (ni 8), (ni 24), (ni 4)]), (ni 0)], (ni 4)⟩
theorem Cap4r : evalZQ false Tryz.prog U ann 1000 noneK (fun _ => none) (txt Bool) 100 171 [(.agg 4 [(ni 16), (ni 8), (ni 24), (ni 4)]), (ni 0)] [] (fun u _ _ => u.beqR (ni 4)) = true := of_whnf (by kernel_rfl)
theorem Cap4o : PFactOk Tryz.prog U Cap4 := by
  obtain ⟨H', e, h⟩ := run_of_valZ (HkF.nothing false) (printed Bool) Cap4r
  exact pfact_ok CaSz extU mixed hA (x := Cap4) (of_whnf (by kernel_rfl)) (of_whnf (by kernel_rfl)) h
/-- silt/plan.Seg: 48 times -/
noncomputable def Cap5 : PFact := ⟨171, [(.agg 4 [(ni 16), (ni 8), (ni 24), (ni 4)]), (ni 1)], (ni 28)⟩
theorem Cap5r : evalZQ false Tryz.prog U ann 1000 noneK (fun _ => none) (txt Bool) 100 171 [(.agg 4 [(ni 16), (ni 8), (ni 24), (ni 4)]), (ni 1)] [] (fun u _ _ => u.beqR (ni 28)) = true := of_whnf (by kernel_rfl)
theorem Cap5o : PFactOk Tryz.prog U Cap5 := by
  obtain ⟨H', e, h⟩ := run_of_valZ (HkF.nothing false) (printed Bool) Cap5r
  exact pfact_ok CaSz extU mixed hA (x := Cap5) (of_whnf (by kernel_rfl)) (of_whnf (by kernel_rfl)) h
/-- silt/plan.Of: 47 times -/
noncomputable def Cap6 : PFact := ⟨183, [(.agg 4 [(ni 16), (ni 8), (ni 24), (ni 4)]), (ni 0)], (.tuple [(ni 0), (ni 0), (.bool false)])⟩
theorem Cap6r : evalZQ false Tryz.prog U ann 1000 noneK (fun _ => none) (txt Bool) 100 183 [(.agg 4 [(ni 16), (ni 8), (ni 24), (ni 4)]), (ni 0)] [] (fun u _ _ => u.beqR (.tuple [(ni 0), (ni 0), (.bool false)])) = true := of_whnf (by kernel_rfl)
theorem Cap6o : PFactOk Tryz.prog U Cap6 := by
  obtain ⟨H', e, h⟩ := run_of_valZ (HkF.nothing false) (printed Bool) Cap6r
  exact pfact_ok CaSz extU mixed hA (x := Cap6) (of_whnf (by kernel_rfl)) (of_whnf (by kernel_rfl)) h
noncomputable def CaP : List PFact := [Cap0, Cap1, Cap3, Cap2, Cap4, Cap5, Cap6]
theorem CaPo : PFactsOk Tryz.prog U CaP := .cons Cap0o (.cons Cap1o (.cons Cap3o (.cons Cap2o (.cons Cap4o (.cons Cap5o (.cons Cap6o (PFactsOk.nil)))))))
noncomputable def CaKp : Oracle := pureF CaP noneK
noncomputable def CaTp : FuncId → Option (Hnd Bool) := pureR CaP fun _ => none
theorem CaHp : HkF false CaKp CaTp := HkF.pures false (HkF.nothing false)
theorem CaSp (B : Nat) : OracleSound Tryz.prog B U.G CaKp := pureF_sound CaPo CaSz B
noncomputable def CaK0 : Oracle := locMemo [] CaKp
noncomputable def CaT0 : FuncId → Option (Hnd Bool) := locR [] CaTp
theorem CaH0 : HkF false CaK0 CaT0 := hkf_loc false CaHp
theorem CaS0 (B : Nat) : OracleSound Tryz.prog B U.G CaK0 := locMemo_sound FactsOk.nil CaSp B
end Go.Proofs.YtkkbnchpedacjaaGreatDoor
