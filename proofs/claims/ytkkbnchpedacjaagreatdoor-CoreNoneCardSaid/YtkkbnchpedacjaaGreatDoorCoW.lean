/-
  The statements' own test run of the layer answers true.
-/
import Derived.Test.YtkkbnchpedacjaaGreatDoorCo3
namespace Go.Proofs.YtkkbnchpedacjaaGreatDoor
open Go Go.X
set_option maxRecDepth 100000
theorem Cowakes : evalZQ false Tryz.prog U ann 1000 CoK3 CoT3 (txt Bool) 100 15 [] [] (fun v _ _ => v.isTrue) = true := of_whnf (by kernel_rfl)
theorem CowakesRun : ∃ H' e, evalN Tryz.prog U ann 1000 CoK3 100 15 [] [] = some (.bool true, H', e) := run_of_trueZ CoH3 (printed Bool) Cowakes
noncomputable def CoKt : Oracle := CoK3
theorem CoSt (B : Nat) : OracleSound Tryz.prog B U.G CoKt := CoS3 B
end Go.Proofs.YtkkbnchpedacjaaGreatDoor
