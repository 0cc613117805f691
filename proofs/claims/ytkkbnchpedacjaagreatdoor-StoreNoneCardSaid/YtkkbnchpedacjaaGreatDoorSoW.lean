/-
  The statements' own test run of the layer answers true.
-/
import Derived.Test.YtkkbnchpedacjaaGreatDoorSo3
namespace Go.Proofs.YtkkbnchpedacjaaGreatDoor
open Go Go.X
set_option maxRecDepth 100000
theorem Sowakes : evalZQ false Tryz.prog U ann 1000 SoK3 SoT3 (txt Bool) 100 54 [] [] (fun v _ _ => v.isTrue) = true := of_whnf (by kernel_rfl)
theorem SowakesRun : ∃ H' e, evalN Tryz.prog U ann 1000 SoK3 100 54 [] [] = some (.bool true, H', e) := run_of_trueZ SoH3 (printed Bool) Sowakes
noncomputable def SoKt : Oracle := SoK3
theorem SoSt (B : Nat) : OracleSound Tryz.prog B U.G SoKt := SoS3 B
end Go.Proofs.YtkkbnchpedacjaaGreatDoor
