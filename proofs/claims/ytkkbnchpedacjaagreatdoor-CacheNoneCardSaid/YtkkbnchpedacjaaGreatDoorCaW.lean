/-
  The statements' own test run of the layer answers true.
-/
import Derived.Test.YtkkbnchpedacjaaGreatDoorCa3
namespace Go.Proofs.YtkkbnchpedacjaaGreatDoor
open Go Go.X
set_option maxRecDepth 100000
theorem Cawakes : evalZQ false Tryz.prog U ann 1000 CaK3 CaT3 (txt Bool) 100 32 [] [] (fun v _ _ => v.isTrue) = true := of_whnf (by kernel_rfl)
theorem CawakesRun : ∃ H' e, evalN Tryz.prog U ann 1000 CaK3 100 32 [] [] = some (.bool true, H', e) := run_of_trueZ CaH3 (printed Bool) Cawakes
noncomputable def CaKt : Oracle := CaK3
theorem CaSt (B : Nat) : OracleSound Tryz.prog B U.G CaKt := CaS3 B
end Go.Proofs.YtkkbnchpedacjaaGreatDoor
