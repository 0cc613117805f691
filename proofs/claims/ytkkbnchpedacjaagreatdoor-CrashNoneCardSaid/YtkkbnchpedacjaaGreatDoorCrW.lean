/-
  The statements' own test run of the layer answers true.
-/
import Derived.Test.YtkkbnchpedacjaaGreatDoorCr4
namespace Go.Proofs.YtkkbnchpedacjaaGreatDoor
open Go Go.X
set_option maxRecDepth 100000
theorem Crwakes : evalZQ false Tryz.prog U ann 1000 CrK4 CrT4 (txt Bool) 100 67 [] [] (fun v _ _ => v.isTrue) = true := of_whnf (by kernel_rfl)
theorem CrwakesRun : ∃ H' e, evalN Tryz.prog U ann 1000 CrK4 100 67 [] [] = some (.bool true, H', e) := run_of_trueZ CrH4 (printed Bool) Crwakes
noncomputable def CrKt : Oracle := CrK4
theorem CrSt (B : Nat) : OracleSound Tryz.prog B U.G CrKt := CrS4 B
end Go.Proofs.YtkkbnchpedacjaaGreatDoor
