/-
  The statements' own test run of the layer answers true.
-/
import Derived.Test.YtkkbnchpedacjaaGreatDoorSt2
namespace Go.Proofs.YtkkbnchpedacjaaGreatDoor
open Go Go.X
set_option maxRecDepth 100000
theorem Stwakes : evalZQ false Tryz.prog U ann 1000 StK2 StT2 (txt Bool) 100 49 [] [] (fun v _ _ => v.isTrue) = true := of_whnf (by kernel_rfl)
theorem StwakesRun : ∃ H' e, evalN Tryz.prog U ann 1000 StK2 100 49 [] [] = some (.bool true, H', e) := run_of_trueZ StH2 (printed Bool) Stwakes
end Go.Proofs.YtkkbnchpedacjaaGreatDoor
