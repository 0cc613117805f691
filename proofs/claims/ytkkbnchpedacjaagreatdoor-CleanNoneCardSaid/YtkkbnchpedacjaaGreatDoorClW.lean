/-
  The statements' own test run of the layer answers true.
-/
import Derived.Test.YtkkbnchpedacjaaGreatDoorCl2
namespace Go.Proofs.YtkkbnchpedacjaaGreatDoor
open Go Go.X
set_option maxRecDepth 100000
theorem Clwakes : evalZQ false Tryz.prog U ann 1000 ClK2 ClT2 (txt Bool) 100 26 [] [] (fun v _ _ => v.isTrue) = true := of_whnf (by kernel_rfl)
theorem ClwakesRun : ∃ H' e, evalN Tryz.prog U ann 1000 ClK2 100 26 [] [] = some (.bool true, H', e) := run_of_trueZ ClH2 (printed Bool) Clwakes
end Go.Proofs.YtkkbnchpedacjaaGreatDoor
