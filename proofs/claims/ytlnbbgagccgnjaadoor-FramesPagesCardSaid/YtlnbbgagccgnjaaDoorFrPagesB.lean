/-
  The law's run, for four of the eight pages.
-/
import Derived.Test.YtlnbbgagccgnjaaDoorFrPagesT
namespace Go.Proofs.YtlnbbgagccgnjaaDoor
open Go Go.X
theorem run4 {R : Type} (bot : R) (n v w : Int) (pin : Bool) (k : AV → Heap → Bool → R) : gotoFK bot true Tryd.prog U ann 1000 (evalN Tryd.prog U ann 1000 (both T1 M0) 99) (evalMK bot Tryd.prog U ann 1000 T1 M0 99) 5 3 0 [true, true] (S5 n v w pin 4) k = tree5 bot v w pin k := by kernel_rfl
theorem run5 {R : Type} (bot : R) (n v w : Int) (pin : Bool) (k : AV → Heap → Bool → R) : gotoFK bot true Tryd.prog U ann 1000 (evalN Tryd.prog U ann 1000 (both T1 M0) 99) (evalMK bot Tryd.prog U ann 1000 T1 M0 99) 5 3 0 [true, true] (S5 n v w pin 5) k = tree5 bot v w pin k := by kernel_rfl
theorem run6 {R : Type} (bot : R) (n v w : Int) (pin : Bool) (k : AV → Heap → Bool → R) : gotoFK bot true Tryd.prog U ann 1000 (evalN Tryd.prog U ann 1000 (both T1 M0) 99) (evalMK bot Tryd.prog U ann 1000 T1 M0 99) 5 3 0 [true, true] (S5 n v w pin 6) k = tree5 bot v w pin k := by kernel_rfl
theorem run7 {R : Type} (bot : R) (n v w : Int) (pin : Bool) (k : AV → Heap → Bool → R) : gotoFK bot true Tryd.prog U ann 1000 (evalN Tryd.prog U ann 1000 (both T1 M0) 99) (evalMK bot Tryd.prog U ann 1000 T1 M0 99) 5 3 0 [true, true] (S5 n v w pin 7) k = tree5 bot v w pin k := by kernel_rfl
end Go.Proofs.YtlnbbgagccgnjaaDoor
