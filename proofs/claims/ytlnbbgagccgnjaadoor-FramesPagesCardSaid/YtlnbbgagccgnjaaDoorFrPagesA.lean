/-
  The law's run, for four of the eight pages.
-/
import Derived.Test.YtlnbbgagccgnjaaDoorFrPagesT
namespace Go.Proofs.YtlnbbgagccgnjaaDoor
open Go Go.X
theorem run0 {R : Type} (bot : R) (n v w : Int) (pin : Bool) (k : AV → Heap → Bool → R) : gotoFK bot true Tryd.prog U ann 1000 (evalN Tryd.prog U ann 1000 (both T1 M0) 99) (evalMK bot Tryd.prog U ann 1000 T1 M0 99) 5 3 0 [true, true] (S5 n v w pin 0) k = tree5 bot v w pin k := by kernel_rfl
theorem run1 {R : Type} (bot : R) (n v w : Int) (pin : Bool) (k : AV → Heap → Bool → R) : gotoFK bot true Tryd.prog U ann 1000 (evalN Tryd.prog U ann 1000 (both T1 M0) 99) (evalMK bot Tryd.prog U ann 1000 T1 M0 99) 5 3 0 [true, true] (S5 n v w pin 1) k = tree5 bot v w pin k := by kernel_rfl
theorem run2 {R : Type} (bot : R) (n v w : Int) (pin : Bool) (k : AV → Heap → Bool → R) : gotoFK bot true Tryd.prog U ann 1000 (evalN Tryd.prog U ann 1000 (both T1 M0) 99) (evalMK bot Tryd.prog U ann 1000 T1 M0 99) 5 3 0 [true, true] (S5 n v w pin 2) k = tree5 bot v w pin k := by kernel_rfl
theorem run3 {R : Type} (bot : R) (n v w : Int) (pin : Bool) (k : AV → Heap → Bool → R) : gotoFK bot true Tryd.prog U ann 1000 (evalN Tryd.prog U ann 1000 (both T1 M0) 99) (evalMK bot Tryd.prog U ann 1000 T1 M0 99) 5 3 0 [true, true] (S5 n v w pin 3) k = tree5 bot v w pin k := by kernel_rfl
end Go.Proofs.YtlnbbgagccgnjaaDoor
