/-
  The law's run is true, for every page, bytes, pin.
-/
import Derived.Test.YtlnbbgagccgnjaaDoorFrPagesA
import Derived.Test.YtlnbbgagccgnjaaDoorFrPagesB
import Derived.Test.YtlnbbgagccgnjaaDoorFrStart
import Derived.Test.YtlnbbgagccgnjaaDoorFrPgEq
import Derived.Test.YtlnbbgagccgnjaaDoorFrWakes
namespace Go.Proofs.YtlnbbgagccgnjaaDoor
open Go Go.X
theorem runLaw (n v w : Int) (pin : Bool) (h0 : 0 ≤ n) (h1 : n ≤ 255) : evalMK false Tryd.prog U ann 1000 T1 M0 100 5 (A5 n v w pin) [] (fun v _ _ => v.isTrue) = true := by
  rw [start5 false 1000 99]
  have hw : IntKind.i64.wrap n = n := by
    rw [IntKind.wrap_i64]
    omega
  rw [hw]
  have h : Int.tmod n 8 = 0 ∨ Int.tmod n 8 = 1 ∨ Int.tmod n 8 = 2 ∨ Int.tmod n 8 = 3 ∨ Int.tmod n 8 = 4 ∨ Int.tmod n 8 = 5 ∨ Int.tmod n 8 = 6 ∨ Int.tmod n 8 = 7 := by
    rw [Int.tmod_eq_emod_of_nonneg h0]
    omega
  rcases h with h | h | h | h | h | h | h | h <;> rw [h]
  · rw [run0]; exact treeTrue v w pin
  · rw [run1]; exact treeTrue v w pin
  · rw [run2]; exact treeTrue v w pin
  · rw [run3]; exact treeTrue v w pin
  · rw [run4]; exact treeTrue v w pin
  · rw [run5]; exact treeTrue v w pin
  · rw [run6]; exact treeTrue v w pin
  · rw [run7]; exact treeTrue v w pin
end Go.Proofs.YtlnbbgagccgnjaaDoor
