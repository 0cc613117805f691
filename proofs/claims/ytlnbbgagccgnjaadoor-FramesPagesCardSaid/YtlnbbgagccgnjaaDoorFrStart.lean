/-
  The law's run begins: which page it is.
-/
import Derived.Test.YtlnbbgagccgnjaaDoorFrPagesT
namespace Go.Proofs.YtlnbbgagccgnjaaDoor
open Go Go.X
def codeL : Code → Code
  | .seq a _ => a
  | c => c
def codeR : Code → Code
  | .seq _ b => b
  | c => c
noncomputable def body5 : Code := ((Tryd.prog.funcs[5]?).bind (·.body)).getD .skip
section
variable {R : Type} (bot : R)
noncomputable def C5 (fuel m : Nat) : Ctx := ⟨Tryd.prog, evalN Tryd.prog U ann fuel (both T1 M0) m, 0, max Tryd.f5.ntmps 3, ann 5, U, noY, evalI Tryd.prog U ann fuel (evalN Tryd.prog U ann fuel (both T1 M0) m)⟩
def A5 (n v w : Int) (pin : Bool) : List AV := [.int .u8 n, .arr 1 [.int .u8 v, .int .u8 w], .bool pin]
def Sa (n v w : Int) (pin : Bool) : St := ⟨initL (ann 5).keys (A5 n v w pin), [], [], false⟩
def Sb (n v w : Int) (pin : Bool) : St := ⟨[(0, .int .u8 n), (1, .arr 1 [.int .u8 v, .int .u8 w]), (2, .bool pin), (4, .ptr ⟨0, 0, [], 2⟩), (6, .bool false), (7, .bad), (8, .bad), (9, .bad), (10, .bad), (11, .bad), (13, .bad), (14, .bad), (15, .bad), (16, .bad), (67, .bad), (74, .bad)], [], [some ⟨.arr 1 [.int .u8 v, .int .u8 w], false, true⟩], false⟩
theorem reg0 (fuel m : Nat) (n v w : Int) (pin : Bool) (KK : OracleK R) (k : Ex → St → R) : evalCK bot true (C5 fuel m) KK fuel 0 (codeL body5) (Sa n v w pin) k = k .normal (Sb n v w pin) := by kernel_rfl
theorem reg1 (fuel m : Nat) (n v w : Int) (pin : Bool) (KK : OracleK R) (k : Ex → St → R) : evalCK bot true (C5 fuel m) KK fuel 0 (codeL (codeR body5)) (Sb n v w pin) k = k .normal (S5 n v w pin (Int.tmod (IntKind.i64.wrap n) 8)) := by kernel_rfl
theorem begins (fuel m : Nat) (n v w : Int) (pin : Bool) (k : AV → Heap → Bool → R) : evalMK bot Tryd.prog U ann fuel T1 M0 (m + 1) 5 (A5 n v w pin) [] k =
    evalCK bot true (C5 fuel m) (evalMK bot Tryd.prog U ann fuel T1 M0 m) fuel 0 (.seq (codeL body5) (.seq (codeL (codeR body5)) (codeR (codeR body5)))) (Sa n v w pin) (finK bot (C5 fuel m) Tryd.f5 0 k) := by kernel_rfl
theorem goes (fuel m : Nat) (n v w : Int) (pin : Bool) (i : Int) (k : AV → Heap → Bool → R) : gotoFK bot true Tryd.prog U ann fuel (evalN Tryd.prog U ann fuel (both T1 M0) m) (evalMK bot Tryd.prog U ann fuel T1 M0 m) 5 3 0 [true, true] (S5 n v w pin i) k =
    evalCK bot true (C5 fuel m) (evalMK bot Tryd.prog U ann fuel T1 M0 m) fuel 0 (codeR (codeR body5)) (S5 n v w pin i) (finK bot (C5 fuel m) Tryd.f5 0 k) := by kernel_rfl
theorem start5 (fuel m : Nat) (n v w : Int) (pin : Bool) (k : AV → Heap → Bool → R) : evalMK bot Tryd.prog U ann fuel T1 M0 (m + 1) 5 (A5 n v w pin) [] k =
    gotoFK bot true Tryd.prog U ann fuel (evalN Tryd.prog U ann fuel (both T1 M0) m) (evalMK bot Tryd.prog U ann fuel T1 M0 m) 5 3 0 [true, true] (S5 n v w pin (Int.tmod (IntKind.i64.wrap n) 8)) k := by
  rw [begins, goes]
  simp only [evalCK, reg0, reg1]
end
end Go.Proofs.YtlnbbgagccgnjaaDoor
