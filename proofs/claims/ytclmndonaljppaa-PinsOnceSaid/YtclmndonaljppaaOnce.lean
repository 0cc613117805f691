/-
  'silt/siltlaw24.PinsOnce' returns true for every input, and the input reads behind the call as it read before. No condition.
-/
import Derived.Test.YtclmndonaljppaaKaj
import Derived.Test.YtclmndonaljppaaKal
import Derived.Test.YtclmndonaljppaaRows
import Derived.Test.YtclmndonaljppaaChecked
import Derived.WalkKit
import Derived.ProofKit
import Derived.ChangeOld
import Derived.ChangeSame
import Derived.ChangeVars
import Derived.JoinedOf

namespace Go.Proofs.Ytclmndonaljppaa
open Go Go.X
open Go.ChangeShapes Go.WideShapes Go.ChangeAt Go.RowKit

set_option maxRecDepth 100000 in
noncomputable def onceLaw : Law Try.prog 4 Try.f4.params.toList 4 where
  U := U
  ann := ann
  fuel := 1000
  n := 0
  K := Ktrue Try.prog U.G
  sound := Ktrue_sound Try.prog U.G
  ext := extU
  mixed := mixed
  annOk := hA
  run := by
    rw [Try.params4]
    intro vs g
    obtain ⟨u0, r0, rfl, g0, k0⟩ := all2_cons g
    obtain rfl := all2_nil k0
    rcases arg_open g0 with rfl | ⟨l, rfl⟩
    · exact (PL (F := 0)).law' okS 9 rfl (once4n 120)
    · exact (PL (F := 0)).law' okS 9 rfl (once4 120 l)

set_option maxRecDepth 100000 in
theorem onceLifted (os : Os) (started : os.Started) (H : Type) (enc : TypeId × Value → H) :
    ReturnsInHanded {} Try.checked os 4 .any (Rows.pinsOnceSpec.pre6 enc Try.prog Try.f4 Rows.pinsOnceRow.domain false) (Rows.pinsOnceSpec.post enc Try.prog Try.f4 false true false false) := by
  refine Law.lifted (C := Try.checked) (b := 4) (k := 4) onceLaw (fun W g v h => by cases h) own started (by kernel_rfl) Try.func4
    (ChangeSpec.witness6 (enc := enc) (C := Try.checked) false ⟨#[], #[.slice none 0 0], []⟩ 8 (by kernel_rfl) (by kernel_rfl) (by kernel_rfl) (by kernel_rfl))
    (by kernel_rfl) Try.underlying4 laidOut (by kernel_rfl) rfl ?_
  intro ds hds
  match ds, hds with
  | [d], _ => rfl

theorem onceOver : Rows.pinsOnceRow.holds Try.pinned (OpenSpec.ofChange Rows.pinsOnceSpec) :=
  OpenClaim.holds_of_wide 4 Try.f4 rfl rfl rfl rfl rfl rfl rfl ⟨rfl, rfl, rfl, rfl, rfl⟩ rfl rfl rfl rfl rfl (by kernel_rfl) Try.func4 (by kernel_rfl)
    (of_decide_eq_true (by kernel_rfl)) (by unfold Func.isWrapper; first | (rw [if_pos (by decide +kernel)]; kernel_rfl) | (rw [if_neg (by decide +kernel)]; exact ⟨rfl, rfl⟩))
    (fun os started H enc _ => onceLifted os started H enc)

/-- ████ THE STATEMENT ████ -/
theorem pinsOnce_proved : Rows.PinsOnceSaid := onceOver
#print axioms pinsOnce_proved
end Go.Proofs.Ytclmndonaljppaa
