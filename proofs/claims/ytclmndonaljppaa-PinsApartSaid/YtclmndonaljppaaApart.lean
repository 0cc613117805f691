/-
  'silt/siltlaw24.PinsApart' returns true for every input, and the input reads behind the call as it read before. No condition.
-/
import Derived.Test.YtclmndonaljppaaKaj
import Derived.Test.YtclmndonaljppaaKal
import Derived.Test.YtclmndonaljppaaRows
import Derived.Test.YtclmndonaljppaaChecked
import Derived.WalkKit
import Derived.ProofKit
import Derived.ChangeOld
import Derived.ChangeSame
import Derived.ChangeVars
import Derived.JoinedOf

namespace Go.Proofs.Ytclmndonaljppaa
open Go Go.X
open Go.ChangeShapes Go.WideShapes Go.ChangeAt Go.RowKit

set_option maxRecDepth 100000 in
noncomputable def apartLaw : Law Try.prog 6 Try.f6.params.toList 4 where
  U := U
  ann := ann
  fuel := 1000
  n := 0
  K := Ktrue Try.prog U.G
  sound := Ktrue_sound Try.prog U.G
  ext := extU
  mixed := mixed
  annOk := hA
  run := by
    rw [Try.params6]
    intro vs g
    obtain ⟨u0, r0, rfl, g0, k0⟩ := all2_cons g
    obtain ⟨u1, r1, rfl, g1, k1⟩ := all2_cons k0
    obtain rfl := all2_nil k1
    rcases arg_open g0 with rfl | ⟨l, rfl⟩
    · rcases arg_open g1 with rfl | ⟨m, rfl⟩
      · exact (PL (F := 0)).law' okS 9 rfl (apart6z 120)
      · exact (PL (F := 0)).law' okS 9 rfl (apart6n 120 m)
    · rcases arg_open g1 with rfl | ⟨m, rfl⟩
      · exact (PL (F := 0)).law' okS 9 rfl (apart6m 120 l)
      · exact (PL (F := 0)).law' okS 9 rfl (apart6 120 l m)

set_option maxRecDepth 100000 in
theorem apartLifted (os : Os) (started : os.Started) (H : Type) (enc : TypeId × Value → H) :
    ReturnsInHanded {} Try.checked os 6 .any (Rows.pinsApartSpec.pre6 enc Try.prog Try.f6 Rows.pinsApartRow.domain false) (Rows.pinsApartSpec.post enc Try.prog Try.f6 false true false false) := by
  refine Law.lifted (C := Try.checked) (b := 4) (k := 4) apartLaw (fun W g v h => by cases h) own started (by kernel_rfl) Try.func6
    (ChangeSpec.witness6 (enc := enc) (C := Try.checked) false ⟨#[], #[.slice none 0 0, .slice none 0 0], []⟩ 8 (by kernel_rfl) (by kernel_rfl) (by kernel_rfl) (by kernel_rfl))
    (by kernel_rfl) Try.underlying4 laidOut (by kernel_rfl) rfl ?_
  intro ds hds
  match ds, hds with
  | [d, d'], _ => rfl

theorem apartOver : Rows.pinsApartRow.holds Try.pinned (OpenSpec.ofChange Rows.pinsApartSpec) :=
  OpenClaim.holds_of_wide 6 Try.f6 rfl rfl rfl rfl rfl rfl rfl ⟨rfl, rfl, rfl, rfl, rfl⟩ rfl rfl rfl rfl rfl (by kernel_rfl) Try.func6 (by kernel_rfl)
    (of_decide_eq_true (by kernel_rfl)) (by unfold Func.isWrapper; first | (rw [if_pos (by decide +kernel)]; kernel_rfl) | (rw [if_neg (by decide +kernel)]; exact ⟨rfl, rfl⟩))
    (fun os started H enc _ => apartLifted os started H enc)

/-- ████ THE STATEMENT ████ -/
theorem pinsApart_proved : Rows.PinsApartSaid := apartOver
#print axioms pinsApart_proved
end Go.Proofs.Ytclmndonaljppaa
