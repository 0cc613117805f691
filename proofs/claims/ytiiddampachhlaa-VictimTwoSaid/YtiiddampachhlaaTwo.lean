/-
  'silt/siltlaw12.VictimTwo' returns true for every input, and the input reads behind the call as it read before. No condition.
-/
import Derived.Test.YtiiddampachhlaaKai
import Derived.Test.YtiiddampachhlaaRows
import Derived.Test.YtiiddampachhlaaChecked
import Derived.WalkKit
import Derived.ProofKit
import Derived.ChangeOld
import Derived.ChangeSame
import Derived.ChangeVars
import Derived.JoinedOf

namespace Go.Proofs.Ytiiddampachhlaa
open Go Go.X
open Go.ChangeShapes Go.WideShapes Go.ChangeAt Go.RowKit
theorem own : ownKnob Try.prog.godebug = none := by kernel_rfl
theorem laidOut : laidOutB Try.prog = true := by kernel_rfl
set_option maxRecDepth 100000 in
theorem ints_open {k : Nat} : ∀ {xs : List AV}, (∀ x ∈ xs, WT Try.prog (k + 1) 3 x) → ∃ ds : List Int, xs = row encZ ds ∧ ∀ d, d ∈ ds → d < 2 ^ 63
  | [], _ => ⟨[], rfl, by simp⟩
  | x :: xs, h => by
    obtain ⟨ds, rfl, hd⟩ := ints_open fun y hy => h y (List.mem_cons_of_mem _ hy)
    obtain ⟨z, rfl, hz⟩ := WT.int (k := k) Try.underlying3 (h x List.mem_cons_self)
    refine ⟨z :: ds, rfl, fun d hm => ?_⟩
    rcases List.mem_cons.1 hm with rfl | hm
    · have h2 : d ≤ IntKind.max .i64 := hz.2
      have h3 : IntKind.max .i64 = 9223372036854775807 := by decide
      omega
    · exact hd d hm
set_option maxRecDepth 100000 in
theorem slice_open {v : AV} (h : WT Try.prog 4 22 v) : ∃ d : Option (List Int), v = dZ d ∧ ∀ x, x ∈ d.getD [] → x < 2 ^ 63 := by
  rcases WT.slice (k := 3) (sz := 1) Try.underlying22 (by kernel_rfl) h with rfl | ⟨xs, rfl, _, hx⟩
  · exact ⟨none, rfl, by simp⟩
  · obtain ⟨ds, rfl, hd⟩ := ints_open hx
    exact ⟨some ds, rfl, hd⟩
set_option maxRecDepth 100000 in
noncomputable def two : Law Try.prog 3 Try.f3.params.toList 4 where
  U := U
  ann := ann
  fuel := 1000
  n := 0
  K := Ktrue Try.prog U.G
  sound := Ktrue_sound Try.prog U.G
  ext := extU
  mixed := mixed
  annOk := hA
  run := by
    rw [Try.params3]
    intro vs g
    obtain ⟨u0, r0, rfl, g0, k0⟩ := all2_cons g
    obtain ⟨u1, r1, rfl, g1, k1⟩ := all2_cons k0
    obtain rfl := all2_nil k1
    obtain ⟨d0, rfl, h0⟩ := slice_open g0
    obtain ⟨d1, rfl, _⟩ := slice_open g1
    cases d0 with
    | none => exact runTwoN d1
    | some lv => exact runTwo lv d1 h0
set_option maxRecDepth 100000 in
theorem lifted (os : Os) (started : os.Started) (H : Type) (enc : TypeId × Value → H) :
    ReturnsInHanded {} Try.checked os 3 .any (Rows.victimTwoSpec.pre6 enc Try.prog Try.f3 Rows.victimTwoRow.domain false) (Rows.victimTwoSpec.post enc Try.prog Try.f3 false true false false) := by
  refine Law.lifted (C := Try.checked) (b := 4) (k := 4) two (fun W g v h => by cases h) own started (by kernel_rfl) Try.func3
    (ChangeSpec.witness6 (enc := enc) (C := Try.checked) false ⟨#[], #[.slice none 0 0, .slice none 0 0], []⟩ 8 (by kernel_rfl) (by kernel_rfl) (by kernel_rfl) (by kernel_rfl))
    (by kernel_rfl) Try.underlying4 laidOut (by kernel_rfl) rfl ?_
  intro ds hds
  match ds, hds with
  | [d, d'], _ => rfl
theorem over : Rows.victimTwoRow.holds Try.pinned (OpenSpec.ofChange Rows.victimTwoSpec) :=
  OpenClaim.holds_of_wide 3 Try.f3 rfl rfl rfl rfl rfl rfl rfl ⟨rfl, rfl, rfl, rfl, rfl⟩ rfl rfl rfl rfl rfl (by kernel_rfl) Try.func3 (by kernel_rfl)
    (of_decide_eq_true (by kernel_rfl)) (by unfold Func.isWrapper; first | (rw [if_pos (by decide +kernel)]; kernel_rfl) | (rw [if_neg (by decide +kernel)]; exact ⟨rfl, rfl⟩))
    (fun os started H enc _ => lifted os started H enc)

/-- ████ THE STATEMENT ████ -/
theorem victimTwo_proved : Rows.VictimTwoSaid := over
#print axioms victimTwo_proved
end Go.Proofs.Ytiiddampachhlaa
