/-
  'siltlaw24.PinsNone' returns true for every input, and the input reads behind the call as it read before. No condition.
-/
import Derived.Test.YtclmndonaljppaaAnn
import Derived.Test.YtclmndonaljppaaX30
import Derived.Test.YtclmndonaljppaaRows
import Derived.WalkKit
import Derived.ProofKit
import Derived.OpenShut
import Derived.ChangeOld
import Derived.Below
namespace Go.Proofs.Ytclmndonaljppaa
open Go Go.X
open Go.ChangeShapes Go.WideShapes Go.ChangeAt Go.RowKit

noncomputable def U : Out := ⟨extX Try.prog tab, fun _ => none⟩
def K0 : Oracle := fun _ _ _ => none
theorem annOk : ((List.range Try.prog.funcs.size).all fun f => funcOk Try.prog (ann f) f) = true := by kernel_rfl
theorem tabOk : TabSound Try.prog tab := by
  intro x hx
  simp only [tab, List.mem_cons, List.not_mem_nil, or_false] at hx
  rcases hx with rfl | rfl | rfl | rfl | rfl | rfl
  · exact ⟨_, Try.func33, by kernel_rfl, by kernel_rfl, by kernel_rfl, by kernel_rfl⟩
  · exact ⟨_, Try.func71, by kernel_rfl, by kernel_rfl, by kernel_rfl, by kernel_rfl⟩
  · exact ⟨_, Try.func73, by kernel_rfl, by kernel_rfl, by kernel_rfl, by kernel_rfl⟩
  · exact ⟨_, Try.func74, by kernel_rfl, by kernel_rfl, by kernel_rfl, by kernel_rfl⟩
  · exact ⟨_, Try.func75, by kernel_rfl, by kernel_rfl, by kernel_rfl, by kernel_rfl⟩
  · exact ⟨_, Try.func76, by kernel_rfl, by kernel_rfl, by kernel_rfl, by kernel_rfl⟩
theorem law (b : Bool) (s p : Int) : (evalN Try.prog U ann 1000 K0 50 5 [.agg 3 [.bool b, .int .i64 s, .int .i64 p]] []) = some (.bool true, [], true) := by kernel_rfl

theorem own : ownKnob Try.prog.godebug = none := by kernel_rfl
theorem laidOut : laidOutB Try.prog = true := by kernel_rfl

theorem walk (b : Bool) (s p : Int) (w : World) :
    Calls Try.prog 5 #[.agg #[.bool b, .int .i64 s, .int .i64 p]] w fun e w' => e = .returned (.bool true) ∧ Below w.heap.size w w' := by
  refine run_law (cargs := [.agg #[.bool b, .int .i64 s, .int .i64 p]]) (fun B => none_sound B U.G) (fun B => ext_ok tabOk) (by kernel_rfl) (all_ok annOk) (fun g v h => by simp [U] at h) (law b s p) rfl (fun i v c h1 h2 => ?_)
  cases i with
  | zero =>
    simp only [List.getElem?_cons_zero, Option.some.injEq] at h1 h2
    subst h1 h2
    exact VR.of_PR (v := .agg 3 _) ⟨[.bool b, .int .i64 s, .int .i64 p], FR.agg (.bool (.int (.int .nil))) rfl .nil, rfl⟩
  | succ i => simp at h1

theorem trod_bool {H : Type} {enc : TypeId × Value → H} {P : Program} {w : World} {base : Nat} {spare : Nat → Bool} {held : Bool} {fuel : Nat} {t : TypeId} {x : Value} {r : DataW H × List MemPlace} (hu : P.underlying t = some .bool)
    (h : DataW.trod enc P w base spare held fuel t [x] = some r) : ∃ b, x = .bool b := by
  cases fuel with
  | zero => simp [DataW.trod] at h
  | succ fuel => cases x <;> simp [DataW.trod, hu] at h <;> exact ⟨_, rfl⟩

theorem trod_int {H : Type} {enc : TypeId × Value → H} {P : Program} {w : World} {base : Nat} {spare : Nat → Bool} {held : Bool} {fuel : Nat} {t : TypeId} {k : IntKind} {x : Value} {r : DataW H × List MemPlace} (hu : P.underlying t = some (.int k))
    (h : DataW.trod enc P w base spare held fuel t [x] = some r) : ∃ n, x = .int k n := by
  cases fuel with
  | zero => simp [DataW.trod] at h
  | succ fuel =>
    cases x <;> simp [DataW.trod, hu] at h
    exact ⟨_, by rw [h.1.1]⟩

set_option maxRecDepth 100000 in
theorem open_step {H : Type} {enc : TypeId × Value → H} {w : World} {base : Nat} {spare : Nat → Bool} {held : Bool} {fuel : Nat} {cs : List Value} {r : DataW H × List MemPlace}
    (h : DataW.trod enc Try.prog w base spare held fuel 32 cs = some r) : ∃ b s p, cs = [.bool b, .int .i64 s, .int .i64 p] := by
  cases fuel with
  | zero => simp [DataW.trod] at h
  | succ fuel =>
    have c32 : Try.prog.cellsOf 32 = 3 := by kernel_rfl
    have c4 : Try.prog.cellsOf 4 = 1 := by kernel_rfl
    have c3 : Try.prog.cellsOf 3 = 1 := by kernel_rfl
    simp only [DataW.trod, Try.underlying32, c32] at h
    split at h
    · rename_i hl
      match cs, hl with
      | [x0, x1, x2], _ =>
        simp only [List.mapM_cons, List.mapM_nil, c3, c4, List.drop_zero, List.drop_succ_cons, List.take_succ_cons, List.take_zero, Option.map_eq_some_iff, Option.bind_eq_bind, Option.bind_eq_some_iff] at h
        obtain ⟨_, ⟨a, ha, _, ⟨b, hb, _, ⟨c, hc, _⟩, _⟩, _⟩, _⟩ := h
        obtain ⟨b', rfl⟩ := trod_bool Try.underlying4 ha
        obtain ⟨s, rfl⟩ := trod_int Try.underlying3 hb
        obtain ⟨p, rfl⟩ := trod_int Try.underlying3 hc
        exact ⟨b', s, p, rfl⟩
    · simp at h

set_option maxRecDepth 100000 in
theorem lifted (os : Os) (started : os.Started) (H : Type) (enc : TypeId × Value → H) :
    ReturnsInHanded {} Try.checked os 5 .any (Rows.pinsNoneSpec.pre6 enc Try.prog Try.f5 Rows.pinsNoneRow.domain false) (Rows.pinsNoneSpec.post enc Try.prog Try.f5 false true false false) := by
  refine returnsInHanded_of_change (C := Try.checked) own started (by kernel_rfl) Try.func5
    (ChangeSpec.witness6 (enc := enc) (C := Try.checked) false ⟨#[], #[.agg #[.bool false, .int .i64 0, .int .i64 0]], []⟩ 8 (by kernel_rfl) (by kernel_rfl) (by kernel_rfl) (by kernel_rfl)) ?_
  intro W base args ds gs before hval0 hW hcnd _
  have hval : ∀ (j : Nat) t v, Try.f5.params[j]? = some t → args[j]? = some v → Value.okWide Try.prog W .any base t v := hval0
  have hW' := hW
  obtain ⟨p, q, hA0, hV, rfl, hfz, hnd⟩ := hW
  have hA : DataW.TrodAll enc Try.prog W 0 (fun _ => true) true Try.f5.params.toList args.toList ds p := hA0
  rw [Try.params5] at hA hval
  obtain ⟨v0, vs0, d0, ds0, p0, q0, hargs, rfl, rfl, h0, r0⟩ := trodAll_cons hA
  obtain ⟨rfl, rfl, rfl⟩ := trodAll_nil r0
  obtain rfl : args = #[v0] := by cases args; simp_all
  obtain ⟨rfl, rfl⟩ := trodVars_none hV
  have k0 := h0
  have lt0 : ∀ x ∈ p0, x.block < W.heap.size := by obtain ⟨m, hm⟩ := k0; exact DataW.trod_lt m _ _ _ hm
  obtain ⟨cs, rfl, _⟩ := okWide_struct Try.underlying32 (hval 0 32 v0 rfl rfl)
  obtain ⟨b, s, pg, hcs⟩ : ∃ b s pg, cs.toList = [.bool b, .int .i64 s, .int .i64 pg] := by
    obtain ⟨fuel, hf⟩ := h0
    exact open_step hf
  obtain rfl : cs = #[.bool b, .int .i64 s, .int .i64 pg] := by
    apply Array.ext'
    simpa using hcs
  clear hA0 hval0
  refine (walk b s pg W).mono fun e W' ⟨he, bel⟩ => ?_
  subst he
  exact ⟨_, rfl, _, _, _, [], _, [], hW', trodAll_mk1 (shut_bool Try.underlying4 _), (trodAll_cons_mk (Below.trod laidOut (by kernel_rfl) (of_decide_eq_true (by kernel_rfl)) k0 bel lt0) trodAll_mk0), rfl, bel.frame _, fun h => by cases h⟩

theorem over : Rows.pinsNoneRow.holds Try.pinned (OpenSpec.ofChange Rows.pinsNoneSpec) :=
  OpenClaim.holds_of_wide 5 Try.f5 rfl rfl rfl rfl rfl rfl rfl ⟨rfl, rfl, rfl, rfl, rfl⟩ rfl rfl rfl rfl rfl (by kernel_rfl) Try.func5 (by kernel_rfl)
    (of_decide_eq_true (by kernel_rfl)) (by unfold Func.isWrapper; first | (rw [if_pos (by decide +kernel)]; kernel_rfl) | (rw [if_neg (by decide +kernel)]; exact ⟨rfl, rfl⟩))
    (fun os started H enc _ => lifted os started H enc)

/-- ████ THE STATEMENT ████ -/
theorem pinsNone_proved : Rows.PinsNoneSaid := over
#print axioms pinsNone_proved
end Go.Proofs.Ytclmndonaljppaa
