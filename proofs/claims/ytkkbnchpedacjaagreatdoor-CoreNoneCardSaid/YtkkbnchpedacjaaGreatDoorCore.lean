/-
  'silt/siltlaw21.CoreNone' returns true for every input, and the input reads behind the call as it read before. No condition but the row's own: errors.errorType reads as the row says.
-/
import Derived.Test.YtkkbnchpedacjaaGreatDoorCoWT
import Derived.Test.YtkkbnchpedacjaaGreatDoorRows
import Derived.Test.YtkkbnchpedacjaaGreatDoorChecked
import Derived.WalkKit
import Derived.ProofKit
import Derived.ChangeOld
import Derived.ChangeSame
import Derived.ChangeVars
import Derived.JoinedOf
import Derived.RowKitTokens
import Derived.LaidHandle
import Derived.Stop.Joined
import Derived.Test.YtkkbnchpedacjaaGreatDoorCards
import Derived.Test.YtkkbnchpedacjaaGreatDoorTie
import Derived.SevenTiedAt
namespace Go.Proofs.YtkkbnchpedacjaaGreatDoor
open Go Go.X
open Go.ChangeShapes Go.WideShapes Go.ChangeAt Go.RowKit

theorem own : ownKnob Tryz.prog.godebug = none := by kernel_rfl
theorem laidOut : laidOutB Tryz.prog = true := by kernel_rfl

set_option maxRecDepth 100000 in
noncomputable def law : Law Tryz.prog 4 Tryz.f4.params.toList 4 where
  U := U
  ann := ann
  fuel := 1000
  n := 100
  K := KL
  sound := SL
  ext := extU
  mixed := mixed
  annOk := hA
  run := by
    rw [Tryz.params4]
    intro vs g
    obtain ⟨v, us, rfl, g0, g1⟩ := all2_cons g
    obtain ⟨w, ur, rfl, g2, g3⟩ := all2_cons g1
    obtain rfl := all2_nil g3
    obtain ⟨id, rfl, _⟩ := WT.int (k := 3) Tryz.underlying3 g0
    rcases WT.slice (k := 3) (sz := 34) Tryz.underlying48 (by kernel_rfl) g2 with rfl | ⟨xs, rfl, _, hx⟩
    · exact run_of_trueZ HL (printed Bool) (lawNil id)
    · exact run_of_trueZ HF (printed Bool) (lawRun id xs (wantsOk hx))

theorem globs (W : World) (h : laidMetH Tryz.prog Rows.coreNoneRow.laid W) : GlobOk law.U.G (Env.start W) :=
  GlobOk.handle (g := 0) (u := 406) (ty := 137) (handle_of_laid (d := Rows.laid_errors_errorType) (bytes := [101, 114, 114, 111, 114]) h (List.mem_singleton.2 rfl) rfl rfl (by kernel_rfl) (by kernel_rfl) (by kernel_rfl))

/-- A world that meets the condition. -/
noncomputable def laidWorld (os : Os) : World :=
  let w0 := World.holding Tryz.prog os ⟨#[], #[], []⟩
  { w0 with heap := w0.heap.modify 0 fun
      | .cells _ t frozen => .cells #[.iface 406 (.agg #[.pointer (some ⟨1, 137, none⟩)])] t frozen
      | o => o }
theorem laidWorld_met (os : Os) (args : Array Value) : laidMetH Tryz.prog Rows.coreNoneRow.laid ((laidWorld os).forCall (fun _ _ => 0) ⟨#[], args, []⟩).memory :=
  laidMetH_of_parts (laidMet_nil _ _) (by kernel_rfl)

set_option maxRecDepth 100000 in
theorem lifted (os : Os) (started : os.Started) (H : Type) (enc : TypeId × Value → H) :
    ReturnsInHanded {} Tryz.checked os 4 .any (fun w args => (Rows.coreNoneSpec.pre enc Tryz.prog Tryz.f4 Rows.coreNoneRow.domain false w args ∧ laidMetH Tryz.prog Rows.coreNoneRow.laid w) ∧ sizedMet enc Tryz.prog Tryz.f4 (OpenSpec.ofChange Rows.coreNoneSpec) false w args)
      (Rows.coreNoneSpec.post enc Tryz.prog Tryz.f4 false true false false) := by
  refine Law.lifted_laid (C := Tryz.checked) (b := 4) (k := 4) law globs own started (by kernel_rfl) Tryz.func4
    (ChangeSpec.witness_at (enc := enc) (C := Tryz.checked) (os := os) (X := fun w _ => laidMetH Tryz.prog Rows.coreNoneRow.laid w) false (laidWorld os) #[.int .i64 0, .slice none 0 0] 8 rfl (by kernel_rfl) (by kernel_rfl) (by kernel_rfl) (by kernel_rfl) (by kernel_rfl) (laidWorld_met os _))
    (by kernel_rfl) Tryz.underlying4 laidOut (by kernel_rfl) rfl ?_
  intro ds hds
  match ds, hds with
  | [d0, d1], _ => rfl

/-! The row's closed facts. -/
theorem fact0 : (Rows.coreNoneRow.wf (OpenSpec.ofChange Rows.coreNoneSpec)) = true := by kernel_rfl
theorem fact1 : (laidOutB Tryz.pinned.checked.prog) = true := by kernel_rfl
theorem fact2 : (mapsRowed Tryz.pinned.checked.prog) = true := by kernel_rfl
theorem fact3 : (Tryz.f4.params.all (Program.readableRec Tryz.pinned.checked.prog ·)) = true := by kernel_rfl
theorem fact4 : (namedTie Tryz.pinned.checked.prog Rows.coreNoneRow.named Rows.coreNoneSpec.vars) = true := by kernel_rfl
theorem fact5 : ((Rows.coreNoneRow.stops == [])) = true := by kernel_rfl
theorem fact6 : ((Tryz.pinned.checked.prog.stops == [])) = true := by kernel_rfl
theorem fact7 : ((Rows.coreNoneRow.knobs == [])) = true := by kernel_rfl
theorem fact8 : ((Tryz.pinned.checked.prog.stopKnobs == [])) = true := by kernel_rfl
theorem fact9 : ((Rows.coreNoneRow.inPlace == Program.inPlace Tryz.pinned.checked.prog 4)) = true := by kernel_rfl
theorem fact10 : ((Rows.coreNoneRow.unfollowed == Program.unfollowed Tryz.pinned.checked.prog 4)) = true := by kernel_rfl
theorem fact11 : ((Rows.coreNoneRow.recurses == Program.recurses Tryz.pinned.checked.prog 4)) = true := by kernel_rfl
theorem fact12 : ((Rows.coreNoneRow.named == Program.varsNamed Tryz.pinned.checked.prog 4)) = true := by kernel_rfl
theorem fact13 : ((Rows.coreNoneRow.maps == (Tryz.f4.params.toList ++ Rows.coreNoneSpec.plain.varTypes Tryz.pinned.checked.prog).any (Program.mapsRec Tryz.pinned.checked.prog ·))) = true := by kernel_rfl
theorem fact14 : ((Rows.coreNoneRow.ifaces == (Tryz.f4.params.toList ++ Rows.coreNoneSpec.plain.varTypes Tryz.pinned.checked.prog).any (Program.ifacesRec Tryz.pinned.checked.prog ·))) = true := by kernel_rfl
theorem fact15 : ((Rows.coreNoneRow.mapsOut == Program.mapsAmong Tryz.pinned.checked.prog Tryz.f4.resultTypes.toList)) = true := by kernel_rfl
theorem fact16 : ((Rows.coreNoneRow.loops == (Tryz.f4.params.toList ++ Rows.coreNoneSpec.plain.varTypes Tryz.pinned.checked.prog).any (Program.loopsFrom Tryz.pinned.checked.prog ·))) = true := by kernel_rfl
theorem fact17 : ((Rows.coreNoneRow.wideKeys == (Tryz.f4.params.toList ++ Rows.coreNoneSpec.plain.varTypes Tryz.pinned.checked.prog ++ Tryz.f4.resultTypes.toList).any (Program.wideKeysFrom Tryz.pinned.checked.prog ·))) = true := by kernel_rfl
theorem fact18 : (Rows.coreNoneSpec.vars.all (Program.varReadable Tryz.pinned.checked.prog ·)) = true := by kernel_rfl
theorem fact19 : (Tryz.f4.resultTypes.all (fun t => Program.readableRec Tryz.pinned.checked.prog t && decide (t < Tryz.pinned.checked.prog.types.size))) = true := by kernel_rfl
theorem fact20 : ((Rows.coreNoneRow.ifacesOut == Tryz.f4.resultTypes.toList.any (Program.ifacesRec Tryz.pinned.checked.prog ·))) = true := by kernel_rfl
theorem fact21 : ((Rows.coreNoneRow.loopsOut == Tryz.f4.resultTypes.toList.any (Program.loopsFrom Tryz.pinned.checked.prog ·))) = true := by kernel_rfl
theorem fact22 : ((Rows.coreNoneRow.plainKeys == Program.plainKeys Tryz.pinned.checked.prog)) = true := by kernel_rfl
theorem fact23 : (Rows.coreNoneRow.shortTexts.isNone) = true := by kernel_rfl
theorem fact24 : (Program.stopsHeard Tryz.pinned.checked.prog) = true := by kernel_rfl
theorem fact25 : (Program.mayEnter Tryz.pinned.checked.prog) = true := by kernel_rfl
theorem fact26 : ((Rows.coreNoneRow.lifted == Program.liftsFinal Tryz.pinned.checked.prog)) = true := by kernel_rfl
theorem fact27 : ((Program.make Tryz.pinned.checked.prog == some Rows.coreNoneRow.make)) = true := by kernel_rfl
theorem fact28 : ((Rows.coreNoneRow.kinds == (if Rows.coreNoneRow.domain.isEmpty then [] else Tryz.f4.params.toList.map fun t => match Program.underlying Tryz.pinned.checked.prog t with | some (.int k) => some k | _ => none))) = true := by kernel_rfl
theorem fact29 : ((Rows.coreNoneRow.pinned == Rows.coreNoneRow.pinnedBy)) = true := by kernel_rfl
theorem fact30 : ((Rows.coreNoneRow.veiled == (Tryz.f4.params.toList ++ Rows.coreNoneSpec.plain.varTypes Tryz.pinned.checked.prog ++ Tryz.f4.resultTypes.toList).any (Program.veiledRec Tryz.pinned.checked.prog ·))) = true := by kernel_rfl
theorem fact31 : (Rows.coreNoneRow.veiledFits Tryz.pinned.checked.prog Tryz.f4.params.toList (Tryz.f4.params.toList ++ Rows.coreNoneSpec.plain.varTypes Tryz.pinned.checked.prog ++ Tryz.f4.resultTypes.toList)) = true := by kernel_rfl
set_option maxRecDepth 100000 in
theorem facts : joinedFacts Tryz.pinned.checked.prog 4 Tryz.f4 Rows.coreNoneSpec Rows.coreNoneRow = true := by
  unfold joinedFacts
  simp only [Bool.and_eq_true]
  exact ⟨⟨⟨⟨⟨⟨⟨⟨⟨⟨⟨⟨⟨⟨⟨⟨⟨⟨⟨⟨⟨⟨⟨⟨⟨⟨⟨⟨⟨⟨⟨fact0, fact1⟩, fact2⟩, fact3⟩, fact4⟩, fact5⟩, fact6⟩, fact7⟩, fact8⟩, fact9⟩, fact10⟩, fact11⟩, fact12⟩, fact13⟩, fact14⟩, fact15⟩, fact16⟩, fact17⟩, fact18⟩, fact19⟩, fact20⟩, fact21⟩, fact22⟩, fact23⟩, fact24⟩, fact25⟩, fact26⟩, fact27⟩, fact28⟩, fact29⟩, fact30⟩, fact31⟩


theorem over : Rows.coreNoneRow.holds Tryz.pinned (OpenSpec.ofChange Rows.coreNoneSpec) :=
  OpenClaim.holds_of_wide 4 Tryz.f4 rfl rfl rfl rfl rfl rfl rfl ⟨rfl, rfl, rfl, rfl, rfl⟩ rfl rfl rfl rfl rfl (by kernel_rfl) Tryz.func4 facts
    (of_decide_eq_true (by kernel_rfl)) (by unfold Func.isWrapper; first | (rw [if_pos (by decide +kernel)]; kernel_rfl) | (rw [if_neg (by decide +kernel)]; exact ⟨rfl, rfl⟩))
    (fun os started H enc _ => lifted os started H enc)

/-- ████ THE STATEMENT: THE TIED CARD ████ -/
theorem coreNone_proved : Rows.CoreNoneCardSaid :=
  Claim7.holds_tied_plain_at .later [] [.handle] true (true, "475195ba9da3d727c99adb5083548a11752c87005dca1ea6c8a122826955ac16") true
    over (fun _ h => by cases h) (by kernel_rfl) (fun _ h => by cases h) coreNone_row_tie rfl ⟨rfl, rfl⟩ (by kernel_rfl) rfl
    (fun f fn hf hfn => by
      obtain rfl : f = 4 := Option.some.inj ((show Tryz.prog.funcNamed "silt/siltlaw21.CoreNone" = some 4 by kernel_rfl).symm.trans hf) |>.symm
      obtain rfl : fn = Tryz.f4 := (Option.some.inj (Tryz.func4.symm.trans hfn)).symm
      exact ⟨by kernel_rfl, fun j t ht => by
        rw [Tryz.params4] at ht
        have hm : t ∈ [3, 48] := by simpa using Array.mem_of_getElem? ht
        have hall : ([3, 48].all fun u => !Tryz.prog.wantsStandIn u) = true := by kernel_rfl
        exact (show Tryz.prog.wantsStandIn t = false by simpa using List.all_eq_true.1 hall t hm)⟩)
    (by kernel_rfl)
#print axioms coreNone_proved
end Go.Proofs.YtkkbnchpedacjaaGreatDoor
