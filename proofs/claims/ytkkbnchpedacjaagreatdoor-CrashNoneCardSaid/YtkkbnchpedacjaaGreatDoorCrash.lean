/-
  'silt/siltlaw29.CrashNone' returns true for every input, and the input reads behind the call as it read before. No condition but the row's own: errors.errorType reads as the row says.
-/
import Derived.Test.YtkkbnchpedacjaaGreatDoorCrRun
import Derived.Test.YtkkbnchpedacjaaGreatDoorRows
import Derived.Test.YtkkbnchpedacjaaGreatDoorChecked
import Derived.WalkKit
import Derived.ProofKit
import Derived.ChangeOld
import Derived.ChangeSame
import Derived.ChangeVars
import Derived.JoinedOf
import Derived.RowKitTokens
import Derived.LaidHandle
import Derived.Stop.Joined
import Derived.Test.YtkkbnchpedacjaaGreatDoorCards
import Derived.Test.YtkkbnchpedacjaaGreatDoorTie
import Derived.SevenTiedAt
namespace Go.Proofs.YtkkbnchpedacjaaGreatDoor
open Go Go.X
open Go.ChangeShapes Go.WideShapes Go.ChangeAt Go.RowKit

theorem own : ownKnob Tryz.prog.godebug = none := by kernel_rfl
theorem laidOut : laidOutB Tryz.prog = true := by kernel_rfl

set_option maxRecDepth 100000 in
noncomputable def law : Law Tryz.prog 9 Tryz.f9.params.toList 5 where
  U := U
  ann := ann
  fuel := 1000
  n := 50
  K := pureK (kOf T2)
  sound := F2.ok
  ext := extU
  mixed := mixed
  annOk := hA
  run := by
    rw [Tryz.params9]
    intro vs g
    obtain ⟨v, us, rfl, g0, g1⟩ := all2_cons g
    obtain ⟨w, ur, rfl, g2, g3⟩ := all2_cons g1
    obtain rfl := all2_nil g3
    obtain ⟨ps, rfl, ha⟩ := WT.struct (k := 4) Tryz.underlying127 (n := 2) (by kernel_rfl) g2
    obtain ⟨p0, ra, rfl, h0, hb⟩ := all2_cons ha
    obtain ⟨p1, rb, rfl, h1, hc⟩ := all2_cons hb
    obtain rfl := all2_nil hc
    obtain ⟨a, rfl, _⟩ := WT.int (k := 3) Tryz.underlying3 h0
    rcases WT.slice (k := 4) (sz := 6) Tryz.underlying109 (by kernel_rfl) g0 with rfl | ⟨xs, rfl, hl, hx⟩ <;>
      rcases WT.slice (k := 3) (sz := 1) Tryz.underlying65 (by kernel_rfl) h1 with rfl | ⟨ys, rfl, _, _⟩
    · exact run_of_trueT (run9nn a)
    · exact run_of_trueT (run9ns a ys)
    · exact run_of_trueT (run9sn a xs (entriesOk hx) hl)
    · exact run_of_trueT (run9ss a xs ys (entriesOk hx) hl)

theorem globs (W : World) (h : laidMetH Tryz.prog Rows.crashNoneRow.laid W) : GlobOk law.U.G (Env.start W) :=
  GlobOk.handle (g := 0) (u := 406) (ty := 137) (handle_of_laid (d := Rows.laid_errors_errorType) (bytes := [101, 114, 114, 111, 114]) h (List.mem_singleton.2 rfl) rfl rfl (by kernel_rfl) (by kernel_rfl) (by kernel_rfl))

/-- A world that meets the condition. -/
noncomputable def laidWorld (os : Os) : World :=
  let w0 := World.holding Tryz.prog os ⟨#[], #[], []⟩
  { w0 with heap := w0.heap.modify 0 fun
      | .cells _ t frozen => .cells #[.iface 406 (.agg #[.pointer (some ⟨1, 137, none⟩)])] t frozen
      | o => o }
theorem laidWorld_met (os : Os) (args : Array Value) : laidMetH Tryz.prog Rows.crashNoneRow.laid ((laidWorld os).forCall (fun _ _ => 0) ⟨#[], args, []⟩).memory :=
  laidMetH_of_parts (laidMet_nil _ _) (by kernel_rfl)

set_option maxRecDepth 100000 in
theorem lifted (os : Os) (started : os.Started) (H : Type) (enc : TypeId × Value → H) :
    ReturnsInHanded {} Tryz.checked os 9 .any (fun w args => (Rows.crashNoneSpec.pre enc Tryz.prog Tryz.f9 Rows.crashNoneRow.domain false w args ∧ laidMetH Tryz.prog Rows.crashNoneRow.laid w) ∧ sizedMet enc Tryz.prog Tryz.f9 (OpenSpec.ofChange Rows.crashNoneSpec) false w args)
      (Rows.crashNoneSpec.post enc Tryz.prog Tryz.f9 false true false false) := by
  refine Law.lifted_laid (C := Tryz.checked) (b := 4) (k := 5) law globs own started (by kernel_rfl) Tryz.func9
    (ChangeSpec.witness_at (enc := enc) (C := Tryz.checked) (os := os) (X := fun w _ => laidMetH Tryz.prog Rows.crashNoneRow.laid w) false (laidWorld os) #[.slice none 0 0, .agg #[.int .i64 0, .slice none 0 0]] 8 rfl (by kernel_rfl) (by kernel_rfl) (by kernel_rfl) (by kernel_rfl) (by kernel_rfl) (laidWorld_met os _))
    (by kernel_rfl) Tryz.underlying4 laidOut (by kernel_rfl) rfl ?_
  intro ds hds
  match ds, hds with
  | [d0, d1], _ => rfl

/-! The row's closed facts. -/
theorem fact0 : (Rows.crashNoneRow.wf (OpenSpec.ofChange Rows.crashNoneSpec)) = true := by kernel_rfl
theorem fact1 : (laidOutB Tryz.pinned.checked.prog) = true := by kernel_rfl
theorem fact2 : (mapsRowed Tryz.pinned.checked.prog) = true := by kernel_rfl
theorem fact3 : (Tryz.f9.params.all (Program.readableRec Tryz.pinned.checked.prog ·)) = true := by kernel_rfl
theorem fact4 : (namedTie Tryz.pinned.checked.prog Rows.crashNoneRow.named Rows.crashNoneSpec.vars) = true := by kernel_rfl
theorem fact5 : ((Rows.crashNoneRow.stops == [])) = true := by kernel_rfl
theorem fact6 : ((Tryz.pinned.checked.prog.stops == [])) = true := by kernel_rfl
theorem fact7 : ((Rows.crashNoneRow.knobs == [])) = true := by kernel_rfl
theorem fact8 : ((Tryz.pinned.checked.prog.stopKnobs == [])) = true := by kernel_rfl
theorem fact9 : ((Rows.crashNoneRow.inPlace == Program.inPlace Tryz.pinned.checked.prog 9)) = true := by kernel_rfl
theorem fact10 : ((Rows.crashNoneRow.unfollowed == Program.unfollowed Tryz.pinned.checked.prog 9)) = true := by kernel_rfl
theorem fact11 : ((Rows.crashNoneRow.recurses == Program.recurses Tryz.pinned.checked.prog 9)) = true := by kernel_rfl
theorem fact12 : ((Rows.crashNoneRow.named == Program.varsNamed Tryz.pinned.checked.prog 9)) = true := by kernel_rfl
theorem fact13 : ((Rows.crashNoneRow.maps == (Tryz.f9.params.toList ++ Rows.crashNoneSpec.plain.varTypes Tryz.pinned.checked.prog).any (Program.mapsRec Tryz.pinned.checked.prog ·))) = true := by kernel_rfl
theorem fact14 : ((Rows.crashNoneRow.ifaces == (Tryz.f9.params.toList ++ Rows.crashNoneSpec.plain.varTypes Tryz.pinned.checked.prog).any (Program.ifacesRec Tryz.pinned.checked.prog ·))) = true := by kernel_rfl
theorem fact15 : ((Rows.crashNoneRow.mapsOut == Program.mapsAmong Tryz.pinned.checked.prog Tryz.f9.resultTypes.toList)) = true := by kernel_rfl
theorem fact16 : ((Rows.crashNoneRow.loops == (Tryz.f9.params.toList ++ Rows.crashNoneSpec.plain.varTypes Tryz.pinned.checked.prog).any (Program.loopsFrom Tryz.pinned.checked.prog ·))) = true := by kernel_rfl
theorem fact17 : ((Rows.crashNoneRow.wideKeys == (Tryz.f9.params.toList ++ Rows.crashNoneSpec.plain.varTypes Tryz.pinned.checked.prog ++ Tryz.f9.resultTypes.toList).any (Program.wideKeysFrom Tryz.pinned.checked.prog ·))) = true := by kernel_rfl
theorem fact18 : (Rows.crashNoneSpec.vars.all (Program.varReadable Tryz.pinned.checked.prog ·)) = true := by kernel_rfl
theorem fact19 : (Tryz.f9.resultTypes.all (fun t => Program.readableRec Tryz.pinned.checked.prog t && decide (t < Tryz.pinned.checked.prog.types.size))) = true := by kernel_rfl
theorem fact20 : ((Rows.crashNoneRow.ifacesOut == Tryz.f9.resultTypes.toList.any (Program.ifacesRec Tryz.pinned.checked.prog ·))) = true := by kernel_rfl
theorem fact21 : ((Rows.crashNoneRow.loopsOut == Tryz.f9.resultTypes.toList.any (Program.loopsFrom Tryz.pinned.checked.prog ·))) = true := by kernel_rfl
theorem fact22 : ((Rows.crashNoneRow.plainKeys == Program.plainKeys Tryz.pinned.checked.prog)) = true := by kernel_rfl
theorem fact23 : (Rows.crashNoneRow.shortTexts.isNone) = true := by kernel_rfl
theorem fact24 : (Program.stopsHeard Tryz.pinned.checked.prog) = true := by kernel_rfl
theorem fact25 : (Program.mayEnter Tryz.pinned.checked.prog) = true := by kernel_rfl
theorem fact26 : ((Rows.crashNoneRow.lifted == Program.liftsFinal Tryz.pinned.checked.prog)) = true := by kernel_rfl
theorem fact27 : ((Program.make Tryz.pinned.checked.prog == some Rows.crashNoneRow.make)) = true := by kernel_rfl
theorem fact28 : ((Rows.crashNoneRow.kinds == (if Rows.crashNoneRow.domain.isEmpty then [] else Tryz.f9.params.toList.map fun t => match Program.underlying Tryz.pinned.checked.prog t with | some (.int k) => some k | _ => none))) = true := by kernel_rfl
theorem fact29 : ((Rows.crashNoneRow.pinned == Rows.crashNoneRow.pinnedBy)) = true := by kernel_rfl
theorem fact30 : ((Rows.crashNoneRow.veiled == (Tryz.f9.params.toList ++ Rows.crashNoneSpec.plain.varTypes Tryz.pinned.checked.prog ++ Tryz.f9.resultTypes.toList).any (Program.veiledRec Tryz.pinned.checked.prog ·))) = true := by kernel_rfl
theorem fact31 : (Rows.crashNoneRow.veiledFits Tryz.pinned.checked.prog Tryz.f9.params.toList (Tryz.f9.params.toList ++ Rows.crashNoneSpec.plain.varTypes Tryz.pinned.checked.prog ++ Tryz.f9.resultTypes.toList)) = true := by kernel_rfl
set_option maxRecDepth 100000 in
theorem facts : joinedFacts Tryz.pinned.checked.prog 9 Tryz.f9 Rows.crashNoneSpec Rows.crashNoneRow = true := by
  unfold joinedFacts
  simp only [Bool.and_eq_true]
  exact ⟨⟨⟨⟨⟨⟨⟨⟨⟨⟨⟨⟨⟨⟨⟨⟨⟨⟨⟨⟨⟨⟨⟨⟨⟨⟨⟨⟨⟨⟨⟨fact0, fact1⟩, fact2⟩, fact3⟩, fact4⟩, fact5⟩, fact6⟩, fact7⟩, fact8⟩, fact9⟩, fact10⟩, fact11⟩, fact12⟩, fact13⟩, fact14⟩, fact15⟩, fact16⟩, fact17⟩, fact18⟩, fact19⟩, fact20⟩, fact21⟩, fact22⟩, fact23⟩, fact24⟩, fact25⟩, fact26⟩, fact27⟩, fact28⟩, fact29⟩, fact30⟩, fact31⟩


theorem over : Rows.crashNoneRow.holds Tryz.pinned (OpenSpec.ofChange Rows.crashNoneSpec) :=
  OpenClaim.holds_of_wide 9 Tryz.f9 rfl rfl rfl rfl rfl rfl rfl ⟨rfl, rfl, rfl, rfl, rfl⟩ rfl rfl rfl rfl rfl (by kernel_rfl) Tryz.func9 facts
    (of_decide_eq_true (by kernel_rfl)) (by unfold Func.isWrapper; first | (rw [if_pos (by decide +kernel)]; kernel_rfl) | (rw [if_neg (by decide +kernel)]; exact ⟨rfl, rfl⟩))
    (fun os started H enc _ => lifted os started H enc)

/-! The card's closed facts. -/
theorem cardW : Rows.crashNoneRow.wfByText (OpenSpec.ofChange Rows.crashNoneSpec) = true := by kernel_rfl
theorem cardM : Tryz.pinned.checked.prog.mainIs = some (true, "475195ba9da3d727c99adb5083548a11752c87005dca1ea6c8a122826955ac16".toList) := by kernel_rfl
theorem cardF : Tryz.prog.funcNamed "silt/siltlaw29.CrashNone" = some 9 := by kernel_rfl
theorem cardL : true = Tryz.pinned.checked.prog.looks [] := by kernel_rfl
theorem cardS : ([109, 127].all fun u => !Tryz.prog.wantsStandIn u) = true := by kernel_rfl
theorem cardG : false = Rows.crashNoneRow.goesBy Tryz.pinned.checked.prog := by kernel_rfl
/-- ████ THE STATEMENT: THE TIED CARD ████ -/
theorem crashNone_proved : Rows.CrashNoneCardSaid :=
  Claim7.holds_tied_plain_at .later [] [.handle] true (true, "475195ba9da3d727c99adb5083548a11752c87005dca1ea6c8a122826955ac16") true
    over (fun _ h => by cases h) cardW (fun _ h => by cases h) crashNone_row_tie rfl ⟨rfl, rfl⟩ cardM rfl
    (fun f fn hf hfn => by
      obtain rfl : f = 9 := Option.some.inj (cardF.symm.trans hf) |>.symm
      obtain rfl : fn = Tryz.f9 := (Option.some.inj (Tryz.func9.symm.trans hfn)).symm
      exact ⟨cardL, fun j t ht => by
        rw [Tryz.params9] at ht
        have hm : t ∈ [109, 127] := by simpa using Array.mem_of_getElem? ht
        exact (show Tryz.prog.wantsStandIn t = false by simpa using List.all_eq_true.1 cardS t hm)⟩)
    cardG
#print axioms crashNone_proved
end Go.Proofs.YtkkbnchpedacjaaGreatDoor
