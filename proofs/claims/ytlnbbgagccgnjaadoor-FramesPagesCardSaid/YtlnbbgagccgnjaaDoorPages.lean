/-
  'silt/siltlaw17.FramesPages' returns true for every input, and the input reads behind the call as it read before. No condition but the row's own: errors.errorType reads as the row says.
-/
import Derived.Test.YtlnbbgagccgnjaaDoorFrPages
import Derived.Test.YtlnbbgagccgnjaaDoorRows
import Derived.Test.YtlnbbgagccgnjaaDoorChecked
import Derived.WalkKit
import Derived.ProofKit
import Derived.ChangeOld
import Derived.ChangeSame
import Derived.ChangeVars
import Derived.JoinedOf
import Derived.RowKitTokens
import Derived.LaidHandle
import Derived.Stop.Joined
import Derived.Test.YtlnbbgagccgnjaaDoorCards
import Derived.Test.YtlnbbgagccgnjaaDoorTie
import Derived.SevenTiedAt
namespace Go.Proofs.YtlnbbgagccgnjaaDoor
open Go Go.X
open Go.ChangeShapes Go.WideShapes Go.ChangeAt Go.RowKit

theorem own : ownKnob Tryd.prog.godebug = none := by kernel_rfl
theorem laidOut : laidOutB Tryd.prog = true := by kernel_rfl

set_option maxRecDepth 100000 in
noncomputable def law : Law Tryd.prog 5 Tryd.f5.params.toList 3 where
  U := U
  ann := ann
  fuel := 1000
  n := 100
  K := both T1 M0
  sound := G1.sound
  ext := extU
  mixed := mixed
  annOk := hA
  run := by
    rw [Tryd.params5]
    intro vs g
    obtain ⟨u0, r0, rfl, g0, k0⟩ := all2_cons g
    obtain ⟨u1, r1, rfl, g1, k1⟩ := all2_cons k0
    obtain ⟨u2, r2, rfl, g2, k2⟩ := all2_cons k1
    obtain rfl := all2_nil k2
    obtain ⟨n, rfl, h0, h1⟩ := WT.int (k := 2) Tryd.underlying5 g0
    obtain ⟨xs, rfl, hl, hx⟩ := WT.array (k := 2) (sz := 1) Tryd.underlying55 (by kernel_rfl) g1
    obtain ⟨pin, rfl⟩ := WT.bool (k := 2) Tryd.underlying4 g2
    match xs, hl, hx with
    | [a, b], _, hx =>
      obtain ⟨v, rfl, _⟩ := WT.int (k := 1) Tryd.underlying5 (hx a List.mem_cons_self)
      obtain ⟨w, rfl, _⟩ := WT.int (k := 1) Tryd.underlying5 (hx b (List.mem_cons_of_mem _ List.mem_cons_self))
      exact run_of_trueM (runLaw n v w pin h0 h1)

theorem globs (W : World) (h : laidMetH Tryd.prog Rows.framesPagesRow.laid W) : GlobOk law.U.G (Env.start W) :=
  GlobOk.handle (g := 0) (u := 135) (ty := 103) (handle_of_laid (d := Rows.laid_errors_errorType) (bytes := [101, 114, 114, 111, 114]) h (List.mem_singleton.2 rfl) rfl rfl (by kernel_rfl) (by kernel_rfl) (by kernel_rfl))

/-- A world that meets the condition. -/
noncomputable def laidWorld (os : Os) : World :=
  let w0 := World.holding Tryd.prog os ⟨#[], #[], []⟩
  { w0 with heap := w0.heap.modify 0 fun
      | .cells _ t frozen => .cells #[.iface 135 (.agg #[.pointer (some ⟨1, 103, none⟩)])] t frozen
      | o => o }
theorem laidWorld_met (os : Os) (args : Array Value) : laidMetH Tryd.prog Rows.framesPagesRow.laid ((laidWorld os).forCall (fun _ _ => 0) ⟨#[], args, []⟩).memory :=
  laidMetH_of_parts (laidMet_nil _ _) (by kernel_rfl)

set_option maxRecDepth 100000 in
theorem lifted (os : Os) (started : os.Started) (H : Type) (enc : TypeId × Value → H) :
    ReturnsInHanded {} Tryd.checked os 5 .any (fun w args => (Rows.framesPagesSpec.pre enc Tryd.prog Tryd.f5 Rows.framesPagesRow.domain false w args ∧ laidMetH Tryd.prog Rows.framesPagesRow.laid w) ∧ sizedMet enc Tryd.prog Tryd.f5 (OpenSpec.ofChange Rows.framesPagesSpec) false w args)
      (Rows.framesPagesSpec.post enc Tryd.prog Tryd.f5 false true false false) := by
  refine Law.lifted_laid (C := Tryd.checked) (b := 4) (k := 3) law globs own started (by kernel_rfl) Tryd.func5
    (ChangeSpec.witness_at (enc := enc) (C := Tryd.checked) (os := os) (X := fun w _ => laidMetH Tryd.prog Rows.framesPagesRow.laid w) false (laidWorld os) #[.int .u8 0, .agg #[.int .u8 0, .int .u8 0], .bool false] 8 rfl (by kernel_rfl) (by kernel_rfl) (by kernel_rfl) (by kernel_rfl) (by kernel_rfl) (laidWorld_met os _))
    (by kernel_rfl) Tryd.underlying4 laidOut (by kernel_rfl) rfl ?_
  intro ds hds
  match ds, hds with
  | [d0, d1, d2], _ => rfl

/-! The row's closed facts. -/
theorem fact0 : (Rows.framesPagesRow.wf (OpenSpec.ofChange Rows.framesPagesSpec)) = true := by kernel_rfl
theorem fact1 : (laidOutB Tryd.pinned.checked.prog) = true := by kernel_rfl
theorem fact2 : (mapsRowed Tryd.pinned.checked.prog) = true := by kernel_rfl
theorem fact3 : (Tryd.f5.params.all (Program.readableRec Tryd.pinned.checked.prog ·)) = true := by kernel_rfl
theorem fact4 : (namedTie Tryd.pinned.checked.prog Rows.framesPagesRow.named Rows.framesPagesSpec.vars) = true := by kernel_rfl
theorem fact5 : ((Rows.framesPagesRow.stops == [])) = true := by kernel_rfl
theorem fact6 : ((Tryd.pinned.checked.prog.stops == [])) = true := by kernel_rfl
theorem fact7 : ((Rows.framesPagesRow.knobs == [])) = true := by kernel_rfl
theorem fact8 : ((Tryd.pinned.checked.prog.stopKnobs == [])) = true := by kernel_rfl
theorem fact9 : ((Rows.framesPagesRow.inPlace == Program.inPlace Tryd.pinned.checked.prog 5)) = true := by kernel_rfl
theorem fact10 : ((Rows.framesPagesRow.unfollowed == Program.unfollowed Tryd.pinned.checked.prog 5)) = true := by kernel_rfl
theorem fact11 : ((Rows.framesPagesRow.recurses == Program.recurses Tryd.pinned.checked.prog 5)) = true := by kernel_rfl
theorem fact12 : ((Rows.framesPagesRow.named == Program.varsNamed Tryd.pinned.checked.prog 5)) = true := by kernel_rfl
theorem fact13 : ((Rows.framesPagesRow.maps == (Tryd.f5.params.toList ++ Rows.framesPagesSpec.plain.varTypes Tryd.pinned.checked.prog).any (Program.mapsRec Tryd.pinned.checked.prog ·))) = true := by kernel_rfl
theorem fact14 : ((Rows.framesPagesRow.ifaces == (Tryd.f5.params.toList ++ Rows.framesPagesSpec.plain.varTypes Tryd.pinned.checked.prog).any (Program.ifacesRec Tryd.pinned.checked.prog ·))) = true := by kernel_rfl
theorem fact15 : ((Rows.framesPagesRow.mapsOut == Program.mapsAmong Tryd.pinned.checked.prog Tryd.f5.resultTypes.toList)) = true := by kernel_rfl
theorem fact16 : ((Rows.framesPagesRow.loops == (Tryd.f5.params.toList ++ Rows.framesPagesSpec.plain.varTypes Tryd.pinned.checked.prog).any (Program.loopsFrom Tryd.pinned.checked.prog ·))) = true := by kernel_rfl
theorem fact17 : ((Rows.framesPagesRow.wideKeys == (Tryd.f5.params.toList ++ Rows.framesPagesSpec.plain.varTypes Tryd.pinned.checked.prog ++ Tryd.f5.resultTypes.toList).any (Program.wideKeysFrom Tryd.pinned.checked.prog ·))) = true := by kernel_rfl
theorem fact18 : (Rows.framesPagesSpec.vars.all (Program.varReadable Tryd.pinned.checked.prog ·)) = true := by kernel_rfl
theorem fact19 : (Tryd.f5.resultTypes.all (fun t => Program.readableRec Tryd.pinned.checked.prog t && decide (t < Tryd.pinned.checked.prog.types.size))) = true := by kernel_rfl
theorem fact20 : ((Rows.framesPagesRow.ifacesOut == Tryd.f5.resultTypes.toList.any (Program.ifacesRec Tryd.pinned.checked.prog ·))) = true := by kernel_rfl
theorem fact21 : ((Rows.framesPagesRow.loopsOut == Tryd.f5.resultTypes.toList.any (Program.loopsFrom Tryd.pinned.checked.prog ·))) = true := by kernel_rfl
theorem fact22 : ((Rows.framesPagesRow.plainKeys == Program.plainKeys Tryd.pinned.checked.prog)) = true := by kernel_rfl
theorem fact23 : (Rows.framesPagesRow.shortTexts.isNone) = true := by kernel_rfl
theorem fact24 : (Program.stopsHeard Tryd.pinned.checked.prog) = true := by kernel_rfl
theorem fact25 : (Program.mayEnter Tryd.pinned.checked.prog) = true := by kernel_rfl
theorem fact26 : ((Rows.framesPagesRow.lifted == Program.liftsFinal Tryd.pinned.checked.prog)) = true := by kernel_rfl
theorem fact27 : ((Program.make Tryd.pinned.checked.prog == some Rows.framesPagesRow.make)) = true := by kernel_rfl
theorem fact28 : ((Rows.framesPagesRow.kinds == (if Rows.framesPagesRow.domain.isEmpty then [] else Tryd.f5.params.toList.map fun t => match Program.underlying Tryd.pinned.checked.prog t with | some (.int k) => some k | _ => none))) = true := by kernel_rfl
theorem fact29 : ((Rows.framesPagesRow.pinned == Rows.framesPagesRow.pinnedBy)) = true := by kernel_rfl
theorem fact30 : ((Rows.framesPagesRow.veiled == (Tryd.f5.params.toList ++ Rows.framesPagesSpec.plain.varTypes Tryd.pinned.checked.prog ++ Tryd.f5.resultTypes.toList).any (Program.veiledRec Tryd.pinned.checked.prog ·))) = true := by kernel_rfl
theorem fact31 : (Rows.framesPagesRow.veiledFits Tryd.pinned.checked.prog Tryd.f5.params.toList (Tryd.f5.params.toList ++ Rows.framesPagesSpec.plain.varTypes Tryd.pinned.checked.prog ++ Tryd.f5.resultTypes.toList)) = true := by kernel_rfl
set_option maxRecDepth 100000 in
theorem facts : joinedFacts Tryd.pinned.checked.prog 5 Tryd.f5 Rows.framesPagesSpec Rows.framesPagesRow = true := by
  unfold joinedFacts
  simp only [Bool.and_eq_true]
  exact ⟨⟨⟨⟨⟨⟨⟨⟨⟨⟨⟨⟨⟨⟨⟨⟨⟨⟨⟨⟨⟨⟨⟨⟨⟨⟨⟨⟨⟨⟨⟨fact0, fact1⟩, fact2⟩, fact3⟩, fact4⟩, fact5⟩, fact6⟩, fact7⟩, fact8⟩, fact9⟩, fact10⟩, fact11⟩, fact12⟩, fact13⟩, fact14⟩, fact15⟩, fact16⟩, fact17⟩, fact18⟩, fact19⟩, fact20⟩, fact21⟩, fact22⟩, fact23⟩, fact24⟩, fact25⟩, fact26⟩, fact27⟩, fact28⟩, fact29⟩, fact30⟩, fact31⟩


theorem over : Rows.framesPagesRow.holds Tryd.pinned (OpenSpec.ofChange Rows.framesPagesSpec) :=
  OpenClaim.holds_of_wide 5 Tryd.f5 rfl rfl rfl rfl rfl rfl rfl ⟨rfl, rfl, rfl, rfl, rfl⟩ rfl rfl rfl rfl rfl (by kernel_rfl) Tryd.func5 facts
    (of_decide_eq_true (by kernel_rfl)) (by unfold Func.isWrapper; first | (rw [if_pos (by decide +kernel)]; kernel_rfl) | (rw [if_neg (by decide +kernel)]; exact ⟨rfl, rfl⟩))
    (fun os started H enc _ => lifted os started H enc)

/-- ████ THE STATEMENT: THE TIED CARD ████ -/
theorem framesPages_proved : Rows.FramesPagesCardSaid :=
  Claim7.holds_tied_plain_at .later [] [.handle] true (true, "2d0cccc07d8d17fe01a939a1ffec3a86ce4e87e86ca402e2eecdca77b523394b") true
    over (fun _ h => by cases h) (by kernel_rfl) (fun _ h => by cases h) framesPages_row_tie rfl ⟨rfl, rfl⟩ (by kernel_rfl) rfl
    (fun f fn hf hfn => by
      obtain rfl : f = 5 := Option.some.inj ((show Tryd.prog.funcNamed "silt/siltlaw17.FramesPages" = some 5 by kernel_rfl).symm.trans hf) |>.symm
      obtain rfl : fn = Tryd.f5 := (Option.some.inj (Tryd.func5.symm.trans hfn)).symm
      exact ⟨by kernel_rfl, fun j t ht => by
        rw [Tryd.params5] at ht
        have hm : t ∈ [5, 55, 4] := by simpa using Array.mem_of_getElem? ht
        have hall : ([5, 55, 4].all fun u => !Tryd.prog.wantsStandIn u) = true := by kernel_rfl
        exact (show Tryd.prog.wantsStandIn t = false by simpa using List.all_eq_true.1 hall t hm)⟩)
    (by kernel_rfl)
#print axioms framesPages_proved
end Go.Proofs.YtlnbbgagccgnjaaDoor
