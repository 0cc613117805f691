/-
  'silt/siltlaw17.FramesPlay' returns true for every input, and the input reads behind the call as it read before. No condition but the row's own: errors.errorType reads as the row says.
-/
import Derived.Test.YtlnbbgagccgnjaaDoorKal
import Derived.Test.YtlnbbgagccgnjaaDoorRows
import Derived.Test.YtlnbbgagccgnjaaDoorChecked
import Derived.WalkKit
import Derived.ProofKit
import Derived.ChangeOld
import Derived.ChangeSame
import Derived.ChangeVars
import Derived.JoinedOf
import Derived.RowKitTokens
import Derived.LaidHandle
import Derived.Stop.Joined
import Derived.Test.YtlnbbgagccgnjaaDoorCards
import Derived.Test.YtlnbbgagccgnjaaDoorTie
import Derived.SevenTiedAt

namespace Go.Proofs.YtlnbbgagccgnjaaDoor
open Go Go.X
open Go.ChangeShapes Go.WideShapes Go.ChangeAt Go.RowKit

theorem own : ownKnob Tryd.prog.godebug = none := by kernel_rfl
theorem laidOut : laidOutB Tryd.prog = true := by kernel_rfl

set_option maxRecDepth 100000 in
theorem bytes_open : ∀ {xs : List AV}, (∀ x ∈ xs, WT Tryd.prog 1 5 x) → ∃ ds : List Int, xs = row encU ds
  | [], _ => ⟨[], rfl⟩
  | x :: xs, h => by
    obtain ⟨ds, rfl⟩ := bytes_open fun y hy => h y (List.mem_cons_of_mem _ hy)
    obtain ⟨z, rfl, _⟩ := WT.int (k := 0) Tryd.underlying5 (h x List.mem_cons_self)
    exact ⟨z :: ds, rfl⟩
set_option maxRecDepth 100000 in
theorem step_open {x : AV} (h : WT Tryd.prog 3 37 x) : ∃ st : Stp, x = encSt st := by
  obtain ⟨ps, rfl, hq⟩ := WT.struct (k := 2) (n := 6) Tryd.underlying37 (by kernel_rfl) h
  obtain ⟨a, r, rfl, g0, k0⟩ := all2_cons hq
  obtain ⟨b, r, rfl, g1, k1⟩ := all2_cons k0
  obtain ⟨c, r, rfl, g2, k2⟩ := all2_cons k1
  obtain ⟨d, r, rfl, g3, k3⟩ := all2_cons k2
  obtain ⟨e, r, rfl, g4, k4⟩ := all2_cons k3
  obtain ⟨f, r, rfl, g5, k5⟩ := all2_cons k4
  obtain rfl := all2_nil k5
  obtain ⟨a, rfl, _⟩ := WT.int (k := 1) Tryd.underlying3 g0
  obtain ⟨b, rfl, _⟩ := WT.int (k := 1) Tryd.underlying3 g1
  obtain ⟨c, rfl, _⟩ := WT.int (k := 1) Tryd.underlying3 g2
  obtain ⟨d, rfl, _⟩ := WT.int (k := 1) Tryd.underlying3 g3
  obtain ⟨e, rfl, _⟩ := WT.int (k := 1) Tryd.underlying5 g4
  rcases WT.slice (k := 1) (sz := 1) Tryd.underlying35 (by kernel_rfl) g5 with rfl | ⟨xs, rfl, _, hx⟩
  · exact ⟨⟨a, b, c, d, e, none⟩, rfl⟩
  · obtain ⟨ds, rfl⟩ := bytes_open hx
    exact ⟨⟨a, b, c, d, e, some ds⟩, rfl⟩
set_option maxRecDepth 100000 in
theorem steps_open : ∀ {xs : List AV}, (∀ x ∈ xs, WT Tryd.prog 3 37 x) → ∃ l : List Stp, xs = row encSt l
  | [], _ => ⟨[], rfl⟩
  | x :: xs, h => by
    obtain ⟨l, rfl⟩ := steps_open fun y hy => h y (List.mem_cons_of_mem _ hy)
    obtain ⟨st, rfl⟩ := step_open (h x List.mem_cons_self)
    exact ⟨st :: l, rfl⟩

set_option maxRecDepth 100000 in
noncomputable def law : Law Tryd.prog 6 Tryd.f6.params.toList 4 where
  U := U
  ann := ann
  fuel := 1000
  n := 0
  K := Ktrue Tryd.prog U.G
  sound := Ktrue_sound Tryd.prog U.G
  ext := extU
  mixed := mixed
  annOk := hA
  run := by
    rw [Tryd.params6]
    intro vs g
    obtain ⟨u0, r0, rfl, g0, k0⟩ := all2_cons g
    obtain ⟨u1, r1, rfl, g1, k1⟩ := all2_cons k0
    obtain rfl := all2_nil k1
    obtain ⟨m, rfl, _⟩ := WT.int (k := 3) Tryd.underlying3 g0
    rcases WT.slice (k := 3) (sz := 6) Tryd.underlying22 (by kernel_rfl) g1 with rfl | ⟨xs, rfl, hl, hx⟩
    · exact runPlayN m
    · obtain ⟨l, rfl⟩ := steps_open hx
      rw [row_length] at hl
      exact runPlay m l (Nat.lt_of_le_of_lt hl (by decide))

theorem globs (W : World) (h : laidMetH Tryd.prog Rows.framesPlayRow.laid W) : GlobOk law.U.G (Env.start W) :=
  GlobOk.handle (g := 0) (u := 135) (ty := 103) (handle_of_laid (d := Rows.laid_errors_errorType) (bytes := [101, 114, 114, 111, 114]) h (List.mem_singleton.2 rfl) rfl rfl (by kernel_rfl) (by kernel_rfl) (by kernel_rfl))

/-- A world that meets the condition. -/
noncomputable def laidWorld (os : Os) : World :=
  let w0 := World.holding Tryd.prog os ⟨#[], #[], []⟩
  { w0 with heap := w0.heap.modify 0 fun
      | .cells _ t frozen => .cells #[.iface 135 (.agg #[.pointer (some ⟨1, 103, none⟩)])] t frozen
      | o => o }
theorem laidWorld_met (os : Os) (args : Array Value) : laidMetH Tryd.prog Rows.framesPlayRow.laid ((laidWorld os).forCall (fun _ _ => 0) ⟨#[], args, []⟩).memory :=
  laidMetH_of_parts (laidMet_nil _ _) (by kernel_rfl)

set_option maxRecDepth 100000 in
theorem lifted (os : Os) (started : os.Started) (H : Type) (enc : TypeId × Value → H) :
    ReturnsInHanded {} Tryd.checked os 6 .any (fun w args => (Rows.framesPlaySpec.pre enc Tryd.prog Tryd.f6 Rows.framesPlayRow.domain false w args ∧ laidMetH Tryd.prog Rows.framesPlayRow.laid w) ∧ sizedMet enc Tryd.prog Tryd.f6 (OpenSpec.ofChange Rows.framesPlaySpec) false w args)
      (Rows.framesPlaySpec.post enc Tryd.prog Tryd.f6 false true false false) := by
  refine Law.lifted_laid (C := Tryd.checked) (b := 4) (k := 4) law globs own started (by kernel_rfl) Tryd.func6
    (ChangeSpec.witness_at (enc := enc) (C := Tryd.checked) (os := os) (X := fun w _ => laidMetH Tryd.prog Rows.framesPlayRow.laid w) false (laidWorld os) #[.int .i64 0, .slice none 0 0] 8 rfl (by kernel_rfl) (by kernel_rfl) (by kernel_rfl) (by kernel_rfl) (by kernel_rfl) (laidWorld_met os _))
    (by kernel_rfl) Tryd.underlying4 laidOut (by kernel_rfl) rfl ?_
  intro ds hds
  match ds, hds with
  | [d0, d1], _ => rfl

/-! The row's closed facts. -/
theorem fact0 : (Rows.framesPlayRow.wf (OpenSpec.ofChange Rows.framesPlaySpec)) = true := by kernel_rfl
theorem fact1 : (laidOutB Tryd.pinned.checked.prog) = true := by kernel_rfl
theorem fact2 : (mapsRowed Tryd.pinned.checked.prog) = true := by kernel_rfl
theorem fact3 : (Tryd.f6.params.all (Program.readableRec Tryd.pinned.checked.prog ·)) = true := by kernel_rfl
theorem fact4 : (namedTie Tryd.pinned.checked.prog Rows.framesPlayRow.named Rows.framesPlaySpec.vars) = true := by kernel_rfl
theorem fact5 : ((Rows.framesPlayRow.stops == [])) = true := by kernel_rfl
theorem fact6 : ((Tryd.pinned.checked.prog.stops == [])) = true := by kernel_rfl
theorem fact7 : ((Rows.framesPlayRow.knobs == [])) = true := by kernel_rfl
theorem fact8 : ((Tryd.pinned.checked.prog.stopKnobs == [])) = true := by kernel_rfl
theorem fact9 : ((Rows.framesPlayRow.inPlace == Program.inPlace Tryd.pinned.checked.prog 6)) = true := by kernel_rfl
theorem fact10 : ((Rows.framesPlayRow.unfollowed == Program.unfollowed Tryd.pinned.checked.prog 6)) = true := by kernel_rfl
theorem fact11 : ((Rows.framesPlayRow.recurses == Program.recurses Tryd.pinned.checked.prog 6)) = true := by kernel_rfl
theorem fact12 : ((Rows.framesPlayRow.named == Program.varsNamed Tryd.pinned.checked.prog 6)) = true := by kernel_rfl
theorem fact13 : ((Rows.framesPlayRow.maps == (Tryd.f6.params.toList ++ Rows.framesPlaySpec.plain.varTypes Tryd.pinned.checked.prog).any (Program.mapsRec Tryd.pinned.checked.prog ·))) = true := by kernel_rfl
theorem fact14 : ((Rows.framesPlayRow.ifaces == (Tryd.f6.params.toList ++ Rows.framesPlaySpec.plain.varTypes Tryd.pinned.checked.prog).any (Program.ifacesRec Tryd.pinned.checked.prog ·))) = true := by kernel_rfl
theorem fact15 : ((Rows.framesPlayRow.mapsOut == Program.mapsAmong Tryd.pinned.checked.prog Tryd.f6.resultTypes.toList)) = true := by kernel_rfl
theorem fact16 : ((Rows.framesPlayRow.loops == (Tryd.f6.params.toList ++ Rows.framesPlaySpec.plain.varTypes Tryd.pinned.checked.prog).any (Program.loopsFrom Tryd.pinned.checked.prog ·))) = true := by kernel_rfl
theorem fact17 : ((Rows.framesPlayRow.wideKeys == (Tryd.f6.params.toList ++ Rows.framesPlaySpec.plain.varTypes Tryd.pinned.checked.prog ++ Tryd.f6.resultTypes.toList).any (Program.wideKeysFrom Tryd.pinned.checked.prog ·))) = true := by kernel_rfl
theorem fact18 : (Rows.framesPlaySpec.vars.all (Program.varReadable Tryd.pinned.checked.prog ·)) = true := by kernel_rfl
theorem fact19 : (Tryd.f6.resultTypes.all (fun t => Program.readableRec Tryd.pinned.checked.prog t && decide (t < Tryd.pinned.checked.prog.types.size))) = true := by kernel_rfl
theorem fact20 : ((Rows.framesPlayRow.ifacesOut == Tryd.f6.resultTypes.toList.any (Program.ifacesRec Tryd.pinned.checked.prog ·))) = true := by kernel_rfl
theorem fact21 : ((Rows.framesPlayRow.loopsOut == Tryd.f6.resultTypes.toList.any (Program.loopsFrom Tryd.pinned.checked.prog ·))) = true := by kernel_rfl
theorem fact22 : ((Rows.framesPlayRow.plainKeys == Program.plainKeys Tryd.pinned.checked.prog)) = true := by kernel_rfl
theorem fact23 : (Rows.framesPlayRow.shortTexts.isNone) = true := by kernel_rfl
theorem fact24 : (Program.stopsHeard Tryd.pinned.checked.prog) = true := by kernel_rfl
theorem fact25 : (Program.mayEnter Tryd.pinned.checked.prog) = true := by kernel_rfl
theorem fact26 : ((Rows.framesPlayRow.lifted == Program.liftsFinal Tryd.pinned.checked.prog)) = true := by kernel_rfl
theorem fact27 : ((Program.make Tryd.pinned.checked.prog == some Rows.framesPlayRow.make)) = true := by kernel_rfl
theorem fact28 : ((Rows.framesPlayRow.kinds == (if Rows.framesPlayRow.domain.isEmpty then [] else Tryd.f6.params.toList.map fun t => match Program.underlying Tryd.pinned.checked.prog t with | some (.int k) => some k | _ => none))) = true := by kernel_rfl
theorem fact29 : ((Rows.framesPlayRow.pinned == Rows.framesPlayRow.pinnedBy)) = true := by kernel_rfl
theorem fact30 : ((Rows.framesPlayRow.veiled == (Tryd.f6.params.toList ++ Rows.framesPlaySpec.plain.varTypes Tryd.pinned.checked.prog ++ Tryd.f6.resultTypes.toList).any (Program.veiledRec Tryd.pinned.checked.prog ·))) = true := by kernel_rfl
theorem fact31 : (Rows.framesPlayRow.veiledFits Tryd.pinned.checked.prog Tryd.f6.params.toList (Tryd.f6.params.toList ++ Rows.framesPlaySpec.plain.varTypes Tryd.pinned.checked.prog ++ Tryd.f6.resultTypes.toList)) = true := by kernel_rfl
set_option maxRecDepth 100000 in
theorem facts : joinedFacts Tryd.pinned.checked.prog 6 Tryd.f6 Rows.framesPlaySpec Rows.framesPlayRow = true := by
  unfold joinedFacts
  simp only [Bool.and_eq_true]
  exact ⟨⟨⟨⟨⟨⟨⟨⟨⟨⟨⟨⟨⟨⟨⟨⟨⟨⟨⟨⟨⟨⟨⟨⟨⟨⟨⟨⟨⟨⟨⟨fact0, fact1⟩, fact2⟩, fact3⟩, fact4⟩, fact5⟩, fact6⟩, fact7⟩, fact8⟩, fact9⟩, fact10⟩, fact11⟩, fact12⟩, fact13⟩, fact14⟩, fact15⟩, fact16⟩, fact17⟩, fact18⟩, fact19⟩, fact20⟩, fact21⟩, fact22⟩, fact23⟩, fact24⟩, fact25⟩, fact26⟩, fact27⟩, fact28⟩, fact29⟩, fact30⟩, fact31⟩


theorem over : Rows.framesPlayRow.holds Tryd.pinned (OpenSpec.ofChange Rows.framesPlaySpec) :=
  OpenClaim.holds_of_wide 6 Tryd.f6 rfl rfl rfl rfl rfl rfl rfl ⟨rfl, rfl, rfl, rfl, rfl⟩ rfl rfl rfl rfl rfl (by kernel_rfl) Tryd.func6 facts
    (of_decide_eq_true (by kernel_rfl)) (by unfold Func.isWrapper; first | (rw [if_pos (by decide +kernel)]; kernel_rfl) | (rw [if_neg (by decide +kernel)]; exact ⟨rfl, rfl⟩))
    (fun os started H enc _ => lifted os started H enc)

/-- ████ THE STATEMENT: THE TIED CARD ████ -/
theorem framesPlay_proved : Rows.FramesPlayCardSaid :=
  Claim7.holds_tied_plain_at .later [] [.handle] true (true, "2d0cccc07d8d17fe01a939a1ffec3a86ce4e87e86ca402e2eecdca77b523394b") true
    over (fun _ h => by cases h) (by kernel_rfl) (fun _ h => by cases h) framesPlay_row_tie rfl ⟨rfl, rfl⟩ (by kernel_rfl) rfl
    (fun f fn hf hfn => by
      obtain rfl : f = 6 := Option.some.inj ((show Tryd.prog.funcNamed "silt/siltlaw17.FramesPlay" = some 6 by kernel_rfl).symm.trans hf) |>.symm
      obtain rfl : fn = Tryd.f6 := (Option.some.inj (Tryd.func6.symm.trans hfn)).symm
      exact ⟨by kernel_rfl, fun j t ht => by
        rw [Tryd.params6] at ht
        have hm : t ∈ [3, 22] := by simpa using Array.mem_of_getElem? ht
        have hall : ([3, 22].all fun u => !Tryd.prog.wantsStandIn u) = true := by kernel_rfl
        exact (show Tryd.prog.wantsStandIn t = false by simpa using List.all_eq_true.1 hall t hm)⟩)
    (by kernel_rfl)
#print axioms framesPlay_proved
end Go.Proofs.YtlnbbgagccgnjaaDoor
