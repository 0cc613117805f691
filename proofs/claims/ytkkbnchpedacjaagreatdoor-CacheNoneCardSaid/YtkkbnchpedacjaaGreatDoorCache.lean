/-
  'silt/siltlaw23.CacheNone' returns true for every input, and the input reads behind the call as it read before. No condition but the row's own: errors.errorType reads as the row says.
-/
import Derived.Test.YtkkbnchpedacjaaGreatDoorCaRun
import Derived.Test.YtkkbnchpedacjaaGreatDoorRows
import Derived.Test.YtkkbnchpedacjaaGreatDoorChecked
import Derived.WalkKit
import Derived.ProofKit
import Derived.ChangeOld
import Derived.ChangeSame
import Derived.ChangeVars
import Derived.JoinedOf
import Derived.RowKitTokens
import Derived.LaidHandle
import Derived.Stop.Joined
import Derived.Test.YtkkbnchpedacjaaGreatDoorCards
import Derived.Test.YtkkbnchpedacjaaGreatDoorTie
import Derived.SevenTiedAt
namespace Go.Proofs.YtkkbnchpedacjaaGreatDoor
open Go Go.X
open Go.ChangeShapes Go.WideShapes Go.ChangeAt Go.RowKit

theorem own : ownKnob Tryz.prog.godebug = none := by kernel_rfl
theorem laidOut : laidOutB Tryz.prog = true := by kernel_rfl

set_option maxRecDepth 100000 in
noncomputable def law : Law Tryz.prog 6 Tryz.f6.params.toList 4 where
  U := U
  ann := ann
  fuel := 1000
  n := 50
  K := pureK (kOf T1)
  sound := F1.ok
  ext := extU
  mixed := mixed
  annOk := hA
  run := by
    rw [Tryz.params6]
    intro vs g
    obtain ⟨v, us, rfl, g0, g1⟩ := all2_cons g
    obtain rfl := all2_nil g1
    obtain ⟨ps, rfl, ha⟩ := WT.struct (k := 3) Tryz.underlying67 (n := 4) (by kernel_rfl) g0
    obtain ⟨p0, ra, rfl, h0, hb⟩ := all2_cons ha
    obtain ⟨p1, rb, rfl, h1, hc⟩ := all2_cons hb
    obtain ⟨p2, rc, rfl, h2, hd⟩ := all2_cons hc
    obtain ⟨p3, rd, rfl, h3, he⟩ := all2_cons hd
    obtain rfl := all2_nil he
    obtain ⟨k, rfl, _⟩ := WT.int (k := 2) Tryz.underlying3 h0
    obtain ⟨p, rfl, _⟩ := WT.int (k := 2) Tryz.underlying3 h1
    obtain ⟨o, rfl, _⟩ := WT.int (k := 2) Tryz.underlying3 h2
    rcases WT.slice (k := 2) (sz := 1) Tryz.underlying65 (by kernel_rfl) h3 with rfl | ⟨xs, rfl, _, _⟩
    · exact run_of_trueT (run6n k p o)
    · exact run_of_trueT (run6s k p o xs)

theorem globs (W : World) (h : laidMetH Tryz.prog Rows.cacheNoneRow.laid W) : GlobOk law.U.G (Env.start W) :=
  GlobOk.handle (g := 0) (u := 406) (ty := 137) (handle_of_laid (d := Rows.laid_errors_errorType) (bytes := [101, 114, 114, 111, 114]) h (List.mem_singleton.2 rfl) rfl rfl (by kernel_rfl) (by kernel_rfl) (by kernel_rfl))

/-- A world that meets the condition. -/
noncomputable def laidWorld (os : Os) : World :=
  let w0 := World.holding Tryz.prog os ⟨#[], #[], []⟩
  { w0 with heap := w0.heap.modify 0 fun
      | .cells _ t frozen => .cells #[.iface 406 (.agg #[.pointer (some ⟨1, 137, none⟩)])] t frozen
      | o => o }
theorem laidWorld_met (os : Os) (args : Array Value) : laidMetH Tryz.prog Rows.cacheNoneRow.laid ((laidWorld os).forCall (fun _ _ => 0) ⟨#[], args, []⟩).memory :=
  laidMetH_of_parts (laidMet_nil _ _) (by kernel_rfl)

set_option maxRecDepth 100000 in
theorem lifted (os : Os) (started : os.Started) (H : Type) (enc : TypeId × Value → H) :
    ReturnsInHanded {} Tryz.checked os 6 .any (fun w args => (Rows.cacheNoneSpec.pre enc Tryz.prog Tryz.f6 Rows.cacheNoneRow.domain false w args ∧ laidMetH Tryz.prog Rows.cacheNoneRow.laid w) ∧ sizedMet enc Tryz.prog Tryz.f6 (OpenSpec.ofChange Rows.cacheNoneSpec) false w args)
      (Rows.cacheNoneSpec.post enc Tryz.prog Tryz.f6 false true false false) := by
  refine Law.lifted_laid (C := Tryz.checked) (b := 4) (k := 4) law globs own started (by kernel_rfl) Tryz.func6
    (ChangeSpec.witness_at (enc := enc) (C := Tryz.checked) (os := os) (X := fun w _ => laidMetH Tryz.prog Rows.cacheNoneRow.laid w) false (laidWorld os) #[.agg #[.int .i64 0, .int .i64 0, .int .i64 0, .slice none 0 0]] 8 rfl (by kernel_rfl) (by kernel_rfl) (by kernel_rfl) (by kernel_rfl) (by kernel_rfl) (laidWorld_met os _))
    (by kernel_rfl) Tryz.underlying4 laidOut (by kernel_rfl) rfl ?_
  intro ds hds
  match ds, hds with
  | [d0], _ => rfl

/-! The row's closed facts. -/
theorem fact0 : (Rows.cacheNoneRow.wf (OpenSpec.ofChange Rows.cacheNoneSpec)) = true := by kernel_rfl
theorem fact1 : (laidOutB Tryz.pinned.checked.prog) = true := by kernel_rfl
theorem fact2 : (mapsRowed Tryz.pinned.checked.prog) = true := by kernel_rfl
theorem fact3 : (Tryz.f6.params.all (Program.readableRec Tryz.pinned.checked.prog ·)) = true := by kernel_rfl
theorem fact4 : (namedTie Tryz.pinned.checked.prog Rows.cacheNoneRow.named Rows.cacheNoneSpec.vars) = true := by kernel_rfl
theorem fact5 : ((Rows.cacheNoneRow.stops == [])) = true := by kernel_rfl
theorem fact6 : ((Tryz.pinned.checked.prog.stops == [])) = true := by kernel_rfl
theorem fact7 : ((Rows.cacheNoneRow.knobs == [])) = true := by kernel_rfl
theorem fact8 : ((Tryz.pinned.checked.prog.stopKnobs == [])) = true := by kernel_rfl
theorem fact9 : ((Rows.cacheNoneRow.inPlace == Program.inPlace Tryz.pinned.checked.prog 6)) = true := by kernel_rfl
theorem fact10 : ((Rows.cacheNoneRow.unfollowed == Program.unfollowed Tryz.pinned.checked.prog 6)) = true := by kernel_rfl
theorem fact11 : ((Rows.cacheNoneRow.recurses == Program.recurses Tryz.pinned.checked.prog 6)) = true := by kernel_rfl
theorem fact12 : ((Rows.cacheNoneRow.named == Program.varsNamed Tryz.pinned.checked.prog 6)) = true := by kernel_rfl
theorem fact13 : ((Rows.cacheNoneRow.maps == (Tryz.f6.params.toList ++ Rows.cacheNoneSpec.plain.varTypes Tryz.pinned.checked.prog).any (Program.mapsRec Tryz.pinned.checked.prog ·))) = true := by kernel_rfl
theorem fact14 : ((Rows.cacheNoneRow.ifaces == (Tryz.f6.params.toList ++ Rows.cacheNoneSpec.plain.varTypes Tryz.pinned.checked.prog).any (Program.ifacesRec Tryz.pinned.checked.prog ·))) = true := by kernel_rfl
theorem fact15 : ((Rows.cacheNoneRow.mapsOut == Program.mapsAmong Tryz.pinned.checked.prog Tryz.f6.resultTypes.toList)) = true := by kernel_rfl
theorem fact16 : ((Rows.cacheNoneRow.loops == (Tryz.f6.params.toList ++ Rows.cacheNoneSpec.plain.varTypes Tryz.pinned.checked.prog).any (Program.loopsFrom Tryz.pinned.checked.prog ·))) = true := by kernel_rfl
theorem fact17 : ((Rows.cacheNoneRow.wideKeys == (Tryz.f6.params.toList ++ Rows.cacheNoneSpec.plain.varTypes Tryz.pinned.checked.prog ++ Tryz.f6.resultTypes.toList).any (Program.wideKeysFrom Tryz.pinned.checked.prog ·))) = true := by kernel_rfl
theorem fact18 : (Rows.cacheNoneSpec.vars.all (Program.varReadable Tryz.pinned.checked.prog ·)) = true := by kernel_rfl
theorem fact19 : (Tryz.f6.resultTypes.all (fun t => Program.readableRec Tryz.pinned.checked.prog t && decide (t < Tryz.pinned.checked.prog.types.size))) = true := by kernel_rfl
theorem fact20 : ((Rows.cacheNoneRow.ifacesOut == Tryz.f6.resultTypes.toList.any (Program.ifacesRec Tryz.pinned.checked.prog ·))) = true := by kernel_rfl
theorem fact21 : ((Rows.cacheNoneRow.loopsOut == Tryz.f6.resultTypes.toList.any (Program.loopsFrom Tryz.pinned.checked.prog ·))) = true := by kernel_rfl
theorem fact22 : ((Rows.cacheNoneRow.plainKeys == Program.plainKeys Tryz.pinned.checked.prog)) = true := by kernel_rfl
theorem fact23 : (Rows.cacheNoneRow.shortTexts.isNone) = true := by kernel_rfl
theorem fact24 : (Program.stopsHeard Tryz.pinned.checked.prog) = true := by kernel_rfl
theorem fact25 : (Program.mayEnter Tryz.pinned.checked.prog) = true := by kernel_rfl
theorem fact26 : ((Rows.cacheNoneRow.lifted == Program.liftsFinal Tryz.pinned.checked.prog)) = true := by kernel_rfl
theorem fact27 : ((Program.make Tryz.pinned.checked.prog == some Rows.cacheNoneRow.make)) = true := by kernel_rfl
theorem fact28 : ((Rows.cacheNoneRow.kinds == (if Rows.cacheNoneRow.domain.isEmpty then [] else Tryz.f6.params.toList.map fun t => match Program.underlying Tryz.pinned.checked.prog t with | some (.int k) => some k | _ => none))) = true := by kernel_rfl
theorem fact29 : ((Rows.cacheNoneRow.pinned == Rows.cacheNoneRow.pinnedBy)) = true := by kernel_rfl
theorem fact30 : ((Rows.cacheNoneRow.veiled == (Tryz.f6.params.toList ++ Rows.cacheNoneSpec.plain.varTypes Tryz.pinned.checked.prog ++ Tryz.f6.resultTypes.toList).any (Program.veiledRec Tryz.pinned.checked.prog ·))) = true := by kernel_rfl
theorem fact31 : (Rows.cacheNoneRow.veiledFits Tryz.pinned.checked.prog Tryz.f6.params.toList (Tryz.f6.params.toList ++ Rows.cacheNoneSpec.plain.varTypes Tryz.pinned.checked.prog ++ Tryz.f6.resultTypes.toList)) = true := by kernel_rfl
set_option maxRecDepth 100000 in
theorem facts : joinedFacts Tryz.pinned.checked.prog 6 Tryz.f6 Rows.cacheNoneSpec Rows.cacheNoneRow = true := by
  unfold joinedFacts
  simp only [Bool.and_eq_true]
  exact ⟨⟨⟨⟨⟨⟨⟨⟨⟨⟨⟨⟨⟨⟨⟨⟨⟨⟨⟨⟨⟨⟨⟨⟨⟨⟨⟨⟨⟨⟨⟨fact0, fact1⟩, fact2⟩, fact3⟩, fact4⟩, fact5⟩, fact6⟩, fact7⟩, fact8⟩, fact9⟩, fact10⟩, fact11⟩, fact12⟩, fact13⟩, fact14⟩, fact15⟩, fact16⟩, fact17⟩, fact18⟩, fact19⟩, fact20⟩, fact21⟩, fact22⟩, fact23⟩, fact24⟩, fact25⟩, fact26⟩, fact27⟩, fact28⟩, fact29⟩, fact30⟩, fact31⟩


theorem over : Rows.cacheNoneRow.holds Tryz.pinned (OpenSpec.ofChange Rows.cacheNoneSpec) :=
  OpenClaim.holds_of_wide 6 Tryz.f6 rfl rfl rfl rfl rfl rfl rfl ⟨rfl, rfl, rfl, rfl, rfl⟩ rfl rfl rfl rfl rfl (by kernel_rfl) Tryz.func6 facts
    (of_decide_eq_true (by kernel_rfl)) (by unfold Func.isWrapper; first | (rw [if_pos (by decide +kernel)]; kernel_rfl) | (rw [if_neg (by decide +kernel)]; exact ⟨rfl, rfl⟩))
    (fun os started H enc _ => lifted os started H enc)

/-- ████ THE STATEMENT: THE TIED CARD ████ -/
theorem cacheNone_proved : Rows.CacheNoneCardSaid :=
  Claim7.holds_tied_plain_at .later [] [.handle] true (true, "475195ba9da3d727c99adb5083548a11752c87005dca1ea6c8a122826955ac16") true
    over (fun _ h => by cases h) (by kernel_rfl) (fun _ h => by cases h) cacheNone_row_tie rfl ⟨rfl, rfl⟩ (by kernel_rfl) rfl
    (fun f fn hf hfn => by
      obtain rfl : f = 6 := Option.some.inj ((show Tryz.prog.funcNamed "silt/siltlaw23.CacheNone" = some 6 by kernel_rfl).symm.trans hf) |>.symm
      obtain rfl : fn = Tryz.f6 := (Option.some.inj (Tryz.func6.symm.trans hfn)).symm
      exact ⟨by kernel_rfl, fun j t ht => by
        rw [Tryz.params6] at ht
        have hm : t ∈ [67] := by simpa using Array.mem_of_getElem? ht
        have hall : ([67].all fun u => !Tryz.prog.wantsStandIn u) = true := by kernel_rfl
        exact (show Tryz.prog.wantsStandIn t = false by simpa using List.all_eq_true.1 hall t hm)⟩)
    (by kernel_rfl)
#print axioms cacheNone_proved
end Go.Proofs.YtkkbnchpedacjaaGreatDoor
