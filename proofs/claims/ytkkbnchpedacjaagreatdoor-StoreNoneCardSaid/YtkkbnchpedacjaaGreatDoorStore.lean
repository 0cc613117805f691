/-
  'silt/siltlaw26.StoreNone' returns true for every input, and the input reads behind the call as it read before. No condition but the row's own: errors.errorType reads as the row says.
-/
import Derived.Test.YtkkbnchpedacjaaGreatDoorSoRun
import Derived.Test.YtkkbnchpedacjaaGreatDoorRows
import Derived.Test.YtkkbnchpedacjaaGreatDoorChecked
import Derived.WalkKit
import Derived.ProofKit
import Derived.ChangeOld
import Derived.ChangeSame
import Derived.ChangeVars
import Derived.JoinedOf
import Derived.RowKitTokens
import Derived.LaidHandle
import Derived.Stop.Joined
import Derived.Test.YtkkbnchpedacjaaGreatDoorCards
import Derived.Test.YtkkbnchpedacjaaGreatDoorTie
import Derived.SevenTiedAt
namespace Go.Proofs.YtkkbnchpedacjaaGreatDoor
open Go Go.X
open Go.ChangeShapes Go.WideShapes Go.ChangeAt Go.RowKit

theorem own : ownKnob Tryz.prog.godebug = none := by kernel_rfl
theorem laidOut : laidOutB Tryz.prog = true := by kernel_rfl

set_option maxRecDepth 100000 in
noncomputable def law : Law Tryz.prog 8 Tryz.f8.params.toList 4 where
  U := U
  ann := ann
  fuel := 1000
  n := 50
  K := pureK (kOf T1)
  sound := F1.ok
  ext := extU
  mixed := mixed
  annOk := hA
  run := by
    rw [Tryz.params8]
    intro vs g
    obtain ⟨v, us, rfl, g0, g1⟩ := all2_cons g
    obtain rfl := all2_nil g1
    obtain ⟨ps, rfl, ha⟩ := WT.struct (k := 3) Tryz.underlying107 (n := 6) (by kernel_rfl) g0
    obtain ⟨p0, ra, rfl, h0, hb⟩ := all2_cons ha
    obtain ⟨p1, rb, rfl, h1, hc⟩ := all2_cons hb
    obtain ⟨p2, rc, rfl, h2, hd⟩ := all2_cons hc
    obtain rfl := all2_nil hd
    obtain ⟨e, rfl, _⟩ := WT.int (k := 2) Tryz.underlying3 h0
    obtain ⟨s, rfl, _⟩ := WT.int (k := 2) Tryz.underlying3 h1
    obtain ⟨qs, rfl, ka⟩ := WT.struct (k := 2) Tryz.underlying91 (n := 4) (by kernel_rfl) h2
    obtain ⟨q0, sa, rfl, k0, kb⟩ := all2_cons ka
    obtain ⟨q1, sb, rfl, k1, kc⟩ := all2_cons kb
    obtain ⟨q2, sc, rfl, k2, kd⟩ := all2_cons kc
    obtain ⟨q3, sd, rfl, k3, ke⟩ := all2_cons kd
    obtain rfl := all2_nil ke
    obtain ⟨k, rfl, _⟩ := WT.int (k := 1) Tryz.underlying3 k0
    obtain ⟨p, rfl, _⟩ := WT.int (k := 1) Tryz.underlying3 k1
    obtain ⟨o, rfl, _⟩ := WT.int (k := 1) Tryz.underlying3 k2
    rcases WT.slice (k := 1) (sz := 1) Tryz.underlying65 (by kernel_rfl) k3 with rfl | ⟨xs, rfl, _, _⟩
    · exact run_of_trueT (run8n e s k p o)
    · exact run_of_trueT (run8s e s k p o xs)

theorem globs (W : World) (h : laidMetH Tryz.prog Rows.storeNoneRow.laid W) : GlobOk law.U.G (Env.start W) :=
  GlobOk.handle (g := 0) (u := 406) (ty := 137) (handle_of_laid (d := Rows.laid_errors_errorType) (bytes := [101, 114, 114, 111, 114]) h (List.mem_singleton.2 rfl) rfl rfl (by kernel_rfl) (by kernel_rfl) (by kernel_rfl))

/-- A world that meets the condition. -/
noncomputable def laidWorld (os : Os) : World :=
  let w0 := World.holding Tryz.prog os ⟨#[], #[], []⟩
  { w0 with heap := w0.heap.modify 0 fun
      | .cells _ t frozen => .cells #[.iface 406 (.agg #[.pointer (some ⟨1, 137, none⟩)])] t frozen
      | o => o }
theorem laidWorld_met (os : Os) (args : Array Value) : laidMetH Tryz.prog Rows.storeNoneRow.laid ((laidWorld os).forCall (fun _ _ => 0) ⟨#[], args, []⟩).memory :=
  laidMetH_of_parts (laidMet_nil _ _) (by kernel_rfl)

set_option maxRecDepth 100000 in
theorem lifted (os : Os) (started : os.Started) (H : Type) (enc : TypeId × Value → H) :
    ReturnsInHanded {} Tryz.checked os 8 .any (fun w args => (Rows.storeNoneSpec.pre enc Tryz.prog Tryz.f8 Rows.storeNoneRow.domain false w args ∧ laidMetH Tryz.prog Rows.storeNoneRow.laid w) ∧ sizedMet enc Tryz.prog Tryz.f8 (OpenSpec.ofChange Rows.storeNoneSpec) false w args)
      (Rows.storeNoneSpec.post enc Tryz.prog Tryz.f8 false true false false) := by
  refine Law.lifted_laid (C := Tryz.checked) (b := 4) (k := 4) law globs own started (by kernel_rfl) Tryz.func8
    (ChangeSpec.witness_at (enc := enc) (C := Tryz.checked) (os := os) (X := fun w _ => laidMetH Tryz.prog Rows.storeNoneRow.laid w) false (laidWorld os) #[.agg #[.int .i64 0, .int .i64 0, .int .i64 0, .int .i64 0, .int .i64 0, .slice none 0 0]] 8 rfl (by kernel_rfl) (by kernel_rfl) (by kernel_rfl) (by kernel_rfl) (by kernel_rfl) (laidWorld_met os _))
    (by kernel_rfl) Tryz.underlying4 laidOut (by kernel_rfl) rfl ?_
  intro ds hds
  match ds, hds with
  | [d0], _ => rfl

/-! The row's closed facts. -/
theorem fact0 : (Rows.storeNoneRow.wf (OpenSpec.ofChange Rows.storeNoneSpec)) = true := by kernel_rfl
theorem fact1 : (laidOutB Tryz.pinned.checked.prog) = true := by kernel_rfl
theorem fact2 : (mapsRowed Tryz.pinned.checked.prog) = true := by kernel_rfl
theorem fact3 : (Tryz.f8.params.all (Program.readableRec Tryz.pinned.checked.prog ·)) = true := by kernel_rfl
theorem fact4 : (namedTie Tryz.pinned.checked.prog Rows.storeNoneRow.named Rows.storeNoneSpec.vars) = true := by kernel_rfl
theorem fact5 : ((Rows.storeNoneRow.stops == [])) = true := by kernel_rfl
theorem fact6 : ((Tryz.pinned.checked.prog.stops == [])) = true := by kernel_rfl
theorem fact7 : ((Rows.storeNoneRow.knobs == [])) = true := by kernel_rfl
theorem fact8 : ((Tryz.pinned.checked.prog.stopKnobs == [])) = true := by kernel_rfl
theorem fact9 : ((Rows.storeNoneRow.inPlace == Program.inPlace Tryz.pinned.checked.prog 8)) = true := by kernel_rfl
theorem fact10 : ((Rows.storeNoneRow.unfollowed == Program.unfollowed Tryz.pinned.checked.prog 8)) = true := by kernel_rfl
theorem fact11 : ((Rows.storeNoneRow.recurses == Program.recurses Tryz.pinned.checked.prog 8)) = true := by kernel_rfl
theorem fact12 : ((Rows.storeNoneRow.named == Program.varsNamed Tryz.pinned.checked.prog 8)) = true := by kernel_rfl
theorem fact13 : ((Rows.storeNoneRow.maps == (Tryz.f8.params.toList ++ Rows.storeNoneSpec.plain.varTypes Tryz.pinned.checked.prog).any (Program.mapsRec Tryz.pinned.checked.prog ·))) = true := by kernel_rfl
theorem fact14 : ((Rows.storeNoneRow.ifaces == (Tryz.f8.params.toList ++ Rows.storeNoneSpec.plain.varTypes Tryz.pinned.checked.prog).any (Program.ifacesRec Tryz.pinned.checked.prog ·))) = true := by kernel_rfl
theorem fact15 : ((Rows.storeNoneRow.mapsOut == Program.mapsAmong Tryz.pinned.checked.prog Tryz.f8.resultTypes.toList)) = true := by kernel_rfl
theorem fact16 : ((Rows.storeNoneRow.loops == (Tryz.f8.params.toList ++ Rows.storeNoneSpec.plain.varTypes Tryz.pinned.checked.prog).any (Program.loopsFrom Tryz.pinned.checked.prog ·))) = true := by kernel_rfl
theorem fact17 : ((Rows.storeNoneRow.wideKeys == (Tryz.f8.params.toList ++ Rows.storeNoneSpec.plain.varTypes Tryz.pinned.checked.prog ++ Tryz.f8.resultTypes.toList).any (Program.wideKeysFrom Tryz.pinned.checked.prog ·))) = true := by kernel_rfl
theorem fact18 : (Rows.storeNoneSpec.vars.all (Program.varReadable Tryz.pinned.checked.prog ·)) = true := by kernel_rfl
theorem fact19 : (Tryz.f8.resultTypes.all (fun t => Program.readableRec Tryz.pinned.checked.prog t && decide (t < Tryz.pinned.checked.prog.types.size))) = true := by kernel_rfl
theorem fact20 : ((Rows.storeNoneRow.ifacesOut == Tryz.f8.resultTypes.toList.any (Program.ifacesRec Tryz.pinned.checked.prog ·))) = true := by kernel_rfl
theorem fact21 : ((Rows.storeNoneRow.loopsOut == Tryz.f8.resultTypes.toList.any (Program.loopsFrom Tryz.pinned.checked.prog ·))) = true := by kernel_rfl
theorem fact22 : ((Rows.storeNoneRow.plainKeys == Program.plainKeys Tryz.pinned.checked.prog)) = true := by kernel_rfl
theorem fact23 : (Rows.storeNoneRow.shortTexts.isNone) = true := by kernel_rfl
theorem fact24 : (Program.stopsHeard Tryz.pinned.checked.prog) = true := by kernel_rfl
theorem fact25 : (Program.mayEnter Tryz.pinned.checked.prog) = true := by kernel_rfl
theorem fact26 : ((Rows.storeNoneRow.lifted == Program.liftsFinal Tryz.pinned.checked.prog)) = true := by kernel_rfl
theorem fact27 : ((Program.make Tryz.pinned.checked.prog == some Rows.storeNoneRow.make)) = true := by kernel_rfl
theorem fact28 : ((Rows.storeNoneRow.kinds == (if Rows.storeNoneRow.domain.isEmpty then [] else Tryz.f8.params.toList.map fun t => match Program.underlying Tryz.pinned.checked.prog t with | some (.int k) => some k | _ => none))) = true := by kernel_rfl
theorem fact29 : ((Rows.storeNoneRow.pinned == Rows.storeNoneRow.pinnedBy)) = true := by kernel_rfl
theorem fact30 : ((Rows.storeNoneRow.veiled == (Tryz.f8.params.toList ++ Rows.storeNoneSpec.plain.varTypes Tryz.pinned.checked.prog ++ Tryz.f8.resultTypes.toList).any (Program.veiledRec Tryz.pinned.checked.prog ·))) = true := by kernel_rfl
theorem fact31 : (Rows.storeNoneRow.veiledFits Tryz.pinned.checked.prog Tryz.f8.params.toList (Tryz.f8.params.toList ++ Rows.storeNoneSpec.plain.varTypes Tryz.pinned.checked.prog ++ Tryz.f8.resultTypes.toList)) = true := by kernel_rfl
set_option maxRecDepth 100000 in
theorem facts : joinedFacts Tryz.pinned.checked.prog 8 Tryz.f8 Rows.storeNoneSpec Rows.storeNoneRow = true := by
  unfold joinedFacts
  simp only [Bool.and_eq_true]
  exact ⟨⟨⟨⟨⟨⟨⟨⟨⟨⟨⟨⟨⟨⟨⟨⟨⟨⟨⟨⟨⟨⟨⟨⟨⟨⟨⟨⟨⟨⟨⟨fact0, fact1⟩, fact2⟩, fact3⟩, fact4⟩, fact5⟩, fact6⟩, fact7⟩, fact8⟩, fact9⟩, fact10⟩, fact11⟩, fact12⟩, fact13⟩, fact14⟩, fact15⟩, fact16⟩, fact17⟩, fact18⟩, fact19⟩, fact20⟩, fact21⟩, fact22⟩, fact23⟩, fact24⟩, fact25⟩, fact26⟩, fact27⟩, fact28⟩, fact29⟩, fact30⟩, fact31⟩


theorem over : Rows.storeNoneRow.holds Tryz.pinned (OpenSpec.ofChange Rows.storeNoneSpec) :=
  OpenClaim.holds_of_wide 8 Tryz.f8 rfl rfl rfl rfl rfl rfl rfl ⟨rfl, rfl, rfl, rfl, rfl⟩ rfl rfl rfl rfl rfl (by kernel_rfl) Tryz.func8 facts
    (of_decide_eq_true (by kernel_rfl)) (by unfold Func.isWrapper; first | (rw [if_pos (by decide +kernel)]; kernel_rfl) | (rw [if_neg (by decide +kernel)]; exact ⟨rfl, rfl⟩))
    (fun os started H enc _ => lifted os started H enc)

/-- ████ THE STATEMENT: THE TIED CARD ████ -/
theorem storeNone_proved : Rows.StoreNoneCardSaid :=
  Claim7.holds_tied_plain_at .later [] [.handle] true (true, "475195ba9da3d727c99adb5083548a11752c87005dca1ea6c8a122826955ac16") true
    over (fun _ h => by cases h) (by kernel_rfl) (fun _ h => by cases h) storeNone_row_tie rfl ⟨rfl, rfl⟩ (by kernel_rfl) rfl
    (fun f fn hf hfn => by
      obtain rfl : f = 8 := Option.some.inj ((show Tryz.prog.funcNamed "silt/siltlaw26.StoreNone" = some 8 by kernel_rfl).symm.trans hf) |>.symm
      obtain rfl : fn = Tryz.f8 := (Option.some.inj (Tryz.func8.symm.trans hfn)).symm
      exact ⟨by kernel_rfl, fun j t ht => by
        rw [Tryz.params8] at ht
        have hm : t ∈ [107] := by simpa using Array.mem_of_getElem? ht
        have hall : ([107].all fun u => !Tryz.prog.wantsStandIn u) = true := by kernel_rfl
        exact (show Tryz.prog.wantsStandIn t = false by simpa using List.all_eq_true.1 hall t hm)⟩)
    (by kernel_rfl)
#print axioms storeNone_proved
end Go.Proofs.YtkkbnchpedacjaaGreatDoor
