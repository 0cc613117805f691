/-
  'siltlaw17.FramesNone' returns true for every input, and the input reads behind the call as it read before. No condition but the row's own: errors.errorType reads as the row says.
-/
import Derived.Test.YtkkbnchpedacjaaDoorAnn
import Derived.Test.YtkkbnchpedacjaaDoorX34
import Derived.Test.YtkkbnchpedacjaaDoorRows
import Derived.Test.YtkkbnchpedacjaaDoorChecked
import Derived.WalkKit
import Derived.ProofKit
import Derived.ChangeOld
import Derived.ChangeSame
import Derived.ChangeVars
import Derived.JoinedOf
import Derived.RowKitTokens
import Derived.LaidHandle
import Derived.Stop.Joined
import Derived.Test.YtkkbnchpedacjaaDoorCards
import Derived.Test.YtkkbnchpedacjaaDoorTie
import Derived.SevenTiedAt
namespace Go.Proofs.YtkkbnchpedacjaaDoor
open Go Go.X
open Go.ChangeShapes Go.WideShapes Go.ChangeAt Go.RowKit

def P0 : Nat := 0
noncomputable def U : Out := ⟨extX Tryd.prog tab, fun i => if i = 0 then some (.iface 108 (.agg 1 [.hnd Tryd.prog.globals.size 69])) else none⟩
def K0 : Oracle := fun _ _ _ => none
theorem annOk : ((List.range Tryd.prog.funcs.size).all fun f => funcOk Tryd.prog (ann f) f) = true := by kernel_rfl
theorem tabOk : TabSound Tryd.prog tab := by
  intro x hx
  simp only [tab, List.mem_cons, List.not_mem_nil, or_false] at hx
  rcases hx with rfl | rfl | rfl | rfl | rfl | rfl | rfl | rfl | rfl | rfl | rfl
  · exact ⟨_, Tryd.func35, by kernel_rfl, by kernel_rfl, by kernel_rfl, by kernel_rfl⟩
  · exact ⟨_, Tryd.func36, by kernel_rfl, by kernel_rfl, by kernel_rfl, by kernel_rfl⟩
  · exact ⟨_, Tryd.func37, by kernel_rfl, by kernel_rfl, by kernel_rfl, by kernel_rfl⟩
  · exact ⟨_, Tryd.func52, by kernel_rfl, by kernel_rfl, by kernel_rfl, by kernel_rfl⟩
  · exact ⟨_, Tryd.func53, by kernel_rfl, by kernel_rfl, by kernel_rfl, by kernel_rfl⟩
  · exact ⟨_, Tryd.func54, by kernel_rfl, by kernel_rfl, by kernel_rfl, by kernel_rfl⟩
  · exact ⟨_, Tryd.func76, by kernel_rfl, by kernel_rfl, by kernel_rfl, by kernel_rfl⟩
  · exact ⟨_, Tryd.func85, by kernel_rfl, by kernel_rfl, by kernel_rfl, by kernel_rfl⟩
  · exact ⟨_, Tryd.func86, by kernel_rfl, by kernel_rfl, by kernel_rfl, by kernel_rfl⟩
  · exact ⟨_, Tryd.func87, by kernel_rfl, by kernel_rfl, by kernel_rfl, by kernel_rfl⟩
  · exact ⟨_, Tryd.func88, by kernel_rfl, by kernel_rfl, by kernel_rfl, by kernel_rfl⟩

set_option maxRecDepth 100000 in
theorem wt24 {v : AV} (h : WT Tryd.prog 3 24 v) : ∃ k f key off w d, v = .agg 6 [.int .i64 k, .int .i64 f, .int .i64 key, .int .i64 off, .int .u8 w, d] ∧ (d = .nils ∨ ∃ xs, d = .isl 1 xs) := by
  obtain ⟨ps, rfl, g⟩ := WT.struct (k := 2) Tryd.underlying24 (n := 6) (by kernel_rfl) h
  clear h
  obtain ⟨p0, r0, rfl, h0, g0⟩ := all2_cons g
  obtain ⟨p1, r1, rfl, h1, g1⟩ := all2_cons g0
  obtain ⟨p2, r2, rfl, h2, g2⟩ := all2_cons g1
  obtain ⟨p3, r3, rfl, h3, g3⟩ := all2_cons g2
  obtain ⟨p4, r4, rfl, h4, g4⟩ := all2_cons g3
  obtain ⟨p5, r5, rfl, h5, g5⟩ := all2_cons g4
  obtain rfl := all2_nil g5
  obtain ⟨a0, rfl, _⟩ := WT.int (k := 1) Tryd.underlying3 h0
  obtain ⟨a1, rfl, _⟩ := WT.int (k := 1) Tryd.underlying3 h1
  obtain ⟨a2, rfl, _⟩ := WT.int (k := 1) Tryd.underlying3 h2
  obtain ⟨a3, rfl, _⟩ := WT.int (k := 1) Tryd.underlying3 h3
  obtain ⟨a4, rfl, _⟩ := WT.int (k := 1) Tryd.underlying5 h4
  rcases WT.slice (k := 1) (sz := 1) Tryd.underlying22 (by kernel_rfl) h5 with rfl | ⟨xs, rfl, _⟩
  · exact ⟨a0, a1, a2, a3, a4, _, rfl, .inl rfl⟩
  · exact ⟨a0, a1, a2, a3, a4, _, rfl, .inr ⟨xs, rfl⟩⟩

theorem lawNil (k f key off v : Int) : evalNK false Tryd.prog U ann 1000 K0 50 3 [.agg 6 [.int .i64 k, .int .i64 f, .int .i64 key, .int .i64 off, .int .u8 v, .nils]] [] (fun v _ _ => v.isTrue) = cond (decide (key < 0)) true (cond (decide (8 ≤ key)) true true) := by kernel_rfl
theorem lawSl (k f key off v : Int) (xs : List AV) : evalNK false Tryd.prog U ann 1000 K0 50 3 [.agg 6 [.int .i64 k, .int .i64 f, .int .i64 key, .int .i64 off, .int .u8 v, .isl 1 xs]] [] (fun v _ _ => v.isTrue) = cond (decide ((100 : Int) < (xs.length : Int))) true (cond (decide (key < 0)) true (cond (decide (8 ≤ key)) true true)) := by kernel_rfl

theorem own : ownKnob Tryd.prog.godebug = none := by kernel_rfl
theorem laidOut : laidOutB Tryd.prog = true := by kernel_rfl

set_option maxRecDepth 100000 in
noncomputable def law : Law Tryd.prog 3 Tryd.f3.params.toList 3 where
  U := U
  ann := ann
  fuel := 1000
  n := 50
  K := K0
  sound := fun B => none_sound B U.G
  ext := fun B => ext_ok tabOk
  mixed := by kernel_rfl
  annOk := all_ok annOk
  run := by
    rw [Tryd.params3]
    intro vs g
    obtain ⟨v, us, rfl, g0, g1⟩ := all2_cons g
    obtain rfl := all2_nil g1
    obtain ⟨k, f, key, off, w, d, rfl, hd⟩ := wt24 g0
    refine run_of_true ?_
    rcases hd with rfl | ⟨xs, rfl⟩
    · refine (lawNil k f key off w).trans ?_
      cases decide (key < 0) <;> cases decide (8 ≤ key) <;> rfl
    · refine (lawSl k f key off w xs).trans ?_
      cases decide ((100 : Int) < (xs.length : Int)) <;> cases decide (key < 0) <;> cases decide (8 ≤ key) <;> rfl

theorem globs (W : World) (h : laidMetH Tryd.prog Rows.framesNoneRow.laid W) : GlobOk law.U.G (Env.start W) :=
  GlobOk.handle (g := 0) (u := 108) (ty := 69) (handle_of_laid (d := Rows.laid_errors_errorType) (bytes := [101, 114, 114, 111, 114]) h (List.mem_singleton.2 rfl) rfl rfl (by kernel_rfl) (by kernel_rfl) (by kernel_rfl))

/-- A world that meets the condition. -/
noncomputable def laidWorld (os : Os) : World :=
  let w0 := World.holding Tryd.prog os ⟨#[], #[], []⟩
  { w0 with heap := w0.heap.modify 0 fun
      | .cells _ t frozen => .cells #[.iface 108 (.agg #[.pointer (some ⟨1, 69, none⟩)])] t frozen
      | o => o }
theorem laidWorld_met (os : Os) (args : Array Value) : laidMetH Tryd.prog Rows.framesNoneRow.laid ((laidWorld os).forCall (fun _ _ => 0) ⟨#[], args, []⟩).memory :=
  laidMetH_of_parts (laidMet_nil _ _) (by kernel_rfl)

set_option maxRecDepth 100000 in
theorem lifted (os : Os) (started : os.Started) (H : Type) (enc : TypeId × Value → H) :
    ReturnsInHanded {} Tryd.checked os 3 .any (fun w args => (Rows.framesNoneSpec.pre enc Tryd.prog Tryd.f3 Rows.framesNoneRow.domain false w args ∧ laidMetH Tryd.prog Rows.framesNoneRow.laid w) ∧ sizedMet enc Tryd.prog Tryd.f3 (OpenSpec.ofChange Rows.framesNoneSpec) false w args)
      (Rows.framesNoneSpec.post enc Tryd.prog Tryd.f3 false true false false) := by
  refine Law.lifted_laid (C := Tryd.checked) (b := 4) (k := 3) law globs own started (by kernel_rfl) Tryd.func3
    (ChangeSpec.witness_at (enc := enc) (C := Tryd.checked) (os := os) (X := fun w _ => laidMetH Tryd.prog Rows.framesNoneRow.laid w) false (laidWorld os) #[.agg #[.int .i64 0, .int .i64 0, .int .i64 0, .int .i64 0, .int .u8 0, .slice none 0 0]] 8 rfl (by kernel_rfl) (by kernel_rfl) (by kernel_rfl) (by kernel_rfl) (by kernel_rfl) (laidWorld_met os _))
    (by kernel_rfl) Tryd.underlying4 laidOut (by kernel_rfl) rfl ?_
  intro ds hds
  match ds, hds with
  | [d], _ => rfl

theorem over : Rows.framesNoneRow.holds Tryd.pinned (OpenSpec.ofChange Rows.framesNoneSpec) :=
  OpenClaim.holds_of_wide 3 Tryd.f3 rfl rfl rfl rfl rfl rfl rfl ⟨rfl, rfl, rfl, rfl, rfl⟩ rfl rfl rfl rfl rfl (by kernel_rfl) Tryd.func3 (by kernel_rfl)
    (of_decide_eq_true (by kernel_rfl)) (by unfold Func.isWrapper; first | (rw [if_pos (by decide +kernel)]; kernel_rfl) | (rw [if_neg (by decide +kernel)]; exact ⟨rfl, rfl⟩))
    (fun os started H enc _ => lifted os started H enc)

/-- ████ THE STATEMENT: THE TIED CARD ████ -/
theorem framesNone_proved : Rows.FramesNoneCardSaid :=
  Claim7.holds_tied_plain_at .later [] [.handle] true (true, "961027cbafd6166bb99bd9e0dc40c0372ea387ce068ca4acb3a4973d66c62d23") true
    over (fun _ h => by cases h) (by kernel_rfl) (fun _ h => by cases h) framesNone_row_tie rfl ⟨rfl, rfl⟩ (by kernel_rfl) rfl
    (fun f fn hf hfn => by
      obtain rfl : f = 3 := Option.some.inj ((show Tryd.prog.funcNamed "silt/siltlaw17.FramesNone" = some 3 by kernel_rfl).symm.trans hf) |>.symm
      obtain rfl : fn = Tryd.f3 := (Option.some.inj (Tryd.func3.symm.trans hfn)).symm
      exact ⟨by kernel_rfl, fun j t ht => by
        rw [Tryd.params3] at ht
        have hm : t ∈ [24] := by simpa using Array.mem_of_getElem? ht
        have hall : ([24].all fun u => !Tryd.prog.wantsStandIn u) = true := by kernel_rfl
        exact (show Tryd.prog.wantsStandIn t = false by simpa using List.all_eq_true.1 hall t hm)⟩)
    (by kernel_rfl)
#print axioms framesNone_proved
end Go.Proofs.YtkkbnchpedacjaaDoor
