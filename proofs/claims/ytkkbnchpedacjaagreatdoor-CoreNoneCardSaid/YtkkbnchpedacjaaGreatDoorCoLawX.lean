/-
  The run of the law: whether the slice is long is not known: both ways are gone.
-/
import Derived.Test.YtkkbnchpedacjaaGreatDoorCoCommitP
namespace Go.Proofs.YtkkbnchpedacjaaGreatDoor
open Go Go.X
set_option maxRecDepth 100000
def T3 : Table := fun f => if f = 19 then some (fun xs => match xs with
  | [.nilp, .isl 34 xs] => some (okWants xs && decide (xs.length < 1000), .int .i64 1)
  | [.nilp, .nils] => some (true, .int .i64 1)
  | _ => none) else T2 f
theorem commitN {R : Type} (bot : R) (m : Nat) (k : AV → Heap → Bool → R) : evalTK bot Tryz.prog U ann 1000 T2 (m + 3) 19 [.nilp, .nils] [] k = k (.int .i64 1) [] false := by kernel_rfl
theorem F3 : FunTab Tryz.prog U T3 := F2.add (ann := ann) (fuel := 1000) (n := 3) extU mixed hA (g := 19) (fun xs v h => by
  split at h
  · rename_i xs
    simp only [Option.some.injEq, Prod.mk.injEq, Bool.and_eq_true, decide_eq_true_eq] at h
    obtain ⟨⟨h1, h2⟩, rfl⟩ := h
    exact ⟨rfl, commit19 none 0 xs _ h1 h2⟩
  · simp only [Option.some.injEq, Prod.mk.injEq, true_and] at h
    subst h
    exact ⟨rfl, commitN none 0 _⟩
  · cases h)
noncomputable def KL : Oracle := pureF CoP (pureK (kOf T3))
noncomputable def TL : FuncId → Option (Hnd Bool) := pureR CoP fun f => (ktab T3 f).map fun h _ => h
theorem HL : HkF false KL TL := HkF.pures false (HkF.ofHk false (Hk.table false T3))
noncomputable def TF : FuncId → Option (Hnd Bool) := forceR 13 TL
theorem HF : HkF false KL TF := HkF.forced 13 HL
theorem SL (B : Nat) : OracleSound Tryz.prog B U.G KL := pureF_sound CoPo F3.ok B
theorem lawNil (id : Int) : evalZQ false Tryz.prog U ann 1000 KL TL (txt Bool) 100 4 [.int .i64 id, .nils] [] (fun v _ _ => v.isTrue) = true := of_whnf (by kernel_rfl)
theorem lawSl (id : Int) (xs : List AV) : evalZQ false Tryz.prog U ann 1000 KL TF (txt Bool) 100 4 [.int .i64 id, .isl 34 xs] [] (fun v _ _ => v.isTrue) =
    Bool.rec (motive := fun _ => Bool) (forceB (forceB (cond (okWants xs && decide (xs.length < 1000)) true false))) true (ltQ 100 (.ofNat xs.length)) := by kernel_rfl
theorem lawRun (id : Int) (xs : List AV) (h : okWants xs = true) : evalZQ false Tryz.prog U ann 1000 KL TF (txt Bool) 100 4 [.int .i64 id, .isl 34 xs] [] (fun v _ _ => v.isTrue) = true := by
  rw [lawSl, ltQ_eq, forceB_eq, forceB_eq]
  cases hd : decide ((100 : Int) < Int.ofNat xs.length) with
  | true => rfl
  | false =>
    simp only [decide_eq_false_iff_not, Int.ofNat_eq_natCast] at hd
    have : xs.length < 1000 := by omega
    simp [h, this]
end Go.Proofs.YtkkbnchpedacjaaGreatDoor
