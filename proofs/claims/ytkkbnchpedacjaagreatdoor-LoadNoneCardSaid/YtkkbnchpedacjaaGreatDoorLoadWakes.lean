/-
  The statements' own test run of the layer answers true.
-/
import Derived.Test.YtkkbnchpedacjaaGreatDoorLoadRT
namespace Go.Proofs.YtkkbnchpedacjaaGreatDoor
open Go Go.X
theorem wakes : evalYQ false Tryz.prog U ann 1000 (pureK (kOf T0)) (ktab T0) (txt Bool) 100 14 [] [] (fun v _ _ => v.isTrue) = true := of_whnf (by kernel_rfl)
def T1 : Table := fun f => if f = 14 then some (fun xs => match xs with
  | [] => some (true, .bool true)
  | _ => none) else T0 f
theorem F1 : FunTab Tryz.prog U T1 := FunTab.none.addN (ann := ann) (fuel := 1000) (n := 100) extU mixed hA (g := 14) (fun xs v h => by
  split at h
  · simp only [Option.some.injEq, Prod.mk.injEq, true_and] at h
    subst h
    exact ⟨rfl, run_of_trueY (Hk.table false T0) (printed Bool) wakes⟩
  · cases h)

/-! A chain without a device: told at once. -/
def GG : AV := .agg 4 [.int .i64 16, .int .i64 8, .int .i64 24, .int .i64 4]
noncomputable def V42 : AV := .tuple [(zeroAV Tryz.prog 42).getD .bad, .int .i64 1]
noncomputable def ch (id head : Int) : Bool := evalYQ false Tryz.prog U ann 1000 (pureK (kOf T1)) (ktab T1) (txt Bool) 100 12 [.nilp, GG, .int .i64 id, .int .i64 head] [] (fun v _ _ => v.beqT V42)
theorem ch1 (m : Nat) (head : Int) : ch (.negSucc m) head = true := of_whnf (by kernel_rfl)
theorem ch2 (m : Nat) (head : Int) : ch (.ofNat (m + 16)) head = true := of_whnf (by kernel_rfl)
theorem ch3 (head : Int) : ((List.range 16).all fun m => ch (.ofNat m) head) = true := of_whnf (by kernel_rfl)
theorem chAll (id head : Int) : ch id head = true := by
  cases id with
  | negSucc m => exact ch1 m head
  | ofNat m =>
    by_cases h : m < 16
    · exact List.all_eq_true.1 (ch3 head) m (List.mem_range.2 h)
    · have := ch2 (m - 16) head
      rwa [show m - 16 + 16 = m by omega] at this
noncomputable def T2 : Table := fun f => if f = 12 then some (fun xs => match xs with
  | [.nilp, g, .int .i64 _, .int .i64 _] => some (g.beq GG, V42)
  | _ => none) else T1 f
theorem F2 : FunTab Tryz.prog U T2 := F1.addN (ann := ann) (fuel := 1000) (n := 100) extU mixed hA (g := 12) (fun xs v h => by
  split at h
  · rename_i g id head
    simp only [Option.some.injEq, Prod.mk.injEq] at h
    obtain ⟨hg, rfl⟩ := h
    obtain rfl := AV.beq_eq _ _ hg
    exact ⟨by kernel_rfl, run_of_valY (Hk.table false T1) (printed Bool) (chAll id head)⟩
  · cases h)
theorem lawRun (id head : Int) : evalYQ false Tryz.prog U ann 1000 (pureK (kOf T2)) (ktab T2) (txt Bool) 100 3 [.int .i64 id, .int .i64 head] [] (fun v _ _ => v.isTrue) = true := of_whnf (by kernel_rfl)
end Go.Proofs.YtkkbnchpedacjaaGreatDoor
