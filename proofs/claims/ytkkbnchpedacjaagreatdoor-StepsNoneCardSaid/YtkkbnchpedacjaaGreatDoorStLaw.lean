/-
  The run of the law: each wakes is true; a cache is made anew beside what came in; both answers of Fair are gone on with.
-/
import Derived.Test.YtkkbnchpedacjaaGreatDoorStW
import Derived.Test.YtkkbnchpedacjaaGreatDoorXk
namespace Go.Proofs.YtkkbnchpedacjaaGreatDoor
open Go Go.X
set_option maxRecDepth 100000
def T1 : Table := fun f => if f = 49 then some (fun xs => match xs with
  | [] => some (true, .bool true)
  | _ => none) else T0 f
theorem F1 : FunTab Tryz.prog U T1 := FunTab.none.addK (ann := ann) (fuel := 1000) (n := 100) StS2 extU mixed hA (g := 49) (fun xs v h => by
  split at h
  · simp only [Option.some.injEq, Prod.mk.injEq, true_and] at h
    subst h
    exact ⟨rfl, StwakesRun⟩
  · cases h)
theorem fair48 {R : Type} (bot : R) (fuel n : Nat) (s a b c : Int) (m : Bool) (xs : List AV) (k : AV → Heap → Bool → R) :
    evalTK bot Tryz.prog U ann (fuel + 3) T1 (n + 1) 48 [.isl 6 [.agg 6 [.int .i64 s, .agg 4 [.int .i64 a, .int .i64 b, .int .i64 c, .isl 1 xs], .bool m]]] [] k =
      cond (decide ((xs.length : Int) > 100)) (k (.bool false) [] false) (k (.bool true) [] false) := by kernel_rfl
theorem fair48n {R : Type} (bot : R) (fuel n : Nat) (s a b c : Int) (m : Bool) (k : AV → Heap → Bool → R) :
    evalTK bot Tryz.prog U ann (fuel + 3) T1 (n + 1) 48 [.isl 6 [.agg 6 [.int .i64 s, .agg 4 [.int .i64 a, .int .i64 b, .int .i64 c, .nils], .bool m]]] [] k = k (.bool true) [] false := by kernel_rfl
def T2 : Table := fun f => if f = 48 then some (fun xs => match xs with
  | [.isl 6 [.agg 6 [.int .i64 _, .agg 4 [.int .i64 _, .int .i64 _, .int .i64 _, .isl 1 ys], .bool _]]] => some (true, .bool (!decide ((ys.length : Int) > 100)))
  | [.isl 6 [.agg 6 [.int .i64 _, .agg 4 [.int .i64 _, .int .i64 _, .int .i64 _, .nils], .bool _]]] => some (true, .bool true)
  | _ => none) else T1 f
theorem F2 : FunTab Tryz.prog U T2 := F1.add (ann := ann) (fuel := 1000) (n := 1) extU mixed hA (g := 48) (fun xs v h => by
  split at h
  · rename_i s a b c ys m
    simp only [Option.some.injEq, Prod.mk.injEq, true_and] at h
    subst h
    refine ⟨rfl, (fair48 none 997 0 s a b c m ys _).trans ?_⟩
    cases decide ((ys.length : Int) > 100) <;> rfl
  · rename_i s a b c m
    simp only [Option.some.injEq, Prod.mk.injEq, true_and] at h
    subst h
    exact ⟨rfl, fair48n none 997 0 s a b c m _⟩
  · cases h)
def pat48 (xs : List AV) : Bool := match xs with
  | [.isl 6 [.agg 6 [.int .i64 _, .agg 4 [.int .i64 _, .int .i64 _, .int .i64 _, .isl 1 _], .bool _]]] => true
  | _ => false
noncomputable def KS : Oracle := pureF StP (pureK (kOf T2))
noncomputable def TS : FuncId → Option (Hnd Bool) := pureR StP fun f => (ktab T2 f).map fun h _ => h
theorem HS0 : HkF false KS TS := HkF.pures false (HkF.ofHk false (Hk.table false T2))
noncomputable def TB : FuncId → Option (Hnd Bool) := bothR 48 pat48 TS
theorem HB : HkF false KS TB := hkf_both 48 pat48 HS0 (fun args xs H hs hp => by
  unfold pat48 at hp
  split at hp
  · exact ⟨_, (pureF_not (by kernel_rfl) args H).trans (pureK_of_table hs rfl rfl)⟩
  · cases hp)
theorem SS (B : Nat) : OracleSound Tryz.prog B U.G KS := pureF_sound StPo F2.ok B
theorem lawNil (s a b c : Int) (m : Bool) : evalZQ false Tryz.prog U ann 1000 KS TS (txt Bool) 100 7 [.agg 6 [.int .i64 s, .agg 4 [.int .i64 a, .int .i64 b, .int .i64 c, .nils], .bool m]] [] (fun v _ _ => v.isTrue) = true := of_whnf (by kernel_rfl)
theorem lawSl (s a b c : Int) (m : Bool) (xs : List AV) : evalZQ false Tryz.prog U ann 1000 KS TB (txt Bool) 100 7 [.agg 6 [.int .i64 s, .agg 4 [.int .i64 a, .int .i64 b, .int .i64 c, .isl 1 xs], .bool m]] [] (fun v _ _ => v.isTrue) = true := of_whnf (by kernel_rfl)
end Go.Proofs.YtkkbnchpedacjaaGreatDoor
