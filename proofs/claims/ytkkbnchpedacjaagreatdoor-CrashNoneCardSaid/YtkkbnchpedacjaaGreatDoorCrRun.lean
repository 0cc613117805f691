/-
  The law's run: the test run answers true, so does the law.
-/
import Derived.Test.YtkkbnchpedacjaaGreatDoorCrW
import Derived.Test.YtkkbnchpedacjaaGreatDoorCrLaw
namespace Go.Proofs.YtkkbnchpedacjaaGreatDoor
open Go Go.X
theorem F1 : FunTab Tryz.prog U T1 := FunTab.none.addK (ann := ann) (fuel := 1000) (n := 100) CrSt extU mixed hA (g := 67) (fun xs v h => by
  split at h
  · simp only [Option.some.injEq, Prod.mk.injEq, true_and] at h
    subst h
    exact ⟨rfl, CrwakesRun⟩
  · cases h)
theorem F2 : FunTab Tryz.prog U T2 := F1.addN (ann := ann) (fuel := 9223372036854775808) (n := 1) extU mixed hA (g := 53) (fun xs v h => by
  split at h
  · rename_i xs
    simp only [Option.some.injEq, Prod.mk.injEq, Bool.and_eq_true, decide_eq_true_eq] at h
    obtain ⟨⟨h1, h2⟩, rfl⟩ := h
    exact ⟨rfl, [], false, evalN_of_T (fair53 none 0 T1 rfl xs _ h1 h2)⟩
  · simp only [Option.some.injEq, Prod.mk.injEq, true_and] at h
    subst h
    exact ⟨rfl, [], false, evalN_of_T (fairN none 0 T1 rfl _)⟩
  · cases h)
theorem run9nn (a : Int) : evalTK false Tryz.prog U ann 1000 T2 50 9 [.nils, .agg 2 [.int .i64 a, .nils]] [] (fun v _ _ => v.isTrue) = true := law9nn false a _
theorem run9ns (a : Int) (ys : List AV) : evalTK false Tryz.prog U ann 1000 T2 50 9 [.nils, .agg 2 [.int .i64 a, .isl 1 ys]] [] (fun v _ _ => v.isTrue) = true := by
  rw [law9ns]
  cases decide ((ys.length : Int) ≤ 300) <;> rfl
theorem run9sn (a : Int) (xs : List AV) (h : okEs xs = true) (hl : xs.length ≤ 9223372036854775807) : evalTK false Tryz.prog U ann 1000 T2 50 9 [.isl 6 xs, .agg 2 [.int .i64 a, .nils]] [] (fun v _ _ => v.isTrue) = true := by
  rw [law9sn, h, decide_eq_true hl]
  cases fairE xs <;> rfl
theorem run9ss (a : Int) (xs ys : List AV) (h : okEs xs = true) (hl : xs.length ≤ 9223372036854775807) : evalTK false Tryz.prog U ann 1000 T2 50 9 [.isl 6 xs, .agg 2 [.int .i64 a, .isl 1 ys]] [] (fun v _ _ => v.isTrue) = true := by
  rw [law9ss, h, decide_eq_true hl]
  cases fairE xs <;> cases decide ((ys.length : Int) ≤ 300) <;> rfl
set_option maxRecDepth 100000 in
/-- Entries that came in. -/
theorem entriesOk {xs : List AV} (h : ∀ x ∈ xs, WT Tryz.prog 4 107 x) : okEs xs = true := by
  refine List.all_eq_true.2 fun x hx => ?_
  obtain ⟨ps, rfl, ha⟩ := WT.struct (k := 3) Tryz.underlying107 (n := 6) (by kernel_rfl) (h x hx)
  obtain ⟨p0, r0, rfl, h0, hb⟩ := all2_cons ha
  obtain ⟨p1, r1, rfl, h1, hc⟩ := all2_cons hb
  obtain ⟨p2, r2, rfl, h2, hd⟩ := all2_cons hc
  obtain rfl := all2_nil hd
  obtain ⟨a, rfl, _⟩ := WT.int (k := 2) Tryz.underlying3 h0
  obtain ⟨b, rfl, _⟩ := WT.int (k := 2) Tryz.underlying3 h1
  obtain ⟨qs, rfl, ka⟩ := WT.struct (k := 2) Tryz.underlying91 (n := 4) (by kernel_rfl) h2
  obtain ⟨q0, sa, rfl, k0, kb⟩ := all2_cons ka
  obtain ⟨q1, sb, rfl, k1, kc⟩ := all2_cons kb
  obtain ⟨q2, sc, rfl, k2, kd⟩ := all2_cons kc
  obtain ⟨q3, sd, rfl, k3, ke⟩ := all2_cons kd
  obtain rfl := all2_nil ke
  obtain ⟨c, rfl, _⟩ := WT.int (k := 1) Tryz.underlying3 k0
  obtain ⟨d, rfl, _⟩ := WT.int (k := 1) Tryz.underlying3 k1
  obtain ⟨e, rfl, _⟩ := WT.int (k := 1) Tryz.underlying3 k2
  rcases WT.slice (k := 1) (sz := 1) Tryz.underlying65 (by kernel_rfl) k3 with rfl | ⟨ys, rfl, _, _⟩ <;>
    simp [okE, dat, AV.isAggN, AV.part, AV.isIntK, AV.isNils, AV.isIslN]
end Go.Proofs.YtkkbnchpedacjaaGreatDoor
