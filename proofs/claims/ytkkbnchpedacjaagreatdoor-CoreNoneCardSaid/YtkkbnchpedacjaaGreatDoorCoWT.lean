/-
  Wants that came in are such that they may lie in memory.
-/
import Derived.Test.YtkkbnchpedacjaaGreatDoorCoLawX
namespace Go.Proofs.YtkkbnchpedacjaaGreatDoor
open Go Go.X
set_option maxRecDepth 100000 in
theorem intsFree : ∀ {xs : List AV}, (∀ x ∈ xs, WT Tryz.prog 1 5 x) → reflessL xs = true
  | [], _ => rfl
  | x :: xs, h => by
    obtain ⟨n, hn, _⟩ := WT.int (k := 0) Tryz.underlying5 (h x List.mem_cons_self)
    rw [hn]
    simp only [reflessL, AV.refless, Bool.true_and]
    exact intsFree fun y hy => h y (List.mem_cons_of_mem _ hy)
set_option maxRecDepth 100000 in
theorem wantsOk {xs : List AV} (h : ∀ x ∈ xs, WT Tryz.prog 3 167 x) : okWants xs = true := by
  refine List.all_eq_true.2 fun x hx => ?_
  obtain ⟨ps, rfl, ha⟩ := WT.struct (k := 2) Tryz.underlying167 (n := 34) (by kernel_rfl) (h x hx)
  obtain ⟨p0, r0, rfl, h0, hb⟩ := all2_cons ha
  obtain ⟨p1, r1, rfl, h1, hc⟩ := all2_cons hb
  obtain ⟨p2, r2, rfl, h2, hd⟩ := all2_cons hc
  obtain rfl := all2_nil hd
  obtain ⟨a, rfl, _⟩ := WT.int (k := 1) Tryz.underlying3 h0
  obtain ⟨b, rfl, _⟩ := WT.int (k := 1) Tryz.underlying3 h1
  obtain ⟨ys, rfl, hl, hy⟩ := WT.array (k := 1) (sz := 1) Tryz.underlying40 (by kernel_rfl) h2
  simp [okWant, AV.isAggN, AV.part, AV.isIntK, AV.isArrN, AV.toArr, hl, intsFree hy]
end Go.Proofs.YtkkbnchpedacjaaGreatDoor
