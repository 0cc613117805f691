/-
  Commit, of no core: it is wrong, whatever is wanted.
-/
import Derived.Test.YtkkbnchpedacjaaGreatDoorCoCommit
namespace Go.Proofs.YtkkbnchpedacjaaGreatDoor
open Go Go.X
/-- A want, as it may lie in memory. -/
def okWant (v : AV) : Bool := v.isAggN 34 3 && (v.part 0).isIntK .i64 && (v.part 1).isIntK .i64 && (v.part 2).isArrN 1 32 && reflessL (v.part 2).toArr
def okWants (xs : List AV) : Bool := xs.all okWant

theorem okAt {xs : List AV} (h : okWants xs = true) {i : Nat} (hi : i < xs.length) : okWant ((xs[i]?).getD .bad) = true := by
  rw [List.getElem?_eq_getElem hi]
  exact List.all_eq_true.1 h _ (List.getElem_mem hi)

theorem wrapC {i : Nat} (h : i < 2 ^ 62) : IntKind.i64.wrap ((i : Int) + 1) = ((i + 1 : Nat) : Int) := by
  rw [IntKind.wrap_i64]
  omega

theorem loopC {R : Type} (bot : R) (fuel m : Nat) (xs : List AV) (k : AV → Heap → Bool → R) (ho : okWants xs = true) (hl : xs.length < 1000) : ∀ (d i n : Nat) (ys : List AV), i + d = xs.length → d < n → ys.length = i →
    resumeFK bot true Tryz.prog U ann fuel (evalN Tryz.prog U ann fuel (pureK (kOf T2)) (m + 2)) (evalTK bot Tryz.prog U ann fuel T2 (m + 2)) 19 2 0 [true, true, false, true] n (SC xs (idsV i) i (idsH ys)) k = k (.int .i64 1) [] false
  | 0, i, n + 1, ys, hd, _, _ => by
    rw [step19]
    have : ¬ ((i : Int) < (xs.length : Int)) := by omega
    simp [this]
  | d + 1, i, n + 1, ys, hd, hn, hy => by
    have hi : i < xs.length := by omega
    have h0 := okAt ho hi
    unfold okWant at h0
    simp only [Bool.and_eq_true] at h0
    obtain ⟨⟨⟨⟨a1, a2⟩, a3⟩, a4⟩, a5⟩ := h0
    have ih := loopC bot fuel m xs k ho hl d (i + 1) n (ys ++ [.int .i64 (AV.toInt (AV.part ((xs[i]?).getD .bad) 0))]) (by omega) (by omega) (by simp [hy])
    simp only [SC, idsV, idsH] at ih
    push_cast at ih
    have hlt : ((i : Int) < (xs.length : Int)) := by omega
    have hb1 : (i + 1) * 8 ≤ 70368744177664 := by omega
    have hb2 : i + 1 ≤ 70368744177664 := by omega
    rw [step19]
    simp only [hlt, a1, a2, a3, a4, a5, AV.refless, reflessL, hy, decide_true, cond_true, Bool.and_true, Bool.true_and, Nat.zero_add, Nat.le_refl, wrapC (show i < 2 ^ 62 by omega), hb1, hb2]
    have hno : ¬ (i + 1 ≤ i) := by omega
    simp only [hno, decide_false, cond_false]
    push_cast
    exact ih

theorem commit19 {R : Type} (bot : R) (m : Nat) (xs : List AV) (k : AV → Heap → Bool → R) (ho : okWants xs = true) (hl : xs.length < 1000) :
    evalTK bot Tryz.prog U ann 1000 T2 (m + 3) 19 [.nilp, .isl 34 xs] [] k = k (.int .i64 1) [] false := by
  show evalFK bot true Tryz.prog U ann 1000 (evalN Tryz.prog U ann 1000 (pureK (kOf T2)) (m + 2)) (evalTK bot Tryz.prog U ann 1000 T2 (m + 2)) 19 [.nilp, .isl 34 xs] [] k = _
  rw [start19]
  cases xs with
  | nil =>
    have := first19 bot 1000 999 m [] k
    simp only [SC] at this
    refine this.trans ?_
    simp
  | cons x r =>
    have h0 := okAt ho (show 0 < (x :: r).length by simp)
    unfold okWant at h0
    simp only [Bool.and_eq_true] at h0
    obtain ⟨⟨⟨⟨a1, a2⟩, a3⟩, a4⟩, a5⟩ := h0
    have h1 := first19 bot 1000 999 m (x :: r) k
    have h2 := loopC bot 1000 m (x :: r) k ho hl r.length 1 999 [.int .i64 (AV.toInt (AV.part (((x :: r)[0]?).getD .bad) 0))] (by simp; omega) (by simp at hl; omega) rfl
    simp only [SC, idsV, idsH] at h1 h2
    have hlt : ((0 : Int) < ((x :: r).length : Int)) := by simp only [List.length_cons]; omega
    simp only [hlt, a1, a2, a3, a4, a5, AV.refless, reflessL, decide_true, cond_true, Bool.and_true, Bool.true_and] at h1
    exact h1.trans h2
end Go.Proofs.YtkkbnchpedacjaaGreatDoor
