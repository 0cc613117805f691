/-
  Fair, of any entries.
-/
import Derived.Test.YtkkbnchpedacjaaGreatDoorCrFairT
namespace Go.Proofs.YtkkbnchpedacjaaGreatDoor
open Go Go.X
def dat (v : AV) : AV := (v.part 2).part 3
/-- An entry, as it came in. -/
def okE (v : AV) : Bool := v.isAggN 6 3 && (v.part 0).isIntK .i64 && (v.part 1).isIntK .i64 && (v.part 2).isAggN 4 4 && ((v.part 2).part 0).isIntK .i64 && ((v.part 2).part 1).isIntK .i64 && ((v.part 2).part 2).isIntK .i64 && ((dat v).isNils || (dat v).isIslN 1)
def okEs (xs : List AV) : Bool := xs.all okE
def short (v : AV) : Bool := (dat v).isNils || !decide (((dat v).toList.length : Int) > 100)
def fairE (xs : List AV) : Bool := xs.all short && decide ((xs.length : Int) ≤ 200)

theorem okEAt {xs : List AV} (h : okEs xs = true) {i : Nat} (hi : i < xs.length) : okE ((xs[i]?).getD .bad) = true := by
  rw [List.getElem?_eq_getElem hi]
  exact List.all_eq_true.1 h _ (List.getElem_mem hi)

theorem wrapE {i : Nat} (h : i + 1 ≤ 9223372036854775807) : IntKind.i64.wrap ((i : Int) + 1) = (i : Int) + 1 := by
  rw [IntKind.wrap_i64]
  omega

theorem loop53 {R : Type} (bot : R) (fuel : Nat) (xs : List AV) (K : Oracle) (KK : OracleK R) (k : AV → Heap → Bool → R) (ho : okEs xs = true) (hl : xs.length ≤ 9223372036854775807) : ∀ (d i n : Nat), i + d = xs.length → d < n →
    resumeFK bot true Tryz.prog U ann fuel K KK 53 1 0 [true, false, true] n (SQ xs i) k = k (.bool ((xs.drop i).all short && decide ((xs.length : Int) ≤ 200))) [] false
  | 0, i, n + 1, hd, _ => by
    rw [step53]
    have hi : i = xs.length := by omega
    simp [hi]
  | d + 1, i, n + 1, hd, hn => by
    have hi : i < xs.length := by omega
    have h0 := okEAt ho hi
    have hdr : xs.drop i = xs[i] :: xs.drop (i + 1) := by simp
    have hx : (xs[i]?).getD .bad = xs[i] := by rw [List.getElem?_eq_getElem hi]; rfl
    have ih := loop53 bot fuel xs K KK k ho hl d (i + 1) n (by omega) (by omega)
    simp only [SQ] at ih
    push_cast at ih
    rw [step53, hdr]
    rw [hx] at h0 ⊢
    unfold okE dat at h0
    simp only [Bool.and_eq_true] at h0
    obtain ⟨⟨⟨⟨⟨⟨⟨a1, a2⟩, a3⟩, a4⟩, a5⟩, a6⟩, a7⟩, a8⟩ := h0
    have hlt : ((i : Int) < (xs.length : Int)) := by omega
    simp only [hlt, a1, a2, a3, a4, a5, a6, a7, decide_true, cond_true, wrapE (show i + 1 ≤ 9223372036854775807 by omega), List.all_cons]
    unfold short dat
    cases hn : ((xs[i].part 2).part 3).isNils with
    | true =>
      simp only [cond_true, Bool.true_or, Bool.true_and]
      exact ih
    | false =>
      rw [hn, Bool.false_or] at a8
      simp only [a8, cond_false, cond_true, Bool.false_or]
      cases hs : decide ((((xs[i].part 2).part 3).toList.length : Int) > 100) with
      | true => simp
      | false =>
        simp only [cond_false, Bool.not_false, Bool.true_and]
        exact ih

theorem fair53 {R : Type} (bot : R) (m : Nat) (T : Table) (hT : T 53 = none) (xs : List AV) (k : AV → Heap → Bool → R) (ho : okEs xs = true) (hl : xs.length ≤ 9223372036854775807) :
    evalTK bot Tryz.prog U ann 9223372036854775808 T (m + 1) 53 [.isl 6 xs] [] k = k (.bool (fairE xs)) [] false := by
  unfold evalTK
  rw [hT]
  simp only
  rw [start53]
  exact loop53 bot _ xs _ _ k ho hl xs.length 0 _ (by omega) (by omega)
theorem fairN {R : Type} (bot : R) (m : Nat) (T : Table) (hT : T 53 = none) (k : AV → Heap → Bool → R) : evalTK bot Tryz.prog U ann 9223372036854775808 T (m + 1) 53 [.nils] [] k = k (.bool true) [] false := by
  unfold evalTK
  rw [hT]
  simp only
  exact nil53 bot 9223372036854775807 _ _ k
end Go.Proofs.YtkkbnchpedacjaaGreatDoor
