/-
  'siltlaw12.VictimBest' returns true for every input, and the input reads behind the call as it read before. No condition.
-/
import Derived.Test.YtiiddampachhlaaAnn
import Derived.Test.YtiiddampachhlaaX35
import Derived.Test.YtiiddampachhlaaRows
import Derived.Test.YtiiddampachhlaaChecked
import Derived.WalkKit
import Derived.ProofKit
import Derived.ChangeOld
import Derived.ChangeSame
import Derived.ChangeVars
import Derived.JoinedOf
import Derived.Laws.BitsLemmas
namespace Go.Proofs.Ytiiddampachhlaa
open Go Go.X
def U : Out := ⟨fun _ _ _ => none, fun _ => none⟩
def T0 : Table := fun _ => none
theorem extU (B : Nat) : ExtSound Try.prog B U.X := fun f args H v H' e h => by cases h
theorem annOk : ((List.range Try.prog.funcs.size).all fun f => funcOk Try.prog (ann f) f) = true := by kernel_rfl
theorem mixed : Try.prog.follows .mixedOrders = true := by kernel_rfl

section
variable {R : Type} (bot : R)

def gI (xs : List AV) (i : Nat) : Int := ((xs[i]?).getD .bad).toInt
def okI (k : IntKind) (xs : List AV) : Bool := xs.all fun x => x.isIntK k

/-! Index -/
def S17 (xs : List AV) (v : Int) (i : Int) : St := ⟨[(0, .isl 1 xs), (1, .int .i64 v), (4, .bad), (5, .bad), (7, .int .i64 xs.length), (8, .int .i64 i), (9, .bad), (16, .bad)], [], [], false⟩
theorem start17 (fuel : Nat) (xs : List AV) (v : Int) (K : Oracle) (KK : OracleK R) (k : AV → Heap → Bool → R) :
    evalFK bot true Try.prog U ann fuel K KK 17 [.isl 1 xs, .int .i64 v] [] k = resumeFK bot true Try.prog U ann fuel K KK 17 2 0 [true, false, true] fuel (S17 xs v 0) k := by kernel_rfl
theorem step17 (fuel n : Nat) (xs : List AV) (v : Int) (i : Nat) (K : Oracle) (KK : OracleK R) (k : AV → Heap → Bool → R) :
    resumeFK bot true Try.prog U ann fuel K KK 17 2 0 [true, false, true] (n + 1) (S17 xs v i) k =
      cond (decide ((i : Int) < (xs.length : Int))) (cond (((xs[i]?).getD .bad).isIntK .i64) (cond (v == ((xs[i]?).getD .bad).toInt) (k (.int .i64 i) [] false)
        (resumeFK bot true Try.prog U ann fuel K KK 17 2 0 [true, false, true] n (S17 xs v (IntKind.i64.wrap ((i : Int) + 1))) k)) bot) (k (.int .i64 (-1)) [] false) := by kernel_rfl

/-! listed -/
def S8 (xs : List AV) (v : Int) (i : Int) : St := ⟨[(0, .isl 1 xs), (1, .int .i64 v), (4, .bad), (5, .int .i64 i), (9, .bad), (17, .bad)], [], [], false⟩
theorem start8 (fuel : Nat) (xs : List AV) (v : Int) (K : Oracle) (KK : OracleK R) (k : AV → Heap → Bool → R) :
    evalFK bot true Try.prog U ann fuel K KK 8 [.isl 1 xs, .int .i64 v] [] k = resumeFK bot true Try.prog U ann fuel K KK 8 2 0 [true, false, true] fuel (S8 xs v 0) k := by kernel_rfl
theorem step8 (fuel n : Nat) (xs : List AV) (v : Int) (i : Nat) (K : Oracle) (KK : OracleK R) (k : AV → Heap → Bool → R) :
    resumeFK bot true Try.prog U ann fuel K KK 8 2 0 [true, false, true] (n + 1) (S8 xs v i) k =
      cond (decide ((i : Int) < (xs.length : Int))) (cond (((xs[i]?).getD .bad).isIntK .i64) (cond (((xs[i]?).getD .bad).toInt == v) (k (.bool true) [] false)
        (resumeFK bot true Try.prog U ann fuel K KK 8 2 0 [true, false, true] n (S8 xs v (IntKind.i64.wrap ((i : Int) + 1))) k)) bot) (k (.bool false) [] false) := by kernel_rfl

/-! at -/
theorem at10 (fuel : Nat) (live age : List AV) (now size : Int) (i : Nat) (K : Oracle) (KK : OracleK R) (k : AV → Heap → Bool → R) :
    evalFK bot true Try.prog U ann fuel K KK 10 [.agg 4 [.isl 1 live, .isl 1 age, .int .u32 now, .int .i64 size], .int .i64 i] [] k =
      cond (((live[i]?).getD .bad).isIntK .i64) (cond (((age[i]?).getD .bad).isIntK .u32) (k (.agg 4 [.int .i64 (gI live i), .int .u32 (gI age i), .int .u32 now, .int .i64 size]) [] false) bot) bot := by kernel_rfl

/-! fraction -/
def aboveN (l a n s : Int) : Int := IntKind.u64.wrap (IntKind.u64.wrap (IntKind.i64.wrap (s - l)) * (if a < n then IntKind.u64.wrap (1 + IntKind.u64.wrap (IntKind.u32.wrap (n - a))) else 1))
def belowN (l s : Int) : Int := IntKind.u64.wrap (IntKind.i64.wrap (s + l))
theorem frac16 (fuel : Nat) (l a n s : Int) (K : Oracle) (KK : OracleK R) (k : AV → Heap → Bool → R) :
    evalFK bot true Try.prog U ann fuel K KK 16 [.agg 4 [.int .i64 l, .int .u32 a, .int .u32 n, .int .i64 s]] [] k =
      cond (decide (s < 1)) (k (.tuple [.int .u64 0, .int .u64 1]) [] false) (cond (decide (s > 32)) (k (.tuple [.int .u64 0, .int .u64 1]) [] false)
        (cond (decide (l < 0)) (k (.tuple [.int .u64 0, .int .u64 1]) [] false) (cond (decide (l > s)) (k (.tuple [.int .u64 0, .int .u64 1]) [] false)
          (cond (decide (a < n)) (k (.tuple [.int .u64 (IntKind.u64.wrap (IntKind.u64.wrap (IntKind.i64.wrap (s - l)) * IntKind.u64.wrap (1 + IntKind.u64.wrap (IntKind.u32.wrap (n - a))))), .int .u64 (belowN l s)]) [] false)
            (k (.tuple [.int .u64 (IntKind.u64.wrap (IntKind.u64.wrap (IntKind.i64.wrap (s - l)) * 1)), .int .u64 (belowN l s)]) [] false))))) := by kernel_rfl

def fracB (l s : Int) : Bool := decide (s < 1) || decide (s > 32) || decide (l < 0) || decide (l > s)
def fracX (l a n s : Int) : Int := if fracB l s then 0 else IntKind.u64.wrap (IntKind.u64.wrap (IntKind.i64.wrap (s - l)) * (if a < n then IntKind.u64.wrap (1 + IntKind.u64.wrap (IntKind.u32.wrap (n - a))) else 1))
def fracY (l s : Int) : Int := if fracB l s then 1 else belowN l s

def T1 : Table := fun f => if f = 16 then some (fun xs => match xs with
  | [.agg 4 [.int .i64 l, .int .u32 a, .int .u32 n, .int .i64 s]] => some (true, .tuple [.int .u64 (fracX l a n s), .int .u64 (fracY l s)])
  | _ => none) else T0 f

def above (l a n s l' a' n' s' : Int) : Bool := decide (IntKind.u64.wrap (fracX l a n s * fracY l' s') > IntKind.u64.wrap (fracX l' a' n' s' * fracY l s))

theorem above9 (fuel : Nat) (l a n s l' a' n' s' : Int) (m : Nat) (k : AV → Heap → Bool → R) :
    evalTK bot Try.prog U ann fuel T1 (m + 2) 9 [.agg 4 [.int .i64 l, .int .u32 a, .int .u32 n, .int .i64 s], .agg 4 [.int .i64 l', .int .u32 a', .int .u32 n', .int .i64 s']] [] k =
      k (.bool (above l a n s l' a' n' s')) [] false := by kernel_rfl

def idxF (v : Int) : List AV → Int → Int
  | [], _ => -1
  | x :: r, i => if v == x.toInt then i else idxF v r (i + 1)

def T2 : Table := fun f => if f = 9 then some (fun xs => match xs with
  | [.agg 4 [.int .i64 l, .int .u32 a, .int .u32 n, .int .i64 s], .agg 4 [.int .i64 l', .int .u32 a', .int .u32 n', .int .i64 s']] => some (true, .bool (above l a n s l' a' n' s'))
  | _ => none) else T1 f
def T3 : Table := fun f => if f = 17 then some (fun xs => match xs with
  | [.isl 1 xs, .int .i64 v] => some (okI .i64 xs && decide (xs.length < 1000), .int .i64 (idxF v xs 0))
  | [.nils, .int .i64 _] => some (true, .int .i64 (-1))
  | _ => none) else T2 f

theorem cont12 (fuel : Nat) (xs : List AV) (v : Int) (m : Nat) (k : AV → Heap → Bool → R) :
    evalTK bot Try.prog U ann fuel T3 (m + 2) 12 [.isl 1 xs, .int .i64 v] [] k =
      cond (okI .i64 xs && decide (xs.length < 1000)) (k (.bool (decide (idxF v xs 0 ≥ 0))) [] false) bot := by kernel_rfl
theorem cont12n (fuel : Nat) (v : Int) (m : Nat) (k : AV → Heap → Bool → R) :
    evalTK bot Try.prog U ann fuel T3 (m + 2) 12 [.nils, .int .i64 v] [] k = k (.bool false) [] false := by kernel_rfl

def T4 : Table := fun f => if f = 12 then some (fun xs => match xs with
  | [.isl 1 xs, .int .i64 v] => some (okI .i64 xs && decide (xs.length < 1000), .bool (decide (idxF v xs 0 ≥ 0)))
  | [.nils, .int .i64 _] => some (true, .bool false)
  | _ => none) else T3 f

/-! Best -/
def S7 (live age : List AV) (now size : Int) (nots : AV) (best : Int) (any : Bool) (l a n s : Int) (i : Int) : St :=
  ⟨[(0, .bad), (1, nots), (2, .ptr ⟨0, 0, [], 4⟩), (4, .bad), (5, .bad), (6, .int .i64 best), (7, .bool any), (8, .ptr ⟨1, 0, [], 4⟩), (9, .bad), (10, .bad),
    (17, .int .i64 (if (age.length : Int) < (live.length : Int) then (age.length : Int) else (live.length : Int))), (18, .int .i64 i), (19, .bad), (44, .bad)], [],
   [some ⟨.agg 4 [.isl 1 live, .isl 1 age, .int .u32 now, .int .i64 size], false, true⟩, some ⟨.agg 4 [.int .i64 l, .int .u32 a, .int .u32 n, .int .i64 s], false, true⟩], false⟩

end

/-! The tables, one by one. -/
theorem hA : ∀ f, funcOk Try.prog (ann f) f = true := all_ok annOk

theorem wrap_small {i : Nat} (h : i < 2 ^ 62) : IntKind.i64.wrap ((i : Int) + 1) = ((i + 1 : Nat) : Int) := by
  rw [IntKind.wrap_i64]
  omega

theorem okI_get {k : IntKind} {xs : List AV} (h : okI k xs = true) {i : Nat} (hi : i < xs.length) : ((xs[i]?).getD .bad).isIntK k = true := by
  rw [List.getElem?_eq_getElem hi]
  exact List.all_eq_true.1 h _ (List.getElem_mem hi)

theorem F0 : FunTab Try.prog U T0 := FunTab.none

theorem F1 : FunTab Try.prog U T1 := F0.add (ann := ann) (fuel := 1000) (n := 1) extU mixed hA (g := 16) (fun xs v h => by
  split at h
  · rename_i l a n s
    obtain rfl : v = .tuple [.int .u64 (fracX l a n s), .int .u64 (fracY l s)] := by simpa using h.symm
    refine ⟨rfl, ?_⟩
    refine (frac16 none 1000 l a n s _ _ _).trans ?_
    unfold fracX fracY fracB belowN
    cases h1 : decide (s < 1) <;> cases h2 : decide (s > 32) <;> cases h3 : decide (l < 0) <;> cases h4 : decide (l > s) <;> simp
    cases h5 : decide (a < n)
    · simp only [decide_eq_false_iff_not] at h5
      simp [h5]
    · simp only [decide_eq_true_eq] at h5
      simp [h5]
  · cases h)

theorem F2 : FunTab Try.prog U T2 := F1.add (ann := ann) (fuel := 1000) (n := 3) extU mixed hA (g := 9) (fun xs v h => by
  split at h
  · rename_i l a n s l' a' n' s'
    obtain rfl : v = .bool (above l a n s l' a' n' s') := by simpa using h.symm
    exact ⟨rfl, above9 none 1000 l a n s l' a' n' s' 1 _⟩
  · cases h)

theorem loop17 {R : Type} (bot : R) (fuel : Nat) (xs : List AV) (v : Int) (K : Oracle) (KK : OracleK R) (k : AV → Heap → Bool → R) (hok : okI .i64 xs = true) (hl : xs.length < 1000) :
    ∀ (m i n : Nat), xs.length - i = m → i ≤ xs.length → m < n → resumeFK bot true Try.prog U ann fuel K KK 17 2 0 [true, false, true] n (S17 xs v i) k = k (.int .i64 (idxF v (xs.drop i) i)) [] false
  | m, i, 0, _, _, h => by omega
  | 0, i, n + 1, h1, h2, h3 => by
    obtain rfl : i = xs.length := by omega
    rw [step17]
    simp [idxF]
  | m + 1, i, n + 1, h1, h2, h3 => by
    have hi : i < xs.length := by omega
    rw [step17, okI_get hok hi, List.drop_eq_getElem_cons hi]
    simp only [List.getElem?_eq_getElem hi, Option.getD_some, idxF]
    rw [decide_eq_true (by omega : (i : Int) < (xs.length : Int))]
    simp only [cond_true]
    cases hv : (v == xs[i].toInt)
    · simp only [cond_false, Bool.false_eq_true, if_false]
      rw [wrap_small (by omega), loop17 bot fuel xs v K KK k hok hl m (i + 1) n (by omega) (by omega) (by omega)]
      simp
    · simp

theorem F3 : FunTab Try.prog U T3 := F2.add (ann := ann) (fuel := 1001) (n := 1) extU mixed hA (g := 17) (fun xs v h => by
  split at h
  · rename_i xs w
    simp only [Option.some.injEq, Prod.mk.injEq, Bool.and_eq_true, decide_eq_true_eq] at h
    obtain ⟨⟨hok, hl⟩, rfl⟩ := h
    refine ⟨rfl, (start17 none 1001 xs w _ _ _).trans ?_⟩
    have := loop17 none 1001 xs w (evalN Try.prog U ann 1001 (pureK (kOf T2)) 0) (evalTK none Try.prog U ann 1001 T2 0) (fun v H e => some (v, H, e)) hok hl xs.length 0 1001 (by omega) (by omega) (by omega)
    simpa using this
  · simp only [Option.some.injEq, Prod.mk.injEq, true_and] at h
    subst h
    exact ⟨rfl, by kernel_rfl⟩
  · cases h)

theorem F4 : FunTab Try.prog U T4 := F3.add (ann := ann) (fuel := 1000) (n := 3) extU mixed hA (g := 12) (fun xs v h => by
  split at h
  · rename_i xs w
    simp only [Option.some.injEq, Prod.mk.injEq] at h
    obtain ⟨hok, rfl⟩ := h
    refine ⟨rfl, (cont12 none 1000 xs w 1 _).trans ?_⟩
    rw [hok]
    rfl
  · simp only [Option.some.injEq, Prod.mk.injEq, true_and] at h
    subst h
    exact ⟨rfl, cont12n none 1000 _ 1 _⟩
  · cases h)

def T5 : Table := fun f => if f = 8 then some (fun xs => match xs with
  | [.isl 1 xs, .int .i64 v] => some (okI .i64 xs && decide (xs.length < 1000), .bool (decide (idxF v xs 0 ≥ 0)))
  | [.nils, .int .i64 _] => some (true, .bool false)
  | _ => none) else T4 f
def T6 : Table := fun f => if f = 10 then some (fun xs => match xs with
  | [.agg 4 [.isl 1 live, .isl 1 age, .int .u32 now, .int .i64 size], .int .i64 k] => some (decide (0 ≤ k) && ((live[k.toNat]?).getD .bad).isIntK .i64 && ((age[k.toNat]?).getD .bad).isIntK .u32,
      .agg 4 [.int .i64 (gI live k.toNat), .int .u32 (gI age k.toNat), .int .u32 now, .int .i64 size])
  | _ => none) else T5 f

theorem idxF_ge (v : Int) : ∀ (xs : List AV) (i : Nat), idxF v xs i = -1 ∨ (i : Int) ≤ idxF v xs i
  | [], i => .inl rfl
  | x :: r, i => by
    unfold idxF
    split
    · exact .inr (Int.le_refl _)
    · rcases idxF_ge v r (i + 1) with h | h
      · left; simpa using h
      · right
        have : ((i + 1 : Nat) : Int) = (i : Int) + 1 := by omega
        rw [this] at h
        omega

theorem loop8 {R : Type} (bot : R) (fuel : Nat) (xs : List AV) (v : Int) (K : Oracle) (KK : OracleK R) (k : AV → Heap → Bool → R) (hok : okI .i64 xs = true) (hl : xs.length < 1000) :
    ∀ (m i n : Nat), xs.length - i = m → i ≤ xs.length → m < n → resumeFK bot true Try.prog U ann fuel K KK 8 2 0 [true, false, true] n (S8 xs v i) k = k (.bool (decide (idxF v (xs.drop i) i ≥ 0))) [] false
  | m, i, 0, _, _, h => by omega
  | 0, i, n + 1, h1, h2, h3 => by
    obtain rfl : i = xs.length := by omega
    rw [step8]
    simp [idxF]
  | m + 1, i, n + 1, h1, h2, h3 => by
    have hi : i < xs.length := by omega
    rw [step8, okI_get hok hi, List.drop_eq_getElem_cons hi]
    simp only [List.getElem?_eq_getElem hi, Option.getD_some, idxF]
    rw [decide_eq_true (by omega : (i : Int) < (xs.length : Int))]
    simp only [cond_true]
    cases hv : (xs[i].toInt == v)
    · have hv' : (v == xs[i].toInt) = false := by
        rw [beq_eq_false_iff_ne] at hv ⊢
        exact fun e => hv e.symm
      simp only [cond_false, hv', Bool.false_eq_true, if_false]
      rw [wrap_small (by omega), loop8 bot fuel xs v K KK k hok hl m (i + 1) n (by omega) (by omega) (by omega)]
      simp
    · have hv' : (v == xs[i].toInt) = true := by
        rw [beq_iff_eq] at hv ⊢
        exact hv.symm
      simp [hv']

theorem F5 : FunTab Try.prog U T5 := F4.add (ann := ann) (fuel := 1001) (n := 1) extU mixed hA (g := 8) (fun xs v h => by
  split at h
  · rename_i xs w
    simp only [Option.some.injEq, Prod.mk.injEq, Bool.and_eq_true, decide_eq_true_eq] at h
    obtain ⟨⟨hok, hl⟩, rfl⟩ := h
    refine ⟨rfl, (start8 none 1001 xs w _ _ _).trans ?_⟩
    have := loop8 none 1001 xs w (evalN Try.prog U ann 1001 (pureK (kOf T4)) 0) (evalTK none Try.prog U ann 1001 T4 0) (fun v H e => some (v, H, e)) hok hl xs.length 0 1001 (by omega) (by omega) (by omega)
    simpa using this
  · simp only [Option.some.injEq, Prod.mk.injEq, true_and] at h
    subst h
    exact ⟨rfl, by kernel_rfl⟩
  · cases h)

theorem F6 : FunTab Try.prog U T6 := F5.add (ann := ann) (fuel := 1000) (n := 1) extU mixed hA (g := 10) (fun xs v h => by
  split at h
  · rename_i live age now size k
    simp only [Option.some.injEq, Prod.mk.injEq, Bool.and_eq_true, decide_eq_true_eq] at h
    obtain ⟨⟨⟨hk, h1⟩, h2⟩, rfl⟩ := h
    obtain ⟨i, rfl⟩ : ∃ i : Nat, k = i := ⟨k.toNat, by omega⟩
    simp only [Int.toNat_natCast] at h1 h2 ⊢
    refine ⟨rfl, (at10 none 1000 live age now size i _ _ _).trans ?_⟩
    rw [h1, h2]
    rfl
  · cases h)

/-! Best -/
def bestGo (live age : List AV) (now size : Int) (xs : List AV) : Nat → Nat → Int → Bool → Int → Int → Int → Int → Int × Bool
  | 0, _, best, any, _, _, _, _ => (best, any)
  | r + 1, i, best, any, l, a, c, s =>
    if !(decide (idxF i xs 0 ≥ 0)) && above (gI live i) (gI age i) now size l a c s then bestGo live age now size xs r (i + 1) i true (gI live i) (gI age i) now size
    else bestGo live age now size xs r (i + 1) best any l a c s

def bestN (live age : List AV) : Nat := if age.length < live.length then age.length else live.length
def bestF (live age : List AV) (now size : Int) (xs : List AV) : Int × Bool := bestGo live age now size xs (bestN live age) 0 0 false 0 0 0 0

theorem beq_int (k : IntKind) (n : Int) : (AV.int k n).beq (.int k n) = true := by simp [AV.beq]
theorem beqL_ints {k : IntKind} : ∀ {xs : List AV}, okI k xs = true → beqL xs xs = true
  | [], _ => rfl
  | x :: xs, h => by
    simp only [okI, List.all_cons, Bool.and_eq_true] at h
    have hx : x.beq x = true := by
      cases x <;> simp [AV.isIntK] at h
      exact beq_int _ _
    simp [beqL, hx, beqL_ints (xs := xs) (by simpa [okI] using h.2)]
theorem beq_isl {k : IntKind} {xs : List AV} (h : okI k xs = true) : (AV.isl 1 xs).beq (.isl 1 xs) = true := by simp [AV.beq, beqL_ints h]


section
variable {R : Type} (bot : R)
theorem start7n (fuel m : Nat) (live age : List AV) (now size : Int) (k : AV → Heap → Bool → R) :
    evalTK bot Try.prog U ann fuel T6 (m + 1) 7 [.agg 4 [.isl 1 live, .isl 1 age, .int .u32 now, .int .i64 size], .nils] [] k = resumeFK bot true Try.prog U ann fuel (evalN Try.prog U ann fuel (pureK (kOf T6)) m) (evalTK bot Try.prog U ann fuel T6 m) 7 2 0 [true, true, true, false, true] fuel (S7 live age now size .nils 0 false 0 0 0 0 0) k := by kernel_rfl
noncomputable def r7n (fuel n m : Nat) (s : St) (k : AV → Heap → Bool → R) : R := resumeFK bot true Try.prog U ann fuel (evalN Try.prog U ann fuel (pureK (kOf T6)) m) (evalTK bot Try.prog U ann fuel T6 m) 7 2 0 [true, true, true, false, true] n s k
theorem start7s (fuel m : Nat) (live age : List AV) (now size : Int) (xs : List AV) (k : AV → Heap → Bool → R) :
    evalTK bot Try.prog U ann fuel T6 (m + 1) 7 [.agg 4 [.isl 1 live, .isl 1 age, .int .u32 now, .int .i64 size], .isl 1 xs] [] k = r7n bot fuel fuel m (S7 live age now size (.isl 1 xs) 0 false 0 0 0 0 0) k := by kernel_rfl
theorem step7s (fuel n m : Nat) (live age : List AV) (now size : Int) (xs : List AV) (best : Int) (any : Bool) (l a c s : Int) (i : Nat) (k : AV → Heap → Bool → R) :
    r7n bot fuel (n + 1) (m + 1) (S7 live age now size (.isl 1 xs) best any l a c s i) k =
      cond (decide ((i : Int) < (if (age.length : Int) < (live.length : Int) then (age.length : Int) else (live.length : Int))))
        (cond (((live[i]?).getD .bad).isIntK .i64) (cond (((age[i]?).getD .bad).isIntK .u32)
          (cond ((AV.isl 1 live).beq (.isl 1 live)) (cond ((AV.int .i64 (gI live i)).beq (.int .i64 (gI live i))) (cond ((AV.isl 1 age).beq (.isl 1 age)) (cond ((AV.int .u32 (gI age i)).beq (.int .u32 (gI age i)))
            (cond ((AV.int .u32 now).beq (.int .u32 now)) (cond ((AV.int .i64 size).beq (.int .i64 size))
              (cond (okI .i64 xs && decide (xs.length < 1000))
                (cond (!(decide (idxF i xs 0 ≥ 0)))
                  (cond (above (gI live i) (gI age i) now size l a c s)
                    (r7n bot fuel n (m + 1) (S7 live age now size (.isl 1 xs) i true (gI live i) (gI age i) now size (IntKind.i64.wrap ((i : Int) + 1))) k)
                    (r7n bot fuel n (m + 1) (S7 live age now size (.isl 1 xs) best any l a c s (IntKind.i64.wrap ((i : Int) + 1))) k))
                  (r7n bot fuel n (m + 1) (S7 live age now size (.isl 1 xs) best any l a c s (IntKind.i64.wrap ((i : Int) + 1))) k)) bot)
              bot) bot) bot) bot) bot) bot) bot) bot)
        (k (.tuple [.int .i64 best, .bool any]) [] false) := by kernel_rfl
theorem step7n (fuel n m : Nat) (live age : List AV) (now size : Int) (best : Int) (any : Bool) (l a c s : Int) (i : Nat) (k : AV → Heap → Bool → R) :
    r7n bot fuel (n + 1) (m + 1) (S7 live age now size .nils best any l a c s i) k =
      cond (decide ((i : Int) < (if (age.length : Int) < (live.length : Int) then (age.length : Int) else (live.length : Int))))
        (cond (((live[i]?).getD .bad).isIntK .i64) (cond (((age[i]?).getD .bad).isIntK .u32)
          (cond ((AV.isl 1 live).beq (.isl 1 live)) (cond ((AV.int .i64 (gI live i)).beq (.int .i64 (gI live i))) (cond ((AV.isl 1 age).beq (.isl 1 age)) (cond ((AV.int .u32 (gI age i)).beq (.int .u32 (gI age i)))
            (cond ((AV.int .u32 now).beq (.int .u32 now)) (cond ((AV.int .i64 size).beq (.int .i64 size))
                  (cond (above (gI live i) (gI age i) now size l a c s)
                    (r7n bot fuel n (m + 1) (S7 live age now size .nils i true (gI live i) (gI age i) now size (IntKind.i64.wrap ((i : Int) + 1))) k)
                    (r7n bot fuel n (m + 1) (S7 live age now size .nils best any l a c s (IntKind.i64.wrap ((i : Int) + 1))) k))
              bot) bot) bot) bot) bot) bot) bot) bot)
        (k (.tuple [.int .i64 best, .bool any]) [] false) := by kernel_rfl
/-! No ages, or no live: nothing is looked at. -/
theorem best_ini (fuel m : Nat) (live : List AV) (xs : List AV) (now size : Int) (k : AV → Heap → Bool → R) :
    evalFK bot true Try.prog U ann (fuel + 1) (evalN Try.prog U ann (fuel + 1) (pureK (kOf T6)) m) (evalTK bot Try.prog U ann (fuel + 1) T6 m) 7 [.agg 4 [.isl 1 live, .nils, .int .u32 now, .int .i64 size], .isl 1 xs] [] k =
      cond (decide ((0 : Int) < (if (0 : Int) < (live.length : Int) then (0 : Int) else (live.length : Int)))) (cond (((live[0]?).getD AV.bad).isIntK .i64) bot bot) (k (.tuple [.int .i64 0, .bool false]) [] false) := by kernel_rfl
theorem best_inn (fuel m : Nat) (live : List AV) (now size : Int) (k : AV → Heap → Bool → R) :
    evalFK bot true Try.prog U ann (fuel + 1) (evalN Try.prog U ann (fuel + 1) (pureK (kOf T6)) m) (evalTK bot Try.prog U ann (fuel + 1) T6 m) 7 [.agg 4 [.isl 1 live, .nils, .int .u32 now, .int .i64 size], .nils] [] k =
      cond (decide ((0 : Int) < (if (0 : Int) < (live.length : Int) then (0 : Int) else (live.length : Int)))) (cond (((live[0]?).getD AV.bad).isIntK .i64) bot bot) (k (.tuple [.int .i64 0, .bool false]) [] false) := by kernel_rfl
theorem best_nii (fuel m : Nat) (age : List AV) (xs : List AV) (now size : Int) (k : AV → Heap → Bool → R) :
    evalFK bot true Try.prog U ann (fuel + 1) (evalN Try.prog U ann (fuel + 1) (pureK (kOf T6)) m) (evalTK bot Try.prog U ann (fuel + 1) T6 m) 7 [.agg 4 [.nils, .isl 1 age, .int .u32 now, .int .i64 size], .isl 1 xs] [] k =
      k (.tuple [.int .i64 0, .bool false]) [] false := by kernel_rfl
theorem best_nin (fuel m : Nat) (age : List AV) (now size : Int) (k : AV → Heap → Bool → R) :
    evalFK bot true Try.prog U ann (fuel + 1) (evalN Try.prog U ann (fuel + 1) (pureK (kOf T6)) m) (evalTK bot Try.prog U ann (fuel + 1) T6 m) 7 [.agg 4 [.nils, .isl 1 age, .int .u32 now, .int .i64 size], .nils] [] k =
      k (.tuple [.int .i64 0, .bool false]) [] false := by kernel_rfl
theorem best_nni (fuel m : Nat) (xs : List AV) (now size : Int) (k : AV → Heap → Bool → R) :
    evalFK bot true Try.prog U ann (fuel + 1) (evalN Try.prog U ann (fuel + 1) (pureK (kOf T6)) m) (evalTK bot Try.prog U ann (fuel + 1) T6 m) 7 [.agg 4 [.nils, .nils, .int .u32 now, .int .i64 size], .isl 1 xs] [] k =
      k (.tuple [.int .i64 0, .bool false]) [] false := by kernel_rfl
theorem best_nnn (fuel m : Nat) (now size : Int) (k : AV → Heap → Bool → R) :
    evalFK bot true Try.prog U ann (fuel + 1) (evalN Try.prog U ann (fuel + 1) (pureK (kOf T6)) m) (evalTK bot Try.prog U ann (fuel + 1) T6 m) 7 [.agg 4 [.nils, .nils, .int .u32 now, .int .i64 size], .nils] [] k =
      k (.tuple [.int .i64 0, .bool false]) [] false := by kernel_rfl
end
theorem loop7 {R : Type} (bot : R) (fuel : Nat) (live age : List AV) (now size : Int) (xs : List AV) (k : AV → Heap → Bool → R) (h1 : okI .i64 live = true) (h2 : okI .u32 age = true) (h3 : okI .i64 xs = true) (h4 : xs.length < 1000) (h5 : live.length < 1000) (m : Nat) :
    ∀ (r i n : Nat) (best : Int) (any : Bool) (l a c s : Int), i + r = bestN live age → r < n →
      r7n bot fuel n (m + 1) (S7 live age now size (.isl 1 xs) best any l a c s i) k = k (.tuple [.int .i64 (bestGo live age now size xs r i best any l a c s).1, .bool (bestGo live age now size xs r i best any l a c s).2]) [] false
  | r, i, 0, _, _, _, _, _, _, _, h => by omega
  | 0, i, n + 1, best, any, l, a, c, s, hi, hn => by
    rw [step7s]
    have : ¬ ((i : Int) < (if (age.length : Int) < (live.length : Int) then (age.length : Int) else (live.length : Int))) := by
      unfold bestN at hi
      split at hi <;> split <;> omega
    rw [decide_eq_false this]
    simp [bestGo]
  | r + 1, i, n + 1, best, any, l, a, c, s, hi, hn => by
    have hlt : i < live.length ∧ i < age.length := by
      unfold bestN at hi
      split at hi <;> omega
    have hd : (i : Int) < (if (age.length : Int) < (live.length : Int) then (age.length : Int) else (live.length : Int)) := by
      split <;> omega
    have ih := fun b y l a c s => loop7 bot fuel live age now size xs k h1 h2 h3 h4 h5 m r (i + 1) n b y l a c s (by omega) (by omega)
    rw [step7s, decide_eq_true hd, okI_get h1 hlt.1, okI_get h2 hlt.2, beq_isl h1, beq_isl h2, beq_int, beq_int, beq_int, beq_int, h3, decide_eq_true h4, wrap_small (by omega)]
    simp only [cond_true, Bool.and_self]
    unfold bestGo
    cases hc : decide (idxF i xs 0 ≥ 0) with
    | true =>
      simp only [Bool.not_true, cond_false, Bool.false_and, Bool.false_eq_true, if_false]
      exact ih _ _ _ _ _ _
    | false =>
      simp only [Bool.not_false, cond_true, Bool.true_and]
      cases ha : above (gI live i) (gI age i) now size l a c s with
      | true =>
        simp only [cond_true, if_true]
        exact ih _ _ _ _ _ _
      | false =>
        simp only [cond_false, Bool.false_eq_true, if_false]
        exact ih _ _ _ _ _ _

theorem loop7n {R : Type} (bot : R) (fuel : Nat) (live age : List AV) (now size : Int) (k : AV → Heap → Bool → R) (h1 : okI .i64 live = true) (h2 : okI .u32 age = true) (h5 : live.length < 1000) (m : Nat) :
    ∀ (r i n : Nat) (best : Int) (any : Bool) (l a c s : Int), i + r = bestN live age → r < n →
      r7n bot fuel n (m + 1) (S7 live age now size .nils best any l a c s i) k = k (.tuple [.int .i64 (bestGo live age now size [] r i best any l a c s).1, .bool (bestGo live age now size [] r i best any l a c s).2]) [] false
  | r, i, 0, _, _, _, _, _, _, _, h => by omega
  | 0, i, n + 1, best, any, l, a, c, s, hi, hn => by
    rw [step7n]
    have : ¬ ((i : Int) < (if (age.length : Int) < (live.length : Int) then (age.length : Int) else (live.length : Int))) := by
      unfold bestN at hi
      split at hi <;> split <;> omega
    rw [decide_eq_false this]
    simp [bestGo]
  | r + 1, i, n + 1, best, any, l, a, c, s, hi, hn => by
    have hlt : i < live.length ∧ i < age.length := by
      unfold bestN at hi
      split at hi <;> omega
    have hd : (i : Int) < (if (age.length : Int) < (live.length : Int) then (age.length : Int) else (live.length : Int)) := by
      split <;> omega
    have ih := fun b y l a c s => loop7n bot fuel live age now size k h1 h2 h5 m r (i + 1) n b y l a c s (by omega) (by omega)
    rw [step7n, decide_eq_true hd, okI_get h1 hlt.1, okI_get h2 hlt.2, beq_isl h1, beq_isl h2, beq_int, beq_int, beq_int, beq_int, wrap_small (by omega)]
    simp only [cond_true]
    unfold bestGo
    have hc : decide (idxF i [] 0 ≥ 0) = false := rfl
    rw [hc]
    simp only [Bool.not_false, Bool.true_and]
    cases ha : above (gI live i) (gI age i) now size l a c s with
    | true =>
      simp only [cond_true, if_true]
      exact ih _ _ _ _ _ _
    | false =>
      simp only [cond_false, Bool.false_eq_true, if_false]
      exact ih _ _ _ _ _ _

def okB (live age xs : List AV) : Bool := okI .i64 live && okI .u32 age && okI .i64 xs && decide (xs.length < 1000) && decide (live.length < 1000)
def T7 : Table := fun f => if f = 7 then some (fun xs => match xs with
  | [.agg 4 [.isl 1 live, .isl 1 age, .int .u32 now, .int .i64 size], .isl 1 xs] => some (okB live age xs, .tuple [.int .i64 (bestF live age now size xs).1, .bool (bestF live age now size xs).2])
  | [.agg 4 [.isl 1 live, .isl 1 age, .int .u32 now, .int .i64 size], .nils] => some (okB live age [], .tuple [.int .i64 (bestF live age now size []).1, .bool (bestF live age now size []).2])
  | [.agg 4 [.isl 1 _, .nils, .int .u32 _, .int .i64 _], .isl 1 _] => some (true, .tuple [.int .i64 0, .bool false])
  | [.agg 4 [.isl 1 _, .nils, .int .u32 _, .int .i64 _], .nils] => some (true, .tuple [.int .i64 0, .bool false])
  | [.agg 4 [.nils, .isl 1 _, .int .u32 _, .int .i64 _], .isl 1 _] => some (true, .tuple [.int .i64 0, .bool false])
  | [.agg 4 [.nils, .isl 1 _, .int .u32 _, .int .i64 _], .nils] => some (true, .tuple [.int .i64 0, .bool false])
  | [.agg 4 [.nils, .nils, .int .u32 _, .int .i64 _], .isl 1 _] => some (true, .tuple [.int .i64 0, .bool false])
  | [.agg 4 [.nils, .nils, .int .u32 _, .int .i64 _], .nils] => some (true, .tuple [.int .i64 0, .bool false])
  | _ => none) else T6 f

theorem bestN_lt {live age : List AV} (h : live.length < 1000) : bestN live age < 1000 := by
  unfold bestN
  split <;> omega

theorem F7 : FunTab Try.prog U T7 := F6.add (ann := ann) (fuel := 1001) (n := 2) extU mixed hA (g := 7) (fun xs v h => by
  split at h
  · rename_i live age now size xs
    simp only [okB, Option.some.injEq, Prod.mk.injEq, Bool.and_eq_true, decide_eq_true_eq] at h
    obtain ⟨⟨⟨⟨⟨h1, h2⟩, h3⟩, h4⟩, h5⟩, rfl⟩ := h
    refine ⟨rfl, (start7s none 1001 1 live age now size xs _).trans ?_⟩
    have hb := bestN_lt (age := age) h5
    exact loop7 none 1001 live age now size xs _ h1 h2 h3 h4 h5 0 (bestN live age) 0 1001 0 false 0 0 0 0 (by omega) (by omega)
  · rename_i live age now size
    simp only [okB, Option.some.injEq, Prod.mk.injEq, Bool.and_eq_true, decide_eq_true_eq] at h
    obtain ⟨⟨⟨⟨⟨h1, h2⟩, h3⟩, h4⟩, h5⟩, rfl⟩ := h
    refine ⟨rfl, (start7n none 1001 1 live age now size _).trans ?_⟩
    have hb := bestN_lt (age := age) h5
    exact loop7n none 1001 live age now size _ h1 h2 h5 0 (bestN live age) 0 1001 0 false 0 0 0 0 (by omega) (by omega)
  · simp only [Option.some.injEq, Prod.mk.injEq, true_and] at h
    subst h
    refine ⟨rfl, (best_ini none 1000 1 _ _ _ _ _).trans ?_⟩
    rw [decide_eq_false]
    · rfl
    · split <;> omega
  · simp only [Option.some.injEq, Prod.mk.injEq, true_and] at h
    subst h
    refine ⟨rfl, (best_inn none 1000 1 _ _ _ _).trans ?_⟩
    rw [decide_eq_false]
    · rfl
    · split <;> omega
  · simp only [Option.some.injEq, Prod.mk.injEq, true_and] at h
    subst h
    exact ⟨rfl, best_nii none 1000 1 _ _ _ _ _⟩
  · simp only [Option.some.injEq, Prod.mk.injEq, true_and] at h
    subst h
    exact ⟨rfl, best_nin none 1000 1 _ _ _ _⟩
  · simp only [Option.some.injEq, Prod.mk.injEq, true_and] at h
    subst h
    exact ⟨rfl, best_nni none 1000 1 _ _ _ _⟩
  · simp only [Option.some.injEq, Prod.mk.injEq, true_and] at h
    subst h
    exact ⟨rfl, best_nnn none 1000 1 _ _ _⟩
  · cases h)

/-! The law -/
def T8 : Table := fun f => if f = 5 then some (fun xs => match xs with
  | [] => some (true, .bool true)
  | _ => none) else T7 f

theorem wakes5 : evalNK false false Try.prog U ann 1000 (pureK (kOf T7)) 50 5 [] [] (fun v _ _ => v.isTrue) = true := by kernel_rfl
theorem F8 : FunTab Try.prog U T8 := F7.addN (ann := ann) (fuel := 1000) (n := 50) extU mixed hA (g := 5) (fun xs v h => by
  split at h
  · simp only [Option.some.injEq, Prod.mk.injEq, true_and] at h
    subst h
    exact ⟨rfl, run_of_true wakes5⟩
  · cases h)

abbrev AG (live age : List AV) (now size : Int) : AV := .agg 4 [.isl 1 live, .isl 1 age, .int .u32 now, .int .i64 size]
def bN (live age : List AV) : Int := if (age.length : Int) < (live.length : Int) then (age.length : Int) else (live.length : Int)
def inR (live age : List AV) (i : Int) : Bool := decide (0 ≤ i) && ((live[i.toNat]?).getD .bad).isIntK .i64 && ((age[i.toNat]?).getD .bad).isIntK .u32
def ab (live age : List AV) (now size : Int) (i j : Int) : Bool := above (gI live i.toNat) (gI age i.toNat) now size (gI live j.toNat) (gI age j.toNat) now size
def abz (live age : List AV) (now size : Int) (i : Int) : Bool := above (gI live i.toNat) (gI age i.toNat) now size 1 0 0 1
def okX (xs : List AV) : Bool := okI .i64 xs && decide (xs.length < 1000)
def lst (xs : List AV) (v : Int) : Bool := decide (idxF v xs 0 ≥ 0)
def S4a (live age : List AV) (now size : Int) (nots : AV) (kk : Int) (i : Int) : St :=
  ⟨[(0, .bad), (1, nots), (2, .ptr ⟨0, 0, [], 4⟩), (4, .bad), (5, .int .i64 kk), (6, .bad), (7, .int .i64 (bN live age)), (8, .int .i64 i), (9, .bad), (10, .bad), (11, .bad), (26, .bad), (42, .bad), (45, .bad), (58, .bad), (83, .bad), (86, .bad), (96, .bad), (118, .bad)], [],
   [some ⟨AG live age now size, false, true⟩], false⟩
def S4b (live age : List AV) (now size : Int) (nots : AV) (kk : Int) (i : Int) : St :=
  ⟨[(0, .bad), (1, nots), (2, .ptr ⟨0, 0, [], 4⟩), (4, .bad), (5, .int .i64 kk), (6, .bad), (7, .int .i64 (bN live age)), (8, .bad), (9, .int .i64 i), (10, .bad), (11, .bad), (26, .bad), (42, .bad), (45, .bad), (58, .bad), (83, .bad), (86, .bad), (96, .bad), (118, .bad)], [],
   [some ⟨AG live age now size, false, true⟩], false⟩

section
variable {R : Type} (bot : R)
noncomputable def r4a (fuel n m : Nat) (s : St) (k : AV → Heap → Bool → R) : R := resumeFK bot true Try.prog U ann fuel (evalN Try.prog U ann fuel (pureK (kOf T8)) m) (evalTK bot Try.prog U ann fuel T8 m) 4 2 0 [true, true, true, true, false, true, false, false, true] n s k
noncomputable def r4b (fuel n m : Nat) (s : St) (k : AV → Heap → Bool → R) : R := resumeFK bot true Try.prog U ann fuel (evalN Try.prog U ann fuel (pureK (kOf T8)) m) (evalTK bot Try.prog U ann fuel T8 m) 4 2 0 [true, true, true, true, true, true, false, true] n s k
theorem start4i (fuel m : Nat) (live age : List AV) (now size : Int) (xs : List AV) (k : AV → Heap → Bool → R) :
    evalTK bot Try.prog U ann fuel T8 (m + 2) 4 [AG live age now size, (.isl 1 xs)] [] k =
      cond (decide ((live.length : Int) > 40)) (k (.bool true) [] false) (cond (decide ((age.length : Int) > 40)) (k (.bool true) [] false) (cond (decide ((xs.length : Int) > 40)) (k (.bool true) [] false) (cond (okB live age xs) (cond (!((bestF live age now size xs).2)) (r4a bot fuel fuel (m + 1) (S4a live age now size (.isl 1 xs) ((bestF live age now size xs).1) (0)) k) (cond (decide (((bestF live age now size xs).1) < 0)) (k (.bool false) [] false) (cond (decide (((bestF live age now size xs).1) ≥ bN live age)) (k (.bool false) [] false) (cond (okX xs) (cond (lst xs ((bestF live age now size xs).1)) (k (.bool false) [] false) (cond (inR live age ((bestF live age now size xs).1)) (cond (!(abz live age now size ((bestF live age now size xs).1))) (k (.bool false) [] false) (r4b bot fuel fuel (m + 1) (S4b live age now size (.isl 1 xs) ((bestF live age now size xs).1) (0)) k)) bot)) bot)))) bot))) := by kernel_rfl
theorem stepAi (fuel n m : Nat) (live age : List AV) (now size : Int) (xs : List AV) (kk : Int) (i : Nat) (k : AV → Heap → Bool → R) :
    r4a bot fuel (n + 1) (m + 1) (S4a live age now size (.isl 1 xs) kk i) k =
      cond (decide ((i : Int) < bN live age)) (cond (okX xs) (cond (!(lst xs ((i : Int)))) (cond (inR live age (i : Int)) (cond (abz live age now size (i : Int)) (k (.bool false) [] false) (r4a bot fuel n (m + 1) (S4a live age now size (.isl 1 xs) kk (IntKind.i64.wrap ((i : Int) + 1))) k)) bot) (r4a bot fuel n (m + 1) (S4a live age now size (.isl 1 xs) kk (IntKind.i64.wrap ((i : Int) + 1))) k)) bot) (cond (kk == 0) (k (.bool true) [] false) (k (.bool false) [] false)) := by kernel_rfl
theorem stepBi (fuel n m : Nat) (live age : List AV) (now size : Int) (xs : List AV) (kk : Int) (i : Nat) (k : AV → Heap → Bool → R) :
    r4b bot fuel (n + 1) (m + 1) (S4b live age now size (.isl 1 xs) kk i) k =
      cond (decide ((i : Int) < bN live age)) (cond (okX xs) (cond (lst xs ((i : Int))) (r4b bot fuel n (m + 1) (S4b live age now size (.isl 1 xs) kk (IntKind.i64.wrap ((i : Int) + 1))) k) (cond ((i : Int) == kk) (r4b bot fuel n (m + 1) (S4b live age now size (.isl 1 xs) kk (IntKind.i64.wrap ((i : Int) + 1))) k) (cond (inR live age (i : Int)) (cond (inR live age kk) (cond (ab live age now size (i : Int) kk) (cond ((AG live age now size).beq (AG live age now size)) (k (.bool false) [] false) bot) (cond (decide ((i : Int) < kk)) (cond (inR live age kk) (cond (inR live age (i : Int)) (cond ((AG live age now size).beq (AG live age now size)) (cond ((AG live age now size).beq (AG live age now size)) (cond (!(ab live age now size kk (i : Int))) (k (.bool false) [] false) (r4b bot fuel n (m + 1) (S4b live age now size (.isl 1 xs) kk (IntKind.i64.wrap ((i : Int) + 1))) k)) bot) bot) bot) bot) (cond ((AG live age now size).beq (AG live age now size)) (r4b bot fuel n (m + 1) (S4b live age now size (.isl 1 xs) kk (IntKind.i64.wrap ((i : Int) + 1))) k) bot))) bot) bot))) bot) (cond (reflessL xs) (cond (xs.all fun u => u.flatLen == 1) (cond (decide ((0 + xs.length) * 8 ≤ maxBytes)) (cond (decide (0 + xs.length ≤ maxBytes)) (cond (decide (1 * ([] ++ xs).length = 1 * (0 + xs.length))) (cond (decide (([] ++ xs).length = 0 + xs.length)) (cond (decide (0 + xs.length = 0 + xs.length)) (cond (decide ((0 + xs.length + 1) * 8 ≤ maxBytes)) (cond (decide (0 + xs.length + 1 ≤ maxBytes)) (cond (decide (1 * (([] ++ xs) ++ [AV.int .i64 kk]).length = 1 * (0 + xs.length + 1))) (cond (decide ((([] ++ xs) ++ [AV.int .i64 kk]).length = 0 + xs.length + 1)) (cond (decide (0 + (0 + xs.length + 1) ≤ 0 + xs.length + 1)) (cond (reflessL (List.take (0 + xs.length + 1) (List.drop 0 (([] ++ xs) ++ [AV.int .i64 kk]))) && decide (0 < 1)) (cond (okB live age (List.take (0 + xs.length + 1) (List.drop 0 (([] ++ xs) ++ [AV.int .i64 kk])))) (cond ((AG live age now size).beq (AG live age now size)) (cond ((AG live age now size).beq (AG live age now size)) (cond ((AG live age now size).beq (AG live age now size)) (cond ((AG live age now size).beq (AG live age now size)) (cond (!((bestF live age now size (List.take (0 + xs.length + 1) (List.drop 0 (([] ++ xs) ++ [AV.int .i64 kk])))).2)) (k (.bool true) [] false) (cond (((bestF live age now size (List.take (0 + xs.length + 1) (List.drop 0 (([] ++ xs) ++ [AV.int .i64 kk])))).1) != kk) (cond (decide (((bestF live age now size (List.take (0 + xs.length + 1) (List.drop 0 (([] ++ xs) ++ [AV.int .i64 kk])))).1) ≥ 0)) (cond (decide (((bestF live age now size (List.take (0 + xs.length + 1) (List.drop 0 (([] ++ xs) ++ [AV.int .i64 kk])))).1) < bN live age)) (cond (inR live age ((bestF live age now size (List.take (0 + xs.length + 1) (List.drop 0 (([] ++ xs) ++ [AV.int .i64 kk])))).1)) (cond (inR live age kk) (cond (!(ab live age now size ((bestF live age now size (List.take (0 + xs.length + 1) (List.drop 0 (([] ++ xs) ++ [AV.int .i64 kk])))).1) kk)) (cond ((AG live age now size).beq (AG live age now size)) (k (.bool true) [] false) bot) (cond ((AG live age now size).beq (AG live age now size)) (k (.bool false) [] false) bot)) bot) bot) (k (.bool false) [] false)) (k (.bool false) [] false)) (k (.bool false) [] false))) bot) bot) bot) bot) bot) bot) bot) bot) bot) bot) bot) bot) bot) bot) bot) bot) bot) bot) := by kernel_rfl
theorem start4n (fuel m : Nat) (live age : List AV) (now size : Int) (k : AV → Heap → Bool → R) :
    evalTK bot Try.prog U ann fuel T8 (m + 2) 4 [AG live age now size, .nils] [] k =
      cond (decide ((live.length : Int) > 40)) (k (.bool true) [] false) (cond (decide ((age.length : Int) > 40)) (k (.bool true) [] false) (cond (okB live age []) (cond (!((bestF live age now size []).2)) (r4a bot fuel fuel (m + 1) (S4a live age now size .nils ((bestF live age now size []).1) (0)) k) (cond (decide (((bestF live age now size []).1) < 0)) (k (.bool false) [] false) (cond (decide (((bestF live age now size []).1) ≥ bN live age)) (k (.bool false) [] false) (cond (inR live age ((bestF live age now size []).1)) (cond (!(abz live age now size ((bestF live age now size []).1))) (k (.bool false) [] false) (r4b bot fuel fuel (m + 1) (S4b live age now size .nils ((bestF live age now size []).1) (0)) k)) bot)))) bot)) := by kernel_rfl
theorem stepAn (fuel n m : Nat) (live age : List AV) (now size : Int) (kk : Int) (i : Nat) (k : AV → Heap → Bool → R) :
    r4a bot fuel (n + 1) (m + 1) (S4a live age now size .nils kk i) k =
      cond (decide ((i : Int) < bN live age)) (cond (inR live age (i : Int)) (cond (abz live age now size (i : Int)) (k (.bool false) [] false) (r4a bot fuel n (m + 1) (S4a live age now size .nils kk (IntKind.i64.wrap ((i : Int) + 1))) k)) bot) (cond (kk == 0) (k (.bool true) [] false) (k (.bool false) [] false)) := by kernel_rfl
theorem stepBn (fuel n m : Nat) (live age : List AV) (now size : Int) (kk : Int) (i : Nat) (k : AV → Heap → Bool → R) :
    r4b bot fuel (n + 1) (m + 1) (S4b live age now size .nils kk i) k =
      cond (decide ((i : Int) < bN live age)) (cond ((i : Int) == kk) (r4b bot fuel n (m + 1) (S4b live age now size .nils kk (IntKind.i64.wrap ((i : Int) + 1))) k) (cond (inR live age (i : Int)) (cond (inR live age kk) (cond (ab live age now size (i : Int) kk) (cond ((AG live age now size).beq (AG live age now size)) (k (.bool false) [] false) bot) (cond (decide ((i : Int) < kk)) (cond (inR live age kk) (cond (inR live age (i : Int)) (cond ((AG live age now size).beq (AG live age now size)) (cond ((AG live age now size).beq (AG live age now size)) (cond (!(ab live age now size kk (i : Int))) (k (.bool false) [] false) (r4b bot fuel n (m + 1) (S4b live age now size .nils kk (IntKind.i64.wrap ((i : Int) + 1))) k)) bot) bot) bot) bot) (cond ((AG live age now size).beq (AG live age now size)) (r4b bot fuel n (m + 1) (S4b live age now size .nils kk (IntKind.i64.wrap ((i : Int) + 1))) k) bot))) bot) bot)) (cond (okB live age [AV.int .i64 kk]) (cond ((AG live age now size).beq (AG live age now size)) (cond ((AG live age now size).beq (AG live age now size)) (cond ((AG live age now size).beq (AG live age now size)) (cond ((AG live age now size).beq (AG live age now size)) (cond (!((bestF live age now size [AV.int .i64 kk]).2)) (k (.bool true) [] false) (cond (((bestF live age now size [AV.int .i64 kk]).1) != kk) (cond (decide (((bestF live age now size [AV.int .i64 kk]).1) ≥ 0)) (cond (decide (((bestF live age now size [AV.int .i64 kk]).1) < bN live age)) (cond (inR live age ((bestF live age now size [AV.int .i64 kk]).1)) (cond (inR live age kk) (cond (!(ab live age now size ((bestF live age now size [AV.int .i64 kk]).1) kk)) (cond ((AG live age now size).beq (AG live age now size)) (k (.bool true) [] false) bot) (cond ((AG live age now size).beq (AG live age now size)) (k (.bool false) [] false) bot)) bot) bot) (k (.bool false) [] false)) (k (.bool false) [] false)) (k (.bool false) [] false))) bot) bot) bot) bot) bot) := by kernel_rfl
end

/-! What they answer: an order of fractions. -/
theorem frac_bounds (l a n s : Int) : 0 ≤ fracX l a n s ∧ fracX l a n s ≤ 1099511627776 ∧ 1 ≤ fracY l s ∧ fracY l s ≤ 64 := by
  unfold fracX fracY
  cases hb : fracB l s with
  | true => simp
  | false =>
    simp only [fracB, Bool.or_eq_false_iff, decide_eq_false_iff_not] at hb
    obtain ⟨⟨⟨h1, h2⟩, h3⟩, h4⟩ := hb
    simp only [Bool.false_eq_true, if_false]
    have hd : IntKind.u64.wrap (IntKind.i64.wrap (s - l)) = s - l := by
      rw [IntKind.wrap_u64, IntKind.wrap_i64]
      omega
    have hy : belowN l s = s + l := by
      unfold belowN
      rw [IntKind.wrap_u64, IntKind.wrap_i64]
      omega
    obtain ⟨t, ht, h5, h6⟩ : ∃ t, (if a < n then IntKind.u64.wrap (1 + IntKind.u64.wrap (IntKind.u32.wrap (n - a))) else 1) = t ∧ 1 ≤ t ∧ t ≤ 4294967296 := by
      refine ⟨_, rfl, ?_⟩
      split
      · rw [IntKind.wrap_u64, IntKind.wrap_u64, IntKind.wrap_u32']
        omega
      · omega
    rw [ht, hd, hy, IntKind.wrap_u64]
    have p1 : 0 ≤ (s - l) * t := Int.mul_nonneg (by omega) (by omega)
    have p2 : (s - l) * t ≤ 32 * 4294967296 := Int.mul_le_mul (by omega) h6 (by omega) (by omega)
    rw [Int.emod_eq_of_lt p1 (by omega)]
    omega

theorem above_eq (l a n s l' a' n' s' : Int) : above l a n s l' a' n' s' = decide (fracX l' a' n' s' * fracY l s < fracX l a n s * fracY l' s') := by
  obtain ⟨h1, h2, h3, h4⟩ := frac_bounds l a n s
  obtain ⟨k1, k2, k3, k4⟩ := frac_bounds l' a' n' s'
  have p1 : 0 ≤ fracX l a n s * fracY l' s' := Int.mul_nonneg h1 (by omega)
  have p2 : fracX l a n s * fracY l' s' ≤ 1099511627776 * 64 := Int.mul_le_mul h2 k4 (by omega) (by omega)
  have q1 : 0 ≤ fracX l' a' n' s' * fracY l s := Int.mul_nonneg k1 (by omega)
  have q2 : fracX l' a' n' s' * fracY l s ≤ 1099511627776 * 64 := Int.mul_le_mul k2 h4 (by omega) (by omega)
  unfold above
  rw [IntKind.wrap_u64, IntKind.wrap_u64, Int.emod_eq_of_lt p1 (by omega), Int.emod_eq_of_lt q1 (by omega)]

theorem zero_frac : fracX 0 0 0 0 = 0 ∧ fracY 0 0 = 1 ∧ fracX 1 0 0 1 = 0 ∧ fracY 1 1 = 2 := by decide

def fx (live age : List AV) (now size : Int) (i : Nat) : Int := fracX (gI live i) (gI age i) now size
def fy (live : List AV) (size : Int) (i : Nat) : Int := fracY (gI live i) size

theorem fx_nonneg (live age : List AV) (now size : Int) (i : Nat) : 0 ≤ fx live age now size i := (frac_bounds _ _ _ _).1
theorem fy_pos (live : List AV) (size : Int) (i : Nat) : 0 < fy live size i := by have := (frac_bounds (gI live i) 0 0 size).2.2.1; unfold fy; omega

theorem cross {x y X Y x' y' : Int} (hy : 0 < y) (hY : 0 < Y) (hy' : 0 < y') (h1 : x * Y ≤ X * y) (h2 : X * y' < x' * Y) : x * y' < x' * y := by
  have e1 : x * y' * Y ≤ X * y' * y := by
    have := Int.mul_le_mul_of_nonneg_right h1 (Int.le_of_lt hy')
    have a1 : x * y' * Y = x * Y * y' := by ac_rfl
    have a2 : X * y' * y = X * y * y' := by ac_rfl
    rw [a1, a2]
    exact this
  have e2 : X * y' * y < x' * Y * y := Int.mul_lt_mul_of_pos_right h2 hy
  have e3 : x * y' * Y < x' * y * Y := by
    have a3 : x' * y * Y = x' * Y * y := by ac_rfl
    rw [a3]
    exact Int.lt_of_le_of_lt e1 e2
  exact Int.lt_of_mul_lt_mul_right e3 (Int.le_of_lt hY)

def Inv (live age : List AV) (now size : Int) (xs : List AV) (i : Nat) (best : Int) (any : Bool) (X Y : Int) : Prop :=
  (any = false ∧ best = 0 ∧ X = 0 ∧ ∀ s : Nat, s < i → lst xs s = false → fx live age now size s = 0) ∨
  (any = true ∧ ∃ b : Nat, best = b ∧ b < i ∧ lst xs b = false ∧ X = fx live age now size b ∧ Y = fy live size b ∧ 0 < X ∧
    (∀ s : Nat, s < i → lst xs s = false → fx live age now size s * Y ≤ X * fy live size s) ∧ (∀ s : Nat, s < b → lst xs s = false → fx live age now size s * Y < X * fy live size s))

theorem bestGo_spec (live age : List AV) (now size : Int) (xs : List AV) : ∀ (r i : Nat) (best : Int) (any : Bool) (l a c s : Int), Inv live age now size xs i best any (fracX l a c s) (fracY l s) →
    ∃ X Y, Inv live age now size xs (i + r) (bestGo live age now size xs r i best any l a c s).1 (bestGo live age now size xs r i best any l a c s).2 X Y
  | 0, i, best, any, l, a, c, s, h => ⟨_, _, h⟩
  | r + 1, i, best, any, l, a, c, s, h => by
    unfold bestGo
    have hY : 0 < fracY l s := by have := (frac_bounds l a c s).2.2.1; omega
    have hX : 0 ≤ fracX l a c s := (frac_bounds l a c s).1
    have hyi := fy_pos live size i
    have hxi := fx_nonneg live age now size i
    rw [above_eq]
    have hfx : fracX (gI live i) (gI age i) now size = fx live age now size i := rfl
    have hfy : fracY (gI live i) size = fy live size i := rfl
    have hlst : decide (idxF i xs 0 ≥ 0) = lst xs i := rfl
    rw [hfx, hfy, hlst]
    have hir : i + (r + 1) = (i + 1) + r := by omega
    rw [hir]
    split
    · rename_i hc
      simp only [Bool.and_eq_true, Bool.not_eq_true', decide_eq_true_eq] at hc
      obtain ⟨hl, hc⟩ := hc
      refine bestGo_spec live age now size xs r (i + 1) i true _ _ _ _ ?_
      rw [hfx, hfy]
      have hpos : 0 < fx live age now size i := by
        have h0 : 0 ≤ fracX l a c s * fy live size i := Int.mul_nonneg hX (Int.le_of_lt hyi)
        have h1 : 0 < fx live age now size i * fracY l s := Int.lt_of_le_of_lt h0 hc
        rcases Int.lt_or_le 0 (fx live age now size i) with h2 | h2
        · exact h2
        · have : fx live age now size i = 0 := by omega
          rw [this] at h1
          simp at h1
      have strict : ∀ s' : Nat, s' < i → lst xs s' = false → fx live age now size s' * fy live size i < fx live age now size i * fy live size s' := fun s' hs' hl' => by
        have hys := fy_pos live size s'
        rcases h with ⟨_, _, _, h3⟩ | ⟨_, b, _, _, _, _, _, _, h3, _⟩
        · rw [h3 s' hs' hl']
          simpa using Int.mul_pos hpos hys
        · exact cross hys hY hyi (h3 s' hs' hl') hc
      refine .inr ⟨rfl, i, rfl, by omega, hl, rfl, rfl, hpos, fun s' hs' hl' => ?_, strict⟩
      rcases Nat.lt_or_ge s' i with h4 | h4
      · exact Int.le_of_lt (strict s' h4 hl')
      · obtain rfl : s' = i := by omega
        exact Int.le_refl _
    · rename_i hc
      refine bestGo_spec live age now size xs r (i + 1) best any _ _ _ _ ?_
      have hle : lst xs i = false → fx live age now size i * fracY l s ≤ fracX l a c s * fy live size i := fun hl => by
        rw [hl] at hc
        simp only [Bool.not_false, Bool.true_and, decide_eq_true_eq] at hc
        omega
      rcases h with ⟨h1, h2, h3, h4⟩ | ⟨h1, b, h2, h3, h4, h5, h6, h7, h8, h9⟩
      · refine .inl ⟨h1, h2, h3, fun s' hs' hl' => ?_⟩
        rcases Nat.lt_or_ge s' i with h5 | h5
        · exact h4 s' h5 hl'
        · obtain rfl : s' = i := by omega
          have := hle hl'
          rw [h3] at this
          simp only [Int.zero_mul] at this
          rcases Int.lt_or_le 0 (fx live age now size s') with h6 | h6
          · have := Int.mul_pos h6 hY
            omega
          · omega
      · refine .inr ⟨h1, b, h2, by omega, h4, h5, h6, h7, fun s' hs' hl' => ?_, h9⟩
        rcases Nat.lt_or_ge s' i with h10 | h10
        · exact h8 s' h10 hl'
        · obtain rfl : s' = i := by omega
          exact hle hl'

theorem bestF_spec (live age : List AV) (now size : Int) (xs : List AV) : ∃ X Y, Inv live age now size xs (bestN live age) (bestF live age now size xs).1 (bestF live age now size xs).2 X Y := by
  have := bestGo_spec live age now size xs (bestN live age) 0 0 false 0 0 0 0 (.inl ⟨rfl, rfl, zero_frac.1, fun s hs => by omega⟩)
  simpa [bestF] using this

theorem bN_eq (live age : List AV) : bN live age = (bestN live age : Int) := by
  unfold bN bestN
  split <;> split <;> omega

theorem bestN_le (live age : List AV) : bestN live age ≤ live.length ∧ bestN live age ≤ age.length := by
  unfold bestN
  split <;> omega

theorem ab_eq (live age : List AV) (now size : Int) (i j : Nat) : ab live age now size i j = decide (fx live age now size j * fy live size i < fx live age now size i * fy live size j) := by
  unfold ab
  rw [above_eq]
  rfl

theorem abz_eq (live age : List AV) (now size : Int) (i : Nat) : abz live age now size i = decide (0 < fx live age now size i) := by
  unfold abz
  rw [above_eq, zero_frac.2.2.1, zero_frac.2.2.2]
  have h1 : fracX (gI live (i : Int).toNat) (gI age (i : Int).toNat) now size = fx live age now size i := rfl
  rw [h1, Int.zero_mul]
  congr 1
  exact propext ⟨fun h => by omega, fun h => by omega⟩

theorem inR_ok {live age : List AV} (h1 : okI .i64 live = true) (h2 : okI .u32 age = true) {i : Nat} (hi : i < bestN live age) : inR live age i = true := by
  have := bestN_le live age
  unfold inR
  simp only [Int.toNat_natCast]
  rw [okI_get h1 (by omega), okI_get h2 (by omega)]
  simp

theorem beq_ag {live age : List AV} (h1 : okI .i64 live = true) (h2 : okI .u32 age = true) (now size : Int) : (AG live age now size).beq (AG live age now size) = true := by
  simp [AV.beq, beqL, beqL_ints h1, beqL_ints h2]

theorem idxF_neg {v : Int} : ∀ {xs : List AV} {i : Nat}, idxF v xs i ≥ 0 ↔ ∃ x ∈ xs, x.toInt = v
  | [], i => by simp [idxF]
  | x :: r, i => by
    unfold idxF
    split
    · rename_i h
      rw [beq_iff_eq] at h
      constructor
      · intro _; exact ⟨x, List.mem_cons_self, h.symm⟩
      · intro _; omega
    · rename_i h
      have h' : ¬ v = x.toInt := by simpa using h
      have := idxF_neg (v := v) (xs := r) (i := i + 1)
      have e : ((i + 1 : Nat) : Int) = (i : Int) + 1 := by omega
      rw [e] at this
      rw [this]
      constructor
      · rintro ⟨y, hy, hv⟩; exact ⟨y, List.mem_cons_of_mem _ hy, hv⟩
      · rintro ⟨y, hy, hv⟩
        rcases List.mem_cons.1 hy with rfl | hy
        · exact absurd hv.symm h'
        · exact ⟨y, hy, hv⟩

theorem lst_iff {xs : List AV} {v : Int} : lst xs v = true ↔ ∃ x ∈ xs, x.toInt = v := by
  unfold lst
  rw [decide_eq_true_eq]
  exact idxF_neg (i := 0)

theorem okI_refless {k : IntKind} : ∀ {xs : List AV}, okI k xs = true → reflessL xs = true
  | [], _ => rfl
  | x :: xs, h => by
    simp only [okI, List.all_cons, Bool.and_eq_true] at h
    have hx : x.refless = true := by
      cases x <;> simp [AV.isIntK] at h
      rfl
    simp [reflessL, hx, okI_refless (xs := xs) (by simpa [okI] using h.2)]

theorem okI_flat {k : IntKind} {xs : List AV} (h : okI k xs = true) : (xs.all fun u => u.flatLen == 1) = true := by
  rw [List.all_eq_true]
  intro x hx
  have := List.all_eq_true.1 h x hx
  cases x <;> simp [AV.isIntK] at this
  rfl

theorem loopAi (fuel m : Nat) (live age : List AV) (now size : Int) (xs : List AV) (h1 : okI .i64 live = true) (h2 : okI .u32 age = true) (h3 : okI .i64 xs = true) (h4 : xs.length < 1000) (h5 : live.length < 1000)
    (hz : ∀ s : Nat, s < bestN live age → lst xs s = false → fx live age now size s = 0) :
    ∀ (r i n : Nat), i + r = bestN live age → r < n → r4a false fuel n (m + 1) (S4a live age now size (.isl 1 xs) 0 i) (fun v _ _ => v.isTrue) = true
  | r, i, 0, _, h => by omega
  | 0, i, n + 1, hi, _ => by
    rw [stepAi, bN_eq, decide_eq_false (by omega)]
    rfl
  | r + 1, i, n + 1, hi, hn => by
    have hb := bestN_lt (age := age) h5
    have ih := loopAi fuel m live age now size xs h1 h2 h3 h4 h5 hz r (i + 1) n (by omega) (by omega)
    rw [stepAi, bN_eq, decide_eq_true (by omega), wrap_small (by omega), inR_ok h1 h2 (by omega), abz_eq]
    have hok : okX xs = true := by simp [okX, h3, h4]
    rw [hok]
    simp only [cond_true]
    cases hl : lst xs i with
    | true => exact ih
    | false =>
      rw [hz i (by omega) hl]
      exact ih

theorem loopBi (fuel m : Nat) (live age : List AV) (now size : Int) (xs : List AV) (h1 : okI .i64 live = true) (h2 : okI .u32 age = true) (h3 : okI .i64 xs = true) (h4 : xs.length < 1000) (h5 : live.length < 1000) (h6 : xs.length < 900) 
    (b : Nat) (hb : b < bestN live age) (hmax : ∀ s : Nat, s < bestN live age → lst xs s = false → fx live age now size s * fy live size b ≤ fx live age now size b * fy live size s)
    (hstr : ∀ s : Nat, s < b → lst xs s = false → fx live age now size s * fy live size b < fx live age now size b * fy live size s) :
    ∀ (r i n : Nat), i + r = bestN live age → r < n → r4b false fuel n (m + 1) (S4b live age now size (.isl 1 xs) b i) (fun v _ _ => v.isTrue) = true
  | r, i, 0, _, h => by omega
  | 0, i, n + 1, hi, _ => by
    rw [stepBi, bN_eq, decide_eq_false (by omega)]
    simp only [cond_false]
    have hL : List.take (0 + xs.length + 1) (List.drop 0 (([] ++ xs) ++ [AV.int .i64 (b : Int)])) = xs ++ [AV.int .i64 (b : Int)] := by
      rw [List.drop_zero, List.nil_append]
      exact List.take_of_length_le (by simp)
    have hokL : okI .i64 (xs ++ [AV.int .i64 (b : Int)]) = true := by
      simp only [okI, List.all_append, Bool.and_eq_true]
      exact ⟨h3, rfl⟩
    rw [hL, okI_refless h3, okI_flat h3, okI_refless hokL, beq_ag h1 h2]
    have c1 : decide ((0 + xs.length) * 8 ≤ maxBytes) = true := decide_eq_true (by unfold maxBytes; omega)
    have c2 : decide (0 + xs.length ≤ maxBytes) = true := decide_eq_true (by unfold maxBytes; omega)
    have c3 : decide (1 * ([] ++ xs).length = 1 * (0 + xs.length)) = true := decide_eq_true (by simp)
    have c4 : decide (([] ++ xs).length = 0 + xs.length) = true := decide_eq_true (by simp)
    have c6 : decide ((0 + xs.length + 1) * 8 ≤ maxBytes) = true := decide_eq_true (by unfold maxBytes; omega)
    have c7 : decide (0 + xs.length + 1 ≤ maxBytes) = true := decide_eq_true (by unfold maxBytes; omega)
    have c8 : decide (1 * (([] ++ xs) ++ [AV.int .i64 (b : Int)]).length = 1 * (0 + xs.length + 1)) = true := decide_eq_true (by simp)
    have c9 : decide ((([] ++ xs) ++ [AV.int .i64 (b : Int)]).length = 0 + xs.length + 1) = true := decide_eq_true (by simp)
    have c10 : decide (0 + (0 + xs.length + 1) ≤ 0 + xs.length + 1) = true := decide_eq_true (by omega)
    have c11 : okB live age (xs ++ [AV.int .i64 (b : Int)]) = true := by
      simp only [okB, h1, h2, hokL, Bool.true_and, Bool.and_eq_true, decide_eq_true_eq, List.length_append, List.length_singleton]
      omega
    simp only [c1, c2, c3, c4, c6, c7, c8, c9, c10, c11, cond_true, decide_true, Bool.true_and, Nat.zero_lt_one]
    obtain ⟨X, Y, hinv⟩ := bestF_spec live age now size (xs ++ [AV.int .i64 (b : Int)])
    rcases hinv with ⟨e1, _⟩ | ⟨e1, j, e2, e3, e4, _⟩
    · rw [e1]
      rfl
    · rw [e1, e2]
      have hne : j ≠ b := fun e => by
        subst e
        have : lst (xs ++ [AV.int .i64 (j : Int)]) j = true := lst_iff.2 ⟨_, List.mem_append.2 (.inr (List.mem_singleton.2 rfl)), rfl⟩
        rw [e4] at this
        cases this
      have hlj : lst xs j = false := by
        cases hq : lst xs j with
        | false => rfl
        | true =>
          obtain ⟨x, hx, hv⟩ := lst_iff.1 hq
          have : lst (xs ++ [AV.int .i64 (b : Int)]) j = true := lst_iff.2 ⟨x, List.mem_append.2 (.inl hx), hv⟩
          rw [e4] at this
          cases this
      have hne' : ((j : Int) != (b : Int)) = true := by
        rw [bne_iff_ne]
        omega
      rw [hne', decide_eq_true (by omega : (j : Int) ≥ 0), decide_eq_true (by omega : (j : Int) < (bestN live age : Int)), inR_ok h1 h2 e3, inR_ok h1 h2 hb, ab_eq]
      rw [decide_eq_false (by have := hmax j e3 hlj; omega)]
      rfl
  | r + 1, i, n + 1, hi, hn => by
    have hbn := bestN_lt (age := age) h5
    have ih := loopBi fuel m live age now size xs h1 h2 h3 h4 h5 h6 b hb hmax hstr r (i + 1) n (by omega) (by omega)
    rw [stepBi, bN_eq, decide_eq_true (by omega), wrap_small (by omega), inR_ok h1 h2 (by omega), inR_ok h1 h2 hb, ab_eq, ab_eq, beq_ag h1 h2]
    have hok : okX xs = true := by simp [okX, h3, h4]
    rw [hok]
    simp only [cond_true]
    cases hl : lst xs i with
    | true => exact ih
    | false =>
      cases hk : ((i : Int) == (b : Int)) with
      | true => exact ih
      | false =>
        have h7 := hmax i (by omega) hl
        rw [decide_eq_false (by omega : ¬ fx live age now size b * fy live size i < fx live age now size i * fy live size b)]
        simp only [cond_false]
        cases hlt : decide ((i : Int) < (b : Int)) with
        | false => exact ih
        | true =>
          simp only [decide_eq_true_eq] at hlt
          have h8 := hstr i (by omega) hl
          rw [decide_eq_true h8]
          exact ih

theorem lawi (live age : List AV) (now size : Int) (xs : List AV) (h1 : okI .i64 live = true) (h2 : okI .u32 age = true) (h3 : okI .i64 xs = true) : evalTK false Try.prog U ann 1000 T8 60 4 [AG live age now size, (.isl 1 xs)] [] (fun v _ _ => v.isTrue) = true := by
  refine (start4i false 1000 58 live age now size xs _).trans ?_
  cases g1 : decide ((live.length : Int) > 40) with
  | true => rfl
  | false =>
  cases g2 : decide ((age.length : Int) > 40) with
  | true => rfl
  | false =>
  cases g3 : decide ((xs.length : Int) > 40) with
  | true => rfl
  | false =>
  simp only [decide_eq_false_iff_not] at g1 g2 g3
  have hok : okB live age xs = true := by
    simp only [okB, h1, h2, h3, Bool.true_and, Bool.and_eq_true, decide_eq_true_eq]
    omega
  rw [hok]
  simp only [cond_true, cond_false]
  have hb5 := bestN_lt (live := live) (age := age) (by omega)
  obtain ⟨X, Y, hinv⟩ := bestF_spec live age now size xs
  rcases hinv with ⟨e1, e2, e3, e4⟩ | ⟨e1, b, e2, e3, e4, e5, e6, e7, e8, e9⟩
  · rw [e1, e2]
    exact loopAi 1000 58 live age now size xs h1 h2 h3 (by omega) (by omega) e4 (bestN live age) 0 1000 (by omega) (by omega)
  · rw [e1, e2, bN_eq, decide_eq_false (by omega : ¬ (b : Int) < 0), decide_eq_false (by omega : ¬ (b : Int) ≥ (bestN live age : Int)), inR_ok h1 h2 e3, abz_eq]
    subst e5 e6
    rw [decide_eq_true e7]
    have hok : okX xs = true := by simp only [okX, h3, Bool.true_and, decide_eq_true_eq]; omega
    rw [hok, e4]
    exact loopBi 1000 58 live age now size xs h1 h2 h3 (by omega) (by omega) (by omega) b e3 e8 e9 (bestN live age) 0 1000 (by omega) (by omega)

theorem loopAn (fuel m : Nat) (live age : List AV) (now size : Int) (h1 : okI .i64 live = true) (h2 : okI .u32 age = true) (h5 : live.length < 1000)
    (hz : ∀ s : Nat, s < bestN live age → lst [] s = false → fx live age now size s = 0) :
    ∀ (r i n : Nat), i + r = bestN live age → r < n → r4a false fuel n (m + 1) (S4a live age now size .nils 0 i) (fun v _ _ => v.isTrue) = true
  | r, i, 0, _, h => by omega
  | 0, i, n + 1, hi, _ => by
    rw [stepAn, bN_eq, decide_eq_false (by omega)]
    rfl
  | r + 1, i, n + 1, hi, hn => by
    have hb := bestN_lt (age := age) h5
    have ih := loopAn fuel m live age now size h1 h2 h5 hz r (i + 1) n (by omega) (by omega)
    rw [stepAn, bN_eq, decide_eq_true (by omega), wrap_small (by omega), inR_ok h1 h2 (by omega), abz_eq]
    rw [hz i (by omega) rfl]
    exact ih

theorem loopBn (fuel m : Nat) (live age : List AV) (now size : Int) (h1 : okI .i64 live = true) (h2 : okI .u32 age = true) (h5 : live.length < 1000) 
    (b : Nat) (hb : b < bestN live age) (hmax : ∀ s : Nat, s < bestN live age → lst [] s = false → fx live age now size s * fy live size b ≤ fx live age now size b * fy live size s)
    (hstr : ∀ s : Nat, s < b → lst [] s = false → fx live age now size s * fy live size b < fx live age now size b * fy live size s) :
    ∀ (r i n : Nat), i + r = bestN live age → r < n → r4b false fuel n (m + 1) (S4b live age now size .nils b i) (fun v _ _ => v.isTrue) = true
  | r, i, 0, _, h => by omega
  | 0, i, n + 1, hi, _ => by
    rw [stepBn, bN_eq, decide_eq_false (by omega)]
    simp only [cond_false]
    have c11 : okB live age [AV.int .i64 (b : Int)] = true := by
      simp only [okB, h1, h2, Bool.true_and, Bool.and_eq_true, decide_eq_true_eq, List.length_singleton]
      exact ⟨⟨rfl, by omega⟩, h5⟩
    rw [c11, beq_ag h1 h2]
    simp only [cond_true]
    obtain ⟨X, Y, hinv⟩ := bestF_spec live age now size [AV.int .i64 (b : Int)]
    rcases hinv with ⟨e1, _⟩ | ⟨e1, j, e2, e3, e4, _⟩
    · rw [e1]
      rfl
    · rw [e1, e2]
      have hne : j ≠ b := fun e => by
        subst e
        have : lst [AV.int .i64 (j : Int)] j = true := lst_iff.2 ⟨_, List.mem_singleton.2 rfl, rfl⟩
        rw [e4] at this
        cases this
      have hlj : lst [] j = false := rfl
      have hne' : ((j : Int) != (b : Int)) = true := by
        rw [bne_iff_ne]
        omega
      rw [hne', decide_eq_true (by omega : (j : Int) ≥ 0), decide_eq_true (by omega : (j : Int) < (bestN live age : Int)), inR_ok h1 h2 e3, inR_ok h1 h2 hb, ab_eq]
      rw [decide_eq_false (by have := hmax j e3 hlj; omega)]
      rfl
  | r + 1, i, n + 1, hi, hn => by
    have hbn := bestN_lt (age := age) h5
    have ih := loopBn fuel m live age now size h1 h2 h5 b hb hmax hstr r (i + 1) n (by omega) (by omega)
    rw [stepBn, bN_eq, decide_eq_true (by omega), wrap_small (by omega), inR_ok h1 h2 (by omega), inR_ok h1 h2 hb, ab_eq, ab_eq, beq_ag h1 h2]
    simp only [cond_true]
    cases hk : ((i : Int) == (b : Int)) with
    | true => exact ih
    | false =>
      have h7 := hmax i (by omega) rfl
      rw [decide_eq_false (by omega : ¬ fx live age now size b * fy live size i < fx live age now size i * fy live size b)]
      simp only [cond_false]
      cases hlt : decide ((i : Int) < (b : Int)) with
      | false => exact ih
      | true =>
        simp only [decide_eq_true_eq] at hlt
        have h8 := hstr i (by omega) rfl
        rw [decide_eq_true h8]
        exact ih

theorem lawn (live age : List AV) (now size : Int) (h1 : okI .i64 live = true) (h2 : okI .u32 age = true) : evalTK false Try.prog U ann 1000 T8 60 4 [AG live age now size, .nils] [] (fun v _ _ => v.isTrue) = true := by
  refine (start4n false 1000 58 live age now size _).trans ?_
  cases g1 : decide ((live.length : Int) > 40) with
  | true => rfl
  | false =>
  cases g2 : decide ((age.length : Int) > 40) with
  | true => rfl
  | false =>
  simp only [decide_eq_false_iff_not] at g1 g2
  have hok : okB live age [] = true := by
    simp only [okB, h1, h2, Bool.true_and, Bool.and_eq_true, decide_eq_true_eq]
    exact ⟨⟨rfl, by decide⟩, by omega⟩
  rw [hok]
  simp only [cond_true, cond_false]
  have hb5 := bestN_lt (live := live) (age := age) (by omega)
  obtain ⟨X, Y, hinv⟩ := bestF_spec live age now size []
  rcases hinv with ⟨e1, e2, e3, e4⟩ | ⟨e1, b, e2, e3, e4, e5, e6, e7, e8, e9⟩
  · rw [e1, e2]
    exact loopAn 1000 58 live age now size h1 h2 (by omega) e4 (bestN live age) 0 1000 (by omega) (by omega)
  · rw [e1, e2, bN_eq, decide_eq_false (by omega : ¬ (b : Int) < 0), decide_eq_false (by omega : ¬ (b : Int) ≥ (bestN live age : Int)), inR_ok h1 h2 e3, abz_eq]
    subst e5 e6
    rw [decide_eq_true e7]
    exact loopBn 1000 58 live age now size h1 h2 (by omega) b e3 e8 e9 (bestN live age) 0 1000 (by omega) (by omega)

def S4z (live : List AV) (now size : Int) (nots : AV) (i : Int) : St :=
  ⟨[(0, .bad), (1, nots), (2, .ptr ⟨0, 0, [], 4⟩), (4, .bad), (5, .int .i64 0), (6, .bad), (7, .int .i64 (if (0 : Int) < (live.length : Int) then (0 : Int) else (live.length : Int))), (8, .int .i64 i), (9, .bad), (10, .bad), (11, .bad), (26, .bad), (42, .bad), (45, .bad), (58, .bad), (83, .bad), (86, .bad), (96, .bad), (118, .bad)], [],
   [some ⟨.agg 4 [.isl 1 live, .nils, .int .u32 now, .int .i64 size], false, true⟩], false⟩
theorem law_ini (fuel : Nat) (live : List AV) (xs : List AV) (now size : Int) : evalTK false Try.prog U ann (fuel + 1) T8 60 4 [.agg 4 [.isl 1 live, .nils, .int .u32 now, .int .i64 size], .isl 1 xs] [] (fun v _ _ => v.isTrue) =
    (cond (decide ((live.length : Int) > 40)) true (cond (decide ((xs.length : Int) > 40)) true (cond (decide ((0 : Int) < (if (0 : Int) < (live.length : Int) then (0 : Int) else (live.length : Int)))) (cond (okX xs) (cond (!(lst xs 0)) false (r4a false (fuel + 1) fuel 59 (S4z live now size (.isl 1 xs) (IntKind.i64.wrap (0 + 1))) (fun v _ _ => v.isTrue))) false) true))) := by kernel_rfl
theorem law_inn (live : List AV) (now size : Int) : evalTK false Try.prog U ann 1000 T8 60 4 [.agg 4 [.isl 1 live, .nils, .int .u32 now, .int .i64 size], .nils] [] (fun v _ _ => v.isTrue) =
    (cond (decide ((live.length : Int) > 40)) true (cond (decide ((0 : Int) < (if (0 : Int) < (live.length : Int) then (0 : Int) else (live.length : Int)))) false true)) := by kernel_rfl
theorem law_nii (age : List AV) (xs : List AV) (now size : Int) : evalTK false Try.prog U ann 1000 T8 60 4 [.agg 4 [.nils, .isl 1 age, .int .u32 now, .int .i64 size], .isl 1 xs] [] (fun v _ _ => v.isTrue) =
    (cond (decide ((age.length : Int) > 40)) true (cond (decide ((xs.length : Int) > 40)) true true)) := by kernel_rfl
theorem law_nin (age : List AV) (now size : Int) : evalTK false Try.prog U ann 1000 T8 60 4 [.agg 4 [.nils, .isl 1 age, .int .u32 now, .int .i64 size], .nils] [] (fun v _ _ => v.isTrue) =
    (cond (decide ((age.length : Int) > 40)) true true) := by kernel_rfl
theorem law_nni (xs : List AV) (now size : Int) : evalTK false Try.prog U ann 1000 T8 60 4 [.agg 4 [.nils, .nils, .int .u32 now, .int .i64 size], .isl 1 xs] [] (fun v _ _ => v.isTrue) =
    (cond (decide ((xs.length : Int) > 40)) true true) := by kernel_rfl
theorem law_nnn (now size : Int) : evalTK false Try.prog U ann 1000 T8 60 4 [.agg 4 [.nils, .nils, .int .u32 now, .int .i64 size], .nils] [] (fun v _ _ => v.isTrue) =
    true := by kernel_rfl

/-! The shell -/
open Go.ChangeShapes Go.WideShapes Go.ChangeAt Go.RowKit
theorem wt_ints {P : Program} {k : Nat} {t e : TypeId} {i : IntKind} {v : AV} (hu : P.underlying t = some (.slice e)) (hc : P.cellsOf e = 1) (he : P.underlying e = some (.int i)) (h : WT P (k + 2) t v) :
    v = .nils ∨ ∃ xs, v = .isl 1 xs ∧ okI i xs = true := by
  rcases WT.slice hu hc h with h | ⟨xs, rfl, _, hx⟩
  · exact .inl h
  · refine .inr ⟨xs, rfl, ?_⟩
    rw [okI, List.all_eq_true]
    intro x hm
    obtain ⟨n, rfl, _⟩ := WT.int he (hx x hm)
    simp [AV.isIntK]

set_option maxRecDepth 100000 in
theorem wt29 {v : AV} (h : WT Try.prog 4 29 v) : ∃ A B now size, v = .agg 4 [A, B, .int .u32 now, .int .i64 size] ∧ (A = .nils ∨ ∃ xs, A = .isl 1 xs ∧ okI .i64 xs = true) ∧ (B = .nils ∨ ∃ xs, B = .isl 1 xs ∧ okI .u32 xs = true) := by
  obtain ⟨ps, rfl, g⟩ := WT.struct (k := 3) Try.underlying29 (n := 4) (by kernel_rfl) h
  clear h
  obtain ⟨p0, r0, rfl, h0, g0⟩ := all2_cons g
  obtain ⟨p1, r1, rfl, h1, g1⟩ := all2_cons g0
  obtain ⟨p2, r2, rfl, h2, g2⟩ := all2_cons g1
  obtain ⟨p3, r3, rfl, h3, g3⟩ := all2_cons g2
  obtain rfl := all2_nil g3
  obtain ⟨a2, rfl, _⟩ := WT.int (k := 2) Try.underlying27 h2
  obtain ⟨a3, rfl, _⟩ := WT.int (k := 2) Try.underlying3 h3
  exact ⟨p0, p1, a2, a3, rfl, wt_ints (k := 1) Try.underlying22 (by kernel_rfl) Try.underlying3 h0, wt_ints (k := 1) Try.underlying26 (by kernel_rfl) Try.underlying27 h1⟩

theorem own : ownKnob Try.prog.godebug = none := by kernel_rfl
theorem laidOut : laidOutB Try.prog = true := by kernel_rfl

theorem no_cond {live : List AV} : decide ((0 : Int) < (if (0 : Int) < (live.length : Int) then (0 : Int) else (live.length : Int))) = false := decide_eq_false (by split <;> omega)

theorem run4 (A B N : AV) (now size : Int) (hA : A = .nils ∨ ∃ xs, A = .isl 1 xs ∧ okI .i64 xs = true) (hB : B = .nils ∨ ∃ xs, B = .isl 1 xs ∧ okI .u32 xs = true) (hN : N = .nils ∨ ∃ xs, N = .isl 1 xs ∧ okI .i64 xs = true) :
    evalTK false Try.prog U ann 1000 T8 60 4 [.agg 4 [A, B, .int .u32 now, .int .i64 size], N] [] (fun v _ _ => v.isTrue) = true := by
  rcases hA with rfl | ⟨live, rfl, h1⟩ <;> rcases hB with rfl | ⟨age, rfl, h2⟩ <;> rcases hN with rfl | ⟨xs, rfl, h3⟩
  · exact law_nnn now size
  · refine (law_nni xs now size).trans ?_
    cases decide ((xs.length : Int) > 40) <;> rfl
  · refine (law_nin age now size).trans ?_
    cases decide ((age.length : Int) > 40) <;> rfl
  · refine (law_nii age xs now size).trans ?_
    cases decide ((age.length : Int) > 40) <;> cases decide ((xs.length : Int) > 40) <;> rfl
  · refine (law_inn live now size).trans ?_
    rw [no_cond]
    cases decide ((live.length : Int) > 40) <;> rfl
  · refine (law_ini 999 live xs now size).trans ?_
    rw [no_cond]
    cases decide ((live.length : Int) > 40) <;> cases decide ((xs.length : Int) > 40) <;> rfl
  · exact lawn live age now size h1 h2
  · exact lawi live age now size xs h1 h2 h3

set_option maxRecDepth 100000 in
noncomputable def best : Law Try.prog 4 Try.f4.params.toList 4 where
  U := U
  ann := ann
  fuel := 1000
  n := 60
  K := pureK (kOf T8)
  sound := F8.ok
  ext := extU
  mixed := mixed
  annOk := hA
  run := by
    rw [Try.params4]
    intro vs g
    obtain ⟨v, us, rfl, g0, g1⟩ := all2_cons g
    obtain ⟨N, us', rfl, g2, g3⟩ := all2_cons g1
    obtain rfl := all2_nil g3
    obtain ⟨A, B, now, size, rfl, hA', hB'⟩ := wt29 g0
    exact run_of_trueT (run4 A B N now size hA' hB' (wt_ints (k := 2) Try.underlying22 (by kernel_rfl) Try.underlying3 g2))

set_option maxRecDepth 100000 in
theorem lifted (os : Os) (started : os.Started) (H : Type) (enc : TypeId × Value → H) :
    ReturnsInHanded {} Try.checked os 4 .any (Rows.victimBestSpec.pre6 enc Try.prog Try.f4 Rows.victimBestRow.domain false) (Rows.victimBestSpec.post enc Try.prog Try.f4 false true false false) := by
  refine Law.lifted (C := Try.checked) (b := 4) (k := 4) best (fun W g v h => by cases h) own started (by kernel_rfl) Try.func4
    (ChangeSpec.witness6 (enc := enc) (C := Try.checked) false ⟨#[], #[.agg #[.slice none 0 0, .slice none 0 0, .int .u32 0, .int .i64 0], .slice none 0 0], []⟩ 8 (by kernel_rfl) (by kernel_rfl) (by kernel_rfl) (by kernel_rfl))
    (by kernel_rfl) Try.underlying4 laidOut (by kernel_rfl) rfl ?_
  intro ds hds
  match ds, hds with
  | [d, d'], _ => rfl

theorem over : Rows.victimBestRow.holds Try.pinned (OpenSpec.ofChange Rows.victimBestSpec) :=
  OpenClaim.holds_of_wide 4 Try.f4 rfl rfl rfl rfl rfl rfl rfl ⟨rfl, rfl, rfl, rfl, rfl⟩ rfl rfl rfl rfl rfl (by kernel_rfl) Try.func4 (by kernel_rfl)
    (of_decide_eq_true (by kernel_rfl)) (by unfold Func.isWrapper; first | (rw [if_pos (by decide +kernel)]; kernel_rfl) | (rw [if_neg (by decide +kernel)]; exact ⟨rfl, rfl⟩))
    (fun os started H enc _ => lifted os started H enc)

/-- ████ THE STATEMENT ████ -/
theorem victimBest_proved : Rows.VictimBestSaid := over
#print axioms victimBest_proved
end Go.Proofs.Ytiiddampachhlaa
