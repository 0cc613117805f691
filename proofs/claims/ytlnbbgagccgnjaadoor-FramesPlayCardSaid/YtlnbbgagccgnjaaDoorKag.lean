/-
  Functions told by what holds of their results: tables of statements, each call on its own piece of memory, or on values alone.
-/
import Derived.Test.YtlnbbgagccgnjaaDoorKaf
import Derived.Shelf.Small.Bits
import Derived.Shelf.Strconv.Itoa0
import Derived.Shelf.Sort.Plain
import Derived.Ground.Names2Prog
import Derived.Shelf.Slices.SearchI
import Derived.Shelf.Slices.In.SortNone
import Derived.Test.YtlnbbgagccgnjaaDoorProg

namespace Go.X
open Classical

theorem Le.ofImp {a b : Prop} (h : a → b) : Le False a b := by
  by_cases ha : a
  · exact .inr (propext ⟨h, fun _ => ha⟩)
  · exact .inl (propext ⟨ha, False.elim⟩)

/-- What is asked, so that a call's results are as is wanted. -/
abbrev PT := List AV → Heap → (AV → Heap → Bool → Prop) → Prop

/-- What runs: the program, what lies about it, its notes, how often loops go round, how each function's calls are told (0: gone through where they stand, 1: on their piece of memory, 2: on values alone, 3: given), what is given. -/
structure Setg where
  P : Program
  U : Out
  ann : FuncId → FAnn
  fu : Nat
  mode : FuncId → Nat
  K0 : Oracle

structure Setg.Ok (S : Setg) : Prop where
  ext : ∀ B, ExtSound S.P B S.U.X
  mixed : S.P.follows .mixedOrders = true
  annOk : ∀ f, funcOk S.P (S.ann f) f = true
  given : ∀ B, OracleSound S.P B S.U.G S.K0

/-- A call on values alone. -/
def valF (F : Oracle) : Oracle := fun f args H => (snapL H args).bind fun xs => (F f xs []).bind fun r => if r.1.cleanR then some (r.1, H, false) else none

/-- Calls, no deeper than so, each in its way. -/
def evalL (S : Setg) : Nat → Oracle
  | 0 => fun f args H => match S.mode f with
    | 3 => S.K0 f args H
    | _ => none
  | n + 1 => fun f args H => match S.mode f with
    | 0 => evalF S.P S.U S.ann S.fu (evalL S n) f args H
    | 1 => locF (evalF S.P S.U S.ann S.fu (evalL S n)) f args H
    | 2 => valF (evalF S.P S.U S.ann S.fu (evalL S n)) f args H
    | _ => S.K0 f args H

theorem valF_sound {P : Program} {U : Out} {F : Oracle} (hF : ∀ B, OracleSound P B U.G F) (B : Nat) : OracleSound P B U.G (valF F) := by
  intro f args H v H' e h E w cargs hs hG hl hv
  unfold valF at h
  simp only [Option.bind_eq_some_iff] at h
  obtain ⟨xs, hxs, ⟨v', H1, e1⟩, hf, h⟩ := h
  simp only at h
  split at h
  · rename_i hc
    simp only [Option.some.injEq, Prod.mk.injEq] at h
    obtain ⟨rfl, rfl, rfl⟩ := h
    obtain ⟨k1, k2⟩ := snapL_ok hs hxs hl hv
    have hG' : GlobOk U.G (Env.start w) := fun g u hu => by
      obtain ⟨cs, h1, h2⟩ := (show PR E (.iptr u) _ from hG g u hu)
      refine VR.of_PR (v := .iptr u) ⟨cs, h1.toStart hs ?_, h2⟩
      cases h1 with
      | iptr h3 _ _ _ => simp [reflessL, AV.refless]
    refine (hF w.heap.size f xs [] v' H1 e1 hf (Env.start w) w cargs (Sim.start w) hG' k1 k2).mono ?_
    rintro en w' ⟨c, E', rfl, hr⟩
    have hb := hr.tr.below
    exact ⟨c, E, rfl, ⟨hs.stays hb, hr.val.ofClean hc, Tr.stays hs hb, Nat.le_refl _, fun _ => Sub.refl _ _⟩⟩
  · cases h

theorem evalL_ok {S : Setg} (hS : S.Ok) : ∀ (n B : Nat), OracleSound S.P B S.U.G (evalL S n)
  | 0, B => fun f args H v H' e h => by
    unfold evalL at h
    split at h
    · exact hS.given B f args H v H' e h
    · cases h
  | n + 1, B => fun f args H v H' e h => by
    unfold evalL at h
    have hF : ∀ B, OracleSound S.P B S.U.G (evalF S.P S.U S.ann S.fu (evalL S n)) := fun B => evalF_ok (evalL_ok hS n B) (hS.ext B) hS.mixed hS.annOk
    split at h
    · exact hF B f args H v H' e h
    · exact loc_sound hF B f args H v H' e h
    · exact valF_sound hF B f args H v H' e h
    · exact hS.given B f args H v H' e h

/-- A told call, as it is asked for. -/
def callP (m : Nat) (t : PT) (args : List AV) (H : Heap) (k : AV → Heap → Bool → Prop) : Prop := match m with
  | 1 => cond (okSL args) (match (reach H 0 1000 (refsSL args) []).map List.reverse with
    | some p => t (renSL (idx p) args) (pieceH p H) fun v H1 e => cond v.okS (k (v.renS (backN p H.length)) (backH p H H1) e) False
    | none => False) False
  | 2 => snapLK False H args fun xs => t xs [] fun v _ _ => cond v.cleanR (k v H false) False
  | 3 => t args H k
  | _ => False

def evalPS (S : Setg) (T : FuncId → Option PT) (N : Nat) : Nat → OracleK Prop
  | 0 => fun _ _ _ _ => False
  | n + 1 => fun f args H k => match T f with
    | some t => callP (S.mode f) t args H k
    | none => match S.mode f with
      | 0 => evalFP S.P S.U S.ann S.fu (evalL S (n + N)) (evalPS S T N n) f args H k
      | _ => False

/-- What is told is so. -/
def PTab (S : Setg) (T : FuncId → Option PT) (N : Nat) : Prop := ∀ f t, T f = some t → ∀ n, N ≤ n → ∀ args H k, t args H k → match S.mode f with
  | 3 => (S.K0 f args H).elim False fun r => k r.1 r.2.1 r.2.2
  | _ => (evalF S.P S.U S.ann S.fu (evalL S n) f args H).elim False fun r => k r.1 r.2.1 r.2.2

theorem PTab.mono {S : Setg} {T : FuncId → Option PT} {N N' : Nat} (h : PTab S T N) (hN : N ≤ N') : PTab S T N' := fun f t ht n hn => h f t ht n (by omega)

/-- A call on its piece, as it is asked for. -/
theorem callP1_imp {F : Oracle} {f : FuncId} {t : PT} (ht : ∀ args H k, t args H k → (F f args H).elim False fun r => k r.1 r.2.1 r.2.2) {args : List AV} {H : Heap} {k : AV → Heap → Bool → Prop}
    (h : callP 1 t args H k) : (locF F f args H).elim False fun r => k r.1 r.2.1 r.2.2 := by
  unfold callP at h
  simp only at h
  obtain ⟨ha, h⟩ := cond_imp h
  rw [((okS_both id).2 _ ha).2] at h
  unfold locF pieceOf
  cases hp : (reach H 0 1000 (refsL args) []).map List.reverse with
  | none => rw [hp] at h; exact h.elim
  | some p =>
    rw [hp] at h
    simp only [Option.bind_some] at h ⊢
    rw [((okS_both (idx p)).2 _ ha).1] at h
    have h1 := ht _ _ _ h
    cases hr : F f (renL (idx p) args) (pieceH p H) with
    | none => rw [hr] at h1; exact h1.elim
    | some r =>
      rw [hr] at h1
      simp only [Option.elim_some, Option.map_some] at h1 ⊢
      obtain ⟨hv, h1⟩ := cond_imp h1
      rw [((okS_both (backN p H.length)).1 _ hv).1] at h1
      exact h1
theorem callP_imp {S : Setg} {T : FuncId → Option PT} {N n : Nat} (hT : PTab S T N) (hn : N ≤ n) {f : FuncId} {t : PT} (ht : T f = some t) {args : List AV} {H : Heap} {k : AV → Heap → Bool → Prop}
    (h : callP (S.mode f) t args H k) : (evalL S (n + 1) f args H).elim False fun r => k r.1 r.2.1 r.2.2 := by
  have hs := hT f t ht n hn
  unfold evalL
  unfold callP at h
  split at h
  · rename_i hm
    rw [hm] at hs ⊢
    simp only at hs ⊢
    obtain ⟨ha, h⟩ := cond_imp h
    rw [((okS_both id).2 _ ha).2] at h
    unfold locF pieceOf
    cases hp : (reach H 0 1000 (refsL args) []).map List.reverse with
    | none => rw [hp] at h; exact h.elim
    | some p =>
      rw [hp] at h
      simp only [Option.bind_some] at h ⊢
      rw [((okS_both (idx p)).2 _ ha).1] at h
      have h1 := hs _ _ _ h
      cases hr : evalF S.P S.U S.ann S.fu (evalL S n) f (renL (idx p) args) (pieceH p H) with
      | none => rw [hr] at h1; exact h1.elim
      | some r =>
        rw [hr] at h1
        simp only [Option.elim_some, Option.map_some] at h1 ⊢
        obtain ⟨hv, h1⟩ := cond_imp h1
        rw [((okS_both (backN p H.length)).1 _ hv).1] at h1
        exact h1
  · rename_i hm
    rw [hm] at hs ⊢
    simp only at hs ⊢
    have h1 := (snapLK_le False H args _).imp h
    unfold valF
    cases hx : snapL H args with
    | none => rw [hx] at h1; exact h1.elim
    | some xs =>
      rw [hx] at h1
      simp only [Option.elim_some, Option.bind_some] at h1 ⊢
      have h2 := hs _ _ _ h1
      cases hr : evalF S.P S.U S.ann S.fu (evalL S n) f xs [] with
      | none => rw [hr] at h2; exact h2.elim
      | some r =>
        rw [hr] at h2
        simp only [Option.elim_some, Option.bind_some] at h2 ⊢
        obtain ⟨hv, h2⟩ := cond_imp h2
        rw [if_pos hv]
        exact h2
  · rename_i hm
    rw [hm] at hs ⊢
    simp only at hs ⊢
    exact hs _ _ _ h
  · exact h.elim

theorem evalPS_le {S : Setg} {T : FuncId → Option PT} {N : Nat} (hT : PTab S T N) : ∀ (n : Nat) (f : FuncId) (args : List AV) (H : Heap) (k : AV → Heap → Bool → Prop), Le False (evalPS S T N n f args H k) (KOf False (evalL S (n + N)) f args H k)
  | 0, f, args, H, k => .inl rfl
  | n + 1, f, args, H, k => Le.ofImp fun h => by
    unfold evalPS at h
    unfold KOf
    rw [show n + 1 + N = n + N + 1 by omega]
    cases ht : T f with
    | some t =>
      rw [ht] at h
      exact callP_imp hT (by omega) ht h
    | none =>
      rw [ht] at h
      simp only at h
      split at h
      · rename_i hm
        unfold evalL
        rw [hm]
        exact evalFP_imp (evalPS_le hT n) f args H k h
      · exact h.elim

/-- A function's text, with a table. -/
def runP (S : Setg) (T : FuncId → Option PT) (N D : Nat) (fuel : Nat) : OracleK Prop := evalFP S.P S.U S.ann fuel (evalL S (D + N)) (evalPS S T N D)
/-- .. inside loops. -/
def resPS (S : Setg) (T : FuncId → Option PT) (N D : Nat) (fuel : Nat) (f : FuncId) (nargs n0 : Nat) (q : List (List Bool × Nat)) (p : List Bool) (n : Nat) (s : St) (k : AV → Heap → Bool → Prop) : Prop :=
  resumeFP S.P S.U S.ann fuel (evalL S (D + N)) (evalPS S T N D) f nargs n0 q p n s k

theorem PTab.none {S : Setg} : PTab S (fun _ => Option.none) 0 := fun _ _ h => by cases h

/-- One function more. -/
theorem PTab.add {S : Setg} {T : FuncId → Option PT} {N : Nat} (hT : PTab S T N) {g : FuncId} {t : PT} (D : Nat) (hm : (S.mode g == 3) = false)
    (h : ∀ N', N ≤ N' → ∀ args H k, t args H k → runP S T N' D S.fu g args H k) : PTab S (fun f => if f = g then some t else T f) (D + N) := by
  intro f u hu n hn args H k hk
  by_cases hf : f = g
  · subst hf
    simp only [if_true, Option.some.injEq] at hu
    subst hu
    have h1 := h (n - D) (by omega) args H k hk
    unfold runP at h1
    have h2 := evalFP_imp (evalPS_le (hT.mono (by omega : N ≤ n - D)) D) f args H k h1
    rw [show D + (n - D) = n by omega] at h2
    split
    · rename_i h3; rw [h3] at hm; cases hm
    · exact h2
  · simp only [if_neg hf] at hu
    exact hT f u hu n (by omega) args H k hk

/-- One that is given. -/
theorem PTab.give {S : Setg} {T : FuncId → Option PT} {N : Nat} (hT : PTab S T N) {g : FuncId} {t : PT} (hm : S.mode g = 3)
    (h : ∀ args H k, t args H k → (S.K0 g args H).elim False fun r => k r.1 r.2.1 r.2.2) : PTab S (fun f => if f = g then some t else T f) N := by
  intro f u hu n hn args H k hk
  by_cases hf : f = g
  · subst hf
    simp only [if_true, Option.some.injEq] at hu
    subst hu
    rw [hm]
    exact h args H k hk
  · simp only [if_neg hf] at hu
    exact hT f u hu n hn args H k hk

/-- The law's run. -/
theorem PTab.law {S : Setg} {T : FuncId → Option PT} {N : Nat} (hT : PTab S T N) {f : FuncId} (D : Nat) (hm : S.mode f = 0) {vs : List AV}
    (h : runP S T N D S.fu f vs [] fun v _ _ => v = .bool true) : ∃ H' e, evalN S.P S.U S.ann S.fu (evalL S (D + N + 1)) 0 f vs [] = some (.bool true, H', e) := by
  have h1 := evalFP_imp (evalPS_le hT D) f vs [] _ h
  show ∃ H' e, evalL S (D + N + 1) f vs [] = some (.bool true, H', e)
  unfold evalL
  rw [hm]
  simp only
  cases hr : evalF S.P S.U S.ann S.fu (evalL S (D + N)) f vs [] with
  | none => rw [hr] at h1; exact h1.elim
  | some r =>
    obtain ⟨v, H', e⟩ := r
    rw [hr] at h1
    obtain rfl : v = .bool true := h1
    exact ⟨H', e, rfl⟩
attribute [irreducible] runP resPS
end Go.X
/-
  Arrays of numbers as functions; rows of encoded elements.
-/
namespace Go.X

/-- n numbers. -/
structure Ar (n : Nat) where
  get : Nat → Int
  out : ∀ i, n ≤ i → get i = 0
theorem Ar.ext {n : Nat} {a b : Ar n} (h : ∀ i, i < n → a.get i = b.get i) : a = b := by
  obtain ⟨f, hf⟩ := a
  obtain ⟨g, hg⟩ := b
  have : f = g := funext fun i => by
    rcases Nat.lt_or_ge i n with hi | hi
    · exact h i hi
    · rw [hf i hi, hg i hi]
  subst this
  rfl
def Ar.of (n : Nat) (f : Nat → Int) : Ar n := ⟨fun i => if i < n then f i else 0, fun i hi => if_neg (by omega)⟩
theorem Ar.of_get {n : Nat} {f : Nat → Int} {i : Nat} (h : i < n) : (Ar.of n f).get i = f i := if_pos h
def Ar.zero (n : Nat) : Ar n := ⟨fun _ => 0, fun _ _ => rfl⟩
def Ar.set {n : Nat} (a : Ar n) (j : Nat) (v : Int) : Ar n := Ar.of n fun i => if i = j then v else a.get i
theorem Ar.set_get {n : Nat} (a : Ar n) {i j : Nat} (v : Int) (h : i < n) : (a.set j v).get i = if i = j then v else a.get i := Ar.of_get h
instance {n : Nat} : Inhabited (Ar n) := ⟨Ar.zero n⟩
theorem Ar.of_congr {n : Nat} {f g : Nat → Int} (h : ∀ i, i < n → f i = g i) : Ar.of n f = Ar.of n g := Ar.ext fun i hi => by rw [Ar.of_get hi, Ar.of_get hi, h i hi]
theorem Ar.of_self {n : Nat} (a : Ar n) : Ar.of n a.get = a := Ar.ext fun i hi => Ar.of_get hi

def encL (k : IntKind) (n : Nat) (f : Nat → Int) : List AV := (List.range n).map fun i => .int k (f i)
def encA (k : IntKind) {n : Nat} (a : Ar n) : AV := .arr 1 (encL k n a.get)

theorem encL_length (k : IntKind) (n : Nat) (f : Nat → Int) : (encL k n f).length = n := by simp [encL]
theorem encL_get {k : IntKind} {n i : Nat} {f : Nat → Int} (h : i < n) : (encL k n f)[i]? = some (.int k (f i)) := by simp [encL, h]
theorem encL_congr {k : IntKind} {n : Nat} {f g : Nat → Int} (h : ∀ i, i < n → f i = g i) : encL k n f = encL k n g := by
  unfold encL
  exact List.map_congr_left fun i hi => by rw [h i (by simpa using hi)]
theorem arr_encL (k : IntKind) {n : Nat} (f : Nat → Int) : AV.arr 1 (encL k n f) = encA k (Ar.of n f) := by
  unfold encA
  rw [encL_congr (f := (Ar.of n f).get) (g := f) fun i hi => Ar.of_get hi]
theorem encL_set {k : IntKind} {n j : Nat} {f : Nat → Int} {v : Int} : (encL k n f).set j (.int k v) = encL k n fun i => if i = j then v else f i := by
  apply List.ext_getElem?
  intro i
  rcases Nat.lt_or_ge i n with hi | hi
  · rw [List.getElem?_set, encL_get hi, encL_get (f := fun i => if i = j then v else f i) hi]
    by_cases h : j = i
    · subst h
      simp only [encL_length, hi, if_true]
    · have h' : ¬ i = j := fun e => h e.symm
      rw [if_neg h, if_neg h']
  · rw [List.getElem?_eq_none (by simpa [encL_length] using hi), List.getElem?_eq_none (by simpa [encL_length] using hi)]
theorem encA_set {k : IntKind} {n j : Nat} {a : Ar n} {v : Int} : AV.arr 1 ((encL k n a.get).set j (.int k v)) = encA k (a.set j v) := by
  rw [encL_set, arr_encL]
  rfl
theorem setElem_encA {k : IntKind} {n j : Nat} {a : Ar n} {v : Int} : setElem (encA k a) j (.int k v) = encA k (a.set j v) := encA_set
theorem elem_encA {k : IntKind} {n i : Nat} {a : Ar n} (h : i < n) : (encA k a).elem i = .int k (a.get i) := by
  simp [encA, AV.elem, encL_get h]
theorem toInt_elem_encA {k : IntKind} {n i : Nat} {a : Ar n} : ((encA k a).elem i).toInt = a.get i := by
  rcases Nat.lt_or_ge i n with h | h
  · rw [elem_encA h]; rfl
  · rw [a.out i h]
    simp [encA, AV.elem, List.getElem?_eq_none (show (encL k n a.get).length ≤ i by simpa [encL_length] using h), AV.toInt]
theorem isArrI_encA {k : IntKind} {n : Nat} {a : Ar n} : (encA k a).isArrI n k = true := by
  simp [encA, AV.isArrI, encL, AV.isIntK]
theorem arI_encA {k : IntKind} {n : Nat} {a : Ar n} : AV.arr 1 (arI k n (encA k a)) = encA k a := by
  unfold arI
  simp only [toInt_elem_encA]
  rfl
theorem flatLen_encA {k : IntKind} {n : Nat} {a : Ar n} : (encA k a).flatLen = n := by simp [encA, AV.flatLen, encL_length]
theorem isAgg_encA {k : IntKind} {n : Nat} {a : Ar n} : (encA k a).isAgg = true := rfl
theorem refless_ints {k : IntKind} : ∀ (l : List Int), reflessL (l.map fun z => AV.int k z) = true
  | [] => rfl
  | _ :: l => by simp [reflessL, AV.refless, refless_ints l]
theorem reflessL_encL {k : IntKind} {n : Nat} {f : Nat → Int} : reflessL (encL k n f) = true := by
  have : encL k n f = ((List.range n).map f).map fun z => AV.int k z := by simp [encL]
  rw [this]
  exact refless_ints _
theorem refless_encA {k : IntKind} {n : Nat} {a : Ar n} : (encA k a).refless = true := by simp [encA, AV.refless, reflessL_encL]
theorem okS_encA {k : IntKind} {n : Nat} {a : Ar n} : (encA k a).okS = true := by simp [encA, AV.okS, reflessL_encL]
theorem encA_inj {k : IntKind} {n : Nat} {a b : Ar n} (h : encA k a = encA k b) : a = b := by
  simp only [encA, AV.arr.injEq, true_and] at h
  refine Ar.ext fun i hi => ?_
  have h1 := congrArg (·[i]?) h
  simp only [encL_get hi, Option.some.injEq, AV.int.injEq, true_and] at h1
  exact h1
theorem encA_eq {k : IntKind} {n : Nat} {a b : Ar n} : encA k a = encA k b ↔ a = b := ⟨encA_inj, fun h => h ▸ rfl⟩
theorem beqL_ints {k : IntKind} : ∀ (l : List Int), beqL (l.map fun z => AV.int k z) (l.map fun z => AV.int k z) = true
  | [] => rfl
  | _ :: l => by cases k <;> simp [beqL, AV.beq, beqL_ints l] <;> rfl
theorem beq_encA {k : IntKind} {n : Nat} {a : Ar n} : (encA k a).beq (encA k a) = true := by
  have : encL k n a.get = ((List.range n).map a.get).map fun z => AV.int k z := by simp [encL]
  simp only [encA, AV.beq, this, beqL_ints, beq_self_eq_true, Bool.and_self]

open Classical in
theorem eqRep_ints {P : Program} {d : Nat} {e : TypeId} {k : IntKind} (he : P.underlying e = some (.int k)) (ha : tagg P e = some false) : ∀ (xs ys : List Int), xs.length = ys.length →
    eqRep P (eqAV P (d + 1)) e (xs.map fun z => AV.int k z) (ys.map fun z => AV.int k z) = some (decide (xs = ys))
  | [], [], _ => by simp [eqRep]
  | [], _ :: _, h => by simp at h
  | _ :: _, [], h => by simp at h
  | x :: xs, y :: ys, h => by
    have ih := eqRep_ints (d := d) he ha xs ys (by simpa using h)
    have h1 : eqAV P (d + 1) e (.int k x) (.int k y) = some (x == y) := by simp [eqAV, he]
    simp only [List.map_cons, eqRep, ha, AV.isAgg, and_self, if_true, ih, h1, Option.bind_some]
    cases hxy : (x == y) with
    | false =>
      have hne : x ≠ y := by simpa using hxy
      simp [hne]
    | true =>
      have heq : x = y := by simpa using hxy
      simp [heq]
open Classical in
theorem eqNil_encA {P : Program} {t e : TypeId} {x y : Operand} {k : IntKind} {n : Nat} (hu : P.underlying t = some (.array n e)) (he : P.underlying e = some (.int k)) (hs : tsize P e = some 1) (a b : Ar n) :
    eqNil P t x y (encA k a) (encA k b) = some (decide (a = b)) := by
  have ha : tagg P e = some false := by simp [tagg, he]
  have hL : ∀ a : Ar n, encL k n a.get = ((List.range n).map a.get).map fun z => AV.int k z := fun a => by simp [encL]
  have hiff : ((List.range n).map a.get = (List.range n).map b.get) ↔ a = b := by
    constructor
    · intro h
      refine Ar.ext fun i hi => ?_
      have h1 := congrArg (·[i]?) h
      simpa [hi] using h1
    · rintro rfl; rfl
  show eqAV P 30 t (encA k a) (encA k b) = _
  unfold eqAV
  simp only [hu, encA, hs, true_and, encL_length, if_true]
  rw [hL, hL, eqRep_ints he ha _ _ (by simp)]
  simp only [hiff]

/-! Rows of elements. -/
def row {α : Type} (enc : α → AV) (l : List α) : List AV := l.map enc
theorem row_length {α : Type} {enc : α → AV} {l : List α} : (row enc l).length = l.length := by simp [row]
theorem row_get {α : Type} {enc : α → AV} {l : List α} {j : Nat} (h : j < l.length) : (row enc l)[j]? = some (enc l[j]) := by simp [row, h]
theorem row_at {α : Type} {enc : α → AV} {l : List α} {j : Nat} (h : j < (row enc l).length) : (row enc l)[j] = enc (l[j]'(by rw [row_length] at h; exact h)) := by simp [row]
theorem row_flatLen {α : Type} {enc : α → AV} {l : List α} {e : Nat} : (AV.arr e (row enc l)).flatLen = e * l.length := by simp [AV.flatLen, row]
theorem row_elem {α : Type} {enc : α → AV} {l : List α} {j e : Nat} (h : j < l.length) : (AV.arr e (row enc l)).elem j = enc l[j] := by simp [AV.elem, row, h]
theorem projT_row {α : Type} {enc : α → AV} {l : List α} {j e : Nat} {r : List Nat} (h : j < l.length) : projT (j :: r) (.arr e (row enc l)) = projT r (enc l[j]) := by
  simp [projT, AV.elem, row, h]
theorem inAt_row {α : Type} {enc : α → AV} {l : List α} {j e : Nat} {r : List Nat} (h : j < l.length) : inAt (.arr e (row enc l)) (j :: r) = inAt (enc l[j]) r := by
  simp [inAt, row, h]
theorem coffOf_row {α : Type} {enc : α → AV} {l : List α} {j e : Nat} {r : List Nat} (h : j < l.length) : coffOf (.arr e (row enc l)) (j :: r) = e * j + coffOf (enc l[j]) r := by
  simp [coffOf, row, h]
theorem okPl_row {α : Type} {enc : α → AV} {l : List α} {j e c g n : Nat} {r : List Nat} (h : j < l.length) (hg : e * l.length = g) (hc : e * j + coffOf (enc l[j]) r = c) (hi : inAt (enc l[j]) r = true) (hn : (projT r (enc l[j])).flatLen = n) :
    okPl (.arr e (row enc l)) (j :: r) c g n = true := by
  rw [okPl_iff, projT_row h, inAt_row h, coffOf_row h]
  exact ⟨by rw [row_flatLen, hg], hc, hi, hn⟩
theorem okAt_row {α : Type} {enc : α → AV} {l : List α} {j e c g n : Nat} {a : Bool} {r : List Nat} (h : j < l.length) (hg : e * l.length = g) (hc : e * j + coffOf (enc l[j]) r = c) (hi : inAt (enc l[j]) r = true) (hn : (projT r (enc l[j])).flatLen = n) (ha : (projT r (enc l[j])).isAgg = a) :
    okAt (.arr e (row enc l)) (j :: r) c g a n = true := by
  rw [okAt_iff, projT_row h]
  exact ⟨okPl_row h hg hc hi hn, ha⟩
theorem row_set {α : Type} {enc : α → AV} {l : List α} {j : Nat} {v : α} : (row enc l).set j (enc v) = row enc (l.set j v) := by simp [row]
theorem row_append {α : Type} {enc : α → AV} {l m : List α} : row enc l ++ row enc m = row enc (l ++ m) := by simp [row]
theorem row_snoc {α : Type} {enc : α → AV} {l : List α} {v : α} : row enc l ++ [enc v] = row enc (l ++ [v]) := by simp [row]
theorem row_inj {α : Type} {enc : α → AV} (hf : ∀ a b, enc a = enc b → a = b) : ∀ {l m : List α}, row enc l = row enc m → l = m
  | [], [], _ => rfl
  | [], _ :: _, h => by simp [row] at h
  | _ :: _, [], h => by simp [row] at h
  | a :: l, b :: m, h => by
    simp only [row, List.map_cons, List.cons.injEq] at h
    rw [hf a b h.1, row_inj hf h.2]
theorem row_take {α : Type} {enc : α → AV} {l : List α} {n : Nat} : (row enc l).take n = row enc (l.take n) := by simp [row]
theorem row_drop {α : Type} {enc : α → AV} {l : List α} {n : Nat} : (row enc l).drop n = row enc (l.drop n) := by simp [row]
end Go.X
namespace Go.X
theorem replicate_encA {k : IntKind} {n : Nat} : AV.arr 1 (List.replicate n (AV.int k 0)) = encA k (Ar.zero n) := by
  unfold encA encL Ar.zero
  congr 1
  apply List.ext_getElem?
  intro i
  rcases Nat.lt_or_ge i n with h | h
  · simp [h]
  · rw [List.getElem?_eq_none (by simpa using h), List.getElem?_eq_none (by simpa using h)]
theorem zero_encA {k : IntKind} {n : Nat} : AV.arr 1 (encL k n fun _ => 0) = encA k (Ar.zero n) := rfl
attribute [simp] row_length row_get row_at zero_encA AV.isIntK AV.isBoolV AV.toInt AV.toBool isArrI_encA arI_encA replicate_encA beq_encA refless_encA okS_encA flatLen_encA isAgg_encA
/-- Numbers laid over an array. -/
def Ar.lay {n : Nat} (a : Ar n) (j : Nat) (ds : List Int) : Ar n := Ar.of n fun i => if j ≤ i ∧ i < j + ds.length then ds.getD (i - j) 0 else a.get i
def encK (k : IntKind) (z : Int) : AV := .int k z
theorem setMany_encL {k : IntKind} {n j : Nat} {f : Nat → Int} {ds : List Int} (h : j + ds.length ≤ n) : setMany (encL k n f) j (row (encK k) ds) = encL k n fun i => if j ≤ i ∧ i < j + ds.length then ds.getD (i - j) 0 else f i := by
  apply List.ext_getElem?
  intro i
  have hl : (setMany (encL k n f) j (row (encK k) ds)).length = n := by
    rw [setMany_length (by simpa [encL_length, row_length] using h), encL_length]
  rcases Nat.lt_or_ge i n with hi | hi
  · rw [encL_get hi]
    unfold setMany
    have h1 : (List.take j (encL k n f)).length = j := by simp [encL_length]; omega
    rcases Nat.lt_or_ge i j with h2 | h2
    · have : ¬ (j ≤ i ∧ i < j + ds.length) := by omega
      rw [if_neg this, List.append_assoc, List.getElem?_append_left (by omega), List.getElem?_take_of_lt h2, encL_get hi]
    · rcases Nat.lt_or_ge i (j + ds.length) with h3 | h3
      · have h4 : i - j < ds.length := by omega
        rw [if_pos ⟨h2, h3⟩, List.append_assoc, List.getElem?_append_right (by omega), h1, List.getElem?_append_left (by rw [row_length]; omega), row_get h4]
        simp [encK, List.getD_eq_getElem?_getD, h4]
      · have : ¬ (j ≤ i ∧ i < j + ds.length) := by omega
        rw [if_neg this, List.getElem?_append_right (by simp [encL_length, row_length]; omega), List.getElem?_drop]
        simp only [List.length_append, h1, row_length]
        rw [show j + ds.length + (i - (j + ds.length)) = i by omega, encL_get hi]
  · rw [List.getElem?_eq_none (by omega), List.getElem?_eq_none (by rw [encL_length]; omega)]
theorem setMany_encA {k : IntKind} {n j : Nat} {a : Ar n} {ds : List Int} (h : j + ds.length ≤ n) : AV.arr 1 (setMany (encL k n a.get) j (row (encK k) ds)) = encA k (a.lay j ds) := by
  rw [setMany_encL h, arr_encL]
  rfl
theorem okAt_encA {k : IntKind} {n : Nat} {a : Ar n} : okAt (encA k a) [] 0 n true n = true := by
  rw [okAt_iff, okPl_iff]
  exact ⟨⟨flatLen_encA, rfl, rfl, flatLen_encA⟩, rfl⟩
theorem reflessL_row {α : Type} {enc : α → AV} (h : ∀ x, (enc x).refless = true) : ∀ l : List α, reflessL (row enc l) = true
  | [] => rfl
  | x :: l => by
    have := reflessL_row h l
    simp only [row] at this
    simp [row, reflessL, h x, this]
theorem all_row {α : Type} {enc : α → AV} {p : AV → Bool} (h : ∀ x, p (enc x) = true) (l : List α) : (row enc l).all p = true := by
  rw [List.all_eq_true]
  intro u hu
  obtain ⟨x, _, rfl⟩ := List.mem_map.1 hu
  exact h x
theorem wrapB {i : Nat} (h : i + 1 < 2 ^ 63) : IntKind.wrap IntKind.i64 ((i : Int) + 1) = ((i + 1 : Nat) : Int) := by
  rw [IntKind.wrap_i64]
  omega
end Go.X
/-
  Frames as lists; how each function's calls are told.
-/
namespace Go.Proofs.YtlnbbgagccgnjaaDoor
open Go Go.X
/-! Frames, as lists. -/
structure Fr where
  key : Int
  mark : Bool
  pins : Int
  deriving Inhabited
structure Pg where
  base : Ar 32
  now : Ar 32
  deriving Inhabited
def encF (f : Fr) : AV := .agg 3 [.int .i64 f.key, .bool f.mark, .int .i64 f.pins]
def encP (p : Pg) : AV := .agg 64 [encA .u8 p.base, encA .u8 p.now]
abbrev encH (h : Ar 8) : AV := encA .i64 h
structure FS where
  fs : List Fr
  hand : Int
  ps : List Pg
  hs : List (Ar 8)
def CH (fs : List Fr) (hand : Int) : Heap := [some ⟨.agg 2 [.sl ⟨1, 0, [], 3 * fs.length⟩ 3 fs.length 0 fs.length, .int .i64 hand], false, false⟩, some ⟨.arr 3 (row encF fs), true, true⟩]
def C0 : AV := .ptr ⟨0, 0, [], 2⟩
/-- Frames' memory, row by row. -/
def FR (nf np nh : Nat) (hand : Int) (F Q G : List AV) : Heap := [some ⟨.agg 3 [.ptr ⟨1, 0, [], 2⟩, .sl ⟨3, 0, [], 64 * np⟩ 64 np 0 np, .sl ⟨4, 0, [], 8 * nh⟩ 8 nh 0 nh], false, false⟩,
  some ⟨.agg 2 [.sl ⟨2, 0, [], 3 * nf⟩ 3 nf 0 nf, .int .i64 hand], false, false⟩, some ⟨.arr 3 F, true, true⟩, some ⟨.arr 64 Q, true, true⟩, some ⟨.arr 8 G, true, true⟩]
def CR (nf : Nat) (hand : Int) (F : List AV) : Heap := [some ⟨.agg 2 [.sl ⟨1, 0, [], 3 * nf⟩ 3 nf 0 nf, .int .i64 hand], false, false⟩, some ⟨.arr 3 F, true, true⟩]
def FH (s : FS) : Heap := [some ⟨.agg 3 [.ptr ⟨1, 0, [], 2⟩, .sl ⟨3, 0, [], 64 * s.ps.length⟩ 64 s.ps.length 0 s.ps.length, .sl ⟨4, 0, [], 8 * s.hs.length⟩ 8 s.hs.length 0 s.hs.length], false, false⟩,
  some ⟨.agg 2 [.sl ⟨2, 0, [], 3 * s.fs.length⟩ 3 s.fs.length 0 s.fs.length, .int .i64 s.hand], false, false⟩, some ⟨.arr 3 (row encF s.fs), true, true⟩, some ⟨.arr 64 (row encP s.ps), true, true⟩, some ⟨.arr 8 (row encH s.hs), true, true⟩]
theorem FR_eq (s : FS) : FR s.fs.length s.ps.length s.hs.length s.hand (row encF s.fs) (row encP s.ps) (row encH s.hs) = FH s := rfl
theorem CR_eq (fs : List Fr) (hand : Int) : CR fs.length hand (row encF fs) = CH fs hand := rfl
def F0 : AV := .ptr ⟨0, 0, [], 3⟩
def mode (f : FuncId) : Nat := if f = 10 then 3 else if f = 44 then 3 else if [41, 14, 9, 11, 32, 49].contains f then 2 else if [7, 36, 12, 13, 15, 16, 17, 18, 19, 20, 21, 22, 30, 43, 45, 23, 24, 25, 26, 27, 28, 29, 31, 33, 34, 35, 47, 48, 50, 51, 53, 59].contains f then 1 else 0
/-- What sorting comes to, of nothing too. -/
def sortE : List AV → Heap → Option Outs := fun args H => match args with
  | [.sl p e n off len] => (sortT [.sl p e n off len] H).map fun x => [x]
  | [.nils] => (match H with
    | [] => some [(true, .tuple [], [], false)]
    | _ => none)
  | _ => none
def Tw : Table := fun f => if f = 10 then some (fun xs => match xs with
  | [] => some (true, .bool true)
  | _ => none) else none
/-- What is given: sorting; the statements' own test run. -/
def K0 : Oracle := fun f args H => if f = 44 then (locF (fun _ args H => (sortE args H).bind pickO)) 44 args H else pureK (kOf Tw) f args H
noncomputable def S (F : Nat) : Setg := ⟨Tryd.prog, U, ann, F + 5000, mode, K0⟩
end Go.Proofs.YtlnbbgagccgnjaaDoor
/- Frames' functions that find: trees.
-/
namespace Go.Proofs.YtlnbbgagccgnjaaDoor
open Go Go.X
variable {F : Nat}
abbrev T1 : FuncId → Option PT := fun _ => none
abbrev L45 (fs : List Fr) (key i : Int) : List (Nat × AV) := [(0, .bad), (1, .int .i64 key), (4, .bad), (5, .bad), (6, .bad), (7, .bad), (13, .bad), (17, .sl ⟨1, 0, [], 3 * fs.length⟩ 3 fs.length 0 fs.length), (18, .int .i64 fs.length), (19, .int .i64 i), (20, .bad), (27, .bad)]
theorem start45 (N fuel : Nat) (fs : List Fr) (hand key : Int) (k : AV → Heap → Bool → Prop) :
 (runP (S F) T1 N 9 fuel 45 [C0, .int .i64 key] (CH fs hand) k) =
 ((cond (decide (key < 0))
 (k (AV.tuple [AV.int IntKind.i64 0, AV.bool false]) (CH fs hand) false)
 (resPS (S F) T1 N 9 fuel 45 2 2 [] [true, true, false, true] fuel (St.mk [(0, AV.bad), (1, AV.int IntKind.i64 key), (4, AV.bad), (5, AV.bad), (6, AV.bad), (7, AV.bad), (13, AV.bad), (17, AV.sl (Pl.mk 1 0 [] (3 * List.length fs)) 3 (List.length fs) 0 (List.length fs)), (18, AV.int IntKind.i64 (↑(List.length fs) : Int)), (19, AV.int IntKind.i64 0), (20, AV.bad), (27, AV.bad)] [] (CH fs hand) false) k)) : Prop) := by kernel_rfl
theorem step45 (N fuel n : Nat) (fs : List Fr) (hand key i : Int) (k : AV → Heap → Bool → Prop) :
 (resPS (S F) T1 N 9 fuel 45 2 2 [] [true, true, false, true] (n + 1) ⟨L45 fs key i, [], CH fs hand, false⟩ k) =
 ((cond (decide (i < (↑(List.length fs) : Int)))
 (cond (decide (0 ≤ i))
 (cond (decide (Int.toNat i < List.length fs))
 (cond (okAt (AV.arr 3 (row encF fs)) [0 + Int.toNat i] (0 + (0 + Int.toNat i) * 3) (3 * List.length fs) true 3)
 (cond (AV.isAggN (projT [0 + Int.toNat i] (AV.arr 3 (row encF fs))) 3 3)
 (cond (AV.isIntK (AV.part (projT [0 + Int.toNat i] (AV.arr 3 (row encF fs))) 0) IntKind.i64)
 (cond (AV.isBoolV (AV.part (projT [0 + Int.toNat i] (AV.arr 3 (row encF fs))) 1))
 (cond (AV.isIntK (AV.part (projT [0 + Int.toNat i] (AV.arr 3 (row encF fs))) 2) IntKind.i64)
 (cond (AV.toInt (AV.int IntKind.i64 (AV.toInt (AV.part (projT [0 + Int.toNat i] (AV.arr 3 (row encF fs))) 0))) == key)
 (k (AV.tuple [AV.int IntKind.i64 i, AV.bool true]) (CH fs hand) false)
 (resPS (S F) T1 N 9 fuel 45 2 2 [] [true, true, false, true] n (St.mk [(0, AV.bad), (1, AV.int IntKind.i64 key), (4, AV.bad), (5, AV.bad), (6, AV.bad), (7, AV.bad), (13, AV.bad), (17, AV.sl (Pl.mk 1 0 [] (3 * List.length fs)) 3 (List.length fs) 0 (List.length fs)), (18, AV.int IntKind.i64 (↑(List.length fs) : Int)), (19, AV.int IntKind.i64 (IntKind.wrap IntKind.i64 (i + 1))), (20, AV.bad), (27, AV.bad)] [] (CH fs hand) false) k))
 (False))
 (False))
 (False))
 (False))
 (False))
 (False))
 (False))
 (k (AV.tuple [AV.int IntKind.i64 0, AV.bool false]) (CH fs hand) false)) : Prop) := by kernel_rfl
theorem tree12 (N fuel : Nat) (fs : List Fr) (hand key : Int) (k : AV → Heap → Bool → Prop) :
 (runP (S F) T1 N 9 fuel 12 [C0, .int .i64 key] (CH fs hand) k) =
 ((cond (decide (key < 0))
 (k (AV.tuple [AV.int IntKind.i64 0, AV.bool false]) (CH fs hand) false)
 (cond (decide (key ≥ (↑(List.length fs) : Int)))
 (k (AV.tuple [AV.int IntKind.i64 0, AV.bool false]) (CH fs hand) false)
 (cond (decide (0 ≤ key))
 (cond (decide (Int.toNat key < List.length fs))
 (cond (okAt (AV.arr 3 (row encF fs)) [0 + Int.toNat key, 0] (0 + (0 + Int.toNat key) * 3 + 0) (3 * List.length fs) false 1)
 (cond (AV.isIntK (projT [0 + Int.toNat key, 0] (AV.arr 3 (row encF fs))) IntKind.i64)
 (cond (AV.toInt (projT [0 + Int.toNat key, 0] (AV.arr 3 (row encF fs))) == (-1 : Int))
 (k (AV.tuple [AV.int IntKind.i64 0, AV.bool false]) (CH fs hand) false)
 (cond (okAt (AV.arr 3 (row encF fs)) [0 + Int.toNat key, 0] (0 + (0 + Int.toNat key) * 3 + 0) (3 * List.length fs) false 1)
 (cond (AV.isIntK (projT [0 + Int.toNat key, 0] (AV.arr 3 (row encF fs))) IntKind.i64)
 (k (AV.tuple [AV.int IntKind.i64 (AV.toInt (projT [0 + Int.toNat key, 0] (AV.arr 3 (row encF fs)))), AV.bool true]) (CH fs hand) false)
 (False))
 (False)))
 (False))
 (False))
 (False))
 (False)))) : Prop) := by kernel_rfl
end Go.Proofs.YtlnbbgagccgnjaaDoor
/-
  Which frame has a key; a frame's key.
-/
namespace Go.Proofs.YtlnbbgagccgnjaaDoor
open Go Go.X
variable {F : Nat}
def fnd (key : Int) : List Fr → Nat → Option Nat
  | [], _ => none
  | f :: r, j => if f.key = key then some j else fnd key r (j + 1)
/-- The frame of a key. -/
def fR (key : Int) (fs : List Fr) : Option Nat := if key < 0 then none else fnd key fs 0
def vR (r : Option Nat) : AV := .tuple [.int .i64 ((r.getD 0 : Nat) : Int), .bool r.isSome]
theorem okF3 {fs : List Fr} {j g : Nat} (h : j < fs.length) (hg : 3 * fs.length = g) : okAt (.arr 3 (row encF fs)) [j] (j * 3) g true 3 = true := okAt_row h hg (Nat.mul_comm _ _) rfl rfl rfl
theorem okF0 {fs : List Fr} {j g : Nat} (h : j < fs.length) (hg : 3 * fs.length = g) : okAt (.arr 3 (row encF fs)) [j, 0] (j * 3) g false 1 = true := okAt_row h hg (Nat.mul_comm _ _) rfl rfl rfl
theorem okF1 {fs : List Fr} {j g : Nat} (h : j < fs.length) (hg : 3 * fs.length = g) : okAt (.arr 3 (row encF fs)) [j, 1] (j * 3 + 1) g false 1 = true := okAt_row h hg (by rw [Nat.mul_comm]; rfl) rfl rfl rfl
theorem okF2 {fs : List Fr} {j g : Nat} (h : j < fs.length) (hg : 3 * fs.length = g) : okAt (.arr 3 (row encF fs)) [j, 2] (j * 3 + 2) g false 1 = true := okAt_row h hg (by rw [Nat.mul_comm]; rfl) rfl rfl rfl
theorem opF0 {fs : List Fr} {j g : Nat} (h : j < fs.length) (hg : 3 * fs.length = g) : okPl (.arr 3 (row encF fs)) [j, 0] (j * 3) g 1 = true := okPl_row h hg (Nat.mul_comm _ _) rfl rfl
theorem opF1 {fs : List Fr} {j g : Nat} (h : j < fs.length) (hg : 3 * fs.length = g) : okPl (.arr 3 (row encF fs)) [j, 1] (j * 3 + 1) g 1 = true := okPl_row h hg (by rw [Nat.mul_comm]; rfl) rfl rfl
theorem opF2 {fs : List Fr} {j g : Nat} (h : j < fs.length) (hg : 3 * fs.length = g) : okPl (.arr 3 (row encF fs)) [j, 2] (j * 3 + 2) g 1 = true := okPl_row h hg (by rw [Nat.mul_comm]; rfl) rfl rfl
theorem prF0 {fs : List Fr} {j : Nat} (h : j < fs.length) : projT [j, 0] (.arr 3 (row encF fs)) = .int .i64 fs[j].key := projT_row h
theorem prF1 {fs : List Fr} {j : Nat} (h : j < fs.length) : projT [j, 1] (.arr 3 (row encF fs)) = .bool fs[j].mark := projT_row h
theorem prF2 {fs : List Fr} {j : Nat} (h : j < fs.length) : projT [j, 2] (.arr 3 (row encF fs)) = .int .i64 fs[j].pins := projT_row h
theorem okP0 {ps : List Pg} {j g : Nat} (h : j < ps.length) (hg : 64 * ps.length = g) : okAt (.arr 64 (row encP ps)) [j, 0] (j * 64) g true 32 = true := okAt_row h hg (Nat.mul_comm _ _) rfl rfl rfl
theorem okP1 {ps : List Pg} {j g : Nat} (h : j < ps.length) (hg : 64 * ps.length = g) : okAt (.arr 64 (row encP ps)) [j, 1] (j * 64 + 32) g true 32 = true := okAt_row h hg (by rw [Nat.mul_comm]; rfl) rfl rfl rfl
theorem opP {ps : List Pg} {j g : Nat} (h : j < ps.length) (hg : 64 * ps.length = g) : okPl (.arr 64 (row encP ps)) [j] (j * 64) g 64 = true := okPl_row h hg (Nat.mul_comm _ _) rfl rfl
theorem opP0 {ps : List Pg} {j g : Nat} (h : j < ps.length) (hg : 64 * ps.length = g) : okPl (.arr 64 (row encP ps)) [j, 0] (j * 64) g 32 = true := okPl_row h hg (Nat.mul_comm _ _) rfl rfl
theorem opP1 {ps : List Pg} {j g : Nat} (h : j < ps.length) (hg : 64 * ps.length = g) : okPl (.arr 64 (row encP ps)) [j, 1] (j * 64 + 32) g 32 = true := okPl_row h hg (by rw [Nat.mul_comm]; rfl) rfl rfl
theorem prP0 {ps : List Pg} {j : Nat} (h : j < ps.length) : projT [j, 0] (.arr 64 (row encP ps)) = encA .u8 ps[j].base := projT_row h
theorem prP1 {ps : List Pg} {j : Nat} (h : j < ps.length) : projT [j, 1] (.arr 64 (row encP ps)) = encA .u8 ps[j].now := projT_row h
theorem okH {hs : List (Ar 8)} {j g : Nat} (h : j < hs.length) (hg : 8 * hs.length = g) : okAt (.arr 8 (row encH hs)) [j] (j * 8) g true 8 = true := okAt_row h hg (Nat.mul_comm _ _) rfl rfl rfl
theorem opH {hs : List (Ar 8)} {j g : Nat} (h : j < hs.length) (hg : 8 * hs.length = g) : okPl (.arr 8 (row encH hs)) [j] (j * 8) g 8 = true := okPl_row h hg (Nat.mul_comm _ _) rfl rfl
theorem prH {hs : List (Ar 8)} {j : Nat} (h : j < hs.length) : projT [j] (.arr 8 (row encH hs)) = encA .i64 hs[j] := projT_row h
attribute [simp] okF3 okF0 okF1 okF2 opF0 opF1 opF2 prF0 prF1 prF2 okP0 okP1 opP opP0 opP1 prP0 prP1 okH opH prH
set_option maxRecDepth 100000 in
theorem loop45 (N fuel : Nat) (fs : List Fr) (hand key : Int) (k : AV → Heap → Bool → Prop) (hl : fs.length < 1000) :
    ∀ (d j n : Nat), j + d = fs.length → d < n → k (vR (fnd key (fs.drop j) j)) (CH fs hand) false → resPS (S F) T1 N 9 fuel 45 2 2 [] [true, true, false, true] n ⟨L45 fs key j, [], CH fs hand, false⟩ k
  | d, j, 0, _, hn, _ => by omega
  | 0, j, n + 1, hd, _, hk => by
    rw [step45]
    have hj : j = fs.length := by omega
    subst hj
    simpa [fnd, vR] using hk
  | d + 1, j, n + 1, hd, hn, hk => by
    have hj : j < fs.length := by omega
    have hdr : fs.drop j = fs[j] :: fs.drop (j + 1) := by simp
    have hw : IntKind.i64.wrap ((j : Int) + 1) = ((j + 1 : Nat) : Int) := wrapS (by omega)
    rw [step45]
    rw [hdr, fnd] at hk
    have ih := loop45 N fuel fs hand key k hl d (j + 1) n (by omega) (by omega)
    simp only [Int.ofNat_lt, hj, decide_true, cond_true, Int.natCast_nonneg, Int.toNat_natCast, Nat.zero_add, okF3 hj rfl, projT_row hj, hw]
    by_cases hkk : fs[j].key = key
    · simp [projT, encF, AV.isAggN, AV.part, AV.isIntK, AV.isBoolV, AV.toInt, hkk, vR] at hk ⊢
      exact hk
    · simp [projT, encF, AV.isAggN, AV.part, AV.isIntK, AV.isBoolV, AV.toInt, hkk] at hk ⊢
      exact ih hk
def t45 : PT := fun args H k => ∃ (fs : List Fr) (hand key : Int), args = [C0, .int .i64 key] ∧ H = CH fs hand ∧ fs.length < 1000 ∧ k (vR (fR key fs)) H false
theorem S_fu : (S F).fu = F + 5000 := rfl
set_option maxRecDepth 100000 in
theorem find45 (N : Nat) (args : List AV) (H : Heap) (k : AV → Heap → Bool → Prop) : t45 args H k → runP (S F) T1 N 9 (S F).fu 45 args H k := by
  rintro ⟨fs, hand, key, rfl, rfl, hl, hk⟩
  rw [start45]
  have := loop45 (F := F) N (S F).fu fs hand key k hl fs.length 0 (S F).fu (by omega) (by rw [S_fu]; omega)
  unfold fR at hk
  by_cases h : key < 0
  · simpa [h, vR] using hk
  · simp only [h, decide_false, cond_false, if_false] at hk ⊢
    exact this hk
/-- A frame's key. -/
def keyR (fs : List Fr) (fr : Int) : Option Int := if fr < 0 then none else match fs[fr.toNat]? with
  | some f => if f.key = -1 then none else some f.key
  | none => none
def t12 : PT := fun args H k => ∃ (fs : List Fr) (hand fr : Int), args = [C0, .int .i64 fr] ∧ H = CH fs hand ∧ k (.tuple [.int .i64 ((keyR fs fr).getD 0), .bool (keyR fs fr).isSome]) H false
set_option maxRecDepth 100000 in
theorem key12 (N : Nat) (args : List AV) (H : Heap) (k : AV → Heap → Bool → Prop) : t12 args H k → runP (S F) T1 N 9 (S F).fu 12 args H k := by
  rintro ⟨fs, hand, fr, rfl, rfl, hk⟩
  rw [tree12]
  unfold keyR at hk
  by_cases h0 : fr < 0
  · simpa [h0] using hk
  obtain ⟨j, rfl⟩ : ∃ j : Nat, fr = j := ⟨fr.toNat, by omega⟩
  by_cases h1 : fs.length ≤ j
  · have e1 : ((j : Int) ≥ (fs.length : Int)) := by omega
    simpa [e1, h0, List.getElem?_eq_none h1] using hk
  have hj : j < fs.length := by omega
  have e1 : ¬ ((j : Int) ≥ (fs.length : Int)) := by omega
  by_cases k1 : fs[j].key = -1
  · simpa [h0, e1, hj, k1] using hk
  · simpa [h0, e1, hj, k1] using hk
end Go.Proofs.YtlnbbgagccgnjaaDoor
/- What frames do, call by call: trees.
-/
namespace Go.Proofs.YtlnbbgagccgnjaaDoor
open Go Go.X
variable {F : Nat}
def T2 : FuncId → Option PT := fun f => if f = 12 then some t12 else if f = 45 then some t45 else none
theorem tree43 (N fuel : Nat) (s : FS) (fr : Int) (k : AV → Heap → Bool → Prop) :
 (runP (S F) T2 N 9 fuel 43 [F0, .int .i64 fr] (FH s) k) =
 ((∃ (fs0 : List Fr),
 ∃ (hand1 : Int),
 ∃ (fr2 : Int),
 And ([AV.ptr (Pl.mk 0 0 [] 2), AV.int IntKind.i64 fr] = [AV.ptr (Pl.mk 0 0 [] 2), AV.int IntKind.i64 fr2])
 (And (CH s.1 s.2 = CH fs0 hand1)
 (cond (Option.isSome (keyR fs0 fr2))
 (cond (decide (Option.getD (keyR fs0 fr2) 0 < 0))
 (k (AV.bool false) (FH s) false)
 (cond (decide (Option.getD (keyR fs0 fr2) 0 ≥ 72))
 (k (AV.bool false) (FH s) false)
 (cond (decide (Option.getD (keyR fs0 fr2) 0 < 64))
 (cond (decide (0 ≤ fr))
 (cond (decide (Int.toNat fr < List.length s.3))
 (cond (okAt (AV.arr 64 (row encP s.3)) [0 + Int.toNat fr, 0] (0 + (0 + Int.toNat fr) * 64 + 0) (64 * List.length s.3) true 32)
 (cond (AV.isArrI (projT [0 + Int.toNat fr, 0] (AV.arr 64 (row encP s.3))) 32 IntKind.u8)
 (cond (decide (0 ≤ fr))
 (cond (decide (Int.toNat fr < List.length s.3))
 (cond (okAt (AV.arr 64 (row encP s.3)) [0 + Int.toNat fr, 1] (0 + (0 + Int.toNat fr) * 64 + 32) (64 * List.length s.3) true 32)
 (cond (AV.isArrI (projT [0 + Int.toNat fr, 1] (AV.arr 64 (row encP s.3))) 32 IntKind.u8)
 (cond (Option.isSome (eqNil Tryd.prog 32 (Operand.tmp 30) (Operand.tmp 38) (AV.arr 1 (arI IntKind.u8 32 (projT [0 + Int.toNat fr, 0] (AV.arr 64 (row encP s.3))))) (AV.arr 1 (arI IntKind.u8 32 (projT [0 + Int.toNat fr, 1] (AV.arr 64 (row encP s.3)))))))
 (k (AV.bool !Option.getD (eqNil Tryd.prog 32 (Operand.tmp 30) (Operand.tmp 38) (AV.arr 1 (arI IntKind.u8 32 (projT [0 + Int.toNat fr, 0] (AV.arr 64 (row encP s.3))))) (AV.arr 1 (arI IntKind.u8 32 (projT [0 + Int.toNat fr, 1] (AV.arr 64 (row encP s.3)))))) false) (FH s) false)
 (False))
 (False))
 (False))
 (False))
 (False))
 (False))
 (False))
 (False))
 (False))
 (k (AV.bool false) (FH s) false))))
 (k (AV.bool false) (FH s) false)))) : Prop) := by kernel_rfl
theorem tree16 (N fuel : Nat) (s : FS) (a : Int) (k : AV → Heap → Bool → Prop) :
 (runP (S F) T2 N 9 fuel 16 [F0, .int .i64 a] (FH s) k) =
 ((cond (decide (a < 0))
 (k (AV.tuple []) (FH s) false)
 (cond (decide (a ≥ 72))
 (k (AV.tuple []) (FH s) false)
 (cond (decide (a < 64))
 (∃ (fs0 : List Fr),
 ∃ (hand1 : Int),
 ∃ (key2 : Int),
 And ([AV.ptr (Pl.mk 0 0 [] 2), AV.int IntKind.i64 a] = [AV.ptr (Pl.mk 0 0 [] 2), AV.int IntKind.i64 key2])
 (And (CH s.1 s.2 = CH fs0 hand1)
 (And (List.length fs0 < 1000)
 (cond (Option.isSome (fR key2 fs0))
 (cond (decide (Int.toNat (↑(Option.getD (fR key2 fs0) 0) : Int) < List.length s.3))
 (cond (okAt (AV.arr 64 (row encP s.3)) [0 + Int.toNat (↑(Option.getD (fR key2 fs0) 0) : Int), 1] (0 + (0 + Int.toNat (↑(Option.getD (fR key2 fs0) 0) : Int)) * 64 + 32) (64 * List.length s.3) true 32)
 (cond (AV.isArrI (projT [0 + Int.toNat (↑(Option.getD (fR key2 fs0) 0) : Int), 1] (AV.arr 64 (row encP s.3))) 32 IntKind.u8)
 (cond (decide (Int.toNat (↑(Option.getD (fR key2 fs0) 0) : Int) < List.length s.3))
 (cond (okPl (AV.arr 64 (row encP s.3)) [0 + Int.toNat (↑(Option.getD (fR key2 fs0) 0) : Int), 0] (0 + (0 + Int.toNat (↑(Option.getD (fR key2 fs0) 0) : Int)) * 64 + 0) (64 * List.length s.3) 32)
 (∀ (ys3 : List AV),
 (ys3 = List.set (row encP s.3) (0 + Int.toNat (↑(Option.getD (fR key2 fs0) 0) : Int)) (putT [0] (Option.getD (row encP s.3)[0 + Int.toNat (↑(Option.getD (fR key2 fs0) 0) : Int)]? AV.bad) (AV.arr 1 (arI IntKind.u8 32 (projT [0 + Int.toNat (↑(Option.getD (fR key2 fs0) 0) : Int), 1] (AV.arr 64 (row encP s.3))))))) →
 k (AV.tuple []) (FR (List.length s.1) (List.length s.3) (List.length s.4) s.2 (row encF s.1) ys3 (row encH s.4)) false)
 (False))
 (False))
 (False))
 (False))
 (False))
 (k (AV.tuple []) (FH s) false)))))
 (k (AV.tuple []) (FH s) false)))) : Prop) := by kernel_rfl
theorem tree17 (N fuel : Nat) (s : FS) (a : Int) (k : AV → Heap → Bool → Prop) :
 (runP (S F) T2 N 9 fuel 17 [F0, .int .i64 a] (FH s) k) =
 ((cond (decide (a < 0))
 (k (AV.tuple [AV.arr 1 (arI IntKind.u8 32 (AV.arr 1 (encL IntKind.u8 32 fun (_i : Nat) => 0))), AV.arr 1 (arI IntKind.u8 32 (AV.arr 1 (encL IntKind.u8 32 fun (_i : Nat) => 0))), AV.bool false]) (FH s) false)
 (cond (decide (a ≥ 72))
 (k (AV.tuple [AV.arr 1 (arI IntKind.u8 32 (AV.arr 1 (encL IntKind.u8 32 fun (_i : Nat) => 0))), AV.arr 1 (arI IntKind.u8 32 (AV.arr 1 (encL IntKind.u8 32 fun (_i : Nat) => 0))), AV.bool false]) (FH s) false)
 (cond (decide (a < 64))
 (∃ (fs0 : List Fr),
 ∃ (hand1 : Int),
 ∃ (key2 : Int),
 And ([AV.ptr (Pl.mk 0 0 [] 2), AV.int IntKind.i64 a] = [AV.ptr (Pl.mk 0 0 [] 2), AV.int IntKind.i64 key2])
 (And (CH s.1 s.2 = CH fs0 hand1)
 (And (List.length fs0 < 1000)
 (cond (!Option.isSome (fR key2 fs0))
 (k (AV.tuple [AV.arr 1 (arI IntKind.u8 32 (AV.arr 1 (encL IntKind.u8 32 fun (_i : Nat) => 0))), AV.arr 1 (arI IntKind.u8 32 (AV.arr 1 (encL IntKind.u8 32 fun (_i : Nat) => 0))), AV.bool false]) (FH s) false)
 (cond (decide (Int.toNat (↑(Option.getD (fR key2 fs0) 0) : Int) < List.length s.3))
 (cond (okAt (AV.arr 64 (row encP s.3)) [0 + Int.toNat (↑(Option.getD (fR key2 fs0) 0) : Int), 0] (0 + (0 + Int.toNat (↑(Option.getD (fR key2 fs0) 0) : Int)) * 64 + 0) (64 * List.length s.3) true 32)
 (cond (AV.isArrI (projT [0 + Int.toNat (↑(Option.getD (fR key2 fs0) 0) : Int), 0] (AV.arr 64 (row encP s.3))) 32 IntKind.u8)
 (cond (decide (Int.toNat (↑(Option.getD (fR key2 fs0) 0) : Int) < List.length s.3))
 (cond (okAt (AV.arr 64 (row encP s.3)) [0 + Int.toNat (↑(Option.getD (fR key2 fs0) 0) : Int), 1] (0 + (0 + Int.toNat (↑(Option.getD (fR key2 fs0) 0) : Int)) * 64 + 32) (64 * List.length s.3) true 32)
 (cond (AV.isArrI (projT [0 + Int.toNat (↑(Option.getD (fR key2 fs0) 0) : Int), 1] (AV.arr 64 (row encP s.3))) 32 IntKind.u8)
 (cond (AV.beq (AV.sl (Pl.mk 3 0 [] (64 * List.length s.3)) 64 (List.length s.3) 0 (List.length s.3)) (AV.sl (Pl.mk 3 0 [] (64 * List.length s.3)) 64 (List.length s.3) 0 (List.length s.3)))
 (cond (okAt (AV.arr 64 (row encP s.3)) [0 + Int.toNat (↑(Option.getD (fR key2 fs0) 0) : Int), 1] (0 + (0 + Int.toNat (↑(Option.getD (fR key2 fs0) 0) : Int)) * 64 + 32) (64 * List.length s.3) true 32)
 (cond (AV.beq (projT [0 + Int.toNat (↑(Option.getD (fR key2 fs0) 0) : Int), 1] (AV.arr 64 (row encP s.3))) (AV.arr 1 (arI IntKind.u8 32 (projT [0 + Int.toNat (↑(Option.getD (fR key2 fs0) 0) : Int), 1] (AV.arr 64 (row encP s.3))))))
 (k (AV.tuple [AV.arr 1 (arI IntKind.u8 32 (AV.arr 1 (arI IntKind.u8 32 (projT [0 + Int.toNat (↑(Option.getD (fR key2 fs0) 0) : Int), 0] (AV.arr 64 (row encP s.3)))))), AV.arr 1 (arI IntKind.u8 32 (AV.arr 1 (arI IntKind.u8 32 (projT [0 + Int.toNat (↑(Option.getD (fR key2 fs0) 0) : Int), 1] (AV.arr 64 (row encP s.3)))))), AV.bool true]) (FH s) false)
 (False))
 (False))
 (False))
 (False))
 (False))
 (False))
 (False))
 (False))
 (False))))))
 (k (AV.tuple [AV.arr 1 (arI IntKind.u8 32 (AV.arr 1 (encL IntKind.u8 32 fun (_i : Nat) => 0))), AV.arr 1 (arI IntKind.u8 32 (AV.arr 1 (encL IntKind.u8 32 fun (_i : Nat) => 0))), AV.bool false]) (FH s) false)))) : Prop) := by kernel_rfl
theorem tree19 (N fuel : Nat) (s : FS) (a : Int) (k : AV → Heap → Bool → Prop) :
 (runP (S F) T2 N 9 fuel 19 [F0, .int .i64 a] (FH s) k) =
 ((cond (decide (a < 0))
 (k (AV.tuple [AV.arr 1 (arI IntKind.i64 8 (AV.arr 1 (encL IntKind.i64 8 fun (_i : Nat) => 0))), AV.bool false]) (FH s) false)
 (cond (decide (a ≥ 8))
 (k (AV.tuple [AV.arr 1 (arI IntKind.i64 8 (AV.arr 1 (encL IntKind.i64 8 fun (_i : Nat) => 0))), AV.bool false]) (FH s) false)
 (cond (decide (IntKind.wrap IntKind.i64 (64 + a) < 0))
 (k (AV.tuple [AV.arr 1 (arI IntKind.i64 8 (AV.arr 1 (encL IntKind.i64 8 fun (_i : Nat) => 0))), AV.bool false]) (FH s) false)
 (cond (decide (IntKind.wrap IntKind.i64 (64 + a) ≥ 72))
 (k (AV.tuple [AV.arr 1 (arI IntKind.i64 8 (AV.arr 1 (encL IntKind.i64 8 fun (_i : Nat) => 0))), AV.bool false]) (FH s) false)
 (cond (decide (IntKind.wrap IntKind.i64 (64 + a) < 64))
 (k (AV.tuple [AV.arr 1 (arI IntKind.i64 8 (AV.arr 1 (encL IntKind.i64 8 fun (_i : Nat) => 0))), AV.bool false]) (FH s) false)
 (∃ (fs0 : List Fr),
 ∃ (hand1 : Int),
 ∃ (key2 : Int),
 And ([AV.ptr (Pl.mk 0 0 [] 2), AV.int IntKind.i64 (IntKind.wrap IntKind.i64 (64 + a))] = [AV.ptr (Pl.mk 0 0 [] 2), AV.int IntKind.i64 key2])
 (And (CH s.1 s.2 = CH fs0 hand1)
 (And (List.length fs0 < 1000)
 (cond (!Option.isSome (fR key2 fs0))
 (k (AV.tuple [AV.arr 1 (arI IntKind.i64 8 (AV.arr 1 (encL IntKind.i64 8 fun (_i : Nat) => 0))), AV.bool false]) (FH s) false)
 (cond (decide (Int.toNat (↑(Option.getD (fR key2 fs0) 0) : Int) < List.length s.4))
 (cond (okAt (AV.arr 8 (row encH s.4)) [0 + Int.toNat (↑(Option.getD (fR key2 fs0) 0) : Int)] (0 + (0 + Int.toNat (↑(Option.getD (fR key2 fs0) 0) : Int)) * 8) (8 * List.length s.4) true 8)
 (cond (AV.isArrI (projT [0 + Int.toNat (↑(Option.getD (fR key2 fs0) 0) : Int)] (AV.arr 8 (row encH s.4))) 8 IntKind.i64)
 (k (AV.tuple [AV.arr 1 (arI IntKind.i64 8 (AV.arr 1 (arI IntKind.i64 8 (projT [0 + Int.toNat (↑(Option.getD (fR key2 fs0) 0) : Int)] (AV.arr 8 (row encH s.4)))))), AV.bool true]) (FH s) false)
 (False))
 (False))
 (False))))))))))) : Prop) := by kernel_rfl
theorem tree21 (N fuel : Nat) (s : FS) (a : Int) (k : AV → Heap → Bool → Prop) :
 (runP (S F) T2 N 9 fuel 21 [F0, .int .i64 a] (FH s) k) =
 ((∃ (fs0 : List Fr),
 ∃ (hand1 : Int),
 ∃ (key2 : Int),
 And ([AV.ptr (Pl.mk 0 0 [] 2), AV.int IntKind.i64 a] = [AV.ptr (Pl.mk 0 0 [] 2), AV.int IntKind.i64 key2])
 (And (CH s.1 s.2 = CH fs0 hand1)
 (And (List.length fs0 < 1000)
 (cond (Option.isSome (fR key2 fs0))
 (cond (decide ((↑(Option.getD (fR key2 fs0) 0) : Int) ≥ (↑(List.length s.1) : Int)))
 (k (AV.bool false) (FH s) false)
 (cond (decide (Int.toNat (↑(Option.getD (fR key2 fs0) 0) : Int) < List.length s.1))
 (cond (okAt (AV.arr 3 (row encF s.1)) [0 + Int.toNat (↑(Option.getD (fR key2 fs0) 0) : Int), 2] (0 + (0 + Int.toNat (↑(Option.getD (fR key2 fs0) 0) : Int)) * 3 + 2) (3 * List.length s.1) false 1)
 (cond (AV.isIntK (projT [0 + Int.toNat (↑(Option.getD (fR key2 fs0) 0) : Int), 2] (AV.arr 3 (row encF s.1))) IntKind.i64)
 (cond (decide (AV.toInt (projT [0 + Int.toNat (↑(Option.getD (fR key2 fs0) 0) : Int), 2] (AV.arr 3 (row encF s.1))) > 0))
 (k (AV.bool false) (FH s) false)
 (cond (okPl (AV.arr 3 (row encF s.1)) [0 + Int.toNat (↑(Option.getD (fR key2 fs0) 0) : Int), 0] (0 + (0 + Int.toNat (↑(Option.getD (fR key2 fs0) 0) : Int)) * 3 + 0) (3 * List.length s.1) 1)
 (∀ (ys3 : List AV),
 (ys3 = List.set (row encF s.1) (0 + Int.toNat (↑(Option.getD (fR key2 fs0) 0) : Int)) (putT [0] (Option.getD (row encF s.1)[0 + Int.toNat (↑(Option.getD (fR key2 fs0) 0) : Int)]? AV.bad) (AV.int IntKind.i64 (-1 : Int)))) →
 cond (okPl (AV.arr 3 ys3) [0 + Int.toNat (↑(Option.getD (fR key2 fs0) 0) : Int), 1] (0 + (0 + Int.toNat (↑(Option.getD (fR key2 fs0) 0) : Int)) * 3 + 1) (3 * List.length s.1) 1)
 (∀ (ys4 : List AV),
 (ys4 = List.set ys3 (0 + Int.toNat (↑(Option.getD (fR key2 fs0) 0) : Int)) (putT [1] (Option.getD ys3[0 + Int.toNat (↑(Option.getD (fR key2 fs0) 0) : Int)]? AV.bad) (AV.bool false))) →
 k (AV.bool true) (FR (List.length s.1) (List.length s.3) (List.length s.4) s.2 ys4 (row encP s.3) (row encH s.4)) false)
 (False))
 (False)))
 (False))
 (False))
 (False)))
 (k (AV.bool false) (FH s) false))))) : Prop) := by kernel_rfl
theorem tree22 (N fuel : Nat) (fs : List Fr) (hand a : Int) (k : AV → Heap → Bool → Prop) :
 (runP (S F) T2 N 9 fuel 22 [C0, .int .i64 a] (CH fs hand) k) =
 ((cond (decide (a < 0))
 (k (AV.bool false) (CH fs hand) false)
 (cond (decide (a ≥ (↑(List.length fs) : Int)))
 (k (AV.bool false) (CH fs hand) false)
 (cond (decide (0 ≤ a))
 (cond (decide (Int.toNat a < List.length fs))
 (cond (okAt (AV.arr 3 (row encF fs)) [0 + Int.toNat a, 0] (0 + (0 + Int.toNat a) * 3 + 0) (3 * List.length fs) false 1)
 (cond (AV.isIntK (projT [0 + Int.toNat a, 0] (AV.arr 3 (row encF fs))) IntKind.i64)
 (cond (AV.toInt (projT [0 + Int.toNat a, 0] (AV.arr 3 (row encF fs))) == (-1 : Int))
 (k (AV.bool false) (CH fs hand) false)
 (cond (okAt (AV.arr 3 (row encF fs)) [0 + Int.toNat a, 2] (0 + (0 + Int.toNat a) * 3 + 2) (3 * List.length fs) false 1)
 (cond (AV.isIntK (projT [0 + Int.toNat a, 2] (AV.arr 3 (row encF fs))) IntKind.i64)
 (cond (okPl (AV.arr 3 (row encF fs)) [0 + Int.toNat a, 2] (0 + (0 + Int.toNat a) * 3 + 2) (3 * List.length fs) 1)
 (∀ (ys0 : List AV),
 (ys0 = List.set (row encF fs) (0 + Int.toNat a) (putT [2] (Option.getD (row encF fs)[0 + Int.toNat a]? AV.bad) (AV.int IntKind.i64 (IntKind.wrap IntKind.i64 (AV.toInt (projT [0 + Int.toNat a, 2] (AV.arr 3 (row encF fs))) + 1))))) →
 k (AV.bool true) (CR (List.length fs) hand ys0) false)
 (False))
 (False))
 (False)))
 (False))
 (False))
 (False))
 (False)))) : Prop) := by kernel_rfl
theorem tree30 (N fuel : Nat) (fs : List Fr) (hand a : Int) (k : AV → Heap → Bool → Prop) :
 (runP (S F) T2 N 9 fuel 30 [C0, .int .i64 a] (CH fs hand) k) =
 ((cond (decide (a < 0))
 (k (AV.bool false) (CH fs hand) false)
 (cond (decide (a ≥ (↑(List.length fs) : Int)))
 (k (AV.bool false) (CH fs hand) false)
 (cond (decide (0 ≤ a))
 (cond (decide (Int.toNat a < List.length fs))
 (cond (okAt (AV.arr 3 (row encF fs)) [0 + Int.toNat a, 2] (0 + (0 + Int.toNat a) * 3 + 2) (3 * List.length fs) false 1)
 (cond (AV.isIntK (projT [0 + Int.toNat a, 2] (AV.arr 3 (row encF fs))) IntKind.i64)
 (cond (AV.toInt (projT [0 + Int.toNat a, 2] (AV.arr 3 (row encF fs))) == 0)
 (k (AV.bool false) (CH fs hand) false)
 (cond (okAt (AV.arr 3 (row encF fs)) [0 + Int.toNat a, 2] (0 + (0 + Int.toNat a) * 3 + 2) (3 * List.length fs) false 1)
 (cond (AV.isIntK (projT [0 + Int.toNat a, 2] (AV.arr 3 (row encF fs))) IntKind.i64)
 (cond (okPl (AV.arr 3 (row encF fs)) [0 + Int.toNat a, 2] (0 + (0 + Int.toNat a) * 3 + 2) (3 * List.length fs) 1)
 (∀ (ys0 : List AV),
 (ys0 = List.set (row encF fs) (0 + Int.toNat a) (putT [2] (Option.getD (row encF fs)[0 + Int.toNat a]? AV.bad) (AV.int IntKind.i64 (IntKind.wrap IntKind.i64 (AV.toInt (projT [0 + Int.toNat a, 2] (AV.arr 3 (row encF fs))) - 1))))) →
 k (AV.bool true) (CR (List.length fs) hand ys0) false)
 (False))
 (False))
 (False)))
 (False))
 (False))
 (False))
 (False)))) : Prop) := by kernel_rfl
end Go.Proofs.YtlnbbgagccgnjaaDoor
/-
  What frames do, call by call: what comes of it.
-/
namespace Go.Proofs.YtlnbbgagccgnjaaDoor
open Go Go.X
variable {F : Nat}
structure OkS (s : FS) : Prop where
  hp : s.ps.length = s.fs.length
  hh : s.hs.length = s.fs.length
  hl : s.fs.length < 1000
theorem fnd_lt {key : Int} : ∀ {fs : List Fr} {j i : Nat}, fnd key fs j = some i → j ≤ i ∧ i < j + fs.length ∧ ∀ f, fs[i - j]? = some f → f.key = key
  | [], j, i, h => by simp [fnd] at h
  | f :: r, j, i, h => by
    unfold fnd at h
    split at h
    · rename_i hk
      simp only [Option.some.injEq] at h
      subst h
      exact ⟨Nat.le_refl _, by simp, by simpa using hk⟩
    · obtain ⟨h1, h2, h3⟩ := fnd_lt h
      refine ⟨by omega, by simp; omega, ?_⟩
      intro f' hf'
      refine h3 f' ?_
      have : i - j = (i - (j + 1)) + 1 := by omega
      rw [this, List.getElem?_cons_succ] at hf'
      exact hf'
theorem fR_lt {key : Int} {fs : List Fr} {i : Nat} (h : fR key fs = some i) : i < fs.length := by
  unfold fR at h
  split at h
  · cases h
  · have := (fnd_lt h).2.1
    omega
theorem fR_key {key : Int} {fs : List Fr} {i : Nat} (h : fR key fs = some i) (hi : i < fs.length) : fs[i].key = key := by
  unfold fR at h
  split at h
  · cases h
  · exact (fnd_lt h).2.2 _ (by simp [hi])
theorem eqPg {x y : Operand} (a b : Ar 32) : eqNil Tryd.prog 32 x y (encA .u8 a) (encA .u8 b) = some (@decide (a = b) (Classical.propDecidable _)) := by
  have h := eqNil_encA (P := Tryd.prog) (t := 32) (e := 5) (x := x) (y := y) (k := .u8) (n := 32) (by kernel_rfl) (by kernel_rfl) (by kernel_rfl) a b
  exact h
/-- The frame of a page. -/
def ofR (s : FS) (a : Int) : Option Nat := if a < 0 then none else if a < 64 then fR a s.fs else none
/-- A page, as it is held. -/
def pgR (s : FS) (a : Int) : Option Pg := (ofR s a).bind (s.ps[·]?)
def cleanS (s : FS) (a : Int) : FS := match ofR s a with
  | some j => match s.ps[j]? with
    | some p => { s with ps := s.ps.set j ⟨p.now, p.now⟩ }
    | none => s
  | none => s
open Classical in
/-- Does a frame hold a dirty page? -/
noncomputable def dirtyB (s : FS) (fr : Int) : Bool := match keyR s.fs fr with
  | some key => decide (0 ≤ key ∧ key < 64) && match s.ps[fr.toNat]? with
    | some p => !decide (p.base = p.now)
    | none => false
  | none => false
theorem keyR_some {fs : List Fr} {fr key : Int} (h : keyR fs fr = some key) : ∃ j : Nat, ∃ hj : j < fs.length, fr = j ∧ fs[j].key = key ∧ key ≠ -1 := by
  unfold keyR at h
  split at h
  · cases h
  · rename_i h0
    split at h
    · rename_i f hf
      split at h
      · cases h
      · rename_i hk
        obtain ⟨hj, rfl⟩ := List.getElem?_eq_some_iff.1 hf
        simp only [Option.some.injEq] at h
        exact ⟨fr.toNat, hj, by omega, h, by omega⟩
    · cases h
theorem setBase {ps : List Pg} {j : Nat} (p : Pg) (a : Ar 32) : List.set (row encP ps) j (putT [0] (encP p) (encA .u8 a)) = row encP (ps.set j ⟨a, p.now⟩) := row_set (v := (⟨a, p.now⟩ : Pg))
theorem setNow {ps : List Pg} {j : Nat} (p : Pg) (a : Ar 32) : List.set (row encP ps) j (putT [1] (encP p) (encA .u8 a)) = row encP (ps.set j ⟨p.base, a⟩) := row_set (v := (⟨p.base, a⟩ : Pg))
theorem setKey {fs : List Fr} {j : Nat} (f : Fr) (a : Int) : List.set (row encF fs) j (putT [0] (encF f) (.int .i64 a)) = row encF (fs.set j ⟨a, f.mark, f.pins⟩) := row_set (v := (⟨a, f.mark, f.pins⟩ : Fr))
theorem setMark {fs : List Fr} {j : Nat} (f : Fr) (a : Bool) : List.set (row encF fs) j (putT [1] (encF f) (.bool a)) = row encF (fs.set j ⟨f.key, a, f.pins⟩) := row_set (v := (⟨f.key, a, f.pins⟩ : Fr))
theorem setPins {fs : List Fr} {j : Nat} (f : Fr) (a : Int) : List.set (row encF fs) j (putT [2] (encF f) (.int .i64 a)) = row encF (fs.set j ⟨f.key, f.mark, a⟩) := row_set (v := (⟨f.key, f.mark, a⟩ : Fr))
/-- Frames' memory, folded again. -/
theorem FR_at {nf np nh : Nat} (hand : Int) (fs : List Fr) (ps : List Pg) (hs : List (Ar 8)) (h1 : fs.length = nf) (h2 : ps.length = np) (h3 : hs.length = nh) : FR nf np nh hand (row encF fs) (row encP ps) (row encH hs) = FH ⟨fs, hand, ps, hs⟩ := by
  subst h1 h2 h3; rfl
theorem CR_at {nf : Nat} (hand : Int) (fs : List Fr) (h1 : fs.length = nf) : CR nf hand (row encF fs) = CH fs hand := by
  subst h1; rfl
attribute [simp] setBase setNow setKey setMark setPins FR_at CR_at eqPg
def t43 : PT := fun args H k => ∃ (s : FS) (fr : Int), args = [F0, .int .i64 fr] ∧ H = FH s ∧ OkS s ∧ k (.bool (dirtyB s fr)) H false
theorem dirty43 (N : Nat) (args : List AV) (H : Heap) (k : AV → Heap → Bool → Prop) : t43 args H k → runP (S F) T2 N 9 (S F).fu 43 args H k := by
  rintro ⟨s, fr, rfl, rfl, hs, hk⟩
  rw [tree43]
  refine ⟨s.fs, s.hand, fr, rfl, rfl, ?_⟩
  unfold dirtyB at hk
  cases hkey : keyR s.fs fr with
  | none => simpa [hkey] using hk
  | some key =>
    obtain ⟨j, hj, rfl, hjk, hne⟩ := keyR_some hkey
    have hp : j < s.ps.length := by rw [hs.hp]; exact hj
    simp only [hkey, Int.toNat_natCast, List.getElem?_eq_getElem hp] at hk
    by_cases h0 : key < 0
    · have : ¬ (0 ≤ key ∧ key < 64) := by omega
      simpa [h0, this] using hk
    by_cases h1 : key < 64
    · have e1 : 0 ≤ key ∧ key < 64 := by omega
      have e2 : ¬ (72 ≤ key) := by omega
      simpa [h0, h1, e1, e2, hp, eqPg] using hk
    · have : ¬ (0 ≤ key ∧ key < 64) := by omega
      simpa [h0, h1, this] using hk
def t16 : PT := fun args H k => ∃ (s : FS) (a : Int), args = [F0, .int .i64 a] ∧ H = FH s ∧ OkS s ∧ k (.tuple []) (FH (cleanS s a)) false
theorem clean16 (N : Nat) (args : List AV) (H : Heap) (k : AV → Heap → Bool → Prop) : t16 args H k → runP (S F) T2 N 9 (S F).fu 16 args H k := by
  rintro ⟨s, a, rfl, rfl, hs, hk⟩
  rw [tree16]
  unfold cleanS ofR at hk
  by_cases h0 : a < 0
  · simpa [h0] using hk
  by_cases h2 : a < 64
  · have h1 : ¬ (72 ≤ a) := by omega
    simp only [h0, h2, if_true, if_false] at hk
    simp only [h0, h1, h2, decide_false, cond_false, decide_true, cond_true, ge_iff_le]
    refine ⟨s.fs, s.hand, a, rfl, rfl, hs.hl, ?_⟩
    cases hf : fR a s.fs with
    | none => simpa [hf] using hk
    | some j =>
      have hj := fR_lt hf
      have hp : j < s.ps.length := by rw [hs.hp]; exact hj
      simp only [hf, List.getElem?_eq_getElem hp] at hk
      simpa [hp] using hk
  · by_cases h1 : 72 ≤ a
    · simpa [h0, h1, h2] using hk
    · simpa [h0, h1, h2] using hk
def pgV (p : Option Pg) : AV := .tuple [encA .u8 ((p.map Pg.base).getD (Ar.zero 32)), encA .u8 ((p.map Pg.now).getD (Ar.zero 32)), .bool p.isSome]
def t17 : PT := fun args H k => ∃ (s : FS) (a : Int), args = [F0, .int .i64 a] ∧ H = FH s ∧ OkS s ∧ k (pgV (pgR s a)) H false
theorem page17 (N : Nat) (args : List AV) (H : Heap) (k : AV → Heap → Bool → Prop) : t17 args H k → runP (S F) T2 N 9 (S F).fu 17 args H k := by
  rintro ⟨s, a, rfl, rfl, hs, hk⟩
  rw [tree17]
  unfold pgR ofR pgV at hk
  by_cases h0 : a < 0
  · simpa [h0] using hk
  by_cases h2 : a < 64
  · have h1 : ¬ (72 ≤ a) := by omega
    simp only [h0, h2, if_true, if_false] at hk
    simp only [h0, h1, h2, decide_false, cond_false, decide_true, cond_true, ge_iff_le]
    refine ⟨s.fs, s.hand, a, rfl, rfl, hs.hl, ?_⟩
    cases hf : fR a s.fs with
    | none => simpa [hf] using hk
    | some j =>
      have hj := fR_lt hf
      have hp : j < s.ps.length := by rw [hs.hp]; exact hj
      simpa [hf, hp, AV.beq] using hk
  · by_cases h1 : 72 ≤ a
    · simpa [h0, h1, h2] using hk
    · simpa [h0, h1, h2] using hk
end Go.Proofs.YtlnbbgagccgnjaaDoor
/- Bytes laid into a page; a page of one byte: trees.
-/
namespace Go.Proofs.YtlnbbgagccgnjaaDoor
open Go Go.X
variable {F : Nat}
abbrev encU : Int → AV := encK .u8
theorem tree41 (N fuel : Nat) (p : Ar 32) (off : Int) (ds : List Int) (k : AV → Heap → Bool → Prop) :
 (runP (S F) T1 N 30 fuel 41 [encA .u8 p, .int .i64 off, .isl 1 (row encU ds)] [] k) =
 ((cond (decide (off < 0))
 (k (AV.tuple [AV.arr 1 (arI IntKind.u8 32 (AV.arr 1 (encL IntKind.u8 32 fun (_i : Nat) => 0))), AV.int IntKind.i64 1]) [] false)
 (cond (decide ((↑(List.length (row (encK IntKind.u8) ds)) : Int) < 1))
 (k (AV.tuple [AV.arr 1 (arI IntKind.u8 32 (AV.arr 1 (encL IntKind.u8 32 fun (_i : Nat) => 0))), AV.int IntKind.i64 1]) [] false)
 (cond (decide ((↑(List.length (row (encK IntKind.u8) ds)) : Int) > 32))
 (k (AV.tuple [AV.arr 1 (arI IntKind.u8 32 (AV.arr 1 (encL IntKind.u8 32 fun (_i : Nat) => 0))), AV.int IntKind.i64 1]) [] false)
 (cond (decide (off > IntKind.wrap IntKind.i64 (32 - (↑(List.length (row (encK IntKind.u8) ds)) : Int))))
 (k (AV.tuple [AV.arr 1 (arI IntKind.u8 32 (AV.arr 1 (encL IntKind.u8 32 fun (_i : Nat) => 0))), AV.int IntKind.i64 1]) [] false)
 (cond (decide (0 ≤ off))
 (cond (decide (Int.toNat off ≤ 32) && true)
 (cond (decide (Int.toNat off + (32 - Int.toNat off) ≤ 32))
 (cond ((List.all (row (encK IntKind.u8) ds) fun (u : AV) => AV.flatLen u == 1) && reflessL (row (encK IntKind.u8) ds))
 (cond (okAt (AV.arr 1 (setMany (encL IntKind.u8 32 p.1) (Int.toNat off) (List.take (min (List.length (row (encK IntKind.u8) ds)) (32 - Int.toNat off)) (row (encK IntKind.u8) ds)))) [] 0 32 true 32)
 (cond (AV.isArrI (AV.arr 1 (setMany (encL IntKind.u8 32 p.1) (Int.toNat off) (List.take (min (List.length (row (encK IntKind.u8) ds)) (32 - Int.toNat off)) (row (encK IntKind.u8) ds)))) 32 IntKind.u8)
 (k (AV.tuple [AV.arr 1 (arI IntKind.u8 32 (AV.arr 1 (arI IntKind.u8 32 (AV.arr 1 (setMany (encL IntKind.u8 32 p.1) (Int.toNat off) (List.take (min (List.length (row (encK IntKind.u8) ds)) (32 - Int.toNat off)) (row (encK IntKind.u8) ds))))))), AV.int IntKind.i64 0]) [] false)
 (False))
 (False))
 (False))
 (False))
 (False))
 (False)))))) : Prop) := by kernel_rfl
theorem tree14 (N fuel : Nat) (v : Int) (k : AV → Heap → Bool → Prop) :
 (runP (S F) T1 N 9 (F + 5000) 14 [.int .u8 v] [] k) =
 ((k (AV.arr 1 (arI IntKind.u8 32 (AV.arr 1 (arI IntKind.u8 32 (AV.arr 1 (encL IntKind.u8 32 fun (_i : Nat) => v)))))) [] false) : Prop) := by kernel_rfl
end Go.Proofs.YtlnbbgagccgnjaaDoor
/-
  Bytes laid into a page; a page of one byte.
-/
namespace Go.Proofs.YtlnbbgagccgnjaaDoor
open Go Go.X
variable {F : Nat}
/-- A page with bytes laid into it. -/
def applyA (p : Ar 32) (off : Int) (ds : List Int) : Option (Ar 32) := if off < 0 ∨ ds.length < 1 ∨ ds.length > 32 ∨ off + ds.length > 32 then none else some (p.lay off.toNat ds)
def apV (r : Option (Ar 32)) : AV := .tuple [encA .u8 (r.getD (Ar.zero 32)), .int .i64 (if r.isSome then 0 else 1)]
def t41 : PT := fun args H k => ∃ (p : Ar 32) (off : Int) (ds : List Int), args = [encA .u8 p, .int .i64 off, .isl 1 (row encU ds)] ∧ H = [] ∧ ds.length < 1000 ∧ k (apV (applyA p off ds)) [] false
theorem apply41 (N : Nat) (args : List AV) (H : Heap) (k : AV → Heap → Bool → Prop) : t41 args H k → runP (S F) T1 N 30 (S F).fu 41 args H k := by
  rintro ⟨p, off, ds, rfl, rfl, hl, hk⟩
  rw [tree41]
  unfold applyA apV at hk
  have hw : IntKind.i64.wrap (32 - (ds.length : Int)) = 32 - (ds.length : Int) := by rw [IntKind.wrap_i64]; omega
  simp only [row_length, hw]
  by_cases h0 : off < 0
  · simpa [h0] using hk
  by_cases h1 : ds.length < 1
  · have : (ds.length : Int) < 1 := by omega
    simpa [h0, h1, this] using hk
  by_cases h2 : ds.length > 32
  · have e1 : ¬ ((ds.length : Int) < 1) := by omega
    have e2 : (ds.length : Int) > 32 := by omega
    simpa [h0, h1, e1, h2, e2] using hk
  by_cases h3 : off + ds.length > 32
  · have e1 : ¬ ((ds.length : Int) < 1) := by omega
    have e2 : ¬ ((ds.length : Int) > 32) := by omega
    have e3 : off > 32 - (ds.length : Int) := by omega
    simp only [h0, e1, e2, e3, decide_false, decide_true, cond_false, cond_true]
    simpa [h0, h1, h2, h3] using hk
  have e1 : ¬ ((ds.length : Int) < 1) := by omega
  have e2 : ¬ ((ds.length : Int) > 32) := by omega
  have e3 : ¬ (off > 32 - (ds.length : Int)) := by omega
  obtain ⟨j, rfl⟩ : ∃ j : Nat, off = j := ⟨off.toNat, by omega⟩
  have e4 : (j : Nat) ≤ 32 := by omega
  have e5 : j + (32 - j) ≤ 32 := by omega
  have e6 : min ds.length (32 - j) = ds.length := by omega
  have e7 : List.take ds.length (row encU ds) = row encU ds := by rw [row_take, List.take_length]
  have e8 := setMany_encA (k := .u8) (a := p) (j := j) (ds := ds) (by omega)
  have e9 : ((row encU ds).all fun u => u.flatLen == 1) = true := all_row (fun x => rfl) ds
  have e10 : reflessL (row encU ds) = true := reflessL_row (fun x => rfl) ds
  have e11 : ¬ ((j : Int) < 0 ∨ ds.length < 1 ∨ ds.length > 32 ∨ (j : Int) + ds.length > 32) := by omega
  simp only [e11, if_false, Option.getD_some, Option.isSome_some, if_true, Int.toNat_natCast] at hk
  simp only [h0, e1, e2, e3, decide_false, decide_true, cond_false, cond_true, Int.natCast_nonneg, Int.toNat_natCast, e4, e5, e6, e7, e9, e10, Bool.and_self, e8, okAt_encA, isArrI_encA, arI_encA]
  exact hk
def leafA (v : Int) : Ar 32 := Ar.of 32 fun _ => v
def t14 : PT := fun args H k => ∃ v : Int, args = [.int .u8 v] ∧ H = [] ∧ k (encA .u8 (leafA v)) [] false
theorem leaf14 (N : Nat) (args : List AV) (H : Heap) (k : AV → Heap → Bool → Prop) : t14 args H k → runP (S F) T1 N 9 (S F).fu 14 args H k := by
  rintro ⟨v, rfl, rfl, hk⟩
  rw [S_fu, tree14 N 0, arr_encL, arI_encA, arI_encA]
  exact hk
end Go.Proofs.YtlnbbgagccgnjaaDoor
/-
  DERIVED: THE SHELF's CONTRACTS AT THIS DUMP, IN PLAIN WORDS (tools/lay-plain.mjs out of 'TrydShelf.lean', which tools/lay-shelf.mjs wrote): THE SAME DECLARATIONS UNDER THE SAME NAMES: 'import', 'namespace', 'open', 'def', 'theorem' AND NOTHING ELSE: no command of the shelf's: FOR A HAND-IN. Each laying: the table of numbers ('.._ren') and one theorem, a field a fact of the dump's own or the kernel's comparison; each contract: ONE APPLICATION.
-/
namespace Go.Proofs
open Go.Shelf
def Tryd.lays189_ren : Go.Shelf.Ren := ⟨fun | 189 => 44 | 125 => 58 | 257 => 57 | 128 => 75 | 129 => 76 | 294 => 66 | 295 => 67 | 296 => 68 | 297 => 69 | 298 => 70 | 299 => 71 | 216 => 72 | 300 => 73 | 301 => 74 | 328 => 80 | 329 => 81 | 330 => 82 | 331 => 83 | 332 => 84 | 215 => 85 | 343 => 86 | n => n, fun | 28 => 47 | 3 => 3 | 46 => 108 | 0 => 0 | 51 => 131 | 53 => 133 | 4 => 4 | 183 => 125 | 182 => 124 | 131 => 39 | 5 => 5 | 9 => 9 | 218 => 151 | 222 => 155 | 228 => 157 | 229 => 158 | n => n, fun | n => n⟩
theorem Tryd.lays189 : Go.Proofs.Lays.n189 Tryd.prog Tryd.lays189_ren := {
  mixed := by kernel_rfl
  f125 := Tryd.func58.trans (congrArg some (by kernel_rfl))
  f128 := Tryd.func75.trans (congrArg some (by kernel_rfl))
  f129 := Tryd.func76.trans (congrArg some (by kernel_rfl))
  f189 := Tryd.func44.trans (congrArg some (by kernel_rfl))
  f215 := Tryd.func85.trans (congrArg some (by kernel_rfl))
  f216 := Tryd.func72.trans (congrArg some (by kernel_rfl))
  f257 := Tryd.func57.trans (congrArg some (by kernel_rfl))
  f294 := Tryd.func66.trans (congrArg some (by kernel_rfl))
  f295 := Tryd.func67.trans (congrArg some (by kernel_rfl))
  f296 := Tryd.func68.trans (congrArg some (by kernel_rfl))
  f297 := Tryd.func69.trans (congrArg some (by kernel_rfl))
  f298 := Tryd.func70.trans (congrArg some (by kernel_rfl))
  f299 := Tryd.func71.trans (congrArg some (by kernel_rfl))
  f300 := Tryd.func73.trans (congrArg some (by kernel_rfl))
  f301 := Tryd.func74.trans (congrArg some (by kernel_rfl))
  f328 := Tryd.func80.trans (congrArg some (by kernel_rfl))
  f329 := Tryd.func81.trans (congrArg some (by kernel_rfl))
  f330 := Tryd.func82.trans (congrArg some (by kernel_rfl))
  f331 := Tryd.func83.trans (congrArg some (by kernel_rfl))
  f332 := Tryd.func84.trans (congrArg some (by kernel_rfl))
  f343 := Tryd.func86.trans (congrArg some (by kernel_rfl))
  t0 := Tryd.underlying0
  a0 := Tryd.isAgg0
  z0 := Tryd.sizeOf0
  v0 := Tryd.zeroValue0
  t3 := Tryd.underlying3
  a3 := Tryd.isAgg3
  z3 := Tryd.sizeOf3
  v3 := Tryd.zeroValue3
  t4 := Tryd.underlying4
  a4 := Tryd.isAgg4
  z4 := Tryd.sizeOf4
  v4 := Tryd.zeroValue4
  t5 := Tryd.underlying5
  a5 := Tryd.isAgg5
  z5 := Tryd.sizeOf5
  v5 := Tryd.zeroValue5
  t9 := Tryd.underlying9
  a9 := Tryd.isAgg9
  z9 := Tryd.sizeOf9
  v9 := Tryd.zeroValue9
  t28 := Tryd.underlying47
  a28 := Tryd.isAgg47
  z28 := Tryd.sizeOf47
  v28 := Tryd.zeroValue47
  t46 := Tryd.underlying108
  a46 := Tryd.isAgg108
  z46 := Tryd.sizeOf108
  v46 := Tryd.zeroValue108
  t51 := Tryd.underlying131
  a51 := Tryd.isAgg131
  z51 := Tryd.sizeOf131
  v51 := Tryd.zeroValue131
  t53 := Tryd.underlying133
  a53 := Tryd.isAgg133
  z53 := Tryd.sizeOf133
  v53 := Tryd.zeroValue133
  t131 := Tryd.underlying39
  a131 := Tryd.isAgg39
  z131 := Tryd.sizeOf39
  v131 := Tryd.zeroValue39
  t182 := Tryd.underlying124
  a182 := Tryd.isAgg124
  z182 := Tryd.sizeOf124
  v182 := Tryd.zeroValue124
  t183 := Tryd.underlying125
  a183 := Tryd.isAgg125
  z183 := Tryd.sizeOf125
  v183 := Tryd.zeroValue125
  t218 := Tryd.underlying151
  a218 := Tryd.isAgg151
  z218 := Tryd.sizeOf151
  v218 := Tryd.zeroValue151
  t222 := Tryd.underlying155
  a222 := Tryd.isAgg155
  z222 := Tryd.sizeOf155
  v222 := Tryd.zeroValue155
  t228 := Tryd.underlying157
  a228 := Tryd.isAgg157
  z228 := Tryd.sizeOf157
  v228 := Tryd.zeroValue157
  t229 := Tryd.underlying158
  a229 := Tryd.isAgg158
  z229 := Tryd.sizeOf158
  v229 := Tryd.zeroValue158 }
open Go.Sort Go.RowKit in
theorem Tryd.slices_Sort_int (blk off cap : Nat) (zs : List Int) (w : World) (hH : Holds (Value.int .i64) w blk off zs.toArray) (hblk : blk < w.heap.size) (hsz : zs.length < 4611686018427387904) :
    Calls Tryd.prog 44 #[.slice (some ⟨blk, off, none⟩) zs.length cap] w fun e w' =>
      e = .returned (.tuple #[]) ∧ ∃ n os, w' = grow (putRow (Value.int .i64) (Sort.ahead w n) blk off (zs.mergeSort fun x y => decide (x ≤ y)).toArray) os := Any.slices_Sort_int Tryd.lays189 blk off cap zs w hH hblk hsz
end Go.Proofs
/-
  What is given holds: sorting, the statements' own test run.
-/
namespace Go.Proofs.YtlnbbgagccgnjaaDoor
open Go Go.X
variable {F : Nat}
def Tn : Table := fun _ => none
theorem nil44 : evalTK none Tryd.prog U ann 1000 Tn 9 44 [.nils] [] (fun v H e => some (v, H, e)) = some (.tuple [], [], false) := by kernel_rfl
theorem pick_one (x : Bool × AV × Heap × Bool) : pickO [x] = match x with | (true, r) => some r | _ => none := by
  obtain ⟨b, r⟩ := x
  cases b <;> rfl
theorem sortS (B : Nat) : OracleSound Tryd.prog B U.G (fun f args H => if f = 44 then (sortE args H).bind pickO else none) := by
  intro f args H v H' e h
  simp only at h
  split at h
  · rename_i hf
    subst hf
    unfold sortE at h
    split at h
    · rename_i p e' n off len
      refine sort_sound (P := Tryd.prog) (G := U.G) (f := 44) Tryd.slices_Sort_int B 44 [.sl p e' n off len] H v H' e ?_
      simp only [if_true]
      cases ht : sortT [.sl p e' n off len] H with
      | none => rw [ht] at h; cases h
      | some x =>
        rw [ht] at h
        simp only [Option.map_some, Option.bind_some, pick_one] at h
        obtain ⟨b, r⟩ := x
        cases b
        · cases h
        · exact h
    · split at h
      · simp only [Option.bind_some, pickO, cond_true, Option.some.injEq, Prod.mk.injEq] at h
        obtain ⟨rfl, rfl, rfl⟩ := h
        exact evalN_ok (fun f args H v H' e h => FunTab.none.ok B f args H v H' e h) (extU B) mixed hA 9 44 [.nils] [] (.tuple []) [] false (evalN_of_T nil44)
      · cases h
    · cases h
  · cases h
theorem wakes10 : evalTK false Tryd.prog U ann 1000 Tn 100 10 [] [] (fun v _ _ => v.isTrue) = true := by kernel_rfl
theorem Fw : FunTab Tryd.prog U Tw := FunTab.none.addN (ann := ann) (fuel := 1000) (n := 100) extU mixed hA (g := 10) (fun xs v h => by
  split at h
  · simp only [Option.some.injEq, Prod.mk.injEq, true_and] at h
    subst h
    exact ⟨rfl, run_of_trueT wakes10⟩
  · cases h)
theorem given (B : Nat) : OracleSound Tryd.prog B U.G K0 := by
  intro f args H v H' e h
  unfold K0 at h
  split at h
  · rename_i hf
    subst hf
    refine loc_sound (K := fun f args H => if f = 44 then (sortE args H).bind pickO else none) sortS B 44 args H v H' e ?_
    rw [← h]
    rfl
  · exact Fw.ok B f args H v H' e h
/-- Sorting, as it is told. -/
def t44 : PT := fun args H k => callP 1 (fun args H k => (sortE args H).elim False (outsK False k)) args H k
theorem sort44 (args : List AV) (H : Heap) (k : AV → Heap → Bool → Prop) (h : t44 args H k) : ((S F).K0 44 args H).elim False fun r => k r.1 r.2.1 r.2.2 := by
  refine callP1_imp (F := fun _ args H => (sortE args H).bind pickO) (f := 44) (fun args H k h => ?_) h
  cases hs : sortE args H with
  | none => rw [hs] at h; exact h.elim
  | some l =>
    rw [hs] at h
    simp only [Option.elim_some, Option.bind_some] at h ⊢
    rwa [outsK_pick] at h
def t10 : PT := fun args H k => args = [] ∧ k (.bool true) H false
theorem wakes10' (args : List AV) (H : Heap) (k : AV → Heap → Bool → Prop) (h : t10 args H k) : ((S F).K0 10 args H).elim False fun r => k r.1 r.2.1 r.2.2 := by
  obtain ⟨rfl, hk⟩ := h
  exact hk
theorem okS : (S F).Ok := ⟨extU, mixed, hA, given⟩
end Go.Proofs.YtlnbbgagccgnjaaDoor
/- What frames do, call by call: more trees.
-/
namespace Go.Proofs.YtlnbbgagccgnjaaDoor
open Go Go.X
variable {F : Nat}
def T3 : FuncId → Option PT := fun f => if f = 12 then some t12 else if f = 45 then some t45 else if f = 43 then some t43 else if f = 41 then some t41 else if f = 14 then some t14 else if f = 44 then some t44 else if f = 10 then some t10 else none
def WH (s : FS) (ds : List Int) : Heap := FH s ++ [some ⟨.arr 1 (row encU ds), true, true⟩]
def WR (nf np nh : Nat) (hand : Int) (F Q G D : List AV) : Heap := FR nf np nh hand F Q G ++ [some ⟨.arr 1 D, true, true⟩]
theorem tree13 (N fuel : Nat) (s : FS) (fr a : Int) (p : Ar 32) (k : AV → Heap → Bool → Prop) :
 (runP (S F) T3 N 9 fuel 13 [F0, .int .i64 fr, .int .i64 a, encA .u8 p] (FH s) k) =
 ((cond (decide (a < 0))
 (k (AV.bool false) (FH s) false)
 (cond (decide (a ≥ 72))
 (k (AV.bool false) (FH s) false)
 (cond (decide (a < 64))
 (∃ (s0 : FS),
 ∃ (fr1 : Int),
 And ([AV.ptr (Pl.mk 0 0 [] 3), AV.int IntKind.i64 fr] = [AV.ptr (Pl.mk 0 0 [] 3), AV.int IntKind.i64 fr1])
 (And (FH s = FH s0)
 (And (OkS s0)
 (cond (!dirtyB s0 fr1)
 (cond (decide (fr < 0))
 (∃ (fs2 : List Fr),
 ∃ (hand3 : Int),
 ∃ (key4 : Int),
 And ([AV.ptr (Pl.mk 0 0 [] 2), AV.int IntKind.i64 a] = [AV.ptr (Pl.mk 0 0 [] 2), AV.int IntKind.i64 key4])
 (And (CH s.1 s.2 = CH fs2 hand3)
 (And (List.length fs2 < 1000)
 (k (AV.bool false) (FH s) false))))
 (cond (decide (fr ≥ (↑(List.length s.1) : Int)))
 (∃ (fs5 : List Fr),
 ∃ (hand6 : Int),
 ∃ (key7 : Int),
 And ([AV.ptr (Pl.mk 0 0 [] 2), AV.int IntKind.i64 a] = [AV.ptr (Pl.mk 0 0 [] 2), AV.int IntKind.i64 key7])
 (And (CH s.1 s.2 = CH fs5 hand6)
 (And (List.length fs5 < 1000)
 (k (AV.bool false) (FH s) false))))
 (cond (decide (0 ≤ fr))
 (cond (decide (Int.toNat fr < List.length s.1))
 (∃ (fs8 : List Fr),
 ∃ (hand9 : Int),
 ∃ (key10 : Int),
 And ([AV.ptr (Pl.mk 0 0 [] 2), AV.int IntKind.i64 a] = [AV.ptr (Pl.mk 0 0 [] 2), AV.int IntKind.i64 key10])
 (And (CH s.1 s.2 = CH fs8 hand9)
 (And (List.length fs8 < 1000)
 (cond (decide (a < 0))
 (k (AV.bool false) (FH s) false)
 (cond (Option.isSome (fR key10 fs8))
 (cond (!(↑(Option.getD (fR key10 fs8) 0) : Int) == fr)
 (k (AV.bool false) (FH s) false)
 (cond (okAt (AV.arr 3 (row encF s.1)) [0 + Int.toNat fr, 2] (0 + (0 + Int.toNat fr) * 3 + 2) (3 * List.length s.1) false 1)
 (cond (AV.isIntK (projT [0 + Int.toNat fr, 2] (AV.arr 3 (row encF s.1))) IntKind.i64)
 (cond (decide (AV.toInt (projT [0 + Int.toNat fr, 2] (AV.arr 3 (row encF s.1))) > 0))
 (k (AV.bool false) (FH s) false)
 (cond (okPl (AV.arr 3 (row encF s.1)) [0 + Int.toNat fr, 0] (0 + (0 + Int.toNat fr) * 3 + 0) (3 * List.length s.1) 1)
 (∀ (ys11 : List AV),
 (ys11 = List.set (row encF s.1) (0 + Int.toNat fr) (putT [0] (Option.getD (row encF s.1)[0 + Int.toNat fr]? AV.bad) (AV.int IntKind.i64 a))) →
 cond (okPl (AV.arr 3 ys11) [0 + Int.toNat fr, 1] (0 + (0 + Int.toNat fr) * 3 + 1) (3 * List.length s.1) 1)
 (∀ (ys12 : List AV),
 (ys12 = List.set ys11 (0 + Int.toNat fr) (putT [1] (Option.getD ys11[0 + Int.toNat fr]? AV.bad) (AV.bool true))) →
 cond (decide (0 ≤ fr))
 (cond (decide (Int.toNat fr < List.length s.3))
 (cond (okPl (AV.arr 64 (row encP s.3)) [0 + Int.toNat fr] (0 + (0 + Int.toNat fr) * 64) (64 * List.length s.3) 64)
 (∀ (ys13 : List AV),
 (ys13 = List.set (row encP s.3) (0 + Int.toNat fr) (AV.agg 64 [AV.arr 1 (arI IntKind.u8 32 (AV.arr 1 (encL IntKind.u8 32 p.1))), AV.arr 1 (arI IntKind.u8 32 (AV.arr 1 (encL IntKind.u8 32 p.1)))])) →
 k (AV.bool true) (FR (List.length s.1) (List.length s.3) (List.length s.4) s.2 ys12 ys13 (row encH s.4)) false)
 (False))
 (False))
 (False))
 (False))
 (False)))
 (False))
 (False)))
 (cond (okAt (AV.arr 3 (row encF s.1)) [0 + Int.toNat fr, 2] (0 + (0 + Int.toNat fr) * 3 + 2) (3 * List.length s.1) false 1)
 (cond (AV.isIntK (projT [0 + Int.toNat fr, 2] (AV.arr 3 (row encF s.1))) IntKind.i64)
 (cond (decide (AV.toInt (projT [0 + Int.toNat fr, 2] (AV.arr 3 (row encF s.1))) > 0))
 (k (AV.bool false) (FH s) false)
 (cond (okPl (AV.arr 3 (row encF s.1)) [0 + Int.toNat fr, 0] (0 + (0 + Int.toNat fr) * 3 + 0) (3 * List.length s.1) 1)
 (∀ (ys14 : List AV),
 (ys14 = List.set (row encF s.1) (0 + Int.toNat fr) (putT [0] (Option.getD (row encF s.1)[0 + Int.toNat fr]? AV.bad) (AV.int IntKind.i64 a))) →
 cond (okPl (AV.arr 3 ys14) [0 + Int.toNat fr, 1] (0 + (0 + Int.toNat fr) * 3 + 1) (3 * List.length s.1) 1)
 (∀ (ys15 : List AV),
 (ys15 = List.set ys14 (0 + Int.toNat fr) (putT [1] (Option.getD ys14[0 + Int.toNat fr]? AV.bad) (AV.bool true))) →
 cond (decide (0 ≤ fr))
 (cond (decide (Int.toNat fr < List.length s.3))
 (cond (okPl (AV.arr 64 (row encP s.3)) [0 + Int.toNat fr] (0 + (0 + Int.toNat fr) * 64) (64 * List.length s.3) 64)
 (∀ (ys16 : List AV),
 (ys16 = List.set (row encP s.3) (0 + Int.toNat fr) (AV.agg 64 [AV.arr 1 (arI IntKind.u8 32 (AV.arr 1 (encL IntKind.u8 32 p.1))), AV.arr 1 (arI IntKind.u8 32 (AV.arr 1 (encL IntKind.u8 32 p.1)))])) →
 k (AV.bool true) (FR (List.length s.1) (List.length s.3) (List.length s.4) s.2 ys15 ys16 (row encH s.4)) false)
 (False))
 (False))
 (False))
 (False))
 (False)))
 (False))
 (False)))))))
 (False))
 (False))))
 (k (AV.bool false) (FH s) false)))))
 (k (AV.bool false) (FH s) false)))) : Prop) := by kernel_rfl
theorem tree20 (N fuel : Nat) (s : FS) (fr a : Int) (p : Ar 8) (k : AV → Heap → Bool → Prop) :
 (runP (S F) T3 N 9 fuel 20 [F0, .int .i64 fr, .int .i64 a, encA .i64 p] (FH s) k) =
 ((cond (decide (a < 0))
 (k (AV.bool false) (FH s) false)
 (cond (decide (a ≥ 8))
 (k (AV.bool false) (FH s) false)
 (∃ (s0 : FS),
 ∃ (fr1 : Int),
 And ([AV.ptr (Pl.mk 0 0 [] 3), AV.int IntKind.i64 fr] = [AV.ptr (Pl.mk 0 0 [] 3), AV.int IntKind.i64 fr1])
 (And (FH s = FH s0)
 (And (OkS s0)
 (cond (!dirtyB s0 fr1)
 (cond (decide (fr < 0))
 (∃ (fs2 : List Fr),
 ∃ (hand3 : Int),
 ∃ (key4 : Int),
 And ([AV.ptr (Pl.mk 0 0 [] 2), AV.int IntKind.i64 (IntKind.wrap IntKind.i64 (64 + a))] = [AV.ptr (Pl.mk 0 0 [] 2), AV.int IntKind.i64 key4])
 (And (CH s.1 s.2 = CH fs2 hand3)
 (And (List.length fs2 < 1000)
 (k (AV.bool false) (FH s) false))))
 (cond (decide (fr ≥ (↑(List.length s.1) : Int)))
 (∃ (fs5 : List Fr),
 ∃ (hand6 : Int),
 ∃ (key7 : Int),
 And ([AV.ptr (Pl.mk 0 0 [] 2), AV.int IntKind.i64 (IntKind.wrap IntKind.i64 (64 + a))] = [AV.ptr (Pl.mk 0 0 [] 2), AV.int IntKind.i64 key7])
 (And (CH s.1 s.2 = CH fs5 hand6)
 (And (List.length fs5 < 1000)
 (k (AV.bool false) (FH s) false))))
 (cond (decide (0 ≤ fr))
 (cond (decide (Int.toNat fr < List.length s.1))
 (∃ (fs8 : List Fr),
 ∃ (hand9 : Int),
 ∃ (key10 : Int),
 And ([AV.ptr (Pl.mk 0 0 [] 2), AV.int IntKind.i64 (IntKind.wrap IntKind.i64 (64 + a))] = [AV.ptr (Pl.mk 0 0 [] 2), AV.int IntKind.i64 key10])
 (And (CH s.1 s.2 = CH fs8 hand9)
 (And (List.length fs8 < 1000)
 (cond (decide (IntKind.wrap IntKind.i64 (64 + a) < 0))
 (k (AV.bool false) (FH s) false)
 (cond (Option.isSome (fR key10 fs8))
 (cond (!(↑(Option.getD (fR key10 fs8) 0) : Int) == fr)
 (k (AV.bool false) (FH s) false)
 (cond (okAt (AV.arr 3 (row encF s.1)) [0 + Int.toNat fr, 2] (0 + (0 + Int.toNat fr) * 3 + 2) (3 * List.length s.1) false 1)
 (cond (AV.isIntK (projT [0 + Int.toNat fr, 2] (AV.arr 3 (row encF s.1))) IntKind.i64)
 (cond (decide (AV.toInt (projT [0 + Int.toNat fr, 2] (AV.arr 3 (row encF s.1))) > 0))
 (k (AV.bool false) (FH s) false)
 (cond (okPl (AV.arr 3 (row encF s.1)) [0 + Int.toNat fr, 0] (0 + (0 + Int.toNat fr) * 3 + 0) (3 * List.length s.1) 1)
 (∀ (ys11 : List AV),
 (ys11 = List.set (row encF s.1) (0 + Int.toNat fr) (putT [0] (Option.getD (row encF s.1)[0 + Int.toNat fr]? AV.bad) (AV.int IntKind.i64 (IntKind.wrap IntKind.i64 (64 + a))))) →
 cond (okPl (AV.arr 3 ys11) [0 + Int.toNat fr, 1] (0 + (0 + Int.toNat fr) * 3 + 1) (3 * List.length s.1) 1)
 (∀ (ys12 : List AV),
 (ys12 = List.set ys11 (0 + Int.toNat fr) (putT [1] (Option.getD ys11[0 + Int.toNat fr]? AV.bad) (AV.bool true))) →
 cond (decide (0 ≤ fr))
 (cond (decide (Int.toNat fr < List.length s.4))
 (cond (okPl (AV.arr 8 (row encH s.4)) [0 + Int.toNat fr] (0 + (0 + Int.toNat fr) * 8) (8 * List.length s.4) 8)
 (∀ (ys13 : List AV),
 (ys13 = List.set (row encH s.4) (0 + Int.toNat fr) (AV.arr 1 (arI IntKind.i64 8 (AV.arr 1 (encL IntKind.i64 8 p.1))))) →
 k (AV.bool true) (FR (List.length s.1) (List.length s.3) (List.length s.4) s.2 ys12 (row encP s.3) ys13) false)
 (False))
 (False))
 (False))
 (False))
 (False)))
 (False))
 (False)))
 (cond (okAt (AV.arr 3 (row encF s.1)) [0 + Int.toNat fr, 2] (0 + (0 + Int.toNat fr) * 3 + 2) (3 * List.length s.1) false 1)
 (cond (AV.isIntK (projT [0 + Int.toNat fr, 2] (AV.arr 3 (row encF s.1))) IntKind.i64)
 (cond (decide (AV.toInt (projT [0 + Int.toNat fr, 2] (AV.arr 3 (row encF s.1))) > 0))
 (k (AV.bool false) (FH s) false)
 (cond (okPl (AV.arr 3 (row encF s.1)) [0 + Int.toNat fr, 0] (0 + (0 + Int.toNat fr) * 3 + 0) (3 * List.length s.1) 1)
 (∀ (ys14 : List AV),
 (ys14 = List.set (row encF s.1) (0 + Int.toNat fr) (putT [0] (Option.getD (row encF s.1)[0 + Int.toNat fr]? AV.bad) (AV.int IntKind.i64 (IntKind.wrap IntKind.i64 (64 + a))))) →
 cond (okPl (AV.arr 3 ys14) [0 + Int.toNat fr, 1] (0 + (0 + Int.toNat fr) * 3 + 1) (3 * List.length s.1) 1)
 (∀ (ys15 : List AV),
 (ys15 = List.set ys14 (0 + Int.toNat fr) (putT [1] (Option.getD ys14[0 + Int.toNat fr]? AV.bad) (AV.bool true))) →
 cond (decide (0 ≤ fr))
 (cond (decide (Int.toNat fr < List.length s.4))
 (cond (okPl (AV.arr 8 (row encH s.4)) [0 + Int.toNat fr] (0 + (0 + Int.toNat fr) * 8) (8 * List.length s.4) 8)
 (∀ (ys16 : List AV),
 (ys16 = List.set (row encH s.4) (0 + Int.toNat fr) (AV.arr 1 (arI IntKind.i64 8 (AV.arr 1 (encL IntKind.i64 8 p.1))))) →
 k (AV.bool true) (FR (List.length s.1) (List.length s.3) (List.length s.4) s.2 ys15 (row encP s.3) ys16) false)
 (False))
 (False))
 (False))
 (False))
 (False)))
 (False))
 (False)))))))
 (False))
 (False))))
 (k (AV.bool false) (FH s) false))))))) : Prop) := by kernel_rfl
theorem tree15 (N fuel : Nat) (s : FS) (a off : Int) (ds : List Int) (k : AV → Heap → Bool → Prop) :
 (runP (S F) T3 N 9 fuel 15 [F0, .int .i64 a, .int .i64 off, .sl ⟨5, 0, [], ds.length⟩ 1 ds.length 0 ds.length] (WH s ds) k) =
 ((cond (decide (a < 0))
 (k (AV.int IntKind.i64 17) (WH s ds) false)
 (cond (decide (a ≥ 72))
 (k (AV.int IntKind.i64 17) (WH s ds) false)
 (cond (decide (a < 64))
 (∃ (fs0 : List Fr),
 ∃ (hand1 : Int),
 ∃ (key2 : Int),
 And ([AV.ptr (Pl.mk 0 0 [] 2), AV.int IntKind.i64 a] = [AV.ptr (Pl.mk 0 0 [] 2), AV.int IntKind.i64 key2])
 (And (CH s.1 s.2 = CH fs0 hand1)
 (And (List.length fs0 < 1000)
 (cond (!Option.isSome (fR key2 fs0))
 (k (AV.int IntKind.i64 17) (WH s ds) false)
 (cond (decide (Int.toNat (↑(Option.getD (fR key2 fs0) 0) : Int) < List.length s.3))
 (cond (okAt (AV.arr 64 (row encP s.3)) [0 + Int.toNat (↑(Option.getD (fR key2 fs0) 0) : Int), 1] (0 + (0 + Int.toNat (↑(Option.getD (fR key2 fs0) 0) : Int)) * 64 + 32) (64 * List.length s.3) true 32)
 (cond (AV.isArrI (projT [0 + Int.toNat (↑(Option.getD (fR key2 fs0) 0) : Int), 1] (AV.arr 64 (row encP s.3))) 32 IntKind.u8)
 (cond (decide (AV.flatLen (AV.arr 1 (row encU ds)) = List.length ds))
 (cond (decide (List.length (row encU ds) = List.length ds))
 (cond (decide (0 + List.length ds ≤ List.length ds))
 (cond (reflessL (List.take (List.length ds) (List.drop 0 (row encU ds))) && true)
 (∃ (p3 : Ar 32),
 ∃ (off4 : Int),
 ∃ (ds5 : List Int),
 And ([AV.arr 1 (arI IntKind.u8 32 (projT [0 + Int.toNat (↑(Option.getD (fR key2 fs0) 0) : Int), 1] (AV.arr 64 (row encP s.3)))), AV.int IntKind.i64 off, AV.isl 1 (List.take (List.length ds) (List.drop 0 (row encU ds)))] = [encA IntKind.u8 p3, AV.int IntKind.i64 off4, AV.isl 1 (row encU ds5)])
 (And (([] : Heap) = [])
 (And (List.length ds5 < 1000)
 (cond (!(if Option.isSome (applyA p3 off4 ds5) = true then (0 : Int) else (1 : Int)) == 0)
 (k (AV.int IntKind.i64 18) (WH s ds) false)
 (cond (decide (Int.toNat (↑(Option.getD (fR key2 fs0) 0) : Int) < List.length s.3))
 (cond (okPl (AV.arr 64 (row encP s.3)) [0 + Int.toNat (↑(Option.getD (fR key2 fs0) 0) : Int), 1] (0 + (0 + Int.toNat (↑(Option.getD (fR key2 fs0) 0) : Int)) * 64 + 32) (64 * List.length s.3) 32)
 (∀ (ys6 : List AV),
 (ys6 = List.set (row encP s.3) (0 + Int.toNat (↑(Option.getD (fR key2 fs0) 0) : Int)) (putT [1] (Option.getD (row encP s.3)[0 + Int.toNat (↑(Option.getD (fR key2 fs0) 0) : Int)]? AV.bad) (AV.arr 1 (arI IntKind.u8 32 (AV.arr 1 (encL IntKind.u8 32 (Option.getD (applyA p3 off4 ds5) (Ar.mk (fun (x : Nat) => 0) (Ar.zero._proof_1 32))).1)))))) →
 cond (decide ((↑(Option.getD (fR key2 fs0) 0) : Int) ≥ (↑(List.length s.1) : Int)))
 (k (AV.int IntKind.i64 0) (WR (List.length s.1) (List.length s.3) (List.length s.4) s.2 (row encF s.1) ys6 (row encH s.4) (row encU ds)) false)
 (cond (decide (Int.toNat (↑(Option.getD (fR key2 fs0) 0) : Int) < List.length s.1))
 (cond (okAt (AV.arr 3 (row encF s.1)) [0 + Int.toNat (↑(Option.getD (fR key2 fs0) 0) : Int), 0] (0 + (0 + Int.toNat (↑(Option.getD (fR key2 fs0) 0) : Int)) * 3 + 0) (3 * List.length s.1) false 1)
 (cond (AV.isIntK (projT [0 + Int.toNat (↑(Option.getD (fR key2 fs0) 0) : Int), 0] (AV.arr 3 (row encF s.1))) IntKind.i64)
 (cond (!AV.toInt (projT [0 + Int.toNat (↑(Option.getD (fR key2 fs0) 0) : Int), 0] (AV.arr 3 (row encF s.1))) == (-1 : Int))
 (cond (okPl (AV.arr 3 (row encF s.1)) [0 + Int.toNat (↑(Option.getD (fR key2 fs0) 0) : Int), 1] (0 + (0 + Int.toNat (↑(Option.getD (fR key2 fs0) 0) : Int)) * 3 + 1) (3 * List.length s.1) 1)
 (∀ (ys7 : List AV),
 (ys7 = List.set (row encF s.1) (0 + Int.toNat (↑(Option.getD (fR key2 fs0) 0) : Int)) (putT [1] (Option.getD (row encF s.1)[0 + Int.toNat (↑(Option.getD (fR key2 fs0) 0) : Int)]? AV.bad) (AV.bool true))) →
 k (AV.int IntKind.i64 0) (WR (List.length s.1) (List.length s.3) (List.length s.4) s.2 ys7 ys6 (row encH s.4) (row encU ds)) false)
 (False))
 (k (AV.int IntKind.i64 0) (WR (List.length s.1) (List.length s.3) (List.length s.4) s.2 (row encF s.1) ys6 (row encH s.4) (row encU ds)) false))
 (False))
 (False))
 (False)))
 (False))
 (False))))))
 (False))
 (False))
 (False))
 (False))
 (False))
 (False))
 (False))))))
 (k (AV.int IntKind.i64 17) (WH s ds) false)))) : Prop) := by kernel_rfl
end Go.Proofs.YtlnbbgagccgnjaaDoor
/-
  What frames do, call by call: holding and writing.
-/
namespace Go.Proofs.YtlnbbgagccgnjaaDoor
open Go Go.X
variable {F : Nat}
/-- A frame takes a key. -/
def putF (fs : List Fr) (j : Nat) (key : Int) : Option (List Fr) := match fs[j]? with
  | some f => if (fR key fs = none ∨ fR key fs = some j) ∧ ¬ f.pins > 0 then some (fs.set j ⟨key, true, f.pins⟩) else none
  | none => none
noncomputable def holdR (s : FS) (fr a : Int) (p : Ar 32) : Option FS :=
  if a < 0 ∨ a ≥ 64 ∨ dirtyB s fr = true ∨ fr < 0 then none else (putF s.fs fr.toNat a).map fun fs => { s with fs := fs, ps := s.ps.set fr.toNat ⟨p, p⟩ }
noncomputable def holdMapR (s : FS) (fr a : Int) (p : Ar 8) : Option FS :=
  if a < 0 ∨ a ≥ 8 ∨ dirtyB s fr = true ∨ fr < 0 then none else (putF s.fs fr.toNat (64 + a)).map fun fs => { s with fs := fs, hs := s.hs.set fr.toNat p }
theorem agg64 (p q : Ar 32) : AV.agg 64 [encA .u8 p, encA .u8 q] = encP ⟨p, q⟩ := rfl
theorem arr_get {k : IntKind} {n : Nat} (a : Ar n) : AV.arr 1 (encL k n a.get) = encA k a := rfl
def t13 : PT := fun args H k => ∃ (s : FS) (fr a : Int) (p : Ar 32), args = [F0, .int .i64 fr, .int .i64 a, encA .u8 p] ∧ H = FH s ∧ OkS s ∧ k (.bool (holdR s fr a p).isSome) (FH ((holdR s fr a p).getD s)) false
theorem hold13 (N : Nat) (args : List AV) (H : Heap) (k : AV → Heap → Bool → Prop) : t13 args H k → runP (S F) T3 N 9 (S F).fu 13 args H k := by
  rintro ⟨s, fr, a, p, rfl, rfl, hs, hk⟩
  rw [tree13]
  unfold holdR at hk
  by_cases h0 : a < 0
  · simpa [h0] using hk
  by_cases h2 : a < 64
  · have h1 : ¬ (72 ≤ a) := by omega
    have h3 : ¬ (64 ≤ a) := by omega
    simp only [h0, h1, h2, decide_false, cond_false, decide_true, cond_true, ge_iff_le]
    refine ⟨s, fr, rfl, rfl, hs, ?_⟩
    cases hd : dirtyB s fr with
    | true => simpa [hd] using hk
    | false =>
      simp only [Bool.not_false, cond_true]
      by_cases g0 : fr < 0
      · simp only [g0, decide_true, cond_true]
        exact ⟨s.fs, s.hand, a, rfl, rfl, hs.hl, by simpa [g0] using hk⟩
      obtain ⟨j, rfl⟩ : ∃ j : Nat, fr = j := ⟨fr.toNat, by omega⟩
      by_cases g1 : s.fs.length ≤ j
      · have e1 : ((s.fs.length : Int) ≤ (j : Int)) := by omega
        simp only [g0, e1, decide_true, cond_true, decide_false, cond_false]
        exact ⟨s.fs, s.hand, a, rfl, rfl, hs.hl, by simpa [g0, h0, h3, hd, putF, List.getElem?_eq_none g1] using hk⟩
      have hj : j < s.fs.length := by omega
      have hp : j < s.ps.length := by rw [hs.hp]; exact hj
      have e1 : ¬ ((s.fs.length : Int) ≤ (j : Int)) := by omega
      simp only [g0, e1, decide_false, cond_false, Int.natCast_nonneg, decide_true, cond_true, Int.toNat_natCast, hj]
      refine ⟨s.fs, s.hand, a, rfl, rfl, hs.hl, ?_⟩
      simp only [h0, h3, hd, g0, ge_iff_le, false_or, Bool.false_eq_true, if_false, Int.toNat_natCast, putF, List.getElem?_eq_getElem hj] at hk
      cases hf : fR a s.fs with
      | none =>
        by_cases hpin : s.fs[j].pins > 0
        · simpa [hf, hpin, hj] using hk
        · simpa [hf, hpin, hj, hp, arr_get, agg64, row_set] using hk
      | some i =>
        by_cases hij : i = j
        · subst hij
          by_cases hpin : s.fs[i].pins > 0
          · simpa [hf, hpin, hj] using hk
          · simpa [hf, hpin, hj, hp, arr_get, agg64, row_set] using hk
        · have hij' : ((i : Int) == (j : Int)) = false := beq_eq_false_iff_ne.2 (by omega)
          simpa [hf, hij, hij'] using hk
  · have h3 : 64 ≤ a := by omega
    by_cases h1 : 72 ≤ a
    · simpa [h0, h1, h2, h3] using hk
    · simpa [h0, h1, h2, h3] using hk
def t20 : PT := fun args H k => ∃ (s : FS) (fr a : Int) (p : Ar 8), args = [F0, .int .i64 fr, .int .i64 a, encA .i64 p] ∧ H = FH s ∧ OkS s ∧ k (.bool (holdMapR s fr a p).isSome) (FH ((holdMapR s fr a p).getD s)) false
theorem holdMap20 (N : Nat) (args : List AV) (H : Heap) (k : AV → Heap → Bool → Prop) : t20 args H k → runP (S F) T3 N 9 (S F).fu 20 args H k := by
  rintro ⟨s, fr, a, p, rfl, rfl, hs, hk⟩
  rw [tree20]
  unfold holdMapR at hk
  by_cases h0 : a < 0
  · simpa [h0] using hk
  by_cases h2 : 8 ≤ a
  · simpa [h0, h2] using hk
  have hw : IntKind.i64.wrap (64 + a) = 64 + a := by rw [IntKind.wrap_i64]; omega
  have h1 : ¬ (64 + a < 0) := by omega
  simp only [h0, h2, hw, decide_false, cond_false, ge_iff_le]
  refine ⟨s, fr, rfl, rfl, hs, ?_⟩
  cases hd : dirtyB s fr with
  | true => simpa [hd] using hk
  | false =>
    simp only [Bool.not_false, cond_true]
    by_cases g0 : fr < 0
    · simp only [g0, decide_true, cond_true]
      exact ⟨s.fs, s.hand, 64 + a, rfl, rfl, hs.hl, by simpa [g0] using hk⟩
    obtain ⟨j, rfl⟩ : ∃ j : Nat, fr = j := ⟨fr.toNat, by omega⟩
    by_cases g1 : s.fs.length ≤ j
    · have e1 : ((s.fs.length : Int) ≤ (j : Int)) := by omega
      simp only [g0, e1, decide_true, cond_true, decide_false, cond_false]
      exact ⟨s.fs, s.hand, 64 + a, rfl, rfl, hs.hl, by simpa [g0, h0, h2, hd, putF, List.getElem?_eq_none g1] using hk⟩
    have hj : j < s.fs.length := by omega
    have hp : j < s.hs.length := by rw [hs.hh]; exact hj
    have e1 : ¬ ((s.fs.length : Int) ≤ (j : Int)) := by omega
    simp only [g0, e1, decide_false, cond_false, Int.natCast_nonneg, decide_true, cond_true, Int.toNat_natCast, hj]
    refine ⟨s.fs, s.hand, 64 + a, rfl, rfl, hs.hl, ?_⟩
    simp only [h0, h2, hd, g0, ge_iff_le, false_or, Bool.false_eq_true, if_false, Int.toNat_natCast, putF, List.getElem?_eq_getElem hj] at hk
    cases hf : fR (64 + a) s.fs with
    | none =>
      by_cases hpin : s.fs[j].pins > 0
      · simpa [hf, hpin, hj, h1] using hk
      · simpa [hf, hpin, hj, hp, arr_get, row_set, h1] using hk
    | some i =>
      by_cases hij : i = j
      · subst hij
        by_cases hpin : s.fs[i].pins > 0
        · simpa [hf, hpin, hj, h1] using hk
        · simpa [hf, hpin, hj, hp, arr_get, row_set, h1] using hk
      · have hij' : ((i : Int) == (j : Int)) = false := beq_eq_false_iff_ne.2 (by omega)
        simpa [hf, hij, hij', h1] using hk
/-- What a write comes to, and the frames behind it. -/
def writeR (s : FS) (a off : Int) (ds : List Int) : Int × FS := match ofR s a with
  | none => (17, s)
  | some j => match s.ps[j]?, s.fs[j]? with
    | some p, some f => match applyA p.now off ds with
      | none => (18, s)
      | some q => (0, { s with fs := s.fs.set j ⟨f.key, true, f.pins⟩, ps := s.ps.set j ⟨p.base, q⟩ })
    | _, _ => (17, s)
theorem WR_at {nf np nh : Nat} (hand : Int) (fs : List Fr) (ps : List Pg) (hs : List (Ar 8)) (ds : List Int) (h1 : fs.length = nf) (h2 : ps.length = np) (h3 : hs.length = nh) : WR nf np nh hand (row encF fs) (row encP ps) (row encH hs) (row encU ds) = WH ⟨fs, hand, ps, hs⟩ ds := by
  subst h1 h2 h3; rfl
def t15 : PT := fun args H k => ∃ (s : FS) (a off : Int) (ds : List Int), args = [F0, .int .i64 a, .int .i64 off, .sl ⟨5, 0, [], ds.length⟩ 1 ds.length 0 ds.length] ∧ H = WH s ds ∧ OkS s ∧ ds.length < 1000 ∧ k (.int .i64 (writeR s a off ds).1) (WH (writeR s a off ds).2 ds) false
theorem write15 (N : Nat) (args : List AV) (H : Heap) (k : AV → Heap → Bool → Prop) : t15 args H k → runP (S F) T3 N 9 (S F).fu 15 args H k := by
  rintro ⟨s, a, off, ds, rfl, rfl, hs, hl, hk⟩
  rw [tree15]
  unfold writeR ofR at hk
  by_cases h0 : a < 0
  · simpa [h0] using hk
  by_cases h2 : a < 64
  · have h1 : ¬ (72 ≤ a) := by omega
    simp only [h0, h2, if_true, if_false] at hk
    simp only [h0, h1, h2, decide_false, cond_false, decide_true, cond_true, ge_iff_le]
    refine ⟨s.fs, s.hand, a, rfl, rfl, hs.hl, ?_⟩
    cases hf : fR a s.fs with
    | none => simpa [hf] using hk
    | some j =>
      have hj := fR_lt hf
      have hp : j < s.ps.length := by rw [hs.hp]; exact hj
      have hkey := fR_key hf hj
      have hne : s.fs[j].key ≠ -1 := by omega
      have e1 : reflessL (row encU ds) = true := reflessL_row (fun x => rfl) ds
      simp only [hf, List.getElem?_eq_getElem hp, List.getElem?_eq_getElem hj] at hk
      simp only [hf, Option.isSome_some, Bool.not_true, cond_false, Option.getD_some, Int.toNat_natCast, hp, decide_true, cond_true, Nat.zero_add, okP1 hp rfl, prP1 hp, isArrI_encA, arI_encA, row_flatLen, row_length, Nat.one_mul, Nat.le_refl, row_drop, List.drop_zero, row_take, List.take_length, e1, Bool.and_self]
      refine ⟨s.ps[j].now, off, ds, rfl, by simp, hl, ?_⟩
      cases ha : applyA s.ps[j].now off ds with
      | none => simpa [ha] using hk
      | some q =>
        have hj' : ¬ s.fs.length ≤ j := by omega
        simpa [ha, hp, hj, hj', hne, arr_get, WR_at] using hk
  · by_cases h1 : 72 ≤ a
    · simpa [h0, h1, h2] using hk
    · simpa [h0, h1, h2] using hk
end Go.Proofs.YtlnbbgagccgnjaaDoor
/- The dirty ones, frames made anew, what may be asked: trees.
-/
namespace Go.Proofs.YtlnbbgagccgnjaaDoor
open Go Go.X
variable {F : Nat}
abbrev L18 (s : FS) (l : AV) (i : Int) : List (Nat × AV) := [(0, F0), (2, .bad), (3, l), (4, .bad), (5, .bad), (6, .bad), (8, .bad), (13, .int .i64 s.fs.length), (14, .int .i64 i), (15, .bad), (31, .bad)]
abbrev encZ : Int → AV := encK IntKind.i64
abbrev DL (n : Nat) : AV := .sl ⟨6, 0, [], n⟩ 1 n 0 n
def DR (s : FS) (D : List AV) : Heap := FH s ++ [none, some ⟨.arr 1 D, true, true⟩]
theorem start18 (N fuel : Nat) (s : FS) (k : AV → Heap → Bool → Prop) :
 (runP (S F) T3 N 9 fuel 18 [F0] (FH s) k) =
 ((resPS (S F) T3 N 9 fuel 18 1 5 [] [true, true, true, false, true] fuel (St.mk [(0, AV.ptr (Pl.mk 0 0 [] 3)), (2, AV.bad), (3, AV.nils), (4, AV.bad), (5, AV.bad), (6, AV.bad), (8, AV.bad), (13, AV.int IntKind.i64 (↑(List.length s.3) : Int)), (14, AV.int IntKind.i64 0), (15, AV.bad), (31, AV.bad)] [] (FH s) false) k) : Prop) := by kernel_rfl
theorem stepN18 (N fuel m : Nat) (s : FS) (i : Int) (k : AV → Heap → Bool → Prop) :
 (resPS (S F) T3 N 9 fuel 18 1 5 [] [true, true, true, false, true] (m + 1) ⟨L18 s .nils i, [], FH s, false⟩ k) =
 ((cond (decide (i < (↑(List.length s.1) : Int)))
 (∃ (fs0 : List Fr),
 ∃ (hand1 : Int),
 ∃ (fr2 : Int),
 And ([AV.ptr (Pl.mk 0 0 [] 2), AV.int IntKind.i64 i] = [AV.ptr (Pl.mk 0 0 [] 2), AV.int IntKind.i64 fr2])
 (And (CH s.1 s.2 = CH fs0 hand1)
 (cond (Option.isSome (keyR fs0 fr2))
 (∃ (s3 : FS),
 ∃ (fr4 : Int),
 And ([AV.ptr (Pl.mk 0 0 [] 3), AV.int IntKind.i64 i] = [AV.ptr (Pl.mk 0 0 [] 3), AV.int IntKind.i64 fr4])
 (And (FH s = FH s3)
 (And (OkS s3)
 (cond (dirtyB s3 fr4)
 (resPS (S F) T3 N 9 fuel 18 1 5 [] [true, true, true, false, true] m (St.mk [(0, AV.ptr (Pl.mk 0 0 [] 3)), (2, AV.bad), (3, AV.sl (Pl.mk 6 0 [] 1) 1 1 0 1), (4, AV.bad), (5, AV.bad), (6, AV.bad), (8, AV.bad), (13, AV.int IntKind.i64 (↑(List.length s.1) : Int)), (14, AV.int IntKind.i64 (IntKind.wrap IntKind.i64 (i + 1))), (15, AV.bad), (31, AV.bad)] [] (DR s [AV.int IntKind.i64 (Option.getD (keyR fs0 fr2) 0)]) false) k)
 (resPS (S F) T3 N 9 fuel 18 1 5 [] [true, true, true, false, true] m (St.mk [(0, AV.ptr (Pl.mk 0 0 [] 3)), (2, AV.bad), (3, AV.nils), (4, AV.bad), (5, AV.bad), (6, AV.bad), (8, AV.bad), (13, AV.int IntKind.i64 (↑(List.length s.1) : Int)), (14, AV.int IntKind.i64 (IntKind.wrap IntKind.i64 (i + 1))), (15, AV.bad), (31, AV.bad)] [] (FH s) false) k)))))
 (resPS (S F) T3 N 9 fuel 18 1 5 [] [true, true, true, false, true] m (St.mk [(0, AV.ptr (Pl.mk 0 0 [] 3)), (2, AV.bad), (3, AV.nils), (4, AV.bad), (5, AV.bad), (6, AV.bad), (8, AV.bad), (13, AV.int IntKind.i64 (↑(List.length s.1) : Int)), (14, AV.int IntKind.i64 (IntKind.wrap IntKind.i64 (i + 1))), (15, AV.bad), (31, AV.bad)] [] (FH s) false) k))))
 (k AV.nils (FH s) false)) : Prop) := by kernel_rfl
theorem stepS18 (N fuel m : Nat) (s : FS) (i : Int) (l : List Int) (k : AV → Heap → Bool → Prop) :
 (resPS (S F) T3 N 9 fuel 18 1 5 [] [true, true, true, false, true] (m + 1) ⟨L18 s (DL l.length) i, [], DR s (row encZ l), false⟩ k) =
 ((cond (decide (i < (↑(List.length s.1) : Int)))
 (∃ (fs0 : List Fr),
 ∃ (hand1 : Int),
 ∃ (fr2 : Int),
 And ([AV.ptr (Pl.mk 0 0 [] 2), AV.int IntKind.i64 i] = [AV.ptr (Pl.mk 0 0 [] 2), AV.int IntKind.i64 fr2])
 (And (CH s.1 s.2 = CH fs0 hand1)
 (cond (Option.isSome (keyR fs0 fr2))
 (∃ (s3 : FS),
 ∃ (fr4 : Int),
 And ([AV.ptr (Pl.mk 0 0 [] 3), AV.int IntKind.i64 i] = [AV.ptr (Pl.mk 0 0 [] 3), AV.int IntKind.i64 fr4])
 (And (FH s = FH s3)
 (And (OkS s3)
 (cond (dirtyB s3 fr4)
 (cond (decide (1 * List.length (row encZ l) = List.length l) && decide (List.length (row encZ l) = List.length l) && decide (0 + List.length l ≤ List.length l))
 (cond (decide (0 + List.length l + 1 ≤ List.length l))
 (resPS (S F) T3 N 9 fuel 18 1 5 [] [true, true, true, false, true] m (St.mk [(0, AV.ptr (Pl.mk 0 0 [] 3)), (2, AV.bad), (3, AV.sl (Pl.mk 6 0 [] (List.length l)) 1 (List.length l) 0 (List.length l + 1)), (4, AV.bad), (5, AV.bad), (6, AV.bad), (8, AV.bad), (13, AV.int IntKind.i64 (↑(List.length s.1) : Int)), (14, AV.int IntKind.i64 (IntKind.wrap IntKind.i64 (i + 1))), (15, AV.bad), (31, AV.bad)] [] (DR s (setMany (row encZ l) (0 + List.length l) [AV.int IntKind.i64 (Option.getD (keyR fs0 fr2) 0)])) false) k)
 (cond (true && decide (List.length l = List.length l) && true && decide ((List.length l + 1) * 8 ≤ 70368744177664) && decide (List.length l + 1 ≤ 70368744177664))
 (resPS (S F) T3 N 9 fuel 18 1 5 [] [true, true, true, false, true] m (St.mk [(0, AV.ptr (Pl.mk 0 0 [] 3)), (2, AV.bad), (3, AV.sl (Pl.mk 6 0 [] (1 * (List.length l + 1))) 1 (List.length l + 1) 0 (List.length l + 1)), (4, AV.bad), (5, AV.bad), (6, AV.bad), (8, AV.bad), (13, AV.int IntKind.i64 (↑(List.length s.1) : Int)), (14, AV.int IntKind.i64 (IntKind.wrap IntKind.i64 (i + 1))), (15, AV.bad), (31, AV.bad)] [] (DR s (row encZ l ++ [AV.int IntKind.i64 (Option.getD (keyR fs0 fr2) 0)])) false) k)
 (False)))
 (False))
 (resPS (S F) T3 N 9 fuel 18 1 5 [] [true, true, true, false, true] m (St.mk [(0, AV.ptr (Pl.mk 0 0 [] 3)), (2, AV.bad), (3, AV.sl (Pl.mk 6 0 [] (List.length l)) 1 (List.length l) 0 (List.length l)), (4, AV.bad), (5, AV.bad), (6, AV.bad), (8, AV.bad), (13, AV.int IntKind.i64 (↑(List.length s.1) : Int)), (14, AV.int IntKind.i64 (IntKind.wrap IntKind.i64 (i + 1))), (15, AV.bad), (31, AV.bad)] [] (DR s (row encZ l)) false) k)))))
 (resPS (S F) T3 N 9 fuel 18 1 5 [] [true, true, true, false, true] m (St.mk [(0, AV.ptr (Pl.mk 0 0 [] 3)), (2, AV.bad), (3, AV.sl (Pl.mk 6 0 [] (List.length l)) 1 (List.length l) 0 (List.length l)), (4, AV.bad), (5, AV.bad), (6, AV.bad), (8, AV.bad), (13, AV.int IntKind.i64 (↑(List.length s.1) : Int)), (14, AV.int IntKind.i64 (IntKind.wrap IntKind.i64 (i + 1))), (15, AV.bad), (31, AV.bad)] [] (DR s (row encZ l)) false) k))))
 (cond (decide (([] : List Nat) = [] ∧ 0 = 0 ∧ 1 = 1 ∧ 1 = 1 ∧ true = true ∧ List.length (row encZ l) = List.length l ∧ List.length (row encZ l) = List.length l ∧ 0 < List.length l ∧ 0 + List.length l ≤ List.length l ∧ List.length l < 4611686018427387904) && List.all (List.take (List.length l) (List.drop 0 (row encZ l))) fun (x : AV) => AV.isIntK x IntKind.i64)
 (k (AV.sl (Pl.mk 6 0 [] (List.length l)) 1 (List.length l) 0 (List.length l)) (DR s (setMany (row encZ l) 0 (intsL (sortZ (toInts (List.take (List.length l) (List.drop 0 (row encZ l)))))))) false)
 (False))) : Prop) := by kernel_rfl
end Go.Proofs.YtlnbbgagccgnjaaDoor
/-
  The dirty ones.
-/
namespace Go.Proofs.YtlnbbgagccgnjaaDoor
open Go Go.X
variable {F : Nat}
/-- The keys of the frames from number j on that hold a dirty page. -/
noncomputable def dFrom (s : FS) : Nat → Nat → List Int
  | 0, _ => []
  | d + 1, j => (if dirtyB s j then [(keyR s.fs j).getD 0] else []) ++ dFrom s d (j + 1)
noncomputable def dirties (s : FS) : List Int := dFrom s s.fs.length 0
def dOut (s : FS) (k : AV → Heap → Bool → Prop) : List Int → Prop
  | [] => k .nils (FH s) false
  | l => k (DL l.length) (DR s (row encZ l)) false
def S18 (s : FS) (l : List Int) (i : Int) : St := match l with
  | [] => ⟨L18 s .nils i, [], FH s, false⟩
  | l => ⟨L18 s (DL l.length) i, [], DR s (row encZ l), false⟩
theorem keyR_of_dirty {s : FS} {fr : Int} (h : dirtyB s fr = true) : (keyR s.fs fr).isSome = true := by
  unfold dirtyB at h
  cases hk : keyR s.fs fr with
  | none => rw [hk] at h; simp at h
  | some key => rfl
theorem toInts_row (l : List Int) : toInts (row encZ l) = l := toInts_ints l
theorem dFrom_length (s : FS) : ∀ d j, (dFrom s d j).length ≤ d
  | 0, _ => Nat.le_refl _
  | d + 1, j => by
    have := dFrom_length s d (j + 1)
    unfold dFrom
    rw [List.length_append]
    split <;> simp <;> omega
theorem row_one (z : Int) : [AV.int .i64 z] = row encZ [z] := rfl
theorem intsL_row (l : List Int) : intsL l = row encZ l := rfl
theorem all_ints (l : List Int) : (row encZ l).all (fun x => x.isIntK .i64) = true := all_row (fun _ => rfl) l
theorem setMany_all {α : Type} {enc : α → AV} (l m : List α) (h : m.length = l.length) : setMany (row enc l) 0 (row enc m) = row enc m := by
  unfold setMany
  simp [row_length, h]
theorem dOut_of {s : FS} {k : AV → Heap → Bool → Prop} {l : List Int} {n : Nat} {D : List AV} (hl : l ≠ []) (hn : l.length = n) (hD : row encZ l = D) : dOut s k l = k (.sl ⟨6, 0, [], n⟩ 1 n 0 n) (DR s D) false := by
  subst hn hD
  cases l with
  | nil => exact absurd rfl hl
  | cons => rfl
theorem S18_of {s : FS} {l : List Int} {i : Int} {n : Nat} {D : List AV} (hl : l ≠ []) (hn : l.length = n) (hD : row encZ l = D) : S18 s l i = ⟨L18 s (.sl ⟨6, 0, [], n⟩ 1 n 0 n) i, [], DR s D, false⟩ := by
  subst hn hD
  cases l with
  | nil => exact absurd rfl hl
  | cons => rfl
theorem loop18 (N fuel : Nat) (s : FS) (k : AV → Heap → Bool → Prop) (hs : OkS s) : ∀ (d j n : Nat) (l : List Int), j + d = s.fs.length → d < n → l.length ≤ j → dOut s k (sortZ (l ++ dFrom s d j)) →
    resPS (S F) T3 N 9 fuel 18 1 5 [] [true, true, true, false, true] n (S18 s l j) k
  | d, j, 0, l, _, hn, _, _ => by omega
  | 0, j, n + 1, l, hd, _, hl, hk => by
    have hj : j = s.fs.length := by omega
    have hh := hs.hl
    have e1 : ¬ ((j : Int) < (s.fs.length : Int)) := by omega
    cases l with
    | nil =>
      show resPS (S F) T3 N 9 fuel 18 1 5 [] [true, true, true, false, true] (n + 1) ⟨L18 s .nils j, [], FH s, false⟩ k
      rw [stepN18, decide_eq_false e1, cond_false]
      simpa [dFrom, sortZ, dOut] using hk
    | cons a l =>
      show resPS (S F) T3 N 9 fuel 18 1 5 [] [true, true, true, false, true] (n + 1) ⟨L18 s (DL (a :: l).length) j, [], DR s (row encZ (a :: l)), false⟩ k
      rw [stepS18, decide_eq_false e1, cond_false]
      generalize hL : a :: l = L at hk hl
      have hpos : 0 < L.length := by rw [← hL]; simp
      have hb : L.length < 4611686018427387904 := by omega
      simp only [row_length, row_drop, row_take, List.drop_zero, List.take_length, all_ints, toInts_row, intsL_row, setMany_all _ _ (sortZ_length L), hpos, hb, Nat.zero_add, Nat.le_refl, and_self, decide_true, Bool.and_self, cond_true]
      rw [dFrom, List.append_nil, dOut_of (n := L.length) (D := row encZ (sortZ L)) (fun h => by have := sortZ_length L; rw [h] at this; simp at this; omega) (sortZ_length L) rfl] at hk
      exact hk
  | d + 1, j, n + 1, l, hd, hn, hl, hk => by
    have hj : j < s.fs.length := by omega
    have e1 : ((j : Int) < (s.fs.length : Int)) := by omega
    have hh := hs.hl
    have hw : IntKind.i64.wrap ((j : Int) + 1) = ((j + 1 : Nat) : Int) := wrapS (by omega)
    have ih := loop18 N fuel s k hs d (j + 1) n
    cases l with
    | nil =>
      show resPS (S F) T3 N 9 fuel 18 1 5 [] [true, true, true, false, true] (n + 1) ⟨L18 s .nils j, [], FH s, false⟩ k
      rw [stepN18, decide_eq_true e1, cond_true, hw]
      refine ⟨s.fs, s.hand, j, rfl, rfl, ?_⟩
      cases hb : dirtyB s j with
      | false =>
        have hk' : dOut s k (sortZ ([] ++ dFrom s d (j + 1))) := by simpa [dFrom, hb] using hk
        have h1 := ih [] (by omega) (by omega) (by simp) hk'
        cases hkey : keyR s.fs j with
        | none => exact h1
        | some key => exact ⟨s, j, rfl, rfl, hs, by rw [hb]; exact h1⟩
      | true =>
        have hk' : dOut s k (sortZ ([(keyR s.fs j).getD 0] ++ dFrom s d (j + 1))) := by simpa [dFrom, hb] using hk
        rw [keyR_of_dirty hb, cond_true]
        refine ⟨s, j, rfl, rfl, hs, ?_⟩
        rw [hb]
        exact ih _ (by omega) (by omega) (by simp) hk'
    | cons a l =>
      show resPS (S F) T3 N 9 fuel 18 1 5 [] [true, true, true, false, true] (n + 1) ⟨L18 s (DL (a :: l).length) j, [], DR s (row encZ (a :: l)), false⟩ k
      rw [stepS18, decide_eq_true e1, cond_true, hw]
      generalize hL : a :: l = L at hk hl
      have hne : L ≠ [] := by rw [← hL]; simp
      refine ⟨s.fs, s.hand, j, rfl, rfl, ?_⟩
      cases hb : dirtyB s j with
      | false =>
        have hk' : dOut s k (sortZ (L ++ dFrom s d (j + 1))) := by simpa [dFrom, hb] using hk
        have h1 := ih L (by omega) (by omega) (by omega) hk'
        rw [S18_of hne rfl rfl] at h1
        cases hkey : keyR s.fs j with
        | none => exact h1
        | some key => exact ⟨s, j, rfl, rfl, hs, by rw [hb]; exact h1⟩
      | true =>
        have hk' : dOut s k (sortZ ((L ++ [(keyR s.fs j).getD 0]) ++ dFrom s d (j + 1))) := by simpa [dFrom, hb] using hk
        rw [keyR_of_dirty hb, cond_true]
        refine ⟨s, j, rfl, rfl, hs, ?_⟩
        have h1 := ih (L ++ [(keyR s.fs j).getD 0]) (by omega) (by omega) (by simp; omega) hk'
        rw [S18_of (n := L.length + 1) (by simp) (by simp) (row_append.symm)] at h1
        have e2 : ¬ (L.length + 1 ≤ L.length) := by omega
        have e3 : (L.length + 1) * 8 ≤ 70368744177664 := by omega
        have e4 : L.length + 1 ≤ 70368744177664 := by omega
        simp [hb, row_one, e2, e3, e4] at h1 ⊢
        exact h1
def t18 : PT := fun args H k => ∃ s : FS, args = [F0] ∧ H = FH s ∧ OkS s ∧ (sortZ (dirties s) = [] → k .nils H false) ∧ ∀ l, l = sortZ (dirties s) → l ≠ [] → k (DL l.length) (DR s (row encZ l)) false
theorem dirty18 (N : Nat) (args : List AV) (H : Heap) (k : AV → Heap → Bool → Prop) : t18 args H k → runP (S F) T3 N 9 (S F).fu 18 args H k := by
  rintro ⟨s, rfl, rfl, hs, hk1, hk2⟩
  rw [start18]
  have hh := hs.hl
  have hk : dOut s k (sortZ (dirties s)) := by
    cases hl : sortZ (dirties s) with
    | nil => exact hk1 hl
    | cons a l => exact hk2 _ hl.symm (by simp)
  have h1 := loop18 (F := F) N (S F).fu s k hs s.fs.length 0 (S F).fu [] (by omega) (by rw [S_fu]; omega) (by simp) hk
  have e : (s.ps.length : Int) = (s.fs.length : Int) := by rw [hs.hp]
  rw [e]
  exact h1
end Go.Proofs.YtlnbbgagccgnjaaDoor
/-
  Steps, as they come in.
-/
namespace Go.Proofs.YtlnbbgagccgnjaaDoor
open Go Go.X
/-- A step, as it came in. -/
structure Stp where
  kind : Int
  frame : Int
  key : Int
  off : Int
  v : Int
  data : Option (List Int)
  deriving Inhabited
def dataAV : Option (List Int) → AV
  | none => .nils
  | some ds => .isl 1 (row encU ds)
def encSt (x : Stp) : AV := .agg 6 [.int .i64 x.kind, .int .i64 x.frame, .int .i64 x.key, .int .i64 x.off, .int .u8 x.v, dataAV x.data]
end Go.Proofs.YtlnbbgagccgnjaaDoor
/-
  The reference's frames, as lists.
-/
namespace Go.Proofs.YtlnbbgagccgnjaaDoor
open Go Go.X
/-- A frame, as the reference lays it. -/
def encR (f : Fr) : AV := .agg 3 [.int .i64 f.key, .int .i64 f.pins, .bool f.mark]
/-- What the reference's frame holds. -/
structure Hd where
  base : Ar 32
  now : Ar 32
  heads : Ar 8
  deriving Inhabited
def encHd (h : Hd) : AV := .agg 72 [encA .u8 h.base, encA .u8 h.now, encA .i64 h.heads]
structure RS where
  fs : List Fr
  hs : List Hd
def KH (fs : List Fr) : Heap := [some ⟨.agg 2 [.sl ⟨1, 0, [], 3 * fs.length⟩ 3 fs.length 0 fs.length, .int .i64 0], false, false⟩, some ⟨.arr 3 (row encR fs), true, true⟩]
def GH (s : RS) : Heap := [some ⟨.agg 2 [.ptr ⟨1, 0, [], 2⟩, .sl ⟨3, 0, [], 72 * s.hs.length⟩ 72 s.hs.length 0 s.hs.length], false, false⟩,
  some ⟨.agg 2 [.sl ⟨2, 0, [], 3 * s.fs.length⟩ 3 s.fs.length 0 s.fs.length, .int .i64 0], false, false⟩, some ⟨.arr 3 (row encR s.fs), true, true⟩, some ⟨.arr 72 (row encHd s.hs), true, true⟩]
def GR (nf nh : Nat) (A B : List AV) : Heap := [some ⟨.agg 2 [.ptr ⟨1, 0, [], 2⟩, .sl ⟨3, 0, [], 72 * nh⟩ 72 nh 0 nh], false, false⟩,
  some ⟨.agg 2 [.sl ⟨2, 0, [], 3 * nf⟩ 3 nf 0 nf, .int .i64 0], false, false⟩, some ⟨.arr 3 A, true, true⟩, some ⟨.arr 72 B, true, true⟩]
def KR (nf : Nat) (A : List AV) : Heap := [some ⟨.agg 2 [.sl ⟨1, 0, [], 3 * nf⟩ 3 nf 0 nf, .int .i64 0], false, false⟩, some ⟨.arr 3 A, true, true⟩]
end Go.Proofs.YtlnbbgagccgnjaaDoor
/- The reference's frames: trees.
-/
namespace Go.Proofs.YtlnbbgagccgnjaaDoor
open Go Go.X
variable {F : Nat}
abbrev L35 (key i : Int) : List (Nat × AV) := [(0, C0), (1, .int .i64 key), (4, .bad), (5, .int .i64 i), (16, .bad), (28, .bad)]
theorem start35 (N fuel : Nat) (fs : List Fr) (key : Int) (k : AV → Heap → Bool → Prop) :
 (runP (S F) T1 N 9 fuel 35 [C0, .int .i64 key] (KH fs) k) =
 ((resPS (S F) T1 N 9 fuel 35 2 2 [] [true, false, true] fuel (St.mk [(0, AV.ptr (Pl.mk 0 0 [] 2)), (1, AV.int IntKind.i64 key), (4, AV.bad), (5, AV.int IntKind.i64 0), (16, AV.bad), (28, AV.bad)] [] (KH fs) false) k) : Prop) := by kernel_rfl
theorem step35 (N fuel n : Nat) (fs : List Fr) (key i : Int) (k : AV → Heap → Bool → Prop) :
 (resPS (S F) T1 N 9 fuel 35 2 2 [] [true, false, true] (n + 1) ⟨L35 key i, [], KH fs, false⟩ k) =
 ((cond (decide (i < (↑(List.length fs) : Int)))
 (cond (decide (key ≥ 0))
 (cond (decide (0 ≤ i))
 (cond (decide (Int.toNat i < List.length fs))
 (cond (okAt (AV.arr 3 (row encR fs)) [0 + Int.toNat i, 0] (0 + (0 + Int.toNat i) * 3 + 0) (3 * List.length fs) false 1)
 (cond (AV.isIntK (projT [0 + Int.toNat i, 0] (AV.arr 3 (row encR fs))) IntKind.i64)
 (cond (AV.toInt (projT [0 + Int.toNat i, 0] (AV.arr 3 (row encR fs))) == key)
 (k (AV.int IntKind.i64 i) (KH fs) false)
 (resPS (S F) T1 N 9 fuel 35 2 2 [] [true, false, true] n (St.mk [(0, AV.ptr (Pl.mk 0 0 [] 2)), (1, AV.int IntKind.i64 key), (4, AV.bad), (5, AV.int IntKind.i64 (IntKind.wrap IntKind.i64 (i + 1))), (16, AV.bad), (28, AV.bad)] [] (KH fs) false) k))
 (False))
 (False))
 (False))
 (False))
 (k (AV.int IntKind.i64 (-1 : Int)) (KH fs) false))
 (k (AV.int IntKind.i64 (-1 : Int)) (KH fs) false)) : Prop) := by kernel_rfl
theorem tree51 (N fuel : Nat) (fs : List Fr) (a : Int) (k : AV → Heap → Bool → Prop) :
 (runP (S F) T1 N 9 fuel 51 [C0, .int .i64 a] (KH fs) k) =
 ((cond (decide (a ≥ 0))
 (cond (!decide (a < (↑(List.length fs) : Int)))
 (k (AV.bool false) (KH fs) false)
 (cond (decide (0 ≤ a))
 (cond (decide (Int.toNat a < List.length fs))
 (cond (okAt (AV.arr 3 (row encR fs)) [0 + Int.toNat a, 1] (0 + (0 + Int.toNat a) * 3 + 1) (3 * List.length fs) false 1)
 (cond (AV.isIntK (projT [0 + Int.toNat a, 1] (AV.arr 3 (row encR fs))) IntKind.i64)
 (cond (decide (AV.toInt (projT [0 + Int.toNat a, 1] (AV.arr 3 (row encR fs))) > 0))
 (k (AV.bool false) (KH fs) false)
 (cond (decide (0 ≤ a))
 (cond (decide (Int.toNat a < List.length fs))
 (cond (okPl (AV.arr 3 (row encR fs)) [0 + Int.toNat a] (0 + (0 + Int.toNat a) * 3) (3 * List.length fs) 3)
 (∀ (ys0 : List AV),
 (ys0 = List.set (row encR fs) (0 + Int.toNat a) (AV.agg 3 [AV.int IntKind.i64 (-1 : Int), AV.int IntKind.i64 0, AV.bool false])) →
 k (AV.bool true) (KR (List.length fs) ys0) false)
 (False))
 (False))
 (False)))
 (False))
 (False))
 (False))
 (False)))
 (k (AV.bool false) (KH fs) false)) : Prop) := by kernel_rfl
theorem tree50 (N fuel : Nat) (fs : List Fr) (a : Int) (k : AV → Heap → Bool → Prop) :
 (runP (S F) T1 N 9 fuel 50 [C0, .int .i64 a] (KH fs) k) =
 ((cond (decide (a ≥ 0))
 (cond (decide (a < (↑(List.length fs) : Int)))
 (cond (decide (0 ≤ a))
 (cond (decide (Int.toNat a < List.length fs))
 (cond (okAt (AV.arr 3 (row encR fs)) [0 + Int.toNat a, 0] (0 + (0 + Int.toNat a) * 3 + 0) (3 * List.length fs) false 1)
 (cond (AV.isIntK (projT [0 + Int.toNat a, 0] (AV.arr 3 (row encR fs))) IntKind.i64)
 (cond (decide (AV.toInt (projT [0 + Int.toNat a, 0] (AV.arr 3 (row encR fs))) ≥ 0))
 (cond (decide (0 ≤ a))
 (cond (decide (Int.toNat a < List.length fs))
 (cond (okPl (AV.arr 3 (row encR fs)) [0 + Int.toNat a, 2] (0 + (0 + Int.toNat a) * 3 + 2) (3 * List.length fs) 1)
 (∀ (ys0 : List AV),
 (ys0 = List.set (row encR fs) (0 + Int.toNat a) (putT [2] (Option.getD (row encR fs)[0 + Int.toNat a]? AV.bad) (AV.bool true))) →
 k (AV.tuple []) (KR (List.length fs) ys0) false)
 (False))
 (False))
 (False))
 (k (AV.tuple []) (KH fs) false))
 (False))
 (False))
 (False))
 (False))
 (k (AV.tuple []) (KH fs) false))
 (k (AV.tuple []) (KH fs) false)) : Prop) := by kernel_rfl
theorem tree29 (N fuel : Nat) (fs : List Fr) (a : Int) (k : AV → Heap → Bool → Prop) :
 (runP (S F) T1 N 9 fuel 29 [C0, .int .i64 a] (KH fs) k) =
 ((cond (decide (a ≥ 0))
 (cond (!decide (a < (↑(List.length fs) : Int)))
 (k (AV.bool false) (KH fs) false)
 (cond (decide (0 ≤ a))
 (cond (decide (Int.toNat a < List.length fs))
 (cond (okAt (AV.arr 3 (row encR fs)) [0 + Int.toNat a, 0] (0 + (0 + Int.toNat a) * 3 + 0) (3 * List.length fs) false 1)
 (cond (AV.isIntK (projT [0 + Int.toNat a, 0] (AV.arr 3 (row encR fs))) IntKind.i64)
 (cond (decide (AV.toInt (projT [0 + Int.toNat a, 0] (AV.arr 3 (row encR fs))) < 0))
 (k (AV.bool false) (KH fs) false)
 (cond (decide (0 ≤ a))
 (cond (decide (Int.toNat a < List.length fs))
 (cond (okAt (AV.arr 3 (row encR fs)) [0 + Int.toNat a, 1] (0 + (0 + Int.toNat a) * 3 + 1) (3 * List.length fs) false 1)
 (cond (AV.isIntK (projT [0 + Int.toNat a, 1] (AV.arr 3 (row encR fs))) IntKind.i64)
 (cond (decide (0 ≤ a))
 (cond (decide (Int.toNat a < List.length fs))
 (cond (okPl (AV.arr 3 (row encR fs)) [0 + Int.toNat a, 1] (0 + (0 + Int.toNat a) * 3 + 1) (3 * List.length fs) 1)
 (∀ (ys0 : List AV),
 (ys0 = List.set (row encR fs) (0 + Int.toNat a) (putT [1] (Option.getD (row encR fs)[0 + Int.toNat a]? AV.bad) (AV.int IntKind.i64 (IntKind.wrap IntKind.i64 (AV.toInt (projT [0 + Int.toNat a, 1] (AV.arr 3 (row encR fs))) + 1))))) →
 k (AV.bool true) (KR (List.length fs) ys0) false)
 (False))
 (False))
 (False))
 (False))
 (False))
 (False))
 (False)))
 (False))
 (False))
 (False))
 (False)))
 (k (AV.bool false) (KH fs) false)) : Prop) := by kernel_rfl
theorem tree31 (N fuel : Nat) (fs : List Fr) (a : Int) (k : AV → Heap → Bool → Prop) :
 (runP (S F) T1 N 9 fuel 31 [C0, .int .i64 a] (KH fs) k) =
 ((cond (decide (a ≥ 0))
 (cond (!decide (a < (↑(List.length fs) : Int)))
 (k (AV.bool false) (KH fs) false)
 (cond (decide (0 ≤ a))
 (cond (decide (Int.toNat a < List.length fs))
 (cond (okAt (AV.arr 3 (row encR fs)) [0 + Int.toNat a, 1] (0 + (0 + Int.toNat a) * 3 + 1) (3 * List.length fs) false 1)
 (cond (AV.isIntK (projT [0 + Int.toNat a, 1] (AV.arr 3 (row encR fs))) IntKind.i64)
 (cond (AV.toInt (projT [0 + Int.toNat a, 1] (AV.arr 3 (row encR fs))) == 0)
 (k (AV.bool false) (KH fs) false)
 (cond (decide (0 ≤ a))
 (cond (decide (Int.toNat a < List.length fs))
 (cond (okAt (AV.arr 3 (row encR fs)) [0 + Int.toNat a, 1] (0 + (0 + Int.toNat a) * 3 + 1) (3 * List.length fs) false 1)
 (cond (AV.isIntK (projT [0 + Int.toNat a, 1] (AV.arr 3 (row encR fs))) IntKind.i64)
 (cond (decide (0 ≤ a))
 (cond (decide (Int.toNat a < List.length fs))
 (cond (okPl (AV.arr 3 (row encR fs)) [0 + Int.toNat a, 1] (0 + (0 + Int.toNat a) * 3 + 1) (3 * List.length fs) 1)
 (∀ (ys0 : List AV),
 (ys0 = List.set (row encR fs) (0 + Int.toNat a) (putT [1] (Option.getD (row encR fs)[0 + Int.toNat a]? AV.bad) (AV.int IntKind.i64 (IntKind.wrap IntKind.i64 (AV.toInt (projT [0 + Int.toNat a, 1] (AV.arr 3 (row encR fs))) - 1))))) →
 k (AV.bool true) (KR (List.length fs) ys0) false)
 (False))
 (False))
 (False))
 (False))
 (False))
 (False))
 (False)))
 (False))
 (False))
 (False))
 (False)))
 (k (AV.bool false) (KH fs) false)) : Prop) := by kernel_rfl
theorem tree49 (N fuel : Nat) (p : Ar 32) (off : Int) (ds : List Int) (k : AV → Heap → Bool → Prop) :
 (runP (S F) T1 N 30 fuel 49 [encA .u8 p, .int .i64 off, .isl 1 (row encU ds)] [] k) =
 ((cond (decide (off < 0))
 (k (AV.agg 33 [AV.arr 1 (arI IntKind.u8 32 (AV.arr 1 (encL IntKind.u8 32 fun (_i : Nat) => 0))), AV.bool false]) [] false)
 (cond (decide (off > 32))
 (k (AV.agg 33 [AV.arr 1 (arI IntKind.u8 32 (AV.arr 1 (encL IntKind.u8 32 fun (_i : Nat) => 0))), AV.bool false]) [] false)
 (cond (decide ((↑(List.length (row encU ds)) : Int) < 1))
 (k (AV.agg 33 [AV.arr 1 (arI IntKind.u8 32 (AV.arr 1 (encL IntKind.u8 32 fun (_i : Nat) => 0))), AV.bool false]) [] false)
 (cond (decide ((↑(List.length (row encU ds)) : Int) > IntKind.wrap IntKind.i64 (32 - off)))
 (k (AV.agg 33 [AV.arr 1 (arI IntKind.u8 32 (AV.arr 1 (encL IntKind.u8 32 fun (_i : Nat) => 0))), AV.bool false]) [] false)
 (cond (decide (0 ≤ off))
 (cond (decide (Int.toNat off ≤ 32) && true)
 (cond (decide (Int.toNat off + (32 - Int.toNat off) ≤ 32))
 (cond ((List.all (row encU ds) fun (u : AV) => AV.flatLen u == 1) && reflessL (row encU ds))
 (cond (okAt (AV.arr 1 (setMany (encL IntKind.u8 32 p.1) (Int.toNat off) (List.take (min (List.length (row encU ds)) (32 - Int.toNat off)) (row encU ds)))) [] 0 32 true 32)
 (cond (AV.isArrI (AV.arr 1 (setMany (encL IntKind.u8 32 p.1) (Int.toNat off) (List.take (min (List.length (row encU ds)) (32 - Int.toNat off)) (row encU ds)))) 32 IntKind.u8)
 (k (AV.agg 33 [AV.arr 1 (arI IntKind.u8 32 (AV.arr 1 (arI IntKind.u8 32 (AV.arr 1 (setMany (encL IntKind.u8 32 p.1) (Int.toNat off) (List.take (min (List.length (row encU ds)) (32 - Int.toNat off)) (row encU ds))))))), AV.bool true]) [] false)
 (False))
 (False))
 (False))
 (False))
 (False))
 (False)))))) : Prop) := by kernel_rfl
theorem nil49 (N fuel : Nat) (p : Ar 32) (off : Int) (k : AV → Heap → Bool → Prop) :
 (runP (S F) T1 N 30 fuel 49 [encA .u8 p, .int .i64 off, .nils] [] k) =
 ((cond (decide (off < 0))
 (k (AV.agg 33 [AV.arr 1 (arI IntKind.u8 32 (AV.arr 1 (encL IntKind.u8 32 fun (_i : Nat) => 0))), AV.bool false]) [] false)
 (cond (decide (off > 32))
 (k (AV.agg 33 [AV.arr 1 (arI IntKind.u8 32 (AV.arr 1 (encL IntKind.u8 32 fun (_i : Nat) => 0))), AV.bool false]) [] false)
 (k (AV.agg 33 [AV.arr 1 (arI IntKind.u8 32 (AV.arr 1 (encL IntKind.u8 32 fun (_i : Nat) => 0))), AV.bool false]) [] false))) : Prop) := by kernel_rfl
end Go.Proofs.YtlnbbgagccgnjaaDoor
/-
  The reference's frames: finding, dropping, marking, pinning; bytes laid over a page.
-/
namespace Go.Proofs.YtlnbbgagccgnjaaDoor
open Go Go.X
variable {F : Nat}
theorem okR0 {fs : List Fr} {j g : Nat} (h : j < fs.length) (hg : 3 * fs.length = g) : okAt (.arr 3 (row encR fs)) [j, 0] (j * 3) g false 1 = true := okAt_row h hg (Nat.mul_comm _ _) rfl rfl rfl
theorem okR1 {fs : List Fr} {j g : Nat} (h : j < fs.length) (hg : 3 * fs.length = g) : okAt (.arr 3 (row encR fs)) [j, 1] (j * 3 + 1) g false 1 = true := okAt_row h hg (by rw [Nat.mul_comm]; rfl) rfl rfl rfl
theorem opR3 {fs : List Fr} {j g : Nat} (h : j < fs.length) (hg : 3 * fs.length = g) : okPl (.arr 3 (row encR fs)) [j] (j * 3) g 3 = true := okPl_row h hg (Nat.mul_comm _ _) rfl rfl
theorem opR1 {fs : List Fr} {j g : Nat} (h : j < fs.length) (hg : 3 * fs.length = g) : okPl (.arr 3 (row encR fs)) [j, 1] (j * 3 + 1) g 1 = true := okPl_row h hg (by rw [Nat.mul_comm]; rfl) rfl rfl
theorem opR2 {fs : List Fr} {j g : Nat} (h : j < fs.length) (hg : 3 * fs.length = g) : okPl (.arr 3 (row encR fs)) [j, 2] (j * 3 + 2) g 1 = true := okPl_row h hg (by rw [Nat.mul_comm]; rfl) rfl rfl
theorem prR0 {fs : List Fr} {j : Nat} (h : j < fs.length) : projT [j, 0] (.arr 3 (row encR fs)) = .int .i64 fs[j].key := projT_row h
theorem prR1 {fs : List Fr} {j : Nat} (h : j < fs.length) : projT [j, 1] (.arr 3 (row encR fs)) = .int .i64 fs[j].pins := projT_row h
attribute [simp] okR0 okR1 opR3 opR1 opR2 prR0 prR1
/-- Where a key was found. -/
def fV (r : Option Nat) : Int := match r with
  | some j => j
  | none => -1
set_option maxRecDepth 100000 in
theorem loop35 (N fuel : Nat) (fs : List Fr) (key : Int) (k : AV → Heap → Bool → Prop) (hl : fs.length < 1000) :
    ∀ (d j n : Nat), j + d = fs.length → d < n → k (.int .i64 (fV (if key < 0 then none else fnd key (fs.drop j) j))) (KH fs) false → resPS (S F) T1 N 9 fuel 35 2 2 [] [true, false, true] n ⟨L35 key j, [], KH fs, false⟩ k
  | d, j, 0, _, hn, _ => by omega
  | 0, j, n + 1, hd, _, hk => by
    rw [step35]
    have hj : j = fs.length := by omega
    subst hj
    simpa [fnd, fV] using hk
  | d + 1, j, n + 1, hd, hn, hk => by
    have hj : j < fs.length := by omega
    have hdr : fs.drop j = fs[j] :: fs.drop (j + 1) := by simp
    have hw : IntKind.i64.wrap ((j : Int) + 1) = ((j + 1 : Nat) : Int) := wrapS (by omega)
    rw [step35]
    by_cases h0 : key < 0
    · have e1 : ¬ (key ≥ 0) := by omega
      simp only [h0, if_true] at hk
      simpa [hj, e1, fV] using hk
    have e1 : key ≥ 0 := by omega
    have ih := loop35 N fuel fs key k hl d (j + 1) n (by omega) (by omega)
    simp only [h0, if_false] at hk ih
    rw [hdr, fnd] at hk
    simp only [Int.ofNat_lt, hj, e1, decide_true, cond_true, Int.natCast_nonneg, Int.toNat_natCast, Nat.zero_add, Nat.add_zero, okR0 hj rfl, prR0 hj, hw]
    by_cases hkk : fs[j].key = key
    · simpa [AV.isIntK, AV.toInt, hkk, fV] using hk
    · simp only [hkk, if_false] at hk
      have h := ih hk
      simp only [AV.isIntK, AV.toInt, hkk, cond_false, beq_eq_false_iff_ne.2, ne_eq, not_false_eq_true]
      exact h
def t35 : PT := fun args H k => ∃ (fs : List Fr) (key : Int), args = [C0, .int .i64 key] ∧ H = KH fs ∧ fs.length < 1000 ∧ k (.int .i64 (fV (fR key fs))) H false
theorem find35 (N : Nat) (args : List AV) (H : Heap) (k : AV → Heap → Bool → Prop) : t35 args H k → runP (S F) T1 N 9 (S F).fu 35 args H k := by
  rintro ⟨fs, key, rfl, rfl, hl, hk⟩
  rw [start35]
  exact loop35 (F := F) N (S F).fu fs key k hl fs.length 0 (S F).fu (by omega) (by rw [S_fu]; omega) hk
/-- A frame gives its key up, in the reference. -/
def dropG (fs : List Fr) (fr : Int) : Option (List Fr) := if fr < 0 then none else match fs[fr.toNat]? with
  | some f => if f.pins > 0 then none else some (fs.set fr.toNat ⟨-1, false, 0⟩)
  | none => none
def t51 : PT := fun args H k => ∃ (fs : List Fr) (a : Int), args = [C0, .int .i64 a] ∧ H = KH fs ∧ k (.bool (dropG fs a).isSome) (KH ((dropG fs a).getD fs)) false
theorem KR_at {n : Nat} (fs : List Fr) (h : fs.length = n) : KR n (row encR fs) = KH fs := by
  subst h; rfl
theorem enc_drop : AV.agg 3 [AV.int IntKind.i64 (-1 : Int), AV.int IntKind.i64 0, AV.bool false] = encR ⟨-1, false, 0⟩ := rfl
theorem drop51 (N : Nat) (args : List AV) (H : Heap) (k : AV → Heap → Bool → Prop) : t51 args H k → runP (S F) T1 N 9 (S F).fu 51 args H k := by
  rintro ⟨fs, a, rfl, rfl, hk⟩
  rw [tree51]
  unfold dropG at hk
  by_cases h0 : a < 0
  · have e0 : ¬ (a ≥ 0) := by omega
    simpa [h0, e0] using hk
  obtain ⟨j, rfl⟩ : ∃ j : Nat, a = j := ⟨a.toNat, by omega⟩
  by_cases h1 : fs.length ≤ j
  · have e1 : ¬ ((j : Int) < (fs.length : Int)) := by omega
    simpa [e1, h0, List.getElem?_eq_none h1] using hk
  have hj : j < fs.length := by omega
  simp only [h0, if_false, Int.toNat_natCast, List.getElem?_eq_getElem hj] at hk
  have e0 : (j : Int) ≥ 0 := by omega
  have e1 : (j : Int) < (fs.length : Int) := by omega
  simp only [e0, e1, decide_true, cond_true, Bool.not_true, cond_false, Int.toNat_natCast, hj, Nat.zero_add, okR1 hj rfl, prR1 hj]
  by_cases hp : fs[j].pins > 0
  · simpa [AV.isIntK, AV.toInt, hp] using hk
  · simp only [hp, if_false, Option.isSome_some, Option.getD_some] at hk
    simp only [AV.isIntK, AV.toInt, hp, decide_false, cond_false, opR3 hj rfl, cond_true, enc_drop, row_set]
    rintro _ rfl
    rw [KR_at _ (by simp)]
    simpa using hk
/-- A frame is marked, in the reference. -/
def touchG (fs : List Fr) (fr : Int) : List Fr := if fr < 0 then fs else match fs[fr.toNat]? with
  | some f => if f.key < 0 then fs else fs.set fr.toNat ⟨f.key, true, f.pins⟩
  | none => fs
def t50 : PT := fun args H k => ∃ (fs : List Fr) (a : Int), args = [C0, .int .i64 a] ∧ H = KH fs ∧ k (.tuple []) (KH (touchG fs a)) false
theorem set_mark {fs : List Fr} {j : Nat} (h : j < fs.length) : putT [2] (Option.getD (row encR fs)[j]? AV.bad) (AV.bool true) = encR ⟨fs[j].key, true, fs[j].pins⟩ := by
  rw [row_get h]; rfl
theorem set_pins {fs : List Fr} {j : Nat} {z : Int} (h : j < fs.length) : putT [1] (Option.getD (row encR fs)[j]? AV.bad) (AV.int .i64 z) = encR ⟨fs[j].key, fs[j].mark, z⟩ := by
  rw [row_get h]; rfl
theorem touch50 (N : Nat) (args : List AV) (H : Heap) (k : AV → Heap → Bool → Prop) : t50 args H k → runP (S F) T1 N 9 (S F).fu 50 args H k := by
  rintro ⟨fs, a, rfl, rfl, hk⟩
  rw [tree50]
  unfold touchG at hk
  by_cases h0 : a < 0
  · have e0 : ¬ (a ≥ 0) := by omega
    simpa [h0, e0] using hk
  obtain ⟨j, rfl⟩ : ∃ j : Nat, a = j := ⟨a.toNat, by omega⟩
  by_cases h1 : fs.length ≤ j
  · have e1 : ¬ ((j : Int) < (fs.length : Int)) := by omega
    simpa [e1, h0, List.getElem?_eq_none h1] using hk
  have hj : j < fs.length := by omega
  simp only [h0, if_false, Int.toNat_natCast, List.getElem?_eq_getElem hj] at hk
  have e0 : (j : Int) ≥ 0 := by omega
  have e1 : (j : Int) < (fs.length : Int) := by omega
  simp only [e0, e1, decide_true, cond_true, Int.toNat_natCast, hj, Nat.zero_add, Nat.add_zero, okR0 hj rfl, prR0 hj, AV.isIntK, AV.toInt]
  by_cases hp : fs[j].key < 0
  · have hp' : ¬ fs[j].key ≥ 0 := by omega
    simp only [hp, if_true] at hk
    simpa [AV.isIntK, AV.toInt, hp'] using hk
  · have hp' : fs[j].key ≥ 0 := by omega
    simp only [hp, if_false] at hk
    simp only [hp', opR2 hj rfl, cond_true, decide_true, set_mark hj, row_set]
    rintro _ rfl
    rw [KR_at _ (by simp)]
    exact hk
/-- A pin more, a pin less, in the reference. -/
def pinG (fs : List Fr) (fr : Int) (up : Bool) : Option (List Fr) := if fr < 0 then none else match fs[fr.toNat]? with
  | some f => if up then (if f.key < 0 then none else some (fs.set fr.toNat ⟨f.key, f.mark, IntKind.i64.wrap (f.pins + 1)⟩)) else (if f.pins = 0 then none else some (fs.set fr.toNat ⟨f.key, f.mark, IntKind.i64.wrap (f.pins - 1)⟩))
  | none => none
def t29 : PT := fun args H k => ∃ (fs : List Fr) (a : Int), args = [C0, .int .i64 a] ∧ H = KH fs ∧ k (.bool (pinG fs a true).isSome) (KH ((pinG fs a true).getD fs)) false
theorem pin29 (N : Nat) (args : List AV) (H : Heap) (k : AV → Heap → Bool → Prop) : t29 args H k → runP (S F) T1 N 9 (S F).fu 29 args H k := by
  rintro ⟨fs, a, rfl, rfl, hk⟩
  rw [tree29]
  unfold pinG at hk
  by_cases h0 : a < 0
  · have e0 : ¬ (a ≥ 0) := by omega
    simpa [h0, e0] using hk
  obtain ⟨j, rfl⟩ : ∃ j : Nat, a = j := ⟨a.toNat, by omega⟩
  by_cases h1 : fs.length ≤ j
  · have e1 : ¬ ((j : Int) < (fs.length : Int)) := by omega
    simpa [e1, h0, List.getElem?_eq_none h1] using hk
  have hj : j < fs.length := by omega
  simp only [h0, if_false, Int.toNat_natCast, List.getElem?_eq_getElem hj, if_true] at hk
  have e0 : (j : Int) ≥ 0 := by omega
  have e1 : (j : Int) < (fs.length : Int) := by omega
  simp only [e0, e1, decide_true, cond_true, Bool.not_true, cond_false, Int.toNat_natCast, hj, Nat.zero_add, Nat.add_zero, okR0 hj rfl, prR0 hj, AV.isIntK, AV.toInt]
  by_cases hp : fs[j].key < 0
  · simpa [AV.isIntK, AV.toInt, hp] using hk
  · simp only [hp, if_false, Option.isSome_some, Option.getD_some] at hk
    simp only [hp, decide_false, cond_false, okR1 hj rfl, prR1 hj, opR1 hj rfl, cond_true, set_pins hj, row_set]
    rintro _ rfl
    rw [KR_at _ (by simp)]
    simpa [AV.isIntK] using hk
def t31 : PT := fun args H k => ∃ (fs : List Fr) (a : Int), args = [C0, .int .i64 a] ∧ H = KH fs ∧ k (.bool (pinG fs a false).isSome) (KH ((pinG fs a false).getD fs)) false
theorem unpin31 (N : Nat) (args : List AV) (H : Heap) (k : AV → Heap → Bool → Prop) : t31 args H k → runP (S F) T1 N 9 (S F).fu 31 args H k := by
  rintro ⟨fs, a, rfl, rfl, hk⟩
  rw [tree31]
  unfold pinG at hk
  by_cases h0 : a < 0
  · have e0 : ¬ (a ≥ 0) := by omega
    simpa [h0, e0] using hk
  obtain ⟨j, rfl⟩ : ∃ j : Nat, a = j := ⟨a.toNat, by omega⟩
  by_cases h1 : fs.length ≤ j
  · have e1 : ¬ ((j : Int) < (fs.length : Int)) := by omega
    simpa [e1, h0, List.getElem?_eq_none h1] using hk
  have hj : j < fs.length := by omega
  simp only [h0, if_false, Int.toNat_natCast, List.getElem?_eq_getElem hj, Bool.false_eq_true] at hk
  have e0 : (j : Int) ≥ 0 := by omega
  have e1 : (j : Int) < (fs.length : Int) := by omega
  simp only [e0, e1, decide_true, cond_true, Bool.not_true, cond_false, Int.toNat_natCast, hj, Nat.zero_add, okR1 hj rfl, prR1 hj, AV.isIntK, AV.toInt]
  by_cases hp : fs[j].pins = 0
  · simpa [AV.isIntK, AV.toInt, hp] using hk
  · simp only [hp, if_false, Option.isSome_some, Option.getD_some] at hk
    have hp' : (fs[j].pins == 0) = false := beq_eq_false_iff_ne.2 hp
    simp only [hp', cond_false, opR1 hj rfl, cond_true, set_pins hj, row_set]
    rintro _ rfl
    rw [KR_at _ (by simp)]
    simpa [AV.isIntK] using hk
/-- Bytes laid over a page, in the reference. -/
def apG (r : Option (Ar 32)) : AV := .agg 33 [encA .u8 (r.getD (Ar.zero 32)), .bool r.isSome]
def t49 : PT := fun args H k => ∃ (p : Ar 32) (off : Int) (d : Option (List Int)), args = [encA .u8 p, .int .i64 off, dataAV d] ∧ H = [] ∧ (d.getD []).length < 1000 ∧ k (apG (applyA p off (d.getD []))) [] false
theorem apply49 (N : Nat) (args : List AV) (H : Heap) (k : AV → Heap → Bool → Prop) : t49 args H k → runP (S F) T1 N 30 (S F).fu 49 args H k := by
  rintro ⟨p, off, d, rfl, rfl, hl, hk⟩
  cases d with
  | none =>
    show runP (S F) T1 N 30 (S F).fu 49 [encA .u8 p, .int .i64 off, .nils] [] k
    rw [nil49]
    have hc : off < 0 ∨ ([] : List Int).length < 1 ∨ ([] : List Int).length > 32 ∨ off + ([] : List Int).length > 32 := .inr (.inl (by simp))
    simp only [Option.getD_none, applyA, if_pos hc, apG] at hk
    by_cases h0 : off < 0
    · simpa [h0] using hk
    by_cases g0 : off > 32
    · simpa [h0, g0] using hk
    · simpa [h0, g0] using hk
  | some ds =>
  show runP (S F) T1 N 30 (S F).fu 49 [encA .u8 p, .int .i64 off, .isl 1 (row encU ds)] [] k
  rw [tree49]
  simp only [Option.getD_some] at hk hl
  unfold applyA apG at hk
  by_cases h0 : off < 0
  · simpa [h0] using hk
  by_cases g0 : off > 32
  · have : off < 0 ∨ ds.length < 1 ∨ ds.length > 32 ∨ off + ds.length > 32 := by omega
    rw [if_pos this] at hk
    simpa [h0, g0] using hk
  have hw : IntKind.i64.wrap (32 - off) = 32 - off := by rw [IntKind.wrap_i64]; omega
  simp only [row_length, hw]
  by_cases h1 : ds.length < 1
  · have : (ds.length : Int) < 1 := by omega
    simpa [h0, g0, h1, this] using hk
  have e1 : ¬ ((ds.length : Int) < 1) := by omega
  by_cases h3 : off + ds.length > 32
  · have e3 : (ds.length : Int) > 32 - off := by omega
    simp only [h0, g0, e1, e3, decide_false, decide_true, cond_false, cond_true]
    simpa [h0, h1, h3] using hk
  have e3 : ¬ ((ds.length : Int) > 32 - off) := by omega
  obtain ⟨j, rfl⟩ : ∃ j : Nat, off = j := ⟨off.toNat, by omega⟩
  have e4 : (j : Nat) ≤ 32 := by omega
  have e5 : j + (32 - j) ≤ 32 := by omega
  have e6 : min ds.length (32 - j) = ds.length := by omega
  have e7 : List.take ds.length (row encU ds) = row encU ds := by rw [row_take, List.take_length]
  have e8 := setMany_encA (k := .u8) (a := p) (j := j) (ds := ds) (by omega)
  have e9 : ((row encU ds).all fun u => u.flatLen == 1) = true := all_row (fun x => rfl) ds
  have e10 : reflessL (row encU ds) = true := reflessL_row (fun x => rfl) ds
  have e11 : ¬ ((j : Int) < 0 ∨ ds.length < 1 ∨ ds.length > 32 ∨ (j : Int) + ds.length > 32) := by omega
  simp only [e11, if_false, Option.getD_some, Option.isSome_some] at hk
  simp only [h0, g0, e1, e3, decide_false, decide_true, cond_false, cond_true, Int.natCast_nonneg, Int.toNat_natCast, e4, e5, e6, e7, e9, e10, Bool.and_self, e8, okAt_encA, isArrI_encA, arI_encA]
  exact hk
end Go.Proofs.YtlnbbgagccgnjaaDoor
