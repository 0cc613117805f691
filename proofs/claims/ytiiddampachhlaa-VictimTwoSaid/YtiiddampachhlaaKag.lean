/-
  Arrays of numbers as functions; rows of encoded elements.
-/
import Derived.Test.YtiiddampachhlaaKaf
import Derived.Test.YtiiddampachhlaaKae

namespace Go.X

/-- n numbers. -/
structure Ar (n : Nat) where
  get : Nat → Int
  out : ∀ i, n ≤ i → get i = 0
theorem Ar.ext {n : Nat} {a b : Ar n} (h : ∀ i, i < n → a.get i = b.get i) : a = b := by
  obtain ⟨f, hf⟩ := a
  obtain ⟨g, hg⟩ := b
  have : f = g := funext fun i => by
    rcases Nat.lt_or_ge i n with hi | hi
    · exact h i hi
    · rw [hf i hi, hg i hi]
  subst this
  rfl
def Ar.of (n : Nat) (f : Nat → Int) : Ar n := ⟨fun i => if i < n then f i else 0, fun i hi => if_neg (by omega)⟩
theorem Ar.of_get {n : Nat} {f : Nat → Int} {i : Nat} (h : i < n) : (Ar.of n f).get i = f i := if_pos h
def Ar.zero (n : Nat) : Ar n := ⟨fun _ => 0, fun _ _ => rfl⟩
def Ar.set {n : Nat} (a : Ar n) (j : Nat) (v : Int) : Ar n := Ar.of n fun i => if i = j then v else a.get i
theorem Ar.set_get {n : Nat} (a : Ar n) {i j : Nat} (v : Int) (h : i < n) : (a.set j v).get i = if i = j then v else a.get i := Ar.of_get h
instance {n : Nat} : Inhabited (Ar n) := ⟨Ar.zero n⟩
theorem Ar.of_congr {n : Nat} {f g : Nat → Int} (h : ∀ i, i < n → f i = g i) : Ar.of n f = Ar.of n g := Ar.ext fun i hi => by rw [Ar.of_get hi, Ar.of_get hi, h i hi]
theorem Ar.of_self {n : Nat} (a : Ar n) : Ar.of n a.get = a := Ar.ext fun i hi => Ar.of_get hi

def encL (k : IntKind) (n : Nat) (f : Nat → Int) : List AV := (List.range n).map fun i => .int k (f i)
def encA (k : IntKind) {n : Nat} (a : Ar n) : AV := .arr 1 (encL k n a.get)

theorem encL_length (k : IntKind) (n : Nat) (f : Nat → Int) : (encL k n f).length = n := by simp [encL]
theorem encL_get {k : IntKind} {n i : Nat} {f : Nat → Int} (h : i < n) : (encL k n f)[i]? = some (.int k (f i)) := by simp [encL, h]
theorem encL_congr {k : IntKind} {n : Nat} {f g : Nat → Int} (h : ∀ i, i < n → f i = g i) : encL k n f = encL k n g := by
  unfold encL
  exact List.map_congr_left fun i hi => by rw [h i (by simpa using hi)]
theorem arr_encL (k : IntKind) {n : Nat} (f : Nat → Int) : AV.arr 1 (encL k n f) = encA k (Ar.of n f) := by
  unfold encA
  rw [encL_congr (f := (Ar.of n f).get) (g := f) fun i hi => Ar.of_get hi]
theorem encL_set {k : IntKind} {n j : Nat} {f : Nat → Int} {v : Int} : (encL k n f).set j (.int k v) = encL k n fun i => if i = j then v else f i := by
  apply List.ext_getElem?
  intro i
  rcases Nat.lt_or_ge i n with hi | hi
  · rw [List.getElem?_set, encL_get hi, encL_get (f := fun i => if i = j then v else f i) hi]
    by_cases h : j = i
    · subst h
      simp only [encL_length, hi, if_true]
    · have h' : ¬ i = j := fun e => h e.symm
      rw [if_neg h, if_neg h']
  · rw [List.getElem?_eq_none (by simpa [encL_length] using hi), List.getElem?_eq_none (by simpa [encL_length] using hi)]
theorem encA_set {k : IntKind} {n j : Nat} {a : Ar n} {v : Int} : AV.arr 1 ((encL k n a.get).set j (.int k v)) = encA k (a.set j v) := by
  rw [encL_set, arr_encL]
  rfl
theorem setElem_encA {k : IntKind} {n j : Nat} {a : Ar n} {v : Int} : setElem (encA k a) j (.int k v) = encA k (a.set j v) := encA_set
theorem elem_encA {k : IntKind} {n i : Nat} {a : Ar n} (h : i < n) : (encA k a).elem i = .int k (a.get i) := by
  simp [encA, AV.elem, encL_get h]
theorem toInt_elem_encA {k : IntKind} {n i : Nat} {a : Ar n} : ((encA k a).elem i).toInt = a.get i := by
  rcases Nat.lt_or_ge i n with h | h
  · rw [elem_encA h]; rfl
  · rw [a.out i h]
    simp [encA, AV.elem, List.getElem?_eq_none (show (encL k n a.get).length ≤ i by simpa [encL_length] using h), AV.toInt]
theorem isArrI_encA {k : IntKind} {n : Nat} {a : Ar n} : (encA k a).isArrI n k = true := by
  simp [encA, AV.isArrI, encL, AV.isIntK]
theorem arI_encA {k : IntKind} {n : Nat} {a : Ar n} : AV.arr 1 (arI k n (encA k a)) = encA k a := by
  unfold arI
  simp only [toInt_elem_encA]
  rfl
theorem flatLen_encA {k : IntKind} {n : Nat} {a : Ar n} : (encA k a).flatLen = n := by simp [encA, AV.flatLen, encL_length]
theorem isAgg_encA {k : IntKind} {n : Nat} {a : Ar n} : (encA k a).isAgg = true := rfl
theorem refless_ints {k : IntKind} : ∀ (l : List Int), reflessL (l.map fun z => AV.int k z) = true
  | [] => rfl
  | _ :: l => by simp [reflessL, AV.refless, refless_ints l]
theorem reflessL_encL {k : IntKind} {n : Nat} {f : Nat → Int} : reflessL (encL k n f) = true := by
  have : encL k n f = ((List.range n).map f).map fun z => AV.int k z := by simp [encL]
  rw [this]
  exact refless_ints _
theorem refless_encA {k : IntKind} {n : Nat} {a : Ar n} : (encA k a).refless = true := by simp [encA, AV.refless, reflessL_encL]
theorem okS_encA {k : IntKind} {n : Nat} {a : Ar n} : (encA k a).okS = true := by simp [encA, AV.okS, reflessL_encL]
theorem encA_inj {k : IntKind} {n : Nat} {a b : Ar n} (h : encA k a = encA k b) : a = b := by
  simp only [encA, AV.arr.injEq, true_and] at h
  refine Ar.ext fun i hi => ?_
  have h1 := congrArg (·[i]?) h
  simp only [encL_get hi, Option.some.injEq, AV.int.injEq, true_and] at h1
  exact h1
theorem encA_eq {k : IntKind} {n : Nat} {a b : Ar n} : encA k a = encA k b ↔ a = b := ⟨encA_inj, fun h => h ▸ rfl⟩
theorem beqL_ints {k : IntKind} : ∀ (l : List Int), beqL (l.map fun z => AV.int k z) (l.map fun z => AV.int k z) = true
  | [] => rfl
  | _ :: l => by cases k <;> simp [beqL, AV.beq, beqL_ints l] <;> rfl
theorem beq_encA {k : IntKind} {n : Nat} {a : Ar n} : (encA k a).beq (encA k a) = true := by
  have : encL k n a.get = ((List.range n).map a.get).map fun z => AV.int k z := by simp [encL]
  simp only [encA, AV.beq, this, beqL_ints, beq_self_eq_true, Bool.and_self]

open Classical in
theorem eqRep_ints {P : Program} {d : Nat} {e : TypeId} {k : IntKind} (he : P.underlying e = some (.int k)) (ha : tagg P e = some false) : ∀ (xs ys : List Int), xs.length = ys.length →
    eqRep P (eqAV P (d + 1)) e (xs.map fun z => AV.int k z) (ys.map fun z => AV.int k z) = some (decide (xs = ys))
  | [], [], _ => by simp [eqRep]
  | [], _ :: _, h => by simp at h
  | _ :: _, [], h => by simp at h
  | x :: xs, y :: ys, h => by
    have ih := eqRep_ints (d := d) he ha xs ys (by simpa using h)
    have h1 : eqAV P (d + 1) e (.int k x) (.int k y) = some (x == y) := by simp [eqAV, he]
    simp only [List.map_cons, eqRep, ha, AV.isAgg, and_self, if_true, ih, h1, Option.bind_some]
    cases hxy : (x == y) with
    | false =>
      have hne : x ≠ y := by simpa using hxy
      simp [hne]
    | true =>
      have heq : x = y := by simpa using hxy
      simp [heq]
open Classical in
theorem eqNil_encA {P : Program} {t e : TypeId} {x y : Operand} {k : IntKind} {n : Nat} (hu : P.underlying t = some (.array n e)) (he : P.underlying e = some (.int k)) (hs : tsize P e = some 1) (a b : Ar n) :
    eqNil P t x y (encA k a) (encA k b) = some (decide (a = b)) := by
  have ha : tagg P e = some false := by simp [tagg, he]
  have hL : ∀ a : Ar n, encL k n a.get = ((List.range n).map a.get).map fun z => AV.int k z := fun a => by simp [encL]
  have hiff : ((List.range n).map a.get = (List.range n).map b.get) ↔ a = b := by
    constructor
    · intro h
      refine Ar.ext fun i hi => ?_
      have h1 := congrArg (·[i]?) h
      simpa [hi] using h1
    · rintro rfl; rfl
  show eqAV P 30 t (encA k a) (encA k b) = _
  unfold eqAV
  simp only [hu, encA, hs, true_and, encL_length, if_true]
  rw [hL, hL, eqRep_ints he ha _ _ (by simp)]
  simp only [hiff]

/-! Rows of elements. -/
def row {α : Type} (enc : α → AV) (l : List α) : List AV := l.map enc
theorem row_length {α : Type} {enc : α → AV} {l : List α} : (row enc l).length = l.length := by simp [row]
theorem row_get {α : Type} {enc : α → AV} {l : List α} {j : Nat} (h : j < l.length) : (row enc l)[j]? = some (enc l[j]) := by simp [row, h]
theorem row_at {α : Type} {enc : α → AV} {l : List α} {j : Nat} (h : j < (row enc l).length) : (row enc l)[j] = enc (l[j]'(by rw [row_length] at h; exact h)) := by simp [row]
theorem row_flatLen {α : Type} {enc : α → AV} {l : List α} {e : Nat} : (AV.arr e (row enc l)).flatLen = e * l.length := by simp [AV.flatLen, row]
theorem row_elem {α : Type} {enc : α → AV} {l : List α} {j e : Nat} (h : j < l.length) : (AV.arr e (row enc l)).elem j = enc l[j] := by simp [AV.elem, row, h]
theorem projT_row {α : Type} {enc : α → AV} {l : List α} {j e : Nat} {r : List Nat} (h : j < l.length) : projT (j :: r) (.arr e (row enc l)) = projT r (enc l[j]) := by
  simp [projT, AV.elem, row, h]
theorem inAt_row {α : Type} {enc : α → AV} {l : List α} {j e : Nat} {r : List Nat} (h : j < l.length) : inAt (.arr e (row enc l)) (j :: r) = inAt (enc l[j]) r := by
  simp [inAt, row, h]
theorem coffOf_row {α : Type} {enc : α → AV} {l : List α} {j e : Nat} {r : List Nat} (h : j < l.length) : coffOf (.arr e (row enc l)) (j :: r) = e * j + coffOf (enc l[j]) r := by
  simp [coffOf, row, h]
theorem okPl_row {α : Type} {enc : α → AV} {l : List α} {j e c g n : Nat} {r : List Nat} (h : j < l.length) (hg : e * l.length = g) (hc : e * j + coffOf (enc l[j]) r = c) (hi : inAt (enc l[j]) r = true) (hn : (projT r (enc l[j])).flatLen = n) :
    okPl (.arr e (row enc l)) (j :: r) c g n = true := by
  rw [okPl_iff, projT_row h, inAt_row h, coffOf_row h]
  exact ⟨by rw [row_flatLen, hg], hc, hi, hn⟩
theorem okAt_row {α : Type} {enc : α → AV} {l : List α} {j e c g n : Nat} {a : Bool} {r : List Nat} (h : j < l.length) (hg : e * l.length = g) (hc : e * j + coffOf (enc l[j]) r = c) (hi : inAt (enc l[j]) r = true) (hn : (projT r (enc l[j])).flatLen = n) (ha : (projT r (enc l[j])).isAgg = a) :
    okAt (.arr e (row enc l)) (j :: r) c g a n = true := by
  rw [okAt_iff, projT_row h]
  exact ⟨okPl_row h hg hc hi hn, ha⟩
theorem row_set {α : Type} {enc : α → AV} {l : List α} {j : Nat} {v : α} : (row enc l).set j (enc v) = row enc (l.set j v) := by simp [row]
theorem row_append {α : Type} {enc : α → AV} {l m : List α} : row enc l ++ row enc m = row enc (l ++ m) := by simp [row]
theorem row_snoc {α : Type} {enc : α → AV} {l : List α} {v : α} : row enc l ++ [enc v] = row enc (l ++ [v]) := by simp [row]
theorem row_inj {α : Type} {enc : α → AV} (hf : ∀ a b, enc a = enc b → a = b) : ∀ {l m : List α}, row enc l = row enc m → l = m
  | [], [], _ => rfl
  | [], _ :: _, h => by simp [row] at h
  | _ :: _, [], h => by simp [row] at h
  | a :: l, b :: m, h => by
    simp only [row, List.map_cons, List.cons.injEq] at h
    rw [hf a b h.1, row_inj hf h.2]
theorem row_take {α : Type} {enc : α → AV} {l : List α} {n : Nat} : (row enc l).take n = row enc (l.take n) := by simp [row]
theorem row_drop {α : Type} {enc : α → AV} {l : List α} {n : Nat} : (row enc l).drop n = row enc (l.drop n) := by simp [row]
end Go.X
namespace Go.X
theorem replicate_encA {k : IntKind} {n : Nat} : AV.arr 1 (List.replicate n (AV.int k 0)) = encA k (Ar.zero n) := by
  unfold encA encL Ar.zero
  congr 1
  apply List.ext_getElem?
  intro i
  rcases Nat.lt_or_ge i n with h | h
  · simp [h]
  · rw [List.getElem?_eq_none (by simpa using h), List.getElem?_eq_none (by simpa using h)]
theorem zero_encA {k : IntKind} {n : Nat} : AV.arr 1 (encL k n fun _ => 0) = encA k (Ar.zero n) := rfl
attribute [simp] row_length row_get row_at zero_encA AV.isIntK AV.isBoolV AV.toInt AV.toBool isArrI_encA arI_encA replicate_encA beq_encA refless_encA okS_encA flatLen_encA isAgg_encA
/-- Numbers laid over an array. -/
def Ar.lay {n : Nat} (a : Ar n) (j : Nat) (ds : List Int) : Ar n := Ar.of n fun i => if j ≤ i ∧ i < j + ds.length then ds.getD (i - j) 0 else a.get i
def encK (k : IntKind) (z : Int) : AV := .int k z
theorem setMany_encL {k : IntKind} {n j : Nat} {f : Nat → Int} {ds : List Int} (h : j + ds.length ≤ n) : setMany (encL k n f) j (row (encK k) ds) = encL k n fun i => if j ≤ i ∧ i < j + ds.length then ds.getD (i - j) 0 else f i := by
  apply List.ext_getElem?
  intro i
  have hl : (setMany (encL k n f) j (row (encK k) ds)).length = n := by
    rw [setMany_length (by simpa [encL_length, row_length] using h), encL_length]
  rcases Nat.lt_or_ge i n with hi | hi
  · rw [encL_get hi]
    unfold setMany
    have h1 : (List.take j (encL k n f)).length = j := by simp [encL_length]; omega
    rcases Nat.lt_or_ge i j with h2 | h2
    · have : ¬ (j ≤ i ∧ i < j + ds.length) := by omega
      rw [if_neg this, List.append_assoc, List.getElem?_append_left (by omega), List.getElem?_take_of_lt h2, encL_get hi]
    · rcases Nat.lt_or_ge i (j + ds.length) with h3 | h3
      · have h4 : i - j < ds.length := by omega
        rw [if_pos ⟨h2, h3⟩, List.append_assoc, List.getElem?_append_right (by omega), h1, List.getElem?_append_left (by rw [row_length]; omega), row_get h4]
        simp [encK, List.getD_eq_getElem?_getD, h4]
      · have : ¬ (j ≤ i ∧ i < j + ds.length) := by omega
        rw [if_neg this, List.getElem?_append_right (by simp [encL_length, row_length]; omega), List.getElem?_drop]
        simp only [List.length_append, h1, row_length]
        rw [show j + ds.length + (i - (j + ds.length)) = i by omega, encL_get hi]
  · rw [List.getElem?_eq_none (by omega), List.getElem?_eq_none (by rw [encL_length]; omega)]
theorem setMany_encA {k : IntKind} {n j : Nat} {a : Ar n} {ds : List Int} (h : j + ds.length ≤ n) : AV.arr 1 (setMany (encL k n a.get) j (row (encK k) ds)) = encA k (a.lay j ds) := by
  rw [setMany_encL h, arr_encL]
  rfl
theorem okAt_encA {k : IntKind} {n : Nat} {a : Ar n} : okAt (encA k a) [] 0 n true n = true := by
  rw [okAt_iff, okPl_iff]
  exact ⟨⟨flatLen_encA, rfl, rfl, flatLen_encA⟩, rfl⟩
theorem reflessL_row {α : Type} {enc : α → AV} (h : ∀ x, (enc x).refless = true) : ∀ l : List α, reflessL (row enc l) = true
  | [] => rfl
  | x :: l => by
    have := reflessL_row h l
    simp only [row] at this
    simp [row, reflessL, h x, this]
theorem all_row {α : Type} {enc : α → AV} {p : AV → Bool} (h : ∀ x, p (enc x) = true) (l : List α) : (row enc l).all p = true := by
  rw [List.all_eq_true]
  intro u hu
  obtain ⟨x, _, rfl⟩ := List.mem_map.1 hu
  exact h x
theorem wrapB {i : Nat} (h : i + 1 < 2 ^ 63) : IntKind.wrap IntKind.i64 ((i : Int) + 1) = ((i + 1 : Nat) : Int) := by
  rw [IntKind.wrap_i64]
  omega
end Go.X
/-
  Tells functions, one by one; a law whose rounds hang on what comes in.
-/
namespace Go.X
open Classical
/-- A function is told so, from a depth on. -/
def Tells (S : Setg) (f : FuncId) (t : PT) (N : Nat) : Prop := ∀ n, N ≤ n → ∀ args H k, t args H k → match S.mode f with
  | 3 => (S.K0 f args H).elim False fun r => k r.1 r.2.1 r.2.2
  | _ => (evalF S.P S.U S.ann S.fu (evalL S n) f args H).elim False fun r => k r.1 r.2.1 r.2.2
theorem Tells.mono {S : Setg} {f : FuncId} {t : PT} {N M : Nat} (h : Tells S f t N) (hN : N ≤ M) : Tells S f t M := fun n hn => h n (by omega)
theorem PTab.cons {S : Setg} {T : FuncId → Option PT} {N : Nat} (hT : PTab S T N) {g : FuncId} {t : PT} (hg : Tells S g t N) : PTab S (fun f => if f = g then some t else T f) N := by
  intro f u hu
  by_cases hf : f = g
  · subst hf
    simp only [if_true, Option.some.injEq] at hu
    subst hu
    exact hg
  · simp only [if_neg hf] at hu
    exact hT f u hu
/-- By its text, with a table. -/
theorem PTab.told {S : Setg} {T : FuncId → Option PT} {N : Nat} (hT : PTab S T N) {g : FuncId} {t : PT} (D : Nat) (hm : (S.mode g == 3) = false)
    (h : ∀ N' args H k, t args H k → runP S T N' D S.fu g args H k) : Tells S g t (D + N) := by
  have h1 := hT.add D hm (fun N' _ => h N')
  exact h1 g t (by simp)
theorem Tells.given {S : Setg} {g : FuncId} {t : PT} (hm : S.mode g = 3) (h : ∀ args H k, t args H k → (S.K0 g args H).elim False fun r => k r.1 r.2.1 r.2.2) (N : Nat) : Tells S g t N := by
  intro n _ args H k hk
  rw [hm]
  exact h args H k hk
/-- What some sound oracle finds true. -/
noncomputable def Ktrue (P : Program) (G : Nat → Option AV) : Oracle := fun f args H =>
  if h : ∃ (K : Oracle) (H' : Heap) (e : Bool), (∀ B, OracleSound P B G K) ∧ K f args H = some (.bool true, H', e) then
    some (.bool true, h.choose_spec.choose, h.choose_spec.choose_spec.choose) else none
theorem Ktrue_sound (P : Program) (G : Nat → Option AV) (B : Nat) : OracleSound P B G (Ktrue P G) := by
  intro f args H v H' e h
  unfold Ktrue at h
  split at h
  · rename_i hx
    simp only [Option.some.injEq, Prod.mk.injEq] at h
    obtain ⟨rfl, rfl, rfl⟩ := h
    have hs := hx.choose_spec.choose_spec.choose_spec
    exact hs.1 B f args H _ _ _ hs.2
  · cases h
theorem Ktrue_of {P : Program} {G : Nat → Option AV} {K : Oracle} (hK : ∀ B, OracleSound P B G K) {f : FuncId} {args : List AV} {H H' : Heap} {e : Bool} (h : K f args H = some (.bool true, H', e)) :
    ∃ H' e, Ktrue P G f args H = some (.bool true, H', e) := by
  have hx : ∃ (K : Oracle) (H' : Heap) (e : Bool), (∀ B, OracleSound P B G K) ∧ K f args H = some (.bool true, H', e) := ⟨K, H', e, hK, h⟩
  unfold Ktrue
  rw [dif_pos hx]
  exact ⟨_, _, rfl⟩
/-- The law's run, in some setting. -/
theorem PTab.law' {S : Setg} (hS : S.Ok) {T : FuncId → Option PT} {N : Nat} (hT : PTab S T N) {f : FuncId} (D : Nat) (hm : S.mode f = 0) {vs : List AV}
    (h : runP S T N D S.fu f vs [] fun v _ _ => v = .bool true) : ∃ H' e, Ktrue S.P S.U.G f vs [] = some (.bool true, H', e) := by
  obtain ⟨H', e, he⟩ := hT.law D hm h
  exact Ktrue_of (fun B => evalL_ok hS _ B) he
end Go.X
/-
  VictimTwo: how each function's calls are told; what is given.
-/
namespace Go.Proofs.Ytiiddampachhlaa
open Go Go.X
noncomputable def U : Out := ⟨fun _ _ _ => none, fun _ => none⟩
theorem extU (B : Nat) : ExtSound Try.prog B U.X := fun f args H v H' e h => by cases h
theorem annOk : ((List.range Try.prog.funcs.size).all fun f => funcOk Try.prog (ann f) f) = true := by kernel_rfl
theorem hA : ∀ f, funcOk Try.prog (ann f) f = true := all_ok annOk
theorem mixed : Try.prog.follows .mixedOrders = true := by kernel_rfl
def Tn : Table := fun _ => none
def Tw : Table := fun f => if f = 5 then some (fun xs => match xs with
  | [] => some (true, .bool true)
  | _ => none) else none
theorem wakes5 : evalTK false Try.prog U ann 1000 Tn 100 5 [] [] (fun v _ _ => v.isTrue) = true := by kernel_rfl
theorem Fw : FunTab Try.prog U Tw := FunTab.none.addN (ann := ann) (fuel := 1000) (n := 100) extU mixed hA (g := 5) (fun xs v h => by
  split at h
  · simp only [Option.some.injEq, Prod.mk.injEq, true_and] at h
    subst h
    exact ⟨rfl, run_of_trueT wakes5⟩
  · cases h)
def mode (f : FuncId) : Nat := if f = 5 then 3 else if [12, 17].contains f then 2 else if [6, 13, 14, 15, 18, 19, 20, 21, 22].contains f then 1 else 0
noncomputable def K0 : Oracle := pureK (kOf Tw)
noncomputable def S (F : Nat) : Setg := ⟨Try.prog, U, ann, F + 5000, mode, K0⟩
variable {F : Nat}
theorem S_fu : (S F).fu = F + 5000 := rfl
theorem okS : (S F).Ok := ⟨extU, mixed, hA, fun B => Fw.ok B⟩
def t5 : PT := fun args H k => args = [] ∧ k (.bool true) H false
theorem given5 (args : List AV) (H : Heap) (k : AV → Heap → Bool → Prop) (h : t5 args H k) : ((S F).K0 5 args H).elim False fun r => k r.1 r.2.1 r.2.2 := by
  obtain ⟨rfl, hk⟩ := h
  exact hk
/-! Numbers. -/
abbrev encZ : Int → AV := encK IntKind.i64
/-- The numbers that are sorted, and those by which. -/
def DH (xs lv : List Int) : Heap := [some ⟨.arr 1 (row encZ xs), true, true⟩, some ⟨.isl 1 (row encZ lv), false, true⟩]
def DR (X L : List AV) : Heap := [some ⟨.arr 1 X, true, true⟩, some ⟨.isl 1 L, false, true⟩]
abbrev DS (n : Nat) : AV := .sl ⟨0, 0, [], n⟩ 1 n 0 n
abbrev CMP : AV := .func (.func 14) [] [.ptr ⟨1, 0, [], 1⟩]
/-- What a number is sorted by. -/
def key (lv : List Int) (x : Int) : Int := lv.getD x.toNat 0
structure OkL (lv : List Int) (x : Int) : Prop where
  lo : 0 ≤ x
  hi : x < lv.length
  pos : 0 ≤ key lv x
  lt : key lv x < 2 ^ 63
def t14 : PT := fun args H k => ∃ (lv : List Int) (a b : Int), args = [.int .i64 a, .int .i64 b, .ptr ⟨0, 0, [], 1⟩] ∧ H = [some ⟨.isl 1 (row encZ lv), false, true⟩] ∧ OkL lv a ∧ OkL lv b ∧ k (.int .i64 (key lv a - key lv b)) H false
abbrev T0 : FuncId → Option PT := fun _ => none
def T1 : FuncId → Option PT := fun f => if f = 14 then some t14 else none
end Go.Proofs.Ytiiddampachhlaa
/- VictimTwo: trees of loops.
-/
namespace Go.Proofs.Ytiiddampachhlaa
open Go Go.X
variable {F : Nat}
abbrev L17 (xs : List Int) (v i : Int) : List (Nat × AV) := [(0, .isl 1 (row encZ xs)), (1, .int .i64 v), (4, .bad), (5, .bad), (7, .int .i64 xs.length), (8, .int .i64 i), (9, .bad), (16, .bad)]
abbrev L22 (l : Nat) (a b n i : Int) : List (Nat × AV) := [(0, DS l), (1, .int .i64 a), (2, .int .i64 b), (3, .int .i64 n), (10, .int .i64 i), (13, .bad)]
abbrev L19 (l : Nat) (a b i : Int) : List (Nat × AV) := [(0, DS l), (1, .int .i64 a), (2, .int .i64 b), (3, CMP), (8, .int .i64 i), (9, .bad), (14, .bad), (34, .bad)]
abbrev L19j (l : Nat) (a b i j : Int) : List (Nat × AV) := [(0, DS l), (1, .int .i64 a), (2, .int .i64 b), (3, CMP), (8, .int .i64 i), (9, .int .i64 j), (14, .bad), (34, .bad)]
abbrev q19 : List Bool := [true, false, true]
theorem start17 (N fuel : Nat) (xs : List Int) (v : Int) (k : AV → Heap → Bool → Prop) :
 (runP (S F) T0 N 9 fuel 17 [.isl 1 (row encZ xs), .int .i64 v] [] k) =
 ((resPS (S F) T0 N 9 fuel 17 2 0 [] [true, false, true] fuel (St.mk [(0, AV.isl 1 (row encZ xs)), (1, AV.int IntKind.i64 v), (4, AV.bad), (5, AV.bad), (7, AV.int IntKind.i64 (↑(List.length (row encZ xs)) : Int)), (8, AV.int IntKind.i64 0), (9, AV.bad), (16, AV.bad)] [] [] false) k) : Prop) := by kernel_rfl
theorem step17 (N fuel n : Nat) (xs : List Int) (v i : Int) (k : AV → Heap → Bool → Prop) :
 (resPS (S F) T0 N 9 fuel 17 2 0 [] [true, false, true] (n + 1) ⟨L17 xs v i, [], [], false⟩ k) =
 ((cond (decide (i < (↑(List.length xs) : Int)))
 (cond (decide (0 ≤ i))
 (cond (AV.isIntK (Option.getD (row encZ xs)[Int.toNat i]? AV.bad) IntKind.i64)
 (cond (v == AV.toInt (Option.getD (row encZ xs)[Int.toNat i]? AV.bad))
 (k (AV.int IntKind.i64 i) [] false)
 (resPS (S F) T0 N 9 fuel 17 2 0 [] [true, false, true] n (St.mk [(0, AV.isl 1 (row encZ xs)), (1, AV.int IntKind.i64 v), (4, AV.bad), (5, AV.bad), (7, AV.int IntKind.i64 (↑(List.length xs) : Int)), (8, AV.int IntKind.i64 (IntKind.wrap IntKind.i64 (i + 1))), (9, AV.bad), (16, AV.bad)] [] [] false) k))
 (False))
 (False))
 (k (AV.int IntKind.i64 (-1 : Int)) [] false)) : Prop) := by kernel_rfl
theorem nil17 (N fuel : Nat) (v : Int) (k : AV → Heap → Bool → Prop) :
 (runP (S F) T0 N 9 (fuel + 1) 17 [.nils, .int .i64 v] [] k) =
 ((k (AV.int IntKind.i64 (-1 : Int)) [] false) : Prop) := by kernel_rfl
theorem start22 (N fuel : Nat) (xs lv : List Int) (a b n : Int) (k : AV → Heap → Bool → Prop) :
 (runP (S F) T0 N 9 fuel 22 [DS xs.length, .int .i64 a, .int .i64 b, .int .i64 n, CMP] (DH xs lv) k) =
 ((resPS (S F) T0 N 9 fuel 22 5 2 [] [true] fuel (St.mk [(0, AV.sl (Pl.mk 0 0 [] (List.length xs)) 1 (List.length xs) 0 (List.length xs)), (1, AV.int IntKind.i64 a), (2, AV.int IntKind.i64 b), (3, AV.int IntKind.i64 n), (10, AV.int IntKind.i64 0), (13, AV.bad)] [] (DH xs lv) false) k) : Prop) := by kernel_rfl
theorem step22 (N fuel m : Nat) (xs lv : List Int) (a b n i : Int) (k : AV → Heap → Bool → Prop) :
 (resPS (S F) T0 N 9 fuel 22 5 2 [] [true] (m + 1) ⟨L22 xs.length a b n i, [], DH xs lv, false⟩ k) =
 ((cond (decide (i < n))
 (cond (decide (0 ≤ IntKind.wrap IntKind.i64 (b + i)))
 (cond (decide (Int.toNat (IntKind.wrap IntKind.i64 (b + i)) < List.length xs))
 (cond (okAt (AV.arr 1 (row encZ xs)) [0 + Int.toNat (IntKind.wrap IntKind.i64 (b + i))] (0 + (0 + Int.toNat (IntKind.wrap IntKind.i64 (b + i))) * 1) (List.length xs) false 1)
 (cond (AV.isIntK (projT [0 + Int.toNat (IntKind.wrap IntKind.i64 (b + i))] (AV.arr 1 (row encZ xs))) IntKind.i64)
 (cond (decide (0 ≤ IntKind.wrap IntKind.i64 (a + i)))
 (cond (decide (Int.toNat (IntKind.wrap IntKind.i64 (a + i)) < List.length xs))
 (cond (okAt (AV.arr 1 (row encZ xs)) [0 + Int.toNat (IntKind.wrap IntKind.i64 (a + i))] (0 + (0 + Int.toNat (IntKind.wrap IntKind.i64 (a + i))) * 1) (List.length xs) false 1)
 (cond (AV.isIntK (projT [0 + Int.toNat (IntKind.wrap IntKind.i64 (a + i))] (AV.arr 1 (row encZ xs))) IntKind.i64)
 (cond (decide (0 ≤ IntKind.wrap IntKind.i64 (a + i)))
 (cond (decide (Int.toNat (IntKind.wrap IntKind.i64 (a + i)) < List.length xs))
 (cond (okPl (AV.arr 1 (row encZ xs)) [0 + Int.toNat (IntKind.wrap IntKind.i64 (a + i))] (0 + (0 + Int.toNat (IntKind.wrap IntKind.i64 (a + i))) * 1) (List.length xs) 1)
 (∀ (ys0 : List AV),
 (ys0 = List.set (row encZ xs) (0 + Int.toNat (IntKind.wrap IntKind.i64 (a + i))) (AV.int IntKind.i64 (AV.toInt (projT [0 + Int.toNat (IntKind.wrap IntKind.i64 (b + i))] (AV.arr 1 (row encZ xs)))))) →
 cond (decide (0 ≤ IntKind.wrap IntKind.i64 (b + i)))
 (cond (decide (Int.toNat (IntKind.wrap IntKind.i64 (b + i)) < List.length xs))
 (cond (okPl (AV.arr 1 ys0) [0 + Int.toNat (IntKind.wrap IntKind.i64 (b + i))] (0 + (0 + Int.toNat (IntKind.wrap IntKind.i64 (b + i))) * 1) (List.length xs) 1)
 (∀ (ys1 : List AV),
 (ys1 = List.set ys0 (0 + Int.toNat (IntKind.wrap IntKind.i64 (b + i))) (AV.int IntKind.i64 (AV.toInt (projT [0 + Int.toNat (IntKind.wrap IntKind.i64 (a + i))] (AV.arr 1 (row encZ xs)))))) →
 resPS (S F) T0 N 9 fuel 22 5 2 [] [true] m (St.mk [(0, AV.sl (Pl.mk 0 0 [] (List.length xs)) 1 (List.length xs) 0 (List.length xs)), (1, AV.int IntKind.i64 a), (2, AV.int IntKind.i64 b), (3, AV.int IntKind.i64 n), (10, AV.int IntKind.i64 (IntKind.wrap IntKind.i64 (i + 1))), (13, AV.bad)] [] (DR ys1 (row encZ lv)) false) k)
 (False))
 (False))
 (False))
 (False))
 (False))
 (False))
 (False))
 (False))
 (False))
 (False))
 (False))
 (False))
 (False))
 (False))
 (k (AV.tuple []) (DH xs lv) false)) : Prop) := by kernel_rfl
theorem start19 (N fuel : Nat) (xs lv : List Int) (a b : Int) (k : AV → Heap → Bool → Prop) :
 (runP (S F) T1 N 9 fuel 19 [DS xs.length, .int .i64 a, .int .i64 b, CMP] (DH xs lv) k) =
 ((resPS (S F) T1 N 9 fuel 19 4 2 [] [true] fuel (St.mk [(0, AV.sl (Pl.mk 0 0 [] (List.length xs)) 1 (List.length xs) 0 (List.length xs)), (1, AV.int IntKind.i64 a), (2, AV.int IntKind.i64 b), (3, AV.func (Fn.func 14) [] [AV.ptr (Pl.mk 1 0 [] 1)]), (8, AV.int IntKind.i64 (IntKind.wrap IntKind.i64 (a + 1))), (9, AV.bad), (14, AV.bad), (34, AV.bad)] [] (DH xs lv) false) k) : Prop) := by kernel_rfl
theorem step19 (N fuel n : Nat) (xs lv : List Int) (a b i : Int) (k : AV → Heap → Bool → Prop) :
 (resPS (S F) T1 N 9 fuel 19 4 2 [] [true] (n + 1) ⟨L19 xs.length a b i, [], DH xs lv, false⟩ k) =
 ((cond (decide (i < b))
 (resPS (S F) T1 N 9 fuel 19 4 2 [(q19, fuel)] [true] n (St.mk [(0, AV.sl (Pl.mk 0 0 [] (List.length xs)) 1 (List.length xs) 0 (List.length xs)), (1, AV.int IntKind.i64 a), (2, AV.int IntKind.i64 b), (3, AV.func (Fn.func 14) [] [AV.ptr (Pl.mk 1 0 [] 1)]), (8, AV.int IntKind.i64 i), (9, AV.int IntKind.i64 i), (14, AV.bad), (34, AV.bad)] [] (DH xs lv) false) k)
 (k (AV.tuple []) (DH xs lv) false)) : Prop) := by kernel_rfl
theorem inner19 (N fuel n m : Nat) (xs lv : List Int) (a b i j : Int) (k : AV → Heap → Bool → Prop) :
 (resPS (S F) T1 N 9 fuel 19 4 2 [(q19, m + 1)] [true] n ⟨L19j xs.length a b i j, [], DH xs lv, false⟩ k) =
 ((cond (decide (j > a))
 (cond (decide (0 ≤ j))
 (cond (decide (Int.toNat j < List.length xs))
 (cond (okAt (AV.arr 1 (row encZ xs)) [0 + Int.toNat j] (0 + (0 + Int.toNat j) * 1) (List.length xs) false 1)
 (cond (AV.isIntK (projT [0 + Int.toNat j] (AV.arr 1 (row encZ xs))) IntKind.i64)
 (cond (decide (0 ≤ IntKind.wrap IntKind.i64 (j - 1)))
 (cond (decide (Int.toNat (IntKind.wrap IntKind.i64 (j - 1)) < List.length xs))
 (cond (okAt (AV.arr 1 (row encZ xs)) [0 + Int.toNat (IntKind.wrap IntKind.i64 (j - 1))] (0 + (0 + Int.toNat (IntKind.wrap IntKind.i64 (j - 1))) * 1) (List.length xs) false 1)
 (cond (AV.isIntK (projT [0 + Int.toNat (IntKind.wrap IntKind.i64 (j - 1))] (AV.arr 1 (row encZ xs))) IntKind.i64)
 (∃ (lv0 : List Int),
 ∃ (a1 : Int),
 ∃ (b2 : Int),
 And ([AV.int IntKind.i64 (AV.toInt (projT [0 + Int.toNat j] (AV.arr 1 (row encZ xs)))), AV.int IntKind.i64 (AV.toInt (projT [0 + Int.toNat (IntKind.wrap IntKind.i64 (j - 1))] (AV.arr 1 (row encZ xs)))), AV.ptr (Pl.mk 0 0 [] 1)] = [AV.int IntKind.i64 a1, AV.int IntKind.i64 b2, AV.ptr (Pl.mk 0 0 [] 1)])
 (And ([some (Blk.mk (AV.isl 1 (row encZ lv)) false true)] = [some (Blk.mk (AV.isl 1 (row encZ lv0)) false true)])
 (And (OkL lv0 a1)
 (And (OkL lv0 b2)
 (cond (decide (key lv0 a1 - key lv0 b2 < 0))
 (cond (decide (0 ≤ IntKind.wrap IntKind.i64 (j - 1)))
 (cond (decide (Int.toNat (IntKind.wrap IntKind.i64 (j - 1)) < List.length xs))
 (cond (okAt (AV.arr 1 (row encZ xs)) [0 + Int.toNat (IntKind.wrap IntKind.i64 (j - 1))] (0 + (0 + Int.toNat (IntKind.wrap IntKind.i64 (j - 1))) * 1) (List.length xs) false 1)
 (cond (AV.isIntK (projT [0 + Int.toNat (IntKind.wrap IntKind.i64 (j - 1))] (AV.arr 1 (row encZ xs))) IntKind.i64)
 (cond (decide (0 ≤ j))
 (cond (decide (Int.toNat j < List.length xs))
 (cond (okAt (AV.arr 1 (row encZ xs)) [0 + Int.toNat j] (0 + (0 + Int.toNat j) * 1) (List.length xs) false 1)
 (cond (AV.isIntK (projT [0 + Int.toNat j] (AV.arr 1 (row encZ xs))) IntKind.i64)
 (cond (decide (0 ≤ j))
 (cond (decide (Int.toNat j < List.length xs))
 (cond (okPl (AV.arr 1 (row encZ xs)) [0 + Int.toNat j] (0 + (0 + Int.toNat j) * 1) (List.length xs) 1)
 (∀ (ys3 : List AV),
 (ys3 = List.set (row encZ xs) (0 + Int.toNat j) (AV.int IntKind.i64 (AV.toInt (projT [0 + Int.toNat (IntKind.wrap IntKind.i64 (j - 1))] (AV.arr 1 (row encZ xs)))))) →
 cond (decide (0 ≤ IntKind.wrap IntKind.i64 (j - 1)))
 (cond (decide (Int.toNat (IntKind.wrap IntKind.i64 (j - 1)) < List.length xs))
 (cond (okPl (AV.arr 1 ys3) [0 + Int.toNat (IntKind.wrap IntKind.i64 (j - 1))] (0 + (0 + Int.toNat (IntKind.wrap IntKind.i64 (j - 1))) * 1) (List.length xs) 1)
 (∀ (ys4 : List AV),
 (ys4 = List.set ys3 (0 + Int.toNat (IntKind.wrap IntKind.i64 (j - 1))) (AV.int IntKind.i64 (AV.toInt (projT [0 + Int.toNat j] (AV.arr 1 (row encZ xs)))))) →
 resPS (S F) T1 N 9 fuel 19 4 2 [(q19, m)] [true] n (St.mk [(0, AV.sl (Pl.mk 0 0 [] (List.length xs)) 1 (List.length xs) 0 (List.length xs)), (1, AV.int IntKind.i64 a), (2, AV.int IntKind.i64 b), (3, AV.func (Fn.func 14) [] [AV.ptr (Pl.mk 1 0 [] 1)]), (8, AV.int IntKind.i64 i), (9, AV.int IntKind.i64 (IntKind.wrap IntKind.i64 (j - 1))), (14, AV.bad), (34, AV.bad)] [] (DR ys4 (row encZ lv)) false) k)
 (False))
 (False))
 (False))
 (False))
 (False))
 (False))
 (False))
 (False))
 (False))
 (False))
 (False))
 (False))
 (False))
 (False))
 (resPS (S F) T1 N 9 fuel 19 4 2 [] [true] n (St.mk [(0, AV.sl (Pl.mk 0 0 [] (List.length xs)) 1 (List.length xs) 0 (List.length xs)), (1, AV.int IntKind.i64 a), (2, AV.int IntKind.i64 b), (3, AV.func (Fn.func 14) [] [AV.ptr (Pl.mk 1 0 [] 1)]), (8, AV.int IntKind.i64 (IntKind.wrap IntKind.i64 (i + 1))), (9, AV.bad), (14, AV.bad), (34, AV.bad)] [] (DH xs lv) false) k))))))
 (False))
 (False))
 (False))
 (False))
 (False))
 (False))
 (False))
 (False))
 (resPS (S F) T1 N 9 fuel 19 4 2 [] [true] n (St.mk [(0, AV.sl (Pl.mk 0 0 [] (List.length xs)) 1 (List.length xs) 0 (List.length xs)), (1, AV.int IntKind.i64 a), (2, AV.int IntKind.i64 b), (3, AV.func (Fn.func 14) [] [AV.ptr (Pl.mk 1 0 [] 1)]), (8, AV.int IntKind.i64 (IntKind.wrap IntKind.i64 (i + 1))), (9, AV.bad), (14, AV.bad), (34, AV.bad)] [] (DH xs lv) false) k)) : Prop) := by kernel_rfl
end Go.Proofs.Ytiiddampachhlaa
/-
  VictimTwo: what each function comes to.
-/
namespace Go.Proofs.Ytiiddampachhlaa
open Go Go.X
abbrev Srt (lv : List Int) (W : List Int) : Prop := W.Pairwise fun a b => key lv a ≤ key lv b
def t22 : PT := fun args H k => ∃ (P U M V Q lv : List Int), args = [DS (P ++ U ++ M ++ V ++ Q).length, .int .i64 P.length, .int .i64 ((P ++ U ++ M).length : Nat), .int .i64 U.length, CMP] ∧ H = DH (P ++ U ++ M ++ V ++ Q) lv ∧
  U.length = V.length ∧ (P ++ U ++ M ++ V ++ Q).length < 1000 ∧ k (.tuple []) (DH (P ++ V ++ M ++ U ++ Q) lv) false
def t21 : PT := fun args H k => ∃ (P U V Q lv : List Int), args = [DS (P ++ U ++ V ++ Q).length, .int .i64 P.length, .int .i64 ((P ++ U).length : Nat), .int .i64 ((P ++ U ++ V).length : Nat), CMP] ∧ H = DH (P ++ U ++ V ++ Q) lv ∧
  U ≠ [] ∧ V ≠ [] ∧ (P ++ U ++ V ++ Q).length < 1000 ∧ k (.tuple []) (DH (P ++ V ++ U ++ Q) lv) false
def t19 : PT := fun args H k => ∃ (P U Q lv : List Int), args = [DS (P ++ U ++ Q).length, .int .i64 P.length, .int .i64 ((P ++ U).length : Nat), CMP] ∧ H = DH (P ++ U ++ Q) lv ∧
  (∀ x, x ∈ U → OkL lv x) ∧ (P ++ U ++ Q).length < 900 ∧ ∀ W : List Int, W.Perm U → Srt lv W → k (.tuple []) (DH (P ++ W ++ Q) lv) false
def t20 (d : Nat) : PT := fun args H k => ∃ (P U V Q lv : List Int), args = [DS (P ++ U ++ V ++ Q).length, .int .i64 P.length, .int .i64 ((P ++ U).length : Nat), .int .i64 ((P ++ U ++ V).length : Nat), CMP] ∧ H = DH (P ++ U ++ V ++ Q) lv ∧
  U ≠ [] ∧ V ≠ [] ∧ (U ++ V).length ≤ d ∧ Srt lv U ∧ Srt lv V ∧ (∀ x, x ∈ U ++ V → OkL lv x) ∧ (P ++ U ++ V ++ Q).length < 900 ∧ ∀ W : List Int, W.Perm (U ++ V) → Srt lv W → k (.tuple []) (DH (P ++ W ++ Q) lv) false
def t18 : PT := fun args H k => ∃ (X lv : List Int), args = [DS X.length, .int .i64 X.length, CMP] ∧ H = DH X lv ∧ (∀ x, x ∈ X → OkL lv x) ∧ X.length < 500 ∧ ∀ W : List Int, W.Perm X → Srt lv W → k (.tuple []) (DH W lv) false
def t13 : PT := fun args H k => ∃ (X lv : List Int), args = [DS X.length, CMP] ∧ H = DH X lv ∧ (∀ x, x ∈ X → OkL lv x) ∧ X.length < 500 ∧ ∀ W : List Int, W.Perm X → Srt lv W → k (.tuple []) (DH W lv) false
def T21 : FuncId → Option PT := fun f => if f = 22 then some t22 else none
def T20 (d : Nat) : FuncId → Option PT := fun f => if f = 20 then some (t20 d) else if f = 21 then some t21 else if f = 14 then some t14 else none
def T18 : FuncId → Option PT := fun f => if f = 19 then some t19 else if f = 20 then some (t20 1000) else none
def T13 : FuncId → Option PT := fun f => if f = 18 then some t18 else none
end Go.Proofs.Ytiiddampachhlaa
/- VictimTwo: trees of merging.
-/
namespace Go.Proofs.Ytiiddampachhlaa
open Go Go.X
variable {F : Nat}
abbrev L20a (l : Nat) (a i j : Int) : List (Nat × AV) := [(0, DS l), (1, .int .i64 a), (2, .bad), (3, .bad), (4, CMP), (10, .int .i64 i), (11, .int .i64 j), (12, .bad), (13, .bad), (14, .bad), (15, .bad), (16, .bad), (17, .bad), (18, .bad), (19, .bad), (20, .bad), (21, .bad), (22, .bad), (23, .bad), (24, .bad), (28, .bad), (33, .bad), (50, .bad), (58, .bad), (80, .bad), (85, .bad), (103, .bad), (110, .bad), (140, .bad), (151, .bad), (171, .bad), (185, .bad), (199, .bad), (213, .bad)]
abbrev L20b (l : Nat) (i q : Int) : List (Nat × AV) := [(0, DS l), (1, .bad), (2, .bad), (3, .bad), (4, .bad), (10, .int .i64 i), (11, .bad), (12, .bad), (13, .int .i64 q), (14, .bad), (15, .bad), (16, .bad), (17, .bad), (18, .bad), (19, .bad), (20, .bad), (21, .bad), (22, .bad), (23, .bad), (24, .bad), (28, .bad), (33, .bad), (50, .bad), (58, .bad), (80, .bad), (85, .bad), (103, .bad), (110, .bad), (140, .bad), (151, .bad), (171, .bad), (185, .bad), (199, .bad), (213, .bad)]
abbrev L20c (l : Nat) (m i j : Int) : List (Nat × AV) := [(0, DS l), (1, .bad), (2, .int .i64 m), (3, .bad), (4, CMP), (10, .bad), (11, .bad), (12, .bad), (13, .bad), (14, .int .i64 i), (15, .int .i64 j), (16, .bad), (17, .bad), (18, .bad), (19, .bad), (20, .bad), (21, .bad), (22, .bad), (23, .bad), (24, .bad), (28, .bad), (33, .bad), (50, .bad), (58, .bad), (80, .bad), (85, .bad), (103, .bad), (110, .bad), (140, .bad), (151, .bad), (171, .bad), (185, .bad), (199, .bad), (213, .bad)]
abbrev L20d (l : Nat) (i q : Int) : List (Nat × AV) := [(0, DS l), (1, .bad), (2, .bad), (3, .bad), (4, .bad), (10, .bad), (11, .bad), (12, .bad), (13, .bad), (14, .int .i64 i), (15, .bad), (16, .bad), (17, .int .i64 q), (18, .bad), (19, .bad), (20, .bad), (21, .bad), (22, .bad), (23, .bad), (24, .bad), (28, .bad), (33, .bad), (50, .bad), (58, .bad), (80, .bad), (85, .bad), (103, .bad), (110, .bad), (140, .bad), (151, .bad), (171, .bad), (185, .bad), (199, .bad), (213, .bad)]
abbrev L20e (l : Nat) (a m b mid n s r p : Int) : List (Nat × AV) := [(0, DS l), (1, .int .i64 a), (2, .int .i64 m), (3, .int .i64 b), (4, CMP), (10, .bad), (11, .bad), (12, .bad), (13, .bad), (14, .bad), (15, .bad), (16, .bad), (17, .bad), (18, .int .i64 mid), (19, .int .i64 n), (20, .int .i64 s), (21, .int .i64 r), (22, .int .i64 p), (23, .bad), (24, .bad), (28, .bad), (33, .bad), (50, .bad), (58, .bad), (80, .bad), (85, .bad), (103, .bad), (110, .bad), (140, .bad), (151, .bad), (171, .bad), (185, .bad), (199, .bad), (213, .bad)]
abbrev L18a (l : Nat) (n bs a b : Int) : List (Nat × AV) := [(0, DS l), (1, .int .i64 n), (2, CMP), (6, .int .i64 bs), (7, .int .i64 a), (8, .int .i64 b), (9, .bad), (13, .bad), (30, .bad), (35, .bad), (54, .bad)]
abbrev L18b (l : Nat) (n bs : Int) : List (Nat × AV) := [(0, DS l), (1, .int .i64 n), (2, CMP), (6, .int .i64 bs), (7, .bad), (8, .bad), (9, .bad), (13, .bad), (30, .bad), (35, .bad), (54, .bad)]
abbrev L21 (l : Nat) (m i j : Int) : List (Nat × AV) := [(0, DS l), (1, .bad), (2, .int .i64 m), (3, .bad), (4, CMP), (10, .int .i64 i), (11, .int .i64 j), (20, .bad), (23, .bad)]
abbrev p20a : List Bool := [false, true, false, true, true, false]
abbrev p20b : List Bool := [false, true, false, true, true, true, false, true]
abbrev p20c : List Bool := [true, false, true, false, true, true, false]
abbrev p20d : List Bool := [true, false, true, false, true, true, true, false, true]
abbrev p20e : List Bool := [true, true, true, true, true, true, true, false]
abbrev p18a : List Bool := [true, true, false]
abbrev p18b : List Bool := [true, true, true, true]
abbrev q18 : List Bool := [true, true, false]
theorem start21 (N fuel : Nat) (xs lv : List Int) (a m b : Int) (k : AV → Heap → Bool → Prop) :
 (runP (S F) T21 N 9 fuel 21 [DS xs.length, .int .i64 a, .int .i64 m, .int .i64 b, CMP] (DH xs lv) k) =
 ((resPS (S F) T21 N 9 fuel 21 5 2 [] [true, true, false] fuel (St.mk [(0, AV.sl (Pl.mk 0 0 [] (List.length xs)) 1 (List.length xs) 0 (List.length xs)), (1, AV.bad), (2, AV.int IntKind.i64 m), (3, AV.bad), (4, AV.func (Fn.func 14) [] [AV.ptr (Pl.mk 1 0 [] 1)]), (10, AV.int IntKind.i64 (IntKind.wrap IntKind.i64 (m - a))), (11, AV.int IntKind.i64 (IntKind.wrap IntKind.i64 (b - m))), (20, AV.bad), (23, AV.bad)] [] (DH xs lv) false) k) : Prop) := by kernel_rfl
theorem step21 (N fuel n : Nat) (xs lv : List Int) (m i j : Int) (k : AV → Heap → Bool → Prop) :
 (resPS (S F) T21 N 9 fuel 21 5 2 [] [true, true, false] (n + 1) ⟨L21 xs.length m i j, [], DH xs lv, false⟩ k) =
 ((cond (!i == j)
 (cond (decide (i > j))
 (∃ (P0 : List Int),
 ∃ (U1 : List Int),
 ∃ (M2 : List Int),
 ∃ (V3 : List Int),
 ∃ (Q4 : List Int),
 ∃ (lv5 : List Int),
 And ([AV.sl (Pl.mk 0 0 [] (List.length xs)) 1 (List.length xs) 0 (List.length xs), AV.int IntKind.i64 (IntKind.wrap IntKind.i64 (m - i)), AV.int IntKind.i64 m, AV.int IntKind.i64 j, AV.func (Fn.func 14) [] [AV.ptr (Pl.mk 1 0 [] 1)]] = [AV.sl (Pl.mk 0 0 [] (List.length (P0 ++ U1 ++ M2 ++ V3 ++ Q4))) 1 (List.length (P0 ++ U1 ++ M2 ++ V3 ++ Q4)) 0 (List.length (P0 ++ U1 ++ M2 ++ V3 ++ Q4)), AV.int IntKind.i64 (↑(List.length P0) : Int), AV.int IntKind.i64 (↑(List.length (P0 ++ U1 ++ M2)) : Int), AV.int IntKind.i64 (↑(List.length U1) : Int), AV.func (Fn.func 14) [] [AV.ptr (Pl.mk 1 0 [] 1)]])
 (And (DH xs lv = DH (P0 ++ U1 ++ M2 ++ V3 ++ Q4) lv5)
 (And (List.length U1 = List.length V3)
 (And (List.length (P0 ++ U1 ++ M2 ++ V3 ++ Q4) < 1000)
 (resPS (S F) T21 N 9 fuel 21 5 2 [] [true, true, false] n (St.mk [(0, AV.sl (Pl.mk 0 0 [] (List.length xs)) 1 (List.length xs) 0 (List.length xs)), (1, AV.bad), (2, AV.int IntKind.i64 m), (3, AV.bad), (4, AV.func (Fn.func 14) [] [AV.ptr (Pl.mk 1 0 [] 1)]), (10, AV.int IntKind.i64 (IntKind.wrap IntKind.i64 (i - j))), (11, AV.int IntKind.i64 j), (20, AV.bad), (23, AV.bad)] [] (DH (P0 ++ V3 ++ M2 ++ U1 ++ Q4) lv5) false) k)))))
 (∃ (P6 : List Int),
 ∃ (U7 : List Int),
 ∃ (M8 : List Int),
 ∃ (V9 : List Int),
 ∃ (Q10 : List Int),
 ∃ (lv11 : List Int),
 And ([AV.sl (Pl.mk 0 0 [] (List.length xs)) 1 (List.length xs) 0 (List.length xs), AV.int IntKind.i64 (IntKind.wrap IntKind.i64 (m - i)), AV.int IntKind.i64 (IntKind.wrap IntKind.i64 (IntKind.wrap IntKind.i64 (m + j) - i)), AV.int IntKind.i64 i, AV.func (Fn.func 14) [] [AV.ptr (Pl.mk 1 0 [] 1)]] = [AV.sl (Pl.mk 0 0 [] (List.length (P6 ++ U7 ++ M8 ++ V9 ++ Q10))) 1 (List.length (P6 ++ U7 ++ M8 ++ V9 ++ Q10)) 0 (List.length (P6 ++ U7 ++ M8 ++ V9 ++ Q10)), AV.int IntKind.i64 (↑(List.length P6) : Int), AV.int IntKind.i64 (↑(List.length (P6 ++ U7 ++ M8)) : Int), AV.int IntKind.i64 (↑(List.length U7) : Int), AV.func (Fn.func 14) [] [AV.ptr (Pl.mk 1 0 [] 1)]])
 (And (DH xs lv = DH (P6 ++ U7 ++ M8 ++ V9 ++ Q10) lv11)
 (And (List.length U7 = List.length V9)
 (And (List.length (P6 ++ U7 ++ M8 ++ V9 ++ Q10) < 1000)
 (resPS (S F) T21 N 9 fuel 21 5 2 [] [true, true, false] n (St.mk [(0, AV.sl (Pl.mk 0 0 [] (List.length xs)) 1 (List.length xs) 0 (List.length xs)), (1, AV.bad), (2, AV.int IntKind.i64 m), (3, AV.bad), (4, AV.func (Fn.func 14) [] [AV.ptr (Pl.mk 1 0 [] 1)]), (10, AV.int IntKind.i64 i), (11, AV.int IntKind.i64 (IntKind.wrap IntKind.i64 (j - i))), (20, AV.bad), (23, AV.bad)] [] (DH (P6 ++ V9 ++ M8 ++ U7 ++ Q10) lv11) false) k))))))
 (∃ (P12 : List Int),
 ∃ (U13 : List Int),
 ∃ (M14 : List Int),
 ∃ (V15 : List Int),
 ∃ (Q16 : List Int),
 ∃ (lv17 : List Int),
 And ([AV.sl (Pl.mk 0 0 [] (List.length xs)) 1 (List.length xs) 0 (List.length xs), AV.int IntKind.i64 (IntKind.wrap IntKind.i64 (m - i)), AV.int IntKind.i64 m, AV.int IntKind.i64 i, AV.func (Fn.func 14) [] [AV.ptr (Pl.mk 1 0 [] 1)]] = [AV.sl (Pl.mk 0 0 [] (List.length (P12 ++ U13 ++ M14 ++ V15 ++ Q16))) 1 (List.length (P12 ++ U13 ++ M14 ++ V15 ++ Q16)) 0 (List.length (P12 ++ U13 ++ M14 ++ V15 ++ Q16)), AV.int IntKind.i64 (↑(List.length P12) : Int), AV.int IntKind.i64 (↑(List.length (P12 ++ U13 ++ M14)) : Int), AV.int IntKind.i64 (↑(List.length U13) : Int), AV.func (Fn.func 14) [] [AV.ptr (Pl.mk 1 0 [] 1)]])
 (And (DH xs lv = DH (P12 ++ U13 ++ M14 ++ V15 ++ Q16) lv17)
 (And (List.length U13 = List.length V15)
 (And (List.length (P12 ++ U13 ++ M14 ++ V15 ++ Q16) < 1000)
 (k (AV.tuple []) (DH (P12 ++ V15 ++ M14 ++ U13 ++ Q16) lv17) false)))))) : Prop) := by kernel_rfl
theorem start20 (N fuel d : Nat) (xs lv : List Int) (a m b : Int) (k : AV → Heap → Bool → Prop) :
 (runP (S F) (T20 d) N 9 fuel 20 [DS xs.length, .int .i64 a, .int .i64 m, .int .i64 b, CMP] (DH xs lv) k) =
 ((cond (IntKind.wrap IntKind.i64 (m - a) == 1)
 (resPS (S F) (T20 d) N 9 fuel 20 5 2 [] p20a fuel (St.mk [(0, AV.sl (Pl.mk 0 0 [] (List.length xs)) 1 (List.length xs) 0 (List.length xs)), (1, AV.int IntKind.i64 a), (2, AV.bad), (3, AV.bad), (4, AV.func (Fn.func 14) [] [AV.ptr (Pl.mk 1 0 [] 1)]), (10, AV.int IntKind.i64 m), (11, AV.int IntKind.i64 b), (12, AV.bad), (13, AV.bad), (14, AV.bad), (15, AV.bad), (16, AV.bad), (17, AV.bad), (18, AV.bad), (19, AV.bad), (20, AV.bad), (21, AV.bad), (22, AV.bad), (23, AV.bad), (24, AV.bad), (28, AV.bad), (33, AV.bad), (50, AV.bad), (58, AV.bad), (80, AV.bad), (85, AV.bad), (103, AV.bad), (110, AV.bad), (140, AV.bad), (151, AV.bad), (171, AV.bad), (185, AV.bad), (199, AV.bad), (213, AV.bad)] [] (DH xs lv) false) k)
 (cond (IntKind.wrap IntKind.i64 (b - m) == 1)
 (resPS (S F) (T20 d) N 9 fuel 20 5 2 [] p20c fuel (St.mk [(0, AV.sl (Pl.mk 0 0 [] (List.length xs)) 1 (List.length xs) 0 (List.length xs)), (1, AV.bad), (2, AV.int IntKind.i64 m), (3, AV.bad), (4, AV.func (Fn.func 14) [] [AV.ptr (Pl.mk 1 0 [] 1)]), (10, AV.bad), (11, AV.bad), (12, AV.bad), (13, AV.bad), (14, AV.int IntKind.i64 a), (15, AV.int IntKind.i64 m), (16, AV.bad), (17, AV.bad), (18, AV.bad), (19, AV.bad), (20, AV.bad), (21, AV.bad), (22, AV.bad), (23, AV.bad), (24, AV.bad), (28, AV.bad), (33, AV.bad), (50, AV.bad), (58, AV.bad), (80, AV.bad), (85, AV.bad), (103, AV.bad), (110, AV.bad), (140, AV.bad), (151, AV.bad), (171, AV.bad), (185, AV.bad), (199, AV.bad), (213, AV.bad)] [] (DH xs lv) false) k)
 (cond (decide (m > IntKind.wrap IntKind.i64 (Int.fdiv (IntKind.wrap IntKind.u64 (IntKind.wrap IntKind.i64 (a + b))) (Int.ofNat 2))))
 (resPS (S F) (T20 d) N 9 fuel 20 5 2 [] p20e fuel (St.mk [(0, AV.sl (Pl.mk 0 0 [] (List.length xs)) 1 (List.length xs) 0 (List.length xs)), (1, AV.int IntKind.i64 a), (2, AV.int IntKind.i64 m), (3, AV.int IntKind.i64 b), (4, AV.func (Fn.func 14) [] [AV.ptr (Pl.mk 1 0 [] 1)]), (10, AV.bad), (11, AV.bad), (12, AV.bad), (13, AV.bad), (14, AV.bad), (15, AV.bad), (16, AV.bad), (17, AV.bad), (18, AV.int IntKind.i64 (IntKind.wrap IntKind.i64 (Int.fdiv (IntKind.wrap IntKind.u64 (IntKind.wrap IntKind.i64 (a + b))) (Int.ofNat 2)))), (19, AV.int IntKind.i64 (IntKind.wrap IntKind.i64 (IntKind.wrap IntKind.i64 (Int.fdiv (IntKind.wrap IntKind.u64 (IntKind.wrap IntKind.i64 (a + b))) (Int.ofNat 2)) + m))), (20, AV.int IntKind.i64 (IntKind.wrap IntKind.i64 (IntKind.wrap IntKind.i64 (IntKind.wrap IntKind.i64 (Int.fdiv (IntKind.wrap IntKind.u64 (IntKind.wrap IntKind.i64 (a + b))) (Int.ofNat 2)) + m) - b))), (21, AV.int IntKind.i64 (IntKind.wrap IntKind.i64 (Int.fdiv (IntKind.wrap IntKind.u64 (IntKind.wrap IntKind.i64 (a + b))) (Int.ofNat 2)))), (22, AV.int IntKind.i64 (IntKind.wrap IntKind.i64 (IntKind.wrap IntKind.i64 (IntKind.wrap IntKind.i64 (Int.fdiv (IntKind.wrap IntKind.u64 (IntKind.wrap IntKind.i64 (a + b))) (Int.ofNat 2)) + m) - 1))), (23, AV.bad), (24, AV.bad), (28, AV.bad), (33, AV.bad), (50, AV.bad), (58, AV.bad), (80, AV.bad), (85, AV.bad), (103, AV.bad), (110, AV.bad), (140, AV.bad), (151, AV.bad), (171, AV.bad), (185, AV.bad), (199, AV.bad), (213, AV.bad)] [] (DH xs lv) false) k)
 (resPS (S F) (T20 d) N 9 fuel 20 5 2 [] p20e fuel (St.mk [(0, AV.sl (Pl.mk 0 0 [] (List.length xs)) 1 (List.length xs) 0 (List.length xs)), (1, AV.int IntKind.i64 a), (2, AV.int IntKind.i64 m), (3, AV.int IntKind.i64 b), (4, AV.func (Fn.func 14) [] [AV.ptr (Pl.mk 1 0 [] 1)]), (10, AV.bad), (11, AV.bad), (12, AV.bad), (13, AV.bad), (14, AV.bad), (15, AV.bad), (16, AV.bad), (17, AV.bad), (18, AV.int IntKind.i64 (IntKind.wrap IntKind.i64 (Int.fdiv (IntKind.wrap IntKind.u64 (IntKind.wrap IntKind.i64 (a + b))) (Int.ofNat 2)))), (19, AV.int IntKind.i64 (IntKind.wrap IntKind.i64 (IntKind.wrap IntKind.i64 (Int.fdiv (IntKind.wrap IntKind.u64 (IntKind.wrap IntKind.i64 (a + b))) (Int.ofNat 2)) + m))), (20, AV.int IntKind.i64 a), (21, AV.int IntKind.i64 m), (22, AV.int IntKind.i64 (IntKind.wrap IntKind.i64 (IntKind.wrap IntKind.i64 (IntKind.wrap IntKind.i64 (Int.fdiv (IntKind.wrap IntKind.u64 (IntKind.wrap IntKind.i64 (a + b))) (Int.ofNat 2)) + m) - 1))), (23, AV.bad), (24, AV.bad), (28, AV.bad), (33, AV.bad), (50, AV.bad), (58, AV.bad), (80, AV.bad), (85, AV.bad), (103, AV.bad), (110, AV.bad), (140, AV.bad), (151, AV.bad), (171, AV.bad), (185, AV.bad), (199, AV.bad), (213, AV.bad)] [] (DH xs lv) false) k)))) : Prop) := by kernel_rfl
theorem step20a (N fuel d n : Nat) (xs lv : List Int) (a i j : Int) (k : AV → Heap → Bool → Prop) :
 (resPS (S F) (T20 d) N 9 fuel 20 5 2 [] p20a (n + 1) ⟨L20a xs.length a i j, [], DH xs lv, false⟩ k) =
 ((cond (decide (i < j))
 (cond (decide (0 ≤ IntKind.wrap IntKind.i64 (Int.fdiv (IntKind.wrap IntKind.u64 (IntKind.wrap IntKind.i64 (i + j))) (Int.ofNat 2))))
 (cond (decide (Int.toNat (IntKind.wrap IntKind.i64 (Int.fdiv (IntKind.wrap IntKind.u64 (IntKind.wrap IntKind.i64 (i + j))) (Int.ofNat 2))) < List.length xs))
 (cond (okAt (AV.arr 1 (row encZ xs)) [0 + Int.toNat (IntKind.wrap IntKind.i64 (Int.fdiv (IntKind.wrap IntKind.u64 (IntKind.wrap IntKind.i64 (i + j))) (Int.ofNat 2)))] (0 + (0 + Int.toNat (IntKind.wrap IntKind.i64 (Int.fdiv (IntKind.wrap IntKind.u64 (IntKind.wrap IntKind.i64 (i + j))) (Int.ofNat 2)))) * 1) (List.length xs) false 1)
 (cond (AV.isIntK (projT [0 + Int.toNat (IntKind.wrap IntKind.i64 (Int.fdiv (IntKind.wrap IntKind.u64 (IntKind.wrap IntKind.i64 (i + j))) (Int.ofNat 2)))] (AV.arr 1 (row encZ xs))) IntKind.i64)
 (cond (decide (0 ≤ a))
 (cond (decide (Int.toNat a < List.length xs))
 (cond (okAt (AV.arr 1 (row encZ xs)) [0 + Int.toNat a] (0 + (0 + Int.toNat a) * 1) (List.length xs) false 1)
 (cond (AV.isIntK (projT [0 + Int.toNat a] (AV.arr 1 (row encZ xs))) IntKind.i64)
 (∃ (lv0 : List Int),
 ∃ (a1 : Int),
 ∃ (b2 : Int),
 And ([AV.int IntKind.i64 (AV.toInt (projT [0 + Int.toNat (IntKind.wrap IntKind.i64 (Int.fdiv (IntKind.wrap IntKind.u64 (IntKind.wrap IntKind.i64 (i + j))) (Int.ofNat 2)))] (AV.arr 1 (row encZ xs)))), AV.int IntKind.i64 (AV.toInt (projT [0 + Int.toNat a] (AV.arr 1 (row encZ xs)))), AV.ptr (Pl.mk 0 0 [] 1)] = [AV.int IntKind.i64 a1, AV.int IntKind.i64 b2, AV.ptr (Pl.mk 0 0 [] 1)])
 (And ([some (Blk.mk (AV.isl 1 (row encZ lv)) false true)] = [some (Blk.mk (AV.isl 1 (row encZ lv0)) false true)])
 (And (OkL lv0 a1)
 (And (OkL lv0 b2)
 (cond (decide (key lv0 a1 - key lv0 b2 < 0))
 (resPS (S F) (T20 d) N 9 fuel 20 5 2 [] p20a n (St.mk [(0, AV.sl (Pl.mk 0 0 [] (List.length xs)) 1 (List.length xs) 0 (List.length xs)), (1, AV.int IntKind.i64 a), (2, AV.bad), (3, AV.bad), (4, AV.func (Fn.func 14) [] [AV.ptr (Pl.mk 1 0 [] 1)]), (10, AV.int IntKind.i64 (IntKind.wrap IntKind.i64 (IntKind.wrap IntKind.i64 (Int.fdiv (IntKind.wrap IntKind.u64 (IntKind.wrap IntKind.i64 (i + j))) (Int.ofNat 2)) + 1))), (11, AV.int IntKind.i64 j), (12, AV.bad), (13, AV.bad), (14, AV.bad), (15, AV.bad), (16, AV.bad), (17, AV.bad), (18, AV.bad), (19, AV.bad), (20, AV.bad), (21, AV.bad), (22, AV.bad), (23, AV.bad), (24, AV.bad), (28, AV.bad), (33, AV.bad), (50, AV.bad), (58, AV.bad), (80, AV.bad), (85, AV.bad), (103, AV.bad), (110, AV.bad), (140, AV.bad), (151, AV.bad), (171, AV.bad), (185, AV.bad), (199, AV.bad), (213, AV.bad)] [] (DH xs lv) false) k)
 (resPS (S F) (T20 d) N 9 fuel 20 5 2 [] p20a n (St.mk [(0, AV.sl (Pl.mk 0 0 [] (List.length xs)) 1 (List.length xs) 0 (List.length xs)), (1, AV.int IntKind.i64 a), (2, AV.bad), (3, AV.bad), (4, AV.func (Fn.func 14) [] [AV.ptr (Pl.mk 1 0 [] 1)]), (10, AV.int IntKind.i64 i), (11, AV.int IntKind.i64 (IntKind.wrap IntKind.i64 (Int.fdiv (IntKind.wrap IntKind.u64 (IntKind.wrap IntKind.i64 (i + j))) (Int.ofNat 2)))), (12, AV.bad), (13, AV.bad), (14, AV.bad), (15, AV.bad), (16, AV.bad), (17, AV.bad), (18, AV.bad), (19, AV.bad), (20, AV.bad), (21, AV.bad), (22, AV.bad), (23, AV.bad), (24, AV.bad), (28, AV.bad), (33, AV.bad), (50, AV.bad), (58, AV.bad), (80, AV.bad), (85, AV.bad), (103, AV.bad), (110, AV.bad), (140, AV.bad), (151, AV.bad), (171, AV.bad), (185, AV.bad), (199, AV.bad), (213, AV.bad)] [] (DH xs lv) false) k))))))
 (False))
 (False))
 (False))
 (False))
 (False))
 (False))
 (False))
 (False))
 (resPS (S F) (T20 d) N 9 fuel 20 5 2 [] p20b fuel (St.mk [(0, AV.sl (Pl.mk 0 0 [] (List.length xs)) 1 (List.length xs) 0 (List.length xs)), (1, AV.bad), (2, AV.bad), (3, AV.bad), (4, AV.bad), (10, AV.int IntKind.i64 i), (11, AV.bad), (12, AV.bad), (13, AV.int IntKind.i64 a), (14, AV.bad), (15, AV.bad), (16, AV.bad), (17, AV.bad), (18, AV.bad), (19, AV.bad), (20, AV.bad), (21, AV.bad), (22, AV.bad), (23, AV.bad), (24, AV.bad), (28, AV.bad), (33, AV.bad), (50, AV.bad), (58, AV.bad), (80, AV.bad), (85, AV.bad), (103, AV.bad), (110, AV.bad), (140, AV.bad), (151, AV.bad), (171, AV.bad), (185, AV.bad), (199, AV.bad), (213, AV.bad)] [] (DH xs lv) false) k)) : Prop) := by kernel_rfl
theorem step20b (N fuel d n : Nat) (xs lv : List Int) (i q : Int) (k : AV → Heap → Bool → Prop) :
 (resPS (S F) (T20 d) N 9 fuel 20 5 2 [] p20b (n + 1) ⟨L20b xs.length i q, [], DH xs lv, false⟩ k) =
 ((cond (decide (q < IntKind.wrap IntKind.i64 (i - 1)))
 (cond (decide (0 ≤ IntKind.wrap IntKind.i64 (q + 1)))
 (cond (decide (Int.toNat (IntKind.wrap IntKind.i64 (q + 1)) < List.length xs))
 (cond (okAt (AV.arr 1 (row encZ xs)) [0 + Int.toNat (IntKind.wrap IntKind.i64 (q + 1))] (0 + (0 + Int.toNat (IntKind.wrap IntKind.i64 (q + 1))) * 1) (List.length xs) false 1)
 (cond (AV.isIntK (projT [0 + Int.toNat (IntKind.wrap IntKind.i64 (q + 1))] (AV.arr 1 (row encZ xs))) IntKind.i64)
 (cond (decide (0 ≤ q))
 (cond (decide (Int.toNat q < List.length xs))
 (cond (okAt (AV.arr 1 (row encZ xs)) [0 + Int.toNat q] (0 + (0 + Int.toNat q) * 1) (List.length xs) false 1)
 (cond (AV.isIntK (projT [0 + Int.toNat q] (AV.arr 1 (row encZ xs))) IntKind.i64)
 (cond (decide (0 ≤ q))
 (cond (decide (Int.toNat q < List.length xs))
 (cond (okPl (AV.arr 1 (row encZ xs)) [0 + Int.toNat q] (0 + (0 + Int.toNat q) * 1) (List.length xs) 1)
 (∀ (ys0 : List AV),
 (ys0 = List.set (row encZ xs) (0 + Int.toNat q) (AV.int IntKind.i64 (AV.toInt (projT [0 + Int.toNat (IntKind.wrap IntKind.i64 (q + 1))] (AV.arr 1 (row encZ xs)))))) →
 cond (decide (0 ≤ IntKind.wrap IntKind.i64 (q + 1)))
 (cond (decide (Int.toNat (IntKind.wrap IntKind.i64 (q + 1)) < List.length xs))
 (cond (okPl (AV.arr 1 ys0) [0 + Int.toNat (IntKind.wrap IntKind.i64 (q + 1))] (0 + (0 + Int.toNat (IntKind.wrap IntKind.i64 (q + 1))) * 1) (List.length xs) 1)
 (∀ (ys1 : List AV),
 (ys1 = List.set ys0 (0 + Int.toNat (IntKind.wrap IntKind.i64 (q + 1))) (AV.int IntKind.i64 (AV.toInt (projT [0 + Int.toNat q] (AV.arr 1 (row encZ xs)))))) →
 resPS (S F) (T20 d) N 9 fuel 20 5 2 [] p20b n (St.mk [(0, AV.sl (Pl.mk 0 0 [] (List.length xs)) 1 (List.length xs) 0 (List.length xs)), (1, AV.bad), (2, AV.bad), (3, AV.bad), (4, AV.bad), (10, AV.int IntKind.i64 i), (11, AV.bad), (12, AV.bad), (13, AV.int IntKind.i64 (IntKind.wrap IntKind.i64 (q + 1))), (14, AV.bad), (15, AV.bad), (16, AV.bad), (17, AV.bad), (18, AV.bad), (19, AV.bad), (20, AV.bad), (21, AV.bad), (22, AV.bad), (23, AV.bad), (24, AV.bad), (28, AV.bad), (33, AV.bad), (50, AV.bad), (58, AV.bad), (80, AV.bad), (85, AV.bad), (103, AV.bad), (110, AV.bad), (140, AV.bad), (151, AV.bad), (171, AV.bad), (185, AV.bad), (199, AV.bad), (213, AV.bad)] [] (DR ys1 (row encZ lv)) false) k)
 (False))
 (False))
 (False))
 (False))
 (False))
 (False))
 (False))
 (False))
 (False))
 (False))
 (False))
 (False))
 (False))
 (False))
 (k (AV.tuple []) (DH xs lv) false)) : Prop) := by kernel_rfl
theorem step20c (N fuel d n : Nat) (xs lv : List Int) (m i j : Int) (k : AV → Heap → Bool → Prop) :
 (resPS (S F) (T20 d) N 9 fuel 20 5 2 [] p20c (n + 1) ⟨L20c xs.length m i j, [], DH xs lv, false⟩ k) =
 ((cond (decide (i < j))
 (cond (decide (0 ≤ m))
 (cond (decide (Int.toNat m < List.length xs))
 (cond (okAt (AV.arr 1 (row encZ xs)) [0 + Int.toNat m] (0 + (0 + Int.toNat m) * 1) (List.length xs) false 1)
 (cond (AV.isIntK (projT [0 + Int.toNat m] (AV.arr 1 (row encZ xs))) IntKind.i64)
 (cond (decide (0 ≤ IntKind.wrap IntKind.i64 (Int.fdiv (IntKind.wrap IntKind.u64 (IntKind.wrap IntKind.i64 (i + j))) (Int.ofNat 2))))
 (cond (decide (Int.toNat (IntKind.wrap IntKind.i64 (Int.fdiv (IntKind.wrap IntKind.u64 (IntKind.wrap IntKind.i64 (i + j))) (Int.ofNat 2))) < List.length xs))
 (cond (okAt (AV.arr 1 (row encZ xs)) [0 + Int.toNat (IntKind.wrap IntKind.i64 (Int.fdiv (IntKind.wrap IntKind.u64 (IntKind.wrap IntKind.i64 (i + j))) (Int.ofNat 2)))] (0 + (0 + Int.toNat (IntKind.wrap IntKind.i64 (Int.fdiv (IntKind.wrap IntKind.u64 (IntKind.wrap IntKind.i64 (i + j))) (Int.ofNat 2)))) * 1) (List.length xs) false 1)
 (cond (AV.isIntK (projT [0 + Int.toNat (IntKind.wrap IntKind.i64 (Int.fdiv (IntKind.wrap IntKind.u64 (IntKind.wrap IntKind.i64 (i + j))) (Int.ofNat 2)))] (AV.arr 1 (row encZ xs))) IntKind.i64)
 (∃ (lv0 : List Int),
 ∃ (a1 : Int),
 ∃ (b2 : Int),
 And ([AV.int IntKind.i64 (AV.toInt (projT [0 + Int.toNat m] (AV.arr 1 (row encZ xs)))), AV.int IntKind.i64 (AV.toInt (projT [0 + Int.toNat (IntKind.wrap IntKind.i64 (Int.fdiv (IntKind.wrap IntKind.u64 (IntKind.wrap IntKind.i64 (i + j))) (Int.ofNat 2)))] (AV.arr 1 (row encZ xs)))), AV.ptr (Pl.mk 0 0 [] 1)] = [AV.int IntKind.i64 a1, AV.int IntKind.i64 b2, AV.ptr (Pl.mk 0 0 [] 1)])
 (And ([some (Blk.mk (AV.isl 1 (row encZ lv)) false true)] = [some (Blk.mk (AV.isl 1 (row encZ lv0)) false true)])
 (And (OkL lv0 a1)
 (And (OkL lv0 b2)
 (cond (!decide (key lv0 a1 - key lv0 b2 < 0))
 (resPS (S F) (T20 d) N 9 fuel 20 5 2 [] p20c n (St.mk [(0, AV.sl (Pl.mk 0 0 [] (List.length xs)) 1 (List.length xs) 0 (List.length xs)), (1, AV.bad), (2, AV.int IntKind.i64 m), (3, AV.bad), (4, AV.func (Fn.func 14) [] [AV.ptr (Pl.mk 1 0 [] 1)]), (10, AV.bad), (11, AV.bad), (12, AV.bad), (13, AV.bad), (14, AV.int IntKind.i64 (IntKind.wrap IntKind.i64 (IntKind.wrap IntKind.i64 (Int.fdiv (IntKind.wrap IntKind.u64 (IntKind.wrap IntKind.i64 (i + j))) (Int.ofNat 2)) + 1))), (15, AV.int IntKind.i64 j), (16, AV.bad), (17, AV.bad), (18, AV.bad), (19, AV.bad), (20, AV.bad), (21, AV.bad), (22, AV.bad), (23, AV.bad), (24, AV.bad), (28, AV.bad), (33, AV.bad), (50, AV.bad), (58, AV.bad), (80, AV.bad), (85, AV.bad), (103, AV.bad), (110, AV.bad), (140, AV.bad), (151, AV.bad), (171, AV.bad), (185, AV.bad), (199, AV.bad), (213, AV.bad)] [] (DH xs lv) false) k)
 (resPS (S F) (T20 d) N 9 fuel 20 5 2 [] p20c n (St.mk [(0, AV.sl (Pl.mk 0 0 [] (List.length xs)) 1 (List.length xs) 0 (List.length xs)), (1, AV.bad), (2, AV.int IntKind.i64 m), (3, AV.bad), (4, AV.func (Fn.func 14) [] [AV.ptr (Pl.mk 1 0 [] 1)]), (10, AV.bad), (11, AV.bad), (12, AV.bad), (13, AV.bad), (14, AV.int IntKind.i64 i), (15, AV.int IntKind.i64 (IntKind.wrap IntKind.i64 (Int.fdiv (IntKind.wrap IntKind.u64 (IntKind.wrap IntKind.i64 (i + j))) (Int.ofNat 2)))), (16, AV.bad), (17, AV.bad), (18, AV.bad), (19, AV.bad), (20, AV.bad), (21, AV.bad), (22, AV.bad), (23, AV.bad), (24, AV.bad), (28, AV.bad), (33, AV.bad), (50, AV.bad), (58, AV.bad), (80, AV.bad), (85, AV.bad), (103, AV.bad), (110, AV.bad), (140, AV.bad), (151, AV.bad), (171, AV.bad), (185, AV.bad), (199, AV.bad), (213, AV.bad)] [] (DH xs lv) false) k))))))
 (False))
 (False))
 (False))
 (False))
 (False))
 (False))
 (False))
 (False))
 (resPS (S F) (T20 d) N 9 fuel 20 5 2 [] p20d fuel (St.mk [(0, AV.sl (Pl.mk 0 0 [] (List.length xs)) 1 (List.length xs) 0 (List.length xs)), (1, AV.bad), (2, AV.bad), (3, AV.bad), (4, AV.bad), (10, AV.bad), (11, AV.bad), (12, AV.bad), (13, AV.bad), (14, AV.int IntKind.i64 i), (15, AV.bad), (16, AV.bad), (17, AV.int IntKind.i64 m), (18, AV.bad), (19, AV.bad), (20, AV.bad), (21, AV.bad), (22, AV.bad), (23, AV.bad), (24, AV.bad), (28, AV.bad), (33, AV.bad), (50, AV.bad), (58, AV.bad), (80, AV.bad), (85, AV.bad), (103, AV.bad), (110, AV.bad), (140, AV.bad), (151, AV.bad), (171, AV.bad), (185, AV.bad), (199, AV.bad), (213, AV.bad)] [] (DH xs lv) false) k)) : Prop) := by kernel_rfl
theorem step20d (N fuel d n : Nat) (xs lv : List Int) (i q : Int) (k : AV → Heap → Bool → Prop) :
 (resPS (S F) (T20 d) N 9 fuel 20 5 2 [] p20d (n + 1) ⟨L20d xs.length i q, [], DH xs lv, false⟩ k) =
 ((cond (decide (q > i))
 (cond (decide (0 ≤ IntKind.wrap IntKind.i64 (q - 1)))
 (cond (decide (Int.toNat (IntKind.wrap IntKind.i64 (q - 1)) < List.length xs))
 (cond (okAt (AV.arr 1 (row encZ xs)) [0 + Int.toNat (IntKind.wrap IntKind.i64 (q - 1))] (0 + (0 + Int.toNat (IntKind.wrap IntKind.i64 (q - 1))) * 1) (List.length xs) false 1)
 (cond (AV.isIntK (projT [0 + Int.toNat (IntKind.wrap IntKind.i64 (q - 1))] (AV.arr 1 (row encZ xs))) IntKind.i64)
 (cond (decide (0 ≤ q))
 (cond (decide (Int.toNat q < List.length xs))
 (cond (okAt (AV.arr 1 (row encZ xs)) [0 + Int.toNat q] (0 + (0 + Int.toNat q) * 1) (List.length xs) false 1)
 (cond (AV.isIntK (projT [0 + Int.toNat q] (AV.arr 1 (row encZ xs))) IntKind.i64)
 (cond (decide (0 ≤ q))
 (cond (decide (Int.toNat q < List.length xs))
 (cond (okPl (AV.arr 1 (row encZ xs)) [0 + Int.toNat q] (0 + (0 + Int.toNat q) * 1) (List.length xs) 1)
 (∀ (ys0 : List AV),
 (ys0 = List.set (row encZ xs) (0 + Int.toNat q) (AV.int IntKind.i64 (AV.toInt (projT [0 + Int.toNat (IntKind.wrap IntKind.i64 (q - 1))] (AV.arr 1 (row encZ xs)))))) →
 cond (decide (0 ≤ IntKind.wrap IntKind.i64 (q - 1)))
 (cond (decide (Int.toNat (IntKind.wrap IntKind.i64 (q - 1)) < List.length xs))
 (cond (okPl (AV.arr 1 ys0) [0 + Int.toNat (IntKind.wrap IntKind.i64 (q - 1))] (0 + (0 + Int.toNat (IntKind.wrap IntKind.i64 (q - 1))) * 1) (List.length xs) 1)
 (∀ (ys1 : List AV),
 (ys1 = List.set ys0 (0 + Int.toNat (IntKind.wrap IntKind.i64 (q - 1))) (AV.int IntKind.i64 (AV.toInt (projT [0 + Int.toNat q] (AV.arr 1 (row encZ xs)))))) →
 resPS (S F) (T20 d) N 9 fuel 20 5 2 [] p20d n (St.mk [(0, AV.sl (Pl.mk 0 0 [] (List.length xs)) 1 (List.length xs) 0 (List.length xs)), (1, AV.bad), (2, AV.bad), (3, AV.bad), (4, AV.bad), (10, AV.bad), (11, AV.bad), (12, AV.bad), (13, AV.bad), (14, AV.int IntKind.i64 i), (15, AV.bad), (16, AV.bad), (17, AV.int IntKind.i64 (IntKind.wrap IntKind.i64 (q - 1))), (18, AV.bad), (19, AV.bad), (20, AV.bad), (21, AV.bad), (22, AV.bad), (23, AV.bad), (24, AV.bad), (28, AV.bad), (33, AV.bad), (50, AV.bad), (58, AV.bad), (80, AV.bad), (85, AV.bad), (103, AV.bad), (110, AV.bad), (140, AV.bad), (151, AV.bad), (171, AV.bad), (185, AV.bad), (199, AV.bad), (213, AV.bad)] [] (DR ys1 (row encZ lv)) false) k)
 (False))
 (False))
 (False))
 (False))
 (False))
 (False))
 (False))
 (False))
 (False))
 (False))
 (False))
 (False))
 (False))
 (False))
 (k (AV.tuple []) (DH xs lv) false)) : Prop) := by kernel_rfl
theorem step20e (N fuel d n : Nat) (xs lv : List Int) (a m b mid nn s r p : Int) (k : AV → Heap → Bool → Prop) :
 (resPS (S F) (T20 d) N 9 fuel 20 5 2 [] p20e (n + 1) ⟨L20e xs.length a m b mid nn s r p, [], DH xs lv, false⟩ k) =
 ((cond (decide (s < r))
 (cond (decide (0 ≤ IntKind.wrap IntKind.i64 (p - IntKind.wrap IntKind.i64 (Int.fdiv (IntKind.wrap IntKind.u64 (IntKind.wrap IntKind.i64 (s + r))) (Int.ofNat 2)))))
 (cond (decide (Int.toNat (IntKind.wrap IntKind.i64 (p - IntKind.wrap IntKind.i64 (Int.fdiv (IntKind.wrap IntKind.u64 (IntKind.wrap IntKind.i64 (s + r))) (Int.ofNat 2)))) < List.length xs))
 (cond (okAt (AV.arr 1 (row encZ xs)) [0 + Int.toNat (IntKind.wrap IntKind.i64 (p - IntKind.wrap IntKind.i64 (Int.fdiv (IntKind.wrap IntKind.u64 (IntKind.wrap IntKind.i64 (s + r))) (Int.ofNat 2))))] (0 + (0 + Int.toNat (IntKind.wrap IntKind.i64 (p - IntKind.wrap IntKind.i64 (Int.fdiv (IntKind.wrap IntKind.u64 (IntKind.wrap IntKind.i64 (s + r))) (Int.ofNat 2))))) * 1) (List.length xs) false 1)
 (cond (AV.isIntK (projT [0 + Int.toNat (IntKind.wrap IntKind.i64 (p - IntKind.wrap IntKind.i64 (Int.fdiv (IntKind.wrap IntKind.u64 (IntKind.wrap IntKind.i64 (s + r))) (Int.ofNat 2))))] (AV.arr 1 (row encZ xs))) IntKind.i64)
 (cond (decide (0 ≤ IntKind.wrap IntKind.i64 (Int.fdiv (IntKind.wrap IntKind.u64 (IntKind.wrap IntKind.i64 (s + r))) (Int.ofNat 2))))
 (cond (decide (Int.toNat (IntKind.wrap IntKind.i64 (Int.fdiv (IntKind.wrap IntKind.u64 (IntKind.wrap IntKind.i64 (s + r))) (Int.ofNat 2))) < List.length xs))
 (cond (okAt (AV.arr 1 (row encZ xs)) [0 + Int.toNat (IntKind.wrap IntKind.i64 (Int.fdiv (IntKind.wrap IntKind.u64 (IntKind.wrap IntKind.i64 (s + r))) (Int.ofNat 2)))] (0 + (0 + Int.toNat (IntKind.wrap IntKind.i64 (Int.fdiv (IntKind.wrap IntKind.u64 (IntKind.wrap IntKind.i64 (s + r))) (Int.ofNat 2)))) * 1) (List.length xs) false 1)
 (cond (AV.isIntK (projT [0 + Int.toNat (IntKind.wrap IntKind.i64 (Int.fdiv (IntKind.wrap IntKind.u64 (IntKind.wrap IntKind.i64 (s + r))) (Int.ofNat 2)))] (AV.arr 1 (row encZ xs))) IntKind.i64)
 (∃ (lv0 : List Int),
 ∃ (a1 : Int),
 ∃ (b2 : Int),
 And ([AV.int IntKind.i64 (AV.toInt (projT [0 + Int.toNat (IntKind.wrap IntKind.i64 (p - IntKind.wrap IntKind.i64 (Int.fdiv (IntKind.wrap IntKind.u64 (IntKind.wrap IntKind.i64 (s + r))) (Int.ofNat 2))))] (AV.arr 1 (row encZ xs)))), AV.int IntKind.i64 (AV.toInt (projT [0 + Int.toNat (IntKind.wrap IntKind.i64 (Int.fdiv (IntKind.wrap IntKind.u64 (IntKind.wrap IntKind.i64 (s + r))) (Int.ofNat 2)))] (AV.arr 1 (row encZ xs)))), AV.ptr (Pl.mk 0 0 [] 1)] = [AV.int IntKind.i64 a1, AV.int IntKind.i64 b2, AV.ptr (Pl.mk 0 0 [] 1)])
 (And ([some (Blk.mk (AV.isl 1 (row encZ lv)) false true)] = [some (Blk.mk (AV.isl 1 (row encZ lv0)) false true)])
 (And (OkL lv0 a1)
 (And (OkL lv0 b2)
 (cond (!decide (key lv0 a1 - key lv0 b2 < 0))
 (resPS (S F) (T20 d) N 9 fuel 20 5 2 [] p20e n (St.mk [(0, AV.sl (Pl.mk 0 0 [] (List.length xs)) 1 (List.length xs) 0 (List.length xs)), (1, AV.int IntKind.i64 a), (2, AV.int IntKind.i64 m), (3, AV.int IntKind.i64 b), (4, AV.func (Fn.func 14) [] [AV.ptr (Pl.mk 1 0 [] 1)]), (10, AV.bad), (11, AV.bad), (12, AV.bad), (13, AV.bad), (14, AV.bad), (15, AV.bad), (16, AV.bad), (17, AV.bad), (18, AV.int IntKind.i64 mid), (19, AV.int IntKind.i64 nn), (20, AV.int IntKind.i64 (IntKind.wrap IntKind.i64 (IntKind.wrap IntKind.i64 (Int.fdiv (IntKind.wrap IntKind.u64 (IntKind.wrap IntKind.i64 (s + r))) (Int.ofNat 2)) + 1))), (21, AV.int IntKind.i64 r), (22, AV.int IntKind.i64 p), (23, AV.bad), (24, AV.bad), (28, AV.bad), (33, AV.bad), (50, AV.bad), (58, AV.bad), (80, AV.bad), (85, AV.bad), (103, AV.bad), (110, AV.bad), (140, AV.bad), (151, AV.bad), (171, AV.bad), (185, AV.bad), (199, AV.bad), (213, AV.bad)] [] (DH xs lv) false) k)
 (resPS (S F) (T20 d) N 9 fuel 20 5 2 [] p20e n (St.mk [(0, AV.sl (Pl.mk 0 0 [] (List.length xs)) 1 (List.length xs) 0 (List.length xs)), (1, AV.int IntKind.i64 a), (2, AV.int IntKind.i64 m), (3, AV.int IntKind.i64 b), (4, AV.func (Fn.func 14) [] [AV.ptr (Pl.mk 1 0 [] 1)]), (10, AV.bad), (11, AV.bad), (12, AV.bad), (13, AV.bad), (14, AV.bad), (15, AV.bad), (16, AV.bad), (17, AV.bad), (18, AV.int IntKind.i64 mid), (19, AV.int IntKind.i64 nn), (20, AV.int IntKind.i64 s), (21, AV.int IntKind.i64 (IntKind.wrap IntKind.i64 (Int.fdiv (IntKind.wrap IntKind.u64 (IntKind.wrap IntKind.i64 (s + r))) (Int.ofNat 2)))), (22, AV.int IntKind.i64 p), (23, AV.bad), (24, AV.bad), (28, AV.bad), (33, AV.bad), (50, AV.bad), (58, AV.bad), (80, AV.bad), (85, AV.bad), (103, AV.bad), (110, AV.bad), (140, AV.bad), (151, AV.bad), (171, AV.bad), (185, AV.bad), (199, AV.bad), (213, AV.bad)] [] (DH xs lv) false) k))))))
 (False))
 (False))
 (False))
 (False))
 (False))
 (False))
 (False))
 (False))
 (cond (decide (s < m))
 (cond (decide (m < IntKind.wrap IntKind.i64 (nn - s)))
 (∃ (P3 : List Int),
 ∃ (U4 : List Int),
 ∃ (V5 : List Int),
 ∃ (Q6 : List Int),
 ∃ (lv7 : List Int),
 And ([AV.sl (Pl.mk 0 0 [] (List.length xs)) 1 (List.length xs) 0 (List.length xs), AV.int IntKind.i64 s, AV.int IntKind.i64 m, AV.int IntKind.i64 (IntKind.wrap IntKind.i64 (nn - s)), AV.func (Fn.func 14) [] [AV.ptr (Pl.mk 1 0 [] 1)]] = [AV.sl (Pl.mk 0 0 [] (List.length (P3 ++ U4 ++ V5 ++ Q6))) 1 (List.length (P3 ++ U4 ++ V5 ++ Q6)) 0 (List.length (P3 ++ U4 ++ V5 ++ Q6)), AV.int IntKind.i64 (↑(List.length P3) : Int), AV.int IntKind.i64 (↑(List.length (P3 ++ U4)) : Int), AV.int IntKind.i64 (↑(List.length (P3 ++ U4 ++ V5)) : Int), AV.func (Fn.func 14) [] [AV.ptr (Pl.mk 1 0 [] 1)]])
 (And (DH xs lv = DH (P3 ++ U4 ++ V5 ++ Q6) lv7)
 (And (U4 ≠ [])
 (And (V5 ≠ [])
 (And (List.length (P3 ++ U4 ++ V5 ++ Q6) < 1000)
 (cond (decide (a < s))
 (cond (decide (s < mid))
 (∃ (P8 : List Int),
 ∃ (U9 : List Int),
 ∃ (V10 : List Int),
 ∃ (Q11 : List Int),
 ∃ (lv12 : List Int),
 And ([AV.sl (Pl.mk 0 0 [] (List.length xs)) 1 (List.length xs) 0 (List.length xs), AV.int IntKind.i64 a, AV.int IntKind.i64 s, AV.int IntKind.i64 mid, AV.func (Fn.func 14) [] [AV.ptr (Pl.mk 1 0 [] 1)]] = [AV.sl (Pl.mk 0 0 [] (List.length (P8 ++ U9 ++ V10 ++ Q11))) 1 (List.length (P8 ++ U9 ++ V10 ++ Q11)) 0 (List.length (P8 ++ U9 ++ V10 ++ Q11)), AV.int IntKind.i64 (↑(List.length P8) : Int), AV.int IntKind.i64 (↑(List.length (P8 ++ U9)) : Int), AV.int IntKind.i64 (↑(List.length (P8 ++ U9 ++ V10)) : Int), AV.func (Fn.func 14) [] [AV.ptr (Pl.mk 1 0 [] 1)]])
 (And (DH (P3 ++ V5 ++ U4 ++ Q6) lv7 = DH (P8 ++ U9 ++ V10 ++ Q11) lv12)
 (And (U9 ≠ [])
 (And (V10 ≠ [])
 (And (List.length (U9 ++ V10) ≤ d)
 (And (Srt lv12 U9)
 (And (Srt lv12 V10)
 (And (∀ (x13 : Int),
 (x13 ∈ U9 ++ V10) →
 OkL lv12 x13)
 (And (List.length (P8 ++ U9 ++ V10 ++ Q11) < 900)
 (∀ (W14 : List Int),
 (List.Perm W14 (U9 ++ V10)) →
 (Srt lv12 W14) →
 cond (decide (mid < IntKind.wrap IntKind.i64 (nn - s)))
 (cond (decide (IntKind.wrap IntKind.i64 (nn - s) < b))
 (∃ (P15 : List Int),
 ∃ (U16 : List Int),
 ∃ (V17 : List Int),
 ∃ (Q18 : List Int),
 ∃ (lv19 : List Int),
 And ([AV.sl (Pl.mk 0 0 [] (List.length xs)) 1 (List.length xs) 0 (List.length xs), AV.int IntKind.i64 mid, AV.int IntKind.i64 (IntKind.wrap IntKind.i64 (nn - s)), AV.int IntKind.i64 b, AV.func (Fn.func 14) [] [AV.ptr (Pl.mk 1 0 [] 1)]] = [AV.sl (Pl.mk 0 0 [] (List.length (P15 ++ U16 ++ V17 ++ Q18))) 1 (List.length (P15 ++ U16 ++ V17 ++ Q18)) 0 (List.length (P15 ++ U16 ++ V17 ++ Q18)), AV.int IntKind.i64 (↑(List.length P15) : Int), AV.int IntKind.i64 (↑(List.length (P15 ++ U16)) : Int), AV.int IntKind.i64 (↑(List.length (P15 ++ U16 ++ V17)) : Int), AV.func (Fn.func 14) [] [AV.ptr (Pl.mk 1 0 [] 1)]])
 (And (DH (P8 ++ W14 ++ Q11) lv12 = DH (P15 ++ U16 ++ V17 ++ Q18) lv19)
 (And (U16 ≠ [])
 (And (V17 ≠ [])
 (And (List.length (U16 ++ V17) ≤ d)
 (And (Srt lv19 U16)
 (And (Srt lv19 V17)
 (And (∀ (x20 : Int),
 (x20 ∈ U16 ++ V17) →
 OkL lv19 x20)
 (And (List.length (P15 ++ U16 ++ V17 ++ Q18) < 900)
 (∀ (W21 : List Int),
 (List.Perm W21 (U16 ++ V17)) →
 (Srt lv19 W21) →
 k (AV.tuple []) (DH (P15 ++ W21 ++ Q18) lv19) false))))))))))
 (k (AV.tuple []) (DH (P8 ++ W14 ++ Q11) lv12) false))
 (k (AV.tuple []) (DH (P8 ++ W14 ++ Q11) lv12) false)))))))))))
 (cond (decide (mid < IntKind.wrap IntKind.i64 (nn - s)))
 (cond (decide (IntKind.wrap IntKind.i64 (nn - s) < b))
 (∃ (P22 : List Int),
 ∃ (U23 : List Int),
 ∃ (V24 : List Int),
 ∃ (Q25 : List Int),
 ∃ (lv26 : List Int),
 And ([AV.sl (Pl.mk 0 0 [] (List.length xs)) 1 (List.length xs) 0 (List.length xs), AV.int IntKind.i64 mid, AV.int IntKind.i64 (IntKind.wrap IntKind.i64 (nn - s)), AV.int IntKind.i64 b, AV.func (Fn.func 14) [] [AV.ptr (Pl.mk 1 0 [] 1)]] = [AV.sl (Pl.mk 0 0 [] (List.length (P22 ++ U23 ++ V24 ++ Q25))) 1 (List.length (P22 ++ U23 ++ V24 ++ Q25)) 0 (List.length (P22 ++ U23 ++ V24 ++ Q25)), AV.int IntKind.i64 (↑(List.length P22) : Int), AV.int IntKind.i64 (↑(List.length (P22 ++ U23)) : Int), AV.int IntKind.i64 (↑(List.length (P22 ++ U23 ++ V24)) : Int), AV.func (Fn.func 14) [] [AV.ptr (Pl.mk 1 0 [] 1)]])
 (And (DH (P3 ++ V5 ++ U4 ++ Q6) lv7 = DH (P22 ++ U23 ++ V24 ++ Q25) lv26)
 (And (U23 ≠ [])
 (And (V24 ≠ [])
 (And (List.length (U23 ++ V24) ≤ d)
 (And (Srt lv26 U23)
 (And (Srt lv26 V24)
 (And (∀ (x27 : Int),
 (x27 ∈ U23 ++ V24) →
 OkL lv26 x27)
 (And (List.length (P22 ++ U23 ++ V24 ++ Q25) < 900)
 (∀ (W28 : List Int),
 (List.Perm W28 (U23 ++ V24)) →
 (Srt lv26 W28) →
 k (AV.tuple []) (DH (P22 ++ W28 ++ Q25) lv26) false))))))))))
 (k (AV.tuple []) (DH (P3 ++ V5 ++ U4 ++ Q6) lv7) false))
 (k (AV.tuple []) (DH (P3 ++ V5 ++ U4 ++ Q6) lv7) false)))
 (cond (decide (mid < IntKind.wrap IntKind.i64 (nn - s)))
 (cond (decide (IntKind.wrap IntKind.i64 (nn - s) < b))
 (∃ (P29 : List Int),
 ∃ (U30 : List Int),
 ∃ (V31 : List Int),
 ∃ (Q32 : List Int),
 ∃ (lv33 : List Int),
 And ([AV.sl (Pl.mk 0 0 [] (List.length xs)) 1 (List.length xs) 0 (List.length xs), AV.int IntKind.i64 mid, AV.int IntKind.i64 (IntKind.wrap IntKind.i64 (nn - s)), AV.int IntKind.i64 b, AV.func (Fn.func 14) [] [AV.ptr (Pl.mk 1 0 [] 1)]] = [AV.sl (Pl.mk 0 0 [] (List.length (P29 ++ U30 ++ V31 ++ Q32))) 1 (List.length (P29 ++ U30 ++ V31 ++ Q32)) 0 (List.length (P29 ++ U30 ++ V31 ++ Q32)), AV.int IntKind.i64 (↑(List.length P29) : Int), AV.int IntKind.i64 (↑(List.length (P29 ++ U30)) : Int), AV.int IntKind.i64 (↑(List.length (P29 ++ U30 ++ V31)) : Int), AV.func (Fn.func 14) [] [AV.ptr (Pl.mk 1 0 [] 1)]])
 (And (DH (P3 ++ V5 ++ U4 ++ Q6) lv7 = DH (P29 ++ U30 ++ V31 ++ Q32) lv33)
 (And (U30 ≠ [])
 (And (V31 ≠ [])
 (And (List.length (U30 ++ V31) ≤ d)
 (And (Srt lv33 U30)
 (And (Srt lv33 V31)
 (And (∀ (x34 : Int),
 (x34 ∈ U30 ++ V31) →
 OkL lv33 x34)
 (And (List.length (P29 ++ U30 ++ V31 ++ Q32) < 900)
 (∀ (W35 : List Int),
 (List.Perm W35 (U30 ++ V31)) →
 (Srt lv33 W35) →
 k (AV.tuple []) (DH (P29 ++ W35 ++ Q32) lv33) false))))))))))
 (k (AV.tuple []) (DH (P3 ++ V5 ++ U4 ++ Q6) lv7) false))
 (k (AV.tuple []) (DH (P3 ++ V5 ++ U4 ++ Q6) lv7) false))))))))
 (cond (decide (a < s))
 (cond (decide (s < mid))
 (∃ (P36 : List Int),
 ∃ (U37 : List Int),
 ∃ (V38 : List Int),
 ∃ (Q39 : List Int),
 ∃ (lv40 : List Int),
 And ([AV.sl (Pl.mk 0 0 [] (List.length xs)) 1 (List.length xs) 0 (List.length xs), AV.int IntKind.i64 a, AV.int IntKind.i64 s, AV.int IntKind.i64 mid, AV.func (Fn.func 14) [] [AV.ptr (Pl.mk 1 0 [] 1)]] = [AV.sl (Pl.mk 0 0 [] (List.length (P36 ++ U37 ++ V38 ++ Q39))) 1 (List.length (P36 ++ U37 ++ V38 ++ Q39)) 0 (List.length (P36 ++ U37 ++ V38 ++ Q39)), AV.int IntKind.i64 (↑(List.length P36) : Int), AV.int IntKind.i64 (↑(List.length (P36 ++ U37)) : Int), AV.int IntKind.i64 (↑(List.length (P36 ++ U37 ++ V38)) : Int), AV.func (Fn.func 14) [] [AV.ptr (Pl.mk 1 0 [] 1)]])
 (And (DH xs lv = DH (P36 ++ U37 ++ V38 ++ Q39) lv40)
 (And (U37 ≠ [])
 (And (V38 ≠ [])
 (And (List.length (U37 ++ V38) ≤ d)
 (And (Srt lv40 U37)
 (And (Srt lv40 V38)
 (And (∀ (x41 : Int),
 (x41 ∈ U37 ++ V38) →
 OkL lv40 x41)
 (And (List.length (P36 ++ U37 ++ V38 ++ Q39) < 900)
 (∀ (W42 : List Int),
 (List.Perm W42 (U37 ++ V38)) →
 (Srt lv40 W42) →
 cond (decide (mid < IntKind.wrap IntKind.i64 (nn - s)))
 (cond (decide (IntKind.wrap IntKind.i64 (nn - s) < b))
 (∃ (P43 : List Int),
 ∃ (U44 : List Int),
 ∃ (V45 : List Int),
 ∃ (Q46 : List Int),
 ∃ (lv47 : List Int),
 And ([AV.sl (Pl.mk 0 0 [] (List.length xs)) 1 (List.length xs) 0 (List.length xs), AV.int IntKind.i64 mid, AV.int IntKind.i64 (IntKind.wrap IntKind.i64 (nn - s)), AV.int IntKind.i64 b, AV.func (Fn.func 14) [] [AV.ptr (Pl.mk 1 0 [] 1)]] = [AV.sl (Pl.mk 0 0 [] (List.length (P43 ++ U44 ++ V45 ++ Q46))) 1 (List.length (P43 ++ U44 ++ V45 ++ Q46)) 0 (List.length (P43 ++ U44 ++ V45 ++ Q46)), AV.int IntKind.i64 (↑(List.length P43) : Int), AV.int IntKind.i64 (↑(List.length (P43 ++ U44)) : Int), AV.int IntKind.i64 (↑(List.length (P43 ++ U44 ++ V45)) : Int), AV.func (Fn.func 14) [] [AV.ptr (Pl.mk 1 0 [] 1)]])
 (And (DH (P36 ++ W42 ++ Q39) lv40 = DH (P43 ++ U44 ++ V45 ++ Q46) lv47)
 (And (U44 ≠ [])
 (And (V45 ≠ [])
 (And (List.length (U44 ++ V45) ≤ d)
 (And (Srt lv47 U44)
 (And (Srt lv47 V45)
 (And (∀ (x48 : Int),
 (x48 ∈ U44 ++ V45) →
 OkL lv47 x48)
 (And (List.length (P43 ++ U44 ++ V45 ++ Q46) < 900)
 (∀ (W49 : List Int),
 (List.Perm W49 (U44 ++ V45)) →
 (Srt lv47 W49) →
 k (AV.tuple []) (DH (P43 ++ W49 ++ Q46) lv47) false))))))))))
 (k (AV.tuple []) (DH (P36 ++ W42 ++ Q39) lv40) false))
 (k (AV.tuple []) (DH (P36 ++ W42 ++ Q39) lv40) false)))))))))))
 (cond (decide (mid < IntKind.wrap IntKind.i64 (nn - s)))
 (cond (decide (IntKind.wrap IntKind.i64 (nn - s) < b))
 (∃ (P50 : List Int),
 ∃ (U51 : List Int),
 ∃ (V52 : List Int),
 ∃ (Q53 : List Int),
 ∃ (lv54 : List Int),
 And ([AV.sl (Pl.mk 0 0 [] (List.length xs)) 1 (List.length xs) 0 (List.length xs), AV.int IntKind.i64 mid, AV.int IntKind.i64 (IntKind.wrap IntKind.i64 (nn - s)), AV.int IntKind.i64 b, AV.func (Fn.func 14) [] [AV.ptr (Pl.mk 1 0 [] 1)]] = [AV.sl (Pl.mk 0 0 [] (List.length (P50 ++ U51 ++ V52 ++ Q53))) 1 (List.length (P50 ++ U51 ++ V52 ++ Q53)) 0 (List.length (P50 ++ U51 ++ V52 ++ Q53)), AV.int IntKind.i64 (↑(List.length P50) : Int), AV.int IntKind.i64 (↑(List.length (P50 ++ U51)) : Int), AV.int IntKind.i64 (↑(List.length (P50 ++ U51 ++ V52)) : Int), AV.func (Fn.func 14) [] [AV.ptr (Pl.mk 1 0 [] 1)]])
 (And (DH xs lv = DH (P50 ++ U51 ++ V52 ++ Q53) lv54)
 (And (U51 ≠ [])
 (And (V52 ≠ [])
 (And (List.length (U51 ++ V52) ≤ d)
 (And (Srt lv54 U51)
 (And (Srt lv54 V52)
 (And (∀ (x55 : Int),
 (x55 ∈ U51 ++ V52) →
 OkL lv54 x55)
 (And (List.length (P50 ++ U51 ++ V52 ++ Q53) < 900)
 (∀ (W56 : List Int),
 (List.Perm W56 (U51 ++ V52)) →
 (Srt lv54 W56) →
 k (AV.tuple []) (DH (P50 ++ W56 ++ Q53) lv54) false))))))))))
 (k (AV.tuple []) (DH xs lv) false))
 (k (AV.tuple []) (DH xs lv) false)))
 (cond (decide (mid < IntKind.wrap IntKind.i64 (nn - s)))
 (cond (decide (IntKind.wrap IntKind.i64 (nn - s) < b))
 (∃ (P57 : List Int),
 ∃ (U58 : List Int),
 ∃ (V59 : List Int),
 ∃ (Q60 : List Int),
 ∃ (lv61 : List Int),
 And ([AV.sl (Pl.mk 0 0 [] (List.length xs)) 1 (List.length xs) 0 (List.length xs), AV.int IntKind.i64 mid, AV.int IntKind.i64 (IntKind.wrap IntKind.i64 (nn - s)), AV.int IntKind.i64 b, AV.func (Fn.func 14) [] [AV.ptr (Pl.mk 1 0 [] 1)]] = [AV.sl (Pl.mk 0 0 [] (List.length (P57 ++ U58 ++ V59 ++ Q60))) 1 (List.length (P57 ++ U58 ++ V59 ++ Q60)) 0 (List.length (P57 ++ U58 ++ V59 ++ Q60)), AV.int IntKind.i64 (↑(List.length P57) : Int), AV.int IntKind.i64 (↑(List.length (P57 ++ U58)) : Int), AV.int IntKind.i64 (↑(List.length (P57 ++ U58 ++ V59)) : Int), AV.func (Fn.func 14) [] [AV.ptr (Pl.mk 1 0 [] 1)]])
 (And (DH xs lv = DH (P57 ++ U58 ++ V59 ++ Q60) lv61)
 (And (U58 ≠ [])
 (And (V59 ≠ [])
 (And (List.length (U58 ++ V59) ≤ d)
 (And (Srt lv61 U58)
 (And (Srt lv61 V59)
 (And (∀ (x62 : Int),
 (x62 ∈ U58 ++ V59) →
 OkL lv61 x62)
 (And (List.length (P57 ++ U58 ++ V59 ++ Q60) < 900)
 (∀ (W63 : List Int),
 (List.Perm W63 (U58 ++ V59)) →
 (Srt lv61 W63) →
 k (AV.tuple []) (DH (P57 ++ W63 ++ Q60) lv61) false))))))))))
 (k (AV.tuple []) (DH xs lv) false))
 (k (AV.tuple []) (DH xs lv) false))))
 (cond (decide (a < s))
 (cond (decide (s < mid))
 (∃ (P64 : List Int),
 ∃ (U65 : List Int),
 ∃ (V66 : List Int),
 ∃ (Q67 : List Int),
 ∃ (lv68 : List Int),
 And ([AV.sl (Pl.mk 0 0 [] (List.length xs)) 1 (List.length xs) 0 (List.length xs), AV.int IntKind.i64 a, AV.int IntKind.i64 s, AV.int IntKind.i64 mid, AV.func (Fn.func 14) [] [AV.ptr (Pl.mk 1 0 [] 1)]] = [AV.sl (Pl.mk 0 0 [] (List.length (P64 ++ U65 ++ V66 ++ Q67))) 1 (List.length (P64 ++ U65 ++ V66 ++ Q67)) 0 (List.length (P64 ++ U65 ++ V66 ++ Q67)), AV.int IntKind.i64 (↑(List.length P64) : Int), AV.int IntKind.i64 (↑(List.length (P64 ++ U65)) : Int), AV.int IntKind.i64 (↑(List.length (P64 ++ U65 ++ V66)) : Int), AV.func (Fn.func 14) [] [AV.ptr (Pl.mk 1 0 [] 1)]])
 (And (DH xs lv = DH (P64 ++ U65 ++ V66 ++ Q67) lv68)
 (And (U65 ≠ [])
 (And (V66 ≠ [])
 (And (List.length (U65 ++ V66) ≤ d)
 (And (Srt lv68 U65)
 (And (Srt lv68 V66)
 (And (∀ (x69 : Int),
 (x69 ∈ U65 ++ V66) →
 OkL lv68 x69)
 (And (List.length (P64 ++ U65 ++ V66 ++ Q67) < 900)
 (∀ (W70 : List Int),
 (List.Perm W70 (U65 ++ V66)) →
 (Srt lv68 W70) →
 cond (decide (mid < IntKind.wrap IntKind.i64 (nn - s)))
 (cond (decide (IntKind.wrap IntKind.i64 (nn - s) < b))
 (∃ (P71 : List Int),
 ∃ (U72 : List Int),
 ∃ (V73 : List Int),
 ∃ (Q74 : List Int),
 ∃ (lv75 : List Int),
 And ([AV.sl (Pl.mk 0 0 [] (List.length xs)) 1 (List.length xs) 0 (List.length xs), AV.int IntKind.i64 mid, AV.int IntKind.i64 (IntKind.wrap IntKind.i64 (nn - s)), AV.int IntKind.i64 b, AV.func (Fn.func 14) [] [AV.ptr (Pl.mk 1 0 [] 1)]] = [AV.sl (Pl.mk 0 0 [] (List.length (P71 ++ U72 ++ V73 ++ Q74))) 1 (List.length (P71 ++ U72 ++ V73 ++ Q74)) 0 (List.length (P71 ++ U72 ++ V73 ++ Q74)), AV.int IntKind.i64 (↑(List.length P71) : Int), AV.int IntKind.i64 (↑(List.length (P71 ++ U72)) : Int), AV.int IntKind.i64 (↑(List.length (P71 ++ U72 ++ V73)) : Int), AV.func (Fn.func 14) [] [AV.ptr (Pl.mk 1 0 [] 1)]])
 (And (DH (P64 ++ W70 ++ Q67) lv68 = DH (P71 ++ U72 ++ V73 ++ Q74) lv75)
 (And (U72 ≠ [])
 (And (V73 ≠ [])
 (And (List.length (U72 ++ V73) ≤ d)
 (And (Srt lv75 U72)
 (And (Srt lv75 V73)
 (And (∀ (x76 : Int),
 (x76 ∈ U72 ++ V73) →
 OkL lv75 x76)
 (And (List.length (P71 ++ U72 ++ V73 ++ Q74) < 900)
 (∀ (W77 : List Int),
 (List.Perm W77 (U72 ++ V73)) →
 (Srt lv75 W77) →
 k (AV.tuple []) (DH (P71 ++ W77 ++ Q74) lv75) false))))))))))
 (k (AV.tuple []) (DH (P64 ++ W70 ++ Q67) lv68) false))
 (k (AV.tuple []) (DH (P64 ++ W70 ++ Q67) lv68) false)))))))))))
 (cond (decide (mid < IntKind.wrap IntKind.i64 (nn - s)))
 (cond (decide (IntKind.wrap IntKind.i64 (nn - s) < b))
 (∃ (P78 : List Int),
 ∃ (U79 : List Int),
 ∃ (V80 : List Int),
 ∃ (Q81 : List Int),
 ∃ (lv82 : List Int),
 And ([AV.sl (Pl.mk 0 0 [] (List.length xs)) 1 (List.length xs) 0 (List.length xs), AV.int IntKind.i64 mid, AV.int IntKind.i64 (IntKind.wrap IntKind.i64 (nn - s)), AV.int IntKind.i64 b, AV.func (Fn.func 14) [] [AV.ptr (Pl.mk 1 0 [] 1)]] = [AV.sl (Pl.mk 0 0 [] (List.length (P78 ++ U79 ++ V80 ++ Q81))) 1 (List.length (P78 ++ U79 ++ V80 ++ Q81)) 0 (List.length (P78 ++ U79 ++ V80 ++ Q81)), AV.int IntKind.i64 (↑(List.length P78) : Int), AV.int IntKind.i64 (↑(List.length (P78 ++ U79)) : Int), AV.int IntKind.i64 (↑(List.length (P78 ++ U79 ++ V80)) : Int), AV.func (Fn.func 14) [] [AV.ptr (Pl.mk 1 0 [] 1)]])
 (And (DH xs lv = DH (P78 ++ U79 ++ V80 ++ Q81) lv82)
 (And (U79 ≠ [])
 (And (V80 ≠ [])
 (And (List.length (U79 ++ V80) ≤ d)
 (And (Srt lv82 U79)
 (And (Srt lv82 V80)
 (And (∀ (x83 : Int),
 (x83 ∈ U79 ++ V80) →
 OkL lv82 x83)
 (And (List.length (P78 ++ U79 ++ V80 ++ Q81) < 900)
 (∀ (W84 : List Int),
 (List.Perm W84 (U79 ++ V80)) →
 (Srt lv82 W84) →
 k (AV.tuple []) (DH (P78 ++ W84 ++ Q81) lv82) false))))))))))
 (k (AV.tuple []) (DH xs lv) false))
 (k (AV.tuple []) (DH xs lv) false)))
 (cond (decide (mid < IntKind.wrap IntKind.i64 (nn - s)))
 (cond (decide (IntKind.wrap IntKind.i64 (nn - s) < b))
 (∃ (P85 : List Int),
 ∃ (U86 : List Int),
 ∃ (V87 : List Int),
 ∃ (Q88 : List Int),
 ∃ (lv89 : List Int),
 And ([AV.sl (Pl.mk 0 0 [] (List.length xs)) 1 (List.length xs) 0 (List.length xs), AV.int IntKind.i64 mid, AV.int IntKind.i64 (IntKind.wrap IntKind.i64 (nn - s)), AV.int IntKind.i64 b, AV.func (Fn.func 14) [] [AV.ptr (Pl.mk 1 0 [] 1)]] = [AV.sl (Pl.mk 0 0 [] (List.length (P85 ++ U86 ++ V87 ++ Q88))) 1 (List.length (P85 ++ U86 ++ V87 ++ Q88)) 0 (List.length (P85 ++ U86 ++ V87 ++ Q88)), AV.int IntKind.i64 (↑(List.length P85) : Int), AV.int IntKind.i64 (↑(List.length (P85 ++ U86)) : Int), AV.int IntKind.i64 (↑(List.length (P85 ++ U86 ++ V87)) : Int), AV.func (Fn.func 14) [] [AV.ptr (Pl.mk 1 0 [] 1)]])
 (And (DH xs lv = DH (P85 ++ U86 ++ V87 ++ Q88) lv89)
 (And (U86 ≠ [])
 (And (V87 ≠ [])
 (And (List.length (U86 ++ V87) ≤ d)
 (And (Srt lv89 U86)
 (And (Srt lv89 V87)
 (And (∀ (x90 : Int),
 (x90 ∈ U86 ++ V87) →
 OkL lv89 x90)
 (And (List.length (P85 ++ U86 ++ V87 ++ Q88) < 900)
 (∀ (W91 : List Int),
 (List.Perm W91 (U86 ++ V87)) →
 (Srt lv89 W91) →
 k (AV.tuple []) (DH (P85 ++ W91 ++ Q88) lv89) false))))))))))
 (k (AV.tuple []) (DH xs lv) false))
 (k (AV.tuple []) (DH xs lv) false))))) : Prop) := by kernel_rfl
theorem start18 (N fuel : Nat) (xs lv : List Int) (n : Int) (k : AV → Heap → Bool → Prop) :
 (runP (S F) T18 N 9 fuel 18 [DS xs.length, .int .i64 n, CMP] (DH xs lv) k) =
 ((resPS (S F) T18 N 9 fuel 18 3 2 [] p18a fuel (St.mk [(0, AV.sl (Pl.mk 0 0 [] (List.length xs)) 1 (List.length xs) 0 (List.length xs)), (1, AV.int IntKind.i64 n), (2, AV.func (Fn.func 14) [] [AV.ptr (Pl.mk 1 0 [] 1)]), (6, AV.int IntKind.i64 20), (7, AV.int IntKind.i64 0), (8, AV.int IntKind.i64 20), (9, AV.bad), (13, AV.bad), (30, AV.bad), (35, AV.bad), (54, AV.bad)] [] (DH xs lv) false) k) : Prop) := by kernel_rfl
theorem step18a (N fuel n : Nat) (xs lv : List Int) (nn bs a b : Int) (k : AV → Heap → Bool → Prop) :
 (resPS (S F) T18 N 9 fuel 18 3 2 [] p18a (n + 1) ⟨L18a xs.length nn bs a b, [], DH xs lv, false⟩ k) =
 ((cond (decide (b ≤ nn))
 (∃ (P0 : List Int),
 ∃ (U1 : List Int),
 ∃ (Q2 : List Int),
 ∃ (lv3 : List Int),
 And ([AV.sl (Pl.mk 0 0 [] (List.length xs)) 1 (List.length xs) 0 (List.length xs), AV.int IntKind.i64 a, AV.int IntKind.i64 b, AV.func (Fn.func 14) [] [AV.ptr (Pl.mk 1 0 [] 1)]] = [AV.sl (Pl.mk 0 0 [] (List.length (P0 ++ U1 ++ Q2))) 1 (List.length (P0 ++ U1 ++ Q2)) 0 (List.length (P0 ++ U1 ++ Q2)), AV.int IntKind.i64 (↑(List.length P0) : Int), AV.int IntKind.i64 (↑(List.length (P0 ++ U1)) : Int), AV.func (Fn.func 14) [] [AV.ptr (Pl.mk 1 0 [] 1)]])
 (And (DH xs lv = DH (P0 ++ U1 ++ Q2) lv3)
 (And (∀ (x4 : Int),
 (x4 ∈ U1) →
 OkL lv3 x4)
 (And (List.length (P0 ++ U1 ++ Q2) < 900)
 (∀ (W5 : List Int),
 (List.Perm W5 U1) →
 (Srt lv3 W5) →
 resPS (S F) T18 N 9 fuel 18 3 2 [] p18a n (St.mk [(0, AV.sl (Pl.mk 0 0 [] (List.length xs)) 1 (List.length xs) 0 (List.length xs)), (1, AV.int IntKind.i64 nn), (2, AV.func (Fn.func 14) [] [AV.ptr (Pl.mk 1 0 [] 1)]), (6, AV.int IntKind.i64 bs), (7, AV.int IntKind.i64 b), (8, AV.int IntKind.i64 (IntKind.wrap IntKind.i64 (b + bs))), (9, AV.bad), (13, AV.bad), (30, AV.bad), (35, AV.bad), (54, AV.bad)] [] (DH (P0 ++ W5 ++ Q2) lv3) false) k)))))
 (∃ (P6 : List Int),
 ∃ (U7 : List Int),
 ∃ (Q8 : List Int),
 ∃ (lv9 : List Int),
 And ([AV.sl (Pl.mk 0 0 [] (List.length xs)) 1 (List.length xs) 0 (List.length xs), AV.int IntKind.i64 a, AV.int IntKind.i64 nn, AV.func (Fn.func 14) [] [AV.ptr (Pl.mk 1 0 [] 1)]] = [AV.sl (Pl.mk 0 0 [] (List.length (P6 ++ U7 ++ Q8))) 1 (List.length (P6 ++ U7 ++ Q8)) 0 (List.length (P6 ++ U7 ++ Q8)), AV.int IntKind.i64 (↑(List.length P6) : Int), AV.int IntKind.i64 (↑(List.length (P6 ++ U7)) : Int), AV.func (Fn.func 14) [] [AV.ptr (Pl.mk 1 0 [] 1)]])
 (And (DH xs lv = DH (P6 ++ U7 ++ Q8) lv9)
 (And (∀ (x10 : Int),
 (x10 ∈ U7) →
 OkL lv9 x10)
 (And (List.length (P6 ++ U7 ++ Q8) < 900)
 (∀ (W11 : List Int),
 (List.Perm W11 U7) →
 (Srt lv9 W11) →
 resPS (S F) T18 N 9 fuel 18 3 2 [] p18b fuel (St.mk [(0, AV.sl (Pl.mk 0 0 [] (List.length xs)) 1 (List.length xs) 0 (List.length xs)), (1, AV.int IntKind.i64 nn), (2, AV.func (Fn.func 14) [] [AV.ptr (Pl.mk 1 0 [] 1)]), (6, AV.int IntKind.i64 bs), (7, AV.bad), (8, AV.bad), (9, AV.bad), (13, AV.bad), (30, AV.bad), (35, AV.bad), (54, AV.bad)] [] (DH (P6 ++ W11 ++ Q8) lv9) false) k)))))) : Prop) := by kernel_rfl
theorem step18b (N fuel n : Nat) (xs lv : List Int) (nn bs : Int) (k : AV → Heap → Bool → Prop) :
 (resPS (S F) T18 N 9 fuel 18 3 2 [] p18b (n + 1) ⟨L18b xs.length nn bs, [], DH xs lv, false⟩ k) =
 ((cond (decide (bs < nn))
 (resPS (S F) T18 N 9 fuel 18 3 2 [(q18, fuel)] p18b n (St.mk [(0, AV.sl (Pl.mk 0 0 [] (List.length xs)) 1 (List.length xs) 0 (List.length xs)), (1, AV.int IntKind.i64 nn), (2, AV.func (Fn.func 14) [] [AV.ptr (Pl.mk 1 0 [] 1)]), (6, AV.int IntKind.i64 bs), (7, AV.int IntKind.i64 0), (8, AV.int IntKind.i64 (IntKind.wrap IntKind.i64 (2 * bs))), (9, AV.bad), (13, AV.bad), (30, AV.bad), (35, AV.bad), (54, AV.bad)] [] (DH xs lv) false) k)
 (k (AV.tuple []) (DH xs lv) false)) : Prop) := by kernel_rfl
theorem inner18 (N fuel n m : Nat) (xs lv : List Int) (nn bs a b : Int) (k : AV → Heap → Bool → Prop) :
 (resPS (S F) T18 N 9 fuel 18 3 2 [(q18, m + 1)] p18b n ⟨L18a xs.length nn bs a b, [], DH xs lv, false⟩ k) =
 ((cond (decide (b ≤ nn))
 (∃ (P0 : List Int),
 ∃ (U1 : List Int),
 ∃ (V2 : List Int),
 ∃ (Q3 : List Int),
 ∃ (lv4 : List Int),
 And ([AV.sl (Pl.mk 0 0 [] (List.length xs)) 1 (List.length xs) 0 (List.length xs), AV.int IntKind.i64 a, AV.int IntKind.i64 (IntKind.wrap IntKind.i64 (a + bs)), AV.int IntKind.i64 b, AV.func (Fn.func 14) [] [AV.ptr (Pl.mk 1 0 [] 1)]] = [AV.sl (Pl.mk 0 0 [] (List.length (P0 ++ U1 ++ V2 ++ Q3))) 1 (List.length (P0 ++ U1 ++ V2 ++ Q3)) 0 (List.length (P0 ++ U1 ++ V2 ++ Q3)), AV.int IntKind.i64 (↑(List.length P0) : Int), AV.int IntKind.i64 (↑(List.length (P0 ++ U1)) : Int), AV.int IntKind.i64 (↑(List.length (P0 ++ U1 ++ V2)) : Int), AV.func (Fn.func 14) [] [AV.ptr (Pl.mk 1 0 [] 1)]])
 (And (DH xs lv = DH (P0 ++ U1 ++ V2 ++ Q3) lv4)
 (And (U1 ≠ [])
 (And (V2 ≠ [])
 (And (List.length (U1 ++ V2) ≤ 1000)
 (And (Srt lv4 U1)
 (And (Srt lv4 V2)
 (And (∀ (x5 : Int),
 (x5 ∈ U1 ++ V2) →
 OkL lv4 x5)
 (And (List.length (P0 ++ U1 ++ V2 ++ Q3) < 900)
 (∀ (W6 : List Int),
 (List.Perm W6 (U1 ++ V2)) →
 (Srt lv4 W6) →
 resPS (S F) T18 N 9 fuel 18 3 2 [(q18, m)] p18b n (St.mk [(0, AV.sl (Pl.mk 0 0 [] (List.length xs)) 1 (List.length xs) 0 (List.length xs)), (1, AV.int IntKind.i64 nn), (2, AV.func (Fn.func 14) [] [AV.ptr (Pl.mk 1 0 [] 1)]), (6, AV.int IntKind.i64 bs), (7, AV.int IntKind.i64 b), (8, AV.int IntKind.i64 (IntKind.wrap IntKind.i64 (b + IntKind.wrap IntKind.i64 (2 * bs)))), (9, AV.bad), (13, AV.bad), (30, AV.bad), (35, AV.bad), (54, AV.bad)] [] (DH (P0 ++ W6 ++ Q3) lv4) false) k))))))))))
 (cond (decide (IntKind.wrap IntKind.i64 (a + bs) < nn))
 (∃ (P7 : List Int),
 ∃ (U8 : List Int),
 ∃ (V9 : List Int),
 ∃ (Q10 : List Int),
 ∃ (lv11 : List Int),
 And ([AV.sl (Pl.mk 0 0 [] (List.length xs)) 1 (List.length xs) 0 (List.length xs), AV.int IntKind.i64 a, AV.int IntKind.i64 (IntKind.wrap IntKind.i64 (a + bs)), AV.int IntKind.i64 nn, AV.func (Fn.func 14) [] [AV.ptr (Pl.mk 1 0 [] 1)]] = [AV.sl (Pl.mk 0 0 [] (List.length (P7 ++ U8 ++ V9 ++ Q10))) 1 (List.length (P7 ++ U8 ++ V9 ++ Q10)) 0 (List.length (P7 ++ U8 ++ V9 ++ Q10)), AV.int IntKind.i64 (↑(List.length P7) : Int), AV.int IntKind.i64 (↑(List.length (P7 ++ U8)) : Int), AV.int IntKind.i64 (↑(List.length (P7 ++ U8 ++ V9)) : Int), AV.func (Fn.func 14) [] [AV.ptr (Pl.mk 1 0 [] 1)]])
 (And (DH xs lv = DH (P7 ++ U8 ++ V9 ++ Q10) lv11)
 (And (U8 ≠ [])
 (And (V9 ≠ [])
 (And (List.length (U8 ++ V9) ≤ 1000)
 (And (Srt lv11 U8)
 (And (Srt lv11 V9)
 (And (∀ (x12 : Int),
 (x12 ∈ U8 ++ V9) →
 OkL lv11 x12)
 (And (List.length (P7 ++ U8 ++ V9 ++ Q10) < 900)
 (∀ (W13 : List Int),
 (List.Perm W13 (U8 ++ V9)) →
 (Srt lv11 W13) →
 resPS (S F) T18 N 9 fuel 18 3 2 [] p18b n (St.mk [(0, AV.sl (Pl.mk 0 0 [] (List.length xs)) 1 (List.length xs) 0 (List.length xs)), (1, AV.int IntKind.i64 nn), (2, AV.func (Fn.func 14) [] [AV.ptr (Pl.mk 1 0 [] 1)]), (6, AV.int IntKind.i64 (IntKind.wrap IntKind.i64 (bs * 2))), (7, AV.bad), (8, AV.bad), (9, AV.bad), (13, AV.bad), (30, AV.bad), (35, AV.bad), (54, AV.bad)] [] (DH (P7 ++ W13 ++ Q10) lv11) false) k))))))))))
 (resPS (S F) T18 N 9 fuel 18 3 2 [] p18b n (St.mk [(0, AV.sl (Pl.mk 0 0 [] (List.length xs)) 1 (List.length xs) 0 (List.length xs)), (1, AV.int IntKind.i64 nn), (2, AV.func (Fn.func 14) [] [AV.ptr (Pl.mk 1 0 [] 1)]), (6, AV.int IntKind.i64 (IntKind.wrap IntKind.i64 (bs * 2))), (7, AV.bad), (8, AV.bad), (9, AV.bad), (13, AV.bad), (30, AV.bad), (35, AV.bad), (54, AV.bad)] [] (DH xs lv) false) k))) : Prop) := by kernel_rfl
theorem tree13 (N fuel : Nat) (xs lv : List Int) (k : AV → Heap → Bool → Prop) :
 (runP (S F) T13 N 9 fuel 13 [DS xs.length, CMP] (DH xs lv) k) =
 ((∃ (X0 : List Int),
 ∃ (lv1 : List Int),
 And ([AV.sl (Pl.mk 0 0 [] (List.length xs)) 1 (List.length xs) 0 (List.length xs), AV.int IntKind.i64 (↑(List.length xs) : Int), AV.func (Fn.func 14) [] [AV.ptr (Pl.mk 1 0 [] 1)]] = [AV.sl (Pl.mk 0 0 [] (List.length X0)) 1 (List.length X0) 0 (List.length X0), AV.int IntKind.i64 (↑(List.length X0) : Int), AV.func (Fn.func 14) [] [AV.ptr (Pl.mk 1 0 [] 1)]])
 (And (DH xs lv = DH X0 lv1)
 (And (∀ (x2 : Int),
 (x2 ∈ X0) →
 OkL lv1 x2)
 (And (List.length X0 < 500)
 (∀ (W3 : List Int),
 (List.Perm W3 X0) →
 (Srt lv1 W3) →
 k (AV.tuple []) (DH W3 lv1) false))))) : Prop) := by kernel_rfl
end Go.Proofs.Ytiiddampachhlaa
/-
  VictimTwo: comparing and swapping two of a row; rows cut and put together.
-/
namespace Go.Proofs.Ytiiddampachhlaa
open Go Go.X
variable {F : Nat}
theorem condT {b : Bool} {A B : Prop} (h : b = true) (a : A) : cond b A B := by rw [h]; exact a
theorem condF {b : Bool} {A B : Prop} (h : b = false) (a : B) : cond b A B := by rw [h]; exact a
theorem wrapI {i : Int} (h : -1000000 ≤ i ∧ i ≤ 1000000) : IntKind.wrap .i64 i = i := by rw [IntKind.wrap_i64]; omega
theorem half {i : Int} (h : 0 ≤ i ∧ i ≤ 1000000) : IntKind.wrap .i64 (Int.fdiv (IntKind.wrap .u64 (IntKind.wrap .i64 i)) (Int.ofNat 2)) = i / 2 := by
  have h0 : IntKind.wrap .i64 i = i := wrapI (by omega)
  have h1 : IntKind.wrap .u64 i = i := by rw [IntKind.wrap_u64]; omega
  rw [h0, h1, show Int.ofNat 2 = (2 : Int) from rfl, Int.fdiv_eq_ediv_of_nonneg i (by omega)]
  exact wrapI (by omega)
theorem okX {xs : List Int} {x : Int} {I : Nat} (hx : x = I) (h : I < xs.length) : okAt (.arr 1 (row encZ xs)) [0 + x.toNat] (0 + (0 + x.toNat) * 1) xs.length false 1 = true := by
  subst hx
  simp only [Int.toNat_natCast, Nat.zero_add, Nat.mul_one]
  exact okAt_row h (by simp) (by simp [coffOf]) rfl rfl rfl
theorem opX {ys : List AV} {xs : List Int} {x : Int} {I : Nat} (hy : ys = row encZ xs) (hx : x = I) {n : Nat} (hn : n = xs.length) (h : I < xs.length) : okPl (.arr 1 ys) [0 + x.toNat] (0 + (0 + x.toNat) * 1) n 1 = true := by
  subst hx hy hn
  simp only [Int.toNat_natCast, Nat.zero_add, Nat.mul_one]
  exact okPl_row h (by simp) (by simp [coffOf]) rfl rfl
theorem prX {xs : List Int} {x : Int} {I : Nat} (hx : x = I) (h : I < xs.length) : projT [0 + x.toNat] (.arr 1 (row encZ xs)) = .int .i64 xs[I] := by
  subst hx
  simp only [Int.toNat_natCast, Nat.zero_add]
  exact projT_row h
theorem setX {xs : List Int} {x v : Int} {I : Nat} (hx : x = I) : (row encZ xs).set (0 + x.toNat) (.int .i64 v) = row encZ (xs.set I v) := by
  subst hx
  simp only [Int.toNat_natCast, Nat.zero_add]
  exact row_set
theorem cmpT {xs lv : List Int} {x y : Int} {I J : Nat} {K : Int → Prop} (hx : x = I) (hy : y = J) (hI : I < xs.length) (hJ : J < xs.length) (o1 : OkL lv xs[I]) (o2 : OkL lv xs[J]) (hK : K (key lv xs[I] - key lv xs[J])) :
    cond (decide (0 ≤ x)) (cond (decide (Int.toNat x < List.length xs)) (cond (okAt (AV.arr 1 (row encZ xs)) [0 + Int.toNat x] (0 + (0 + Int.toNat x) * 1) (List.length xs) false 1)
     (cond (AV.isIntK (projT [0 + Int.toNat x] (AV.arr 1 (row encZ xs))) IntKind.i64)
     (cond (decide (0 ≤ y)) (cond (decide (Int.toNat y < List.length xs)) (cond (okAt (AV.arr 1 (row encZ xs)) [0 + Int.toNat y] (0 + (0 + Int.toNat y) * 1) (List.length xs) false 1)
     (cond (AV.isIntK (projT [0 + Int.toNat y] (AV.arr 1 (row encZ xs))) IntKind.i64)
      (∃ (lv0 : List Int), ∃ (a1 : Int), ∃ (b2 : Int),
        And ([AV.int IntKind.i64 (AV.toInt (projT [0 + Int.toNat x] (AV.arr 1 (row encZ xs)))), AV.int IntKind.i64 (AV.toInt (projT [0 + Int.toNat y] (AV.arr 1 (row encZ xs)))), AV.ptr (Pl.mk 0 0 [] 1)] = [AV.int IntKind.i64 a1, AV.int IntKind.i64 b2, AV.ptr (Pl.mk 0 0 [] 1)])
        (And ([some (Blk.mk (AV.isl 1 (row encZ lv)) false true)] = [some (Blk.mk (AV.isl 1 (row encZ lv0)) false true)]) (And (OkL lv0 a1) (And (OkL lv0 b2) (K (key lv0 a1 - key lv0 b2))))))
      False) False) False) False) False) False) False) False := by
  refine condT (by subst hx; simp) (condT (by subst hx; simpa using hI) (condT (okX hx hI) (condT (by rw [prX hx hI]; rfl) (condT (by subst hy; simp) (condT (by subst hy; simpa using hJ) (condT (okX hy hJ) (condT (by rw [prX hy hJ]; rfl) ?_)))))))
  refine ⟨lv, xs[I], xs[J], ?_, rfl, o1, o2, hK⟩
  rw [prX hx hI, prX hy hJ]
  rfl
theorem swapT {xs : List Int} {x y : Int} {I J : Nat} {K : List AV → Prop} (hx : x = I) (hy : y = J) (hI : I < xs.length) (hJ : J < xs.length) (hK : K (row encZ ((xs.set I xs[J]).set J xs[I]))) :
    cond (decide (0 ≤ y)) (cond (decide (Int.toNat y < List.length xs)) (cond (okAt (AV.arr 1 (row encZ xs)) [0 + Int.toNat y] (0 + (0 + Int.toNat y) * 1) (List.length xs) false 1)
     (cond (AV.isIntK (projT [0 + Int.toNat y] (AV.arr 1 (row encZ xs))) IntKind.i64)
     (cond (decide (0 ≤ x)) (cond (decide (Int.toNat x < List.length xs)) (cond (okAt (AV.arr 1 (row encZ xs)) [0 + Int.toNat x] (0 + (0 + Int.toNat x) * 1) (List.length xs) false 1)
     (cond (AV.isIntK (projT [0 + Int.toNat x] (AV.arr 1 (row encZ xs))) IntKind.i64)
     (cond (decide (0 ≤ x)) (cond (decide (Int.toNat x < List.length xs)) (cond (okPl (AV.arr 1 (row encZ xs)) [0 + Int.toNat x] (0 + (0 + Int.toNat x) * 1) (List.length xs) 1)
      (∀ (ys0 : List AV), (ys0 = List.set (row encZ xs) (0 + Int.toNat x) (AV.int IntKind.i64 (AV.toInt (projT [0 + Int.toNat y] (AV.arr 1 (row encZ xs)))))) →
       cond (decide (0 ≤ y)) (cond (decide (Int.toNat y < List.length xs)) (cond (okPl (AV.arr 1 ys0) [0 + Int.toNat y] (0 + (0 + Int.toNat y) * 1) (List.length xs) 1)
        (∀ (ys1 : List AV), (ys1 = List.set ys0 (0 + Int.toNat y) (AV.int IntKind.i64 (AV.toInt (projT [0 + Int.toNat x] (AV.arr 1 (row encZ xs)))))) → K ys1) False) False) False)
      False) False) False) False) False) False) False) False) False) False) False := by
  refine condT (by subst hy; simp) (condT (by subst hy; simpa using hJ) (condT (okX hy hJ) (condT (by rw [prX hy hJ]; rfl) (condT (by subst hx; simp) (condT (by subst hx; simpa using hI) (condT (okX hx hI) (condT (by rw [prX hx hI]; rfl)
    (condT (by subst hx; simp) (condT (by subst hx; simpa using hI) (condT (opX rfl hx rfl hI) ?_))))))))))
  intro ys0 h0
  rw [prX hy hJ] at h0
  replace h0 : ys0 = row encZ (xs.set I xs[J]) := by rw [h0]; exact setX hx
  refine condT (by subst hy; simp) (condT (by subst hy; simpa using hJ) (condT (opX (n := xs.length) h0 hy (by simp) (by simpa using hJ)) ?_))
  intro ys1 h1
  rw [prX hx hI, h0] at h1
  replace h1 : ys1 = row encZ ((xs.set I xs[J]).set J xs[I]) := by rw [h1]; exact setX hy
  rw [h1]
  exact hK
/-! Lists. -/
theorem get_mid {X R : List Int} {u : Int} {i : Nat} (hi : i = X.length) (h : i < (X ++ u :: R).length) : (X ++ u :: R)[i] = u := by subst hi; simp
theorem get_mid2 {X Y R : List Int} {u v : Int} {i : Nat} (hi : i = X.length + 1 + Y.length) (h : i < (X ++ u :: (Y ++ v :: R)).length) : (X ++ u :: (Y ++ v :: R))[i] = v := by
  have := get_mid (X := X ++ u :: Y) (u := v) (R := R) (i := i) (by simp; omega) (by simpa using h)
  simpa using this
theorem swap_mid {X Y R : List Int} {u v : Int} {i j : Nat} (hi : i = X.length) (hj : j = X.length + 1 + Y.length) : ((X ++ u :: (Y ++ v :: R)).set i v).set j u = X ++ v :: (Y ++ u :: R) := by
  subst hi
  rw [List.set_append_right _ _ (Nat.le_refl _)]
  simp only [Nat.sub_self, List.set_cons_zero]
  have := List.set_append_right (s := X ++ v :: Y) (t := v :: R) j u (by simp; omega)
  simp only [List.append_assoc, List.cons_append] at this
  rw [this]
  have e : j - (X ++ v :: Y).length = 0 := by simp; omega
  rw [e]
  rfl
theorem swap_mid' {X Y R : List Int} {u v : Int} {i j : Nat} (hi : i = X.length) (hj : j = X.length + 1 + Y.length) : ((X ++ u :: (Y ++ v :: R)).set j u).set i v = X ++ v :: (Y ++ u :: R) := by
  rw [List.set_comm _ _ (by omega)]
  exact swap_mid hi hj
end Go.Proofs.Ytiiddampachhlaa
/-
  VictimTwo: ranges swapped, rotated.
-/
namespace Go.Proofs.Ytiiddampachhlaa
open Go Go.X
variable {F : Nat}
set_option maxHeartbeats 2000000 in
theorem loop22 (N fuel : Nat) (lv : List Int) (n : Int) (k : AV → Heap → Bool → Prop) : ∀ (m : Nat) (P V1 U2 M U1 V2 Q : List Int) (a b i : Int), U2.length < m → U2.length = V2.length → V1.length = U1.length → a = P.length → b = (P.length + V1.length + U2.length + M.length : Nat) → i = V1.length → n = (V1.length + U2.length : Nat) → P.length + V1.length + U2.length + M.length + U1.length + V2.length + Q.length < 1000 →
    k (.tuple []) (DH (P ++ V1 ++ V2 ++ M ++ U1 ++ U2 ++ Q) lv) false →
    resPS (S F) T0 N 9 fuel 22 5 2 [] [true] m ⟨L22 (P ++ V1 ++ U2 ++ M ++ U1 ++ V2 ++ Q).length a b n i, [], DH (P ++ V1 ++ U2 ++ M ++ U1 ++ V2 ++ Q) lv, false⟩ k
  | 0, P, V1, U2, M, U1, V2, Q, a, b, i, hm, _, _, _, _, _, _, _, _ => by omega
  | m + 1, P, V1, [], M, U1, V2, Q, a, b, i, hm, h1, h2, ha, hb, hi, hn, hl, hk => by
    obtain rfl : V2 = [] := List.eq_nil_of_length_eq_zero h1.symm
    rw [step22]
    refine condF (decide_eq_false (by simp at hn; omega)) ?_
    simpa using hk
  | m + 1, P, V1, u :: U2, M, U1, [], Q, a, b, i, hm, h1, h2, ha, hb, hi, hn, hl, hk => by simp at h1
  | m + 1, P, V1, u :: U2, M, U1, v :: V2, Q, a, b, i, hm, h1, h2, ha, hb, hi, hn, hl, hk => by
    simp only [List.length_cons] at hm h1 hb hn hl
    have ih := loop22 N fuel lv n k m P (V1 ++ [v]) U2 M (U1 ++ [u]) V2 Q a b (i + 1) (by omega) (by omega) (by simp; omega) ha (by simp; omega) (by simp; omega) (by simp; omega) (by simp; omega)
      (by simpa using hk)
    have e : P ++ V1 ++ (u :: U2) ++ M ++ U1 ++ (v :: V2) ++ Q = (P ++ V1) ++ u :: ((U2 ++ M ++ U1) ++ v :: (V2 ++ Q)) := by simp
    have e' : P ++ (V1 ++ [v]) ++ U2 ++ M ++ (U1 ++ [u]) ++ V2 ++ Q = (P ++ V1) ++ v :: ((U2 ++ M ++ U1) ++ u :: (V2 ++ Q)) := by simp
    have w1 : IntKind.wrap .i64 (a + i) = a + i := wrapI (by omega)
    have w2 : IntKind.wrap .i64 (b + i) = b + i := wrapI (by omega)
    have w3 : IntKind.wrap .i64 (i + 1) = i + 1 := wrapI (by omega)
    rw [step22]
    refine condT (decide_eq_true (by omega)) ?_
    rw [w1, w2, w3]
    rw [e'] at ih
    rw [e]
    have hI : (P ++ V1).length < ((P ++ V1) ++ u :: ((U2 ++ M ++ U1) ++ v :: (V2 ++ Q))).length := by simp
    have hJ : (P ++ V1).length + 1 + (U2 ++ M ++ U1).length < ((P ++ V1) ++ u :: ((U2 ++ M ++ U1) ++ v :: (V2 ++ Q))).length := by simp; omega
    refine swapT (I := (P ++ V1).length) (J := (P ++ V1).length + 1 + (U2 ++ M ++ U1).length) (K := fun ys1 => resPS (S F) T0 N 9 fuel 22 5 2 [] [true] m ⟨L22 ((P ++ V1) ++ u :: ((U2 ++ M ++ U1) ++ v :: (V2 ++ Q))).length a b n (i + 1), [], DR ys1 (row encZ lv), false⟩ k)
      (by simp; omega) (by simp; omega) hI hJ ?_
    rw [get_mid rfl hI, get_mid2 rfl hJ, swap_mid rfl rfl]
    have el : ((P ++ V1) ++ u :: ((U2 ++ M ++ U1) ++ v :: (V2 ++ Q))).length = ((P ++ V1) ++ v :: ((U2 ++ M ++ U1) ++ u :: (V2 ++ Q))).length := by simp
    rw [el]
    exact ih
theorem swap22 (N : Nat) (args : List AV) (H : Heap) (k : AV → Heap → Bool → Prop) : t22 args H k → runP (S F) T0 N 9 (S F).fu 22 args H k := by
  rintro ⟨P, U, M, V, Q, lv, rfl, rfl, h1, hl, hk⟩
  rw [start22]
  have := loop22 (F := F) N (S F).fu lv U.length k (S F).fu P [] U M [] V Q P.length ((P ++ U ++ M).length : Nat) 0 (by rw [S_fu]; simp at hl; omega) h1 rfl rfl (by simp; try omega) rfl (by simp) (by simp at hl ⊢; omega) (by simpa using hk)
  simpa using this
set_option maxHeartbeats 2000000 in
theorem loop21 (N fuel : Nat) (lv : List Int) (k : AV → Heap → Bool → Prop) : ∀ (n : Nat) (P U V Q : List Int) (m i j : Int), U.length + V.length < n → U ≠ [] → V ≠ [] → m = (P.length + U.length : Nat) → i = U.length → j = V.length → P.length + U.length + V.length + Q.length < 1000 →
    k (.tuple []) (DH (P ++ V ++ U ++ Q) lv) false →
    resPS (S F) T21 N 9 fuel 21 5 2 [] [true, true, false] n ⟨L21 (P ++ U ++ V ++ Q).length m i j, [], DH (P ++ U ++ V ++ Q) lv, false⟩ k
  | 0, P, U, V, Q, m, i, j, hn, _, _, _, _, _, _, _ => by omega
  | n + 1, P, U, V, Q, m, i, j, hn, hU, hV, hm, hi, hj, hl, hk => by
    have hU' : 0 < U.length := List.length_pos_iff.2 hU
    have hV' : 0 < V.length := List.length_pos_iff.2 hV
    have w1 : IntKind.wrap .i64 (m - i) = m - i := wrapI (by omega)
    have w2 : IntKind.wrap .i64 (i - j) = i - j := wrapI (by omega)
    have w3 : IntKind.wrap .i64 (j - i) = j - i := wrapI (by omega)
    have w4 : IntKind.wrap .i64 (m + j) = m + j := wrapI (by omega)
    have w5 : IntKind.wrap .i64 (m + j - i) = m + j - i := wrapI (by omega)
    rw [step21]
    simp only [w1, w2, w3, w4, w5]
    by_cases he : i = j
    · refine condF (by simp [he]) ⟨P, U, [], V, Q, lv, ?_, ?_, by omega, by simp; omega, by simpa using hk⟩
      · simp; omega
      · simp
    · refine condT (by simp [he]) ?_
      by_cases hg : i > j
      · refine condT (decide_eq_true hg) ?_
        obtain ⟨A, B, hAB, hA⟩ : ∃ A B, U = A ++ B ∧ A.length = V.length := ⟨U.take V.length, U.drop V.length, by simp, by simp; omega⟩
        have hB : B.length = U.length - V.length := by rw [hAB]; simp; omega
        subst hAB
        simp only [List.length_append] at hn hl hm hi hB hU'
        refine ⟨P, A, B, V, Q, lv, ?_, ?_, hA, by simp; omega, ?_⟩
        · simp; omega
        · simp
        · have ih := loop21 N fuel lv k n (P ++ V) B A Q m (i - j) j (by omega) (List.ne_nil_of_length_pos (by omega)) (List.ne_nil_of_length_pos (by omega)) (by simp; omega) (by omega) (by omega) (by simp; omega) (by simpa using hk)
          have el : (P ++ (A ++ B) ++ V ++ Q).length = (P ++ V ++ B ++ A ++ Q).length := by simp; omega
          rw [el]
          exact ih
      · refine condF (decide_eq_false hg) ?_
        obtain ⟨A, B, hAB, hB⟩ : ∃ A B, V = A ++ B ∧ B.length = U.length := ⟨V.take (V.length - U.length), V.drop (V.length - U.length), by simp, by simp; omega⟩
        have hA : A.length = V.length - U.length := by rw [hAB]; simp; omega
        subst hAB
        simp only [List.length_append] at hn hl hj hA hV'
        refine ⟨P, U, A, B, Q, lv, ?_, ?_, hB.symm, by simp; omega, ?_⟩
        · simp; omega
        · simp
        · have ih := loop21 N fuel lv k n P B A (U ++ Q) m i (j - i) (by omega) (List.ne_nil_of_length_pos (by omega)) (List.ne_nil_of_length_pos (by omega)) (by omega) (by omega) (by omega) (by simp; omega) (by simpa using hk)
          have el : (P ++ U ++ (A ++ B) ++ Q).length = (P ++ B ++ A ++ U ++ Q).length := by simp; omega
          have e2 : P ++ B ++ A ++ (U ++ Q) = P ++ B ++ A ++ U ++ Q := by simp
          rw [e2] at ih
          rw [el]
          exact ih
theorem rot21 (N : Nat) (args : List AV) (H : Heap) (k : AV → Heap → Bool → Prop) : t21 args H k → runP (S F) T21 N 9 (S F).fu 21 args H k := by
  rintro ⟨P, U, V, Q, lv, rfl, rfl, hU, hV, hl, hk⟩
  simp only [List.length_append] at hl
  rw [start21]
  have w1 : IntKind.wrap .i64 (((P ++ U).length : Nat) - (P.length : Int)) = U.length := by rw [wrapI (by simp; omega)]; simp; omega
  have w2 : IntKind.wrap .i64 (((P ++ U ++ V).length : Nat) - ((P ++ U).length : Nat) : Int) = V.length := by rw [wrapI (by simp; omega)]; simp; omega
  rw [w1, w2]
  exact loop21 (F := F) N (S F).fu lv k (S F).fu P U V Q _ _ _ (by rw [S_fu]; omega) hU hV (by simp) rfl rfl hl hk
end Go.Proofs.Ytiiddampachhlaa
/- VictimTwo: first trees.
-/
namespace Go.Proofs.Ytiiddampachhlaa
open Go Go.X
variable {F : Nat}
theorem tree14 (N fuel : Nat) (lv : List Int) (a b : Int) (k : AV → Heap → Bool → Prop) :
 (runP (S F) T0 N 9 fuel 14 [.int .i64 a, .int .i64 b, .ptr ⟨0, 0, [], 1⟩] [some ⟨.isl 1 (row encZ lv), false, true⟩] k) =
 ((cond (decide (0 ≤ a))
 (cond (AV.isIntK (Option.getD (row encZ lv)[Int.toNat a]? AV.bad) IntKind.i64)
 (cond (decide (0 ≤ b))
 (cond (AV.isIntK (Option.getD (row encZ lv)[Int.toNat b]? AV.bad) IntKind.i64)
 (k (AV.int IntKind.i64 (IntKind.wrap IntKind.i64 (AV.toInt (Option.getD (row encZ lv)[Int.toNat a]? AV.bad) - AV.toInt (Option.getD (row encZ lv)[Int.toNat b]? AV.bad)))) [some (Blk.mk (AV.isl 1 (row encZ lv)) false true)] false)
 (False))
 (False))
 (False))
 (False)) : Prop) := by kernel_rfl
theorem tree15 (N fuel : Nat) (xs : List Int) (g n off len : Nat) (k : AV → Heap → Bool → Prop) :
 (runP (S F) T0 N 9 fuel 15 [.sl ⟨0, 0, [], g⟩ 1 n off len] [some ⟨.arr 1 (row encZ xs), true, true⟩] k) =
 ((cond (decide (AV.flatLen (AV.arr 1 (row encZ xs)) = g))
 (cond (decide (List.length (row encZ xs) = n))
 (cond (decide (off + len ≤ n))
 (cond (reflessL (List.take len (List.drop off (row encZ xs))) && List.all (List.take len (List.drop off (row encZ xs))) fun (u : AV) => AV.flatLen u == 1)
 (cond (decide (0 + List.length (List.take len (List.drop off (row encZ xs))) ≤ 0))
 (k (AV.sl (Pl.mk 1 0 [] 0) 1 0 0 (0 + List.length (List.take len (List.drop off (row encZ xs))))) [some (Blk.mk (AV.arr 1 (row encZ xs)) true true), some (Blk.mk (AV.arr 1 (setMany [] 0 (List.take len (List.drop off (row encZ xs))))) true true)] false)
 (cond (true && decide ((0 + List.length (List.take len (List.drop off (row encZ xs)))) * 8 ≤ 70368744177664) && decide (0 + List.length (List.take len (List.drop off (row encZ xs))) ≤ 70368744177664))
 (k (AV.sl (Pl.mk 1 0 [] (1 * (0 + List.length (List.take len (List.drop off (row encZ xs)))))) 1 (0 + List.length (List.take len (List.drop off (row encZ xs)))) 0 (0 + List.length (List.take len (List.drop off (row encZ xs))))) [some (Blk.mk (AV.arr 1 (row encZ xs)) true true), some (Blk.mk (AV.arr 1 ([] ++ List.take len (List.drop off (row encZ xs)))) true true)] false)
 (False)))
 (False))
 (False))
 (False))
 (False)) : Prop) := by kernel_rfl
theorem tree15n (N fuel : Nat) (k : AV → Heap → Bool → Prop) :
 (runP (S F) T0 N 9 fuel 15 [.nils] [] k) =
 ((k AV.nils [] false) : Prop) := by kernel_rfl
end Go.Proofs.Ytiiddampachhlaa
/-
  VictimTwo: by insertion.
-/
namespace Go.Proofs.Ytiiddampachhlaa
open Go Go.X
variable {F : Nat}
theorem cmp14 (N : Nat) (args : List AV) (H : Heap) (k : AV → Heap → Bool → Prop) : t14 args H k → runP (S F) T0 N 9 (S F).fu 14 args H k := by
  rintro ⟨lv, a, b, rfl, rfl, ha, hb, hk⟩
  rw [tree14]
  have h : ∀ x, OkL lv x → (row encZ lv)[x.toNat]?.getD .bad = .int .i64 (key lv x) := fun x hx => by
    have : x.toNat < lv.length := by have := hx.lo; have := hx.hi; omega
    simp [row, key, this]
    rfl
  rw [h a ha, h b hb]
  have := ha.lo; have := hb.lo
  refine condT (by simpa) (condT rfl (condT (by simpa) (condT rfl ?_)))
  have e : IntKind.wrap .i64 (key lv a - key lv b) = key lv a - key lv b := by
    have := ha.pos; have := ha.lt; have := hb.pos; have := hb.lt
    rw [IntKind.wrap_i64]; omega
  simp only [AV.toInt, e]
  exact hk
set_option maxHeartbeats 2000000 in
theorem inner19L (N fuel n : Nat) (lv P Q : List Int) (a b i : Int) (k : AV → Heap → Bool → Prop) (ha : a = P.length) : ∀ (m : Nat) (W1 W2 : List Int) (x j : Int), W1.length < m → j = (P.length + W1.length : Nat) → P.length + W1.length + W2.length + Q.length < 900 →
    Srt lv (W1 ++ W2) → (∀ y, y ∈ W2 → key lv x < key lv y) → OkL lv x → (∀ y, y ∈ W1 → OkL lv y) →
    (∀ W : List Int, W.Perm (W1 ++ x :: W2) → Srt lv W → resPS (S F) T1 N 9 fuel 19 4 2 [] [true] n ⟨L19 (P ++ W ++ Q).length a b (IntKind.wrap .i64 (i + 1)), [], DH (P ++ W ++ Q) lv, false⟩ k) →
    resPS (S F) T1 N 9 fuel 19 4 2 [(q19, m)] [true] n ⟨L19j (P ++ W1 ++ x :: W2 ++ Q).length a b i j, [], DH (P ++ W1 ++ x :: W2 ++ Q) lv, false⟩ k
  | 0, W1, W2, x, j, hm, _, _, _, _, _, _, _ => by omega
  | m + 1, W1, W2, x, j, hm, hj, hl, hs, hx, ox, ow, hk => by
    rw [inner19]
    rcases List.eq_nil_or_concat W1 with rfl | ⟨A, y, rfl⟩
    · refine condF (decide_eq_false (by simp at hj; omega)) ?_
      have := hk (x :: W2) (List.Perm.refl _) (List.pairwise_cons.2 ⟨fun y hy => Int.le_of_lt (hx y hy), by simpa using hs⟩)
      simpa using this
    · simp only [List.concat_eq_append, List.length_append, List.length_singleton] at hm hj hl
      simp only [List.concat_eq_append] at hs ow hk
      simp only [List.concat_eq_append]
      refine condT (decide_eq_true (by omega)) ?_
      have w1 : IntKind.wrap .i64 (j - 1) = j - 1 := wrapI (by omega)
      rw [w1]
      have e : P ++ (A ++ [y]) ++ x :: W2 ++ Q = (P ++ A) ++ y :: ([] ++ x :: (W2 ++ Q)) := by simp
      rw [e]
      have hI : (P ++ A).length < ((P ++ A) ++ y :: ([] ++ x :: (W2 ++ Q))).length := by simp
      have hJ : (P ++ A).length + 1 + ([] : List Int).length < ((P ++ A) ++ y :: ([] ++ x :: (W2 ++ Q))).length := by simp; omega
      have gI : ((P ++ A) ++ y :: ([] ++ x :: (W2 ++ Q)))[(P ++ A).length] = y := get_mid rfl hI
      have gJ : ((P ++ A) ++ y :: ([] ++ x :: (W2 ++ Q)))[(P ++ A).length + 1 + ([] : List Int).length] = x := get_mid2 rfl hJ
      have jI : j - 1 = (((P ++ A).length : Nat) : Int) := by simp; omega
      have jJ : j = (((P ++ A).length + 1 + ([] : List Int).length : Nat) : Int) := by simp; omega
      have oy := ow y (by simp)
      refine cmpT (I := (P ++ A).length + 1 + ([] : List Int).length) (J := (P ++ A).length) (K := fun d => cond (decide (d < 0)) _ _) jJ jI hJ hI (by rw [gJ]; exact ox) (by rw [gI]; exact oy) ?_
      rw [gI, gJ]
      by_cases hlt : key lv x - key lv y < 0
      · refine condT (decide_eq_true hlt) ?_
        have ih := inner19L N fuel n lv P Q a b i k ha m A (y :: W2) x (j - 1) (by omega) (by omega) (by simp; omega) (by simpa using hs) (fun z hz => by
            rcases List.mem_cons.1 hz with rfl | hz
            · omega
            · exact hx z hz) ox (fun z hz => ow z (by simp [hz])) (fun W hp hw => hk W (hp.trans (by
              simp only [List.append_assoc, List.singleton_append]
              exact List.Perm.append_left A (List.Perm.swap y x W2))) hw)
        refine swapT (I := (P ++ A).length + 1 + ([] : List Int).length) (J := (P ++ A).length) (K := fun ys1 => resPS (S F) T1 N 9 fuel 19 4 2 [(q19, m)] [true] n ⟨L19j ((P ++ A) ++ y :: ([] ++ x :: (W2 ++ Q))).length a b i (j - 1), [], DR ys1 (row encZ lv), false⟩ k) jJ jI hJ hI ?_
        rw [gI, gJ, swap_mid' rfl rfl]
        have el : ((P ++ A) ++ y :: ([] ++ x :: (W2 ++ Q))).length = ((P ++ A) ++ x :: ([] ++ y :: (W2 ++ Q))).length := by simp
        rw [el]
        have e2 : P ++ A ++ x :: (y :: W2) ++ Q = (P ++ A) ++ x :: ([] ++ y :: (W2 ++ Q)) := by simp
        rw [e2] at ih
        exact ih
      · refine condF (decide_eq_false hlt) ?_
        have hw := hk (A ++ [y] ++ x :: W2) (List.Perm.refl _) (by
          rw [Srt, List.pairwise_append] at hs ⊢
          refine ⟨hs.1, List.pairwise_cons.2 ⟨fun z hz => Int.le_of_lt (hx z hz), hs.2.1⟩, fun z hz w hw => ?_⟩
          rcases List.mem_cons.1 hw with rfl | hw
          · have h1 := hs.1
            rw [List.pairwise_append] at h1
            rcases List.mem_append.1 hz with hz | hz
            · have := h1.2.2 z hz y (by simp); omega
            · simp at hz; subst hz; omega
          · exact hs.2.2 z hz w hw)
        have e3 : P ++ (A ++ [y] ++ x :: W2) ++ Q = (P ++ A) ++ y :: ([] ++ x :: (W2 ++ Q)) := by simp
        rw [e3] at hw
        exact hw
set_option maxHeartbeats 2000000 in
theorem loop19 (N fuel : Nat) (lv P Q : List Int) (a b : Int) (k : AV → Heap → Bool → Prop) (ha : a = P.length) (hf : 1000 < fuel) : ∀ (R : List Int) (n : Nat) (W : List Int) (i : Int), R.length < n → i = (P.length + W.length : Nat) → b = (P.length + W.length + R.length : Nat) → P.length + W.length + R.length + Q.length < 900 →
    Srt lv W → (∀ y, y ∈ W ++ R → OkL lv y) → (∀ V : List Int, V.Perm (W ++ R) → Srt lv V → k (.tuple []) (DH (P ++ V ++ Q) lv) false) →
    resPS (S F) T1 N 9 fuel 19 4 2 [] [true] n ⟨L19 (P ++ W ++ R ++ Q).length a b i, [], DH (P ++ W ++ R ++ Q) lv, false⟩ k
  | R, 0, W, i, hn, _, _, _, _, _, _ => by omega
  | [], n + 1, W, i, hn, hi, hb, hl, hs, ho, hk => by
    rw [step19]
    refine condF (decide_eq_false (by simp at hb; omega)) ?_
    have := hk W (by simp) hs
    simpa using this
  | x :: R, n + 1, W, i, hn, hi, hb, hl, hs, ho, hk => by
    simp only [List.length_cons] at hn hb hl
    rw [step19]
    refine condT (decide_eq_true (by omega)) ?_
    have := inner19L (F := F) N fuel n lv P (R ++ Q) a b i k ha fuel W [] x i (by omega) hi (by simp; omega) (by simpa using hs) (by simp) (ho x (by simp)) (fun y hy => ho y (by simp [hy])) (fun V hp hv => by
      have hV : V.length = W.length + 1 := by rw [hp.length_eq]; simp
      have w1 : IntKind.wrap .i64 (i + 1) = i + 1 := wrapI (by omega)
      rw [w1]
      have ih := loop19 N fuel lv P Q a b k ha hf R n V (i + 1) (by omega) (by omega) (by omega) (by omega) hv (fun y hy => by
        rcases List.mem_append.1 hy with hy | hy
        · have := hp.subset hy
          rcases List.mem_append.1 this with h | h
          · exact ho y (by simp [h])
          · simp at h; subst h; exact ho _ (by simp)
        · exact ho y (by simp [hy])) (fun V' hp' hv' => hk V' (hp'.trans (by
          have h1 := List.Perm.append_right R hp
          simpa using h1)) hv')
      have e : P ++ V ++ (R ++ Q) = P ++ V ++ R ++ Q := by simp
      rw [e]
      exact ih)
    have e : P ++ W ++ [x] ++ (R ++ Q) = P ++ W ++ x :: R ++ Q := by simp
    rw [e] at this
    exact this
theorem ins19 (N : Nat) (args : List AV) (H : Heap) (k : AV → Heap → Bool → Prop) : t19 args H k → runP (S F) T1 N 9 (S F).fu 19 args H k := by
  rintro ⟨P, U, Q, lv, rfl, rfl, ho, hl, hk⟩
  simp only [List.length_append] at hl
  rw [start19]
  have w1 : IntKind.wrap .i64 ((P.length : Int) + 1) = P.length + 1 := wrapI (by omega)
  rw [w1]
  cases U with
  | nil =>
    rw [S_fu, step19]
    refine condF (decide_eq_false (by simp; omega)) ?_
    simpa using hk [] (List.Perm.refl _) List.Pairwise.nil
  | cons u U =>
    simp only [List.length_cons] at hl
    have := loop19 (F := F) N (S F).fu lv P Q P.length ((P ++ u :: U).length : Nat) k rfl (by rw [S_fu]; omega) U (S F).fu [u] (P.length + 1) (by rw [S_fu]; omega) (by simp) (by simp; omega) (by simp; omega) (List.pairwise_singleton _ _) (by simpa using ho) (by simpa using hk)
    have e : P ++ [u] ++ U ++ Q = P ++ u :: U ++ Q := by simp
    rw [e] at this
    exact this
end Go.Proofs.Ytiiddampachhlaa
/-
  VictimTwo: one number merged into a sorted row.
-/
namespace Go.Proofs.Ytiiddampachhlaa
open Go Go.X
variable {F : Nat}
theorem srt_get {lv V : List Int} (h : Srt lv V) {c d : Nat} (hd : d < V.length) (hcd : c ≤ d) : key lv (V[c]'(by omega)) ≤ key lv V[d] := by
  rcases Nat.lt_or_eq_of_le hcd with hlt | rfl
  · exact List.pairwise_iff_getElem.1 h c d (by omega) hd hlt
  · exact Int.le_refl _
theorem get_seg {P V Q : List Int} {i h : Nat} (hi : i = P.length + h) (hh : h < V.length) (h' : i < (P ++ V ++ Q).length) : (P ++ V ++ Q)[i] = V[h] := by
  subst hi
  rw [List.getElem_append_left (by simp; omega), List.getElem_append_right (by omega)]
  congr 1
  omega
set_option maxHeartbeats 2000000 in
theorem loop20b (N fuel d : Nat) (lv P C Q : List Int) (u i : Int) (k : AV → Heap → Bool → Prop) : ∀ (n : Nat) (A B : List Int) (q : Int), B.length < n → q = (P.length + A.length : Nat) → i = (P.length + A.length + B.length + 1 : Nat) → P.length + A.length + B.length + C.length + Q.length < 1000 →
    k (.tuple []) (DH (P ++ (A ++ B ++ u :: C) ++ Q) lv) false →
    resPS (S F) (T20 d) N 9 fuel 20 5 2 [] p20b n ⟨L20b (P ++ A ++ u :: (B ++ C) ++ Q).length i q, [], DH (P ++ A ++ u :: (B ++ C) ++ Q) lv, false⟩ k
  | 0, A, B, q, hn, _, _, _, _ => by omega
  | n + 1, A, [], q, hn, hq, hi, hl, hk => by
    simp only [List.length_nil] at hi hl
    have w1 : IntKind.wrap .i64 (i - 1) = i - 1 := wrapI (by omega)
    rw [step20b, w1]
    refine condF (decide_eq_false (by omega)) ?_
    simpa using hk
  | n + 1, A, v :: B, q, hn, hq, hi, hl, hk => by
    simp only [List.length_cons] at hi hl hn
    have w1 : IntKind.wrap .i64 (i - 1) = i - 1 := wrapI (by omega)
    have w2 : IntKind.wrap .i64 (q + 1) = q + 1 := wrapI (by omega)
    rw [step20b, w1, w2]
    refine condT (decide_eq_true (by omega)) ?_
    have ih := loop20b N fuel d lv P C Q u i k n (A ++ [v]) B (q + 1) (by omega) (by simp; omega) (by simp; omega) (by simp; omega) (by simpa using hk)
    have e : P ++ A ++ u :: (v :: B ++ C) ++ Q = (P ++ A) ++ u :: ([] ++ v :: (B ++ C ++ Q)) := by simp
    have e' : P ++ (A ++ [v]) ++ u :: (B ++ C) ++ Q = (P ++ A) ++ v :: ([] ++ u :: (B ++ C ++ Q)) := by simp
    rw [e'] at ih
    rw [e]
    have hI : (P ++ A).length < ((P ++ A) ++ u :: ([] ++ v :: (B ++ C ++ Q))).length := by simp
    have hJ : (P ++ A).length + 1 + ([] : List Int).length < ((P ++ A) ++ u :: ([] ++ v :: (B ++ C ++ Q))).length := by simp; omega
    refine swapT (I := (P ++ A).length) (J := (P ++ A).length + 1 + ([] : List Int).length) (K := fun ys1 => resPS (S F) (T20 d) N 9 fuel 20 5 2 [] p20b n ⟨L20b ((P ++ A) ++ u :: ([] ++ v :: (B ++ C ++ Q))).length i (q + 1), [], DR ys1 (row encZ lv), false⟩ k)
      (by simp; omega) (by simp; omega) hI hJ ?_
    rw [get_mid rfl hI, get_mid2 rfl hJ, swap_mid rfl rfl]
    have el : ((P ++ A) ++ u :: ([] ++ v :: (B ++ C ++ Q))).length = ((P ++ A) ++ v :: ([] ++ u :: (B ++ C ++ Q))).length := by simp
    rw [el]
    exact ih
set_option maxHeartbeats 2000000 in
theorem loop20d (N fuel d : Nat) (lv P A Q : List Int) (v i : Int) (k : AV → Heap → Bool → Prop) : ∀ (n : Nat) (B C : List Int) (q : Int), B.length < n → q = (P.length + A.length + B.length : Nat) → i = (P.length + A.length : Nat) → P.length + A.length + B.length + C.length + Q.length < 1000 →
    k (.tuple []) (DH (P ++ (A ++ v :: (B ++ C)) ++ Q) lv) false →
    resPS (S F) (T20 d) N 9 fuel 20 5 2 [] p20d n ⟨L20d (P ++ A ++ B ++ v :: C ++ Q).length i q, [], DH (P ++ A ++ B ++ v :: C ++ Q) lv, false⟩ k
  | 0, B, C, q, hn, _, _, _, _ => by omega
  | n + 1, B, C, q, hn, hq, hi, hl, hk => by
    rw [step20d]
    rcases List.eq_nil_or_concat B with rfl | ⟨B, y, rfl⟩
    · refine condF (decide_eq_false (by simp at hq; omega)) ?_
      simpa using hk
    · simp only [List.concat_eq_append, List.length_append, List.length_singleton] at hn hq hl
      simp only [List.concat_eq_append] at hk ⊢
      have w2 : IntKind.wrap .i64 (q - 1) = q - 1 := wrapI (by omega)
      rw [w2]
      refine condT (decide_eq_true (by omega)) ?_
      have ih := loop20d N fuel d lv P A Q v i k n B (y :: C) (q - 1) (by omega) (by omega) hi (by simp; omega) (by simpa using hk)
      have e : P ++ A ++ (B ++ [y]) ++ v :: C ++ Q = (P ++ A ++ B) ++ y :: ([] ++ v :: (C ++ Q)) := by simp
      have e' : P ++ A ++ B ++ v :: (y :: C) ++ Q = (P ++ A ++ B) ++ v :: ([] ++ y :: (C ++ Q)) := by simp
      rw [e'] at ih
      rw [e]
      have hI : (P ++ A ++ B).length < ((P ++ A ++ B) ++ y :: ([] ++ v :: (C ++ Q))).length := by simp
      have hJ : (P ++ A ++ B).length + 1 + ([] : List Int).length < ((P ++ A ++ B) ++ y :: ([] ++ v :: (C ++ Q))).length := by simp; omega
      refine swapT (I := (P ++ A ++ B).length + 1 + ([] : List Int).length) (J := (P ++ A ++ B).length) (K := fun ys1 => resPS (S F) (T20 d) N 9 fuel 20 5 2 [] p20d n ⟨L20d ((P ++ A ++ B) ++ y :: ([] ++ v :: (C ++ Q))).length i (q - 1), [], DR ys1 (row encZ lv), false⟩ k)
        (by simp; omega) (by simp; omega) hJ hI ?_
      rw [get_mid rfl hI, get_mid2 rfl hJ, swap_mid' rfl rfl]
      have el : ((P ++ A ++ B) ++ y :: ([] ++ v :: (C ++ Q))).length = ((P ++ A ++ B) ++ v :: ([] ++ y :: (C ++ Q))).length := by simp
      rw [el]
      exact ih
set_option maxHeartbeats 2000000 in
theorem loop20a (N fuel d : Nat) (lv P V Q : List Int) (u a : Int) (k : AV → Heap → Bool → Prop) (hs : Srt lv V) (ou : OkL lv u) (ov : ∀ y, y ∈ V → OkL lv y) (ha : a = P.length) (hl : P.length + V.length + Q.length < 900)
    (hk : ∀ I, I ≤ V.length → (∀ c (h : c < V.length), c < I → key lv V[c] < key lv u) → (∀ c (h : c < V.length), I ≤ c → key lv u ≤ key lv V[c]) →
      resPS (S F) (T20 d) N 9 fuel 20 5 2 [] p20b fuel ⟨L20b (P ++ u :: V ++ Q).length (P.length + 1 + I : Nat) a, [], DH (P ++ u :: V ++ Q) lv, false⟩ k) :
    ∀ (n I J : Nat) (i j : Int), J - I < n → i = (P.length + 1 + I : Nat) → j = (P.length + 1 + J : Nat) → I ≤ J → J ≤ V.length → (∀ c (h : c < V.length), c < I → key lv V[c] < key lv u) → (∀ c (h : c < V.length), J ≤ c → key lv u ≤ key lv V[c]) →
    resPS (S F) (T20 d) N 9 fuel 20 5 2 [] p20a n ⟨L20a (P ++ u :: V ++ Q).length a i j, [], DH (P ++ u :: V ++ Q) lv, false⟩ k
  | 0, I, J, i, j, hn, _, _, _, _, _, _ => by omega
  | n + 1, I, J, i, j, hn, hi, hj, hij, hJ, h1, h2 => by
    rw [step20a]
    by_cases he : I = J
    · subst he
      refine condF (decide_eq_false (by omega)) ?_
      have := hk I hJ h1 h2
      rw [hi]
      exact this
    · have w1 : IntKind.wrap .i64 (Int.fdiv (IntKind.wrap .u64 (IntKind.wrap .i64 (i + j))) (Int.ofNat 2)) = (i + j) / 2 := half (by omega)
      have w2 : IntKind.wrap .i64 ((i + j) / 2 + 1) = (i + j) / 2 + 1 := wrapI (by omega)
      refine condT (decide_eq_true (by omega)) ?_
      rw [w1, w2]
      generalize hH : (I + J) / 2 = H
      have hH1 : (i + j) / 2 = (P.length + 1 + H : Nat) := by omega
      have hHl : H < V.length := by omega
      have e : P ++ u :: V ++ Q = (P ++ [u]) ++ V ++ Q := by simp
      have l1 : P.length + 1 + H < (P ++ u :: V ++ Q).length := by simp; omega
      have l2 : P.length < (P ++ u :: V ++ Q).length := by simp
      have g1 : (P ++ u :: V ++ Q)[P.length + 1 + H] = V[H] := by
        have := get_seg (P := P ++ [u]) (V := V) (Q := Q) (i := P.length + 1 + H) (h := H) (by simp) hHl (by simpa using l1)
        simpa using this
      have g2 : (P ++ u :: V ++ Q)[P.length] = u := by simp
      refine cmpT (I := P.length + 1 + H) (J := P.length) (K := fun d => cond (decide (d < 0)) _ _) hH1 ha l1 l2 (by rw [g1]; exact ov _ (List.getElem_mem _)) (by rw [g2]; exact ou) ?_
      rw [g1, g2]
      by_cases hlt : key lv V[H] - key lv u < 0
      · refine condT (decide_eq_true hlt) ?_
        exact loop20a N fuel d lv P V Q u a k hs ou ov ha hl hk n (H + 1) J ((i + j) / 2 + 1) j (by omega) (by omega) hj (by omega) hJ (fun c hc hcl => by
          have := srt_get hs hHl (show c ≤ H by omega)
          omega) h2
      · refine condF (decide_eq_false hlt) ?_
        exact loop20a N fuel d lv P V Q u a k hs ou ov ha hl hk n I H i ((i + j) / 2) (by omega) hi (by omega) (by omega) (by omega) h1 (fun c hc hcl => by
          have := srt_get hs hc hcl
          omega)
set_option maxHeartbeats 2000000 in
theorem loop20c (N fuel d : Nat) (lv P U Q : List Int) (v m : Int) (k : AV → Heap → Bool → Prop) (hs : Srt lv U) (ov : OkL lv v) (ou : ∀ y, y ∈ U → OkL lv y) (hm : m = (P.length + U.length : Nat)) (hl : P.length + U.length + Q.length < 900)
    (hk : ∀ I, I ≤ U.length → (∀ c (h : c < U.length), c < I → key lv U[c] ≤ key lv v) → (∀ c (h : c < U.length), I ≤ c → key lv v < key lv U[c]) →
      resPS (S F) (T20 d) N 9 fuel 20 5 2 [] p20d fuel ⟨L20d (P ++ U ++ v :: Q).length (P.length + I : Nat) m, [], DH (P ++ U ++ v :: Q) lv, false⟩ k) :
    ∀ (n I J : Nat) (i j : Int), J - I < n → i = (P.length + I : Nat) → j = (P.length + J : Nat) → I ≤ J → J ≤ U.length → (∀ c (h : c < U.length), c < I → key lv U[c] ≤ key lv v) → (∀ c (h : c < U.length), J ≤ c → key lv v < key lv U[c]) →
    resPS (S F) (T20 d) N 9 fuel 20 5 2 [] p20c n ⟨L20c (P ++ U ++ v :: Q).length m i j, [], DH (P ++ U ++ v :: Q) lv, false⟩ k
  | 0, I, J, i, j, hn, _, _, _, _, _, _ => by omega
  | n + 1, I, J, i, j, hn, hi, hj, hij, hJ, h1, h2 => by
    rw [step20c]
    by_cases he : I = J
    · subst he
      refine condF (decide_eq_false (by omega)) ?_
      have := hk I hJ h1 h2
      rw [hi]
      exact this
    · have w1 : IntKind.wrap .i64 (Int.fdiv (IntKind.wrap .u64 (IntKind.wrap .i64 (i + j))) (Int.ofNat 2)) = (i + j) / 2 := half (by omega)
      have w2 : IntKind.wrap .i64 ((i + j) / 2 + 1) = (i + j) / 2 + 1 := wrapI (by omega)
      refine condT (decide_eq_true (by omega)) ?_
      rw [w1, w2]
      generalize hH : (I + J) / 2 = H
      have hH1 : (i + j) / 2 = (P.length + H : Nat) := by omega
      have hHl : H < U.length := by omega
      have l1 : P.length + H < (P ++ U ++ v :: Q).length := by simp; omega
      have l2 : P.length + U.length < (P ++ U ++ v :: Q).length := by simp
      have g1 : (P ++ U ++ v :: Q)[P.length + H] = U[H] := get_seg rfl hHl l1
      have g2 : (P ++ U ++ v :: Q)[P.length + U.length] = v := get_mid (by simp) l2
      refine cmpT (I := P.length + U.length) (J := P.length + H) (K := fun d => cond (!decide (d < 0)) _ _) hm hH1 l2 l1 (by rw [g2]; exact ov) (by rw [g1]; exact ou _ (List.getElem_mem _)) ?_
      rw [g1, g2]
      by_cases hlt : key lv v - key lv U[H] < 0
      · refine condF (by simp [hlt]) ?_
        exact loop20c N fuel d lv P U Q v m k hs ov ou hm hl hk n I H i ((i + j) / 2) (by omega) hi (by omega) (by omega) (by omega) h1 (fun c hc hcl => by
          have := srt_get hs hc hcl
          omega)
      · refine condT (by simp [hlt]) ?_
        exact loop20c N fuel d lv P U Q v m k hs ov ou hm hl hk n (H + 1) J ((i + j) / 2 + 1) j (by omega) (by omega) hj (by omega) hJ (fun c hc hcl => by
          have := srt_get hs hHl (show c ≤ H by omega)
          omega) h2
end Go.Proofs.Ytiiddampachhlaa
