/-
  Runs that end in a statement: from the statement that a run hands back, that there is a result of which it holds. Loads and stores are asked for by place and type alone.
-/
import Derived.Test.YtclmndonaljppaaKaf
import Derived.Test.YtclmndonaljppaaKae

namespace Go.X

theorem Le.imp {a b : Prop} (h : Le False a b) : a → b := fun ha => by
  rcases h with h | h
  · exact (h ▸ ha : False).elim
  · exact h ▸ ha

/-! ### Places -/
/-- The flat offset of a place. -/
def coffOf : AV → List Nat → Nat
  | .agg _ ps, i :: r => sumLen (ps.take i) + coffOf ((ps[i]?).getD .bad) r
  | .arr e xs, i :: r => e * i + coffOf ((xs[i]?).getD .bad) r
  | _, _ => 0
/-- Is there such a place? -/
def inAt : AV → List Nat → Bool
  | _, [] => true
  | .agg _ ps, i :: r => decide (i < ps.length) && inAt ((ps[i]?).getD .bad) r
  | .arr _ xs, i :: r => decide (i < xs.length) && inAt ((xs[i]?).getD .bad) r
  | _, _ :: _ => false
theorem at_of_in : ∀ (path : List Nat) (v : AV), inAt v path = true → v.at? path = some (coffOf v path, projT path v)
  | [], v, _ => by cases v <;> rfl
  | i :: r, v, h => by
    cases v <;> simp only [inAt, Bool.false_eq_true, Bool.and_eq_true, decide_eq_true_eq] at h
    · rename_i n ps
      have hx : ps[i]? = some ps[i] := List.getElem?_eq_getElem h.1
      have ih := at_of_in r _ h.2
      simp only [AV.at?, coffOf, projT, AV.elem]
      rw [hx] at ih ⊢
      simp only [Option.getD_some, Option.bind_some] at ih ⊢
      rw [ih]
      rfl
    · rename_i e xs
      have hx : xs[i]? = some xs[i] := List.getElem?_eq_getElem h.1
      have ih := at_of_in r _ h.2
      simp only [AV.at?, coffOf, projT, AV.elem]
      rw [hx] at ih ⊢
      simp only [Option.getD_some, Option.bind_some] at ih ⊢
      rw [ih]
      rfl
theorem put_of_in : ∀ (path : List Nat) (v u : AV), inAt v path = true → (projT path v).flatLen = u.flatLen → v.put? path u = some (putT path v u)
  | [], v, u, _, hl => by
    have hl' : v.flatLen = u.flatLen := hl
    cases v <;> simp only [AV.put?, putT, if_pos hl']
  | i :: r, v, u, h, hl => by
    cases v <;> simp only [inAt, Bool.false_eq_true, Bool.and_eq_true, decide_eq_true_eq] at h
    · rename_i n ps
      have hx : ps[i]? = some ps[i] := List.getElem?_eq_getElem h.1
      simp only [projT, AV.elem] at hl
      have ih := put_of_in r _ u h.2 hl
      simp only [AV.put?, putT, AV.elem, setElem]
      rw [hx] at ih ⊢
      simp only [Option.getD_some, Option.bind_some] at ih ⊢
      rw [ih]
      rfl
    · rename_i e xs
      have hx : xs[i]? = some xs[i] := List.getElem?_eq_getElem h.1
      simp only [projT, AV.elem] at hl
      have ih := put_of_in r _ u h.2 hl
      simp only [AV.put?, putT, AV.elem, setElem]
      rw [hx] at ih ⊢
      simp only [Option.getD_some, Option.bind_some] at ih ⊢
      rw [ih]
      rfl
/-- A place that is what a pointer says: of so many cells. -/
def okPl (root : AV) (path : List Nat) (coff gen n : Nat) : Bool := decide (root.flatLen = gen) && (decide (coffOf root path = coff) && (inAt root path && decide ((projT path root).flatLen = n)))
/-- .. and of this shape. -/
def okAt (root : AV) (path : List Nat) (coff gen : Nat) (a : Bool) (n : Nat) : Bool := okPl root path coff gen n && ((projT path root).isAgg == a)
theorem okPl_iff {root : AV} {path : List Nat} {coff gen n : Nat} : okPl root path coff gen n = true ↔ root.flatLen = gen ∧ coffOf root path = coff ∧ inAt root path = true ∧ (projT path root).flatLen = n := by simp [okPl]
theorem okAt_iff {root : AV} {path : List Nat} {coff gen n : Nat} {a : Bool} : okAt root path coff gen a n = true ↔ okPl root path coff gen n = true ∧ (projT path root).isAgg = a := by simp [okAt]

/-! ### Values laid open -/
/-- An array of numbers of a kind. -/
def AV.isArrI : AV → Nat → IntKind → Bool
  | .arr e xs, n, k => e == 1 && (xs.length == n && xs.all fun x => x.isIntK k)
  | _, _, _ => false
/-- Its numbers, laid open. -/
def arI (k : IntKind) (n : Nat) (v : AV) : List AV := (List.range n).map fun i => .int k (v.elem i).toInt
theorem arI_of {v : AV} {n : Nat} {k : IntKind} (h : v.isArrI n k = true) : v = .arr 1 (arI k n v) := by
  cases v <;> simp only [AV.isArrI, Bool.false_eq_true, Bool.and_eq_true, beq_iff_eq] at h
  rename_i e xs
  obtain ⟨rfl, rfl, hall⟩ := h
  congr 1
  apply List.ext_getElem
  · simp [arI]
  · intro i h1 h2
    have hx := List.all_eq_true.1 hall xs[i] (List.getElem_mem h1)
    simp only [arI, List.getElem_map, List.getElem_range, AV.elem, List.getElem?_eq_getElem h1, Option.getD_some]
    cases hxi : xs[i] <;> rw [hxi] at hx <;> simp only [AV.isIntK, beq_iff_eq, Bool.false_eq_true] at hx
    subst hx
    rfl

/-- A value of a type without pointers, laid open. -/
def openP (P : Program) : Nat → TypeId → AV → (AV → Prop) → Prop
  | 0, _, v, k => k v
  | d + 1, t, v, k => match P.underlying t with
    | some (.int i) => cond (v.isIntK i) (k (.int i v.toInt)) False
    | some .bool => cond v.isBoolV (k (.bool v.toBool)) False
    | some (.array n e) => match thasp P e, P.underlying e, tsize P e with
      | false, some (.int i), _ => cond (v.isArrI n i) (k (.arr 1 (arI i n v))) False
      | false, _, some sz => cond (v.isArrN sz n) (k (.arr sz v.toArr)) False
      | _, _, _ => k v
    | some (.struct fs) => match thasp P t, tsize P t with
      | false, some n => cond (v.isAggN n fs.toList.length) (openL (openP P d) fs.toList 0 v fun ps => k (.agg n ps)) False
      | _, _ => k v
    | _ => k v

theorem openL_imp {e : TypeId → AV → (AV → Prop) → Prop} (he : ∀ t v k, e t v k → k v) (v : AV) : ∀ (l : List Field) (i : Nat) (k : List AV → Prop),
    openL e l i v k → k ((List.range' i l.length).map v.part)
  | [], i, k, h => h
  | f :: r, i, k, h => by
    unfold openL at h
    have h1 := he _ _ _ h
    have h2 := openL_imp he v r (i + 1) _ h1
    simpa only [List.length_cons, List.range'_succ, List.map_cons] using h2

theorem cond_imp {c : Bool} {a : Prop} (h : cond c a False) : c = true ∧ a := by
  cases c
  · exact h.elim
  · exact ⟨rfl, h⟩

theorem openP_imp (P : Program) : ∀ (d : Nat) (t : TypeId) (v : AV) (k : AV → Prop), openP P d t v k → k v
  | 0, t, v, k, h => h
  | d + 1, t, v, k, h => by
    unfold openP at h
    split at h
    · rename_i i hu
      obtain ⟨hv, h⟩ := cond_imp h
      cases v <;> simp only [AV.isIntK, beq_iff_eq, Bool.false_eq_true] at hv
      subst hv
      exact h
    · obtain ⟨hv, h⟩ := cond_imp h
      cases v <;> simp only [AV.isBoolV, Bool.false_eq_true] at hv
      exact h
    · split at h
      · obtain ⟨hv, h⟩ := cond_imp h
        rw [arI_of hv]
        exact h
      · obtain ⟨hv, h⟩ := cond_imp h
        cases v <;> simp only [AV.isArrN, Bool.and_eq_true, beq_iff_eq, Bool.false_eq_true] at hv
        obtain ⟨rfl, _⟩ := hv
        exact h
      · exact h
    · rename_i fs hu
      split at h
      · rename_i n hn hsz
        obtain ⟨hv, h⟩ := cond_imp h
        clear hsz
        have hex : ∃ ps, v = .agg n ps ∧ ps.length = fs.toList.length := by
          cases v <;> simp only [AV.isAggN, Bool.and_eq_true, beq_iff_eq, Bool.false_eq_true] at hv
          obtain ⟨rfl, hl⟩ := hv
          exact ⟨_, rfl, hl⟩
        obtain ⟨ps, rfl, hl⟩ := hex
        have h2 := openL_imp (fun t v k => openP_imp P d t v k) _ fs.toList 0 _ h
        refine Eq.mp (congrArg k ?_) h2
        congr 1
        apply List.ext_getElem?
        intro i
        rw [List.getElem?_map]
        rcases Nat.lt_or_ge i ps.length with hi | hi
        · rw [List.getElem?_range' (by omega)]
          simp [AV.part, hi]
        · rw [List.getElem?_eq_none (by simpa using (by omega : fs.toList.length ≤ i)), List.getElem?_eq_none hi]
          rfl
      · exact h
    · exact h

/-! ### Loads and stores -/
def loadP (P : Program) (H : Heap) (t : TypeId) (a : AV) (k : AV → Prop) : Prop := match a with
  | .ptr p => (H.blk p.id).elim False fun b => match tagg P t, tsize P t with
    | some g, some n => cond (okAt b.root p.path p.coff p.gen g n) (match thasp P t with
      | false => openP P 4 t (projT p.path b.root) k
      | true => k (projT p.path b.root)) False
    | _, _ => False
  | a => (loadAV P H t a).elim False k

theorem loadP_imp {P : Program} {H : Heap} {t : TypeId} {a : AV} {k : AV → Prop} (h : loadP P H t a k) : (loadAV P H t a).elim False k := by
  unfold loadP at h
  split at h
  · rename_i p
    cases hb : H.blk p.id with
    | none => rw [hb] at h; exact h.elim
    | some b =>
      rw [hb] at h
      simp only [Option.elim_some] at h
      split at h
      · rename_i g n hg hn
        obtain ⟨hc, h⟩ := cond_imp h
        rw [okAt_iff, okPl_iff] at hc
        obtain ⟨⟨h1, h2, h3, h4⟩, h5⟩ := hc
        have : loadAV P H t (.ptr p) = some (projT p.path b.root) := by
          simp only [loadAV, hb, Option.bind_some, at_of_in _ _ h3, h1, h2, hg, hn, h4, h5]
          simp
        rw [this]
        split at h
        · exact openP_imp P 4 t _ k h
        · exact h
      · exact h.elim
  · exact h

/-- An element of a row that lies in a block of its own is laid anew: the row that comes of it has a name. -/
def putP (b : Blk) (path : List Nat) (v : AV) (k : AV → Prop) : Prop := match b.grow, b.root, path with
  | true, .arr e xs, i :: r => ∀ ys, ys = xs.set i (putT r ((xs[i]?).getD .bad) v) → k (.arr e ys)
  | _, root, path => k (putT path root v)
theorem putP_imp {b : Blk} {path : List Nat} {v : AV} {k : AV → Prop} (h : putP b path v k) : k (putT path b.root v) := by
  unfold putP at h
  split at h
  · rename_i e xs i r hr hp
    rw [hp]
    have := h _ rfl
    simpa only [putT, setElem, AV.elem] using this
  · rename_i root path' _ _
    exact h

def storeP (P : Program) (n0 : Nat) (H : Heap) (t : TypeId) (a v : AV) (k : Heap → Bool → Prop) : Prop := match a with
  | .ptr p => (H.blk p.id).elim False fun b => match tsize P t with
    | some n => cond (decide (v.flatLen = n) && v.plain) (cond (okPl b.root p.path p.coff p.gen n) (match thasp P t with
      | false => cond v.refless (putP b p.path v fun r => k (H.set p.id (some ⟨r, b.grow, b.flat⟩)) false) False
      | true => putP b p.path v fun r => k (H.set p.id (some ⟨r, b.grow, b.flat && v.refless⟩)) (storeFlag n0 (.ptr p) v)) False) False
    | none => False
  | _ => False

theorem storeP_imp {P : Program} {n0 : Nat} {H : Heap} {t : TypeId} {a v : AV} {k : Heap → Bool → Prop} (h : storeP P n0 H t a v k) : (storeAV P H t a v).elim False fun H' => k H' (storeFlag n0 a v) := by
  unfold storeP at h
  split at h
  · rename_i p
    cases hb : H.blk p.id with
    | none => rw [hb] at h; exact h.elim
    | some b =>
      rw [hb] at h
      simp only [Option.elim_some] at h
      split at h
      · rename_i n hn
        obtain ⟨hv, h⟩ := cond_imp h
        obtain ⟨hc, h⟩ := cond_imp h
        simp only [Bool.and_eq_true, decide_eq_true_eq] at hv
        obtain ⟨h1, h2, h3, h4⟩ := okPl_iff.1 hc
        have hs : storeAV P H t (.ptr p) v = some (H.set p.id (some ⟨putT p.path b.root v, b.grow, b.flat && v.refless⟩)) := by
          simp only [storeAV, hb, Option.bind_some, at_of_in _ _ h3, put_of_in _ _ _ h3 (h4.trans hv.1.symm), h1, h2, hn, hv.1, hv.2]
          simp
        rw [hs]
        split at h
        · obtain ⟨hr, h⟩ := cond_imp h
          have hfl : storeFlag n0 (.ptr p) v = false := by simp [storeFlag, escapes, hr]
          simp only [Option.elim_some, hfl, hr, Bool.and_true]
          exact putP_imp (k := fun r => k (H.set p.id (some ⟨r, b.grow, b.flat⟩)) false) h
        · exact putP_imp (k := fun r => k (H.set p.id (some ⟨r, b.grow, b.flat && v.refless⟩)) (storeFlag n0 (.ptr p) v)) h
      · exact h.elim
  · exact h.elim

/-- '==', where what comes of it has a name. -/
def eqP (P : Program) (o : BinOp) (t : TypeId) (x y : Operand) (a b : AV) (k : AV → Prop) : Prop := match a.scalar, b.scalar with
  | some cx, some cy => (scalBin P o t cx cy).elim False k
  | none, none => if a.isAgg && P.eqGuardType P.depth t then False else match o with
    | .eql => cond (eqNil P t x y a b).isSome (k (.bool ((eqNil P t x y a b).getD false))) False
    | .neq => cond (eqNil P t x y a b).isSome (k (.bool !((eqNil P t x y a b).getD false))) False
    | _ => False
  | _, _ => False
theorem eqP_imp {P : Program} {o : BinOp} {t : TypeId} {x y : Operand} {a b : AV} {k : AV → Prop} (h : eqP P o t x y a b k) : eqS False P o t x y a b k := by
  unfold eqP at h
  unfold eqS
  split at h
  · rename_i hx hy
    simp only [hx, hy]
    exact h
  · rename_i hx hy
    simp only [hx, hy]
    split at h
    · exact h.elim
    · rename_i hg
      rw [if_neg hg]
      split at h
      · obtain ⟨hs, h⟩ := cond_imp h
        obtain ⟨r, hr⟩ := Option.isSome_iff_exists.1 hs
        rw [hr] at h ⊢
        exact h
      · obtain ⟨hs, h⟩ := cond_imp h
        obtain ⟨r, hr⟩ := Option.isSome_iff_exists.1 hs
        rw [hr] at h ⊢
        exact h
      · exact h.elim
  · exact h.elim

/-! ### Slices of arrays, and what is copied -/
theorem isArrN_of {v : AV} {sz n : Nat} (h : v.isArrN sz n = true) : ∃ xs, v = .arr sz xs ∧ xs.length = n := by
  cases v <;> simp only [AV.isArrN, Bool.and_eq_true, beq_iff_eq, Bool.false_eq_true] at h
  obtain ⟨rfl, h⟩ := h
  exact ⟨_, rfl, h⟩
def sliceP (P : Program) (H : Heap) (t : TypeId) (x : AV) (lo hi : Option AV) (k : AV → Prop) : Prop := match P.underlying t, x with
  | some (.array n e), .ptr p => (tsize P e).elim False fun sz => bndK False n hi fun h => bndK False 0 lo fun l => (H.blk p.id).elim False fun b =>
      cond (decide (l ≤ h) && decide (h ≤ n)) (cond (okPl b.root p.path p.coff p.gen (sz * n) && (projT p.path b.root).isArrN sz n) (k (.sl p sz n l (h - l))) False) False
  | _, _ => sliceS False P H t x lo hi k
theorem sliceP_imp {P : Program} {H : Heap} {t : TypeId} {x : AV} {lo hi : Option AV} {k : AV → Prop} (h : sliceP P H t x lo hi k) : (sliceAV P H t x lo hi).elim False k := by
  unfold sliceP at h
  split at h
  · rename_i n e p hu
    unfold sliceAV
    simp only [hu]
    cases hsz : tsize P e with
    | none => rw [hsz] at h; exact h.elim
    | some sz =>
      rw [hsz] at h
      simp only [Option.elim_some, Option.bind_some] at h ⊢
      have h1 := (bndK_le False n hi _).imp h
      cases hh : bnd n hi with
      | none => rw [hh] at h1; exact h1.elim
      | some hv =>
        rw [hh] at h1
        simp only [Option.elim_some, Option.bind_some] at h1 ⊢
        have h2 := (bndK_le False 0 lo _).imp h1
        cases hl : bnd 0 lo with
        | none => rw [hl] at h2; exact h2.elim
        | some lv =>
          rw [hl] at h2
          simp only [Option.elim_some, Option.bind_some] at h2 ⊢
          cases hb : H.blk p.id with
          | none => rw [hb] at h2; exact h2.elim
          | some b =>
            rw [hb] at h2
            simp only [Option.elim_some, Option.bind_some] at h2 ⊢
            obtain ⟨c1, h2⟩ := cond_imp h2
            obtain ⟨c2, h2⟩ := cond_imp h2
            simp only [Bool.and_eq_true, decide_eq_true_eq] at c1 c2
            obtain ⟨c3, c4⟩ := c2
            obtain ⟨d1, d2, d3, d4⟩ := okPl_iff.1 c3
            obtain ⟨xs, hx, hxl⟩ := isArrN_of c4
            rw [at_of_in _ _ d3]
            simp only [Option.bind_some, hx]
            simp only [c1.1, c1.2, d1, d2, hxl, and_self, if_true]
            exact h2
  · exact (sliceS_le False P H t _ lo hi k).imp h
theorem setMany_length {xs vs : List AV} {off : Nat} (h : off + vs.length ≤ xs.length) : (setMany xs off vs).length = xs.length := by
  unfold setMany
  simp
  omega
/-- What is laid over a whole row has a name. -/
def overP (b : Blk) (path : List Nat) (sz : Nat) (ys : List AV) (k : AV → Prop) : Prop := match b.grow, path with
  | true, [] => ∀ zs, zs = ys → k (.arr sz zs)
  | _, path => k (putT path b.root (.arr sz ys))
theorem overP_imp {b : Blk} {path : List Nat} {sz : Nat} {ys : List AV} {k : AV → Prop} (h : overP b path sz ys k) : k (putT path b.root (.arr sz ys)) := by
  unfold overP at h
  split at h
  · exact h _ rfl
  · exact h
def copyP (C : Ctx) (H : Heap) (t : TypeId) (d y : AV) (k : AV → Heap → Bool → Prop) : Prop := match C.P.underlying t with
  | some (.slice e) => match thasp C.P e, d with
    | false, .sl p e' n off len => (tsize C.P e).elim False fun sz => srcS False H sz y fun xs => (H.blk p.id).elim False fun b =>
        cond (decide (e' = sz) && b.flat) (cond (decide (off + len ≤ n)) (cond (xs.all (fun u => u.flatLen == sz) && reflessL xs) (cond (okPl b.root p.path p.coff p.gen (sz * n) && (projT p.path b.root).isArrN sz n)
          (overP b p.path sz (setMany (projT p.path b.root).toArr off (xs.take (min xs.length len))) fun r => k (.int .i64 ((min xs.length len : Nat) : Int)) (H.set p.id (some ⟨r, b.grow, true⟩)) false) False) False) False) False
    | _, _ => copyS False C H t d y k
  | _ => False
theorem srcS_mono {H : Heap} {sz : Nat} {y : AV} {k k' : List AV → Prop} (hk : ∀ xs, k xs → k' xs) (h : srcS False H sz y k) : srcS False H sz y k' := by
  unfold srcS at h ⊢
  split at h
  · split at h
    · rename_i hc
      rw [if_pos hc]
      exact hk _ h
    · exact h.elim
  · unfold elemsK at h ⊢
    split at h
    · exact hk _ h
    · split at h
      · rename_i hc
        rw [if_pos hc]
        exact hk _ h
      · exact h.elim
    · rename_i p e n off len
      split at h
      · rename_i b hb
        split at h
        · rename_i x hx
          split at h
          · rename_i e' xs hx2
            split at h
            · rename_i hc
              rw [if_pos hc]
              obtain ⟨c1, h⟩ := cond_imp h
              obtain ⟨c2, h⟩ := cond_imp h
              obtain ⟨c3, h⟩ := cond_imp h
              obtain ⟨c4, h⟩ := cond_imp h
              rw [c1, c2, c3, c4]
              exact hk _ h
            · exact h.elim
          · exact h.elim
        · exact h.elim
      · exact h.elim
    · exact h.elim
theorem srcS_or {H : Heap} {sz : Nat} {y : AV} {xs : List AV} {k : List AV → Prop} (hx : srcAV H sz y = some xs) (h : srcS False H sz y k) : srcS False H sz y fun xs' => xs' = xs ∧ k xs' := by
  unfold srcS at h ⊢
  unfold srcAV at hx
  split at h
  · split at h
    · rename_i hc
      rw [if_pos hc]
      simp only [if_pos hc, Option.some.injEq] at hx
      exact ⟨hx.symm ▸ rfl, h⟩
    · exact h.elim
  · rename_i hne
    have hx' : elemsAV H sz y = some xs := by
      cases y <;> first | exact hx | exact (hne _ rfl).elim
    unfold elemsK at h ⊢
    split at h
    · exact ⟨Option.some.inj hx', h⟩
    · split at h
      · rename_i hc
        rw [if_pos hc]
        simp only [elemsAV, if_pos hc, Option.some.injEq] at hx'
        exact ⟨hx', h⟩
      · exact h.elim
    · rename_i p e n off len
      split at h
      · rename_i b hb
        split at h
        · rename_i x hxx
          split at h
          · rename_i e' ys hx2
            split at h
            · rename_i hc
              rw [if_pos hc]
              obtain ⟨c1, h⟩ := cond_imp h
              obtain ⟨c2, h⟩ := cond_imp h
              obtain ⟨c3, h⟩ := cond_imp h
              obtain ⟨c4, h⟩ := cond_imp h
              rw [c1, c2, c3, c4]
              refine ⟨?_, h⟩
              simp only [decide_eq_true_eq] at c1 c2 c3 c4
              simp only [elemsAV, hb, Option.bind_some, hxx, hx2] at hx'
              rw [if_pos ⟨c1, c2, hc.1, hc.2, c3, c4⟩] at hx'
              exact Option.some.inj hx'
            · exact h.elim
          · exact h.elim
        · exact h.elim
      · exact h.elim
    · exact h.elim
theorem copyP_imp {C : Ctx} {H : Heap} {t : TypeId} {d y : AV} {k : AV → Heap → Bool → Prop} (h : copyP C H t d y k) : (copyAV C.P H t d y).elim False fun r => k r.1 r.2 (copyFlag C.n0 r.2 d) := by
  refine (copyS_le False H t d y k).imp ?_
  unfold copyP at h
  split at h
  · rename_i e hu
    split at h
    · rename_i p e' n off len hp
      unfold copyS
      simp only [hu, hp]
      cases hsz : tsize C.P e with
      | none => rw [hsz] at h; exact h.elim
      | some sz =>
        rw [hsz] at h
        simp only [Option.elim_some] at h ⊢
        have h0 := h
        -- the elements
        have hsrc := (srcS_le False H sz y _).imp h
        cases hx : srcAV H sz y with
        | none => rw [hx] at hsrc; exact hsrc.elim
        | some xs =>
          rw [hx] at hsrc
          simp only [Option.elim_some] at hsrc
          -- the same elements on the other side
          have key : ∀ xs', xs' = xs → (((H.blk p.id).elim False fun b =>
              cond (decide (e' = sz) && b.flat) (cond (decide (off + len ≤ n)) (cond (xs'.all (fun u => u.flatLen == sz) && reflessL xs') (cond (okPl b.root p.path p.coff p.gen (sz * n) && (projT p.path b.root).isArrN sz n)
                (overP b p.path sz (setMany (projT p.path b.root).toArr off (xs'.take (min xs'.length len))) fun r => k (.int .i64 ((min xs'.length len : Nat) : Int)) (H.set p.id (some ⟨r, b.grow, true⟩)) false) False) False) False) False) →
              ((H.blk p.id).elim False fun b =>
                cond ((copyAV C.P H t (.sl p e' n off len) y).isSome && reflessL xs' && b.flat) (k (.int .i64 ((min xs'.length len : Nat) : Int))
                  (H.set p.id (some ⟨putT p.path b.root (.arr sz (setMany (projT p.path b.root).toArr off (xs'.take (min xs'.length len)))), b.grow, true⟩)) false) False)) := by
            rintro xs' rfl h
            cases hb : H.blk p.id with
            | none => rw [hb] at h; exact h.elim
            | some b =>
              rw [hb] at h
              simp only [Option.elim_some] at h ⊢
              obtain ⟨c1, h⟩ := cond_imp h
              obtain ⟨c2, h⟩ := cond_imp h
              obtain ⟨c3, h⟩ := cond_imp h
              obtain ⟨c4, h⟩ := cond_imp h
              simp only [Bool.and_eq_true, decide_eq_true_eq] at c1 c2 c3 c4
              obtain ⟨rfl, c1⟩ := c1
              obtain ⟨c3, c3'⟩ := c3
              obtain ⟨d1, d2, d3, d4⟩ := okPl_iff.1 c4.1
              obtain ⟨ys, hys, hyl⟩ := isArrN_of c4.2
              have hlen : off + (xs'.take (min xs'.length len)).length ≤ ys.length := by simp; omega
              have hput := put_of_in p.path b.root (.arr e' (setMany ys off (xs'.take (min xs'.length len)))) d3 (by
                rw [hys]
                simp [AV.flatLen, setMany_length hlen])
              have hc : (copyAV C.P H t (.sl p e' n off len) y).isSome = true := by
                unfold copyAV
                simp only [hu, hsz, Option.bind_some, hx, hb, at_of_in _ _ d3, hys]
                simp only [d1, d2, hyl, c2, c3, and_self, if_true, hput]
                rfl
              rw [hc, c3', c1]
              exact overP_imp (k := fun r => k (.int .i64 ((min xs'.length len : Nat) : Int)) (H.set p.id (some ⟨r, b.grow, true⟩)) false) h
          -- from the elements told to the elements that are
          have hself : srcS False H sz y fun xs' => xs' = xs ∧ ((H.blk p.id).elim False fun b =>
              cond (decide (e' = sz) && b.flat) (cond (decide (off + len ≤ n)) (cond (xs'.all (fun u => u.flatLen == sz) && reflessL xs') (cond (okPl b.root p.path p.coff p.gen (sz * n) && (projT p.path b.root).isArrN sz n)
                (overP b p.path sz (setMany (projT p.path b.root).toArr off (xs'.take (min xs'.length len))) fun r => k (.int .i64 ((min xs'.length len : Nat) : Int)) (H.set p.id (some ⟨r, b.grow, true⟩)) false) False) False) False) False) := by
            exact srcS_or (k := fun xs' => ((H.blk p.id).elim False fun b =>
              cond (decide (e' = sz) && b.flat) (cond (decide (off + len ≤ n)) (cond (xs'.all (fun u => u.flatLen == sz) && reflessL xs') (cond (okPl b.root p.path p.coff p.gen (sz * n) && (projT p.path b.root).isArrN sz n)
                (overP b p.path sz (setMany (projT p.path b.root).toArr off (xs'.take (min xs'.length len))) fun r => k (.int .i64 ((min xs'.length len : Nat) : Int)) (H.set p.id (some ⟨r, b.grow, true⟩)) false) False) False) False) False)) hx h0
          exact srcS_mono (fun xs' hx' => key xs' hx'.1 hx'.2) hself
    · exact h
  · exact h.elim

/-! ### Steps -/
/-! ### Memory that is told of, not computed -/
/-- Is a function's memory told of? -/
def Ctx.sm (C : Ctx) : Bool := (C.A.keep.lookup 4242).isSome

/-- A value that is read, laid open: pointers and slices lead somewhere; where the notes say so (5000 and the type's number: 2), they may be nil. -/
def openM (P : Program) (A : List (Nat × Nat)) : Nat → TypeId → AV → (AV → Prop) → Prop
  | 0, _, v, k => k v
  | d + 1, t, v, k => match P.underlying t with
    | some (.pointer _) => match A.lookup (5000 + t) with
      | some 2 => And (v = .nilp → k .nilp) (And (∀ p : Pl, v = .ptr p → k (.ptr p)) (v = .nilp ∨ ∃ p : Pl, v = .ptr p))
      | _ => ∃ p : Pl, v = .ptr p ∧ k (.ptr p)
    | some (.slice e) => match A.lookup (5000 + t), tsize P e with
      | some 2, some sz => And (v = .nils → k .nils) (And (∀ (p : Pl) (n off len : Nat), v = .sl p sz n off len → k (.sl p sz n off len)) (v = .nils ∨ ∃ (p : Pl) (n off len : Nat), v = .sl p sz n off len))
      | _, some sz => ∃ (p : Pl) (n off len : Nat), v = .sl p sz n off len ∧ k (.sl p sz n off len)
      | _, none => False
    | some (.struct fs) => match thasp P t, tsize P t with
      | true, some n => cond (v.isAggN n fs.toList.length) (openL (openM P A d) fs.toList 0 v fun ps => k (.agg n ps)) False
      | _, _ => openP P (d + 1) t v k
    | _ => openP P (d + 1) t v k
theorem openM_imp (P : Program) (A : List (Nat × Nat)) : ∀ (d : Nat) (t : TypeId) (v : AV) (k : AV → Prop), openM P A d t v k → k v
  | 0, t, v, k, h => h
  | d + 1, t, v, k, h => by
    unfold openM at h
    split at h
    · split at h
      · obtain ⟨h1, h2, h3⟩ := h
        rcases h3 with rfl | ⟨p, rfl⟩
        · exact h1 rfl
        · exact h2 p rfl
      · obtain ⟨p, rfl, h⟩ := h
        exact h
    · split at h
      · obtain ⟨h1, h2, h3⟩ := h
        rcases h3 with rfl | ⟨p, n, off, len, rfl⟩
        · exact h1 rfl
        · exact h2 p n off len rfl
      · obtain ⟨p, n, off, len, rfl, h⟩ := h
        exact h
      · exact h.elim
    · rename_i fs hu
      split at h
      · rename_i n hn hsz
        obtain ⟨hv, h⟩ := cond_imp h
        clear hsz
        have hex : ∃ ps, v = .agg n ps ∧ ps.length = fs.toList.length := by
          cases v <;> simp only [AV.isAggN, Bool.and_eq_true, beq_iff_eq, Bool.false_eq_true] at hv
          obtain ⟨rfl, hl⟩ := hv
          exact ⟨_, rfl, hl⟩
        obtain ⟨ps, rfl, hl⟩ := hex
        have h2 := openL_imp (fun t v k => openM_imp P A d t v k) _ fs.toList 0 _ h
        refine Eq.mp (congrArg k ?_) h2
        congr 1
        apply List.ext_getElem?
        intro i
        rw [List.getElem?_map]
        rcases Nat.lt_or_ge i ps.length with hi | hi
        · rw [List.getElem?_range' (by omega)]
          simp [AV.part, hi]
        · rw [List.getElem?_eq_none (by simpa using (by omega : fs.toList.length ≤ i)), List.getElem?_eq_none hi]
          rfl
      · exact openP_imp P (d + 1) t v k h
    · exact openP_imp P (d + 1) t v k h

def loadM (P : Program) (A : List (Nat × Nat)) (H : Heap) (t : TypeId) (a : AV) (k : AV → Prop) : Prop := match a with
  | .ptr p => ∃ b : Blk, H.blk p.id = some b ∧ match tagg P t, tsize P t with
    | some g, some n => cond (okAt b.root p.path p.coff p.gen g n) (openM P A 4 t (projT p.path b.root) k) False
    | _, _ => False
  | a => loadP P H t a k
theorem loadM_imp {P : Program} {A : List (Nat × Nat)} {H : Heap} {t : TypeId} {a : AV} {k : AV → Prop} (h : loadM P A H t a k) : (loadAV P H t a).elim False k := by
  unfold loadM at h
  split at h
  · rename_i p
    obtain ⟨b, hb, h⟩ := h
    split at h
    · rename_i g n hg hn
      obtain ⟨hc, h⟩ := cond_imp h
      rw [okAt_iff, okPl_iff] at hc
      obtain ⟨⟨h1, h2, h3, h4⟩, h5⟩ := hc
      have : loadAV P H t (.ptr p) = some (projT p.path b.root) := by
        simp only [loadAV, hb, Option.bind_some, at_of_in _ _ h3, h1, h2, hg, hn, h4, h5]
        simp
      rw [this]
      exact openM_imp P A 4 t _ k h
    · exact h.elim
  · exact loadP_imp h

def storeM (P : Program) (n0 : Nat) (H : Heap) (t : TypeId) (a v : AV) (k : Heap → Bool → Prop) : Prop := match a with
  | .ptr p => ∃ b : Blk, H.blk p.id = some b ∧ match tsize P t with
    | some n => cond (decide (v.flatLen = n) && v.plain) (cond (okPl b.root p.path p.coff p.gen n) (match thasp P t with
      | false => cond v.refless (∀ H' : Heap, H' = H.set p.id (some ⟨putT p.path b.root v, b.grow, b.flat⟩) → k H' false) False
      | true => ∀ H' : Heap, H' = H.set p.id (some ⟨putT p.path b.root v, b.grow, b.flat && v.refless⟩) → k H' (storeFlag n0 (.ptr p) v)) False) False
    | none => False
  | _ => False
theorem storeM_imp {P : Program} {n0 : Nat} {H : Heap} {t : TypeId} {a v : AV} {k : Heap → Bool → Prop} (h : storeM P n0 H t a v k) : (storeAV P H t a v).elim False fun H' => k H' (storeFlag n0 a v) := by
  unfold storeM at h
  split at h
  · rename_i p
    obtain ⟨b, hb, h⟩ := h
    split at h
    · rename_i n hn
      obtain ⟨hv, h⟩ := cond_imp h
      obtain ⟨hc, h⟩ := cond_imp h
      simp only [Bool.and_eq_true, decide_eq_true_eq] at hv
      obtain ⟨h1, h2, h3, h4⟩ := okPl_iff.1 hc
      have hs : storeAV P H t (.ptr p) v = some (H.set p.id (some ⟨putT p.path b.root v, b.grow, b.flat && v.refless⟩)) := by
        simp only [storeAV, hb, Option.bind_some, at_of_in _ _ h3, put_of_in _ _ _ h3 (h4.trans hv.1.symm), h1, h2, hn, hv.1, hv.2]
        simp
      rw [hs]
      split at h
      · obtain ⟨hr, h⟩ := cond_imp h
        have hfl : storeFlag n0 (.ptr p) v = false := by simp [storeFlag, escapes, hr]
        simp only [Option.elim_some, hfl, hr, Bool.and_true]
        exact h _ rfl
      · exact h _ rfl
    · exact h.elim
  · exact h.elim

/-- The elements of a slice. -/
def srcM (H : Heap) (sz : Nat) (y : AV) (k : List AV → Prop) : Prop := match y with
  | .sl p e n off len => ∃ (b : Blk) (ys : List AV), H.blk p.id = some b ∧ b.root = .arr sz ys ∧ p.path = [] ∧ p.coff = 0 ∧ e = sz ∧
      cond (decide (sz * ys.length = p.gen)) (cond (decide (ys.length = n)) (cond (decide (off + len ≤ n)) (k ((ys.drop off).take len)) False) False) False
  | y => srcS False H sz y k
theorem srcM_imp {H : Heap} {sz : Nat} {y : AV} {k : List AV → Prop} (h : srcM H sz y k) : srcS False H sz y k := by
  unfold srcM at h
  split at h
  · rename_i p e n off len
    obtain ⟨b, ys, hb, hr, hp, hc, rfl, h⟩ := h
    show elemsK False H e (.sl p e n off len) k
    unfold elemsK
    simp only [hb, hr, hp, AV.at?, and_self, if_true, AV.flatLen, hc, decide_true, cond_true]
    exact h
  · exact h

/-- append of what leads nowhere. -/
def appM (P : Program) (H : Heap) (elem : TypeId) (x : AV) (xs : List AV) (k : AV → Heap → Prop) : Prop := match x with
  | .sl p e n off len => match tsize P elem, tbytes P elem, (zeroAV P elem).map AV.flatLen with
    | some sz, some by_, some z => if z = sz ∧ 0 < sz then
        cond (reflessL xs && xs.all fun u => u.flatLen == sz) (∃ (b : Blk) (ys : List AV), H.blk p.id = some b ∧ b.root = .arr sz ys ∧ p.path = [] ∧ p.coff = 0 ∧ e = sz ∧
          cond (decide (sz * ys.length = p.gen) && decide (ys.length = n) && decide (off + len ≤ n))
            (cond (decide (off + len + xs.length ≤ n)) (∀ H' : Heap, H' = H.set p.id (some ⟨.arr sz (setMany ys (off + len) xs), b.grow, b.flat⟩) → k (.sl p sz n off (len + xs.length)) H')
              (cond (decide (off = 0) && decide (len = n) && b.grow && decide ((n + xs.length) * by_ ≤ maxBytes) && decide (n + xs.length ≤ maxBytes))
                (∀ H' : Heap, H' = H.set p.id (some ⟨.arr sz (ys ++ xs), true, b.flat⟩) → k (.sl ⟨p.id, 0, [], sz * (n + xs.length)⟩ sz (n + xs.length) 0 (n + xs.length)) H') False)) False) False else False
    | _, _, _ => False
  | x => appS False P H elem x xs k
theorem appM_imp {P : Program} {H : Heap} {elem : TypeId} {x : AV} {xs : List AV} {k : AV → Heap → Prop} (h : appM P H elem x xs k) : appS False P H elem x xs k := by
  unfold appM at h
  split at h
  · rename_i p e n off len
    unfold appS
    split at h
    · rename_i sz by_ z h1 h2 h3
      simp only [h1, h2, h3]
      split at h
      · rename_i hz
        rw [if_pos hz]
        obtain ⟨hc, b, ys, hb, hr, hp, hco, rfl, h⟩ := cond_imp h
        rw [hc]
        obtain ⟨root, g, fl⟩ := b
        simp only at hr
        subst hr
        simp only [hb, hp, hco, and_self, if_true, cond_true]
        obtain ⟨h4, h⟩ := cond_imp h
        rw [h4]
        simp only [cond_true]
        cases h5 : decide (off + len + xs.length ≤ n) with
        | true =>
          rw [h5] at h
          exact h _ rfl
        | false =>
          rw [h5] at h
          simp only [cond_false] at h ⊢
          obtain ⟨h6, h⟩ := cond_imp h
          rw [h6]
          exact h _ rfl
      · exact h.elim
    · exact h.elim
  · exact h
def appendM (C : Ctx) (argTypes : Array TypeId) (args : List AV) (s : St) (k : AV → Heap → Bool → Prop) : Prop :=
  match args with
  | [x, y] => match argTypes[0]?, argTypes[1]? with
    | some t, some u => match C.P.underlying t, C.P.underlying u with
      | some (.slice e), some d => match thasp C.P e, srcKind d, tsize C.P e with
        | false, true, some sz => srcM s.H sz y fun xs => appM C.P s.H e x xs fun v H => k v H false
        | _, _, _ => appendS False C argTypes [x, y] s k
      | _, _ => False
    | _, _ => False
  | _ => False
theorem appendM_imp {C : Ctx} {argTypes : Array TypeId} {args : List AV} {s : St} {k : AV → Heap → Bool → Prop} (h : appendM C argTypes args s k) : appendS False C argTypes args s k := by
  unfold appendM at h
  split at h
  · rename_i x y
    split at h
    · rename_i t u ht hu
      split at h
      · rename_i e d hd1 hd2
        split at h
        · rename_i sz h1 h2 h3
          unfold appendS
          simp only [ht, hu, hd1, hd2, h1, h2, h3]
          exact srcS_mono (fun xs hx => appM_imp hx) (srcM_imp h)
        · exact h
      · exact h.elim
    · exact h.elim
  · exact h.elim

/-- A slice with its bound, looked at. -/
def slice3P (P : Program) (t : TypeId) (x : AV) (lo : Option AV) (hi m : AV) (k : AV → Prop) : Prop := match P.underlying t, x with
  | some (.slice e), .sl _ _ _ _ len => (tsize P e).elim False fun _ => ixK False m fun m => ixK False hi fun h => bndK False 0 lo fun l => cond (decide (l ≤ h) && decide (h ≤ m) && decide (m ≤ len)) (k .bad) False
  | _, _ => (slice3AV P t x lo hi m).elim False k
theorem slice3P_imp {P : Program} {t : TypeId} {x : AV} {lo : Option AV} {hi m : AV} {k : AV → Prop} (h : slice3P P t x lo hi m k) : (slice3AV P t x lo hi m).elim False k := by
  unfold slice3P at h
  split at h
  · rename_i e p sz n off len hu
    unfold slice3AV
    simp only [hu, AV.len]
    cases hsz : tsize P e with
    | none => rw [hsz] at h; exact h.elim
    | some z =>
      rw [hsz] at h
      simp only [Option.elim_some, Option.bind_some] at h ⊢
      have h1 := (ixK_le False m _).imp h
      cases hm : m.idx with
      | none => rw [hm] at h1; exact h1.elim
      | some mv =>
        rw [hm] at h1
        simp only [Option.elim_some, Option.bind_some] at h1 ⊢
        have h2 := (ixK_le False hi _).imp h1
        cases hh : hi.idx with
        | none => rw [hh] at h2; exact h2.elim
        | some hv =>
          rw [hh] at h2
          simp only [Option.elim_some, Option.bind_some] at h2 ⊢
          have h3 := (bndK_le False 0 lo _).imp h2
          cases hl : bnd 0 lo with
          | none => rw [hl] at h3; exact h3.elim
          | some lv =>
            rw [hl] at h3
            simp only [Option.elim_some, Option.bind_some] at h3 ⊢
            obtain ⟨c1, h4⟩ := cond_imp h3
            simp only [Bool.and_eq_true, decide_eq_true_eq] at c1
            rw [if_pos ⟨c1.1.1, c1.1.2, c1.2⟩]
            exact h4
  · exact h

def goP0 (C : Ctx) (KK : OracleK Prop) (s : St) (o : Oper) (k : St → Prop) : Prop := match o.op with
  | .load _ (.global _) => goS False C KK s o k
  | .load t a => loadP C.P s.H t (s.eval C.A a) fun v => putK C s o k v s.H false
  | .store t a x => storeP C.P C.n0 s.H t (s.eval C.A a) (s.eval C.A x) fun H' e => putK C s o k .bad H' e
  | .binOp op t x y _ => eqP C.P op t x y (s.eval C.A x) (s.eval C.A y) fun v => putK C s o k v s.H false
  | .slice t x lo hi none => sliceP C.P s.H t (s.eval C.A x) (lo.map (s.eval C.A)) (hi.map (s.eval C.A)) fun v => putK C s o k v s.H false
  | .slice t x lo (some hi) (some m) => slice3P C.P t (s.eval C.A x) (lo.map (s.eval C.A)) (s.eval C.A hi) (s.eval C.A m) fun v => putK C s o k v s.H false
  | .call { callee := .builtin .copy, args, argTypes } => match args.toList.map (s.eval C.A) with
    | [d, y] => (argTypes[0]?).elim False fun t => copyP C s.H t d y (putK C s o k)
    | _ => False
  | _ => goS False C KK s o k

/-- The place of a slice's element. -/
def ixM (P : Program) (t : TypeId) (x i : AV) (k : AV → Prop) : Prop := match P.underlying t, x with
  | _, .nils => False
  | some (.slice e), .sl p sz _ off len => cond (decide (tsize P e = some sz)) (ixK False i fun j => cond (decide (j < len)) (k (.ptr { p with coff := p.coff + (off + j) * sz, path := p.path ++ [off + j] })) False) False
  | _, _ => indexAddrS False P t x i k
theorem ixM_imp {P : Program} {t : TypeId} {x i : AV} {k : AV → Prop} (h : ixM P t x i k) : (indexAddrAV P t x i).elim False k := by
  unfold ixM at h
  split at h
  · exact h.elim
  · rename_i e p sz n off len hu
    obtain ⟨hz, h⟩ := cond_imp h
    simp only [decide_eq_true_eq] at hz
    have h1 := (ixK_le False _ _).imp h
    unfold indexAddrAV
    cases hi : i.idx with
    | none => rw [hi] at h1; exact h1.elim
    | some j =>
      rw [hi] at h1
      simp only [Option.elim_some, Option.bind_some, hu, hz] at h1 ⊢
      obtain ⟨h2, h3⟩ := cond_imp h1
      simp only [decide_eq_true_eq] at h2
      simpa [h2] using h3
  · exact (indexAddrS_le False P t _ i k).imp h

/-- Elements that become zero. -/
def clearM (P : Program) (H : Heap) (t : TypeId) (d : AV) (k : AV → Heap → Prop) : Prop := match P.underlying t, d with
  | some (.slice e), .sl p sz n off len => match zeroAV P e, tsize P e with
    | some z, some sz' => if z.flatLen = sz ∧ sz = sz' then ∃ (b : Blk) (ys : List AV), H.blk p.id = some b ∧ b.root = .arr sz ys ∧ p.path = [] ∧ p.coff = 0 ∧
        cond (decide (sz * ys.length = p.gen) && decide (ys.length = n) && decide (off + len ≤ n) && decide (0 < len)) (∀ H' : Heap, H' = H.set p.id (some ⟨.arr sz (setMany ys off (List.replicate len z)), b.grow, b.flat⟩) → k (.tuple []) H') False else False
    | _, _ => False
  | _, _ => (clearAV P H t d).elim False fun r => k r.1 r.2
theorem clearM_imp {P : Program} {H : Heap} {t : TypeId} {d : AV} {k : AV → Heap → Prop} (h : clearM P H t d k) : (clearAV P H t d).elim False fun r => k r.1 r.2 := by
  unfold clearM at h
  split at h
  · rename_i e p sz n off len hu
    split at h
    · rename_i z sz' hz hs
      split at h
      · rename_i hc
        obtain ⟨hzl, rfl⟩ := hc
        obtain ⟨b, ys, hb, hr, hp, hco, h⟩ := h
        obtain ⟨hc, h⟩ := cond_imp h
        simp only [Bool.and_eq_true, decide_eq_true_eq] at hc
        obtain ⟨⟨⟨c1, c2⟩, c3⟩, c4⟩ := hc
        obtain ⟨root, g, fl⟩ := b
        simp only at hr
        subst hr
        unfold clearAV
        simp only [hu, hz, hs, Option.bind_some, hb, hp, AV.at?]
        have hlen : off + (List.replicate len z).length ≤ ys.length := by simp; omega
        have hfl : (AV.arr sz ys).flatLen = (AV.arr sz (setMany ys off (List.replicate len z))).flatLen := by simp [AV.flatLen, setMany_length hlen]
        have hfl2 : (AV.arr sz ys).flatLen = p.gen := c1
        rw [if_pos ⟨hfl2, hco.symm, trivial, trivial, c2, c3, hzl, c4⟩]
        simp only [AV.put?, hfl, if_true, Option.map_some, Option.elim_some]
        exact h _ rfl
      · exact h.elim
    · exact h.elim
  · exact h

def goM (C : Ctx) (KK : OracleK Prop) (s : St) (o : Oper) (k : St → Prop) : Prop := match o.op with
  | .indexAddr t x i => ixM C.P t (s.eval C.A x) (s.eval C.A i) fun v => putK C s o k v s.H false
  | .load _ (.global _) => goS False C KK s o k
  | .load t a => loadM C.P C.A.keep s.H t (s.eval C.A a) fun v => putK C s o k v s.H false
  | .store t a x => storeM C.P C.n0 s.H t (s.eval C.A a) (s.eval C.A x) fun H' e => putK C s o k .bad H' e
  | .call { callee := .builtin .append, args, argTypes } => appendM C argTypes (args.toList.map (s.eval C.A)) s (putK C s o k)
  | .call { callee := .builtin .clear, args, argTypes } => match args.toList.map (s.eval C.A) with
    | [d] => (argTypes[0]?).elim False fun t => clearM C.P s.H t d fun v H => putK C s o k v H false
    | _ => False
  | _ => goP0 C KK s o k
def goP (C : Ctx) (KK : OracleK Prop) (s : St) (o : Oper) (k : St → Prop) : Prop := match C.sm with
  | true => goM C KK s o k
  | false => goP0 C KK s o k

variable {C : Ctx} {KK : OracleK Prop}

theorem goP0_imp (hK : ∀ f args H k, Le False (KK f args H k) (KOf False C.K f args H k)) (s : St) (o : Oper) (k : St → Prop) (h : goP0 C KK s o k) :
    (evalOp C s o.op o.type).elim False fun r => putK C s o k r.1 r.2.1 r.2.2 := by
  unfold goP0 at h
  split at h
  · exact (goS_le False hK s o k).imp h
  · rename_i t a hne hop
    rw [hop]
    have h1 := loadP_imp h
    have he : evalOp C s (.load t a) o.type = ((loadAV C.P s.H t (s.eval C.A a)).map fun v => (v, s.H, false)) := by
      unfold evalOp
      cases a <;> first | rfl | exact (hne _ rfl).elim | exact (hne _ _ rfl).elim | exact (hne _ _ hop).elim
    rw [he]
    cases hl : loadAV C.P s.H t (s.eval C.A a) with
    | none => rw [hl] at h1; exact h1.elim
    | some v => rw [hl] at h1; exact h1
  · rename_i t a x hop
    rw [hop]
    have h1 := storeP_imp h
    have he : evalOp C s (.store t a x) o.type = ((storeAV C.P s.H t (s.eval C.A a) (s.eval C.A x)).map fun H' => (AV.bad, H', storeFlag C.n0 (s.eval C.A a) (s.eval C.A x))) := rfl
    rw [he]
    cases hl : storeAV C.P s.H t (s.eval C.A a) (s.eval C.A x) with
    | none => rw [hl] at h1; exact h1.elim
    | some v => rw [hl] at h1; exact h1
  · rename_i op t x y z hop
    have h1 := eqP_imp h
    refine (goS_le False hK s o k).imp ?_
    unfold goS
    rw [hop]
    exact h1
  · rename_i t x lo hi hop
    rw [hop]
    have h1 := sliceP_imp h
    have he : evalOp C s (.slice t x lo hi none) o.type = ((sliceAV C.P s.H t (s.eval C.A x) (lo.map (s.eval C.A)) (hi.map (s.eval C.A))).map fun v => (v, s.H, false)) := rfl
    rw [he]
    cases hl : sliceAV C.P s.H t (s.eval C.A x) (lo.map (s.eval C.A)) (hi.map (s.eval C.A)) with
    | none => rw [hl] at h1; exact h1.elim
    | some v => rw [hl] at h1; exact h1
  · rename_i t x lo hi m hop
    rw [hop]
    have h1 := slice3P_imp h
    have he : evalOp C s (.slice t x lo (some hi) (some m)) o.type = ((slice3AV C.P t (s.eval C.A x) (lo.map (s.eval C.A)) (s.eval C.A hi) (s.eval C.A m)).map fun v => (v, s.H, false)) := rfl
    rw [he]
    cases hl : slice3AV C.P t (s.eval C.A x) (lo.map (s.eval C.A)) (s.eval C.A hi) (s.eval C.A m) with
    | none => rw [hl] at h1; exact h1.elim
    | some v => rw [hl] at h1; exact h1
  · rename_i args argTypes hop
    rw [hop]
    split at h
    · rename_i d y hargs
      have he : evalOp C s (.call { callee := .builtin .copy, args, argTypes }) o.type = (argTypes[0]?).bind fun t => (copyAV C.P s.H t d y).map fun r => (r.1, r.2, copyFlag C.n0 r.2 d) := by
        show evalBuiltin C .copy argTypes (args.toList.map (s.eval C.A)) s = _
        rw [hargs]
        rfl
      rw [he]
      cases ht : argTypes[0]? with
      | none => rw [ht] at h; exact h.elim
      | some t =>
        rw [ht] at h
        have h1 := copyP_imp h
        simp only [Option.bind_some]
        cases hl : copyAV C.P s.H t d y with
        | none => rw [hl] at h1; exact h1.elim
        | some v => rw [hl] at h1; exact h1
    · exact h.elim
  · exact (goS_le False hK s o k).imp h
theorem goM_imp (hK : ∀ f args H k, Le False (KK f args H k) (KOf False C.K f args H k)) (s : St) (o : Oper) (k : St → Prop) (h : goM C KK s o k) :
    (evalOp C s o.op o.type).elim False fun r => putK C s o k r.1 r.2.1 r.2.2 := by
  unfold goM at h
  split at h
  · rename_i t x i hop
    rw [hop]
    have h1 := ixM_imp h
    have he : evalOp C s (.indexAddr t x i) o.type = ((indexAddrAV C.P t (s.eval C.A x) (s.eval C.A i)).map fun v => (v, s.H, false)) := rfl
    rw [he]
    cases hl : indexAddrAV C.P t (s.eval C.A x) (s.eval C.A i) with
    | none => rw [hl] at h1; exact h1.elim
    | some v => rw [hl] at h1; exact h1
  · exact (goS_le False hK s o k).imp h
  · rename_i t a hne hop
    rw [hop]
    have h1 := loadM_imp h
    have he : evalOp C s (.load t a) o.type = ((loadAV C.P s.H t (s.eval C.A a)).map fun v => (v, s.H, false)) := by
      unfold evalOp
      cases a <;> first | rfl | exact (hne _ rfl).elim | exact (hne _ _ rfl).elim | exact (hne _ _ hop).elim
    rw [he]
    cases hl : loadAV C.P s.H t (s.eval C.A a) with
    | none => rw [hl] at h1; exact h1.elim
    | some v => rw [hl] at h1; exact h1
  · rename_i t a x hop
    rw [hop]
    have h1 := storeM_imp h
    have he : evalOp C s (.store t a x) o.type = ((storeAV C.P s.H t (s.eval C.A a) (s.eval C.A x)).map fun H' => (AV.bad, H', storeFlag C.n0 (s.eval C.A a) (s.eval C.A x))) := rfl
    rw [he]
    cases hl : storeAV C.P s.H t (s.eval C.A a) (s.eval C.A x) with
    | none => rw [hl] at h1; exact h1.elim
    | some v => rw [hl] at h1; exact h1
  · rename_i args argTypes hop
    have h1 := appendM_imp h
    refine (goS_le False hK s o k).imp ?_
    unfold goS
    rw [hop]
    exact h1
  · rename_i args argTypes hop
    split at h
    · rename_i d hargs
      have he : evalOp C s (.call { callee := .builtin .clear, args, argTypes }) o.type = (argTypes[0]?).bind fun t => (clearAV C.P s.H t d).map fun r => (r.1, r.2, false) := by
        show evalBuiltin C .clear argTypes (args.toList.map (s.eval C.A)) s = _
        rw [hargs]
        rfl
      rw [hop, he]
      cases ht : argTypes[0]? with
      | none => rw [ht] at h; exact h.elim
      | some t =>
        rw [ht] at h
        simp only [Option.elim_some, Option.bind_some] at h ⊢
        have h1 := clearM_imp h
        cases hl : clearAV C.P s.H t d with
        | none => rw [hl] at h1; exact h1.elim
        | some v => rw [hl] at h1; exact h1
    · exact h.elim
  · exact goP0_imp hK s o k h
theorem goP_imp (hK : ∀ f args H k, Le False (KK f args H k) (KOf False C.K f args H k)) (s : St) (o : Oper) (k : St → Prop) (h : goP C KK s o k) :
    (evalOp C s o.op o.type).elim False fun r => putK C s o k r.1 r.2.1 r.2.2 := by
  unfold goP at h
  split at h
  · exact goM_imp hK s o k h
  · exact goP0_imp hK s o k h

def stepOpP (C : Ctx) (KK : OracleK Prop) (ops : List Oper) (s : St) (o : Oper) (k : St → Prop) : Prop :=
  match o.guard with
  | none => goP C KK s o k
  | some (j, want) => match (ops[j]?).bind (·.dst) with
    | some d => match s.get C.A d with
      | .bool b => cond b (cond want (goP C KK (s.know C.A d true) o k) (skipK C (s.know C.A d true) o k)) (cond want (skipK C (s.know C.A d false) o k) (goP C KK (s.know C.A d false) o k))
      | .undf => skipK C s o k
      | _ => False
    | none => False

def runOpsP (C : Ctx) (KK : OracleK Prop) (ops : List Oper) : List Oper → St → (St → Prop) → Prop
  | [], s, k => k s
  | o :: r, s, k => stepOpP C KK ops s o fun s => runOpsP C KK ops r s k

def runOrdP (C : Ctx) (KK : OracleK Prop) (ops : List Oper) (flo : List Nat) : List Nat → St → (St → List (Heap × Bool) → Prop) → Prop
  | [], s, k => k s []
  | i :: r, s, k => match ops[i]? with
    | some o => stepOpP C KK ops s o fun s' => match flo.contains i with
        | true => cond (lastBare s'.H) (runOrdP C KK ops flo r s' fun s'' hs => k s'' (if isLoud C.P o.op then (s'.H, s'.esc) :: hs else hs)) False
        | false => runOrdP C KK ops flo r s' fun s'' hs => k s'' (if isLoud C.P o.op then (s'.H, s'.esc) :: hs else hs)
    | none => False

/-- An operation that reads, looked at with another memory of the way: a load is asked for by its place. -/
def chkOneP (C : Ctx) (ops : List Oper) (s : St) (o : Oper) (H : Heap) (k : Prop) : Prop :=
  match wantedAV C.A ops s o with
  | some true => match o.op with
    | .load _ (.global _) => chkOneK False C ops s o H k
    | .load t a => match s.eval C.A a with
      | .ptr p => match o.dst with
        | some d => match s.get C.A d with
          | .bad => chkOneK False C ops s o H k
          | v => match C.sm with
            | true => ∃ b : Blk, H.blk p.id = some b ∧ match tagg C.P t, tsize C.P t with
              | some g, some n => cond (okAt b.root p.path p.coff p.gen g n) (if d < C.N then cond ((projT p.path b.root).beq v) k False else False) False
              | _, _ => False
            | false => (H.blk p.id).elim False fun b => match tagg C.P t, tsize C.P t with
              | some g, some n => cond (okAt b.root p.path p.coff p.gen g n) (if d < C.N then cond ((projT p.path b.root).beq v) k False else False) False
              | _, _ => False
        | none => chkOneK False C ops s o H k
      | _ => chkOneK False C ops s o H k
    | _ => chkOneK False C ops s o H k
  | some false => k
  | none => False
theorem chkOneP_imp {C : Ctx} {ops : List Oper} {s : St} {o : Oper} {H : Heap} {k : Prop} (h : chkOneP C ops s o H k) : chkOneK False C ops s o H k := by
  unfold chkOneP at h
  split at h
  · rename_i hw
    split at h
    · exact h
    · rename_i t a hne hop
      split at h
      · rename_i p hp
        split at h
        · rename_i d hd
          split at h
          · exact h
          · rename_i v hv
            have h : ∃ b : Blk, H.blk p.id = some b ∧ match tagg C.P t, tsize C.P t with
              | some g, some n => cond (okAt b.root p.path p.coff p.gen g n) (if d < C.N then cond ((projT p.path b.root).beq (s.get C.A d)) k False else False) False
              | _, _ => False := by
              split at h
              · exact h
              · cases hb : H.blk p.id with
                | none => rw [hb] at h; exact h.elim
                | some b => rw [hb] at h; exact ⟨b, rfl, h⟩
            cases hb : H.blk p.id with
            | none =>
              obtain ⟨b, h1, _⟩ := h
              rw [hb] at h1
              cases h1
            | some b =>
              obtain ⟨b', h1, h⟩ := h
              rw [hb] at h1
              obtain rfl := Option.some.inj h1
              split at h
              · rename_i g n hg hn
                obtain ⟨hc, h⟩ := cond_imp h
                rw [okAt_iff, okPl_iff] at hc
                obtain ⟨⟨h1, h2, h3, h4⟩, h5⟩ := hc
                have hl : loadAV C.P H t (.ptr p) = some (projT p.path b.root) := by
                  simp only [loadAV, hb, Option.bind_some, at_of_in _ _ h3, h1, h2, hg, hn, h4, h5]
                  simp
                have he : evalOp C { s with H } o.op o.type = some (projT p.path b.root, H, false) := by
                  rw [hop]
                  have hp' : ({ s with H := H } : St).eval C.A a = .ptr p := by
                    rw [← hp]
                    unfold St.eval
                    cases a <;> rfl
                  have hx : evalOp C { s with H } (.load t a) o.type = ((loadAV C.P H t (({ s with H := H } : St).eval C.A a)).map fun v => (v, H, false)) := by
                    unfold evalOp
                    cases a <;> first | rfl | exact (hne _ rfl).elim | exact (hne _ _ rfl).elim | exact (hne _ _ hop).elim
                  rw [hx, hp', hl]
                  rfl
                unfold chkOneK
                rw [hw, he]
                simp only [hd]
                revert h hv
                generalize St.get C.A s d = v
                intro hv h
                cases v <;> first | exact (hv rfl).elim | exact h
              · exact h.elim
        · exact h
      · exact h
    · exact h
  · rename_i hw
    unfold chkOneK
    rw [hw]
    exact h
  · exact h.elim
def chkPsP (C : Ctx) (ops : List Oper) (s : St) (o : Oper) (hs : List (Heap × Bool)) : List Nat → Prop → Prop
  | [], k => k
  | p :: r, k => match hs[p]? with
    | some h => chkOneP C ops s o h.1 (chkPsP C ops s o hs r k)
    | none => chkPsP C ops s o hs r k
def chkAllP (C : Ctx) (ops : List Oper) (s : St) (hs : List (Heap × Bool)) : List (Nat × List Nat) → Prop → Prop
  | [], k => k
  | x :: r, k => match ops[x.1]? with
    | some o => chkPsP C ops s o hs x.2 (chkAllP C ops s hs r k)
    | none => chkAllP C ops s hs r k
theorem chkPsP_imp (C : Ctx) (ops : List Oper) (s : St) (o : Oper) (hs : List (Heap × Bool)) : ∀ (l : List Nat) (k : Prop),
    chkPsP C ops s o hs l k → cond (l.all fun p => match hs[p]? with | some h => chkOne C ops s o h.1 | none => true) k False
  | [], k, h => h
  | p :: r, k, h => by
    unfold chkPsP at h
    simp only [List.all_cons]
    cases hp : hs[p]? with
    | none => rw [hp] at h; simpa using chkPsP_imp C ops s o hs r k h
    | some x =>
      rw [hp] at h
      have h1 := (chkOneK_le False ops s o x.1 _).imp (chkOneP_imp h)
      obtain ⟨h2, h3⟩ := cond_imp h1
      have h4 := chkPsP_imp C ops s o hs r k h3
      simpa [h2] using h4
theorem chkAllP_imp (C : Ctx) (ops : List Oper) (s : St) (hs : List (Heap × Bool)) : ∀ (l : List (Nat × List Nat)) (k : Prop),
    chkAllP C ops s hs l k → cond (chkAll C ops s hs l) k False
  | [], k, h => h
  | x :: r, k, h => by
    have ih := chkAllP_imp C ops s hs r k
    unfold chkAll at ih
    unfold chkAllP at h
    unfold chkAll
    simp only [List.all_cons]
    cases ho : ops[x.1]? with
    | none => rw [ho] at h; simpa [ho] using ih h
    | some o =>
      rw [ho] at h
      have h1 := chkPsP_imp C ops s o hs x.2 _ h
      obtain ⟨h2, h3⟩ := cond_imp h1
      have h4 := ih h3
      simp only
      revert h2
      generalize (x.2.all fun p => match hs[p]? with | some h => chkOne C ops s o h.1 | none => true) = b
      intro h2
      rw [h2]
      exact h4

def runRegionP (C : Ctx) (KK : OracleK Prop) (id : Nat) (ops : Array Oper) (draw : Bool) (s : St) (k : St → Prop) : Prop :=
  let s := { s with T := [] }
  if draw then
    match C.A.ord.lookup id with
    | some a => runOrdP C KK ops.toList a.flo a.order s fun s' hs => chkAllP C ops.toList s' ((s.H, s.esc) :: hs) a.chk (k s')
    | none => False
  else runOpsP C KK ops.toList ops.toList s k

def loopP (hd : St → Option St) (body : St → (Ex → St → Prop) → Prop) : Nat → St → (Ex → St → Prop) → Prop
  | 0, _, _ => False
  | n + 1, s, k => body s fun e s => match e with
      | .normal => (hd s).elim False fun s => loopP hd body n s k
      | .exit i => k (.exit i) s
      | .ret => k .ret s

def evalCP (C : Ctx) (KK : OracleK Prop) (fuel : Nat) : Nat → Code → St → (Ex → St → Prop) → Prop
  | _, .skip, s, k => k .normal s
  | _, .region id ops draw, s, k => runRegionP C KK id ops draw s fun s => k .normal { s with T := [] }
  | cur, .seq a b, s, k => evalCP C KK fuel cur a s fun e s => match e with
      | .normal => evalCP C KK fuel cur b s k
      | .exit i => k (.exit i) s
      | .ret => k .ret s
  | cur, .cond c a b, s, k => match s.eval C.A c with
      | .bool t => cond t (evalCP C KK fuel cur a (s.knowO C.A c true) k) (evalCP C KK fuel cur b (s.knowO C.A c false) k)
      | _ => False
  | _, .block id c, s, k => evalCP C KK fuel id c s fun e s => match e with
      | .exit i => if i = id then k .normal s else k (.exit i) s
      | .normal => k .normal s
      | .ret => k .ret s
  | cur, .loop c, s, k => (headSt C ((C.A.keep.lookup cur).getD 0) s).elim False fun s => loopP (headSt C ((C.A.keep.lookup cur).getD 0)) (fun s k => evalCP C KK fuel 0 c s k) fuel s k
  | _, .exit i, s, k => k (.exit i) s
  | _, .ret, s, k => k .ret s
  | cur, .rangeFunc g ps a b, s, k => (evalC C fuel cur (.rangeFunc g ps a b) s).elim False fun x => k x.1 x.2
  | _, _, _, _ => False

/-! What is handed back holds of what comes. -/
theorem stepOpP_imp (hK : ∀ f args H k, Le False (KK f args H k) (KOf False C.K f args H k)) (ops : List Oper) (s : St) (o : Oper) (k : St → Prop) :
    stepOpP C KK ops s o k → (stepOp C ops s o).elim False k := by
  have hgo : goP C KK s o k → (((evalOp C s o.op o.type).map fun r =>
      let s' := { s with H := r.2.1, esc := s.esc || r.2.2 }
      match o.dst with
      | some d => s'.set C.A d (if d < C.N then r.1 else .bad)
      | none => s').elim False k) := by
    intro h
    have h1 := goP_imp hK s o k h
    cases he : evalOp C s o.op o.type with
    | none => rw [he] at h1; exact h1.elim
    | some r => rw [he] at h1; exact h1
  have hskip : skipK C s o k → ((some (match o.dst with | some d => s.set C.A d .undf | none => s)).elim False k) := fun h => h
  unfold stepOpP stepOp wantedAV
  split
  · rename_i hg
    rw [hg]
    simp only [Option.bind_some, if_true]
    exact hgo
  · rename_i j want hg
    rw [hg]
    simp only
    split
    · rename_i d hd
      rw [hd]
      simp only
      split
      · rename_i b hb
        rw [hb]
        simp only [Option.bind_some]
        cases b <;> cases want <;> simp only [cond_true, cond_false, know_same hb] <;> first | exact hgo | exact hskip
      · rename_i hb
        rw [hb]
        simp only [Option.bind_some]
        exact hskip
      · exact False.elim
    · exact False.elim

theorem stepY_imp (hK : ∀ f args H k, Le False (KK f args H k) (KOf False C.K f args H k)) (ops : List Oper) (s : St) (o : Oper) (k : St → Prop) (h : stepOpP C KK ops s o k) :
    (stepY C ops s o).elim False k := by
  unfold stepY
  split
  · rename_i f args argTypes hop
    split
    · rename_i hc
      simp only [Bool.and_eq_true, Option.isNone_iff_eq_none] at hc
      have hf : s.eval C.A f = .yld := by
        have := hc.1
        cases hv : s.eval C.A f <;> rw [hv] at this <;> first | rfl | cases this
      exfalso
      unfold stepOpP at h
      rw [hc.2] at h
      simp only at h
      have h : goP0 C KK s o k := by
        unfold goP at h
        split at h
        · unfold goM at h
          rw [hop] at h
          exact h
        · exact h
      unfold goP0 at h
      rw [hop] at h
      simp only at h
      unfold goS at h
      rw [hop] at h
      simp only [hf, calleeAV, Option.elim_none] at h
    · exact stepOpP_imp hK ops s o k h
  · exact stepOpP_imp hK ops s o k h

theorem runOpsP_imp (hK : ∀ f args H k, Le False (KK f args H k) (KOf False C.K f args H k)) (ops : List Oper) : ∀ (l : List Oper) (s : St) (k : St → Prop), runOpsP C KK ops l s k → (runOps C ops l s).elim False k
  | [], s, k, h => h
  | o :: r, s, k, h => by
    unfold runOpsP at h
    have h1 := stepY_imp hK ops s o _ h
    unfold runOps
    cases hs : stepY C ops s o with
    | none => rw [hs] at h1; exact h1.elim
    | some s' => rw [hs] at h1; exact runOpsP_imp hK ops r s' k h1

theorem runOrdP_imp (hK : ∀ f args H k, Le False (KK f args H k) (KOf False C.K f args H k)) (ops : List Oper) (flo : List Nat) : ∀ (l : List Nat) (s : St) (k : St → List (Heap × Bool) → Prop),
    runOrdP C KK ops flo l s k → (runOrd C ops flo l s).elim False fun x => k x.1 x.2
  | [], s, k, h => h
  | i :: r, s, k, h => by
    unfold runOrdP at h
    unfold runOrd
    cases hi : ops[i]? with
    | none => rw [hi] at h; exact h.elim
    | some o =>
      rw [hi] at h
      simp only [Option.bind_some] at h ⊢
      have h1 := stepOpP_imp hK ops s o _ h
      cases hs : stepOp C ops s o with
      | none => rw [hs] at h1; exact h1.elim
      | some s' =>
        rw [hs] at h1
        simp only [Option.elim_some, Option.bind_some] at h1 ⊢
        have h2 : (flo.contains i && !lastBare s'.H) = false ∧ runOrdP C KK ops flo r s' fun s'' hs => k s'' (if isLoud C.P o.op then (s'.H, s'.esc) :: hs else hs) := by
          split at h1
          · obtain ⟨hb, h1⟩ := cond_imp h1
            exact ⟨by simp [hb], h1⟩
          · rename_i hc
            exact ⟨by rw [hc]; rfl, h1⟩
        rw [h2.1]
        have h3 := runOrdP_imp hK ops flo r s' _ h2.2
        simp only [Bool.false_eq_true, if_false]
        cases hr : runOrd C ops flo r s' with
        | none => rw [hr] at h3; exact h3.elim
        | some x => rw [hr] at h3; exact h3

theorem runRegionP_imp (hK : ∀ f args H k, Le False (KK f args H k) (KOf False C.K f args H k)) (id : Nat) (ops : Array Oper) (draw : Bool) (s : St) (k : St → Prop) (h : runRegionP C KK id ops draw s k) :
    (runRegion C id ops draw s).elim False k := by
  unfold runRegionP at h
  unfold runRegion
  simp only at h ⊢
  split at h
  · rename_i hd
    rw [if_pos hd]
    cases ha : C.A.ord.lookup id with
    | none => rw [ha] at h; exact h.elim
    | some a =>
      rw [ha] at h
      simp only at h ⊢
      have h1 := runOrdP_imp hK _ _ _ _ _ h
      cases hr : runOrd C ops.toList a.flo a.order { s with T := [] } with
      | none => rw [hr] at h1; exact h1.elim
      | some x =>
        rw [hr] at h1
        simp only [Option.elim_some, Option.bind_some] at h1 ⊢
        have h2 := chkAllP_imp _ _ _ _ _ _ h1
        obtain ⟨h3, h4⟩ := cond_imp h2
        rw [if_pos h3]
        exact h4
  · rename_i hd
    rw [if_neg hd]
    exact runOpsP_imp hK _ _ _ _ h

theorem loopP_imp {hd : St → Option St} {body : St → Option (Ex × St)} {bodyP : St → (Ex → St → Prop) → Prop} (hb : ∀ s k, bodyP s k → (body s).elim False fun x => k x.1 x.2) :
    ∀ (n : Nat) (s s1 : St) (k : Ex → St → Prop), hd s = some s1 → loopP hd bodyP n s1 k → (loopN hd body n s).elim False fun x => k x.1 x.2
  | 0, s, s1, k, _, hl => hl.elim
  | n + 1, s, s1, k, h, hl => by
    unfold loopP at hl
    unfold loopN
    rw [h]
    simp only [Option.bind_some]
    have h1 := hb _ _ hl
    cases hx : body s1 with
    | none => rw [hx] at h1; exact h1.elim
    | some x =>
      rw [hx] at h1
      obtain ⟨e, s2⟩ := x
      cases e with
      | normal =>
        simp only [Option.elim_some, Option.bind_some] at h1 ⊢
        cases h2 : hd s2 with
        | none => rw [h2] at h1; exact h1.elim
        | some s3 => rw [h2] at h1; exact loopP_imp hb n s2 s3 k h2 h1
      | exit i => exact h1
      | ret => exact h1

theorem evalCP_imp (hK : ∀ f args H k, Le False (KK f args H k) (KOf False C.K f args H k)) (fuel : Nat) : ∀ (c : Code) (cur : Nat) (s : St) (k : Ex → St → Prop),
    evalCP C KK fuel cur c s k → (evalC C fuel cur c s).elim False fun x => k x.1 x.2
  | .skip, cur, s, k, h => h
  | .region id ops draw, cur, s, k, h => by
    unfold evalCP at h
    unfold evalC
    have h1 := runRegionP_imp hK _ _ _ _ _ h
    cases hr : runRegion C id ops draw s with
    | none => rw [hr] at h1; exact h1.elim
    | some x => rw [hr] at h1; exact h1
  | .seq a b, cur, s, k, h => by
    unfold evalCP at h
    unfold evalC
    have h1 := evalCP_imp hK fuel a cur s _ h
    cases ha : evalC C fuel cur a s with
    | none => rw [ha] at h1; exact h1.elim
    | some x =>
      rw [ha] at h1
      obtain ⟨e, s2⟩ := x
      cases e with
      | normal => exact evalCP_imp hK fuel b cur s2 k h1
      | exit i => exact h1
      | ret => exact h1
  | .cond c a b, cur, s, k, h => by
    unfold evalCP at h
    unfold evalC
    split at h
    · rename_i t ht
      rw [ht]
      cases t
      · rw [cond_false, knowO_same ht] at h; exact evalCP_imp hK fuel b cur s k h
      · rw [cond_true, knowO_same ht] at h; exact evalCP_imp hK fuel a cur s k h
    · exact h.elim
  | .block id c, cur, s, k, h => by
    unfold evalCP at h
    unfold evalC
    have h1 := evalCP_imp hK fuel c id s _ h
    cases ha : evalC C fuel id c s with
    | none => rw [ha] at h1; exact h1.elim
    | some x =>
      rw [ha] at h1
      obtain ⟨e, s2⟩ := x
      cases e with
      | normal => exact h1
      | exit i =>
        simp only [Option.elim_some, Option.map_some] at h1 ⊢
        split at h1 <;> rename_i hi
        · rw [if_pos hi]; exact h1
        · rw [if_neg hi]; exact h1
      | ret => exact h1
  | .loop c, cur, s, k, h => by
    unfold evalCP at h
    unfold evalC
    cases hh : headSt C ((C.A.keep.lookup cur).getD 0) s with
    | none => rw [hh] at h; exact h.elim
    | some s1 => rw [hh] at h; exact loopP_imp (fun s k => evalCP_imp hK fuel c 0 s k) fuel s s1 k hh h
  | .exit i, cur, s, k, h => h
  | .ret, cur, s, k, h => h
  | .rangeFunc .., cur, s, k, h => h
  | .scope _, cur, s, k, h => h.elim
  | .label _, cur, s, k, h => h.elim
  | .goto _, cur, s, k, h => h.elim
  | .refuse _, cur, s, k, h => h.elim

/-! ### Functions -/
def resP (C : Ctx) (s : St) : List ResultVar → List AV → (List AV → Prop) → Prop
  | [], acc, k => k acc
  | .tmp t :: l, acc, k => resP C s l (acc ++ [s.get C.A t]) k
  | .cell a t :: l, acc, k => loadP C.P s.H t (s.get C.A a) fun v => resP C s l (acc ++ [v]) k
theorem resP_imp (C : Ctx) (s : St) : ∀ (l : List ResultVar) (acc : List AV) (k : List AV → Prop), resP C s l acc k → (l.mapM (resultAV C s)).elim False fun vs => k (acc ++ vs)
  | [], acc, k, h => by simpa [resP] using h
  | .tmp t :: l, acc, k, h => by
    unfold resP at h
    have h1 := resP_imp C s l _ k h
    rw [List.mapM_cons]
    simp only [resultAV]
    cases hm : l.mapM (resultAV C s) with
    | none => rw [hm] at h1; exact h1.elim
    | some vs => rw [hm] at h1; simpa using h1
  | .cell a t :: l, acc, k, h => by
    unfold resP at h
    have h0 := loadP_imp h
    rw [List.mapM_cons]
    simp only [resultAV]
    cases hl : loadAV C.P s.H t (s.get C.A a) with
    | none => rw [hl] at h0; exact h0.elim
    | some v =>
      rw [hl] at h0
      have h1 := resP_imp C s l _ k h0
      cases hm : l.mapM (resultAV C s) with
      | none => rw [hm] at h1; exact h1.elim
      | some vs => rw [hm] at h1; simpa using h1
def endP (C : Ctx) (n0 : Nat) (k : AV → Heap → Bool → Prop) (s : St) (v : AV) : Prop := match C.A.keep.lookup 4243 with
  | some _ => k v s.H true
  | none => match C.sm with
    | true => ∃ H' : Heap, sweep s.H n0 v.refsS s.esc = some H' ∧ k v H' s.esc
    | false => (sweep s.H n0 v.refsS s.esc).elim False fun H' => k v H' s.esc
theorem endP_imp {C : Ctx} {n0 : Nat} {k : AV → Heap → Bool → Prop} {s : St} {v : AV} (h : endP C n0 k s v) : (sweepA C.A s.H n0 v.refsS s.esc).elim False fun H' => k v H' (escA C.A s.esc) := by
  unfold endP at h
  unfold sweepA escA
  split at h
  · rename_i hl
    rw [hl]
    exact h
  · rename_i hl
    rw [hl]
    simp only
    split at h
    · obtain ⟨H', h1, h2⟩ := h
      rw [h1]
      exact h2
    · exact h
def finP (C : Ctx) (fn : Func) (n0 : Nat) (k : AV → Heap → Bool → Prop) : Ex → St → Prop := fun e s => match e with
  | .exit _ => False
  | _ => resP C s fn.results.toList [] fun vs => pickS False (fun v => cond v.okS (endP C n0 k s v) False) vs
theorem finP_imp (C : Ctx) (fn : Func) (n0 : Nat) (k : AV → Heap → Bool → Prop) (e : Ex) (s : St) : finP C fn n0 k e s → finK False C fn n0 k e s := by
  have h : (resP C s fn.results.toList [] fun vs => pickS False (fun v => cond v.okS (endP C n0 k s v) False) vs) →
      ((fn.results.toList.mapM (resultAV C s)).elim False fun vs => (sweepA C.A s.H n0 (pickAV vs).refs s.esc).elim False fun H' => k (pickAV vs) H' (escA C.A s.esc)) := fun h => by
    have h1 := resP_imp C s _ _ _ h
    cases hm : fn.results.toList.mapM (resultAV C s) with
    | none => rw [hm] at h1; exact h1.elim
    | some vs =>
      rw [hm] at h1
      simp only [Option.elim_some, List.nil_append] at h1 ⊢
      have h2 := (pickS_le False _ vs).imp h1
      obtain ⟨h3, h4⟩ := cond_imp h2
      replace h4 := endP_imp h4
      rw [((okS_both id).1 _ h3).2] at h4
      exact h4
  cases e with
  | exit i => exact False.elim
  | normal => exact h
  | ret => exact h
def evalFP (P : Program) (U : Out) (ann : FuncId → FAnn) (fuel : Nat) (K : Oracle) (KK : OracleK Prop) : OracleK Prop := fun f args H k =>
  match P.funcs[f]? with
  | some fn => match fn.body with
    | some c =>
      let C : Ctx := ⟨P, K, H.length, max fn.ntmps args.length, ann f, U, noY, evalI P U ann fuel K⟩
      evalCP C KK fuel 0 c ⟨initL C.A.keys args, [], H, false⟩ (finP C fn H.length k)
    | none => False
  | none => False
theorem evalFP_imp {P : Program} {U : Out} {ann : FuncId → FAnn} {fuel : Nat} {K : Oracle} {KK : OracleK Prop} (hK : ∀ f args H k, Le False (KK f args H k) (KOf False K f args H k)) (f : FuncId) (args : List AV) (H : Heap) (k : AV → Heap → Bool → Prop)
    (h : evalFP P U ann fuel K KK f args H k) : (evalF P U ann fuel K f args H).elim False fun r => k r.1 r.2.1 r.2.2 := by
  unfold evalFP at h
  unfold evalF evalG
  cases hf : P.funcs[f]? with
  | none => rw [hf] at h; exact h.elim
  | some fn =>
    rw [hf] at h
    simp only [Option.bind_some] at h ⊢
    cases hb : fn.body with
    | none => rw [hb] at h; exact h.elim
    | some c =>
      rw [hb] at h
      simp only [Option.bind_some] at h ⊢
      have h1 := evalCP_imp (C := ⟨P, K, H.length, max fn.ntmps args.length, ann f, U, noY, evalI P U ann fuel K⟩) hK fuel c 0 _ _ h
      cases he : evalC ⟨P, K, H.length, max fn.ntmps args.length, ann f, U, noY, evalI P U ann fuel K⟩ fuel 0 c ⟨initL (ann f).keys args, [], H, false⟩ with
      | none => rw [he] at h1; exact h1.elim
      | some x =>
        rw [he] at h1
        obtain ⟨e, s2⟩ := x
        have h2 := finP_imp _ _ _ _ _ _ h1
        cases e with
        | exit i => exact h2.elim
        | normal =>
          simp only [finK, Option.bind_some] at h2 ⊢
          cases hm : fn.results.toList.mapM (resultAV ⟨P, K, H.length, max fn.ntmps args.length, ann f, U, noY, evalI P U ann fuel K⟩ s2) with
          | none => rw [hm] at h2; exact h2.elim
          | some vs =>
            rw [hm] at h2
            simp only [Option.elim_some, Option.bind_some] at h2 ⊢
            cases hs : sweepA (ann f) s2.H H.length (pickAV vs).refs s2.esc with
            | none => rw [hs] at h2; exact h2.elim
            | some H' => rw [hs] at h2; exact h2
        | ret =>
          simp only [finK, Option.bind_some] at h2 ⊢
          cases hm : fn.results.toList.mapM (resultAV ⟨P, K, H.length, max fn.ntmps args.length, ann f, U, noY, evalI P U ann fuel K⟩ s2) with
          | none => rw [hm] at h2; exact h2.elim
          | some vs =>
            rw [hm] at h2
            simp only [Option.elim_some, Option.bind_some] at h2 ⊢
            cases hs : sweepA (ann f) s2.H H.length (pickAV vs).refs s2.esc with
            | none => rw [hs] at h2; exact h2.elim
            | some H' => rw [hs] at h2; exact h2

/-- Code, gone on with inside loops: the ways to the loops, how often each may go round behind this round, the state at the inmost head. -/
def resumeCP (C : Ctx) (KK : OracleK Prop) (fuel : Nat) : List (List Bool × Nat) → List Bool → Nat → Nat → Code → St → (Ex → St → Prop) → Prop
  | q, p, n, _, .block id c, s, k => resumeCP C KK fuel q p n id c s fun e s => match e with
      | .exit i => if i = id then k .normal s else k (.exit i) s
      | .normal => k .normal s
      | .ret => k .ret s
  | q, false :: p, n, cur, .seq a b, s, k => resumeCP C KK fuel q p n cur a s fun e s => match e with
      | .normal => evalCP C KK fuel cur b s k
      | .exit i => k (.exit i) s
      | .ret => k .ret s
  | q, true :: p, n, cur, .seq _ b, s, k => resumeCP C KK fuel q p n cur b s k
  | q, false :: p, n, cur, .cond _ a _, s, k => resumeCP C KK fuel q p n cur a s k
  | q, true :: p, n, cur, .cond _ _ b, s, k => resumeCP C KK fuel q p n cur b s k
  | [], [], n, cur, .loop c, s, k => loopP (headSt C ((C.A.keep.lookup cur).getD 0)) (fun s k => evalCP C KK fuel 0 c s k) n s k
  | (p2, n2) :: q, [], n, cur, .loop c, s, k => resumeCP C KK fuel q p2 n2 0 c s fun e s => match e with
      | .normal => (headSt C ((C.A.keep.lookup cur).getD 0) s).elim False fun s => loopP (headSt C ((C.A.keep.lookup cur).getD 0)) (fun s k => evalCP C KK fuel 0 c s k) n s k
      | .exit i => k (.exit i) s
      | .ret => k .ret s
  | _, _, _, _, _, _, _ => False

/-- A function, gone on with inside loops. -/
def resumeFP (P : Program) (U : Out) (ann : FuncId → FAnn) (fuel : Nat) (K : Oracle) (KK : OracleK Prop) (f : FuncId) (nargs n0 : Nat) (q : List (List Bool × Nat)) (p : List Bool) (n : Nat) (s : St) (k : AV → Heap → Bool → Prop) : Prop :=
  match P.funcs[f]? with
  | some fn => match fn.body with
    | some c =>
      let C : Ctx := ⟨P, K, n0, max fn.ntmps nargs, ann f, U, noY, evalI P U ann fuel K⟩
      resumeCP C KK fuel q p n 0 c s (finP C fn n0 k)
    | none => False
  | none => False
end Go.X
/-
  Functions told by what holds of their results: tables of statements, each call on its own piece of memory, or on values alone.
-/
namespace Go.X
open Classical

theorem Le.ofImp {a b : Prop} (h : a → b) : Le False a b := by
  by_cases ha : a
  · exact .inr (propext ⟨h, fun _ => ha⟩)
  · exact .inl (propext ⟨ha, False.elim⟩)

/-- What is asked, so that a call's results are as is wanted. -/
abbrev PT := List AV → Heap → (AV → Heap → Bool → Prop) → Prop

/-- What runs: the program, what lies about it, its notes, how often loops go round, how each function's calls are told (0: gone through where they stand, 1: on their piece of memory, 2: on values alone, 3: given, 6: as 1, the piece told of, 7: told of, on the whole memory), what is given. -/
structure Setg where
  P : Program
  U : Out
  ann : FuncId → FAnn
  fu : Nat
  mode : FuncId → Nat
  K0 : Oracle

structure Setg.Ok (S : Setg) : Prop where
  ext : ∀ B, ExtSound S.P B S.U.X
  mixed : S.P.follows .mixedOrders = true
  annOk : ∀ f, funcOk S.P (S.ann f) f = true
  given : ∀ B, OracleSound S.P B S.U.G S.K0

/-- A call on values alone. -/
def valF (F : Oracle) : Oracle := fun f args H => (snapL H args).bind fun xs => (F f xs []).bind fun r => if r.1.cleanR then some (r.1, H, false) else none

/-- Calls, no deeper than so, each in its way. -/
def evalL (S : Setg) : Nat → Oracle
  | 0 => fun f args H => match S.mode f with
    | 3 => S.K0 f args H
    | _ => none
  | n + 1 => fun f args H => match S.mode f with
    | 0 => evalF S.P S.U S.ann S.fu (evalL S n) f args H
    | 1 => locF (evalF S.P S.U S.ann S.fu (evalL S n)) f args H
    | 2 => valF (evalF S.P S.U S.ann S.fu (evalL S n)) f args H
    | 6 => locF (evalF S.P S.U S.ann S.fu (evalL S n)) f args H
    | 7 => evalF S.P S.U S.ann S.fu (evalL S n) f args H
    | _ => S.K0 f args H

theorem valF_sound {P : Program} {U : Out} {F : Oracle} (hF : ∀ B, OracleSound P B U.G F) (B : Nat) : OracleSound P B U.G (valF F) := by
  intro f args H v H' e h E w cargs hs hG hl hv
  unfold valF at h
  simp only [Option.bind_eq_some_iff] at h
  obtain ⟨xs, hxs, ⟨v', H1, e1⟩, hf, h⟩ := h
  simp only at h
  split at h
  · rename_i hc
    simp only [Option.some.injEq, Prod.mk.injEq] at h
    obtain ⟨rfl, rfl, rfl⟩ := h
    obtain ⟨k1, k2⟩ := snapL_ok hs hxs hl hv
    have hG' : GlobOk U.G (Env.start w) := fun g u hu => by
      obtain ⟨cs, h1, h2⟩ := (show PR E (.iptr u) _ from hG g u hu)
      refine VR.of_PR (v := .iptr u) ⟨cs, h1.toStart hs ?_, h2⟩
      cases h1 with
      | iptr h3 _ _ _ => simp [reflessL, AV.refless]
    refine (hF w.heap.size f xs [] v' H1 e1 hf (Env.start w) w cargs (Sim.start w) hG' k1 k2).mono ?_
    rintro en w' ⟨c, E', rfl, hr⟩
    have hb := hr.tr.below
    exact ⟨c, E, rfl, ⟨hs.stays hb, hr.val.ofClean hc, Tr.stays hs hb, Nat.le_refl _, fun _ => Sub.refl _ _⟩⟩
  · cases h

theorem evalL_ok {S : Setg} (hS : S.Ok) : ∀ (n B : Nat), OracleSound S.P B S.U.G (evalL S n)
  | 0, B => fun f args H v H' e h => by
    unfold evalL at h
    split at h
    · exact hS.given B f args H v H' e h
    · cases h
  | n + 1, B => fun f args H v H' e h => by
    unfold evalL at h
    have hF : ∀ B, OracleSound S.P B S.U.G (evalF S.P S.U S.ann S.fu (evalL S n)) := fun B => evalF_ok (evalL_ok hS n B) (hS.ext B) hS.mixed hS.annOk
    split at h
    · exact hF B f args H v H' e h
    · exact loc_sound hF B f args H v H' e h
    · exact valF_sound hF B f args H v H' e h
    · exact loc_sound hF B f args H v H' e h
    · exact hF B f args H v H' e h
    · exact hS.given B f args H v H' e h

/-- A told call, as it is asked for. -/
def callP (m : Nat) (t : PT) (args : List AV) (H : Heap) (k : AV → Heap → Bool → Prop) : Prop := match m with
  | 1 => cond (okSL args) (match (reach H 0 1000 (refsSL args) []).map List.reverse with
    | some p => t (renSL (idx p) args) (pieceH p H) fun v H1 e => cond v.okS (k (v.renS (backN p H.length)) (backH p H H1) e) False
    | none => False) False
  | 2 => snapLK False H args fun xs => t xs [] fun v _ _ => cond v.cleanR (k v H false) False
  | 3 => t args H k
  | 6 => cond (okSL args) (∃ p : List Nat, (reach H 0 1000 (refsSL args) []).map List.reverse = some p ∧ t (renSL (idx p) args) (pieceH p H) fun v H1 e => cond v.okS (∀ H2 : Heap, H2 = backH p H H1 → k (v.renS (backN p H.length)) H2 e) False) False
  | 7 => t args H k
  | _ => False

def evalPS (S : Setg) (T : FuncId → Option PT) (N : Nat) : Nat → OracleK Prop
  | 0 => fun _ _ _ _ => False
  | n + 1 => fun f args H k => match T f with
    | some t => callP (S.mode f) t args H k
    | none => match S.mode f with
      | 0 => evalFP S.P S.U S.ann S.fu (evalL S (n + N)) (evalPS S T N n) f args H k
      | _ => False

/-- What is told is so. -/
def PTab (S : Setg) (T : FuncId → Option PT) (N : Nat) : Prop := ∀ f t, T f = some t → ∀ n, N ≤ n → ∀ args H k, t args H k → match S.mode f with
  | 3 => (S.K0 f args H).elim False fun r => k r.1 r.2.1 r.2.2
  | _ => (evalF S.P S.U S.ann S.fu (evalL S n) f args H).elim False fun r => k r.1 r.2.1 r.2.2

theorem PTab.mono {S : Setg} {T : FuncId → Option PT} {N N' : Nat} (h : PTab S T N) (hN : N ≤ N') : PTab S T N' := fun f t ht n hn => h f t ht n (by omega)

/-- A call on its piece, as it is asked for. -/
theorem callP1_imp {F : Oracle} {f : FuncId} {t : PT} (ht : ∀ args H k, t args H k → (F f args H).elim False fun r => k r.1 r.2.1 r.2.2) {args : List AV} {H : Heap} {k : AV → Heap → Bool → Prop}
    (h : callP 1 t args H k) : (locF F f args H).elim False fun r => k r.1 r.2.1 r.2.2 := by
  unfold callP at h
  simp only at h
  obtain ⟨ha, h⟩ := cond_imp h
  rw [((okS_both id).2 _ ha).2] at h
  unfold locF pieceOf
  cases hp : (reach H 0 1000 (refsL args) []).map List.reverse with
  | none => rw [hp] at h; exact h.elim
  | some p =>
    rw [hp] at h
    simp only [Option.bind_some] at h ⊢
    rw [((okS_both (idx p)).2 _ ha).1] at h
    have h1 := ht _ _ _ h
    cases hr : F f (renL (idx p) args) (pieceH p H) with
    | none => rw [hr] at h1; exact h1.elim
    | some r =>
      rw [hr] at h1
      simp only [Option.elim_some, Option.map_some] at h1 ⊢
      obtain ⟨hv, h1⟩ := cond_imp h1
      rw [((okS_both (backN p H.length)).1 _ hv).1] at h1
      exact h1
theorem callP_imp {S : Setg} {T : FuncId → Option PT} {N n : Nat} (hT : PTab S T N) (hn : N ≤ n) {f : FuncId} {t : PT} (ht : T f = some t) {args : List AV} {H : Heap} {k : AV → Heap → Bool → Prop}
    (h : callP (S.mode f) t args H k) : (evalL S (n + 1) f args H).elim False fun r => k r.1 r.2.1 r.2.2 := by
  have hs := hT f t ht n hn
  unfold evalL
  unfold callP at h
  split at h
  · rename_i hm
    rw [hm] at hs ⊢
    simp only at hs ⊢
    obtain ⟨ha, h⟩ := cond_imp h
    rw [((okS_both id).2 _ ha).2] at h
    unfold locF pieceOf
    cases hp : (reach H 0 1000 (refsL args) []).map List.reverse with
    | none => rw [hp] at h; exact h.elim
    | some p =>
      rw [hp] at h
      simp only [Option.bind_some] at h ⊢
      rw [((okS_both (idx p)).2 _ ha).1] at h
      have h1 := hs _ _ _ h
      cases hr : evalF S.P S.U S.ann S.fu (evalL S n) f (renL (idx p) args) (pieceH p H) with
      | none => rw [hr] at h1; exact h1.elim
      | some r =>
        rw [hr] at h1
        simp only [Option.elim_some, Option.map_some] at h1 ⊢
        obtain ⟨hv, h1⟩ := cond_imp h1
        rw [((okS_both (backN p H.length)).1 _ hv).1] at h1
        exact h1
  · rename_i hm
    rw [hm] at hs ⊢
    simp only at hs ⊢
    have h1 := (snapLK_le False H args _).imp h
    unfold valF
    cases hx : snapL H args with
    | none => rw [hx] at h1; exact h1.elim
    | some xs =>
      rw [hx] at h1
      simp only [Option.elim_some, Option.bind_some] at h1 ⊢
      have h2 := hs _ _ _ h1
      cases hr : evalF S.P S.U S.ann S.fu (evalL S n) f xs [] with
      | none => rw [hr] at h2; exact h2.elim
      | some r =>
        rw [hr] at h2
        simp only [Option.elim_some, Option.bind_some] at h2 ⊢
        obtain ⟨hv, h2⟩ := cond_imp h2
        rw [if_pos hv]
        exact h2
  · rename_i hm
    rw [hm] at hs ⊢
    simp only at hs ⊢
    exact hs _ _ _ h
  · rename_i hm
    rw [hm] at hs ⊢
    simp only at hs ⊢
    obtain ⟨ha, p, hp, h⟩ := cond_imp h
    rw [((okS_both id).2 _ ha).2] at hp
    unfold locF pieceOf
    rw [hp]
    simp only [Option.bind_some]
    rw [((okS_both (idx p)).2 _ ha).1] at h
    have h1 := hs _ _ _ h
    cases hr : evalF S.P S.U S.ann S.fu (evalL S n) f (renL (idx p) args) (pieceH p H) with
    | none => rw [hr] at h1; exact h1.elim
    | some r =>
      rw [hr] at h1
      simp only [Option.elim_some, Option.map_some] at h1 ⊢
      obtain ⟨hv, h1⟩ := cond_imp h1
      rw [((okS_both (backN p H.length)).1 _ hv).1] at h1
      exact h1 _ rfl
  · rename_i hm
    rw [hm] at hs ⊢
    exact hs _ _ _ h
  · exact h.elim

theorem evalPS_le {S : Setg} {T : FuncId → Option PT} {N : Nat} (hT : PTab S T N) : ∀ (n : Nat) (f : FuncId) (args : List AV) (H : Heap) (k : AV → Heap → Bool → Prop), Le False (evalPS S T N n f args H k) (KOf False (evalL S (n + N)) f args H k)
  | 0, f, args, H, k => .inl rfl
  | n + 1, f, args, H, k => Le.ofImp fun h => by
    unfold evalPS at h
    unfold KOf
    rw [show n + 1 + N = n + N + 1 by omega]
    cases ht : T f with
    | some t =>
      rw [ht] at h
      exact callP_imp hT (by omega) ht h
    | none =>
      rw [ht] at h
      simp only at h
      split at h
      · rename_i hm
        unfold evalL
        rw [hm]
        exact evalFP_imp (evalPS_le hT n) f args H k h
      · exact h.elim

/-- A function's text, with a table. -/
def runP (S : Setg) (T : FuncId → Option PT) (N D : Nat) (fuel : Nat) : OracleK Prop := evalFP S.P S.U S.ann fuel (evalL S (D + N)) (evalPS S T N D)
/-- .. inside loops. -/
def resPS (S : Setg) (T : FuncId → Option PT) (N D : Nat) (fuel : Nat) (f : FuncId) (nargs n0 : Nat) (q : List (List Bool × Nat)) (p : List Bool) (n : Nat) (s : St) (k : AV → Heap → Bool → Prop) : Prop :=
  resumeFP S.P S.U S.ann fuel (evalL S (D + N)) (evalPS S T N D) f nargs n0 q p n s k

theorem PTab.none {S : Setg} : PTab S (fun _ => Option.none) 0 := fun _ _ h => by cases h

/-- One function more. -/
theorem PTab.add {S : Setg} {T : FuncId → Option PT} {N : Nat} (hT : PTab S T N) {g : FuncId} {t : PT} (D : Nat) (hm : (S.mode g == 3) = false)
    (h : ∀ N', N ≤ N' → ∀ args H k, t args H k → runP S T N' D S.fu g args H k) : PTab S (fun f => if f = g then some t else T f) (D + N) := by
  intro f u hu n hn args H k hk
  by_cases hf : f = g
  · subst hf
    simp only [if_true, Option.some.injEq] at hu
    subst hu
    have h1 := h (n - D) (by omega) args H k hk
    unfold runP at h1
    have h2 := evalFP_imp (evalPS_le (hT.mono (by omega : N ≤ n - D)) D) f args H k h1
    rw [show D + (n - D) = n by omega] at h2
    split
    · rename_i h3; rw [h3] at hm; cases hm
    · exact h2
  · simp only [if_neg hf] at hu
    exact hT f u hu n (by omega) args H k hk

/-- One that is given. -/
theorem PTab.give {S : Setg} {T : FuncId → Option PT} {N : Nat} (hT : PTab S T N) {g : FuncId} {t : PT} (hm : S.mode g = 3)
    (h : ∀ args H k, t args H k → (S.K0 g args H).elim False fun r => k r.1 r.2.1 r.2.2) : PTab S (fun f => if f = g then some t else T f) N := by
  intro f u hu n hn args H k hk
  by_cases hf : f = g
  · subst hf
    simp only [if_true, Option.some.injEq] at hu
    subst hu
    rw [hm]
    exact h args H k hk
  · simp only [if_neg hf] at hu
    exact hT f u hu n hn args H k hk

/-- The law's run. -/
theorem PTab.law {S : Setg} {T : FuncId → Option PT} {N : Nat} (hT : PTab S T N) {f : FuncId} (D : Nat) (hm : S.mode f = 0) {vs : List AV}
    (h : runP S T N D S.fu f vs [] fun v _ _ => v = .bool true) : ∃ H' e, evalN S.P S.U S.ann S.fu (evalL S (D + N + 1)) 0 f vs [] = some (.bool true, H', e) := by
  have h1 := evalFP_imp (evalPS_le hT D) f vs [] _ h
  show ∃ H' e, evalL S (D + N + 1) f vs [] = some (.bool true, H', e)
  unfold evalL
  rw [hm]
  simp only
  cases hr : evalF S.P S.U S.ann S.fu (evalL S (D + N)) f vs [] with
  | none => rw [hr] at h1; exact h1.elim
  | some r =>
    obtain ⟨v, H', e⟩ := r
    rw [hr] at h1
    obtain rfl : v = .bool true := h1
    exact ⟨H', e, rfl⟩
attribute [irreducible] runP resPS
end Go.X
/-
  Arrays of numbers as functions; rows of encoded elements.
-/
namespace Go.X

/-- n numbers. -/
structure Ar (n : Nat) where
  get : Nat → Int
  out : ∀ i, n ≤ i → get i = 0
theorem Ar.ext {n : Nat} {a b : Ar n} (h : ∀ i, i < n → a.get i = b.get i) : a = b := by
  obtain ⟨f, hf⟩ := a
  obtain ⟨g, hg⟩ := b
  have : f = g := funext fun i => by
    rcases Nat.lt_or_ge i n with hi | hi
    · exact h i hi
    · rw [hf i hi, hg i hi]
  subst this
  rfl
def Ar.of (n : Nat) (f : Nat → Int) : Ar n := ⟨fun i => if i < n then f i else 0, fun i hi => if_neg (by omega)⟩
theorem Ar.of_get {n : Nat} {f : Nat → Int} {i : Nat} (h : i < n) : (Ar.of n f).get i = f i := if_pos h
def Ar.zero (n : Nat) : Ar n := ⟨fun _ => 0, fun _ _ => rfl⟩
def Ar.set {n : Nat} (a : Ar n) (j : Nat) (v : Int) : Ar n := Ar.of n fun i => if i = j then v else a.get i
theorem Ar.set_get {n : Nat} (a : Ar n) {i j : Nat} (v : Int) (h : i < n) : (a.set j v).get i = if i = j then v else a.get i := Ar.of_get h
instance {n : Nat} : Inhabited (Ar n) := ⟨Ar.zero n⟩
theorem Ar.of_congr {n : Nat} {f g : Nat → Int} (h : ∀ i, i < n → f i = g i) : Ar.of n f = Ar.of n g := Ar.ext fun i hi => by rw [Ar.of_get hi, Ar.of_get hi, h i hi]
theorem Ar.of_self {n : Nat} (a : Ar n) : Ar.of n a.get = a := Ar.ext fun i hi => Ar.of_get hi

def encL (k : IntKind) (n : Nat) (f : Nat → Int) : List AV := (List.range n).map fun i => .int k (f i)
def encA (k : IntKind) {n : Nat} (a : Ar n) : AV := .arr 1 (encL k n a.get)

theorem encL_length (k : IntKind) (n : Nat) (f : Nat → Int) : (encL k n f).length = n := by simp [encL]
theorem encL_get {k : IntKind} {n i : Nat} {f : Nat → Int} (h : i < n) : (encL k n f)[i]? = some (.int k (f i)) := by simp [encL, h]
theorem encL_congr {k : IntKind} {n : Nat} {f g : Nat → Int} (h : ∀ i, i < n → f i = g i) : encL k n f = encL k n g := by
  unfold encL
  exact List.map_congr_left fun i hi => by rw [h i (by simpa using hi)]
theorem arr_encL (k : IntKind) {n : Nat} (f : Nat → Int) : AV.arr 1 (encL k n f) = encA k (Ar.of n f) := by
  unfold encA
  rw [encL_congr (f := (Ar.of n f).get) (g := f) fun i hi => Ar.of_get hi]
theorem encL_set {k : IntKind} {n j : Nat} {f : Nat → Int} {v : Int} : (encL k n f).set j (.int k v) = encL k n fun i => if i = j then v else f i := by
  apply List.ext_getElem?
  intro i
  rcases Nat.lt_or_ge i n with hi | hi
  · rw [List.getElem?_set, encL_get hi, encL_get (f := fun i => if i = j then v else f i) hi]
    by_cases h : j = i
    · subst h
      simp only [encL_length, hi, if_true]
    · have h' : ¬ i = j := fun e => h e.symm
      rw [if_neg h, if_neg h']
  · rw [List.getElem?_eq_none (by simpa [encL_length] using hi), List.getElem?_eq_none (by simpa [encL_length] using hi)]
theorem encA_set {k : IntKind} {n j : Nat} {a : Ar n} {v : Int} : AV.arr 1 ((encL k n a.get).set j (.int k v)) = encA k (a.set j v) := by
  rw [encL_set, arr_encL]
  rfl
theorem setElem_encA {k : IntKind} {n j : Nat} {a : Ar n} {v : Int} : setElem (encA k a) j (.int k v) = encA k (a.set j v) := encA_set
theorem elem_encA {k : IntKind} {n i : Nat} {a : Ar n} (h : i < n) : (encA k a).elem i = .int k (a.get i) := by
  simp [encA, AV.elem, encL_get h]
theorem toInt_elem_encA {k : IntKind} {n i : Nat} {a : Ar n} : ((encA k a).elem i).toInt = a.get i := by
  rcases Nat.lt_or_ge i n with h | h
  · rw [elem_encA h]; rfl
  · rw [a.out i h]
    simp [encA, AV.elem, List.getElem?_eq_none (show (encL k n a.get).length ≤ i by simpa [encL_length] using h), AV.toInt]
theorem isArrI_encA {k : IntKind} {n : Nat} {a : Ar n} : (encA k a).isArrI n k = true := by
  simp [encA, AV.isArrI, encL, AV.isIntK]
theorem arI_encA {k : IntKind} {n : Nat} {a : Ar n} : AV.arr 1 (arI k n (encA k a)) = encA k a := by
  unfold arI
  simp only [toInt_elem_encA]
  rfl
theorem flatLen_encA {k : IntKind} {n : Nat} {a : Ar n} : (encA k a).flatLen = n := by simp [encA, AV.flatLen, encL_length]
theorem isAgg_encA {k : IntKind} {n : Nat} {a : Ar n} : (encA k a).isAgg = true := rfl
theorem refless_ints {k : IntKind} : ∀ (l : List Int), reflessL (l.map fun z => AV.int k z) = true
  | [] => rfl
  | _ :: l => by simp [reflessL, AV.refless, refless_ints l]
theorem reflessL_encL {k : IntKind} {n : Nat} {f : Nat → Int} : reflessL (encL k n f) = true := by
  have : encL k n f = ((List.range n).map f).map fun z => AV.int k z := by simp [encL]
  rw [this]
  exact refless_ints _
theorem refless_encA {k : IntKind} {n : Nat} {a : Ar n} : (encA k a).refless = true := by simp [encA, AV.refless, reflessL_encL]
theorem okS_encA {k : IntKind} {n : Nat} {a : Ar n} : (encA k a).okS = true := by simp [encA, AV.okS, reflessL_encL]
theorem encA_inj {k : IntKind} {n : Nat} {a b : Ar n} (h : encA k a = encA k b) : a = b := by
  simp only [encA, AV.arr.injEq, true_and] at h
  refine Ar.ext fun i hi => ?_
  have h1 := congrArg (·[i]?) h
  simp only [encL_get hi, Option.some.injEq, AV.int.injEq, true_and] at h1
  exact h1
theorem encA_eq {k : IntKind} {n : Nat} {a b : Ar n} : encA k a = encA k b ↔ a = b := ⟨encA_inj, fun h => h ▸ rfl⟩
theorem beqL_ints {k : IntKind} : ∀ (l : List Int), beqL (l.map fun z => AV.int k z) (l.map fun z => AV.int k z) = true
  | [] => rfl
  | _ :: l => by cases k <;> simp [beqL, AV.beq, beqL_ints l] <;> rfl
theorem beq_encA {k : IntKind} {n : Nat} {a : Ar n} : (encA k a).beq (encA k a) = true := by
  have : encL k n a.get = ((List.range n).map a.get).map fun z => AV.int k z := by simp [encL]
  simp only [encA, AV.beq, this, beqL_ints, beq_self_eq_true, Bool.and_self]

open Classical in
theorem eqRep_ints {P : Program} {d : Nat} {e : TypeId} {k : IntKind} (he : P.underlying e = some (.int k)) (ha : tagg P e = some false) : ∀ (xs ys : List Int), xs.length = ys.length →
    eqRep P (eqAV P (d + 1)) e (xs.map fun z => AV.int k z) (ys.map fun z => AV.int k z) = some (decide (xs = ys))
  | [], [], _ => by simp [eqRep]
  | [], _ :: _, h => by simp at h
  | _ :: _, [], h => by simp at h
  | x :: xs, y :: ys, h => by
    have ih := eqRep_ints (d := d) he ha xs ys (by simpa using h)
    have h1 : eqAV P (d + 1) e (.int k x) (.int k y) = some (x == y) := by simp [eqAV, he]
    simp only [List.map_cons, eqRep, ha, AV.isAgg, and_self, if_true, ih, h1, Option.bind_some]
    cases hxy : (x == y) with
    | false =>
      have hne : x ≠ y := by simpa using hxy
      simp [hne]
    | true =>
      have heq : x = y := by simpa using hxy
      simp [heq]
open Classical in
theorem eqNil_encA {P : Program} {t e : TypeId} {x y : Operand} {k : IntKind} {n : Nat} (hu : P.underlying t = some (.array n e)) (he : P.underlying e = some (.int k)) (hs : tsize P e = some 1) (a b : Ar n) :
    eqNil P t x y (encA k a) (encA k b) = some (decide (a = b)) := by
  have ha : tagg P e = some false := by simp [tagg, he]
  have hL : ∀ a : Ar n, encL k n a.get = ((List.range n).map a.get).map fun z => AV.int k z := fun a => by simp [encL]
  have hiff : ((List.range n).map a.get = (List.range n).map b.get) ↔ a = b := by
    constructor
    · intro h
      refine Ar.ext fun i hi => ?_
      have h1 := congrArg (·[i]?) h
      simpa [hi] using h1
    · rintro rfl; rfl
  show eqAV P 30 t (encA k a) (encA k b) = _
  unfold eqAV
  simp only [hu, encA, hs, true_and, encL_length, if_true]
  rw [hL, hL, eqRep_ints he ha _ _ (by simp)]
  simp only [hiff]

/-! Rows of elements. -/
def row {α : Type} (enc : α → AV) (l : List α) : List AV := l.map enc
theorem row_length {α : Type} {enc : α → AV} {l : List α} : (row enc l).length = l.length := by simp [row]
theorem row_get {α : Type} {enc : α → AV} {l : List α} {j : Nat} (h : j < l.length) : (row enc l)[j]? = some (enc l[j]) := by simp [row, h]
theorem row_at {α : Type} {enc : α → AV} {l : List α} {j : Nat} (h : j < (row enc l).length) : (row enc l)[j] = enc (l[j]'(by rw [row_length] at h; exact h)) := by simp [row]
theorem row_flatLen {α : Type} {enc : α → AV} {l : List α} {e : Nat} : (AV.arr e (row enc l)).flatLen = e * l.length := by simp [AV.flatLen, row]
theorem row_elem {α : Type} {enc : α → AV} {l : List α} {j e : Nat} (h : j < l.length) : (AV.arr e (row enc l)).elem j = enc l[j] := by simp [AV.elem, row, h]
theorem projT_row {α : Type} {enc : α → AV} {l : List α} {j e : Nat} {r : List Nat} (h : j < l.length) : projT (j :: r) (.arr e (row enc l)) = projT r (enc l[j]) := by
  simp [projT, AV.elem, row, h]
theorem inAt_row {α : Type} {enc : α → AV} {l : List α} {j e : Nat} {r : List Nat} (h : j < l.length) : inAt (.arr e (row enc l)) (j :: r) = inAt (enc l[j]) r := by
  simp [inAt, row, h]
theorem coffOf_row {α : Type} {enc : α → AV} {l : List α} {j e : Nat} {r : List Nat} (h : j < l.length) : coffOf (.arr e (row enc l)) (j :: r) = e * j + coffOf (enc l[j]) r := by
  simp [coffOf, row, h]
theorem okPl_row {α : Type} {enc : α → AV} {l : List α} {j e c g n : Nat} {r : List Nat} (h : j < l.length) (hg : e * l.length = g) (hc : e * j + coffOf (enc l[j]) r = c) (hi : inAt (enc l[j]) r = true) (hn : (projT r (enc l[j])).flatLen = n) :
    okPl (.arr e (row enc l)) (j :: r) c g n = true := by
  rw [okPl_iff, projT_row h, inAt_row h, coffOf_row h]
  exact ⟨by rw [row_flatLen, hg], hc, hi, hn⟩
theorem okAt_row {α : Type} {enc : α → AV} {l : List α} {j e c g n : Nat} {a : Bool} {r : List Nat} (h : j < l.length) (hg : e * l.length = g) (hc : e * j + coffOf (enc l[j]) r = c) (hi : inAt (enc l[j]) r = true) (hn : (projT r (enc l[j])).flatLen = n) (ha : (projT r (enc l[j])).isAgg = a) :
    okAt (.arr e (row enc l)) (j :: r) c g a n = true := by
  rw [okAt_iff, projT_row h]
  exact ⟨okPl_row h hg hc hi hn, ha⟩
theorem row_set {α : Type} {enc : α → AV} {l : List α} {j : Nat} {v : α} : (row enc l).set j (enc v) = row enc (l.set j v) := by simp [row]
theorem row_append {α : Type} {enc : α → AV} {l m : List α} : row enc l ++ row enc m = row enc (l ++ m) := by simp [row]
theorem row_snoc {α : Type} {enc : α → AV} {l : List α} {v : α} : row enc l ++ [enc v] = row enc (l ++ [v]) := by simp [row]
theorem row_inj {α : Type} {enc : α → AV} (hf : ∀ a b, enc a = enc b → a = b) : ∀ {l m : List α}, row enc l = row enc m → l = m
  | [], [], _ => rfl
  | [], _ :: _, h => by simp [row] at h
  | _ :: _, [], h => by simp [row] at h
  | a :: l, b :: m, h => by
    simp only [row, List.map_cons, List.cons.injEq] at h
    rw [hf a b h.1, row_inj hf h.2]
theorem row_take {α : Type} {enc : α → AV} {l : List α} {n : Nat} : (row enc l).take n = row enc (l.take n) := by simp [row]
theorem row_drop {α : Type} {enc : α → AV} {l : List α} {n : Nat} : (row enc l).drop n = row enc (l.drop n) := by simp [row]
end Go.X
namespace Go.X
theorem replicate_encA {k : IntKind} {n : Nat} : AV.arr 1 (List.replicate n (AV.int k 0)) = encA k (Ar.zero n) := by
  unfold encA encL Ar.zero
  congr 1
  apply List.ext_getElem?
  intro i
  rcases Nat.lt_or_ge i n with h | h
  · simp [h]
  · rw [List.getElem?_eq_none (by simpa using h), List.getElem?_eq_none (by simpa using h)]
theorem zero_encA {k : IntKind} {n : Nat} : AV.arr 1 (encL k n fun _ => 0) = encA k (Ar.zero n) := rfl
attribute [simp] row_length row_get row_at zero_encA AV.isIntK AV.isBoolV AV.toInt AV.toBool isArrI_encA arI_encA replicate_encA beq_encA refless_encA okS_encA flatLen_encA isAgg_encA
/-- Numbers laid over an array. -/
def Ar.lay {n : Nat} (a : Ar n) (j : Nat) (ds : List Int) : Ar n := Ar.of n fun i => if j ≤ i ∧ i < j + ds.length then ds.getD (i - j) 0 else a.get i
def encK (k : IntKind) (z : Int) : AV := .int k z
theorem setMany_encL {k : IntKind} {n j : Nat} {f : Nat → Int} {ds : List Int} (h : j + ds.length ≤ n) : setMany (encL k n f) j (row (encK k) ds) = encL k n fun i => if j ≤ i ∧ i < j + ds.length then ds.getD (i - j) 0 else f i := by
  apply List.ext_getElem?
  intro i
  have hl : (setMany (encL k n f) j (row (encK k) ds)).length = n := by
    rw [setMany_length (by simpa [encL_length, row_length] using h), encL_length]
  rcases Nat.lt_or_ge i n with hi | hi
  · rw [encL_get hi]
    unfold setMany
    have h1 : (List.take j (encL k n f)).length = j := by simp [encL_length]; omega
    rcases Nat.lt_or_ge i j with h2 | h2
    · have : ¬ (j ≤ i ∧ i < j + ds.length) := by omega
      rw [if_neg this, List.append_assoc, List.getElem?_append_left (by omega), List.getElem?_take_of_lt h2, encL_get hi]
    · rcases Nat.lt_or_ge i (j + ds.length) with h3 | h3
      · have h4 : i - j < ds.length := by omega
        rw [if_pos ⟨h2, h3⟩, List.append_assoc, List.getElem?_append_right (by omega), h1, List.getElem?_append_left (by rw [row_length]; omega), row_get h4]
        simp [encK, List.getD_eq_getElem?_getD, h4]
      · have : ¬ (j ≤ i ∧ i < j + ds.length) := by omega
        rw [if_neg this, List.getElem?_append_right (by simp [encL_length, row_length]; omega), List.getElem?_drop]
        simp only [List.length_append, h1, row_length]
        rw [show j + ds.length + (i - (j + ds.length)) = i by omega, encL_get hi]
  · rw [List.getElem?_eq_none (by omega), List.getElem?_eq_none (by rw [encL_length]; omega)]
theorem setMany_encA {k : IntKind} {n j : Nat} {a : Ar n} {ds : List Int} (h : j + ds.length ≤ n) : AV.arr 1 (setMany (encL k n a.get) j (row (encK k) ds)) = encA k (a.lay j ds) := by
  rw [setMany_encL h, arr_encL]
  rfl
theorem okAt_encA {k : IntKind} {n : Nat} {a : Ar n} : okAt (encA k a) [] 0 n true n = true := by
  rw [okAt_iff, okPl_iff]
  exact ⟨⟨flatLen_encA, rfl, rfl, flatLen_encA⟩, rfl⟩
theorem reflessL_row {α : Type} {enc : α → AV} (h : ∀ x, (enc x).refless = true) : ∀ l : List α, reflessL (row enc l) = true
  | [] => rfl
  | x :: l => by
    have := reflessL_row h l
    simp only [row] at this
    simp [row, reflessL, h x, this]
theorem all_row {α : Type} {enc : α → AV} {p : AV → Bool} (h : ∀ x, p (enc x) = true) (l : List α) : (row enc l).all p = true := by
  rw [List.all_eq_true]
  intro u hu
  obtain ⟨x, _, rfl⟩ := List.mem_map.1 hu
  exact h x
theorem wrapB {i : Nat} (h : i + 1 < 2 ^ 63) : IntKind.wrap IntKind.i64 ((i : Int) + 1) = ((i + 1 : Nat) : Int) := by
  rw [IntKind.wrap_i64]
  omega
end Go.X
/-
  Tells functions, one by one; a law whose rounds hang on what comes in.
-/
namespace Go.X
open Classical
/-- A function is told so, from a depth on. -/
def Tells (S : Setg) (f : FuncId) (t : PT) (N : Nat) : Prop := ∀ n, N ≤ n → ∀ args H k, t args H k → match S.mode f with
  | 3 => (S.K0 f args H).elim False fun r => k r.1 r.2.1 r.2.2
  | _ => (evalF S.P S.U S.ann S.fu (evalL S n) f args H).elim False fun r => k r.1 r.2.1 r.2.2
theorem Tells.mono {S : Setg} {f : FuncId} {t : PT} {N M : Nat} (h : Tells S f t N) (hN : N ≤ M) : Tells S f t M := fun n hn => h n (by omega)
theorem PTab.cons {S : Setg} {T : FuncId → Option PT} {N : Nat} (hT : PTab S T N) {g : FuncId} {t : PT} (hg : Tells S g t N) : PTab S (fun f => if f = g then some t else T f) N := by
  intro f u hu
  by_cases hf : f = g
  · subst hf
    simp only [if_true, Option.some.injEq] at hu
    subst hu
    exact hg
  · simp only [if_neg hf] at hu
    exact hT f u hu
/-- By its text, with a table. -/
theorem PTab.told {S : Setg} {T : FuncId → Option PT} {N : Nat} (hT : PTab S T N) {g : FuncId} {t : PT} (D : Nat) (hm : (S.mode g == 3) = false)
    (h : ∀ N' args H k, t args H k → runP S T N' D S.fu g args H k) : Tells S g t (D + N) := by
  have h1 := hT.add D hm (fun N' _ => h N')
  exact h1 g t (by simp)
theorem Tells.given {S : Setg} {g : FuncId} {t : PT} (hm : S.mode g = 3) (h : ∀ args H k, t args H k → (S.K0 g args H).elim False fun r => k r.1 r.2.1 r.2.2) (N : Nat) : Tells S g t N := by
  intro n _ args H k hk
  rw [hm]
  exact h args H k hk
/-- What some sound oracle finds true. -/
noncomputable def Ktrue (P : Program) (G : Nat → Option AV) : Oracle := fun f args H =>
  if h : ∃ (K : Oracle) (H' : Heap) (e : Bool), (∀ B, OracleSound P B G K) ∧ K f args H = some (.bool true, H', e) then
    some (.bool true, h.choose_spec.choose, h.choose_spec.choose_spec.choose) else none
theorem Ktrue_sound (P : Program) (G : Nat → Option AV) (B : Nat) : OracleSound P B G (Ktrue P G) := by
  intro f args H v H' e h
  unfold Ktrue at h
  split at h
  · rename_i hx
    simp only [Option.some.injEq, Prod.mk.injEq] at h
    obtain ⟨rfl, rfl, rfl⟩ := h
    have hs := hx.choose_spec.choose_spec.choose_spec
    exact hs.1 B f args H _ _ _ hs.2
  · cases h
theorem Ktrue_of {P : Program} {G : Nat → Option AV} {K : Oracle} (hK : ∀ B, OracleSound P B G K) {f : FuncId} {args : List AV} {H H' : Heap} {e : Bool} (h : K f args H = some (.bool true, H', e)) :
    ∃ H' e, Ktrue P G f args H = some (.bool true, H', e) := by
  have hx : ∃ (K : Oracle) (H' : Heap) (e : Bool), (∀ B, OracleSound P B G K) ∧ K f args H = some (.bool true, H', e) := ⟨K, H', e, hK, h⟩
  unfold Ktrue
  rw [dif_pos hx]
  exact ⟨_, _, rfl⟩
/-- The law's run, in some setting. -/
theorem PTab.law' {S : Setg} (hS : S.Ok) {T : FuncId → Option PT} {N : Nat} (hT : PTab S T N) {f : FuncId} (D : Nat) (hm : S.mode f = 0) {vs : List AV}
    (h : runP S T N D S.fu f vs [] fun v _ _ => v = .bool true) : ∃ H' e, Ktrue S.P S.U.G f vs [] = some (.bool true, H', e) := by
  obtain ⟨H', e, he⟩ := hT.law D hm h
  exact Ktrue_of (fun B => evalL_ok hS _ B) he
end Go.X
/-
  Pins: how each function's calls are told; what is given.
-/
namespace Go.Proofs.Ytclmndonaljppaa
open Go Go.X
def Tn : Table := fun _ => none
theorem wakes7 : evalTK false Try.prog U ann 1000 Tn 100 7 [] [] (fun v _ _ => v.isTrue) = true := by kernel_rfl
def Tw : Table := fun f => if f = 7 then some (fun xs => match xs with
  | [] => some (true, .bool true)
  | _ => none) else none
theorem Fw : FunTab Try.prog U Tw := FunTab.none.addN (ann := ann) (fuel := 1000) (n := 100) extU mixed hA (g := 7) (fun xs v h => by
  split at h
  · simp only [Option.some.injEq, Prod.mk.injEq, true_and] at h
    subst h
    exact ⟨rfl, run_of_trueT wakes7⟩
  · cases h)
/-- What sorting comes to, of nothing too. -/
def sortE : List AV → Heap → Option Outs := fun args H => match args with
  | [.sl p e n off len] => (sortT [.sl p e n off len] H).map fun x => [x]
  | _ => none
def mode (f : FuncId) : Nat := if f = 7 then 3 else if f = 26 then 3 else if [20].contains f then 6 else if f = 19 then 2 else if [8, 9, 10, 11, 12, 13, 14, 15, 16, 17, 18, 21, 22, 23, 24, 25, 27].contains f then 7 else 0
/-- What is given: sorting; the statements' own test run. -/
noncomputable def K0 : Oracle := fun f args H => if f = 26 then (sortE args H).bind pickO else pureK (kOf Tw) f args H
noncomputable def S (F : Nat) : Setg := ⟨Try.prog, U, ann, F + 5000, mode, K0⟩
variable {F : Nat}
theorem S_fu : (S F).fu = F + 5000 := rfl
abbrev encZ : Int → AV := encK IntKind.i64
/-- A fault of a number; one about another. -/
def fB (w : List Nat) (c : Int) : Option Blk := some ⟨.agg 3 [.str (ByteArray.mk (Array.mk (w.map UInt8.ofNat))), .iface 25 (.int .i64 c), .bool false], false, true⟩
def fW (h : Nat) : Option Blk := some ⟨.agg 3 [.str (ByteArray.mk (Array.mk [UInt8.ofNat 97, UInt8.ofNat 100, UInt8.ofNat 100])), .iface 73 (.ptr ⟨h, 0, [], 3⟩), .bool true], false, false⟩
abbrev wA : List Nat := [97, 100, 100]
abbrev wP : List Nat := [112, 105, 110, 115]
abbrev T0 : FuncId → Option PT := fun _ => none
end Go.Proofs.Ytclmndonaljppaa
/-
  What a call leaves as it was: memory apart from some blocks.
-/
namespace Go.X
theorem raw_lt {H : Heap} {i : Nat} {b : Blk} (h : H.raw i = some b) : i < H.length := by
  rcases Nat.lt_or_ge i H.length with hl | hl
  · exact hl
  · simp [Heap.raw, List.getElem?_eq_none hl] at h
theorem blk_lt {H : Heap} {i : Nat} {b : Blk} (h : H.blk i = some b) : i < H.length := raw_lt (raw_blk.1 h).1
theorem raw_set' {H : Heap} {i : Nat} {b : Option Blk} {x : Nat} (hi : i < H.length) : Heap.raw (H.set i b) x = if x = i then b else H.raw x := by
  unfold Heap.raw
  rw [List.getElem?_set]
  by_cases h : x = i
  · subst h
    simp [hi]
  · simp [h, Ne.symm h]
theorem raw_app {H : Heap} {l : List (Option Blk)} {x : Nat} (h : x < H.length) : Heap.raw (H ++ l) x = H.raw x := by
  unfold Heap.raw
  rw [List.getElem?_append_left h]
theorem raw_new {H : Heap} {b : Option Blk} {l : List (Option Blk)} : Heap.raw (H ++ b :: l) H.length = b := by
  simp [Heap.raw]
theorem blk_of_raw {H H' : Heap} {x y : Nat} (h : H'.raw x = H.raw y) : H'.blk x = H.blk y := by rw [Heap.blk_raw, Heap.blk_raw, h]
theorem blk_set {H : Heap} {i : Nat} {b : Blk} (hi : i < H.length) (hb : b.root.isTup = false) : Heap.blk (H.set i (some b)) i = some b := by
  rw [Heap.blk_raw, raw_set' hi, if_pos rfl]
  simp [blkOf, hb]
theorem blk_set_ne {H : Heap} {i x : Nat} {b : Option Blk} (h : x ≠ i) : Heap.blk (H.set i b) x = H.blk x := by
  rcases Nat.lt_or_ge i H.length with hi | hi
  · rw [Heap.blk_raw, raw_set' hi, if_neg h, ← Heap.blk_raw]
  · rw [List.set_eq_of_length_le hi]
theorem blk_app {H : Heap} {l : List (Option Blk)} {x : Nat} (h : x < H.length) : Heap.blk (H ++ l) x = H.blk x := blk_of_raw (raw_app h)
theorem blk_new {H : Heap} {b : Blk} {l : List (Option Blk)} (hb : b.root.isTup = false) : Heap.blk (H ++ some b :: l) H.length = some b := by
  rw [Heap.blk_raw, raw_new]
  simp [blkOf, hb]
/-- All but these blocks is as it was. -/
structure Keep (fp : List Nat) (H H' : Heap) : Prop where
  le : H.length ≤ H'.length
  raw : ∀ x, x < H.length → x ∉ fp → H'.raw x = H.raw x
theorem Keep.blk {fp : List Nat} {H H' : Heap} (h : Keep fp H H') {x : Nat} (hl : x < H.length) (hx : x ∉ fp) : H'.blk x = H.blk x := blk_of_raw (h.raw x hl hx)
theorem Keep.refl (fp : List Nat) (H : Heap) : Keep fp H H := ⟨Nat.le_refl _, fun _ _ _ => rfl⟩
theorem Keep.trans {fp : List Nat} {H H1 H2 : Heap} (h1 : Keep fp H H1) (h2 : Keep fp H1 H2) : Keep fp H H2 :=
  ⟨Nat.le_trans h1.le h2.le, fun x hl hx => (h2.raw x (Nat.lt_of_lt_of_le hl h1.le) hx).trans (h1.raw x hl hx)⟩
theorem Keep.sub {fp fq : List Nat} {H H1 : Heap} (h1 : Keep fp H H1) (hs : ∀ x ∈ fp, x ∈ fq) : Keep fq H H1 :=
  ⟨h1.le, fun x hl hx => h1.raw x hl fun h => hx (hs x h)⟩
/-- New blocks of the first step may be written in the second one. -/
theorem Keep.trans' {fp fq : List Nat} {H H1 H2 : Heap} (h1 : Keep fp H H1) (h2 : Keep fq H1 H2) (hs : ∀ x ∈ fq, x ∈ fp ∨ H.length ≤ x) : Keep fp H H2 :=
  ⟨Nat.le_trans h1.le h2.le, fun x hl hx => (h2.raw x (Nat.lt_of_lt_of_le hl h1.le) fun h => (hs x h).elim hx fun h => by omega).trans (h1.raw x hl hx)⟩
theorem Keep.app (H : Heap) (l : List (Option Blk)) : Keep [] H (H ++ l) := ⟨by simp, fun _ hl _ => raw_app hl⟩
theorem Keep.set (H : Heap) (i : Nat) (b : Option Blk) : Keep [i] H (H.set i b) := ⟨by simp, fun x hl hx => by
  rcases Nat.lt_or_ge i H.length with hi | hi
  · rw [raw_set' hi, if_neg (by simpa using hx)]
  · rw [List.set_eq_of_length_le hi]⟩
theorem wrapI {x : Int} (h1 : -9223372036854775808 ≤ x) (h2 : x < 9223372036854775808) : IntKind.i64.wrap x = x := by
  rw [IntKind.wrap_i64]
  omega
end Go.X
/-
  Pins in memory: a relation.
-/
namespace Go.Proofs.Ytclmndonaljppaa
open Go Go.X
/-- One session's pages. -/
def Slot (H : Heap) (v : AV) (l : List Int) : Prop :=
  (v = .nils ∧ l = []) ∨ ∃ (k : Nat) (tl : List Int), v = .sl ⟨k, 0, [], l.length + tl.length⟩ 1 (l.length + tl.length) 0 l.length ∧ H.blk k = some ⟨.arr 1 (row encZ (l ++ tl)), true, true⟩
structure PinsR (H : Heap) (i j : Nat) (vs : List AV) (ls : List (List Int)) : Prop where
  top : H.blk i = some ⟨.agg 1 [.sl ⟨j, 0, [], ls.length⟩ 1 ls.length 0 ls.length], false, false⟩
  arr : ∃ f, H.blk j = some ⟨.arr 1 vs, true, f⟩
  len : vs.length = ls.length
  slots : ∀ n (h : n < vs.length), Slot H vs[n] (ls.getD n [])
  nodup : (i :: j :: refsL vs).Nodup
  le : ls.length ≤ 4
  cap : ∀ l ∈ ls, l.length ≤ 16
theorem Slot.refs {H : Heap} {v : AV} {l : List Int} (h : Slot H v l) : ∀ x ∈ v.refs, ∃ b, H.blk x = some b := by
  rcases h with ⟨rfl, _⟩ | ⟨k, tl, rfl, hb⟩
  · intro x hx; cases hx
  · intro x hx
    simp only [AV.refs, List.mem_singleton] at hx
    subst hx
    exact ⟨_, hb⟩
theorem Slot.keep {H H' : Heap} {v : AV} {l : List Int} (h : Slot H v l) (hb : ∀ x ∈ v.refs, H'.blk x = H.blk x) : Slot H' v l := by
  rcases h with ⟨rfl, rfl⟩ | ⟨k, tl, rfl, h⟩
  · exact .inl ⟨rfl, rfl⟩
  · exact .inr ⟨k, tl, rfl, (hb k (by simp [AV.refs])).trans h⟩
theorem Slot.one {H : Heap} {v : AV} {l : List Int} (h : Slot H v l) : v.flatLen = 1 ∧ v.isAgg = false := by
  rcases h with ⟨rfl, _⟩ | ⟨k, tl, rfl, _⟩ <;> exact ⟨rfl, rfl⟩
theorem mem_refsL {x : Nat} : ∀ {vs : List AV}, x ∈ refsL vs ↔ ∃ n, ∃ h : n < vs.length, x ∈ vs[n].refs
  | [] => by simp [refsL]
  | v :: vs => by
    rw [refsL, List.mem_append, mem_refsL]
    constructor
    · rintro (h | ⟨n, hn, h⟩)
      · exact ⟨0, by simp, by simpa using h⟩
      · exact ⟨n + 1, by simpa using hn, by simpa using h⟩
    · rintro ⟨n, hn, h⟩
      cases n with
      | zero => exact .inl (by simpa using h)
      | succ n => exact .inr ⟨n, by simpa using hn, by simpa using h⟩
theorem refsL_set {v : AV} : ∀ {vs : List AV} {n : Nat} (h : n < vs.length), vs[n].refs = v.refs → refsL (vs.set n v) = refsL vs
  | [], _, h, _ => by simp at h
  | u :: vs, 0, _, he => by
    have he : u.refs = v.refs := he
    simp only [List.set_cons_zero, refsL, he]
  | u :: vs, n + 1, h, he => by
    simp only [List.set_cons_succ, refsL]
    rw [refsL_set (by simpa using h) (by simpa using he)]
theorem refsL_set_new {v : AV} : ∀ {vs : List AV} {n : Nat} (h : n < vs.length), vs[n].refs = [] → (refsL (vs.set n v)).Perm (v.refs ++ refsL vs)
  | [], _, h, _ => by simp at h
  | u :: vs, 0, _, he => by
    have he : u.refs = [] := he
    simp only [List.set_cons_zero, refsL, he, List.nil_append]
    exact List.Perm.refl _
  | u :: vs, n + 1, h, he => by
    simp only [List.set_cons_succ, refsL]
    refine (List.Perm.append_left _ (refsL_set_new (by simpa using h) (by simpa using he))).trans ?_
    rw [← List.append_assoc, ← List.append_assoc]
    exact List.Perm.append_right _ List.perm_append_comm
variable {H : Heap} {i j : Nat} {vs : List AV} {ls : List (List Int)}
theorem PinsR.lt (h : PinsR H i j vs ls) : ∀ x ∈ i :: j :: refsL vs, x < H.length := by
  intro x hx
  obtain ⟨f, ha⟩ := h.arr
  simp only [List.mem_cons] at hx
  rcases hx with rfl | rfl | hx
  · exact blk_lt h.top
  · exact blk_lt ha
  · obtain ⟨n, hn, hx⟩ := mem_refsL.1 hx
    obtain ⟨b, hb⟩ := (h.slots n hn).refs x hx
    exact blk_lt hb
/-- What lies apart changes nothing. -/
theorem PinsR.keep {H' : Heap} (h : PinsR H i j vs ls) (hb : ∀ x ∈ i :: j :: refsL vs, H'.blk x = H.blk x) : PinsR H' i j vs ls := by
  obtain ⟨f, ha⟩ := h.arr
  refine ⟨(hb i (by simp)).trans h.top, ⟨f, (hb j (by simp)).trans ha⟩, h.len, fun n hn => (h.slots n hn).keep fun x hx => hb x ?_, h.nodup, h.le, h.cap⟩
  simp only [List.mem_cons]
  exact .inr (.inr (mem_refsL.2 ⟨n, hn, hx⟩))
theorem PinsR.keep' {H' : Heap} {fp : List Nat} (h : PinsR H i j vs ls) (hk : Keep fp H H') (hd : ∀ x ∈ i :: j :: refsL vs, x ∉ fp) : PinsR H' i j vs ls :=
  h.keep fun x hx => hk.blk (h.lt x hx) (hd x hx)
theorem row_id (vs : List AV) : row id vs = vs := by simp [row]
theorem okAt_slot {vs : List AV} {n m : Nat} (hn : n < vs.length) (hm : vs.length = m) (h1 : vs[n].flatLen = 1) (h2 : vs[n].isAgg = false) : okAt (.arr 1 vs) ([] ++ [0 + n]) (0 + (0 + n) * 1) m false 1 = true := by
  have h := okAt_row (enc := id) (l := vs) (j := n) (e := 1) (c := 0 + (0 + n) * 1) (g := m) (n := 1) (a := false) (r := []) hn (by omega) (by show 1 * n + coffOf vs[n] [] = _; cases vs[n] <;> simp [coffOf]) (by simp [inAt]) (by simpa [projT] using h1) (by simpa [projT] using h2)
  rw [row_id] at h
  rw [Nat.zero_add n]
  simpa only [Nat.zero_add, List.nil_append] using h
theorem projT_slot {vs : List AV} {n : Nat} (hn : n < vs.length) : projT ([] ++ [0 + n]) (.arr 1 vs) = vs[n] := by
  have h := projT_row (enc := id) (l := vs) (j := n) (e := 1) (r := []) hn
  rw [row_id] at h
  rw [Nat.zero_add n]
  simpa [projT] using h
def OkS (ls : List (List Int)) (s : Int) : Prop := 0 ≤ s ∧ s < ls.length
def OkP (pg : Int) : Prop := 0 ≤ pg ∧ pg < 64
instance {s : Int} : Decidable (OkS ls s) := by unfold OkS; infer_instance
instance {pg : Int} : Decidable (OkP pg) := by unfold OkP; infer_instance
end Go.Proofs.Ytclmndonaljppaa
/- Pins: trees.
-/
namespace Go.Proofs.Ytclmndonaljppaa
open Go Go.X
variable {F : Nat}
abbrev L22 (p : Pl) (n off len : Nat) (i v : Int) : List (Nat × AV) := [(0, .sl p 1 n off len), (1, .int .i64 v), (4, .bad), (5, .bad), (7, .int .i64 len), (8, .int .i64 i), (9, .bad), (16, .bad)]
theorem tree21 (N fuel : Nat) (i : Nat) (H : Heap) (s : Int) (k : AV → Heap → Bool → Prop) :
 (runP (S F) T0 N 30 fuel 21 [.ptr ⟨i, 0, [], 1⟩, .int .i64 s] H k) =
 ((cond (decide (s < 0))
 (k (AV.iface 73 (AV.ptr (Pl.mk (List.length H) 0 [] 3))) (H ++ [some (Blk.mk (AV.agg 3 [AV.str (ByteArray.mk (Array.mk [(UInt8.ofNat 112), (UInt8.ofNat 105), (UInt8.ofNat 110), (UInt8.ofNat 115)])), AV.iface 25 (AV.int IntKind.i64 20), AV.bool false]) false true)]) true)
 (∃ (b0 : Blk),
 And (Heap.blk H i = some b0)
 (cond (okAt b0.1 [0] 0 1 false 1)
 (∃ (p1 : Pl),
 ∃ (n2 : Nat),
 ∃ (off3 : Nat),
 ∃ (len4 : Nat),
 And (projT [0] b0.1 = AV.sl p1 1 n2 off3 len4)
 (cond (decide (s ≥ (↑len4 : Int)))
 (k (AV.iface 73 (AV.ptr (Pl.mk (List.length H) 0 [] 3))) (H ++ [some (Blk.mk (AV.agg 3 [AV.str (ByteArray.mk (Array.mk [(UInt8.ofNat 112), (UInt8.ofNat 105), (UInt8.ofNat 110), (UInt8.ofNat 115)])), AV.iface 25 (AV.int IntKind.i64 20), AV.bool false]) false true)]) true)
 (k AV.nili H true)))
 (False)))) : Prop) := by kernel_rfl
theorem start22 (N fuel : Nat) (p : Pl) (n off len : Nat) (H : Heap) (v : Int) (k : AV → Heap → Bool → Prop) :
 (runP (S F) T0 N 30 fuel 22 [.sl p 1 n off len, .int .i64 v] H k) =
 ((resPS (S F) T0 N 30 fuel 22 2 H.length [] [true, false, true] fuel (St.mk [(0, AV.sl p 1 n off len), (1, AV.int IntKind.i64 v), (4, AV.bad), (5, AV.bad), (7, AV.int IntKind.i64 (↑len : Int)), (8, AV.int IntKind.i64 0), (9, AV.bad), (16, AV.bad)] [] H true) k) : Prop) := by kernel_rfl
theorem start22n (N fuel : Nat) (H : Heap) (v : Int) (k : AV → Heap → Bool → Prop) :
 (runP (S F) T0 N 30 (fuel + 2) 22 [.nils, .int .i64 v] H k) =
 ((k (AV.int IntKind.i64 (-1 : Int)) H true) : Prop) := by kernel_rfl
theorem step22 (N fuel m n0 : Nat) (p : Pl) (n off len : Nat) (H : Heap) (i v : Int) (k : AV → Heap → Bool → Prop) :
 (resPS (S F) T0 N 30 fuel 22 2 n0 [] [true, false, true] (m + 1) ⟨L22 p n off len i v, [], H, true⟩ k) =
 ((cond (decide (i < (↑len : Int)))
 (cond (decide (0 ≤ i))
 (cond (decide (Int.toNat i < len))
 (∃ (b0 : Blk),
 And (Heap.blk H p.1 = some b0)
 (cond (okAt b0.1 (p.3 ++ [off + Int.toNat i]) (p.2 + (off + Int.toNat i) * 1) p.4 false 1)
 (cond (AV.isIntK (projT (p.3 ++ [off + Int.toNat i]) b0.1) IntKind.i64)
 (cond (v == AV.toInt (projT (p.3 ++ [off + Int.toNat i]) b0.1))
 (k (AV.int IntKind.i64 i) H true)
 (resPS (S F) T0 N 30 fuel 22 2 n0 [] [true, false, true] m (St.mk [(0, AV.sl p 1 n off len), (1, AV.int IntKind.i64 v), (4, AV.bad), (5, AV.bad), (7, AV.int IntKind.i64 (↑len : Int)), (8, AV.int IntKind.i64 (IntKind.wrap IntKind.i64 (i + 1))), (9, AV.bad), (16, AV.bad)] [] H true) k))
 (False))
 (False)))
 (False))
 (False))
 (k (AV.int IntKind.i64 (-1 : Int)) H true)) : Prop) := by kernel_rfl
theorem tree27 (N fuel : Nat) (p : Pl) (n off len : Nat) (H : Heap) (k : AV → Heap → Bool → Prop) :
 (runP (S F) T0 N 30 fuel 27 [.sl p 1 n off len] H k) =
 ((∃ (b0 : Blk),
 ∃ (ys1 : List AV),
 And (Heap.blk (H ++ [some (Blk.mk (AV.arr 1 []) true true)]) p.1 = some b0)
 (And (b0.1 = AV.arr 1 ys1)
 (And (p.3 = [])
 (And (p.2 = 0)
 (And (1 = 1)
 (cond (decide (1 * List.length ys1 = p.4))
 (cond (decide (List.length ys1 = n))
 (cond (decide (off + len ≤ n))
 (cond (reflessL (List.take len (List.drop off ys1)) && List.all (List.take len (List.drop off ys1)) fun (u : AV) => AV.flatLen u == 1)
 (∃ (b2 : Blk),
 ∃ (ys3 : List AV),
 And (Heap.blk (H ++ [some (Blk.mk (AV.arr 1 []) true true)]) (List.length H) = some b2)
 (And (b2.1 = AV.arr 1 ys3)
 (And (([] : List Nat) = [])
 (And (0 = 0)
 (And (1 = 1)
 (cond (decide (1 * List.length ys3 = 0) && decide (List.length ys3 = 0) && true)
 (cond (decide (0 + List.length (List.take len (List.drop off ys1)) ≤ 0))
 (∀ (H'4 : Heap),
 (H'4 = List.set (H ++ [some (Blk.mk (AV.arr 1 []) true true)]) (List.length H) (some (Blk.mk (AV.arr 1 (setMany ys3 0 (List.take len (List.drop off ys1)))) b2.2 b2.3))) →
 k (AV.sl (Pl.mk (List.length H) 0 [] 0) 1 0 0 (0 + List.length (List.take len (List.drop off ys1)))) H'4 true)
 (cond (true && b2.2 && decide ((0 + List.length (List.take len (List.drop off ys1))) * 8 ≤ 70368744177664) && decide (0 + List.length (List.take len (List.drop off ys1)) ≤ 70368744177664))
 (∀ (H'5 : Heap),
 (H'5 = List.set (H ++ [some (Blk.mk (AV.arr 1 []) true true)]) (List.length H) (some (Blk.mk (AV.arr 1 (ys3 ++ List.take len (List.drop off ys1))) true b2.3))) →
 k (AV.sl (Pl.mk (List.length H) 0 [] (1 * (0 + List.length (List.take len (List.drop off ys1))))) 1 (0 + List.length (List.take len (List.drop off ys1))) 0 (0 + List.length (List.take len (List.drop off ys1)))) H'5 true)
 (False)))
 (False)))))))
 (False))
 (False))
 (False))
 (False))))))) : Prop) := by kernel_rfl
theorem tree27n (N fuel : Nat) (H : Heap) (k : AV → Heap → Bool → Prop) :
 (runP (S F) T0 N 30 fuel 27 [.nils] H k) =
 ((k AV.nils H true) : Prop) := by kernel_rfl
end Go.Proofs.Ytclmndonaljppaa
/-
  A session's number; where a page stands; a list of one's own.
-/
namespace Go.Proofs.Ytclmndonaljppaa
open Go Go.X
variable {F : Nat}
set_option maxRecDepth 100000
def t21 : PT := fun args H k => ∃ (i j : Nat) (vs : List AV) (ls : List (List Int)) (s : Int), args = [.ptr ⟨i, 0, [], 1⟩, .int .i64 s] ∧ PinsR H i j vs ls ∧
  (OkS ls s → k .nili H true) ∧ (¬ OkS ls s → k (.iface 73 (.ptr ⟨H.length, 0, [], 3⟩)) (H ++ [fB wP 20]) true)
theorem ses21 (N : Nat) (args : List AV) (H : Heap) (k : AV → Heap → Bool → Prop) : t21 args H k → runP (S F) T0 N 30 (S F).fu 21 args H k := by
  rintro ⟨i, j, vs, ls, s, rfl, hR, h1, h2⟩
  rw [tree21]
  by_cases hs : s < 0
  · simp only [hs, decide_true, cond_true]
    exact h2 fun h => by have := h.1; omega
  · simp only [hs, decide_false, cond_false]
    refine ⟨_, hR.top, ?_⟩
    have hok : okAt (AV.agg 1 [.sl ⟨j, 0, [], ls.length⟩ 1 ls.length 0 ls.length]) [0] 0 1 false 1 = true := rfl
    rw [hok, cond_true]
    refine ⟨⟨j, 0, [], ls.length⟩, ls.length, 0, ls.length, rfl, ?_⟩
    by_cases h3 : s ≥ (ls.length : Int)
    · simp only [h3, decide_true, cond_true]
      exact h2 fun h => by have := h.2; omega
    · simp only [h3, decide_false, cond_false]
      exact h1 ⟨by omega, by omega⟩
/-! ### A row of numbers -/
theorem okZ {l : List Int} {n g : Nat} (h : n < l.length) (hg : l.length = g) : okAt (.arr 1 (row encZ l)) ([] ++ [0 + n]) (0 + (0 + n) * 1) g false 1 = true := by
  rw [Nat.zero_add n]
  exact okAt_row (enc := encZ) (r := []) h (by omega) (by simp [coffOf]) (by simp [inAt]) (by simp [projT, encK, AV.flatLen]) (by simp [projT, encK, AV.isAgg])
theorem prZ {l : List Int} {n : Nat} (h : n < l.length) : projT ([] ++ [0 + n]) (.arr 1 (row encZ l)) = .int .i64 l[n] := by
  rw [Nat.zero_add n]
  simpa [projT, encK] using projT_row (enc := encZ) (e := 1) (r := []) h
/-- Where a number stands first. -/
def ixF (x : Int) : List Int → Nat → Int
  | [], _ => -1
  | a :: l, j => if x = a then (j : Int) else ixF x l (j + 1)
theorem loop22 (N fuel n0 g : Nat) (k0 : Nat) (l tl : List Int) (H : Heap) (v : Int) (k : AV → Heap → Bool → Prop) (hb : H.blk k0 = some ⟨.arr 1 (row encZ (l ++ tl)), true, true⟩) (hg : l.length + tl.length = g) (hl : l.length ≤ 1000) :
    ∀ (d j m : Nat), j + d = l.length → d < m → k (.int .i64 (ixF v (l.drop j) j)) H true → resPS (S F) T0 N 30 fuel 22 2 n0 [] [true, false, true] m ⟨L22 ⟨k0, 0, [], g⟩ g 0 l.length j v, [], H, true⟩ k
  | _, _, 0, _, h, _ => by omega
  | 0, j, m + 1, hd, _, hk => by
    rw [step22]
    have hj : ¬ (j : Int) < l.length := by omega
    simp only [hj, decide_false, cond_false]
    rw [List.drop_of_length_le (by omega)] at hk
    exact hk
  | d + 1, j, m + 1, hd, hm, hk => by
    have hj : j < l.length := by omega
    have hj' : (j : Int) < l.length := by omega
    have hjt : j < (l ++ tl).length := by simp; omega
    have hdr : l.drop j = l[j] :: l.drop (j + 1) := by simp
    have hw : IntKind.i64.wrap ((j : Int) + 1) = ((j + 1 : Nat) : Int) := wrapS (by omega)
    rw [step22]
    simp only [hj', decide_true, cond_true, Int.natCast_nonneg, Int.toNat_natCast, hj]
    refine ⟨_, hb, ?_⟩
    rw [okZ hjt (by simpa using hg), prZ hjt]
    simp only [cond_true, AV.isIntK, AV.toInt, hw, beq_self_eq_true]
    have he : (l ++ tl)[j] = l[j] := by simp [hj]
    rw [he]
    rw [hdr, ixF] at hk
    by_cases h : v = l[j]
    · have h2 : (v == l[j]) = true := by simpa using h
      rw [h2, cond_true]
      rwa [if_pos h] at hk
    · have h2 : (v == l[j]) = false := by simpa using h
      rw [h2, cond_false]
      rw [if_neg h] at hk
      exact loop22 N fuel n0 g k0 l tl H v k hb hg hl d (j + 1) m (by omega) (by omega) hk
def t22 : PT := fun args H k => ∃ (v : AV) (l : List Int) (x : Int), args = [v, .int .i64 x] ∧ Slot H v l ∧ l.length ≤ 1000 ∧ k (.int .i64 (ixF x l 0)) H true
theorem ix22 (N : Nat) (args : List AV) (H : Heap) (k : AV → Heap → Bool → Prop) : t22 args H k → runP (S F) T0 N 30 (S F).fu 22 args H k := by
  rintro ⟨v, l, x, rfl, hS, hl, hk⟩
  rcases hS with ⟨rfl, rfl⟩ | ⟨k0, tl, rfl, hb⟩
  · rw [S_fu, show F + 5000 = (F + 4998) + 2 by omega, start22n]
    exact hk
  · rw [start22]
    exact loop22 N _ H.length _ k0 l tl H x k hb rfl hl l.length 0 (S F).fu (by omega) (by rw [S_fu]; omega) hk
/-! ### A list of one's own -/
theorem row_take {l tl : List Int} : List.take l.length (List.drop 0 (row encZ (l ++ tl))) = row encZ l := by simp [row]
def t27 : PT := fun args H k => ∃ (v : AV) (l : List Int), args = [v] ∧ Slot H v l ∧ l.length ≤ 1000 ∧ (l = [] → k .nils H true) ∧ ∀ (k0 : Nat) (H' : Heap), H.length ≤ k0 → H'.blk k0 = some ⟨.arr 1 (row encZ l), true, true⟩ → Keep [] H H' → k (.sl ⟨k0, 0, [], l.length⟩ 1 l.length 0 l.length) H' true
theorem cl27 (N : Nat) (args : List AV) (H : Heap) (k : AV → Heap → Bool → Prop) : t27 args H k → runP (S F) T0 N 30 (S F).fu 27 args H k := by
  rintro ⟨v, l, rfl, hS, hl, hk0, hk⟩
  rcases hS with ⟨rfl, rfl⟩ | ⟨k0, tl, rfl, hb⟩
  · rw [tree27n]
    exact hk0 rfl
  · rw [tree27]
    have hlt := blk_lt hb
    refine ⟨_, _, (blk_app hlt).trans hb, rfl, rfl, rfl, rfl, ?_⟩
    have e1 : (row encZ (l ++ tl)).length = l.length + tl.length := by simp [row]
    have e2 : 0 + l.length ≤ l.length + tl.length := by omega
    simp only [e1, Nat.one_mul, decide_true, cond_true, e2]
    rw [row_take]
    have e3 : (reflessL (row encZ l) && (row encZ l).all fun u => u.flatLen == 1) = true := by
      rw [Bool.and_eq_true]
      exact ⟨reflessL_row (fun x => rfl) l, all_row (fun x => rfl) l⟩
    rw [e3, cond_true]
    refine ⟨_, _, blk_new rfl, rfl, trivial, trivial, trivial, ?_⟩
    have hlen : (H ++ [some (Blk.mk (AV.arr 1 []) true true)]).length = H.length + 1 := by simp
    have e4 : (row encZ l).length = l.length := row_length
    simp only [List.length_nil, decide_true, Bool.and_self, cond_true, Nat.zero_add, e4, Nat.le_zero]
    by_cases h0 : l.length = 0
    · obtain rfl : l = [] := List.eq_nil_of_length_eq_zero h0
      simp only [List.length_nil, decide_true, cond_true]
      rintro H' rfl
      refine hk H.length _ (Nat.le_refl _) ?_ ((Keep.app H _).trans' (Keep.set _ _ _) (by simp))
      rw [blk_set (by omega) rfl]
      rfl
    · have e5 : l.length * 8 ≤ 70368744177664 := by omega
      have e6 : l.length ≤ 70368744177664 := by omega
      simp only [h0, decide_false, cond_false, e5, e6, decide_true, Bool.and_self, cond_true]
      rintro H' rfl
      have h7 := hk H.length ((H ++ [some (Blk.mk (AV.arr 1 []) true true)]).set H.length (some ⟨.arr 1 (row encZ l), true, true⟩)) (Nat.le_refl _) (by rw [blk_set (by omega) rfl]) ((Keep.app H _).trans' (Keep.set _ _ _) (by simp))
      simpa using h7
end Go.Proofs.Ytclmndonaljppaa
/- Pins: why one more cannot be; another list: trees.
-/
namespace Go.Proofs.Ytclmndonaljppaa
open Go Go.X
variable {F : Nat}
abbrev T21 : FuncId → Option PT := fun f => if f = 21 then some t21 else if f = 27 then some t27 else none
theorem tree25 (N fuel : Nat) (i : Nat) (H : Heap) (s pg : Int) (k : AV → Heap → Bool → Prop) :
 (runP (S F) T21 N 30 fuel 25 [.ptr ⟨i, 0, [], 1⟩, .int .i64 s, .int .i64 pg] H k) =
 ((∃ (i0 : Nat),
 ∃ (j1 : Nat),
 ∃ (vs2 : List AV),
 ∃ (ls3 : List (List Int)),
 ∃ (s4 : Int),
 And ([AV.ptr (Pl.mk i 0 [] 1), AV.int IntKind.i64 s] = [AV.ptr (Pl.mk i0 0 [] 1), AV.int IntKind.i64 s4])
 (And (PinsR H i0 j1 vs2 ls3)
 (And ((OkS ls3 s4) →
 cond (decide (pg < 0))
 (k (AV.iface 73 (AV.ptr (Pl.mk (List.length H) 0 [] 3))) (H ++ [some (Blk.mk (AV.agg 3 [AV.str (ByteArray.mk (Array.mk [(UInt8.ofNat 97), (UInt8.ofNat 100), (UInt8.ofNat 100)])), AV.iface 25 (AV.int IntKind.i64 16), AV.bool false]) false true)]) true)
 (cond (decide (pg ≥ 64))
 (k (AV.iface 73 (AV.ptr (Pl.mk (List.length H) 0 [] 3))) (H ++ [some (Blk.mk (AV.agg 3 [AV.str (ByteArray.mk (Array.mk [(UInt8.ofNat 97), (UInt8.ofNat 100), (UInt8.ofNat 100)])), AV.iface 25 (AV.int IntKind.i64 16), AV.bool false]) false true)]) true)
 (∃ (b5 : Blk),
 And (Heap.blk H i = some b5)
 (cond (okAt b5.1 [0] 0 1 false 1)
 (∃ (p6 : Pl),
 ∃ (n7 : Nat),
 ∃ (off8 : Nat),
 ∃ (len9 : Nat),
 And (projT [0] b5.1 = AV.sl p6 1 n7 off8 len9)
 (cond (decide (0 ≤ s))
 (cond (decide (Int.toNat s < len9))
 (∃ (b10 : Blk),
 And (Heap.blk H p6.1 = some b10)
 (cond (okAt b10.1 (p6.3 ++ [off8 + Int.toNat s]) (p6.2 + (off8 + Int.toNat s) * 1) p6.4 false 1)
 (And ((projT (p6.3 ++ [off8 + Int.toNat s]) b10.1 = AV.nils) →
 k AV.nili H true)
 (And (∀ (p11 : Pl),
 ∀ (n12 : Nat),
 ∀ (off13 : Nat),
 ∀ (len14 : Nat),
 (projT (p6.3 ++ [off8 + Int.toNat s]) b10.1 = AV.sl p11 1 n12 off13 len14) →
 cond (decide ((↑len14 : Int) ≥ 16))
 (k (AV.iface 73 (AV.ptr (Pl.mk (List.length H) 0 [] 3))) (H ++ [some (Blk.mk (AV.agg 3 [AV.str (ByteArray.mk (Array.mk [(UInt8.ofNat 97), (UInt8.ofNat 100), (UInt8.ofNat 100)])), AV.iface 25 (AV.int IntKind.i64 19), AV.bool false]) false true)]) true)
 (k AV.nili H true))
 (projT (p6.3 ++ [off8 + Int.toNat s]) b10.1 = AV.nils ∨ ∃ (p : Pl), ∃ (n : Nat), ∃ (off : Nat), ∃ (len : Nat), projT (p6.3 ++ [off8 + Int.toNat s]) b10.1 = AV.sl p 1 n off len)))
 (False)))
 (False))
 (False)))
 (False)))))
 ((¬OkS ls3 s4) →
 k (AV.iface 73 (AV.ptr (Pl.mk (List.length (H ++ [fB [112, 105, 110, 115] 20])) 0 [] 3))) (H ++ [fB [112, 105, 110, 115] 20] ++ [some (Blk.mk (AV.agg 3 [AV.str (ByteArray.mk (Array.mk [(UInt8.ofNat 97), (UInt8.ofNat 100), (UInt8.ofNat 100)])), AV.iface 73 (AV.ptr (Pl.mk (List.length H) 0 [] 3)), AV.bool true]) false false)]) true)))) : Prop) := by kernel_rfl
theorem tree15 (N fuel : Nat) (i : Nat) (H : Heap) (s : Int) (k : AV → Heap → Bool → Prop) :
 (runP (S F) T21 N 30 fuel 15 [.ptr ⟨i, 0, [], 1⟩, .int .i64 s] H k) =
 ((∃ (i0 : Nat),
 ∃ (j1 : Nat),
 ∃ (vs2 : List AV),
 ∃ (ls3 : List (List Int)),
 ∃ (s4 : Int),
 And ([AV.ptr (Pl.mk i 0 [] 1), AV.int IntKind.i64 s] = [AV.ptr (Pl.mk i0 0 [] 1), AV.int IntKind.i64 s4])
 (And (PinsR H i0 j1 vs2 ls3)
 (And ((OkS ls3 s4) →
 ∃ (b5 : Blk),
 And (Heap.blk H i = some b5)
 (cond (okAt b5.1 [0] 0 1 false 1)
 (∃ (p6 : Pl),
 ∃ (n7 : Nat),
 ∃ (off8 : Nat),
 ∃ (len9 : Nat),
 And (projT [0] b5.1 = AV.sl p6 1 n7 off8 len9)
 (cond (decide (0 ≤ s))
 (cond (decide (Int.toNat s < len9))
 (∃ (b10 : Blk),
 And (Heap.blk H p6.1 = some b10)
 (cond (okAt b10.1 (p6.3 ++ [off8 + Int.toNat s]) (p6.2 + (off8 + Int.toNat s) * 1) p6.4 false 1)
 (And ((projT (p6.3 ++ [off8 + Int.toNat s]) b10.1 = AV.nils) →
 ∃ (v11 : AV),
 ∃ (l12 : List Int),
 And ([AV.nils] = [v11])
 (And (Slot H v11 l12)
 (And (List.length l12 ≤ 1000)
 (And ((l12 = []) →
 k AV.nils H true)
 (∀ (k013 : Nat),
 ∀ (H'14 : Heap),
 (List.length H ≤ k013) →
 (Heap.blk H'14 k013 = some (Blk.mk (AV.arr 1 (row encZ l12)) true true)) →
 (Keep [] H H'14) →
 k (AV.sl (Pl.mk k013 0 [] (List.length l12)) 1 (List.length l12) 0 (List.length l12)) H'14 true)))))
 (And (∀ (p15 : Pl),
 ∀ (n16 : Nat),
 ∀ (off17 : Nat),
 ∀ (len18 : Nat),
 (projT (p6.3 ++ [off8 + Int.toNat s]) b10.1 = AV.sl p15 1 n16 off17 len18) →
 ∃ (v19 : AV),
 ∃ (l20 : List Int),
 And ([AV.sl p15 1 n16 off17 len18] = [v19])
 (And (Slot H v19 l20)
 (And (List.length l20 ≤ 1000)
 (And ((l20 = []) →
 k AV.nils H true)
 (∀ (k021 : Nat),
 ∀ (H'22 : Heap),
 (List.length H ≤ k021) →
 (Heap.blk H'22 k021 = some (Blk.mk (AV.arr 1 (row encZ l20)) true true)) →
 (Keep [] H H'22) →
 k (AV.sl (Pl.mk k021 0 [] (List.length l20)) 1 (List.length l20) 0 (List.length l20)) H'22 true)))))
 (projT (p6.3 ++ [off8 + Int.toNat s]) b10.1 = AV.nils ∨ ∃ (p : Pl), ∃ (n : Nat), ∃ (off : Nat), ∃ (len : Nat), projT (p6.3 ++ [off8 + Int.toNat s]) b10.1 = AV.sl p 1 n off len)))
 (False)))
 (False))
 (False)))
 (False)))
 ((¬OkS ls3 s4) →
 k AV.nils (H ++ [fB [112, 105, 110, 115] 20]) true)))) : Prop) := by kernel_rfl
end Go.Proofs.Ytclmndonaljppaa
/-
  Why a session cannot have one more of a page; a session's pages.
-/
namespace Go.Proofs.Ytclmndonaljppaa
open Go Go.X
variable {F : Nat}
set_option maxRecDepth 100000
/-- What stands in a session's slot. -/
theorem PinsR.slot {H : Heap} {i j : Nat} {vs : List AV} {ls : List (List Int)} (hR : PinsR H i j vs ls) {s : Int} (hs : OkS ls s) :
    ∃ (hv : s.toNat < vs.length) (hn : s.toNat < ls.length), ls.getD s.toNat [] = ls[s.toNat] ∧ Slot H vs[s.toNat] ls[s.toNat] ∧ ls[s.toNat].length ≤ 16 ∧
      okAt (.arr 1 vs) ([] ++ [0 + s.toNat]) (0 + (0 + s.toNat) * 1) ls.length false 1 = true ∧ projT ([] ++ [0 + s.toNat]) (.arr 1 vs) = vs[s.toNat] := by
  have hn : s.toNat < ls.length := by have h5 := hs.1; have h6 := hs.2; omega
  have hv : s.toNat < vs.length := by rw [hR.len]; exact hn
  have hg : ls.getD s.toNat [] = ls[s.toNat] := by simp [List.getD, hn]
  have hsl := hR.slots s.toNat hv
  rw [hg] at hsl
  exact ⟨hv, hn, hg, hsl, hR.cap _ (List.getElem_mem hn), okAt_slot hv hR.len hsl.one.1 hsl.one.2, projT_slot hv⟩
theorem okTop {j n : Nat} : okAt (AV.agg 1 [.sl ⟨j, 0, [], n⟩ 1 n 0 n]) [0] 0 1 false 1 = true := rfl
def t25 : PT := fun args H k => ∃ (i j : Nat) (vs : List AV) (ls : List (List Int)) (s pg : Int), args = [.ptr ⟨i, 0, [], 1⟩, .int .i64 s, .int .i64 pg] ∧ PinsR H i j vs ls ∧
  (¬ OkS ls s → k (.iface 73 (.ptr ⟨H.length + 1, 0, [], 3⟩)) (H ++ [fB wP 20, fW H.length]) true) ∧
  (OkS ls s → ¬ OkP pg → k (.iface 73 (.ptr ⟨H.length, 0, [], 3⟩)) (H ++ [fB wA 16]) true) ∧
  (OkS ls s → OkP pg → 16 ≤ (ls.getD s.toNat []).length → k (.iface 73 (.ptr ⟨H.length, 0, [], 3⟩)) (H ++ [fB wA 19]) true) ∧
  (OkS ls s → OkP pg → (ls.getD s.toNat []).length < 16 → k .nili H true)
theorem add25 (N : Nat) (args : List AV) (H : Heap) (k : AV → Heap → Bool → Prop) : t25 args H k → runP (S F) T21 N 30 (S F).fu 25 args H k := by
  rintro ⟨i, j, vs, ls, s, pg, rfl, hR, h1, h2, h3, h4⟩
  rw [tree25]
  refine ⟨i, j, vs, ls, s, rfl, hR, fun hs => ?_, fun hs => ?_⟩
  · by_cases p1 : pg < 0
    · simp only [p1, decide_true, cond_true]
      exact h2 hs fun h => by have := h.1; omega
    simp only [p1, decide_false, cond_false]
    by_cases p2 : pg ≥ 64
    · simp only [p2, decide_true, cond_true]
      exact h2 hs fun h => by have := h.2; omega
    simp only [p2, decide_false, cond_false]
    have hp : OkP pg := ⟨by omega, by omega⟩
    obtain ⟨hv, hn, hg, hsl, hcap, hok, hpr⟩ := hR.slot hs
    obtain ⟨f, ha⟩ := hR.arr
    refine ⟨_, hR.top, ?_⟩
    rw [okTop, cond_true]
    refine ⟨⟨j, 0, [], ls.length⟩, ls.length, 0, ls.length, rfl, ?_⟩
    simp only [hs.1, hn, decide_true, cond_true]
    refine ⟨_, ha, ?_⟩
    rw [hok, cond_true, hpr]
    rw [hg] at h3 h4
    refine ⟨fun he => ?_, fun p n off len he => ?_, ?_⟩
    · rcases hsl with ⟨_, hl⟩ | ⟨_, _, hv', _⟩
      · exact h4 hs hp (by rw [hl]; simp)
      · rw [hv'] at he; cases he
    · rcases hsl with ⟨hv', _⟩ | ⟨k0, tl, hv', _⟩
      · rw [hv'] at he; cases he
      · rw [hv'] at he
        injection he with e1 e2 e3 e4 e5
        subst e5
        by_cases p3 : ((ls[s.toNat].length : Nat) : Int) ≥ 16
        · simp only [p3, decide_true, cond_true]
          exact h3 hs hp (by omega)
        · simp only [p3, decide_false, cond_false]
          exact h4 hs hp (by omega)
    · rcases hsl with ⟨hv', _⟩ | ⟨k0, tl, hv', _⟩
      · exact .inl hv'
      · exact .inr ⟨_, _, _, _, hv'⟩
  · have hk := h1 hs
    have e1 : H ++ [fB wP 20, fW H.length] = H ++ [fB wP 20] ++ [fW H.length] := by simp
    have e2 : (H ++ [fB wP 20]).length = H.length + 1 := by simp
    rw [e1, ← e2] at hk
    exact hk
/-- A session's pages: a list of one's own, or none. -/
def t15 : PT := fun args H k => ∃ (i j : Nat) (vs : List AV) (ls : List (List Int)) (s : Int), args = [.ptr ⟨i, 0, [], 1⟩, .int .i64 s] ∧ PinsR H i j vs ls ∧
  ((¬ OkS ls s ∨ ls.getD s.toNat [] = []) → ∀ H', Keep [] H H' → k .nils H' true) ∧
  (OkS ls s → ∀ (k0 : Nat) (H' : Heap), H.length ≤ k0 → H'.blk k0 = some ⟨.arr 1 (row encZ (ls.getD s.toNat [])), true, true⟩ → Keep [] H H' →
    k (.sl ⟨k0, 0, [], (ls.getD s.toNat []).length⟩ 1 (ls.getD s.toNat []).length 0 (ls.getD s.toNat []).length) H' true)
theorem of15 (N : Nat) (args : List AV) (H : Heap) (k : AV → Heap → Bool → Prop) : t15 args H k → runP (S F) T21 N 30 (S F).fu 15 args H k := by
  rintro ⟨i, j, vs, ls, s, rfl, hR, h1, h2⟩
  rw [tree15]
  refine ⟨i, j, vs, ls, s, rfl, hR, fun hs => ?_, fun hs => ?_⟩
  · obtain ⟨hv, hn, hg, hsl, hcap, hok, hpr⟩ := hR.slot hs
    obtain ⟨f, ha⟩ := hR.arr
    refine ⟨_, hR.top, ?_⟩
    rw [okTop, cond_true]
    refine ⟨⟨j, 0, [], ls.length⟩, ls.length, 0, ls.length, rfl, ?_⟩
    simp only [hs.1, hn, decide_true, cond_true]
    refine ⟨_, ha, ?_⟩
    rw [hok, cond_true, hpr]
    rw [hg] at h1 h2
    refine ⟨fun he => ?_, fun p n off len he => ?_, ?_⟩
    · exact ⟨.nils, _, rfl, he ▸ hsl, by omega, fun h0 => h1 (.inr h0) H (Keep.refl _ _), h2 hs⟩
    · exact ⟨_, _, rfl, he ▸ hsl, by omega, fun h0 => h1 (.inr h0) H (Keep.refl _ _), h2 hs⟩
    · rcases hsl with ⟨hv', _⟩ | ⟨k0, tl, hv', _⟩
      · exact .inl hv'
      · exact .inr ⟨_, _, _, _, hv'⟩
  · exact h1 (.inl hs) _ (Keep.app _ _)
end Go.Proofs.Ytclmndonaljppaa
/-
  An error's number.
-/
namespace Go.Proofs.Ytclmndonaljppaa
open Go Go.X
variable {F : Nat}
set_option maxRecDepth 100000
abbrev E0 : AV := .iface 73 (.ptr ⟨0, 0, [], 3⟩)
/-- An error, on its own piece of memory, and its number. -/
inductive ErrP : List AV → Heap → Int → Prop
  | none : ErrP [.nili] [] 0
  | page : ErrP [E0] [fB wA 16] 16
  | pin : ErrP [E0] [fB wA 19] 19
  | sess : ErrP [E0] [fB wP 20] 20
  | sess' : ErrP [E0] [fW 1, fB wP 20] 20
def t20 : PT := fun args H k => match args with
  | [.nili] => H = [] ∧ k (.int .i64 0) [] false
  | args => ∃ c : Nat, ErrP args H (Int.ofNat (c + 1)) ∧ k (.int .i64 (Int.ofNat (c + 1))) H false
theorem t20_err {args : List AV} {H : Heap} {k : AV → Heap → Bool → Prop} (h : t20 args H k) : ∃ c : Int, ErrP args H c ∧ k (.int .i64 c) H false := by
  unfold t20 at h
  split at h
  · obtain ⟨rfl, h⟩ := h
    exact ⟨0, .none, h⟩
  · obtain ⟨c, h1, h2⟩ := h
    exact ⟨_, h1, h2⟩
theorem num20 (N : Nat) (args : List AV) (H : Heap) (k : AV → Heap → Bool → Prop) : t20 args H k → runP (S F) T0 N 90 (S F).fu 20 args H k := by
  intro h
  obtain ⟨c, h, hk⟩ := t20_err h
  cases h with
  | none => exact (show runP (S F) T0 N 90 (F + 5000) 20 [.nili] [] k = k (.int .i64 0) [] false by kernel_rfl) ▸ hk
  | page => exact (show runP (S F) T0 N 90 (F + 5000) 20 [E0] [fB wA 16] k = k (.int .i64 16) [fB wA 16] false by kernel_rfl) ▸ hk
  | pin => exact (show runP (S F) T0 N 90 (F + 5000) 20 [E0] [fB wA 19] k = k (.int .i64 19) [fB wA 19] false by kernel_rfl) ▸ hk
  | sess => exact (show runP (S F) T0 N 90 (F + 5000) 20 [E0] [fB wP 20] k = k (.int .i64 20) [fB wP 20] false by kernel_rfl) ▸ hk
  | sess' => exact (show runP (S F) T0 N 90 (F + 5000) 20 [E0] [fW 1, fB wP 20] k = k (.int .i64 20) [fW 1, fB wP 20] false by kernel_rfl) ▸ hk
/-- Sorted. -/
noncomputable def sortI (l : List Int) : List Int := l.mergeSort fun x y => decide (x ≤ y)
def t26 : PT := fun args H k => ∃ (p n l : Nat) (xs : List Int), args = [.sl ⟨p, 0, [], n⟩ 1 n 0 l] ∧ H.blk p = some ⟨.arr 1 (row encZ xs), true, true⟩ ∧ xs.length = n ∧ 0 < l ∧ l ≤ n ∧ l ≤ 1000 ∧
  ∀ H', H' = H.set p (some ⟨.arr 1 (row encZ (sortI (xs.take l) ++ xs.drop l)), true, true⟩) → k (.tuple []) H' false
/-- Without one of the elements. -/
def t23 : PT := fun args H k => ∃ (k0 : Nat) (u w tl : List Int) (x : Int), args = [.sl ⟨k0, 0, [], (u ++ x :: w).length + tl.length⟩ 1 ((u ++ x :: w).length + tl.length) 0 (u ++ x :: w).length, .int .i64 u.length, .int .i64 (IntKind.i64.wrap ((u.length : Int) + 1))] ∧
  H.blk k0 = some ⟨.arr 1 (row encZ (u ++ x :: w ++ tl)), true, true⟩ ∧ u.length ≤ 1000 ∧
  ∀ H', H' = H.set k0 (some ⟨.arr 1 (row encZ (u ++ w ++ 0 :: tl)), true, true⟩) → k (.sl ⟨k0, 0, [], (u ++ x :: w).length + tl.length⟩ 1 ((u ++ x :: w).length + tl.length) 0 (u.length + w.length)) H' true
end Go.Proofs.Ytclmndonaljppaa
