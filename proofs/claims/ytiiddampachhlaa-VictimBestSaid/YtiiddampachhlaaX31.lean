/-
  What came in, opened: from the form's reading of an argument ('DataW.trod') an abstract value that stands for it, well typed.
-/
import Derived.Test.YtiiddampachhlaaX30
import Derived.OpenShut
import Derived.ChangeOld
namespace Go.X

def all2 {α β : Type} (R : α → β → Prop) : List α → List β → Prop
  | [], [] => True
  | a :: r, b :: s => R a b ∧ all2 R r s
  | _, _ => False

theorem all2_nil {α β : Type} {R : α → β → Prop} {l : List β} (h : all2 R [] l) : l = [] := by
  cases l with
  | nil => rfl
  | cons b s => exact h.elim

theorem all2_cons {α β : Type} {R : α → β → Prop} {a : α} {r : List α} {l : List β} (h : all2 R (a :: r) l) : ∃ b s, l = b :: s ∧ R a b ∧ all2 R r s := by
  cases l with
  | nil => exact h.elim
  | cons b s => exact ⟨b, s, rfl, h.1, h.2⟩

def fitB (P : Program) : Nat → List Field → Nat → Bool
  | o, [], n => o == n
  | o, f :: r, n => f.offset == o && fitB P (o + P.cellsOf f.type) r n

/-- Types whose values hold no references but slices of such. -/
def plainT (P : Program) : Nat → TypeId → Bool
  | 0, _ => false
  | k + 1, t => match P.underlying t with
    | some .bool | some (.int _) | some .string => P.cellsOf t == 1
    | some (.slice e) => P.cellsOf t == 1 && decide (0 < P.cellsOf e) && plainT P k e
    | some (.struct fs) => fitB P 0 fs.toList (P.cellsOf t) && fs.toList.all fun f => plainT P k f.type
    | some (.array n e) => P.cellsOf t == n * P.cellsOf e && plainT P k e
    | _ => false

/-- Well typed abstract values. -/
def WT (P : Program) : Nat → TypeId → AV → Prop
  | 0, _, _ => False
  | k + 1, t, v => match P.underlying t with
    | some .bool => ∃ b, v = .bool b
    | some (.int i) => ∃ n, v = .int i n ∧ i.min ≤ n ∧ n ≤ i.max
    | some .string => ∃ s, v = .str s ∧ s.size ≤ maxLen
    | some (.slice e) => v = .nils ∨ ∃ xs, v = .isl (P.cellsOf e) xs ∧ xs.length ≤ maxLen ∧ ∀ x ∈ xs, WT P k e x
    | some (.struct fs) => ∃ ps, v = .agg (P.cellsOf t) ps ∧ all2 (fun (f : Field) p => WT P k f.type p) fs.toList ps
    | some (.array n e) => ∃ xs, v = .arr (P.cellsOf e) xs ∧ xs.length = n ∧ ∀ x ∈ xs, WT P k e x
    | _ => False

theorem WT.bool {P : Program} {k : Nat} {t : TypeId} {v : AV} (hu : P.underlying t = some .bool) (h : WT P (k + 1) t v) : ∃ b, v = .bool b := by
  unfold WT at h
  rw [hu] at h
  exact h

theorem WT.int {P : Program} {k : Nat} {t : TypeId} {v : AV} {i : IntKind} (hu : P.underlying t = some (.int i)) (h : WT P (k + 1) t v) : ∃ n, v = .int i n ∧ i.min ≤ n ∧ n ≤ i.max := by
  unfold WT at h
  rw [hu] at h
  exact h

theorem WT.slice {P : Program} {k sz : Nat} {t e : TypeId} {v : AV} (hu : P.underlying t = some (.slice e)) (hc : P.cellsOf e = sz) (h : WT P (k + 1) t v) :
    v = .nils ∨ ∃ xs, v = .isl sz xs ∧ xs.length ≤ maxLen ∧ ∀ x ∈ xs, WT P k e x := by
  unfold WT at h
  rw [hu] at h
  subst hc
  exact h

theorem WT.struct {P : Program} {k n : Nat} {t : TypeId} {fs : Array Field} {v : AV} (hu : P.underlying t = some (.struct fs)) (hc : P.cellsOf t = n) (h : WT P (k + 1) t v) :
    ∃ ps, v = .agg n ps ∧ all2 (fun (f : Field) p => WT P k f.type p) fs.toList ps := by
  unfold WT at h
  rw [hu] at h
  subst hc
  exact h

theorem WT.array {P : Program} {k n sz : Nat} {t e : TypeId} {v : AV} (hu : P.underlying t = some (.array n e)) (hc : P.cellsOf e = sz) (h : WT P (k + 1) t v) :
    ∃ xs, v = .arr sz xs ∧ xs.length = n ∧ ∀ x ∈ xs, WT P k e x := by
  unfold WT at h
  rw [hu] at h
  subst hc
  exact h

section
variable {P : Program} {W : World}

def isAggT (P : Program) (t : TypeId) : Bool := match P.underlying t with
  | some (.struct _) | some (.array _ _) => true
  | _ => false

structure Good (P : Program) (W : World) (k : Nat) (t : TypeId) (v : AV) (cs : List Value) : Prop where
  wt : WT P k t v
  fr : FR (Env.start W) [v] cs
  rl : v.refless = true
  len : v.flatLen = P.cellsOf t
  agg : v.isAgg = isAggT P t
  plain : v.plain = true

theorem Good.clen {k : Nat} {t : TypeId} {v : AV} {cs : List Value} (h : Good P W k t v cs) : cs.length = P.cellsOf t := by
  rw [h.fr.length, AV.flatLen_one, h.len]

theorem mapM_each {α β : Type} {f : α → Option β} : ∀ {l : List α} {ys : List β}, l.mapM f = some ys → ∀ x ∈ l, ∃ y, f x = some y
  | [], _, _, x, hx => by simp at hx
  | a :: l, ys, h, x, hx => by
    simp only [List.mapM_cons, Option.bind_eq_bind, Option.bind_eq_some_iff] at h
    obtain ⟨b, hb, r, hr, _⟩ := h
    rcases List.mem_cons.1 hx with rfl | hx
    · exact ⟨b, hb⟩
    · exact mapM_each hr x hx

theorem cells_spec {base n : Nat} {a : Addr} {l : List Value} (h : W.cells? base a n = some l) : l.length = n ∧ ∀ j c, l[j]? = some c → W.cell? (a.add j) = some c := by
  unfold World.cells? at h
  split at h
  · have key : ∀ n (l : List Value), ((List.range n).mapM fun i => W.cell? (a.add i)) = some l → l.length = n ∧ ∀ j c, l[j]? = some c → W.cell? (a.add j) = some c := by
      intro n
      induction n with
      | zero =>
        intro l h
        simp at h
        subst h
        simp
      | succ n ih =>
        intro l h
        rw [List.range_succ, List.mapM_append] at h
        simp only [Option.bind_eq_bind, Option.bind_eq_some_iff, List.mapM_cons, List.mapM_nil, Option.pure_def, Option.some.injEq] at h
        obtain ⟨l1, h1, l2, ⟨c, hc, l3, h3, hl2⟩, hl⟩ := h
        subst h3 hl2
        subst hl
        obtain ⟨k1, k2⟩ := ih l1 h1
        refine ⟨by simp [k1], fun j c' hj => ?_⟩
        rcases Nat.lt_or_ge j n with hlt | hge
        · rw [List.getElem?_append_left (by omega)] at hj
          exact k2 j c' hj
        · rw [List.getElem?_append_right (by omega)] at hj
          have : j = n := by
            rcases Nat.lt_or_ge (j - l1.length) 1 with h | h
            · omega
            · rw [List.getElem?_eq_none (by simpa using h)] at hj
              simp at hj
          subst this
          simp [k1] at hj
          rw [← hj]
          exact hc
    exact key n l h
  · simp at h

theorem cell_spot {a : Addr} {c : Value} (h : W.cell? a = some c) : a.spot = none := by
  unfold World.cell? at h
  split at h
  · split at h
    · simp at h
    · rename_i h1
      simpa using h1
  · simp at h

theorem add_off (a : Addr) (n : Nat) (h : (a.add n).spot = none) : a.add n = ⟨a.block, a.off + n, none⟩ := by
  unfold Addr.add at h ⊢
  split
  · rename_i hn
    subst hn
    rw [if_pos rfl] at h
    obtain ⟨b, o, s⟩ := a
    simp only at h ⊢
    subst h
    rfl
  · rfl

theorem cell_at {a : Addr} {m j : Nat} {c : Value} (h : W.cell? ((a.add m).add j) = some c) : W.cell? ⟨a.block, a.off + (m + j), none⟩ = some c ∧ (m = 0 → j = 0 → a.spot = none) := by
  have hs := cell_spot h
  have h1 := add_off (a.add m) j hs
  have h2 : (a.add m).block = a.block ∧ (a.add m).off = a.off + m := by
    unfold Addr.add
    split
    · rename_i hm
      simp [hm]
    · simp
  rw [h1, h2.1, h2.2] at h
  refine ⟨by rw [← Nat.add_assoc]; exact h, fun hm hj => ?_⟩
  subst hm hj
  simpa [Addr.add] using hs

/-- Elements that lie side by side. -/
theorem side_by_side {k n : Nat} {e : TypeId} {a : Addr} (hsz : 0 < P.cellsOf e)
    (h : ∀ i, i < n → ∃ v c, Good P W k e v c ∧ ∀ j x, c[j]? = some x → W.cell? ((a.add (i * P.cellsOf e)).add j) = some x) :
    ∃ xs c, xs.length = n ∧ FR (Env.start W) xs c ∧ (∀ x ∈ xs, WT P k e x ∧ x.refless = true ∧ x.flatLen = P.cellsOf e) ∧ (∀ j x, c[j]? = some x → W.cell? ⟨a.block, a.off + j, none⟩ = some x) ∧ (a.spot = none ∨ xs = []) := by
  induction n with
  | zero => exact ⟨[], [], rfl, .nil, by simp, by simp, .inr rfl⟩
  | succ n ih =>
    obtain ⟨xs, c, hl, hf, hx, hc, _⟩ := ih (fun i hi => h i (by omega))
    obtain ⟨v, d, hv, hd⟩ := h n (by omega)
    have hcl : c.length = n * P.cellsOf e := by
      rw [hf.length, sumLen_same (fun x h => (hx x h).2.2), hl, Nat.mul_comm]
    refine ⟨xs ++ [v], c ++ d, by simp [hl], FR.append hf hv.fr, fun x hm => ?_, fun j x hj => ?_, .inl ?_⟩
    · rcases List.mem_append.1 hm with hm | hm
      · exact hx x hm
      · obtain rfl := List.mem_singleton.1 hm
        exact ⟨hv.wt, hv.rl, hv.len⟩
    · rcases Nat.lt_or_ge j c.length with hlt | hge
      · rw [List.getElem?_append_left hlt] at hj
        exact hc j x hj
      · rw [List.getElem?_append_right hge] at hj
        have := (cell_at (hd _ _ hj)).1
        rwa [show n * P.cellsOf e + (j - c.length) = j by omega] at this
    · rcases n with _ | n
      · have hdl := hv.clen
        cases d with
        | nil => simp at hdl; omega
        | cons y d => exact (cell_at (hd 0 y rfl)).2 (by simp) rfl
      · obtain ⟨v0, d0, hv0, hd0⟩ := h 0 (by omega)
        have hdl := hv0.clen
        cases d0 with
        | nil => simp at hdl; omega
        | cons y d => exact (cell_at (hd0 0 y rfl)).2 (by simp) rfl

theorem reflessL_all : ∀ {xs : List AV}, (∀ x ∈ xs, x.refless = true) → reflessL xs = true
  | [], _ => rfl
  | x :: xs, h => by simp [reflessL, h x (List.mem_cons_self), reflessL_all (fun y hy => h y (List.mem_cons_of_mem _ hy))]

theorem open_ok {H : Type} {enc : TypeId × Value → H} {base : Nat} {spare : Nat → Bool} {held : Bool} : ∀ (k : Nat) (t : TypeId) (fuel : Nat) (cs : List Value) (r : DataW H × List MemPlace),
    plainT P k t = true → DataW.trod enc P W base spare held fuel t cs = some r → ∃ v, Good P W k t v cs
  | 0, t, fuel, cs, r, hp, h => by simp [plainT] at hp
  | k + 1, t, 0, cs, r, hp, h => by simp [DataW.trod] at h
  | k + 1, t, fuel + 1, cs, r, hp, h => by
    have IH := fun t' cs' r' hp' h' => open_ok (H := H) (enc := enc) (base := base) (spare := spare) (held := held) k t' fuel cs' r' hp' h'
    simp only [plainT] at hp
    split at hp
    · rename_i hu
      have h1 : P.cellsOf t = 1 := by simpa using hp
      simp only [DataW.trod, hu] at h
      split at h <;> simp_all
      rename_i b
      exact ⟨.bool b, by simp [WT, hu], .bool .nil, rfl, by simp [AV.flatLen, h1], by simp [isAggT, hu, AV.isAgg], rfl⟩
    · rename_i i hu
      have h1 : P.cellsOf t = 1 := by simpa using hp
      simp only [DataW.trod, hu] at h
      split at h <;> simp_all
      rename_i kk k' n hk
      obtain ⟨⟨rfl, hw⟩, _⟩ := h
      refine ⟨.int k' n, ?_, .int .nil, rfl, by simp [AV.flatLen, h1], by simp [isAggT, hu, AV.isAgg], rfl⟩
      simp only [Lit.wf, Bool.and_eq_true, decide_eq_true_eq] at hw
      simp [WT, hu, hw]
    · rename_i hu
      have h1 : P.cellsOf t = 1 := by simpa using hp
      simp only [DataW.trod, hu] at h
      split at h <;> simp_all
      rename_i s
      exact ⟨.str s, by simp [WT, hu, h.1], .str .nil, rfl, by simp [AV.flatLen, h1], by simp [isAggT, hu, AV.isAgg], rfl⟩
    · rename_i e hu
      simp only [Bool.and_eq_true, beq_iff_eq, decide_eq_true_eq] at hp
      obtain ⟨⟨h1, hsz⟩, hpe⟩ := hp
      simp only [DataW.trod, hu] at h
      split at h <;> simp_all
      · exact ⟨.nils, by simp [WT, hu], .nils .nil, rfl, by simp [AV.flatLen, h1], by simp [isAggT, hu, AV.isAgg], rfl⟩
      · rename_i e' a len cap hx1
        obtain ⟨⟨hb, hlc, hcm⟩, h⟩ := h
        simp only [Option.bind_eq_some_iff] at h
        obtain ⟨ys, hys, _⟩ := h
        obtain ⟨xs, c, hl, hf, hx, hc, hsp⟩ := side_by_side (P := P) (W := W) (k := k) (n := len) (a := a) hsz (fun i hi => by
          obtain ⟨y, hy⟩ := mapM_each hys i (List.mem_range.2 hi)
          simp only [Option.bind_eq_some_iff] at hy
          obtain ⟨c, hc, hy⟩ := hy
          obtain ⟨v, hv⟩ := IH _ c y.1 y.2 hpe hy
          exact ⟨v, c, hv, (cells_spec hc).2⟩)
        subst hl
        obtain ⟨ab, ao, as⟩ := a
        refine ⟨.isl (P.cellsOf e') xs, ?_, .isl (reflessL_all fun x h => (hx x h).2.1) hf (fun x h => (hx x h).2.2) hlc hc hsp .nil, rfl, by simp [AV.flatLen, h1], by simp [isAggT, hu, AV.isAgg], rfl⟩
        simp only [WT, hu]
        exact .inr ⟨xs, rfl, by omega, fun x h => (hx x h).1⟩
    · rename_i fs hu
      simp only [Bool.and_eq_true] at hp
      obtain ⟨hfit, hall⟩ := hp
      simp only [DataW.trod, hu] at h
      split at h
      · rename_i hl
        simp only [Option.map_eq_some_iff] at h
        obtain ⟨ys, hys, _⟩ := h
        have key : ∀ (l : List Field) (o : Nat) (ys : List (DataW H × List MemPlace)), fitB P o l (P.cellsOf t) = true → l.all (fun f => plainT P k f.type) = true → o ≤ cs.length →
            (l.mapM fun f => DataW.trod enc P W base spare held fuel f.type ((cs.drop f.offset).take (P.cellsOf f.type))) = some ys →
            ∃ ps, FR (Env.start W) ps (cs.drop o) ∧ all2 (fun (f : Field) p => WT P k f.type p) l ps ∧ reflessL ps = true := by
          intro l
          induction l with
          | nil =>
            intro o ys hfit _ _ _
            simp only [fitB, beq_iff_eq] at hfit
            subst hfit
            rw [← hl, List.drop_length]
            exact ⟨[], .nil, trivial, rfl⟩
          | cons f l ih =>
            intro o ys hfit hall hole hys
            simp only [fitB, Bool.and_eq_true, beq_iff_eq] at hfit
            obtain ⟨ho, hfit⟩ := hfit
            simp only [List.all_cons, Bool.and_eq_true] at hall
            simp only [List.mapM_cons, Option.bind_eq_bind, Option.bind_eq_some_iff] at hys
            obtain ⟨y, hy, r', hr', _⟩ := hys
            obtain ⟨v, hv⟩ := IH _ _ _ hall.1 hy
            have hcl := hv.clen
            rw [ho] at hv hcl
            have hle : o + P.cellsOf f.type ≤ cs.length := by
              rw [List.length_take, List.length_drop] at hcl
              omega
            obtain ⟨ps, k1, k2, k3⟩ := ih _ _ hfit hall.2 hle hr'
            refine ⟨v :: ps, ?_, ⟨hv.wt, k2⟩, by simp [reflessL, hv.rl, k3]⟩
            have := FR.cons hv.fr k1
            rwa [← List.drop_drop, List.take_append_drop] at this
        obtain ⟨ps, k1, k2, k3⟩ := key _ 0 ys hfit hall (Nat.zero_le _) hys
        rw [List.drop_zero] at k1
        refine ⟨.agg (P.cellsOf t) ps, ?_, ?_, by simpa [AV.refless] using k3, rfl, by simp [isAggT, hu, AV.isAgg], rfl⟩
        · simp only [WT, hu]
          exact ⟨ps, rfl, k2⟩
        · have := FR.agg (n := P.cellsOf t) (vs := []) (cs := []) k1 hl.symm .nil
          simpa using this
      · simp at h
    · rename_i n e hu
      simp only [Bool.and_eq_true, beq_iff_eq] at hp
      obtain ⟨hn, hpe⟩ := hp
      simp only [DataW.trod, hu] at h
      split at h
      · rename_i hl
        simp only [Option.map_eq_some_iff] at h
        obtain ⟨ys, hys, _⟩ := h
        have key : ∀ m, m ≤ n → ∃ xs, xs.length = m ∧ FR (Env.start W) xs (cs.take (m * P.cellsOf e)) ∧ ∀ x ∈ xs, WT P k e x ∧ x.refless = true ∧ x.flatLen = P.cellsOf e := by
          intro m
          induction m with
          | zero => intro _; exact ⟨[], rfl, by simpa using FR.nil, by simp⟩
          | succ m ih =>
            intro hm
            obtain ⟨xs, h1, h2, h3⟩ := ih (by omega)
            obtain ⟨y, hy⟩ := mapM_each hys m (List.mem_range.2 (by omega))
            obtain ⟨v, hv⟩ := IH _ _ _ hpe hy
            refine ⟨xs ++ [v], by simp [h1], ?_, fun x hx => ?_⟩
            · have := FR.append h2 hv.fr
              rw [Nat.add_mul, Nat.one_mul, List.take_add]
              exact this
            · rcases List.mem_append.1 hx with hx | hx
              · exact h3 x hx
              · obtain rfl := List.mem_singleton.1 hx
                exact ⟨hv.wt, hv.rl, hv.len⟩
        obtain ⟨xs, h1, h2, h3⟩ := key n (Nat.le_refl _)
        rw [← hn, ← hl, List.take_length] at h2
        refine ⟨.arr (P.cellsOf e) xs, ?_, ?_, by simpa [AV.refless] using reflessL_all fun x h => (h3 x h).2.1, by simp [AV.flatLen, h1, hn, Nat.mul_comm], by simp [isAggT, hu, AV.isAgg], rfl⟩
        · simp only [WT, hu]
          exact ⟨xs, rfl, h1, fun x h => (h3 x h).1⟩
        · have := FR.arr (e := P.cellsOf e) (vs := []) (cs := []) h2 (fun x h => (h3 x h).2.2) .nil
          simpa using this
      · simp at h
    · simp at hp

end
end Go.X
