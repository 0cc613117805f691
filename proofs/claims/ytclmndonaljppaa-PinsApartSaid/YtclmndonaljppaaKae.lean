/-
  What came in, opened: from the form's reading of an argument ('DataW.trod') an abstract value that stands for it, well typed.
-/
import Derived.Test.YtclmndonaljppaaKad
import Derived.OpenShut
import Derived.ChangeOld
import Derived.WalkKit
import Derived.ProofKit
import Derived.Below
import Derived.Handed
import Derived.LaidHandle
import Derived.LaidLaws
import Derived.Stop.Joined
import Derived.Test.YtclmndonaljppaaProg
import Derived.KernelRfl

namespace Go.X

def all2 {α β : Type} (R : α → β → Prop) : List α → List β → Prop
  | [], [] => True
  | a :: r, b :: s => R a b ∧ all2 R r s
  | _, _ => False

theorem all2_nil {α β : Type} {R : α → β → Prop} {l : List β} (h : all2 R [] l) : l = [] := by
  cases l with
  | nil => rfl
  | cons b s => exact h.elim

theorem all2_cons {α β : Type} {R : α → β → Prop} {a : α} {r : List α} {l : List β} (h : all2 R (a :: r) l) : ∃ b s, l = b :: s ∧ R a b ∧ all2 R r s := by
  cases l with
  | nil => exact h.elim
  | cons b s => exact ⟨b, s, rfl, h.1, h.2⟩

def fitB (P : Program) : Nat → List Field → Nat → Bool
  | o, [], n => o == n
  | o, f :: r, n => f.offset == o && fitB P (o + P.cellsOf f.type) r n

/-- Types whose values hold no references but slices of such. -/
def plainT (P : Program) : Nat → TypeId → Bool
  | 0, _ => false
  | k + 1, t => match P.underlying t with
    | some .bool | some (.int _) | some .string => P.cellsOf t == 1
    | some (.slice e) => P.cellsOf t == 1 && decide (0 < P.cellsOf e) && plainT P k e
    | some (.struct fs) => fitB P 0 fs.toList (P.cellsOf t) && fs.toList.all fun f => plainT P k f.type
    | some (.array n e) => P.cellsOf t == n * P.cellsOf e && plainT P k e
    | _ => false

/-- Well typed abstract values. -/
def WT (P : Program) : Nat → TypeId → AV → Prop
  | 0, _, _ => False
  | k + 1, t, v => match P.underlying t with
    | some .bool => ∃ b, v = .bool b
    | some (.int i) => ∃ n, v = .int i n ∧ i.min ≤ n ∧ n ≤ i.max
    | some .string => ∃ s, v = .str s ∧ s.size ≤ maxLen
    | some (.slice e) => v = .nils ∨ ∃ xs, v = .isl (P.cellsOf e) xs ∧ xs.length ≤ maxLen ∧ ∀ x ∈ xs, WT P k e x
    | some (.struct fs) => ∃ ps, v = .agg (P.cellsOf t) ps ∧ all2 (fun (f : Field) p => WT P k f.type p) fs.toList ps
    | some (.array n e) => ∃ xs, v = .arr (P.cellsOf e) xs ∧ xs.length = n ∧ ∀ x ∈ xs, WT P k e x
    | _ => False

theorem WT.bool {P : Program} {k : Nat} {t : TypeId} {v : AV} (hu : P.underlying t = some .bool) (h : WT P (k + 1) t v) : ∃ b, v = .bool b := by
  unfold WT at h
  rw [hu] at h
  exact h

theorem WT.int {P : Program} {k : Nat} {t : TypeId} {v : AV} {i : IntKind} (hu : P.underlying t = some (.int i)) (h : WT P (k + 1) t v) : ∃ n, v = .int i n ∧ i.min ≤ n ∧ n ≤ i.max := by
  unfold WT at h
  rw [hu] at h
  exact h

theorem WT.slice {P : Program} {k sz : Nat} {t e : TypeId} {v : AV} (hu : P.underlying t = some (.slice e)) (hc : P.cellsOf e = sz) (h : WT P (k + 1) t v) :
    v = .nils ∨ ∃ xs, v = .isl sz xs ∧ xs.length ≤ maxLen ∧ ∀ x ∈ xs, WT P k e x := by
  unfold WT at h
  rw [hu] at h
  subst hc
  exact h

theorem WT.struct {P : Program} {k n : Nat} {t : TypeId} {fs : Array Field} {v : AV} (hu : P.underlying t = some (.struct fs)) (hc : P.cellsOf t = n) (h : WT P (k + 1) t v) :
    ∃ ps, v = .agg n ps ∧ all2 (fun (f : Field) p => WT P k f.type p) fs.toList ps := by
  unfold WT at h
  rw [hu] at h
  subst hc
  exact h

theorem WT.array {P : Program} {k n sz : Nat} {t e : TypeId} {v : AV} (hu : P.underlying t = some (.array n e)) (hc : P.cellsOf e = sz) (h : WT P (k + 1) t v) :
    ∃ xs, v = .arr sz xs ∧ xs.length = n ∧ ∀ x ∈ xs, WT P k e x := by
  unfold WT at h
  rw [hu] at h
  subst hc
  exact h

section
variable {P : Program} {W : World}

def isAggT (P : Program) (t : TypeId) : Bool := match P.underlying t with
  | some (.struct _) | some (.array _ _) => true
  | _ => false

structure Good (P : Program) (W : World) (k : Nat) (t : TypeId) (v : AV) (cs : List Value) : Prop where
  wt : WT P k t v
  fr : FR (Env.start W) [v] cs
  rl : v.refless = true
  len : v.flatLen = P.cellsOf t
  agg : v.isAgg = isAggT P t
  plain : v.plain = true

theorem Good.clen {k : Nat} {t : TypeId} {v : AV} {cs : List Value} (h : Good P W k t v cs) : cs.length = P.cellsOf t := by
  rw [h.fr.length, AV.flatLen_one, h.len]

theorem mapM_each {α β : Type} {f : α → Option β} : ∀ {l : List α} {ys : List β}, l.mapM f = some ys → ∀ x ∈ l, ∃ y, f x = some y
  | [], _, _, x, hx => by simp at hx
  | a :: l, ys, h, x, hx => by
    simp only [List.mapM_cons, Option.bind_eq_bind, Option.bind_eq_some_iff] at h
    obtain ⟨b, hb, r, hr, _⟩ := h
    rcases List.mem_cons.1 hx with rfl | hx
    · exact ⟨b, hb⟩
    · exact mapM_each hr x hx

theorem cells_spec {base n : Nat} {a : Addr} {l : List Value} (h : W.cells? base a n = some l) : l.length = n ∧ ∀ j c, l[j]? = some c → W.cell? (a.add j) = some c := by
  unfold World.cells? at h
  split at h
  · have key : ∀ n (l : List Value), ((List.range n).mapM fun i => W.cell? (a.add i)) = some l → l.length = n ∧ ∀ j c, l[j]? = some c → W.cell? (a.add j) = some c := by
      intro n
      induction n with
      | zero =>
        intro l h
        simp at h
        subst h
        simp
      | succ n ih =>
        intro l h
        rw [List.range_succ, List.mapM_append] at h
        simp only [Option.bind_eq_bind, Option.bind_eq_some_iff, List.mapM_cons, List.mapM_nil, Option.pure_def, Option.some.injEq] at h
        obtain ⟨l1, h1, l2, ⟨c, hc, l3, h3, hl2⟩, hl⟩ := h
        subst h3 hl2
        subst hl
        obtain ⟨k1, k2⟩ := ih l1 h1
        refine ⟨by simp [k1], fun j c' hj => ?_⟩
        rcases Nat.lt_or_ge j n with hlt | hge
        · rw [List.getElem?_append_left (by omega)] at hj
          exact k2 j c' hj
        · rw [List.getElem?_append_right (by omega)] at hj
          have : j = n := by
            rcases Nat.lt_or_ge (j - l1.length) 1 with h | h
            · omega
            · rw [List.getElem?_eq_none (by simpa using h)] at hj
              simp at hj
          subst this
          simp [k1] at hj
          rw [← hj]
          exact hc
    exact key n l h
  · simp at h

theorem cell_spot {a : Addr} {c : Value} (h : W.cell? a = some c) : a.spot = none := by
  unfold World.cell? at h
  split at h
  · split at h
    · simp at h
    · rename_i h1
      simpa using h1
  · simp at h

theorem add_off (a : Addr) (n : Nat) (h : (a.add n).spot = none) : a.add n = ⟨a.block, a.off + n, none⟩ := by
  unfold Addr.add at h ⊢
  split
  · rename_i hn
    subst hn
    rw [if_pos rfl] at h
    obtain ⟨b, o, s⟩ := a
    simp only at h ⊢
    subst h
    rfl
  · rfl

theorem cell_at {a : Addr} {m j : Nat} {c : Value} (h : W.cell? ((a.add m).add j) = some c) : W.cell? ⟨a.block, a.off + (m + j), none⟩ = some c ∧ (m = 0 → j = 0 → a.spot = none) := by
  have hs := cell_spot h
  have h1 := add_off (a.add m) j hs
  have h2 : (a.add m).block = a.block ∧ (a.add m).off = a.off + m := by
    unfold Addr.add
    split
    · rename_i hm
      simp [hm]
    · simp
  rw [h1, h2.1, h2.2] at h
  refine ⟨by rw [← Nat.add_assoc]; exact h, fun hm hj => ?_⟩
  subst hm hj
  simpa [Addr.add] using hs

/-- Elements that lie side by side. -/
theorem side_by_side {k n : Nat} {e : TypeId} {a : Addr} (hsz : 0 < P.cellsOf e)
    (h : ∀ i, i < n → ∃ v c, Good P W k e v c ∧ ∀ j x, c[j]? = some x → W.cell? ((a.add (i * P.cellsOf e)).add j) = some x) :
    ∃ xs c, xs.length = n ∧ FR (Env.start W) xs c ∧ (∀ x ∈ xs, WT P k e x ∧ x.refless = true ∧ x.flatLen = P.cellsOf e) ∧ (∀ j x, c[j]? = some x → W.cell? ⟨a.block, a.off + j, none⟩ = some x) ∧ (a.spot = none ∨ xs = []) := by
  induction n with
  | zero => exact ⟨[], [], rfl, .nil, by simp, by simp, .inr rfl⟩
  | succ n ih =>
    obtain ⟨xs, c, hl, hf, hx, hc, _⟩ := ih (fun i hi => h i (by omega))
    obtain ⟨v, d, hv, hd⟩ := h n (by omega)
    have hcl : c.length = n * P.cellsOf e := by
      rw [hf.length, sumLen_same (fun x h => (hx x h).2.2), hl, Nat.mul_comm]
    refine ⟨xs ++ [v], c ++ d, by simp [hl], FR.append hf hv.fr, fun x hm => ?_, fun j x hj => ?_, .inl ?_⟩
    · rcases List.mem_append.1 hm with hm | hm
      · exact hx x hm
      · obtain rfl := List.mem_singleton.1 hm
        exact ⟨hv.wt, hv.rl, hv.len⟩
    · rcases Nat.lt_or_ge j c.length with hlt | hge
      · rw [List.getElem?_append_left hlt] at hj
        exact hc j x hj
      · rw [List.getElem?_append_right hge] at hj
        have := (cell_at (hd _ _ hj)).1
        rwa [show n * P.cellsOf e + (j - c.length) = j by omega] at this
    · rcases n with _ | n
      · have hdl := hv.clen
        cases d with
        | nil => simp at hdl; omega
        | cons y d => exact (cell_at (hd 0 y rfl)).2 (by simp) rfl
      · obtain ⟨v0, d0, hv0, hd0⟩ := h 0 (by omega)
        have hdl := hv0.clen
        cases d0 with
        | nil => simp at hdl; omega
        | cons y d => exact (cell_at (hd0 0 y rfl)).2 (by simp) rfl

theorem reflessL_all : ∀ {xs : List AV}, (∀ x ∈ xs, x.refless = true) → reflessL xs = true
  | [], _ => rfl
  | x :: xs, h => by simp [reflessL, h x (List.mem_cons_self), reflessL_all (fun y hy => h y (List.mem_cons_of_mem _ hy))]

theorem open_ok {H : Type} {enc : TypeId × Value → H} {base : Nat} {spare : Nat → Bool} {held : Bool} : ∀ (k : Nat) (t : TypeId) (fuel : Nat) (cs : List Value) (r : DataW H × List MemPlace),
    plainT P k t = true → DataW.trod enc P W base spare held fuel t cs = some r → ∃ v, Good P W k t v cs
  | 0, t, fuel, cs, r, hp, h => by simp [plainT] at hp
  | k + 1, t, 0, cs, r, hp, h => by simp [DataW.trod] at h
  | k + 1, t, fuel + 1, cs, r, hp, h => by
    have IH := fun t' cs' r' hp' h' => open_ok (H := H) (enc := enc) (base := base) (spare := spare) (held := held) k t' fuel cs' r' hp' h'
    simp only [plainT] at hp
    split at hp
    · rename_i hu
      have h1 : P.cellsOf t = 1 := by simpa using hp
      simp only [DataW.trod, hu] at h
      split at h <;> simp_all
      rename_i b
      exact ⟨.bool b, by simp [WT, hu], .bool .nil, rfl, by simp [AV.flatLen, h1], by simp [isAggT, hu, AV.isAgg], rfl⟩
    · rename_i i hu
      have h1 : P.cellsOf t = 1 := by simpa using hp
      simp only [DataW.trod, hu] at h
      split at h <;> simp_all
      rename_i kk k' n hk
      obtain ⟨⟨rfl, hw⟩, _⟩ := h
      refine ⟨.int k' n, ?_, .int .nil, rfl, by simp [AV.flatLen, h1], by simp [isAggT, hu, AV.isAgg], rfl⟩
      simp only [Lit.wf, Bool.and_eq_true, decide_eq_true_eq] at hw
      simp [WT, hu, hw]
    · rename_i hu
      have h1 : P.cellsOf t = 1 := by simpa using hp
      simp only [DataW.trod, hu] at h
      split at h <;> simp_all
      rename_i s
      exact ⟨.str s, by simp [WT, hu, h.1], .str .nil, rfl, by simp [AV.flatLen, h1], by simp [isAggT, hu, AV.isAgg], rfl⟩
    · rename_i e hu
      simp only [Bool.and_eq_true, beq_iff_eq, decide_eq_true_eq] at hp
      obtain ⟨⟨h1, hsz⟩, hpe⟩ := hp
      simp only [DataW.trod, hu] at h
      split at h <;> simp_all
      · exact ⟨.nils, by simp [WT, hu], .nils .nil, rfl, by simp [AV.flatLen, h1], by simp [isAggT, hu, AV.isAgg], rfl⟩
      · rename_i e' a len cap hx1
        obtain ⟨⟨hb, hlc, hcm⟩, h⟩ := h
        simp only [Option.bind_eq_some_iff] at h
        obtain ⟨ys, hys, _⟩ := h
        obtain ⟨xs, c, hl, hf, hx, hc, hsp⟩ := side_by_side (P := P) (W := W) (k := k) (n := len) (a := a) hsz (fun i hi => by
          obtain ⟨y, hy⟩ := mapM_each hys i (List.mem_range.2 hi)
          simp only [Option.bind_eq_some_iff] at hy
          obtain ⟨c, hc, hy⟩ := hy
          obtain ⟨v, hv⟩ := IH _ c y.1 y.2 hpe hy
          exact ⟨v, c, hv, (cells_spec hc).2⟩)
        subst hl
        obtain ⟨ab, ao, asl⟩ := a
        refine ⟨.isl (P.cellsOf e') xs, ?_, .isl (reflessL_all fun x h => (hx x h).2.1) hf (fun x h => (hx x h).2.2) hlc hc hsp .nil, rfl, by simp [AV.flatLen, h1], by simp [isAggT, hu, AV.isAgg], rfl⟩
        simp only [WT, hu]
        exact .inr ⟨xs, rfl, by omega, fun x h => (hx x h).1⟩
    · rename_i fs hu
      simp only [Bool.and_eq_true] at hp
      obtain ⟨hfit, hall⟩ := hp
      simp only [DataW.trod, hu] at h
      split at h
      · rename_i hl
        simp only [Option.map_eq_some_iff] at h
        obtain ⟨ys, hys, _⟩ := h
        have key : ∀ (l : List Field) (o : Nat) (ys : List (DataW H × List MemPlace)), fitB P o l (P.cellsOf t) = true → l.all (fun f => plainT P k f.type) = true → o ≤ cs.length →
            (l.mapM fun f => DataW.trod enc P W base spare held fuel f.type ((cs.drop f.offset).take (P.cellsOf f.type))) = some ys →
            ∃ ps, FR (Env.start W) ps (cs.drop o) ∧ all2 (fun (f : Field) p => WT P k f.type p) l ps ∧ reflessL ps = true := by
          intro l
          induction l with
          | nil =>
            intro o ys hfit _ _ _
            simp only [fitB, beq_iff_eq] at hfit
            subst hfit
            rw [← hl, List.drop_length]
            exact ⟨[], .nil, trivial, rfl⟩
          | cons f l ih =>
            intro o ys hfit hall hole hys
            simp only [fitB, Bool.and_eq_true, beq_iff_eq] at hfit
            obtain ⟨ho, hfit⟩ := hfit
            simp only [List.all_cons, Bool.and_eq_true] at hall
            simp only [List.mapM_cons, Option.bind_eq_bind, Option.bind_eq_some_iff] at hys
            obtain ⟨y, hy, r', hr', _⟩ := hys
            obtain ⟨v, hv⟩ := IH _ _ _ hall.1 hy
            have hcl := hv.clen
            rw [ho] at hv hcl
            have hle : o + P.cellsOf f.type ≤ cs.length := by
              rw [List.length_take, List.length_drop] at hcl
              omega
            obtain ⟨ps, k1, k2, k3⟩ := ih _ _ hfit hall.2 hle hr'
            refine ⟨v :: ps, ?_, ⟨hv.wt, k2⟩, by simp [reflessL, hv.rl, k3]⟩
            have := FR.cons hv.fr k1
            rwa [← List.drop_drop, List.take_append_drop] at this
        obtain ⟨ps, k1, k2, k3⟩ := key _ 0 ys hfit hall (Nat.zero_le _) hys
        rw [List.drop_zero] at k1
        refine ⟨.agg (P.cellsOf t) ps, ?_, ?_, by simpa [AV.refless] using k3, rfl, by simp [isAggT, hu, AV.isAgg], rfl⟩
        · simp only [WT, hu]
          exact ⟨ps, rfl, k2⟩
        · have := FR.agg (n := P.cellsOf t) (vs := []) (cs := []) k1 hl.symm .nil
          simpa using this
      · simp at h
    · rename_i n e hu
      simp only [Bool.and_eq_true, beq_iff_eq] at hp
      obtain ⟨hn, hpe⟩ := hp
      simp only [DataW.trod, hu] at h
      split at h
      · rename_i hl
        simp only [Option.map_eq_some_iff] at h
        obtain ⟨ys, hys, _⟩ := h
        have key : ∀ m, m ≤ n → ∃ xs, xs.length = m ∧ FR (Env.start W) xs (cs.take (m * P.cellsOf e)) ∧ ∀ x ∈ xs, WT P k e x ∧ x.refless = true ∧ x.flatLen = P.cellsOf e := by
          intro m
          induction m with
          | zero => intro _; exact ⟨[], rfl, by simpa using FR.nil, by simp⟩
          | succ m ih =>
            intro hm
            obtain ⟨xs, h1, h2, h3⟩ := ih (by omega)
            obtain ⟨y, hy⟩ := mapM_each hys m (List.mem_range.2 (by omega))
            obtain ⟨v, hv⟩ := IH _ _ _ hpe hy
            refine ⟨xs ++ [v], by simp [h1], ?_, fun x hx => ?_⟩
            · have := FR.append h2 hv.fr
              rw [Nat.add_mul, Nat.one_mul, List.take_add]
              exact this
            · rcases List.mem_append.1 hx with hx | hx
              · exact h3 x hx
              · obtain rfl := List.mem_singleton.1 hx
                exact ⟨hv.wt, hv.rl, hv.len⟩
        obtain ⟨xs, h1, h2, h3⟩ := key n (Nat.le_refl _)
        rw [← hn, ← hl, List.take_length] at h2
        refine ⟨.arr (P.cellsOf e) xs, ?_, ?_, by simpa [AV.refless] using reflessL_all fun x h => (h3 x h).2.1, by simp [AV.flatLen, h1, hn, Nat.mul_comm], by simp [isAggT, hu, AV.isAgg], rfl⟩
        · simp only [WT, hu]
          exact ⟨xs, rfl, h1, fun x h => (h3 x h).1⟩
        · have := FR.arr (e := P.cellsOf e) (vs := []) (cs := []) h2 (fun x h => (h3 x h).2.2) .nil
          simpa using this
      · simp at h
    · simp at hp

end
end Go.X
/-
  The shell of a law that says 'true, whatever the input, and the input reads as it did': from an equation about the evaluator to the form's contract.
-/
namespace Go.X
open Go.ChangeShapes Go.WideShapes Go.ChangeAt Go.RowKit

/-- Parameters that can be opened, and read again behind the call. -/
def paramsB (P : Program) (k : Nat) (ts : List TypeId) : Bool := ts.all fun t => plainT P k t && P.readableRec t && decide (t < P.types.size)

section
variable {P : Program} {W : World} {H : Type} {enc : TypeId × Value → H}

theorem Good.vr {k base : Nat} {t : TypeId} {v : AV} {c : Value} (h : Good P W k t v c.cells.toList) (hk : Value.okWide P W .any base t c) : VR (Env.start W) v c := by
  have hp : PR (Env.start W) v c := by
    refine ⟨c.cells.toList, h.fr, ?_⟩
    unfold pack
    rw [h.agg]
    unfold isAggT
    unfold Value.okWide at hk
    split at hk
    · rename_i hu
      obtain ⟨cs, rfl, _⟩ := hk
      simp [hu, Value.cells]
    · rename_i hu
      obtain ⟨cs, rfl, _⟩ := hk
      simp [hu, Value.cells]
    · rename_i h1 h2
      have hn : ∀ cs, c ≠ .agg cs := by
        rintro cs rfl
        unfold Cell.okWide at hk
        split at hk <;> simp_all
        unfold Cell.ok at hk
        split at hk <;> simp_all
      have : c.cells = #[c] := by
        cases c <;> simp_all [Value.cells]
      rw [this]
      split
      · exact (h1 _ ‹_›).elim
      · exact (h2 _ _ ‹_›).elim
      · rfl
  exact .of_PR hp

theorem args_open {k base : Nat} {held : Bool} {b0 : Nat} {spare : Nat → Bool} : ∀ {ts : List TypeId} {cs : List Value} {ds : List (DataW H)} {ps : List MemPlace}, paramsB P k ts = true →
    (∀ (j : Nat) t v, ts[j]? = some t → cs[j]? = some v → Value.okWide P W .any base t v) → DataW.TrodAll enc P W b0 spare held ts cs ds ps →
    ∃ vs, all2 (WT P k) ts vs ∧ vs.length = cs.length ∧ ∀ (i : Nat) (v : AV) (c : Value), vs[i]? = some v → cs[i]? = some c → VR (Env.start W) v c
  | [], cs, ds, ps, _, _, h => by
    obtain ⟨rfl, rfl, rfl⟩ := trodAll_nil h
    exact ⟨[], trivial, rfl, by simp⟩
  | t :: ts, cs, ds, ps, hp, hv, h => by
    obtain ⟨c, cs', d, ds', p, q, rfl, rfl, rfl, h0, r0⟩ := trodAll_cons h
    simp only [paramsB, List.all_cons, Bool.and_eq_true] at hp
    obtain ⟨⟨⟨hpt, _⟩, _⟩, hpr⟩ := hp
    obtain ⟨vs, k1, k2, k3⟩ := args_open (k := k) (ts := ts) (by simpa [paramsB] using hpr) (fun j t' v' h1 h2 => hv (j + 1) t' v' (by simpa using h1) (by simpa using h2)) r0
    obtain ⟨fuel, hf⟩ := h0
    obtain ⟨v, hg⟩ := open_ok k t fuel _ _ hpt hf
    refine ⟨v :: vs, ⟨hg.wt, k1⟩, by simp [k2], fun i v' c' h1 h2 => ?_⟩
    cases i with
    | zero =>
      simp only [List.getElem?_cons_zero, Option.some.injEq] at h1 h2
      subst h1 h2
      exact hg.vr (hv 0 t _ rfl rfl)
    | succ i => exact k3 i v' c' (by simpa using h1) (by simpa using h2)

theorem args_again {k : Nat} {W' : World} (hl : laidOutB P = true) (bel : Below W.heap.size W W') : ∀ {ts : List TypeId} {cs : List Value} {ds : List (DataW H)} {ps : List MemPlace}, paramsB P k ts = true →
    DataW.TrodAll enc P W 0 (fun _ => true) true ts cs ds ps → DataW.TrodAll enc P W' 0 (fun b => decide (b < W.heap.size)) true ts cs ds ps
  | [], cs, ds, ps, _, h => by
    obtain ⟨rfl, rfl, rfl⟩ := trodAll_nil h
    exact trodAll_mk0
  | t :: ts, cs, ds, ps, hp, h => by
    obtain ⟨c, cs', d, ds', p, q, rfl, rfl, rfl, h0, r0⟩ := trodAll_cons h
    simp only [paramsB, List.all_cons, Bool.and_eq_true, decide_eq_true_eq] at hp
    obtain ⟨⟨⟨hpt, hr⟩, hlt⟩, hpr⟩ := hp
    have lt0 : ∀ x ∈ p, x.block < W.heap.size := by obtain ⟨m, hm⟩ := h0; exact DataW.trod_lt m _ _ _ hm
    exact trodAll_cons_mk (Below.trod hl hr hlt h0 bel lt0) (args_again hl bel (by simpa [paramsB] using hpr) r0)

theorem trodAll_length {b0 : Nat} {spare : Nat → Bool} {held : Bool} : ∀ {ts : List TypeId} {cs : List Value} {ds : List (DataW H)} {ps : List MemPlace}, DataW.TrodAll enc P W b0 spare held ts cs ds ps → cs.length = ts.length ∧ ds.length = ts.length
  | [], cs, ds, ps, h => by
    obtain ⟨rfl, rfl, rfl⟩ := trodAll_nil h
    simp
  | t :: ts, cs, ds, ps, h => by
    obtain ⟨c, cs', d, ds', p, q, rfl, rfl, rfl, h0, r0⟩ := trodAll_cons h
    obtain ⟨k1, k2⟩ := trodAll_length r0
    simp [k1, k2]

/-- What the evaluator says of a law: with any arguments of its types it answers true. -/
structure Law (P : Program) (f : FuncId) (ts : List TypeId) (k : Nat) where
  U : Out
  ann : FuncId → FAnn
  fuel : Nat
  n : Nat
  K : Oracle
  sound : ∀ B, OracleSound P B U.G K
  ext : ∀ B, ExtSound P B U.X
  mixed : P.follows .mixedOrders = true
  annOk : ∀ f, funcOk P (ann f) f = true
  run : ∀ vs, all2 (WT P k) ts vs → ∃ H' e, evalN P U ann fuel K n f vs [] = some (.bool true, H', e)

theorem Law.calls {f : FuncId} {ts : List TypeId} {k base : Nat} (L : Law P f ts k) (hp : paramsB P k ts = true) (hG : GlobOk L.U.G (Env.start W)) {args : Array Value} {ds : List (DataW H)} {ps : List MemPlace}
    (hv : ∀ (j : Nat) t v, ts[j]? = some t → args[j]? = some v → Value.okWide P W .any base t v) (h : DataW.TrodAll enc P W 0 (fun _ => true) true ts args.toList ds ps) :
    Calls P f args W fun en w' => en = .returned (.bool true) ∧ Below W.heap.size W w' := by
  obtain ⟨vs, k1, k2, k3⟩ := args_open hp (fun j t v h1 h2 => hv j t v h1 (by simpa using h2)) h
  obtain ⟨H', e, he⟩ := L.run vs k1
  have := run_law (cargs := args.toList) L.sound L.ext L.mixed L.annOk hG he k2 k3
  simpa using this

/-- The contract that the form asks for. -/
theorem Law.post {fn : Func} {b : TypeId} {s : ChangeSpec} {args : Array Value} {ds gs : List (DataW H)} {ps : List MemPlace} {W' : World} {k : Nat} {handsOn : Bool}
    (hr : fn.resultTypes = #[b]) (hb : P.underlying b = some .bool) (hl : laidOutB P = true) (hp : paramsB P k fn.params.toList = true) (hsv : s.vars = [])
    (hsf : ∀ ds : List (DataW H), ds.length = fn.params.size → s.fn H ds = { results := [.lit (.bool true)], args := ds })
    (hW : DataW.Whole enc P fn.params.toList s.vars false W args.toList ds gs ps) (bel : Below W.heap.size W W') : s.post enc P fn false true handsOn false W args (.bool true) W' := by
  have hW' := hW
  obtain ⟨p, q, hA, hV, rfl, hfz, hnd⟩ := hW
  rw [hsv] at hV
  obtain ⟨rfl, rfl⟩ := trodVars_none hV
  have hlen := (trodAll_length hA).2
  have hf : s.fn H (ds ++ []) = { results := [.lit (.bool true)], args := ds } := by
    rw [List.append_nil]
    exact hsf ds (by simpa using hlen)
  refine ⟨ds, [], p ++ [], [], p, [], hW', ?_, ?_, ?_, bel.frame _, fun h => by cases h⟩
  · rw [hf, hr]
    exact trodAll_mk1 ⟨1, by simp [DataW.trod, Value.cells, hb]⟩
  · rw [hf]
    exact args_again hl bel hp hA
  · rw [hf, hsv]
    exact rfl

end

section
variable {C : Checked} {os : Os} {H : Type} {enc : TypeId × Value → H}

/-- The contract of a law, no variable laid. -/
theorem Law.lifted {f : FuncId} {fn : Func} {b : TypeId} {s : ChangeSpec} {conds : List PathCond} {k : Nat} {handsOn : Bool} (L : Law C.prog f fn.params.toList k) (hG : ∀ W, GlobOk L.U.G (Env.start W))
    (own : ownKnob C.prog.godebug = none) (started : os.Started) (noInit : C.prog.inits.idxOf? f = none) (hfn : C.prog.funcs[f]? = some fn)
    (witness : ∃ (w : World) (tape : Tape) (i : Input), w.os = os ∧ (w.forCall tape i).Shaped C.prog ∧ i.vars = [] ∧ Input.okWide C.prog (w.forCall tape i) .any w.heap.size f i ∧
      s.pre6 enc C.prog fn conds false (w.forCall tape i).memory i.args ∧ ({} : Assume).holds C.prog (lone (Frame.enter C.prog f i.args .normal) [] (w.forCall tape i)))
    (hr : fn.resultTypes = #[b]) (hb : C.prog.underlying b = some .bool) (hl : laidOutB C.prog = true) (hp : paramsB C.prog k fn.params.toList = true) (hsv : s.vars = [])
    (hsf : ∀ ds : List (DataW H), ds.length = fn.params.size → s.fn H ds = { results := [.lit (.bool true)], args := ds }) :
    ReturnsInHanded {} C os f .any (s.pre6 enc C.prog fn conds false) (s.post enc C.prog fn false true handsOn false) := by
  refine returnsInHanded_of_change own started noInit hfn witness ?_
  intro W base args ds gs before hval hW _ _
  have hW' := hW
  obtain ⟨p, q, hA, hV, rfl, hfz, hnd⟩ := hW
  refine (L.calls hp (hG W) (fun j t v h1 h2 => hval j t v (by simpa using h1) h2) hA).mono fun e W' ⟨he, bel⟩ => ?_
  subst he
  exact ⟨_, rfl, Law.post hr hb hl hp hsv hsf hW' bel⟩

/-- The contract of a law, with variables laid. -/
theorem Law.lifted_laid {f : FuncId} {fn : Func} {b : TypeId} {s : ChangeSpec} {conds : List PathCond} {k : Nat} {handsOn : Bool} {laid : List (String × DataW Unit)} (L : Law C.prog f fn.params.toList k)
    (hG : ∀ W, laidMetH C.prog laid W → GlobOk L.U.G (Env.start W))
    (own : ownKnob C.prog.godebug = none) (started : os.Started) (noInit : C.prog.inits.idxOf? f = none) (hfn : C.prog.funcs[f]? = some fn)
    (witness : ∃ (w : World) (tape : Tape) (i : Input), w.os = os ∧ (w.forCall tape i).Shaped C.prog ∧ i.vars = [] ∧ Input.okWide C.prog (w.forCall tape i) .any w.heap.size f i ∧
      ((s.pre enc C.prog fn conds false (w.forCall tape i).memory i.args ∧ laidMetH C.prog laid (w.forCall tape i).memory) ∧ sizedMet enc C.prog fn (OpenSpec.ofChange s) false (w.forCall tape i).memory i.args) ∧
      ({} : Assume).holds C.prog (lone (Frame.enter C.prog f i.args .normal) [] (w.forCall tape i)))
    (hr : fn.resultTypes = #[b]) (hb : C.prog.underlying b = some .bool) (hl : laidOutB C.prog = true) (hp : paramsB C.prog k fn.params.toList = true) (hsv : s.vars = [])
    (hsf : ∀ ds : List (DataW H), ds.length = fn.params.size → s.fn H ds = { results := [.lit (.bool true)], args := ds }) :
    ReturnsInHanded {} C os f .any (fun w args => (s.pre enc C.prog fn conds false w args ∧ laidMetH C.prog laid w) ∧ sizedMet enc C.prog fn (OpenSpec.ofChange s) false w args)
      (s.post enc C.prog fn false true handsOn false) := by
  refine returnsInHanded_of_change_and (X := fun w _ => laidMetH C.prog laid w) (fun _ _ _ hh h => laidMetH.of_heap hh h) own started noInit hfn witness ?_
  intro W base args ds gs before hval hW _ _ hL _
  have hW' := hW
  obtain ⟨p, q, hA, hV, rfl, hfz, hnd⟩ := hW
  refine (L.calls hp (hG W hL) (fun j t v h1 h2 => hval j t v (by simpa using h1) h2) hA).mono fun e W' ⟨he, bel⟩ => ?_
  subst he
  exact ⟨_, rfl, Law.post hr hb hl hp hsv hsf hW' bel⟩

/-- A type's handle that is laid: the variable's one cell. -/
theorem handle_of_laid {P : Program} {W : World} {laid : List (String × DataW Unit)} {name : String} {d : DataW Unit} {bytes : List UInt8} {g u ty : Nat} (h : laidMetH P laid W) (hm : (name, d) ∈ laid) (hd : d.funcsIn? = none)
    (hn : d.handleName? = some bytes) (hg : P.globalNamed name = some g) (hu : (P.cutTypes.find? (·.1 == "internal/reflectlite.rtype")).map (·.2) = some u)
    (hone : ((List.range P.types.size).filter fun t => P.rowNamed t bytes) = [ty]) : W.cell? ⟨g, 0, none⟩ = some (.iface u (.agg #[typeHandle P ty])) := by
  have hall : handlesMet P (laid.filter fun x => x.2.handleName?.isSome) W := by
    unfold laidMetH at h
    split at h
    · rename_i he
      have h1 : (name, d) ∈ laid.filter fun x => x.2.handleName?.isSome := List.mem_filter.2 ⟨hm, by rw [show ((name, d).2.handleName? : Option (List UInt8)) = some bytes from hn]; rfl⟩
      rw [he] at h1
      cases h1
    · rename_i a asl he
      rw [he]
      exact h.2
  have := hall (name, d) (List.mem_filter.2 ⟨hm, by rw [show ((name, d).2.handleName? : Option (List UInt8)) = some bytes from hn]; rfl⟩)
  rw [show ((name, d).2.funcsIn? : Option (DataW Unit)) = none from hd] at this
  obtain ⟨nm, u', ty', e1, e2, e3, e4, e5⟩ := this
  obtain rfl := Option.some.inj (hn.symm.trans e1)
  obtain rfl := Option.some.inj (hu.symm.trans e2)
  have hx : ty' ∈ (List.range P.types.size).filter fun t => P.rowNamed t bytes := List.mem_filter.2 ⟨List.mem_range.2 e3, e4⟩
  rw [hone] at hx
  obtain rfl := List.mem_singleton.1 hx
  simpa using World.var?_cell hg e5 0

/-- The variable errors.errorType, as a row lays it. -/
theorem GlobOk.handle {P : Program} {W : World} {g u ty : Nat} (h : W.cell? ⟨g, 0, none⟩ = some (.iface u (.agg #[typeHandle P ty]))) :
    GlobOk (fun i => if i = g then some (.iface u (.agg 1 [.hnd P.globals.size ty])) else none) (Env.start W) := by
  intro i v hi
  simp only at hi
  split at hi
  · rename_i hg
    subst hg
    obtain rfl := Option.some.inj hi
    refine .of_PR (v := .iptr _) ⟨[_], .iptr (c1 := [.iface u (.agg #[typeHandle P ty])]) rfl ?_ (fun j c hj => ?_) .nil, rfl⟩
    · have h1 : FR (Env.start W) [.agg 1 [.hnd P.globals.size ty]] [typeHandle P ty] := FR.agg (c1 := [typeHandle P ty]) (.hnd .nil) rfl .nil
      exact FR.iface h1 .nil
    · cases j with
      | zero =>
        simp only [List.getElem?_cons_zero, Option.some.injEq] at hj
        subst hj
        exact h
      | succ j => simp at hj
  · cases hi
end
end Go.X
/-
  Loops of the evaluator, by an invariant; and calls, by what is known of them.
-/
namespace Go.X

theorem loopN_normal {hd : St → Option St} {body : St → Option (Ex × St)} {k : Nat} {s s1 s2 : St} (h1 : hd s = some s1) (h2 : body s1 = some (.normal, s2)) : loopN hd body (k + 1) s = loopN hd body k s2 := by
  simp [loopN, h1, h2]

theorem loopN_leave {hd : St → Option St} {body : St → Option (Ex × St)} {k : Nat} {s s1 s2 : St} {e : Ex} (h1 : hd s = some s1) (h2 : body s1 = some (e, s2)) (he : e ≠ .normal) : loopN hd body (k + 1) s = some (e, s2) := by
  cases e <;> simp_all [loopN]

/-- A loop that counts up to n: at every head the invariant holds; it goes round, or leaves. -/
theorem loop_count {hd : St → Option St} {body : St → Option (Ex × St)} {Inv : Nat → St → Prop} {Post : Ex → St → Prop} {n : Nat}
    (step : ∀ i s, i < n → Inv i s → ∃ s1 e s2, hd s = some s1 ∧ body s1 = some (e, s2) ∧ if e = .normal then Inv (i + 1) s2 else Post e s2)
    (stop : ∀ s, Inv n s → ∃ s1 e s2, hd s = some s1 ∧ body s1 = some (e, s2) ∧ e ≠ .normal ∧ Post e s2) :
    ∀ (m i : Nat) (s : St) (k : Nat), n - i = m → i ≤ n → m < k → Inv i s → ∃ e s', loopN hd body k s = some (e, s') ∧ Post e s'
  | m, i, s, 0, hm, hi, hk, h => by omega
  | 0, i, s, k + 1, hm, hi, hk, h => by
    obtain rfl : i = n := by omega
    obtain ⟨s1, e, s2, h1, h2, h3, h4⟩ := stop s h
    exact ⟨e, s2, loopN_leave h1 h2 h3, h4⟩
  | m + 1, i, s, k + 1, hm, hi, hk, h => by
    obtain ⟨s1, e, s2, h1, h2, h3⟩ := step i s (by omega) h
    by_cases he : e = .normal
    · subst he
      rw [if_pos rfl] at h3
      obtain ⟨e', s', h4, h5⟩ := loop_count step stop m (i + 1) s2 k (by omega) (by omega) (by omega) h3
      exact ⟨e', s', (loopN_normal h1 h2).trans h4, h5⟩
    · rw [if_neg he] at h3
      exact ⟨e, s2, loopN_leave h1 h2 he, h3⟩

end Go.X
/-
  The evaluator once more, handing on what it finds: where a condition hangs on what came in, the two ways stand side by side at the head of the term, so that the kernel goes on in each.
-/
namespace Go.X

/-- What is known of a condition's temporary. -/
def St.know (A : FAnn) (s : St) (t : Nat) (b : Bool) : St := if A.exp.testBit t then { s with L := upd s.L t (.bool b) } else { s with T := upd s.T t (.bool b) }

def St.knowO (A : FAnn) (s : St) (o : Operand) (b : Bool) : St := match o with
  | .tmp t => s.know A t b
  | _ => s

theorem upd_same : ∀ (l : List (Nat × AV)) (t : Nat) (v : AV), look l t = v → v ≠ .bad → upd l t v = l
  | [], t, v, _, _ => rfl
  | (k, u) :: r, t, v, h, hv => by
    unfold upd
    unfold look at h
    split
    · rename_i hk
      rw [if_pos hk] at h
      rw [h]
    · rename_i hk
      rw [if_neg hk] at h
      rw [upd_same r t v h hv]

theorem know_same {A : FAnn} {s : St} {t : Nat} {b : Bool} (h : s.get A t = .bool b) : s.know A t b = s := by
  unfold St.know
  unfold St.get at h
  split
  · rename_i ht
    rw [if_pos ht] at h
    rw [upd_same _ _ _ h (by simp)]
  · rename_i ht
    rw [if_neg ht] at h
    rw [upd_same _ _ _ h (by simp)]

theorem knowO_same {A : FAnn} {s : St} {o : Operand} {b : Bool} (h : s.eval A o = .bool b) : s.knowO A o b = s := by
  cases o with
  | tmp t => exact know_same h
  | _ => rfl

def AV.toInt : AV → Int
  | .int _ n => n
  | _ => 0
def AV.toBool : AV → Bool
  | .bool b => b
  | _ => false
def AV.toList : AV → List AV
  | .isl _ xs => xs
  | _ => []
def AV.part : AV → Nat → AV
  | .agg _ ps, i => (ps[i]?).getD .bad
  | _, _ => .bad
def AV.isIntK : AV → IntKind → Bool
  | .int k _, j => k == j
  | _, _ => false
def AV.isBoolV : AV → Bool
  | .bool _ => true
  | _ => false
def AV.isNils : AV → Bool
  | .nils => true
  | _ => false
def AV.isIslN : AV → Nat → Bool
  | .isl e _, sz => e == sz
  | _, _ => false
def AV.isAggN : AV → Nat → Nat → Bool
  | .agg n ps, m, l => n == m && ps.length == l
  | _, _, _ => false

def AV.isArrN : AV → Nat → Nat → Bool
  | .arr e xs, sz, n => e == sz && xs.length == n
  | _, _, _ => false
def AV.toArr : AV → List AV
  | .arr _ xs => xs
  | _ => []

section
variable {R : Type} (bot : R) (sym : Bool)

/-- Nothing is told, or the same. -/
def Le (a b : R) : Prop := a = bot ∨ a = b

theorem Le.refl (a : R) : Le bot a a := .inr rfl

theorem Le.trans {a b c : R} (h : Le bot a b) (g : Le bot b c) : Le bot a c := by
  rcases h with h | h
  · exact .inl h
  · subst h; exact g
theorem Le.elim {α : Type} {o : Option α} {f g : α → R} (h : ∀ x, Le bot (f x) (g x)) : Le bot (o.elim bot f) (o.elim bot g) := by
  cases o with
  | none => exact .inl rfl
  | some x => exact h x

def etaL (e : TypeId → AV → (AV → R) → R) : List Field → Nat → AV → (List AV → R) → R
  | [], _, _, k => k []
  | f :: r, i, v, k => e f.type (v.part i) fun p => etaL e r (i + 1) v fun ps => k (p :: ps)

/-- A value of a type, its parts laid open. -/
def etaK (P : Program) : Nat → TypeId → AV → (AV → R) → R
  | 0, _, _, _ => bot
  | d + 1, t, v, k => match P.underlying t with
    | some (.int i) => cond (v.isIntK i) (k (.int i v.toInt)) bot
    | some .bool => cond v.isBoolV (k (.bool v.toBool)) bot
    | some (.slice e) => cond v.isNils (k .nils) (match tsize P e with
      | some sz => cond (v.isIslN sz) (k (.isl sz v.toList)) bot
      | none => bot)
    | some (.struct fs) => match tsize P t with
      | some n => cond (v.isAggN n fs.toList.length) (etaL (etaK P d) fs.toList 0 v fun ps => k (.agg n ps)) bot
      | none => bot
    | some (.array n e) => match tsize P e with
      | some sz => cond (v.isArrN sz n) (k (.arr sz v.toArr)) bot
      | none => bot
    | _ => bot

theorem etaL_le {e : TypeId → AV → (AV → R) → R} (he : ∀ t v k, Le bot (e t v k) (k v)) (v : AV) : ∀ (l : List Field) (i : Nat) (k : List AV → R),
    Le bot (etaL e l i v k) (k ((List.range' i l.length).map v.part))
  | [], i, k => .inr rfl
  | f :: r, i, k => by
    unfold etaL
    refine (he _ _ _).trans bot ?_
    refine (etaL_le he v r (i + 1) _).trans bot ?_
    simp only [List.length_cons, List.range'_succ, List.map_cons]
    exact .inr rfl

theorem etaK_le (P : Program) : ∀ (d : Nat) (t : TypeId) (v : AV) (k : AV → R), Le bot (etaK bot P d t v k) (k v)
  | 0, t, v, k => .inl rfl
  | d + 1, t, v, k => by
    unfold etaK
    split
    · rename_i i hu
      cases hv : v.isIntK i with
      | false => exact .inl rfl
      | true =>
        cases v <;> simp only [AV.isIntK, reduceCtorEq, beq_iff_eq] at hv
        subst hv
        exact .inr rfl
    · cases hv : v.isBoolV with
      | false => exact .inl rfl
      | true =>
        cases v <;> simp only [AV.isBoolV, reduceCtorEq] at hv
        exact .inr rfl
    · rename_i e hu
      cases hv : v.isNils with
      | true =>
        cases v <;> simp only [AV.isNils, reduceCtorEq] at hv
        exact .inr rfl
      | false =>
        simp only [cond_false]
        split
        · rename_i sz hsz
          cases hw : v.isIslN sz with
          | false => exact .inl rfl
          | true =>
            cases v <;> simp only [AV.isIslN, reduceCtorEq, beq_iff_eq] at hw
            subst hw
            exact .inr rfl
        · exact .inl rfl
    · rename_i fs hu
      split
      · rename_i n hn
        cases hv : v.isAggN n fs.toList.length with
        | false => exact .inl rfl
        | true =>
          cases v <;> simp only [AV.isAggN, reduceCtorEq, Bool.and_eq_true, beq_iff_eq] at hv
          rename_i m ps
          obtain ⟨rfl, hl⟩ := hv
          simp only [cond_true]
          refine (etaL_le bot (fun t v k => etaK_le P d t v k) _ fs.toList 0 _).trans bot (.inr ?_)
          congr 2
          apply List.ext_getElem?
          intro i
          rw [List.getElem?_map]
          rcases Nat.lt_or_ge i ps.length with hi | hi
          · rw [List.getElem?_range' (by omega)]
            simp [AV.part, hi]
          · rw [List.getElem?_eq_none (by simpa using (by omega : fs.toList.length ≤ i)), List.getElem?_eq_none hi]
            rfl
      · exact .inl rfl
    · rename_i n e hu
      split
      · cases hv : v.isArrN _ n with
        | false => exact .inl rfl
        | true =>
          cases v <;> simp only [AV.isArrN, reduceCtorEq, Bool.and_eq_true, beq_iff_eq] at hv
          obtain ⟨rfl, _⟩ := hv
          exact .inr rfl
      · exact .inl rfl
    · exact .inl rfl

abbrev OracleK (R : Type) := FuncId → List AV → Heap → (AV → Heap → Bool → R) → R

def KOf (K : Oracle) : OracleK R := fun f args H k => (K f args H).elim bot fun r => k r.1 r.2.1 r.2.2

def enterK (C : Ctx) (KK : OracleK R) (f : FuncId) (args : List AV) (H : Heap) (k : AV → Heap → Bool → R) : R :=
  match C.P.funcs[f]? with
  | some fn => match fn.body with
    | some _ => if fn.name ≠ "runtime.NumGoroutine" then KK f args H k else bot
    | none => (C.U.X f args H).elim bot fun r => k r.1 r.2.1 r.2.2
  | none => bot

def putK (C : Ctx) (s : St) (o : Oper) (k : St → R) (v : AV) (H : Heap) (e : Bool) : R :=
  let s' := { s with H := H, esc := s.esc || e }
  k (match o.dst with
    | some d => s'.set C.A d (if d < C.N then v else .bad)
    | none => s')

/-- What a slice holds. -/
def elemsK (H : Heap) (sz : Nat) (v : AV) (k : List AV → R) : R :=
  match v with
  | .nils => k []
  | .isl e xs => if e = sz then k xs else bot
  | .sl p e n off len => match H.blk p.id with
    | some b => match b.root.at? p.path with
      | some x => match x.2 with
        | .arr e' xs => if e = sz ∧ e' = sz then cond (decide (b.root.flatLen = p.gen)) (cond (decide (x.1 = p.coff)) (cond (decide (xs.length = n)) (cond (decide (off + len ≤ n)) (k ((xs.drop off).take len)) bot) bot) bot) bot else bot
        | _ => bot
      | none => bot
    | none => bot
  | _ => bot

/-- append to a slice that is all of its own block. -/
def appK (P : Program) (H : Heap) (elem : TypeId) (x : AV) (xs : List AV) (k : AV → Heap → R) : R :=
  match tsize P elem, tbytes P elem, (zeroAV P elem).map AV.flatLen with
  | some sz, some by_, some z => if z = sz ∧ 0 < sz then
      cond (reflessL xs) (cond (xs.all fun u => u.flatLen == sz) (match x with
        | .sl p e n off len => match H.blk p.id with
          | some ⟨.arr e' ys, true, fl⟩ => if p.path = [] ∧ p.coff = 0 ∧ e = sz ∧ e' = sz ∧ off = 0 then
              cond (decide (e' * ys.length = p.gen)) (cond (decide (ys.length = n)) (cond (decide (len = n)) (cond (decide ((n + xs.length) * by_ ≤ maxBytes)) (cond (decide (n + xs.length ≤ maxBytes))
                (k (.sl ⟨p.id, 0, [], sz * (n + xs.length)⟩ sz (n + xs.length) 0 (n + xs.length)) (H.set p.id (some ⟨.arr sz (ys ++ xs), true, fl⟩))) bot) bot) bot) bot) bot
            else bot
          | _ => bot
        | _ => bot) bot) bot else bot
  | _, _, _ => bot

/-- append, where what is appended, and what it is appended to, is not known to the last. -/
def appendK (C : Ctx) (argTypes : Array TypeId) (args : List AV) (s : St) (k : AV → Heap → Bool → R) : R :=
  match args with
  | [x, y] => match argTypes[0]?, argTypes[1]? with
    | some t, some u => match C.P.underlying t, C.P.underlying u with
      | some (.slice e), some d => if srcKind d = false then bot else match tsize C.P e with
        | some sz => elemsK bot s.H sz y fun xs => appK bot C.P s.H e x xs fun v H => k v H false
        | none => bot
      | _, _ => bot
    | _, _ => bot
  | _ => bot

def isSl : List AV → Bool
  | .sl .. :: _ => true
  | _ => false

def builtinK (C : Ctx) (b : Builtin) (argTypes : Array TypeId) (args : List AV) (s : St) (k : AV → Heap → Bool → R) : R :=
  match sym, b, isSl args with
  | true, .append, true => appendK bot C argTypes args s k
  | _, _, _ => (evalBuiltin C b argTypes args s).elim bot fun r => k r.1 r.2.1 r.2.2

def goO (C : Ctx) (KK : OracleK R) (s : St) (o : Oper) (k : St → R) : R :=
  match o.op with
  | .call c => match c.callee with
    | .builtin b => builtinK bot sym C b c.argTypes (c.args.toList.map (s.eval C.A)) s (putK C s o k)
    | .value f => (calleeAV C.P (s.eval C.A f) (c.args.toList.map (s.eval C.A))).elim bot fun x => enterK bot C KK x.1 x.2 s.H (putK C s o k)
    | .invoke r m => (methodAV C.P (s.eval C.A r) m).elim bot fun x => enterK bot C KK x.1 (x.2 :: c.args.toList.map (s.eval C.A)) s.H (putK C s o k)
  | .pick c a b => match s.eval C.A c with
    | .bool t => cond t (putK C (s.knowO C.A c true) o k (s.eval C.A a) s.H false) (putK C (s.knowO C.A c false) o k (s.eval C.A b) s.H false)
    | _ => bot
  | .indexAddr t x i => match C.P.underlying t, s.eval C.A x, (s.eval C.A i).idx with
    | some (.slice e), .isl sz xs, some j => if tsize C.P e = some sz then etaK bot C.P 4 e ((xs[j]?).getD .bad) fun v => putK C s o k (.iptr v) s.H false else bot
    | _, _, _ => (evalOp C s o.op o.type).elim bot fun r => putK C s o k r.1 r.2.1 r.2.2
  | op => (evalOp C s op o.type).elim bot fun r => putK C s o k r.1 r.2.1 r.2.2

/-! ### Steps, where indexes, lengths and what lies in memory are not known to the last -/

/-- The part that a way leads to. -/
def AV.elem : AV → Nat → AV
  | .agg _ ps, i => (ps[i]?).getD .bad
  | .arr _ xs, i => (xs[i]?).getD .bad
  | _, _ => .bad
def projT : List Nat → AV → AV
  | [], v => v
  | i :: r, v => projT r (v.elem i)
def setElem : AV → Nat → AV → AV
  | .agg n ps, i, u => .agg n (ps.set i u)
  | .arr e xs, i, u => .arr e (xs.set i u)
  | v, _, _ => v
/-- A value with the part that a way leads to laid anew. -/
def putT : List Nat → AV → AV → AV
  | [], _, u => u
  | i :: r, v, u => setElem v i (putT r (v.elem i) u)

def openL (e : TypeId → AV → (AV → R) → R) : List Field → Nat → AV → (List AV → R) → R
  | [], _, _, k => k []
  | f :: r, i, v, k => e f.type (v.part i) fun p => openL e r (i + 1) v fun ps => k (p :: ps)

/-- A value of a type without pointers, laid open. -/
def openK (P : Program) : Nat → TypeId → AV → (AV → R) → R
  | 0, _, v, k => k v
  | d + 1, t, v, k => match P.underlying t with
    | some (.int i) => cond (v.isIntK i) (k (.int i v.toInt)) bot
    | some .bool => cond v.isBoolV (k (.bool v.toBool)) bot
    | some (.array n e) => match thasp P e, tsize P e with
      | false, some sz => cond (v.isArrN sz n) (k (.arr sz v.toArr)) bot
      | _, _ => k v
    | some (.struct fs) => match thasp P t, tsize P t with
      | false, some n => cond (v.isAggN n fs.toList.length) (openL (openK P d) fs.toList 0 v fun ps => k (.agg n ps)) bot
      | _, _ => k v
    | _ => k v

/-- For sure: the value, if there is one. -/
def sureK {α : Type} (o : Option α) (v : α) (k : α → R) : R := cond o.isSome (k v) bot

def ixK (v : AV) (k : Nat → R) : R := match v with
  | .int _ n => cond (decide (0 ≤ n)) (k n.toNat) bot
  | _ => bot

/-- One of so many. -/
def enumK (j : Nat) (k : Nat → R) : Nat → R
  | 0 => bot
  | m + 1 => cond (decide (j = m)) (k m) (enumK j k m)

def indexAddrS (P : Program) (t : TypeId) (x i : AV) (k : AV → R) : R := match P.underlying t, x with
  | some (.array n e), .ptr p => (tsize P e).elim bot fun sz => ixK bot i fun j => cond (decide (j < n)) (k (.ptr { p with coff := p.coff + j * sz, path := p.path ++ [j] })) bot
  | some (.slice e), .sl p sz _ off len => if tsize P e = some sz then ixK bot i fun j => match thasp P e with
      | false => cond (decide (j < len)) (k (.ptr { p with coff := p.coff + (off + j) * sz, path := p.path ++ [off + j] })) bot
      | true => enumK bot j (fun j => k (.ptr { p with coff := p.coff + (off + j) * sz, path := p.path ++ [off + j] })) len else bot
  | some (.slice e), .isl sz xs => if tsize P e = some sz then ixK bot i fun j => etaK bot P 4 e ((xs[j]?).getD .bad) fun v => k (.iptr v) else bot
  | _, _ => (indexAddrAV P t x i).elim bot k

def indexS (P : Program) (t : TypeId) (x i : AV) (k : AV → R) : R := match P.underlying t, x with
  | some (.array n e), .arr sz xs => if tsize P e = some sz then ixK bot i fun j => cond (decide (j < n)) (etaK bot P 4 e ((xs[j]?).getD .bad) fun v => cond (decide (tagg P e = some v.isAgg)) (k v) bot) bot else bot
  | some .string, .str s => ixK bot i fun j => cond (decide (j < s.size)) (k (.int .u8 ((s.data[j]?).getD 0).toNat)) bot
  | _, _ => (indexAV P t x i).elim bot k

def storeS (P : Program) (n0 : Nat) (H : Heap) (t : TypeId) (a v : AV) (k : Heap → Bool → R) : R := match thasp P t, a with
  | false, .ptr p => (H.blk p.id).elim bot fun b => cond ((storeAV P H t (.ptr p) v).isSome && v.refless) (k (H.set p.id (some ⟨putT p.path b.root v, b.grow, b.flat⟩)) false) bot
  | _, _ => (storeAV P H t a v).elim bot fun H' => k H' (storeFlag n0 a v)

/-- What lies at a place. -/
def loadS (P : Program) (H : Heap) (t : TypeId) (a : AV) (k : AV → R) : R := match thasp P t, a with
  | false, .ptr p => (H.blk p.id).elim bot fun b => cond (loadAV P H t (.ptr p)).isSome (openK bot P 4 t (projT p.path b.root) k) bot
  | _, a => (loadAV P H t a).elim bot k

def boxS (P : Program) (H : Heap) (t : TypeId) (v : AV) (k : AV → Heap → R) : R := match thasp P t with
  | false => cond (v.plain && v.refless) (k (.ptr ⟨H.length, 0, [], v.flatLen⟩) (newBlk H v false true)) bot
  | true => cond v.plain (k (.ptr ⟨H.length, 0, [], v.flatLen⟩) (newBlk H v false v.refless)) bot

def foldPut : AV → List (Nat × AV) → AV
  | acc, [] => acc
  | acc, (i, v) :: r => foldPut (setElem acc i v) r

def buildS (P : Program) (t : TypeId) (parts : List (Nat × AV)) (k : AV → R) : R := (zeroAV P t).elim bot fun z => sureK bot (buildAV P t parts) (foldPut z parts) k

def fieldS (P : Program) (t : TypeId) (x : AV) (f : Nat) (k : AV → R) : R := match x with
  | .agg n ps => sureK bot (fieldAV P t (.agg n ps) f) ((ps[f]?).getD .bad) k
  | _ => bot

def bndK (d : Nat) (x : Option AV) (k : Nat → R) : R := match x with
  | none => k d
  | some v => ixK bot v k

def sliceS (P : Program) (H : Heap) (t : TypeId) (x : AV) (lo hi : Option AV) (k : AV → R) : R := match P.underlying t, x with
  | some (.slice e), .sl p sz n off len => if tsize P e = some sz then bndK bot len hi fun h => bndK bot 0 lo fun l =>
      cond (decide (l ≤ h) && decide (off + h ≤ n) && (decide (h ≤ len) || decide ((H.blk p.id).map (fun (b : Blk) => b.root.flatLen) = some p.gen))) (k (.sl p sz n (off + l) (h - l))) bot else bot
  | some (.slice e), .isl sz xs => if tsize P e = some sz then bndK bot xs.length hi fun h => bndK bot 0 lo fun l =>
      cond (decide (l ≤ h) && decide (h ≤ xs.length)) (k (.isl sz ((xs.drop l).take (h - l)))) bot else bot
  | some .string, .str s => bndK bot s.size hi fun h => bndK bot 0 lo fun l => cond (decide (l ≤ h) && decide (h ≤ s.size)) (k (.str (s.extract l h))) bot
  | some (.array n e), .ptr p => (tsize P e).elim bot fun sz => bndK bot n hi fun h => bndK bot 0 lo fun l =>
      sureK bot (sliceAV P H t (.ptr p) lo hi) (.sl p sz n l (h - l)) k
  | _, _ => (sliceAV P H t x lo hi).elim bot k

def mkSliceS (P : Program) (H : Heap) (t : TypeId) (l c : AV) (k : AV → Heap → R) : R := match P.underlying t with
  | some (.slice e) => (tsize P e).elim bot fun sz => (tbytes P e).elim bot fun by_ => (zeroAV P e).elim bot fun z => if z.flatLen = sz ∧ 0 < sz then ixK bot l fun l => ixK bot c fun c =>
      cond (decide (l ≤ c) && decide (c * by_ ≤ maxBytes) && decide (c ≤ maxBytes)) (k (.sl ⟨H.length, 0, [], sz * l⟩ sz l 0 l) (newBlk H (.arr sz (List.replicate l z)) true true)) bot else bot
  | _ => bot

def eqS (P : Program) (o : BinOp) (t : TypeId) (x y : Operand) (a b : AV) (k : AV → R) : R := match a.scalar, b.scalar with
  | some cx, some cy => (scalBin P o t cx cy).elim bot k
  | none, none => if a.isAgg && P.eqGuardType P.depth t then bot else match o with
    | .eql => (eqNil P t x y a b).elim bot fun r => k (.bool r)
    | .neq => (eqNil P t x y a b).elim bot fun r => k (.bool !r)
    | _ => bot
  | _, _ => bot

def strOfL (xs : List AV) : ByteArray := ⟨(xs.map fun v => UInt8.ofNat v.toInt.toNat).toArray⟩

def convS (P : Program) (H : Heap) (src dst : TypeId) (x : AV) (k : AV → Heap → R) : R := match P.underlying src, P.underlying dst with
  | some (.slice e), some .string => (match P.underlying e with
    | some (.int .u8) => elemsK bot H 1 x fun xs => sureK bot (bytesOf xs) (xs.map fun v => UInt8.ofNat v.toInt.toNat) fun l => k (.str ⟨l.toArray⟩) H
    | _ => bot)
  | _, _ => (convertAV P H src dst x).elim bot fun r => k r.1 r.2

/-- append of what leads nowhere. -/
def appS (P : Program) (H : Heap) (elem : TypeId) (x : AV) (xs : List AV) (k : AV → Heap → R) : R :=
  match tsize P elem, tbytes P elem, (zeroAV P elem).map AV.flatLen with
  | some sz, some by_, some z => if z = sz ∧ 0 < sz then
      cond (reflessL xs && xs.all fun u => u.flatLen == sz) (match x with
        | .nils => cond xs.isEmpty (k .nils H) (cond (decide (xs.length * by_ ≤ maxBytes) && decide (xs.length ≤ maxBytes))
            (k (.sl ⟨H.length, 0, [], sz * xs.length⟩ sz xs.length 0 xs.length) (newBlk H (.arr sz xs) true true)) bot)
        | .sl p e n off len => match H.blk p.id with
          | some ⟨.arr e' ys, g, fl⟩ => if p.path = [] ∧ p.coff = 0 ∧ e = sz ∧ e' = sz then
              cond (decide (e' * ys.length = p.gen) && decide (ys.length = n) && decide (off + len ≤ n))
                (cond (decide (off + len + xs.length ≤ n)) (k (.sl p sz n off (len + xs.length)) (H.set p.id (some ⟨.arr sz (setMany ys (off + len) xs), g, fl⟩)))
                  (cond (decide (off = 0) && decide (len = n) && g && decide ((n + xs.length) * by_ ≤ maxBytes) && decide (n + xs.length ≤ maxBytes))
                    (k (.sl ⟨p.id, 0, [], sz * (n + xs.length)⟩ sz (n + xs.length) 0 (n + xs.length)) (H.set p.id (some ⟨.arr sz (ys ++ xs), true, fl⟩))) bot)) bot
            else bot
          | _ => bot
        | _ => bot) bot else bot
  | _, _, _ => bot

def srcS (H : Heap) (sz : Nat) (y : AV) (k : List AV → R) : R := match y with
  | .str b => if sz = 1 then k (strAV b) else bot
  | y => elemsK bot H sz y k

def copyS (C : Ctx) (H : Heap) (t : TypeId) (d y : AV) (k : AV → Heap → Bool → R) : R := match C.P.underlying t with
  | some (.slice e) => match thasp C.P e, d with
    | false, .sl p e' n off len => (tsize C.P e).elim bot fun sz => srcS bot H sz y fun xs => (H.blk p.id).elim bot fun b =>
        cond ((copyAV C.P H t (.sl p e' n off len) y).isSome && reflessL xs && b.flat) (k (.int .i64 ((min xs.length len : Nat) : Int))
          (H.set p.id (some ⟨putT p.path b.root (.arr sz (setMany (projT p.path b.root).toArr off (xs.take (min xs.length len)))), b.grow, true⟩)) false) bot
    | _, _ => (copyAV C.P H t d y).elim bot fun r => k r.1 r.2 (copyFlag C.n0 r.2 d)
  | _ => bot

def clearS (P : Program) (H : Heap) (t : TypeId) (d : AV) (k : AV → Heap → R) : R := match P.underlying t, d with
  | some (.slice e), .sl p sz n off len => (zeroAV P e).elim bot fun z => (H.blk p.id).elim bot fun b =>
      sureK bot (clearAV P H t (.sl p sz n off len)) (.tuple [], H.set p.id (some ⟨putT p.path b.root (.arr sz (setMany (projT p.path b.root).toArr off (List.replicate len z))), b.grow, b.flat⟩)) fun r => k r.1 r.2
  | _, _ => (clearAV P H t d).elim bot fun r => k r.1 r.2

def appendS (C : Ctx) (argTypes : Array TypeId) (args : List AV) (s : St) (k : AV → Heap → Bool → R) : R :=
  match args with
  | [x, y] => match argTypes[0]?, argTypes[1]? with
    | some t, some u => match C.P.underlying t, C.P.underlying u with
      | some (.slice e), some d => match thasp C.P e, srcKind d, tsize C.P e with
        | false, true, some sz => srcS bot s.H sz y fun xs => appS bot C.P s.H e x xs fun v H => k v H false
        | _, _, _ => (evalBuiltin C .append argTypes [x, y] s).elim bot fun r => k r.1 r.2.1 r.2.2
      | _, _ => bot
    | _, _ => bot
  | _ => bot

def builtinS (C : Ctx) (b : Builtin) (argTypes : Array TypeId) (args : List AV) (s : St) (k : AV → Heap → Bool → R) : R :=
  match b, args with
  | .append, args => appendS bot C argTypes args s k
  | .copy, [d, y] => (argTypes[0]?).elim bot fun t => copyS bot C s.H t d y k
  | .clear, [d] => (argTypes[0]?).elim bot fun t => clearS bot C.P s.H t d fun v H => k v H false
  | b, args => (evalBuiltin C b argTypes args s).elim bot fun r => k r.1 r.2.1 r.2.2

def goS (C : Ctx) (KK : OracleK R) (s : St) (o : Oper) (k : St → R) : R :=
  match o.op with
  | .call c => match c.callee with
    | .builtin b => builtinS bot C b c.argTypes (c.args.toList.map (s.eval C.A)) s (putK C s o k)
    | .value f => (calleeAV C.P (s.eval C.A f) (c.args.toList.map (s.eval C.A))).elim bot fun x => enterK bot C KK x.1 x.2 s.H (putK C s o k)
    | .invoke r m => (methodAV C.P (s.eval C.A r) m).elim bot fun x => enterK bot C KK x.1 (x.2 :: c.args.toList.map (s.eval C.A)) s.H (putK C s o k)
  | .pick c a b => match s.eval C.A c with
    | .bool t => cond t (putK C (s.knowO C.A c true) o k (s.eval C.A a) s.H false) (putK C (s.knowO C.A c false) o k (s.eval C.A b) s.H false)
    | _ => bot
  | .indexAddr t x i => indexAddrS bot C.P t (s.eval C.A x) (s.eval C.A i) fun v => putK C s o k v s.H false
  | .index t x i => indexS bot C.P t (s.eval C.A x) (s.eval C.A i) fun v => putK C s o k v s.H false
  | .load t (.global g) => ((C.U.G g).bind fun v => loadAV C.P s.H t (.iptr v)).elim bot fun v => putK C s o k v s.H false
  | .load t a => loadS bot C.P s.H t (s.eval C.A a) fun v => putK C s o k v s.H false
  | .store t a x => storeS bot C.P C.n0 s.H t (s.eval C.A a) (s.eval C.A x) fun H' e => putK C s o k .bad H' e
  | .box t x => boxS bot C.P s.H t (s.eval C.A x) fun v H => putK C s o k v H false
  | .build t parts => buildS bot C.P t (parts.toList.map fun x => (x.1, s.eval C.A x.2)) fun v => putK C s o k v s.H false
  | .field t x f => fieldS bot C.P t (s.eval C.A x) f fun v => putK C s o k v s.H false
  | .slice t x lo hi none => sliceS bot C.P s.H t (s.eval C.A x) (lo.map (s.eval C.A)) (hi.map (s.eval C.A)) fun v => putK C s o k v s.H false
  | .makeSlice t l c => mkSliceS bot C.P s.H t (s.eval C.A l) (s.eval C.A c) fun v H => putK C s o k v H false
  | .binOp op t x y _ => eqS bot C.P op t x y (s.eval C.A x) (s.eval C.A y) fun v => putK C s o k v s.H false
  | .convert src dst x => convS bot C.P s.H src dst (s.eval C.A x) fun v H => putK C s o k v H false
  | .lookup t x i ok => (lookupAV C.P s.H t (s.eval C.A x) (s.eval C.A i) ok).elim bot fun v => openK bot C.P 4 o.type v fun v => putK C s o k v s.H false
  | .mapUpdate t m i v => (match s.eval C.A m, s.eval C.A i with
    | .map id, .int ik n => (s.H.mp id).elim bot fun es => sureK bot (mapUpdateAV C.P s.H t (.map id) (.int ik n) (s.eval C.A v)) (s.H.set id (some ⟨.tuple (mapPut ik n (s.eval C.A v) es), false, true⟩)) fun H' => putK C s o k .bad H' false
    | _, _ => bot)
  | op => (evalOp C s op o.type).elim bot fun r => putK C s o k r.1 r.2.1 r.2.2

def goK (C : Ctx) (KK : OracleK R) (s : St) (o : Oper) (k : St → R) : R := match sym with
  | true => goS bot C KK s o k
  | false => goO bot false C KK s o k

def skipK (C : Ctx) (s : St) (o : Oper) (k : St → R) : R := k (match o.dst with | some d => s.set C.A d .undf | none => s)

def stepOpK (C : Ctx) (KK : OracleK R) (ops : List Oper) (s : St) (o : Oper) (k : St → R) : R :=
  match o.guard with
  | none => goK bot sym C KK s o k
  | some (j, want) => match (ops[j]?).bind (·.dst) with
    | some d => match s.get C.A d with
      | .bool b => cond b (cond want (goK bot sym C KK (s.know C.A d true) o k) (skipK C (s.know C.A d true) o k)) (cond want (skipK C (s.know C.A d false) o k) (goK bot sym C KK (s.know C.A d false) o k))
      | .undf => skipK C s o k
      | _ => bot
    | none => bot

def runOpsK (C : Ctx) (KK : OracleK R) (ops : List Oper) : List Oper → St → (St → R) → R
  | [], s, k => k s
  | o :: r, s, k => stepOpK bot sym C KK ops s o fun s => runOpsK C KK ops r s k

def runOrdK (C : Ctx) (KK : OracleK R) (ops : List Oper) (flo : List Nat) : List Nat → St → (St → List (Heap × Bool) → R) → R
  | [], s, k => k s []
  | i :: r, s, k => match ops[i]? with
    | some o => stepOpK bot sym C KK ops s o fun s' => if flo.contains i && !lastBare s'.H then bot else
        runOrdK C KK ops flo r s' fun s'' hs => k s'' (if isLoud C.P o.op then (s'.H, s'.esc) :: hs else hs)
    | none => bot

/-- An operation that reads, looked at with another memory of the way. -/
def chkOneK (C : Ctx) (ops : List Oper) (s : St) (o : Oper) (H : Heap) (k : R) : R :=
  match wantedAV C.A ops s o with
  | some true => match evalOp C { s with H } o.op o.type with
    | some r => match o.dst with
      | some d => match s.get C.A d with
        | .bad => k
        | v => if d < C.N then cond (r.1.beq v) k bot else bot
      | none => k
    | none => bot
  | some false => k
  | none => bot

def chkPsK (C : Ctx) (ops : List Oper) (s : St) (o : Oper) (hs : List (Heap × Bool)) : List Nat → R → R
  | [], k => k
  | p :: r, k => match hs[p]? with
    | some h => chkOneK bot C ops s o h.1 (chkPsK C ops s o hs r k)
    | none => chkPsK C ops s o hs r k

def chkAllK (C : Ctx) (ops : List Oper) (s : St) (hs : List (Heap × Bool)) : List (Nat × List Nat) → R → R
  | [], k => k
  | x :: r, k => match ops[x.1]? with
    | some o => chkPsK bot C ops s o hs x.2 (chkAllK C ops s hs r k)
    | none => chkAllK C ops s hs r k

def runRegionK (C : Ctx) (KK : OracleK R) (id : Nat) (ops : Array Oper) (draw : Bool) (s : St) (k : St → R) : R :=
  let s := { s with T := [] }
  if draw then
    match C.A.ord.lookup id with
    | some a => runOrdK bot sym C KK ops.toList a.flo a.order s fun s' hs => chkAllK bot C ops.toList s' ((s.H, s.esc) :: hs) a.chk (k s')
    | none => bot
  else runOpsK bot sym C KK ops.toList ops.toList s k

/-- A loop, from its head on: the head's forgetting is done. -/
def loopB (hd : St → Option St) (body : St → (Ex → St → R) → R) : Nat → St → (Ex → St → R) → R
  | 0, _, _ => bot
  | n + 1, s, k => body s fun e s => match e with
      | .normal => (hd s).elim bot fun s => loopB hd body n s k
      | .exit i => k (.exit i) s
      | .ret => k .ret s

def evalCK (C : Ctx) (KK : OracleK R) (fuel : Nat) : Nat → Code → St → (Ex → St → R) → R
  | _, .skip, s, k => k .normal s
  | _, .region id ops draw, s, k => runRegionK bot sym C KK id ops draw s fun s => k .normal { s with T := [] }
  | cur, .seq a b, s, k => evalCK C KK fuel cur a s fun e s => match e with
      | .normal => evalCK C KK fuel cur b s k
      | .exit i => k (.exit i) s
      | .ret => k .ret s
  | cur, .cond c a b, s, k => match s.eval C.A c with
      | .bool t => cond t (evalCK C KK fuel cur a (s.knowO C.A c true) k) (evalCK C KK fuel cur b (s.knowO C.A c false) k)
      | _ => bot
  | _, .block id c, s, k => evalCK C KK fuel id c s fun e s => match e with
      | .exit i => if i = id then k .normal s else k (.exit i) s
      | .normal => k .normal s
      | .ret => k .ret s
  | cur, .loop c, s, k => (headSt C ((C.A.keep.lookup cur).getD 0) s).elim bot fun s => loopB bot (headSt C ((C.A.keep.lookup cur).getD 0)) (fun s k => evalCK C KK fuel 0 c s k) fuel s k
  | _, .exit i, s, k => k (.exit i) s
  | _, .ret, s, k => k .ret s
  | cur, .rangeFunc g ps a b, s, k => (evalC C fuel cur (.rangeFunc g ps a b) s).elim bot fun x => k x.1 x.2
  | _, _, _, _ => bot

def finK (C : Ctx) (fn : Func) (n0 : Nat) (k : AV → Heap → Bool → R) : Ex → St → R := fun e s => match e with
  | .exit _ => bot
  | _ => (fn.results.toList.mapM (resultAV C s)).elim bot fun vs =>
    let v := pickAV vs
    (sweepA C.A s.H n0 v.refs s.esc).elim bot fun H' => k v H' (escA C.A s.esc)

def evalFK (P : Program) (U : Out) (ann : FuncId → FAnn) (fuel : Nat) (K : Oracle) (KK : OracleK R) : OracleK R := fun f args H k =>
  match P.funcs[f]? with
  | some fn => match fn.body with
    | some c =>
      let C : Ctx := ⟨P, K, H.length, max fn.ntmps args.length, ann f, U, noY, evalI P U ann fuel K⟩
      evalCK bot sym C KK fuel 0 c ⟨initL C.A.keys args, [], H, false⟩ (finK bot C fn H.length k)
    | none => bot
  | none => bot

def evalNK (P : Program) (U : Out) (ann : FuncId → FAnn) (fuel : Nat) (K : Oracle) : Nat → OracleK R
  | 0 => KOf bot K
  | n + 1 => fun f args H k => match K f args H with
    | some r => k r.1 r.2.1 r.2.2
    | none => evalFK bot sym P U ann fuel (evalN P U ann fuel K n) (evalNK P U ann fuel K n) f args H k

/-- Code, gone on with inside a loop: the way to the loop, how often it may go round, the state at its head. -/
def resumeCK (C : Ctx) (KK : OracleK R) (fuel : Nat) (n : Nat) : List Bool → Nat → Code → St → (Ex → St → R) → R
  | p, _, .block id c, s, k => resumeCK C KK fuel n p id c s fun e s => match e with
      | .exit i => if i = id then k .normal s else k (.exit i) s
      | .normal => k .normal s
      | .ret => k .ret s
  | false :: p, cur, .seq a b, s, k => resumeCK C KK fuel n p cur a s fun e s => match e with
      | .normal => evalCK bot sym C KK fuel cur b s k
      | .exit i => k (.exit i) s
      | .ret => k .ret s
  | true :: p, cur, .seq _ b, s, k => resumeCK C KK fuel n p cur b s k
  | false :: p, cur, .cond _ a _, s, k => resumeCK C KK fuel n p cur a s k
  | true :: p, cur, .cond _ _ b, s, k => resumeCK C KK fuel n p cur b s k
  | [], cur, .loop c, s, k => loopB bot (headSt C ((C.A.keep.lookup cur).getD 0)) (fun s k => evalCK bot sym C KK fuel 0 c s k) n s k
  | _, _, _, _, _ => bot

/-- A function, gone on with inside a loop. -/
def resumeFK (P : Program) (U : Out) (ann : FuncId → FAnn) (fuel : Nat) (K : Oracle) (KK : OracleK R) (f : FuncId) (nargs n0 : Nat) (p : List Bool) (n : Nat) (s : St) (k : AV → Heap → Bool → R) : R :=
  match P.funcs[f]? with
  | some fn => match fn.body with
    | some c =>
      let C : Ctx := ⟨P, K, n0, max fn.ntmps nargs, ann f, U, noY, evalI P U ann fuel K⟩
      resumeCK bot sym C KK fuel n p 0 c s (finK bot C fn n0 k)
    | none => bot
  | none => bot

/-! Where it tells something, it is the same. -/
variable {C : Ctx} {KK : OracleK R}

theorem etaK_some {P : Program} {d : Nat} {t : TypeId} {xs : List AV} {j : Nat} {k : AV → R} : Le bot (etaK bot P d t ((xs[j]?).getD .bad) k) ((xs[j]?).elim bot k) := by
  cases hx : xs[j]? with
  | some v => exact etaK_le bot P d t v k
  | none =>
    left
    cases d with
    | zero => rfl
    | succ d =>
      unfold etaK
      split <;> try rfl
      · split <;> rfl
      · split <;> rfl
      · split <;> rfl

theorem enterK_le (hK : ∀ f args H k, Le bot (KK f args H k) (KOf bot C.K f args H k)) (f : FuncId) (args : List AV) (s : St) (k : AV → Heap → Bool → R) :
    Le bot (enterK bot C KK f args s.H k) ((enterAV C f args s).elim bot fun r => k r.1 r.2.1 r.2.2) := by
  unfold enterK enterAV
  split
  · rename_i fn hf
    rw [hf]
    simp only
    split
    · rename_i c hb
      rw [hb]
      simp only
      split
      · exact hK _ _ _ _
      · exact .inl rfl
    · rename_i hb
      rw [hb]
      exact .inr rfl
  · exact .inl rfl

theorem elemsK_le (H : Heap) (sz : Nat) (v : AV) (k : List AV → R) : Le bot (elemsK bot H sz v k) ((elemsAV H sz v).elim bot k) := by
  unfold elemsK
  split
  · exact .inr rfl
  · split
    · rename_i he
      right
      simp [elemsAV, he]
    · exact .inl rfl
  · rename_i p e n off len
    split
    · rename_i b hb
      split
      · rename_i x hx
        split
        · rename_i e' xs hx2
          split
          · rename_i he
            cases h1 : decide (b.root.flatLen = p.gen) with
            | false => exact .inl rfl
            | true => cases h2 : decide (x.1 = p.coff) with
              | false => exact .inl rfl
              | true => cases h3 : decide (xs.length = n) with
                | false => exact .inl rfl
                | true => cases h4 : decide (off + len ≤ n) with
                  | false => exact .inl rfl
                  | true =>
                    right
                    simp only [decide_eq_true_eq] at h1 h2 h3 h4
                    simp [elemsAV, hb, hx, hx2, h1, h2, h3, h4, he]
          · exact .inl rfl
        · exact .inl rfl
      · exact .inl rfl
    · exact .inl rfl
  · exact .inl rfl

theorem appK_le {P : Program} (H : Heap) (elem : TypeId) (x : AV) (xs : List AV) (k : AV → Heap → R) (hsl : isSl [x] = true) :
    Le bot (appK bot P H elem x xs k) ((appendAV P H elem x xs).elim bot fun r => k r.1 r.2) ∧ (appK bot P H elem x xs k ≠ bot → reflessL xs = true) := by
  unfold appK
  split
  · rename_i sz by_ z hz hb hzz
    split
    · rename_i hc
      obtain ⟨rfl, hpos⟩ := hc
      cases hr : reflessL xs with
      | false => exact ⟨.inl rfl, fun h => absurd rfl h⟩
      | true =>
        refine ⟨?_, fun _ => rfl⟩
        cases ha : (xs.all fun u => u.flatLen == z) with
        | false => exact .inl rfl
        | true =>
          simp only [cond_true]
          cases x <;> simp only [isSl, reduceCtorEq] at hsl
          rename_i p e n off len
          simp only
          split
          · rename_i e' ys fl hblk
            split
            · rename_i hq
              obtain ⟨hp, hco, rfl, rfl, rfl⟩ := hq
              cases h1 : decide (e' * ys.length = p.gen) with
              | false => exact .inl rfl
              | true => cases h2 : decide (ys.length = n) with
                | false => exact .inl rfl
                | true => cases h3 : decide (len = n) with
                  | false => exact .inl rfl
                  | true => cases h4 : decide ((n + xs.length) * by_ ≤ maxBytes) with
                    | false => exact .inl rfl
                    | true => cases h5 : decide (n + xs.length ≤ maxBytes) with
                      | false => exact .inl rfl
                      | true =>
                        right
                        simp only [decide_eq_true_eq] at h1 h2 h3 h4 h5
                        subst h2 h3
                        obtain ⟨pid, pco, pp, pg⟩ := p
                        simp only at hp hco h1 hblk
                        subst hp hco h1
                        simp only [cond_true]
                        cases xs with
                        | nil =>
                          have hset : H.set pid (some ⟨.arr e' ys, true, fl⟩) = H := by
                            have : H[pid]? = some (some ⟨.arr e' ys, true, fl⟩) := by
                              unfold Heap.blk at hblk
                              cases hh : H[pid]? with
                              | none => rw [hh] at hblk; simp [blkOf] at hblk
                              | some y => rw [hh] at hblk; exact congrArg some (blkOf_some hblk)
                            apply List.ext_getElem?
                            intro j
                            rw [List.getElem?_set]
                            split
                            · rename_i hj
                              subst hj
                              rw [this]
                              have := (List.getElem?_eq_some_iff.1 this).1
                              simp [this]
                            · rfl
                          rw [List.append_nil, hset]
                          simp [appendAV, hz, hb]
                        | cons y r =>
                          have hlt : ¬ (0 + ys.length + (y :: r).length ≤ ys.length) := by simp
                          have hall : ((y :: r).all fun u => u.flatLen == e') = true := ha
                          have hfl : (AV.arr e' ys).flatLen = e' * ys.length := rfl
                          have hat : (AV.arr e' ys).at? [] = some (0, .arr e' ys) := rfl
                          unfold appendAV
                          simp only [hz, hb, Option.bind_some]
                          rw [if_pos ⟨hzz, hall, hpos⟩]
                          simp only [hblk, hat, hfl, Option.bind_some]
                          rw [if_pos ⟨trivial, trivial, trivial, trivial, trivial, by omega⟩, if_neg hlt, if_pos ⟨trivial, trivial, trivial, trivial, h4, h5⟩]
                          simp [hr]
            · exact .inl rfl
          · exact .inl rfl
    · exact ⟨.inl rfl, fun h => absurd rfl h⟩
  · exact ⟨.inl rfl, fun h => absurd rfl h⟩

theorem builtinK_le (b : Builtin) (argTypes : Array TypeId) (args : List AV) (s : St) (k : AV → Heap → Bool → R) :
    Le bot (builtinK bot sym C b argTypes args s k) ((evalBuiltin C b argTypes args s).elim bot fun r => k r.1 r.2.1 r.2.2) := by
  unfold builtinK
  split
  · rename_i hsl
    unfold appendK
    split
    · rename_i x y
      split
      · rename_i t u ht hu
        split
        · rename_i e d he hd
          split
          · exact .inl rfl
          · rename_i hk
            split
            · rename_i sz hsz
              refine (elemsK_le bot _ _ _ _).trans bot ?_
              cases hx : elemsAV s.H sz y with
              | none => exact .inl rfl
              | some xs =>
                simp only [Option.elim_some]
                obtain ⟨k1, k2⟩ := appK_le bot (P := C.P) s.H e x xs (fun v H => k v H false) (by cases x <;> simp_all [isSl])
                by_cases hbot : appK bot C.P s.H e x xs (fun v H => k v H false) = bot
                · exact .inl hbot
                · have hr := k2 hbot
                  refine k1.trans bot (.inr ?_)
                  have hsrc : srcAV s.H sz y = some xs := by
                    cases y <;> first | exact hx | (simp [elemsAV] at hx; done)
                  have hfl : appendFlag C.n0 x xs = false := by
                    unfold appendFlag
                    cases x <;> simp [hr]
                  simp only [evalBuiltin, ht, hu, he, hd, hk, hsz, hsrc, hr, Option.bind_some, Bool.not_true, Bool.and_false, Bool.false_eq_true, if_false]
                  cases appendAV C.P s.H e x xs with
                  | none => rfl
                  | some r => simp [hfl]
            · exact .inl rfl
        · exact .inl rfl
      · exact .inl rfl
    · exact .inl rfl
  · exact .inr rfl

theorem cond_le {c : Bool} {a b : R} (h : c = true → Le bot a b) : Le bot (cond c a bot) b := by
  cases c
  · exact .inl rfl
  · exact h rfl
theorem sure_le {α : Type} {o : Option α} {v : α} {k : α → R} (h : ∀ r, o = some r → r = v) : Le bot (sureK bot o v k) (o.elim bot k) := by
  unfold sureK
  cases o with
  | none => exact .inl rfl
  | some r => right; rw [h r rfl]; rfl

theorem openL_le {e : TypeId → AV → (AV → R) → R} (he : ∀ t v k, Le bot (e t v k) (k v)) (v : AV) : ∀ (l : List Field) (i : Nat) (k : List AV → R),
    Le bot (openL e l i v k) (k ((List.range' i l.length).map v.part))
  | [], i, k => .inr rfl
  | f :: r, i, k => by
    unfold openL
    refine (he _ _ _).trans bot ?_
    refine (openL_le he v r (i + 1) _).trans bot ?_
    simp only [List.length_cons, List.range'_succ, List.map_cons]
    exact .inr rfl

theorem openK_le (P : Program) : ∀ (d : Nat) (t : TypeId) (v : AV) (k : AV → R), Le bot (openK bot P d t v k) (k v)
  | 0, t, v, k => .inr rfl
  | d + 1, t, v, k => by
    unfold openK
    split
    · rename_i i hu
      refine cond_le bot fun hv => ?_
      cases v <;> simp only [AV.isIntK, reduceCtorEq, beq_iff_eq] at hv
      subst hv
      exact .inr rfl
    · refine cond_le bot fun hv => ?_
      cases v <;> simp only [AV.isBoolV, reduceCtorEq] at hv
      exact .inr rfl
    · split
      · refine cond_le bot fun hv => ?_
        cases v <;> simp only [AV.isArrN, reduceCtorEq, Bool.and_eq_true, beq_iff_eq] at hv
        obtain ⟨rfl, _⟩ := hv
        exact .inr rfl
      · exact .inr rfl
    · rename_i fs hu
      split
      · rename_i n hn hs
        refine cond_le bot fun hv => ?_
        cases v <;> simp only [AV.isAggN, reduceCtorEq, Bool.and_eq_true, beq_iff_eq] at hv
        rename_i m ps
        obtain ⟨rfl, hl⟩ := hv
        refine (openL_le bot (fun t v k => openK_le P d t v k) _ fs.toList 0 _).trans bot (.inr ?_)
        congr 2
        apply List.ext_getElem?
        intro i
        rw [List.getElem?_map]
        rcases Nat.lt_or_ge i ps.length with hi | hi
        · rw [List.getElem?_range' (by omega)]
          simp [AV.part, hi]
        · rw [List.getElem?_eq_none (by simpa using (by omega : fs.toList.length ≤ i)), List.getElem?_eq_none hi]
          rfl
      · exact .inr rfl
    · exact .inr rfl

theorem ixK_le (v : AV) (k : Nat → R) : Le bot (ixK bot v k) (v.idx.elim bot k) := by
  unfold ixK
  split
  · rename_i kk n
    refine cond_le bot fun h => .inr ?_
    simp only [decide_eq_true_eq] at h
    simp [AV.idx, h]
  · exact .inl rfl

theorem enumK_le (j : Nat) (k : Nat → R) : ∀ (m : Nat), Le bot (enumK bot j k m) (if j < m then k j else bot)
  | 0 => .inl rfl
  | m + 1 => by
    unfold enumK
    by_cases h : j = m
    · subst h
      rw [decide_eq_true rfl, if_pos (by omega)]
      exact .inr rfl
    · rw [decide_eq_false h, cond_false]
      refine (enumK_le j k m).trans bot ?_
      by_cases h2 : j < m
      · rw [if_pos h2, if_pos (by omega)]; exact .inr rfl
      · rw [if_neg h2]; exact .inl rfl

theorem elimBind {α β : Type} (o : Option α) (f : α → Option β) (k : β → R) : (o.bind f).elim bot k = o.elim bot fun a => (f a).elim bot k := by cases o <;> rfl

theorem indexAddrS_le (P : Program) (t : TypeId) (x i : AV) (k : AV → R) : Le bot (indexAddrS bot P t x i k) ((indexAddrAV P t x i).elim bot k) := by
  unfold indexAddrS
  split
  · rename_i n e p hu
    cases hz : tsize P e with
    | none => exact .inl rfl
    | some sz =>
      simp only [Option.elim_some]
      refine (ixK_le bot _ _).trans bot ?_
      unfold indexAddrAV
      rw [elimBind]
      refine Le.elim bot fun j => ?_
      simp only [hu, hz, Option.bind_some]
      refine cond_le bot fun h => .inr ?_
      simp only [decide_eq_true_eq] at h
      rw [if_pos h]
      rfl
  · rename_i e p sz n off len hu
    split
    · rename_i hz
      refine (ixK_le bot _ _).trans bot ?_
      unfold indexAddrAV
      rw [elimBind]
      refine Le.elim bot fun j => ?_
      simp only [hu, hz]
      cases thasp P e with
      | false =>
        refine cond_le bot fun h => .inr ?_
        simp only [decide_eq_true_eq] at h
        simp [h]
      | true =>
        refine (enumK_le bot _ _ _).trans bot ?_
        by_cases h : j < len
        · rw [if_pos h]; right; simp [h]
        · rw [if_neg h]; exact .inl rfl
    · exact .inl rfl
  · rename_i e sz xs hu
    split
    · rename_i hz
      refine (ixK_le bot _ _).trans bot ?_
      unfold indexAddrAV
      rw [elimBind]
      refine Le.elim bot fun j => ?_
      simp only [hu, hz, if_true]
      refine (etaK_some bot).trans bot (.inr ?_)
      cases xs[j]? <;> rfl
    · exact .inl rfl
  · exact .inr rfl

theorem indexS_le (P : Program) (t : TypeId) (x i : AV) (k : AV → R) : Le bot (indexS bot P t x i k) ((indexAV P t x i).elim bot k) := by
  unfold indexS
  split
  · rename_i n e sz xs hu
    split
    · rename_i hz
      refine (ixK_le bot _ _).trans bot ?_
      unfold indexAV
      rw [elimBind]
      refine Le.elim bot fun j => ?_
      simp only [hu]
      refine cond_le bot fun h => ?_
      simp only [decide_eq_true_eq] at h
      rw [if_pos ⟨h, hz⟩]
      refine (etaK_some bot).trans bot ?_
      rw [elimBind]
      refine Le.elim bot fun v => ?_
      refine cond_le bot fun h => .inr ?_
      simp only [decide_eq_true_eq] at h
      rw [if_pos h]
      rfl
    · exact .inl rfl
  · rename_i s hu
    refine (ixK_le bot _ _).trans bot ?_
    unfold indexAV
    rw [elimBind]
    refine Le.elim bot fun j => ?_
    simp only [hu]
    refine cond_le bot fun h => .inr ?_
    simp only [decide_eq_true_eq] at h
    have hj : j < s.data.size := h
    simp [Array.getElem?_eq_getElem hj]
  · exact .inr rfl

theorem put_putT : ∀ (path : List Nat) (root v r : AV), root.put? path v = some r → putT path root v = r
  | [], root, v, r, h => by
    cases root <;> simp only [AV.put?] at h <;> split at h <;> first | (obtain rfl := Option.some.inj h; rfl) | cases h
  | i :: path, root, v, r, h => by
    cases root <;> simp only [AV.put?, reduceCtorEq] at h
    · simp only [Option.bind_eq_some_iff, Option.map_eq_some_iff] at h
      obtain ⟨p, hp, q, hq, rfl⟩ := h
      simp [putT, setElem, AV.elem, hp, put_putT path p v q hq]
    · simp only [Option.bind_eq_some_iff, Option.map_eq_some_iff] at h
      obtain ⟨p, hp, q, hq, rfl⟩ := h
      simp [putT, setElem, AV.elem, hp, put_putT path p v q hq]
theorem at_projT : ∀ (path : List Nat) (root : AV) (o : Nat) (u : AV), root.at? path = some (o, u) → projT path root = u
  | [], root, o, u, h => by
    have : (0, root) = (o, u) := by cases root <;> simpa [AV.at?] using h
    exact (Prod.mk.inj this).2
  | i :: path, root, o, u, h => by
    cases root <;> simp only [AV.at?, reduceCtorEq] at h
    · simp only [Option.bind_eq_some_iff, Option.map_eq_some_iff, Prod.exists, Prod.mk.injEq] at h
      obtain ⟨p, hp, o', u', hq, _, rfl⟩ := h
      simp [projT, AV.elem, hp, at_projT path p o' u' hq]
    · simp only [Option.bind_eq_some_iff, Option.map_eq_some_iff, Prod.exists, Prod.mk.injEq] at h
      obtain ⟨p, hp, o', u', hq, _, rfl⟩ := h
      simp [projT, AV.elem, hp, at_projT path p o' u' hq]

theorem storeS_le (P : Program) (n0 : Nat) (H : Heap) (t : TypeId) (a v : AV) (k : Heap → Bool → R) : Le bot (storeS bot P n0 H t a v k) ((storeAV P H t a v).elim bot fun H' => k H' (storeFlag n0 a v)) := by
  unfold storeS
  split
  · rename_i p ht
    cases hb : H.blk p.id with
    | none => exact .inl rfl
    | some b =>
      simp only [Option.elim_some]
      refine cond_le bot fun h => ?_
      simp only [Bool.and_eq_true, Option.isSome_iff_exists] at h
      obtain ⟨⟨H', hH⟩, hr⟩ := h
      rw [hH]
      right
      have hfl : storeFlag n0 (.ptr p) v = false := by simp [storeFlag, escapes, hr]
      simp only [Option.elim_some, hfl]
      simp only [storeAV, hb, Option.bind_some, Option.bind_eq_some_iff] at hH
      obtain ⟨x, hx, r, hr2, hH⟩ := hH
      split at hH
      · obtain rfl := Option.some.inj hH
        rw [put_putT _ _ _ _ hr2, hr, Bool.and_true]
      · cases hH
  · exact .inr rfl

theorem loadS_le (P : Program) (H : Heap) (t : TypeId) (a : AV) (k : AV → R) : Le bot (loadS bot P H t a k) ((loadAV P H t a).elim bot k) := by
  unfold loadS
  split
  · rename_i p ht
    cases hb : H.blk p.id with
    | none => exact .inl rfl
    | some b =>
      simp only [Option.elim_some]
      refine cond_le bot fun h => ?_
      obtain ⟨v, hv⟩ := Option.isSome_iff_exists.1 h
      rw [hv]
      refine (openK_le bot _ _ _ _ _).trans bot (.inr ?_)
      simp only [loadAV, hb, Option.bind_some, Option.bind_eq_some_iff] at hv
      obtain ⟨x, hx, hv⟩ := hv
      split at hv
      · obtain rfl := Option.some.inj hv
        obtain ⟨o, u⟩ := x
        rw [at_projT _ _ _ _ hx]
        rfl
      · cases hv
  · exact .inr rfl

theorem fold_fill {place : Nat → Option (Nat × Nat)} : ∀ (parts : List (Nat × AV)) (acc r : AV), fillAV place acc parts = some r → foldPut acc parts = r
  | [], acc, r, h => by simpa [fillAV, foldPut] using h
  | (i, v) :: ps, acc, r, h => by
    simp only [fillAV, Option.bind_eq_some_iff] at h
    obtain ⟨x, hx, y, hy, h⟩ := h
    split at h
    · simp only [Option.bind_eq_some_iff] at h
      obtain ⟨acc', ha, h⟩ := h
      have := put_putT [i] acc v acc' ha
      rw [foldPut, ← fold_fill ps acc' r h, ← this]
      rfl
    · cases h

theorem buildS_le (P : Program) (t : TypeId) (parts : List (Nat × AV)) (k : AV → R) : Le bot (buildS bot P t parts k) ((buildAV P t parts).elim bot k) := by
  unfold buildS
  cases hz : zeroAV P t with
  | none => exact .inl rfl
  | some z =>
    refine sure_le bot fun r hr => ?_
    simp only [buildAV, hz, Option.bind_some] at hr
    split at hr
    · cases hr
    · split at hr
      · split at hr
        · exact (fold_fill _ _ _ hr).symm
        · cases hr
      · simp only [Option.bind_eq_some_iff] at hr
        obtain ⟨s, _, hr⟩ := hr
        exact (fold_fill _ _ _ hr).symm
      · cases hr

theorem fieldS_le (P : Program) (t : TypeId) (x : AV) (f : Nat) (k : AV → R) : Le bot (fieldS bot P t x f k) ((fieldAV P t x f).elim bot k) := by
  unfold fieldS
  split
  · refine sure_le bot fun r hr => ?_
    simp only [fieldAV, Option.bind_eq_some_iff] at hr
    obtain ⟨fl, _, p, hp, hr⟩ := hr
    split at hr
    · obtain rfl := Option.some.inj hr
      rw [hp]; rfl
    · cases hr
  · exact .inl rfl

theorem bndK_le (d : Nat) (x : Option AV) (k : Nat → R) : Le bot (bndK bot d x k) ((bnd d x).elim bot k) := by
  unfold bndK bnd
  split
  · exact .inr rfl
  · exact ixK_le bot _ _

theorem sliceS_le (P : Program) (H : Heap) (t : TypeId) (x : AV) (lo hi : Option AV) (k : AV → R) : Le bot (sliceS bot P H t x lo hi k) ((sliceAV P H t x lo hi).elim bot k) := by
  unfold sliceS
  split
  · rename_i e p sz n off len hu
    split
    · rename_i hz
      refine (bndK_le bot _ _ _).trans bot ?_
      simp only [sliceAV, hu, elimBind]
      refine Le.elim bot fun h => ?_
      refine (bndK_le bot _ _ _).trans bot ?_
      refine Le.elim bot fun l => ?_
      refine cond_le bot fun hc => .inr ?_
      simp only [Bool.and_eq_true, Bool.or_eq_true, decide_eq_true_eq] at hc
      rw [if_pos ⟨hc.1.1, hc.1.2, hz, hc.2⟩]
      rfl
    · exact .inl rfl
  · rename_i e sz xs hu
    split
    · rename_i hz
      refine (bndK_le bot _ _ _).trans bot ?_
      simp only [sliceAV, hu, elimBind]
      refine Le.elim bot fun h => ?_
      refine (bndK_le bot _ _ _).trans bot ?_
      refine Le.elim bot fun l => ?_
      refine cond_le bot fun hc => .inr ?_
      simp only [Bool.and_eq_true, decide_eq_true_eq] at hc
      rw [if_pos ⟨hc.1, hc.2, hz⟩]
      rfl
    · exact .inl rfl
  · rename_i s hu
    refine (bndK_le bot _ _ _).trans bot ?_
    simp only [sliceAV, hu, elimBind]
    refine Le.elim bot fun h => ?_
    refine (bndK_le bot _ _ _).trans bot ?_
    refine Le.elim bot fun l => ?_
    refine cond_le bot fun hc => .inr ?_
    simp only [Bool.and_eq_true, decide_eq_true_eq] at hc
    rw [if_pos hc]
    rfl
  · rename_i n e p hu
    cases hz : tsize P e with
    | none => exact .inl rfl
    | some sz =>
      simp only [Option.elim_some]
      cases hsl : sliceAV P H t (.ptr p) lo hi with
      | none =>
        have hb : ∀ {d x} {k : Nat → R}, (∀ j, k j = bot) → bndK bot d x k = bot := fun {d x k} hk => by
          unfold bndK
          split
          · exact hk _
          · unfold ixK
            split
            · rename_i n
              cases decide (0 ≤ n)
              · rfl
              · exact hk _
            · rfl
        exact .inl (hb fun h => hb fun l => rfl)
      | some r =>
        refine (bndK_le bot _ _ _).trans bot ?_
        have hsl2 := hsl
        simp only [sliceAV, hu, hz, Option.bind_some, Option.bind_eq_some_iff] at hsl2
        obtain ⟨h, hh, l, hl, b, hb, y, hy, h3⟩ := hsl2
        rw [hh]
        simp only [Option.elim_some]
        refine (bndK_le bot _ _ _).trans bot ?_
        rw [hl]
        simp only [Option.elim_some]
        refine sure_le (o := some r) bot fun r' hr' => ?_
        obtain rfl := Option.some.inj hr'
        split at h3
        · split at h3
          · exact (Option.some.inj h3).symm
          · cases h3
        · cases h3
  · exact .inr rfl

theorem eqS_le (C : Ctx) (s : St) (o : BinOp) (t : TypeId) (x y : Operand) (z ty : TypeId) (k : AV → R) :
    Le bot (eqS bot C.P o t x y (s.eval C.A x) (s.eval C.A y) k) ((evalOp C s (.binOp o t x y z) ty).elim bot fun r => k r.1) := by
  unfold eqS evalOp
  simp only
  split
  · rename_i cx cy hx hy
    simp only [hx, hy]
    right
    cases scalBin C.P o t cx cy <;> rfl
  · rename_i hx hy
    simp only [hx, hy]
    split
    · exact .inl rfl
    · rename_i hg
      try rw [if_neg hg]
      split
      · right
        cases eqNil C.P t x y (s.eval C.A x) (s.eval C.A y) <;> rfl
      · right
        cases eqNil C.P t x y (s.eval C.A x) (s.eval C.A y) <;> rfl
      · exact .inl rfl
  · exact .inl rfl

theorem goO_le (hK : ∀ f args H k, Le bot (KK f args H k) (KOf bot C.K f args H k)) (s : St) (o : Oper) (k : St → R) :
    Le bot (goO bot sym C KK s o k) ((evalOp C s o.op o.type).elim bot fun r => putK C s o k r.1 r.2.1 r.2.2) := by
  unfold goO
  split
  · rename_i c hc
    rw [hc]
    unfold evalOp
    simp only
    split
    · rename_i b hb
      rw [hb]
      exact builtinK_le bot sym b _ _ s _
    · rename_i f hb
      rw [hb]
      simp only
      cases hx : calleeAV C.P (s.eval C.A f) (c.args.toList.map (s.eval C.A)) with
      | none => exact .inl rfl
      | some x => simp only [Option.elim_some, Option.bind_some]; exact enterK_le bot hK x.1 x.2 s _
    · rename_i r m hb
      rw [hb]
      simp only
      cases hx : methodAV C.P (s.eval C.A r) m with
      | none => exact .inl rfl
      | some x => simp only [Option.elim_some, Option.bind_some]; exact enterK_le bot hK x.1 _ s _
  · rename_i c a b hc
    rw [hc]
    unfold evalOp
    simp only
    split
    · rename_i t ht
      right
      cases t
      · rw [cond_false, knowO_same ht, ht]; rfl
      · rw [cond_true, knowO_same ht, ht]; rfl
    · exact .inl rfl
  · rename_i t x i hc
    split
    · rename_i e sz xs j hu hx hi
      split
      · rename_i hz
        refine (etaK_some bot).trans bot (.inr ?_)
        rw [hc]
        unfold evalOp
        simp only [indexAddrAV, hi, hu, hx, hz, Option.bind_some, if_true]
        cases xs[j]? <;> rfl
      · exact .inl rfl
    · exact .inr rfl
  · exact .inr rfl

theorem boxS_le (C : Ctx) (s : St) (t : TypeId) (x : Operand) (ty : TypeId) (k : AV → Heap → R) :
    Le bot (boxS bot C.P s.H t (s.eval C.A x) k) ((evalOp C s (.box t x) ty).elim bot fun r => k r.1 r.2.1) := by
  unfold boxS evalOp
  simp only
  split
  · refine cond_le bot fun h => .inr ?_
    simp only [Bool.and_eq_true] at h
    simp [h.1, newVarAV, h.2]
  · refine cond_le bot fun h => .inr ?_
    simp [h, newVarAV]

theorem mkSliceS_le (C : Ctx) (s : St) (t : TypeId) (l c : Operand) (ty : TypeId) (k : AV → Heap → R) :
    Le bot (mkSliceS bot C.P s.H t (s.eval C.A l) (s.eval C.A c) k) ((evalOp C s (.makeSlice t l c) ty).elim bot fun r => k r.1 r.2.1) := by
  unfold mkSliceS evalOp
  simp only
  split
  · rename_i e hu
    cases hz : tsize C.P e with
    | none => exact .inl rfl
    | some sz => cases hb : tbytes C.P e with
      | none => exact .inl rfl
      | some by_ => cases hzz : zeroAV C.P e with
        | none => exact .inl rfl
        | some z =>
          simp only [Option.elim_some]
          split
          · rename_i hc
            simp only [hu, hz, hb, hzz, Option.bind_some]
            rw [elimBind]
            refine (ixK_le bot _ _).trans bot ?_
            refine Le.elim bot fun l => ?_
            rw [elimBind]
            refine (ixK_le bot _ _).trans bot ?_
            refine Le.elim bot fun c => ?_
            refine cond_le bot fun h => .inr ?_
            simp only [Bool.and_eq_true, decide_eq_true_eq] at h
            rw [if_pos ⟨h.1.1, h.1.2, h.2, hc.1, hc.2⟩]
            rfl
          · exact .inl rfl
  · exact .inl rfl

theorem convS_le (P : Program) (H : Heap) (src dst : TypeId) (x : AV) (k : AV → Heap → R) : Le bot (convS bot P H src dst x k) ((convertAV P H src dst x).elim bot fun r => k r.1 r.2) := by
  unfold convS
  split
  · rename_i e hs hd
    split
    · rename_i he
      have : convertAV P H src dst x = (elemsAV H 1 x).bind fun xs => (bytesOf xs).map fun l => (.str ⟨l.toArray⟩, H) := by
        unfold convertAV
        simp only [hs, hd]
        cases x <;> simp [he]
      rw [this, elimBind]
      refine (elemsK_le bot _ _ _ _).trans bot ?_
      refine Le.elim bot fun xs => ?_
      have hby : ∀ (xs : List AV) (l : List UInt8), bytesOf xs = some l → l = xs.map fun v => UInt8.ofNat v.toInt.toNat := by
        intro xs
        induction xs with
        | nil => intro l h; simpa [bytesOf] using h.symm
        | cons v r ih =>
          intro l h
          cases v with
          | int kk n =>
            cases kk <;> simp only [bytesOf, reduceCtorEq, Option.map_eq_some_iff] at h
            obtain ⟨l', h', rfl⟩ := h
            simp [AV.toInt, ih l' h']
          | _ => simp [bytesOf] at h
      refine (sure_le bot fun r hr => hby xs r hr).trans bot (.inr ?_)
      cases bytesOf xs <;> rfl
    · exact .inl rfl
  · exact .inr rfl

theorem setMany_nil (ys : List AV) (j : Nat) : setMany ys j [] = ys := by simp [setMany]

theorem blk_set_same {H : Heap} {i : Nat} {b : Blk} (h : H.blk i = some b) : H.set i (some b) = H := by
  have h1 : H[i]? = some (some b) := by
    unfold Heap.blk at h
    cases hh : H[i]? with
    | none => rw [hh] at h; simp [blkOf] at h
    | some y => rw [hh] at h; exact congrArg some (blkOf_some h)
  apply List.ext_getElem?
  intro j
  rw [List.getElem?_set]
  split
  · rename_i hj
    subst hj
    rw [h1]
    have := (List.getElem?_eq_some_iff.1 h1).1
    simp [this]
  · rfl

theorem appS_le {P : Program} (H : Heap) (elem : TypeId) (x : AV) (xs : List AV) (k : AV → Heap → R) :
    Le bot (appS bot P H elem x xs k) (cond (reflessL xs) ((appendAV P H elem x xs).elim bot fun r => k r.1 r.2) bot) := by
  unfold appS
  split
  · rename_i sz by_ z hz hb hzz
    split
    · rename_i hc
      obtain ⟨rfl, hpos⟩ := hc
      refine cond_le bot fun h => ?_
      simp only [Bool.and_eq_true] at h
      obtain ⟨hr, ha⟩ := h
      rw [hr, cond_true]
      split
      · cases xs with
        | nil => right; simp [appendAV, hz, hb]
        | cons y r =>
          simp only [List.isEmpty_cons, cond_false]
          refine cond_le bot fun h => .inr ?_
          simp only [Bool.and_eq_true, decide_eq_true_eq] at h
          unfold appendAV
          simp only [hz, hb, Option.bind_some]
          rw [if_pos ⟨hzz, ha, hpos⟩, if_pos h]
          simp [hr]
      · rename_i p e n off len
        split
        · rename_i e' ys g fl hblk
          split
          · rename_i hq
            obtain ⟨hp, hco, rfl, rfl⟩ := hq
            refine cond_le bot fun h => ?_
            simp only [Bool.and_eq_true, decide_eq_true_eq] at h
            obtain ⟨⟨h1, h2⟩, h3⟩ := h
            obtain ⟨pid, pco, pp, pg⟩ := p
            simp only at hp hco h1 hblk
            subst hp hco h1 h2
            have hfl : (AV.arr e' ys).flatLen = e' * ys.length := rfl
            have hat : (AV.arr e' ys).at? [] = some (0, .arr e' ys) := rfl
            cases hfit : decide (off + len + xs.length ≤ ys.length) with
            | true =>
              simp only [decide_eq_true_eq] at hfit
              simp only [cond_true]
              right
              cases xs with
              | nil =>
                simp only [setMany_nil, List.length_nil, Nat.add_zero]
                rw [blk_set_same hblk]
                simp [appendAV, hz, hb]
              | cons y r =>
                unfold appendAV
                simp only [hz, hb, Option.bind_some]
                rw [if_pos ⟨hzz, ha, hpos⟩]
                simp only [hblk, hat, hfl, Option.bind_some]
                rw [if_pos ⟨trivial, trivial, trivial, trivial, trivial, h3⟩, if_pos hfit]
                have hput : (AV.arr e' ys).put? [] (.arr e' (setMany ys (off + len) (y :: r))) = some (.arr e' (setMany ys (off + len) (y :: r))) := by
                  unfold AV.put?
                  rw [if_pos (by
                    simp only [AV.flatLen, setMany, List.length_append, List.length_take, List.length_drop]
                    congr 1
                    omega)]
                rw [hput]
                simp [hr]
            | false =>
              simp only [decide_eq_false_iff_not] at hfit
              simp only [cond_false]
              refine cond_le bot fun h => .inr ?_
              simp only [Bool.and_eq_true, decide_eq_true_eq] at h
              obtain ⟨⟨⟨⟨rfl, rfl⟩, rfl⟩, h4⟩, h5⟩ := h
              cases xs with
              | nil => simp at hfit
              | cons y r =>
                unfold appendAV
                simp only [hz, hb, Option.bind_some]
                rw [if_pos ⟨hzz, ha, hpos⟩]
                simp only [hblk, hat, hfl, Option.bind_some]
                rw [if_pos ⟨trivial, trivial, trivial, trivial, trivial, h3⟩, if_neg hfit, if_pos ⟨trivial, trivial, trivial, trivial, h4, h5⟩]
                simp [hr]
          · exact .inl rfl
        · exact .inl rfl
      · exact .inl rfl
    · exact .inl rfl
  · exact .inl rfl

theorem srcS_le (H : Heap) (sz : Nat) (y : AV) (k : List AV → R) : Le bot (srcS bot H sz y k) ((srcAV H sz y).elim bot k) := by
  unfold srcS srcAV
  split
  · split
    · exact .inr rfl
    · exact .inl rfl
  · rename_i hne
    cases y <;> first | exact elemsK_le bot _ _ _ _ | exact absurd rfl (hne _)

theorem put_isTup : ∀ (path : List Nat) (root v r : AV), root.put? path v = some r → v.isTup = false → r.isTup = false
  | [], root, v, r, h, hv => by
    have := put_putT [] root v r h
    simp only [putT] at this
    rw [← this]; exact hv
  | i :: path, root, v, r, h, hv => by
    cases root <;> simp only [AV.put?, reduceCtorEq, Option.bind_eq_some_iff, Option.map_eq_some_iff] at h
    · obtain ⟨p, hp, q, hq, rfl⟩ := h; rfl
    · obtain ⟨p, hp, q, hq, rfl⟩ := h; rfl

theorem copyS_le {C : Ctx} (H : Heap) (t : TypeId) (d y : AV) (k : AV → Heap → Bool → R) : Le bot (copyS bot C H t d y k) ((copyAV C.P H t d y).elim bot fun r => k r.1 r.2 (copyFlag C.n0 r.2 d)) := by
  unfold copyS
  split
  · rename_i e hu
    split
    · rename_i p e' n off len ht
      cases hz : tsize C.P e with
      | none => exact .inl rfl
      | some sz =>
        simp only [Option.elim_some]
        refine (srcS_le bot _ _ _ _).trans bot ?_
        cases hsrc : srcAV H sz y with
        | none => exact .inl rfl
        | some xs =>
          simp only [Option.elim_some]
          cases hb : H.blk p.id with
          | none => exact .inl rfl
          | some b =>
            simp only [Option.elim_some]
            refine cond_le bot fun h => ?_
            simp only [Bool.and_eq_true, Option.isSome_iff_exists] at h
            obtain ⟨⟨⟨⟨v, H'⟩, hc⟩, hr⟩, hf⟩ := h
            rw [hc]
            simp only [Option.elim_some]
            simp only [copyAV, hu, hz, hsrc, hb, Option.bind_some, Option.bind_eq_some_iff] at hc
            obtain ⟨x, hx, hc⟩ := hc
            split at hc
            · rename_i e2 ys hx2
              split at hc
              · rename_i hcond
                simp only [Option.map_eq_some_iff, Prod.mk.injEq] at hc
                obtain ⟨r, hput, rfl, rfl⟩ := hc
                have hpr : projT p.path b.root = .arr e2 ys := by
                  obtain ⟨xo, xu⟩ := x
                  simp only at hx2
                  subst hx2
                  exact at_projT _ _ _ _ hx
                have hlen : p.id < H.length := Heap.blk_some hb
                right
                rw [hpr]
                simp only [AV.toArr]
                rw [put_putT _ _ _ _ hput, hr, hf]
                have : copyFlag C.n0 (H.set p.id (some ⟨r, b.grow, true⟩)) (.sl p e' n off len) = false := by
                  unfold copyFlag
                  simp only
                  cases hbl : (Heap.blk (H.set p.id (some ⟨r, b.grow, true⟩)) p.id) with
                  | none =>
                    exfalso
                    have hnt : r.isTup = false := put_isTup _ _ _ _ hput rfl
                    unfold Heap.blk at hbl
                    simp [hlen, blkOf, hnt] at hbl
                  | some b2 =>
                    unfold Heap.blk at hbl
                    have := blkOf_some hbl
                    simp [hlen] at this
                    subst this
                    simp
                simp only [Bool.true_and] at this ⊢
                rw [this]
              · cases hc
            · cases hc
    · exact .inr rfl
  · exact .inl rfl

theorem clearS_le {P : Program} (H : Heap) (t : TypeId) (d : AV) (k : AV → Heap → R) : Le bot (clearS bot P H t d k) ((clearAV P H t d).elim bot fun r => k r.1 r.2) := by
  unfold clearS
  split
  · rename_i e p sz n off len hu
    cases hz : zeroAV P e with
    | none => exact .inl rfl
    | some z => cases hb : H.blk p.id with
      | none => exact .inl rfl
      | some b =>
        simp only [Option.elim_some]
        refine sure_le bot fun r hr => ?_
        simp only [clearAV, hu, hz, hb, Option.bind_some, Option.bind_eq_some_iff] at hr
        obtain ⟨sz', _, x, hx, hr⟩ := hr
        split at hr
        · rename_i e2 ys hx2
          split at hr
          · rename_i hcond
            simp only [Option.map_eq_some_iff] at hr
            obtain ⟨q, hq, rfl⟩ := hr
            have hpr : projT p.path b.root = .arr e2 ys := by
              obtain ⟨xo, xu⟩ := x
              simp only at hx2
              subst hx2
              exact at_projT _ _ _ _ hx
            rw [hpr]
            simp only [AV.toArr]
            rw [put_putT _ _ _ _ hq]
          · cases hr
        · cases hr
  · exact .inr rfl

theorem appendS_le {C : Ctx} (argTypes : Array TypeId) (args : List AV) (s : St) (k : AV → Heap → Bool → R) : Le bot (appendS bot C argTypes args s k) ((evalBuiltin C .append argTypes args s).elim bot fun r => k r.1 r.2.1 r.2.2) := by
  unfold appendS
  split
  · rename_i x y
    split
    · rename_i t u ht hu
      split
      · rename_i e d he hd
        split
        · rename_i sz hth hk hsz
          refine (srcS_le bot _ _ _ _).trans bot ?_
          cases hx : srcAV s.H sz y with
          | none => exact .inl rfl
          | some xs =>
            simp only [Option.elim_some]
            refine (appS_le bot (P := C.P) s.H e x xs (fun v H => k v H false)).trans bot ?_
            refine cond_le bot fun hr => .inr ?_
            have hfl : appendFlag C.n0 x xs = false := by
              unfold appendFlag
              cases x <;> simp [hr]
            simp only [evalBuiltin, ht, hu, he, hd, hk, hsz, hx, hr, Option.bind_some, Bool.not_true, Bool.and_false, Bool.false_eq_true, if_false]
            cases appendAV C.P s.H e x xs with
            | none => simp
            | some r => simp [hfl]
        · exact .inr rfl
      · exact .inl rfl
    · exact .inl rfl
  · exact .inl rfl

theorem builtinS_le {C : Ctx} (b : Builtin) (argTypes : Array TypeId) (args : List AV) (s : St) (k : AV → Heap → Bool → R) :
    Le bot (builtinS bot C b argTypes args s k) ((evalBuiltin C b argTypes args s).elim bot fun r => k r.1 r.2.1 r.2.2) := by
  unfold builtinS
  split
  · exact appendS_le bot _ _ _ _
  · rename_i d y
    simp only [evalBuiltin]
    rw [elimBind]
    refine Le.elim bot fun t => ?_
    refine (copyS_le bot _ _ _ _ _).trans bot (.inr ?_)
    cases copyAV C.P s.H t d y <;> rfl
  · rename_i d
    simp only [evalBuiltin]
    rw [elimBind]
    refine Le.elim bot fun t => ?_
    refine (clearS_le bot _ _ _ _).trans bot (.inr ?_)
    cases clearAV C.P s.H t d <;> rfl
  · exact .inr rfl

theorem goS_le (hK : ∀ f args H k, Le bot (KK f args H k) (KOf bot C.K f args H k)) (s : St) (o : Oper) (k : St → R) :
    Le bot (goS bot C KK s o k) ((evalOp C s o.op o.type).elim bot fun r => putK C s o k r.1 r.2.1 r.2.2) := by
  unfold goS
  split
  · rename_i c hc
    rw [hc]
    unfold evalOp
    simp only
    split
    · rename_i b hb
      rw [hb]
      exact builtinS_le bot _ _ _ s _
    · rename_i f hb
      rw [hb]
      simp only
      cases hx : calleeAV C.P (s.eval C.A f) (c.args.toList.map (s.eval C.A)) with
      | none => exact .inl rfl
      | some x => simp only [Option.elim_some, Option.bind_some]; exact enterK_le bot hK x.1 x.2 s _
    · rename_i r m hb
      rw [hb]
      simp only
      cases hx : methodAV C.P (s.eval C.A r) m with
      | none => exact .inl rfl
      | some x => simp only [Option.elim_some, Option.bind_some]; exact enterK_le bot hK x.1 _ s _
  · rename_i c a b hc
    rw [hc]
    unfold evalOp
    simp only
    split
    · rename_i t ht
      right
      cases t
      · rw [cond_false, knowO_same ht, ht]; rfl
      · rw [cond_true, knowO_same ht, ht]; rfl
    · exact .inl rfl
  · rename_i t x i hc
    rw [hc]
    refine (indexAddrS_le bot _ _ _ _ _).trans bot (.inr ?_)
    unfold evalOp
    simp only
    cases indexAddrAV C.P t (s.eval C.A x) (s.eval C.A i) <;> rfl
  · rename_i t x i hc
    rw [hc]
    refine (indexS_le bot _ _ _ _ _).trans bot (.inr ?_)
    unfold evalOp
    simp only
    cases indexAV C.P t (s.eval C.A x) (s.eval C.A i) <;> rfl
  · rename_i t g hc
    rw [hc]
    right
    unfold evalOp
    simp only
    cases ((C.U.G g).bind fun v => loadAV C.P s.H t (.iptr v)) <;> rfl
  · rename_i t a hn hc
    rw [hc]
    have : evalOp C s (.load t a) o.type = (loadAV C.P s.H t (s.eval C.A a)).map fun v => (v, s.H, false) := by
      cases a <;> first | rfl | exact absurd rfl (hn _)
    rw [this]
    refine (loadS_le bot _ _ _ _ _).trans bot (.inr ?_)
    cases loadAV C.P s.H t (s.eval C.A a) <;> rfl
  · rename_i t a x hc
    rw [hc]
    refine (storeS_le bot _ _ _ _ _ _ _).trans bot (.inr ?_)
    unfold evalOp
    simp only
    cases storeAV C.P s.H t (s.eval C.A a) (s.eval C.A x) <;> rfl
  · rename_i t x hc
    rw [hc]
    refine (boxS_le bot C s t x o.type (fun v H => putK C s o k v H false)).trans bot (.inr ?_)
    unfold evalOp
    simp only
    split <;> rfl
  · rename_i t parts hc
    rw [hc]
    refine (buildS_le bot _ _ _ _).trans bot (.inr ?_)
    unfold evalOp
    simp only
    cases buildAV C.P t (parts.toList.map fun x => (x.1, s.eval C.A x.2)) <;> rfl
  · rename_i t x f hc
    rw [hc]
    refine (fieldS_le bot _ _ _ _ _).trans bot (.inr ?_)
    unfold evalOp
    simp only
    cases fieldAV C.P t (s.eval C.A x) f <;> rfl
  · rename_i t x lo hi hc
    rw [hc]
    refine (sliceS_le bot _ _ _ _ _ _ _).trans bot (.inr ?_)
    unfold evalOp
    simp only
    cases sliceAV C.P s.H t (s.eval C.A x) (lo.map (s.eval C.A)) (hi.map (s.eval C.A)) <;> rfl
  · rename_i t l c hc
    rw [hc]
    refine (mkSliceS_le bot C s t l c o.type (fun v H => putK C s o k v H false)).trans bot (.inr ?_)
    unfold evalOp
    simp only
    cases C.P.underlying t with
    | none => rfl
    | some d =>
      cases d <;> try rfl
      rename_i e
      simp only
      cases tsize C.P e with
      | none => rfl
      | some sz => cases tbytes C.P e with
        | none => rfl
        | some by_ => cases (s.eval C.A l).idx with
          | none => rfl
          | some l => cases (s.eval C.A c).idx with
            | none => rfl
            | some c => cases zeroAV C.P e with
              | none => rfl
              | some z => simp only [Option.bind_some]; split <;> rfl
  · rename_i op t x y z hc
    rw [hc]
    refine (eqS_le bot C s op t x y z o.type _).trans bot (.inr ?_)
    have hm : ∀ r, evalOp C s (.binOp op t x y z) o.type = some r → r.2.1 = s.H ∧ r.2.2 = false := by
      intro r hr
      unfold evalOp at hr
      simp only at hr
      split at hr
      · simp only [Option.map_eq_some_iff] at hr
        obtain ⟨_, _, rfl⟩ := hr
        exact ⟨rfl, rfl⟩
      · split at hr
        · cases hr
        · split at hr
          · simp only [Option.map_eq_some_iff] at hr
            obtain ⟨_, _, rfl⟩ := hr
            exact ⟨rfl, rfl⟩
          · simp only [Option.map_eq_some_iff] at hr
            obtain ⟨_, _, rfl⟩ := hr
            exact ⟨rfl, rfl⟩
          · cases hr
      · cases hr
    cases hx : evalOp C s (.binOp op t x y z) o.type with
    | none => rfl
    | some r =>
      obtain ⟨h1, h2⟩ := hm r hx
      simp only [Option.elim_some, h1, h2]
  · rename_i src dst x hc
    rw [hc]
    refine (convS_le bot _ _ _ _ _ _).trans bot (.inr ?_)
    unfold evalOp
    simp only
    cases convertAV C.P s.H src dst (s.eval C.A x) <;> rfl
  · rename_i t x i ok hc
    rw [hc]
    unfold evalOp
    simp only
    cases lookupAV C.P s.H t (s.eval C.A x) (s.eval C.A i) ok with
    | none => exact .inl rfl
    | some v => exact openK_le bot _ _ _ _ _
  · rename_i t m i v hc
    rw [hc]
    split
    · rename_i id ik n hm hi
      cases hmp : s.H.mp id with
      | none => exact .inl rfl
      | some es =>
        simp only [Option.elim_some]
        refine (sure_le bot fun r hr => ?_).trans bot (.inr ?_)
        · unfold mapUpdateAV at hr
          split at hr
          · split at hr
            · rename_i kk id' ik' n' _ h1 h2
              obtain rfl : id = id' := by simpa using h1
              obtain ⟨rfl, rfl⟩ : ik = ik' ∧ n = n' := by simpa using h2
              split at hr
              · rename_i hkk
                simp only [hmp, Option.bind_some, Option.map_eq_some_iff] at hr
                obtain ⟨_, _, rfl⟩ := hr
                rw [hkk.1]
              · cases hr
            · cases hr
          · cases hr
        · unfold evalOp
          simp only [hm, hi]
          cases mapUpdateAV C.P s.H t (.map id) (.int ik n) (s.eval C.A v) <;> rfl
    · exact .inl rfl
  · exact .inr rfl

theorem goK_le (hK : ∀ f args H k, Le bot (KK f args H k) (KOf bot C.K f args H k)) (s : St) (o : Oper) (k : St → R) :
    Le bot (goK bot sym C KK s o k) ((evalOp C s o.op o.type).elim bot fun r => putK C s o k r.1 r.2.1 r.2.2) := by
  unfold goK
  cases sym
  · exact goO_le bot false hK s o k
  · exact goS_le bot hK s o k

theorem stepOpK_le (hK : ∀ f args H k, Le bot (KK f args H k) (KOf bot C.K f args H k)) (ops : List Oper) (s : St) (o : Oper) (k : St → R) :
    Le bot (stepOpK bot sym C KK ops s o k) ((stepOp C ops s o).elim bot k) := by
  have hgo : Le bot (goK bot sym C KK s o k) (((evalOp C s o.op o.type).map fun r =>
      let s' := { s with H := r.2.1, esc := s.esc || r.2.2 }
      match o.dst with
      | some d => s'.set C.A d (if d < C.N then r.1 else .bad)
      | none => s').elim bot k) := by
    refine (goK_le bot sym hK s o k).trans bot (.inr ?_)
    cases evalOp C s o.op o.type <;> rfl
  have hskip : Le bot (skipK C s o k) ((some (match o.dst with | some d => s.set C.A d .undf | none => s)).elim bot k) := .inr rfl
  unfold stepOpK stepOp wantedAV
  split
  · rename_i hg
    rw [hg]
    simp only [Option.bind_some, if_true]
    exact hgo
  · rename_i j want hg
    rw [hg]
    simp only
    split
    · rename_i d hd
      rw [hd]
      simp only
      split
      · rename_i b hb
        rw [hb]
        simp only [Option.bind_some]
        cases b <;> cases want <;> simp only [cond_true, cond_false, know_same hb] <;> first | exact hgo | exact hskip
      · rename_i hb
        rw [hb]
        simp only [Option.bind_some]
        exact hskip
      · exact .inl rfl
    · exact .inl rfl

theorem stepY_le (hK : ∀ f args H k, Le bot (KK f args H k) (KOf bot C.K f args H k)) (ops : List Oper) (s : St) (o : Oper) (k : St → R) :
    Le bot (stepOpK bot sym C KK ops s o k) ((stepY C ops s o).elim bot k) := by
  unfold stepY
  split
  · rename_i f args argTypes hop
    split
    · rename_i hc
      left
      simp only [Bool.and_eq_true, Option.isNone_iff_eq_none] at hc
      have hf : s.eval C.A f = .yld := by
        have := hc.1
        cases hv : s.eval C.A f <;> rw [hv] at this <;> first | rfl | cases this
      unfold stepOpK
      rw [hc.2]
      simp only
      unfold goK
      cases sym
      · unfold goO
        simp only
        rw [hop]
        simp only [hf, calleeAV, Option.elim_none]
      · unfold goS
        simp only
        rw [hop]
        simp only [hf, calleeAV, Option.elim_none]
    · exact stepOpK_le bot sym hK ops s o k
  · exact stepOpK_le bot sym hK ops s o k

theorem runOpsK_le (hK : ∀ f args H k, Le bot (KK f args H k) (KOf bot C.K f args H k)) (ops : List Oper) : ∀ (l : List Oper) (s : St) (k : St → R), Le bot (runOpsK bot sym C KK ops l s k) ((runOps C ops l s).elim bot k)
  | [], s, k => .inr rfl
  | o :: r, s, k => by
    unfold runOpsK runOps
    refine (stepY_le bot sym hK ops s o _).trans bot ?_
    cases stepY C ops s o with
    | none => exact .inl rfl
    | some s' => exact runOpsK_le hK ops r s' k

theorem runOrdK_le (hK : ∀ f args H k, Le bot (KK f args H k) (KOf bot C.K f args H k)) (ops : List Oper) (flo : List Nat) : ∀ (l : List Nat) (s : St) (k : St → List (Heap × Bool) → R),
    Le bot (runOrdK bot sym C KK ops flo l s k) ((runOrd C ops flo l s).elim bot fun x => k x.1 x.2)
  | [], s, k => .inr rfl
  | i :: r, s, k => by
    unfold runOrdK runOrd
    cases hi : ops[i]? with
    | none => exact .inl rfl
    | some o =>
      simp only [Option.bind_some]
      refine (stepOpK_le bot sym hK ops s o _).trans bot ?_
      cases stepOp C ops s o with
      | none => exact .inl rfl
      | some s' =>
        simp only [Option.elim_some, Option.bind_some]
        split
        · exact .inl rfl
        · refine (runOrdK_le hK ops flo r s' _).trans bot (.inr ?_)
          cases runOrd C ops flo r s' <;> rfl

theorem chkOneK_le (ops : List Oper) (s : St) (o : Oper) (H : Heap) (k : R) : Le bot (chkOneK bot C ops s o H k) (cond (chkOne C ops s o H) k bot) := by
  unfold chkOneK chkOne
  split
  · rename_i hw
    rw [hw]
    simp only
    split
    · rename_i r hr
      rw [hr]
      simp only
      split
      · rename_i d hd
        rw [hd]
        simp only
        split
        · rename_i hb
          rw [hb]
          exact .inr rfl
        · rename_i hb
          split
          · rename_i hN
            cases hbeq : r.1.beq (s.get C.A d) with
            | false => exact .inl rfl
            | true => right; simp [hN]
          · exact .inl rfl
      · rename_i hd
        rw [hd]
        exact .inr rfl
    · exact .inl rfl
  · rename_i hw
    rw [hw]
    exact .inr rfl
  · exact .inl rfl

theorem chkPsK_le (ops : List Oper) (s : St) (o : Oper) (hs : List (Heap × Bool)) : ∀ (l : List Nat) (k : R),
    Le bot (chkPsK bot C ops s o hs l k) (cond (l.all fun p => match hs[p]? with | some h => chkOne C ops s o h.1 | none => true) k bot)
  | [], k => .inr rfl
  | p :: r, k => by
    unfold chkPsK
    simp only [List.all_cons]
    cases hp : hs[p]? with
    | none => simpa using chkPsK_le ops s o hs r k
    | some h =>
      refine (chkOneK_le bot ops s o h.1 _).trans bot ?_
      cases hc : chkOne C ops s o h.1 with
      | false => simp [hc]; exact .inl rfl
      | true => simpa [hc] using chkPsK_le ops s o hs r k

theorem chkAllK_le (ops : List Oper) (s : St) (hs : List (Heap × Bool)) : ∀ (l : List (Nat × List Nat)) (k : R),
    Le bot (chkAllK bot C ops s hs l k) (cond (chkAll C ops s hs l) k bot)
  | [], k => .inr rfl
  | x :: r, k => by
    have ih := chkAllK_le ops s hs r k
    unfold chkAll at ih
    unfold chkAllK chkAll
    simp only [List.all_cons]
    cases ho : ops[x.1]? with
    | none => simpa [ho] using ih
    | some o =>
      refine (chkPsK_le bot ops s o hs x.2 _).trans bot ?_
      simp only
      generalize (x.2.all fun p => match hs[p]? with | some h => chkOne C ops s o h.1 | none => true) = t
      cases t with
      | false => exact .inl rfl
      | true => simpa using ih

theorem runRegionK_le (hK : ∀ f args H k, Le bot (KK f args H k) (KOf bot C.K f args H k)) (id : Nat) (ops : Array Oper) (draw : Bool) (s : St) (k : St → R) :
    Le bot (runRegionK bot sym C KK id ops draw s k) ((runRegion C id ops draw s).elim bot k) := by
  unfold runRegionK runRegion
  simp only
  split
  · cases C.A.ord.lookup id with
    | none => exact .inl rfl
    | some a =>
      simp only
      refine (runOrdK_le bot sym hK _ _ _ _ _).trans bot ?_
      cases runOrd C ops.toList a.flo a.order { s with T := [] } with
      | none => exact .inl rfl
      | some x =>
        simp only [Option.elim_some, Option.bind_some]
        refine (chkAllK_le bot _ _ _ _ _).trans bot (.inr ?_)
        cases chkAll C ops.toList x.1 (({ s with T := [] }.H, { s with T := [] }.esc) :: x.2) a.chk <;> rfl
  · exact runOpsK_le bot sym hK _ _ _ _

theorem loopB_le {hd : St → Option St} {body : St → Option (Ex × St)} {bodyK : St → (Ex → St → R) → R} (hb : ∀ s k, Le bot (bodyK s k) ((body s).elim bot fun x => k x.1 x.2)) :
    ∀ (n : Nat) (s s1 : St) (k : Ex → St → R), hd s = some s1 → Le bot (loopB bot hd bodyK n s1 k) ((loopN hd body n s).elim bot fun x => k x.1 x.2)
  | 0, s, s1, k, _ => .inl rfl
  | n + 1, s, s1, k, h => by
    unfold loopB loopN
    rw [h]
    simp only [Option.bind_some]
    refine (hb _ _).trans bot ?_
    cases body s1 with
    | none => exact .inl rfl
    | some x =>
      obtain ⟨e, s2⟩ := x
      cases e with
      | normal =>
        simp only [Option.elim_some, Option.bind_some]
        cases h2 : hd s2 with
        | none => exact .inl rfl
        | some s3 => exact loopB_le hb n s2 s3 k h2
      | exit i => exact .inr rfl
      | ret => exact .inr rfl

theorem evalCK_le (hK : ∀ f args H k, Le bot (KK f args H k) (KOf bot C.K f args H k)) (fuel : Nat) : ∀ (c : Code) (cur : Nat) (s : St) (k : Ex → St → R),
    Le bot (evalCK bot sym C KK fuel cur c s k) ((evalC C fuel cur c s).elim bot fun x => k x.1 x.2)
  | .skip, cur, s, k => .inr rfl
  | .region id ops draw, cur, s, k => by
    unfold evalCK evalC
    refine (runRegionK_le bot sym hK _ _ _ _ _).trans bot (.inr ?_)
    cases runRegion C id ops draw s <;> rfl
  | .seq a b, cur, s, k => by
    unfold evalCK evalC
    refine (evalCK_le hK fuel a cur s _).trans bot ?_
    cases evalC C fuel cur a s with
    | none => exact .inl rfl
    | some x =>
      obtain ⟨e, s2⟩ := x
      cases e with
      | normal => exact evalCK_le hK fuel b cur s2 k
      | exit i => exact .inr rfl
      | ret => exact .inr rfl
  | .cond c a b, cur, s, k => by
    unfold evalCK evalC
    split
    · rename_i t ht
      cases t
      · rw [cond_false, knowO_same ht, ht]; exact evalCK_le hK fuel b cur s k
      · rw [cond_true, knowO_same ht, ht]; exact evalCK_le hK fuel a cur s k
    · exact .inl rfl
  | .block id c, cur, s, k => by
    unfold evalCK evalC
    refine (evalCK_le hK fuel c id s _).trans bot ?_
    cases evalC C fuel id c s with
    | none => exact .inl rfl
    | some x =>
      obtain ⟨e, s2⟩ := x
      cases e with
      | normal => exact .inr rfl
      | exit i =>
        simp only [Option.elim_some, Option.map_some]
        split <;> exact .inr rfl
      | ret => exact .inr rfl
  | .loop c, cur, s, k => by
    unfold evalCK evalC
    cases h : headSt C ((C.A.keep.lookup cur).getD 0) s with
    | none => exact .inl rfl
    | some s1 => exact loopB_le bot (fun s k => evalCK_le hK fuel c 0 s k) fuel s s1 k h
  | .exit i, cur, s, k => .inr rfl
  | .ret, cur, s, k => .inr rfl
  | .rangeFunc .., cur, s, k => .inr rfl
  | .scope _, cur, s, k => .inl rfl
  | .label _, cur, s, k => .inl rfl
  | .goto _, cur, s, k => .inl rfl
  | .refuse _, cur, s, k => .inl rfl

theorem evalFK_le {P : Program} {U : Out} {ann : FuncId → FAnn} {fuel : Nat} {K : Oracle} (hK : ∀ f args H k, Le bot (KK f args H k) (KOf bot K f args H k)) (f : FuncId) (args : List AV) (H : Heap) (k : AV → Heap → Bool → R) :
    Le bot (evalFK bot sym P U ann fuel K KK f args H k) (KOf bot (evalF P U ann fuel K) f args H k) := by
  unfold evalFK KOf evalF evalG
  cases hf : P.funcs[f]? with
  | none => exact .inl rfl
  | some fn =>
    simp only [Option.bind_some]
    cases hb : fn.body with
    | none => exact .inl rfl
    | some c =>
      simp only [Option.bind_some]
      refine (evalCK_le bot sym (C := ⟨P, K, H.length, max fn.ntmps args.length, ann f, U, noY, evalI P U ann fuel K⟩) hK fuel c 0 _ _).trans bot ?_
      cases evalC ⟨P, K, H.length, max fn.ntmps args.length, ann f, U, noY, evalI P U ann fuel K⟩ fuel 0 c ⟨initL (ann f).keys args, [], H, false⟩ with
      | none => exact .inl rfl
      | some x =>
        obtain ⟨e, s2⟩ := x
        cases e with
        | exit i => exact .inl rfl
        | normal =>
          simp only [Option.elim_some, Option.bind_some, finK]
          right
          cases fn.results.toList.mapM (resultAV ⟨P, K, H.length, max fn.ntmps args.length, ann f, U, noY, evalI P U ann fuel K⟩ s2) with
          | none => rfl
          | some vs =>
            simp only [Option.elim_some, Option.bind_some]
            cases sweepA (ann f) s2.H H.length (pickAV vs).refs s2.esc <;> rfl
        | ret =>
          simp only [Option.elim_some, Option.bind_some, finK]
          right
          cases fn.results.toList.mapM (resultAV ⟨P, K, H.length, max fn.ntmps args.length, ann f, U, noY, evalI P U ann fuel K⟩ s2) with
          | none => rfl
          | some vs =>
            simp only [Option.elim_some, Option.bind_some]
            cases sweepA (ann f) s2.H H.length (pickAV vs).refs s2.esc <;> rfl

theorem evalNK_le {P : Program} {U : Out} {ann : FuncId → FAnn} {fuel : Nat} {K : Oracle} : ∀ (n : Nat) (f : FuncId) (args : List AV) (H : Heap) (k : AV → Heap → Bool → R),
    Le bot (evalNK bot sym P U ann fuel K n f args H k) (KOf bot (evalN P U ann fuel K n) f args H k)
  | 0, f, args, H, k => .inr rfl
  | n + 1, f, args, H, k => by
    show Le bot (match K f args H with | some r => k r.1 r.2.1 r.2.2 | none => evalFK bot sym P U ann fuel (evalN P U ann fuel K n) (evalNK bot sym P U ann fuel K n) f args H k)
      ((match K f args H with | some r => some r | none => evalF P U ann fuel (evalN P U ann fuel K n) f args H).elim bot fun r => k r.1 r.2.1 r.2.2)
    cases K f args H with
    | some r => exact .inr rfl
    | none => exact evalFK_le bot sym (evalNK_le n) f args H k

end

/-- What is found is so. -/
theorem evalN_of_K {P : Program} {U : Out} {ann : FuncId → FAnn} {fuel n : Nat} {K : Oracle} {f : FuncId} {args : List AV} {H : Heap} {r : AV × Heap × Bool}
    (h : evalNK none false P U ann fuel K n f args H (fun v H e => some (v, H, e)) = some r) : evalN P U ann fuel K n f args H = some r := by
  rcases evalNK_le (R := Option (AV × Heap × Bool)) none false (P := P) (U := U) (ann := ann) (fuel := fuel) (K := K) n f args H (fun v H e => some (v, H, e)) with h1 | h1
  · rw [h] at h1; cases h1
  · rw [h] at h1
    unfold KOf at h1
    cases hx : evalN P U ann fuel K n f args H with
    | none => rw [hx] at h1; cases h1
    | some x => rw [hx] at h1; exact h1.symm

/-- It answers true. -/
def AV.isTrue : AV → Bool
  | .bool b => b
  | _ => false

theorem run_of_true {P : Program} {U : Out} {ann : FuncId → FAnn} {fuel n : Nat} {K : Oracle} {f : FuncId} {args : List AV} {H : Heap}
    (h : evalNK false false P U ann fuel K n f args H (fun v _ _ => v.isTrue) = true) : ∃ H' e, evalN P U ann fuel K n f args H = some (.bool true, H', e) := by
  rcases evalNK_le (R := Bool) false false (P := P) (U := U) (ann := ann) (fuel := fuel) (K := K) n f args H (fun v _ _ => v.isTrue) with h1 | h1
  · rw [h] at h1; cases h1
  rw [h1] at h
  unfold KOf at h
  cases hx : evalN P U ann fuel K n f args H with
  | none => rw [hx] at h; simp at h
  | some r =>
    obtain ⟨v, H', e⟩ := r
    rw [hx] at h
    simp only [Option.elim_some] at h
    cases v <;> simp [AV.isTrue] at h
    subst h
    exact ⟨H', e, rfl⟩

end Go.X
namespace Go.Proofs.Ytclmndonaljppaa
open Go.X
/-- main.main -/
def a0 : FAnn := ⟨0, [], [], [], false⟩
/-- gosem.cut -/
def a1 : FAnn := ⟨0, [], [], [], false⟩
/-- gosem.cut.init -/
def a2 : FAnn := ⟨0, [], [], [], true⟩
/-- silt/siltlaw24.PinsPlay -/
def a3 : FAnn := ⟨158456400595616903453399328755, [0, 1, 4, 5, 6, 7, 8, 9, 10, 13, 34, 42, 50, 63, 76, 97], [(0, 674 + 2 ^ 2001), (4242, 1), (4243, 1), (5036, 2)], [(12, ⟨[0, 1, 2, 3, 4, 6, 7, 8, 9, 10, 5, 11, 12], [(8, [1]), (10, [1])], []⟩), (14, ⟨[0, 1, 2, 3, 4, 6, 7, 8, 9, 10, 5, 11, 12], [(8, [1]), (10, [1])], []⟩), (16, ⟨[0, 1, 2, 4, 5, 6, 3, 7, 8, 9, 10, 11, 12, 13, 15, 16, 17, 14, 18, 19, 20], [(6, [1]), (17, [4])], []⟩)], true⟩
/-- silt/siltlaw24.PinsOnce -/
def a4 : FAnn := ⟨44601490397062038564708385393110758539137021, [0, 2, 3, 4, 5, 6, 7, 8, 9, 10, 11, 26, 39, 58, 71, 73, 97, 99, 145], [(0, 233 + 2 ^ 2001), (4242, 1), (4243, 1), (5036, 2)], [(9, ⟨[0, 1, 2, 3, 4, 6, 7, 8, 9, 10, 5, 11, 12, 13], [(10, [1])], []⟩), (15, ⟨[0, 1, 2, 3, 4, 5, 6, 7, 8], [], []⟩), (21, ⟨[0, 1, 2, 3, 4, 5, 6, 7, 8], [], []⟩), (23, ⟨[0, 1, 4, 5, 6, 2, 3, 7, 8, 9, 10, 12, 13, 14, 15, 16, 17, 18, 19, 20, 21, 22, 23, 24, 25, 26, 27, 28, 29, 30, 11, 31, 32], [(6, [1]), (15, [2]), (19, [2]), (24, [2]), (29, [2])], []⟩)], true⟩
/-- silt/siltlaw24.PinsNone -/
def a5 : FAnn := ⟨15, [0, 1, 2, 3], [], [], true⟩
/-- silt/siltlaw24.PinsApart -/
def a6 : FAnn := ⟨3245186176108391712090136914173939, [0, 1, 4, 5, 6, 7, 8, 9, 10, 11, 12, 20, 43, 50, 56, 62, 71, 80, 84, 89, 109, 111], [(0, 675 + 2 ^ 2001), (2, 6176 + 2 ^ 2001), (4242, 1), (4243, 1), (5036, 2)], [(13, ⟨[0, 1, 2, 4, 5, 6, 3, 7, 8], [(6, [1])], []⟩), (15, ⟨[0, 1, 2, 4, 5, 6, 3, 7, 8], [(6, [1])], []⟩)], true⟩
/-- silt/siltlaw24.wakes -/
def a7 : FAnn := ⟨131327, [0, 1, 2, 3, 4, 5, 6, 7, 17], [], [], true⟩
/-- silt/pins.New -/
def a8 : FAnn := ⟨525, [0, 2, 3, 9], [(4242, 1), (4243, 1), (5036, 2)], [], true⟩
/-- silt/siltref24.New -/
def a9 : FAnn := ⟨525, [0, 2, 3, 9], [(4242, 1), (4243, 1), (5036, 2)], [], true⟩
/-- (*silt/pins.Pins).Drop -/
def a10 : FAnn := ⟨67125703, [0, 1, 2, 6, 7, 8, 14, 26], [(4242, 1), (4243, 1), (5036, 2)], [(7, ⟨[0, 1, 2, 3, 4, 5, 6, 7, 8, 9, 10, 11, 12, 13, 14, 15, 16, 17], [(3, [1])], []⟩)], true⟩
/-- (*silt/siltref24.Pins).Drop -/
def a11 : FAnn := ⟨4295, [0, 1, 2, 6, 7, 12], [(4242, 1), (4243, 1), (5036, 2)], [(5, ⟨[0, 1, 2, 3, 4, 5, 6, 7, 8, 9, 10, 11, 12], [], []⟩)], true⟩
/-- (*silt/pins.Pins).Add -/
def a12 : FAnn := ⟨16583, [0, 1, 2, 6, 7, 14], [(4242, 1), (4243, 1), (5036, 2)], [(4, ⟨[0, 1, 2, 3, 4, 5, 6, 7, 8, 9, 10, 11, 12, 13, 14, 15, 16], [(3, [1, 2]), (8, [1]), (11, [1])], []⟩)], true⟩
/-- (*silt/siltref24.Pins).Add -/
def a13 : FAnn := ⟨528583, [0, 1, 2, 6, 7, 12, 19], [(4242, 1), (4243, 1), (5036, 2)], [(7, ⟨[0, 1, 2, 3, 4, 5, 6, 7, 8, 9, 10, 11, 12], [], []⟩)], true⟩
/-- silt/siltkeep.Ints -/
def a14 : FAnn := ⟨33571891, [0, 1, 4, 5, 10, 14, 25], [(0, 35 + 2 ^ 2001), (4242, 1), (4243, 1), (5036, 2)], [(6, ⟨[0, 1, 2, 3, 4, 5, 6, 7, 8], [], []⟩)], true⟩
/-- (*silt/pins.Pins).Of -/
def a15 : FAnn := ⟨275, [0, 1, 4, 8], [(4242, 1), (4243, 1), (5036, 2)], [], true⟩
/-- (*silt/siltref24.Pins).Of -/
def a16 : FAnn := ⟨134234355, [0, 1, 4, 5, 6, 7, 14, 27], [(0, 99 + 2 ^ 2001), (2, 227 + 2 ^ 2001), (4242, 1), (4243, 1), (5036, 2)], [], true⟩
/-- (*silt/pins.Pins).Count -/
def a17 : FAnn := ⟨568822451, [0, 1, 4, 5, 7, 9, 11, 15, 16, 17, 18, 21, 22, 23, 24, 29], [(0, 229410 + 2 ^ 2001), (2, 14909474 + 2 ^ 2001), (4242, 1), (4243, 1), (5036, 2)], [], true⟩
/-- (*silt/siltref24.Pins).Count -/
def a18 : FAnn := ⟨2097267, [0, 1, 4, 5, 6, 21], [(0, 99 + 2 ^ 2001), (4242, 1), (4243, 1), (5036, 2)], [], true⟩
/-- silt/siltkeep.Mod -/
def a19 : FAnn := ⟨83, [0, 1, 4, 6], [], [], true⟩
/-- silt/pins.number -/
def a20 : FAnn := ⟨16885, [0, 2, 4, 5, 6, 7, 8, 14], [(0, 225)], [], true⟩
/-- (*silt/pins.Pins).session -/
def a21 : FAnn := ⟨563, [0, 1, 4, 5, 9], [(4242, 1), (4243, 1), (5036, 2)], [], true⟩
/-- slices.Index[[]int,int] -/
def a22 : FAnn := ⟨66483, [0, 1, 4, 5, 7, 8, 9, 16], [(0, 387 + 2 ^ 2001), (4242, 1), (4243, 1), (5036, 2)], [], true⟩
/-- slices.Delete[[]int,int] -/
def a23 : FAnn := ⟨65735, [0, 1, 2, 6, 7, 16], [(4242, 1), (4243, 1), (5036, 2)], [(5, ⟨[0, 1, 2, 3, 4, 5, 6, 7], [], []⟩)], true⟩
/-- (*silt/siltref24.Pins).has -/
def a24 : FAnn := ⟨19, [0, 1, 4], [(4242, 1), (4243, 1), (5036, 2)], [], true⟩
/-- (*silt/pins.Pins).add -/
def a25 : FAnn := ⟨8425671, [0, 1, 2, 6, 7, 12, 15, 23], [(4242, 1), (4243, 1), (5036, 2)], [], true⟩
/-- slices.Sort[[]int,int] -/
def a26 : FAnn := ⟨5, [0, 2], [], [], true⟩
/-- slices.Clone[[]int,int] -/
def a27 : FAnn := ⟨21, [0, 2, 4], [(4242, 1), (4243, 1), (5036, 2)], [], true⟩
/-- errors.Is -/
def a28 : FAnn := ⟨2099, [0, 1, 4, 5, 11], [], [], true⟩
/-- silt/fault.New -/
def a29 : FAnn := ⟨83, [0, 1, 4, 6], [(4242, 1), (4243, 1), (5036, 2)], [], true⟩
/-- silt/fault.Wrap -/
def a30 : FAnn := ⟨83, [0, 1, 4, 6], [(4242, 1), (4243, 1), (5036, 2)], [], true⟩
/-- slices.pdqsortOrdered[int] -/
def a31 : FAnn := ⟨10384593871817177683247510831234831, [0, 1, 2, 3, 8, 9, 10, 11, 12, 13, 14, 15, 16, 17, 18, 23, 29, 35, 50, 68, 72, 87, 113], [(0, 783)], [(17, ⟨[0, 1, 2, 3, 4, 5, 6, 7, 8, 9, 10, 11, 12, 13, 14], [], []⟩)], true⟩
/-- math/bits.Len -/
def a32 : FAnn := ⟨5, [0, 2], [], [], true⟩
/-- internal/reflectlite.TypeOf -/
def a33 : FAnn := ⟨0, [], [], [], false⟩
/-- errors.is -/
def a34 : FAnn := ⟨4639143427053511, [0, 1, 2, 6, 7, 8, 9, 10, 12, 19, 30, 31, 33, 34, 38, 40, 41, 43, 44, 45, 46, 52], [(0, 7), (3, 61572651155462)], [], true⟩
/-- slices.insertionSortOrdered[int] -/
def a35 : FAnn := ⟨1073746119, [0, 1, 2, 6, 7, 12, 30], [(0, 71), (2, 199)], [(4, ⟨[0, 1, 2, 3, 4, 5, 6, 7, 8, 9, 10, 11, 12, 13, 14], [], []⟩), (6, ⟨[0, 1, 2, 3, 4, 5, 6, 7, 8, 9, 10, 11, 12, 13, 14, 15, 16, 17], [], []⟩)], true⟩
/-- slices.heapSortOrdered[int] -/
def a36 : FAnn := ⟨1074268103, [0, 1, 2, 6, 7, 8, 9, 10, 19, 30], [(0, 961), (2, 1217)], [(10, ⟨[0, 1, 2, 3, 4, 5, 6, 7, 8, 9, 10, 11, 12, 13, 14, 15, 16, 17, 18, 19], [], []⟩)], true⟩
/-- slices.breakPatternsOrdered[int] -/
def a37 : FAnn := ⟨8804682991559, [0, 1, 2, 6, 7, 8, 9, 10, 15, 33, 43], [(0, 963)], [(10, ⟨[0, 1, 2, 3, 4, 5, 6, 7, 8, 9, 10, 11, 12, 13, 14, 15, 16, 17, 18, 19], [], []⟩)], true⟩
/-- slices.choosePivotOrdered[int] -/
def a38 : FAnn := ⟨20829169751433159, [0, 1, 2, 6, 7, 8, 9, 10, 11, 12, 32, 34, 49, 51, 54], [], [], true⟩
/-- slices.reverseRangeOrdered[int] -/
def a39 : FAnn := ⟨8391, [0, 1, 2, 6, 7, 13], [(0, 193)], [(3, ⟨[0, 1, 2, 3, 4, 5, 6, 7, 8, 9, 10, 11, 12, 13, 14, 15], [], []⟩)], true⟩
/-- slices.partialInsertionSortOrdered[int] -/
def a40 : FAnn := ⟨83087207854311395603287443752634311, [0, 1, 2, 6, 7, 8, 9, 10, 14, 32, 37, 41, 61, 65, 78, 98, 103, 116], [(0, 391), (2, 391), (4, 903), (6, 1415)], [(5, ⟨[0, 1, 2, 3, 4, 5, 6, 7, 8, 9, 10, 11, 12, 13, 14, 15], [], []⟩), (11, ⟨[0, 1, 2, 3, 4, 5, 6, 7, 8, 9, 10, 11, 12, 13, 14, 15, 16, 17], [], []⟩), (16, ⟨[0, 1, 2, 3, 4, 5, 6, 7, 8, 9, 10], [], []⟩), (17, ⟨[0, 1, 2, 3, 4, 5, 6, 7, 8, 9, 10, 11, 12, 13, 14, 15, 16, 17], [], []⟩), (22, ⟨[0, 1, 2, 3, 4, 5, 6, 7, 8, 9, 10], [], []⟩), (23, ⟨[0, 1, 2, 3, 4, 5, 6, 7, 8, 9, 10, 11, 12, 13, 14, 15, 16, 17], [], []⟩)], true⟩
/-- cmp.Less[int] -/
def a41 : FAnn := ⟨19, [0, 1, 4], [], [], true⟩
/-- slices.partitionEqualOrdered[int] -/
def a42 : FAnn := ⟨19023213622105999119, [0, 1, 2, 3, 8, 9, 10, 43, 59, 64], [(0, 1539), (2, 1539), (4, 1539)], [(1, ⟨[0, 1, 2, 3, 4, 5, 6, 7, 8, 9, 10, 11, 12, 13, 14, 15], [], []⟩), (3, ⟨[0, 1, 2, 3, 4, 5, 6, 7, 8, 9, 10, 11, 12, 13, 14], [], []⟩), (5, ⟨[0, 1, 2, 3, 4, 5, 6, 7, 8, 9, 10, 11, 12, 13], [], []⟩), (8, ⟨[0, 1, 2, 3, 4, 5, 6, 7, 8, 9, 10, 11, 12, 13, 14, 15], [], []⟩)], true⟩
/-- slices.partitionOrdered[int] -/
def a43 : FAnn := ⟨22458641409078797123448399039441150152463, [0, 1, 2, 3, 8, 9, 10, 11, 43, 60, 65, 112, 129, 134], [(0, 3075), (2, 3075), (4, 3075), (6, 3075), (8, 3075)], [(1, ⟨[0, 1, 2, 3, 4, 5, 6, 7, 8, 9, 10, 11, 12, 13, 14, 15], [], []⟩), (3, ⟨[0, 1, 2, 3, 4, 5, 6, 7, 8, 9, 10, 11, 12, 13], [], []⟩), (5, ⟨[0, 1, 2, 3, 4, 5, 6, 7, 8, 9, 10, 11, 12, 13, 14], [], []⟩), (8, ⟨[0, 1, 2, 3, 4, 5, 6, 7, 8, 9, 10, 11, 12, 13, 14, 15], [], []⟩), (10, ⟨[0, 1, 2, 3, 4, 5, 6, 7, 8, 9, 10, 11, 12, 13, 14, 15], [], []⟩), (13, ⟨[0, 1, 2, 3, 4, 5, 6, 7, 8, 9, 10, 11, 12, 13], [], []⟩), (15, ⟨[0, 1, 2, 3, 4, 5, 6, 7, 8, 9, 10, 11, 12, 13, 14], [], []⟩), (18, ⟨[0, 1, 2, 3, 4, 5, 6, 7, 8, 9, 10, 11, 12, 13, 14, 15], [], []⟩), (21, ⟨[0, 1, 2, 3, 4, 5, 6, 7, 8, 9, 10, 11, 12, 13, 14, 15], [], []⟩)], true⟩
/-- math/bits.Len32 -/
def a44 : FAnn := ⟨277, [0, 2, 4, 8], [], [], true⟩
/-- math/bits.Len64 -/
def a45 : FAnn := ⟨16661, [0, 2, 4, 8, 14], [], [], true⟩
/-- slices.siftDownOrdered[int] -/
def a46 : FAnn := ⟨4503668346913551, [0, 1, 2, 3, 8, 9, 16, 36, 52], [(0, 269)], [(3, ⟨[0, 1, 2, 3, 4, 5, 6, 7, 8, 9, 10, 11, 12, 13, 14, 15, 16, 17, 18, 19], [], []⟩), (5, ⟨[0, 1, 2, 3, 4, 5, 6, 7, 8, 9, 10, 11, 12, 13], [], []⟩), (6, ⟨[0, 1, 2, 3, 4, 5, 6, 7, 8, 9, 10, 11, 12, 13, 14, 15, 16, 17, 18, 19, 20, 21, 22, 23], [], []⟩)], true⟩
/-- slices.nextPowerOfTwo -/
def a47 : FAnn := ⟨5, [0, 2], [], [], true⟩
/-- (*slices.xorshift).Next -/
def a48 : FAnn := ⟨5, [0, 2], [], [(1, ⟨[0, 1, 2, 3, 4, 5, 6, 7, 8, 9], [], []⟩), (2, ⟨[0, 1, 2, 3, 4, 5, 6, 7, 8, 9], [], []⟩), (3, ⟨[0, 1, 2, 3, 4, 5, 6, 7, 8, 9], [], []⟩)], true⟩
/-- slices.medianAdjacentOrdered[int] -/
def a49 : FAnn := ⟨71, [0, 1, 2, 6], [], [], true⟩
/-- slices.medianOrdered[int] -/
def a50 : FAnn := ⟨1055, [0, 1, 2, 3, 4, 10], [], [], true⟩
/-- cmp.isNaN[int] -/
def a51 : FAnn := ⟨5, [0, 2], [], [], true⟩
/-- slices.order2Ordered[int] -/
def a52 : FAnn := ⟨262927, [0, 1, 2, 3, 8, 9, 18], [], [(1, ⟨[0, 1, 2, 3, 4, 5, 6, 7, 8], [], []⟩)], true⟩
/-- (runtime.boundsError).Error -/
def a53 : FAnn := ⟨0, [], [], [], false⟩
/-- (runtime.boundsError).RuntimeError -/
def a54 : FAnn := ⟨0, [], [], [], false⟩
/-- (runtime.errorString).Error -/
def a55 : FAnn := ⟨0, [], [], [], false⟩
/-- (runtime.errorString).RuntimeError -/
def a56 : FAnn := ⟨0, [], [], [], false⟩
/-- (runtime.plainError).Error -/
def a57 : FAnn := ⟨0, [], [], [], false⟩
/-- (runtime.plainError).RuntimeError -/
def a58 : FAnn := ⟨0, [], [], [], false⟩
/-- (runtime.errorAddressString).Error -/
def a59 : FAnn := ⟨0, [], [], [], false⟩
/-- (runtime.errorAddressString).RuntimeError -/
def a60 : FAnn := ⟨0, [], [], [], false⟩
/-- (*runtime.TypeAssertionError).Error -/
def a61 : FAnn := ⟨0, [], [], [], false⟩
/-- (*runtime.TypeAssertionError).RuntimeError -/
def a62 : FAnn := ⟨0, [], [], [], false⟩
/-- (*runtime.PanicNilError).Error -/
def a63 : FAnn := ⟨0, [], [], [], false⟩
/-- (*runtime.PanicNilError).RuntimeError -/
def a64 : FAnn := ⟨0, [], [], [], false⟩
/-- (*internal/abi.Type).Align -/
def a65 : FAnn := ⟨0, [], [], [], false⟩
/-- (internal/runtime/maps.unhashableTypeError).Error -/
def a66 : FAnn := ⟨0, [], [], [], false⟩
/-- (internal/runtime/maps.unhashableTypeError).RuntimeError -/
def a67 : FAnn := ⟨0, [], [], [], false⟩
/-- (silt/api.Errno).Error -/
def a68 : FAnn := ⟨0, [], [], [], false⟩
/-- (*silt/fault.fault).Error -/
def a69 : FAnn := ⟨0, [], [], [], false⟩
/-- (*silt/fault.fault).Unwrap -/
def a70 : FAnn := ⟨5, [0, 2], [], [], true⟩
/-- (*internal/abi.Type).Kind -/
def a71 : FAnn := ⟨0, [], [], [], false⟩
/-- (*internal/abi.Type).Size -/
def a72 : FAnn := ⟨0, [], [], [], false⟩
/-- (internal/reflectlite.rtype).AssignableTo -/
def a73 : FAnn := ⟨0, [], [], [], false⟩
/-- (internal/reflectlite.rtype).Comparable -/
def a74 : FAnn := ⟨0, [], [], [], false⟩
/-- (internal/reflectlite.rtype).Elem -/
def a75 : FAnn := ⟨0, [], [], [], false⟩
/-- (internal/reflectlite.rtype).Implements -/
def a76 : FAnn := ⟨0, [], [], [], false⟩
/-- (internal/reflectlite.rtype).Name -/
def a77 : FAnn := ⟨0, [], [], [], false⟩
/-- (internal/reflectlite.rtype).PkgPath -/
def a78 : FAnn := ⟨0, [], [], [], false⟩
/-- (internal/reflectlite.rtype).String -/
def a79 : FAnn := ⟨0, [], [], [], false⟩
/-- (internal/reflectlite.rtype).common -/
def a80 : FAnn := ⟨0, [], [], [], false⟩
/-- (internal/reflectlite.rtype).uncommon -/
def a81 : FAnn := ⟨0, [], [], [], false⟩
/-- (*internal/reflectlite.ValueError).Error -/
def a82 : FAnn := ⟨0, [], [], [], false⟩
/-- (internal/abi.Kind).String -/
def a83 : FAnn := ⟨0, [], [], [], false⟩
/-- (*internal/abi.UncommonType).ExportedMethods -/
def a84 : FAnn := ⟨0, [], [], [], false⟩
def anns : List FAnn := [a0, a1, a2, a3, a4, a5, a6, a7, a8, a9, a10, a11, a12, a13, a14, a15, a16, a17, a18, a19, a20, a21, a22, a23, a24, a25, a26, a27, a28, a29, a30, a31, a32, a33, a34, a35, a36, a37, a38, a39, a40, a41, a42, a43, a44, a45, a46, a47, a48, a49, a50, a51, a52, a53, a54, a55, a56, a57, a58, a59, a60, a61, a62, a63, a64, a65, a66, a67, a68, a69, a70, a71, a72, a73, a74, a75, a76, a77, a78, a79, a80, a81, a82, a83, a84]
def ann (f : FuncId) : FAnn := (anns[f]?).getD ⟨0, [], [], [], false⟩
def tab : List (Nat × Nat) := [(33, 1), (71, 7), (73, 5), (74, 3), (75, 2), (76, 4)]
end Go.Proofs.Ytclmndonaljppaa
