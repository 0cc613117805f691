/-
  How abstract memory stands for the model's world; stores, new blocks, blocks given up.
-/
import Derived.Test.YtiiddampachhlaaX3
import Derived.Laws.IdiomCopy
import Derived.Laws.AppendOwn
namespace Go.X
open Go.RowKit (Below)

def Loc.has (L : Loc) (b o : Nat) : Prop := L.b = b ∧ L.base ≤ o ∧ o < L.base + L.ext

/-- Is a cell in a live block's room? -/
def InE (E : Env) (b o : Nat) : Prop := ∃ i L, E.loc i = some L ∧ L.has b o

structure BlkAt (E : Env) (bk : Blk) (L : Loc) (w : World) : Prop where
  cs : ∃ cs, FR E [bk.root] cs ∧ cs.length = L.gen ∧ ∀ j c, cs[j]? = some c → w.cell? ⟨L.b, L.base + j, none⟩ = some c
  fits : L.gen ≤ L.ext
  room : ∀ j, j < L.ext → (w.cell? ⟨L.b, L.base + j, none⟩).isSome = true ∧ w.frozen? ⟨L.b, L.base + j, none⟩ = false

structure Sim (B : Nat) (E : Env) (H : Heap) (w : World) : Prop where
  top : E.top = H.length
  live : ∀ i bk, H.blk i = some bk → ∃ L, E.loc i = some L ∧ BlkAt E bk L w ∧ B ≤ L.b
  dead : ∀ i L, E.loc i = some L → ∃ bk, H.blk i = some bk
  apart : ∀ i j Li Lj, E.loc i = some Li → E.loc j = some Lj → i ≠ j → ∀ b o, Li.has b o → ¬ Lj.has b o
  imm : ∀ b o c, E.m b o = some c → w.cell? ⟨b, o, none⟩ = some c
  immApart : ∀ b o c, E.m b o = some c → ¬ InE E b o
  flat : ∀ i bk, H.blk i = some bk → bk.flat = true → bk.root.refs = []
  old : B ≤ w.heap.size

/-- What a piece of a run does to the world, seen from its begin. -/
structure Tr (B k : Nat) (E : Env) (w : World) (E' : Env) (w' : World) : Prop where
  below : Below B w w'
  evol : Evol k E E'
  frame : ∀ b o, b < w.heap.size → ¬ InE E b o → w'.cell? ⟨b, o, none⟩ = w.cell? ⟨b, o, none⟩ ∧ w'.frozen? ⟨b, o, none⟩ = w.frozen? ⟨b, o, none⟩
  ext : ∀ b o, b < w.heap.size → InE E' b o → InE E b o
  imm : ∀ b o c, b < w.heap.size → E'.m b o = some c → E.m b o = some c ∨ InE E b o

theorem Tr.refl (B k : Nat) (E : Env) (w : World) : Tr B k E w E w := ⟨Below.refl _ _, Evol.refl _ _, fun _ _ _ _ => ⟨rfl, rfl⟩, fun _ _ _ h => h, fun _ _ _ _ h => .inl h⟩

theorem Tr.trans {B k : Nat} {E E1 E2 : Env} {w w1 w2 : World} (h : Tr B k E w E1 w1) (g : Tr B k E1 w1 E2 w2) : Tr B k E w E2 w2 := by
  refine ⟨h.below.trans g.below, h.evol.trans g.evol, fun b o hb hn => ?_, fun b o hb hi => ?_, fun b o c hb hi => ?_⟩
  · have h1 := h.frame b o hb hn
    have h2 := g.frame b o (Nat.lt_of_lt_of_le hb h.below.size) (fun hi => hn (h.ext b o hb hi))
    exact ⟨h2.1.trans h1.1, h2.2.trans h1.2⟩
  · exact h.ext b o hb (g.ext b o (Nat.lt_of_lt_of_le hb h.below.size) hi)
  · rcases g.imm b o c (Nat.lt_of_lt_of_le hb h.below.size) hi with h1 | h1
    · exact h.imm b o c hb h1
    · exact .inr (h.ext b o hb h1)

theorem Tr.mono {B k k' : Nat} {E E' : Env} {w w' : World} (h : Tr B k E w E' w') (hk : k' ≤ k) : Tr B k' E w E' w' := ⟨h.below, h.evol.mono hk, h.frame, h.ext, h.imm⟩

theorem Heap.blk_some {H : Heap} {i : Nat} {bk : Blk} (h : H.blk i = some bk) : i < H.length := by
  rcases Nat.lt_or_ge i H.length with h' | h'
  · exact h'
  · simp [Heap.blk, List.getElem?_eq_none h'] at h

theorem Heap.blk_set {H : Heap} {i j : Nat} {x : Option Blk} (hi : i < H.length) : Heap.blk (H.set i x) j = if i = j then x else H.blk j := by
  unfold Heap.blk
  rw [List.getElem?_set]
  split
  · simp [*]
  · rfl

theorem Heap.blk_append {H : Heap} {x : Option Blk} {j : Nat} : Heap.blk (H ++ [x]) j = if j = H.length then x else H.blk j := by
  unfold Heap.blk
  rw [List.getElem?_append]
  split
  · rw [if_neg (by omega)]
  · split
    · simp [*]
    · rw [List.getElem?_eq_none (by simp; omega), List.getElem?_eq_none (by omega)]

/-- All references of a value are below. -/
theorem FR.refs_lt {E : Env} {vs : List AV} {cs : List Value} (h : FR E vs cs) : ∀ r ∈ refsL vs, r < E.top := by
  induction h with
  | nil => simp [refsL]
  | ptr h1 h2 h ih => intro r hr; simp [refsL, AV.refs] at hr; exact hr.elim (fun e => e ▸ h1) (ih r)
  | sl h1 hl h2 hs h ih => intro r hr; simp [refsL, AV.refs] at hr; exact hr.elim (fun e => e ▸ h1) (ih r)
  | func h1 h2 h3 h ih1 ih2 ih => intro r hr; simp [refsL, AV.refs] at hr; exact hr.elim (ih1 r) (fun hr => hr.elim (ih2 r) (ih r))
  | iface h1 h ih1 ih => intro r hr; simp [refsL, AV.refs] at hr ih1; exact hr.elim (ih1 r) (ih r)
  | agg h1 hn h ih1 ih => intro r hr; simp [refsL, AV.refs] at hr; exact hr.elim (ih1 r) (ih r)
  | arr h1 hn h ih1 ih => intro r hr; simp [refsL, AV.refs] at hr; exact hr.elim (ih1 r) (ih r)
  | _ => simpa [refsL, AV.refs]

theorem FR.later {E E' : Env} (he : Evol E.top E E') (hk : E.top ≤ E'.top) {vs : List AV} {cs : List Value} (h : FR E vs cs) : FR E' vs cs := h.evol he hk h.refs_lt

theorem PR.later {E E' : Env} (he : Evol E.top E E') (hk : E.top ≤ E'.top) {v : AV} {c : Value} (h : PR E v c) : PR E' v c := by
  obtain ⟨cs, h1, h2⟩ := h
  exact ⟨cs, h1.later he hk, h2⟩

theorem VR.of_PR {E : Env} {v : AV} {c : Value} (h : PR E v c) : VR E v c := by
  cases v with
  | bad => trivial
  | undf => obtain ⟨cs, h1, _⟩ := h; cases h1
  | tuple vs => obtain ⟨cs, h1, _⟩ := h; cases h1
  | _ => exact h

theorem VR.toPR {E : Env} {v : AV} {c : Value} (h : VR E v c) (hp : v.plain = true) : PR E v c := by
  cases v with
  | bad => simp [AV.plain] at hp
  | undf => simp [AV.plain] at hp
  | tuple vs => simp [AV.plain] at hp
  | _ => exact h

theorem PR.plain {E : Env} {v : AV} {c : Value} (h : PR E v c) : v.plain = true := by
  obtain ⟨cs, h1, _⟩ := h
  cases h1 <;> rfl

theorem VR.later {E E' : Env} (he : Evol E.top E E') (hk : E.top ≤ E'.top) {v : AV} {c : Value} (h : VR E v c) : VR E' v c := by
  cases v with
  | bad => trivial
  | undf => exact h
  | tuple vs =>
    obtain ⟨cvs, h1, h2, h3⟩ := h
    exact ⟨cvs, h1, h2, fun i v c hv hc => (h3 i v c hv hc).imp id (PR.later he hk)⟩
  | _ => exact PR.later he hk (show PR E _ c from h)

/-- The cells of a value that may lie in memory. -/
theorem PR.cells {E : Env} {v : AV} {c : Value} (h : PR E v c) : FR E [v] c.cells.toList := by
  obtain ⟨cs, h1, rfl⟩ := h
  unfold pack
  split
  · simpa [Value.cells] using h1
  · have hl := h1.length
    cases v <;> simp_all [AV.isAgg, sumLen, AV.flatLen]
    all_goals (obtain ⟨x, rfl⟩ := List.length_eq_one_iff.1 hl; have h2 := h1; cases h1 <;> simpa [Value.cells] using h2)

theorem PR.of_cells {E : Env} {v : AV} {cs : List Value} (h : FR E [v] cs) : PR E v (pack v cs) := ⟨cs, h, rfl⟩

/-- A cell of a value is no aggregate. -/
theorem FR.oneCell {E : Env} {vs : List AV} {cs : List Value} (h : FR E vs cs) : ∀ c ∈ cs, c.oneCell' = true := by
  induction h with
  | nil => simp
  | iface h1 h ih1 ih => intro c hc; exact (List.mem_cons.1 hc).elim (fun e => e ▸ rfl) (ih c)
  | agg h1 hn h ih1 ih => intro c hc; exact (List.mem_append.1 hc).elim (ih1 c) (ih c)
  | arr h1 hn h ih1 ih => intro c hc; exact (List.mem_append.1 hc).elim (ih1 c) (ih c)
  | _ => rename_i ih; intro c hc; exact (List.mem_cons.1 hc).elim (fun e => e ▸ rfl) (ih c)

end Go.X
