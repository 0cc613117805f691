/-
  Loads, stores, new blocks: what the evaluator tells is what the model does.
-/
import Derived.Test.YtiiddampachhlaaX4
import Derived.Laws.Cells
import Derived.Laws.Entries
import Derived.Laws.NewFold
namespace Go.X
open Go.RowKit (Below)

section
variable {P : Program} {B : Nat} {E : Env} {H : Heap} {w : World}

theorem run_sizeOf' {t : TypeId} {n : Nat} (h : tsize P t = some n) (w : World) : (sizeOf t).run P w = .ok n w := by
  unfold tsize at h
  cases hi : P.info? t with
  | none => simp [hi] at h
  | some i =>
    have : i.size = n := by simpa [hi] using h
    simp [sizeOf, typeInfo, hi, this]

theorem run_isAgg' {t : TypeId} {b : Bool} (h : tagg P t = some b) (w : World) : (isAgg t).run P w = .ok b w := by
  unfold tagg at h
  cases hi : P.underlying t with
  | none => simp [hi] at h
  | some d =>
    simp only [hi, Option.map_some, Option.some.injEq] at h
    simp only [isAgg, Sem.run_bind, run_underlying hi, Result.andThen_ok]
    rw [← h]
    cases d <;> rfl

theorem Addr.add_mk (b o j : Nat) : (⟨b, o, none⟩ : Addr).add j = ⟨b, o + j, none⟩ := by unfold Addr.add; split <;> simp_all

theorem run_loadCells' {b o n : Nat} {cs : List Value} (hl : cs.length = n) (h : ∀ j c, cs[j]? = some c → w.cell? ⟨b, o + j, none⟩ = some c) :
    (loadCells ⟨b, o, none⟩ n).run P w = .ok cs.toArray w := by
  subst hl
  exact run_loadCells_list (P := P) w ⟨b, o, none⟩ cs (fun j c hc => by rw [Addr.add_mk]; exact h j c hc)

theorem FR.one_leaf {v : AV} {cs : List Value} (h : FR E [v] cs) (hv : v.isAgg = false) : ∃ c, cs = [c] ∧ pack v cs = c := by
  have hl := h.length
  have hf : v.flatLen = 1 := by cases v <;> first | rfl | simp [AV.isAgg] at hv
  simp only [sumLen, hf] at hl
  obtain ⟨c, rfl⟩ := List.length_eq_one_iff.1 hl
  exact ⟨c, rfl, by simp [pack, hv]⟩

/-- Cells that are a value's, loaded at its type. -/
theorem run_loadVar' {t : TypeId} {v : AV} {b o : Nat} {cs : List Value} (hf : FR E [v] cs) (ha : tagg P t = some v.isAgg) (hz : tsize P t = some v.flatLen)
    (h : ∀ j c, cs[j]? = some c → w.cell? ⟨b, o + j, none⟩ = some c) : (loadVar t ⟨b, o, none⟩).run P w = .ok (pack v cs) w := by
  have hl : cs.length = v.flatLen := by rw [hf.length]; simp [sumLen]
  cases hv : v.isAgg with
  | true =>
    rw [hv] at ha
    simp only [loadVar, Sem.run_bind, run_isAgg' ha, Result.andThen_ok, if_true, run_sizeOf' hz, run_loadCells' hl h]
    simp [pack, hv]
  | false =>
    rw [hv] at ha
    obtain ⟨c, rfl, hp⟩ := hf.one_leaf hv
    have hc := h 0 c rfl
    simp only [Nat.add_zero] at hc
    simp [loadVar, Sem.run_bind, run_isAgg' ha, hc, hp]

/-- Where a live reference leads. -/
theorem Sim.at (hs : Sim B E H w) {p : Pl} {bk : Blk} (hb : H.blk p.id = some bk) (hg : bk.root.flatLen = p.gen) :
    ∃ L, E.loc p.id = some L ∧ BlkAt E bk L w ∧ B ≤ L.b ∧ p.gen = L.gen := by
  obtain ⟨L, h1, h2, h3⟩ := hs.live _ _ hb
  obtain ⟨cs, hf, hl, _⟩ := h2.cs
  refine ⟨L, h1, h2, h3, ?_⟩
  rw [← hg, ← hl, hf.length]
  simp [sumLen]

theorem PR.ptr_inv {p : Pl} {c : Value} (h : PR E (.ptr p) c) : ∃ a, c = .pointer (some a) ∧ p.id < E.top ∧
    ∀ L, E.loc p.id = some L → p.gen < L.gen ∨ (p.gen = L.gen ∧ a = ⟨L.b, L.base + p.coff, none⟩) := by
  obtain ⟨cs, h1, rfl⟩ := h
  cases h1 with
  | ptr h2 h3 h4 => exact ⟨_, rfl, h2, h3⟩

theorem PR.sl_inv {p : Pl} {e n off len : Nat} {c : Value} (h : PR E (.sl p e n off len) c) : ∃ a cap, c = .slice (some a) len cap ∧ p.id < E.top ∧ len ≤ cap ∧
    ∀ L, E.loc p.id = some L → p.gen < L.gen ∨ (p.gen = L.gen ∧ n ≤ off + cap ∧ p.coff + (off + cap) * e ≤ L.ext ∧ (cap = 0 ∨ a = ⟨L.b, L.base + p.coff + off * e, none⟩)) := by
  obtain ⟨cs, h1, rfl⟩ := h
  cases h1 with
  | sl h2 h3 h4 hs h5 => exact ⟨_, _, rfl, h2, h3, h4⟩

theorem PR.sl_spot {p : Pl} {e n off len len' cap : Nat} {a : Addr} (h : PR E (.sl p e n off len) (.slice (some a) len' cap)) : a.spot = none := by
  obtain ⟨cs, h1, h2⟩ := h
  cases h1 with
  | sl h3 h4 h5 hs h6 =>
    simp only [pack, AV.isAgg, List.headD_cons, Bool.false_eq_true, if_false, Value.slice.injEq, Option.some.injEq] at h2
    rw [h2.1]
    exact hs

theorem Addr.add_spot {a : Addr} (h : a.spot = none) (n : Nat) : (a.add n).spot = none := by
  unfold Addr.add
  split <;> simp_all

theorem PR.iptr_inv {v : AV} {c : Value} (h : PR E (.iptr v) c) : ∃ b o c1, c = .pointer (some ⟨b, o, none⟩) ∧ v.refless = true ∧ FR E [v] c1 ∧ ∀ j c, c1[j]? = some c → E.m b (o + j) = some c := by
  obtain ⟨cs, h1, rfl⟩ := h
  cases h1 with
  | iptr h2 h3 h4 h5 => exact ⟨_, _, _, rfl, h2, h3, h4⟩

theorem PR.isl_inv {e : Nat} {xs : List AV} {c : Value} (h : PR E (.isl e xs) c) : ∃ b o sp c1 cap, c = .slice (some ⟨b, o, sp⟩) xs.length cap ∧ (sp = none ∨ xs = []) ∧ reflessL xs = true ∧ FR E xs c1 ∧ (∀ x ∈ xs, x.flatLen = e) ∧ xs.length ≤ cap ∧
    ∀ j c, c1[j]? = some c → E.m b (o + j) = some c := by
  obtain ⟨cs, h1, rfl⟩ := h
  cases h1 with
  | isl h2 h3 h4 h5 h6 h7 h8 => exact ⟨_, _, _, _, _, rfl, h7, h2, h3, h4, h5, h6⟩

theorem load_ok (hs : Sim B E H w) {t : TypeId} {a v : AV} {ca : Value} (ha : VR E a ca) (h : loadAV P H t a = some v) :
    ∃ c, (Instr.loadAt t ca).run P w = .ok c w ∧ PR E v c ∧ v.refs ⊆ a.refs.flatMap (fun i => match H.blk i with | some b => b.root.refs | none => []) := by
  cases a with
  | ptr p =>
    simp only [loadAV, Option.bind_eq_some_iff] at h
    obtain ⟨bk, hb, ⟨o, u⟩, hat, h⟩ := h
    split at h
    · rename_i hc
      obtain ⟨hg, ho, hta, htz⟩ := hc
      obtain rfl : u = v := by simpa using h
      obtain ⟨ad, rfl, _, had⟩ := PR.ptr_inv (show PR E (.ptr p) ca from ha)
      obtain ⟨L, hL, hB, _, hgen⟩ := hs.at hb hg
      obtain ⟨cs, hf, hlen, hcells⟩ := hB.cs
      have had' : ad = ⟨L.b, L.base + p.coff, none⟩ := by
        rcases had L hL with h | h
        · omega
        · exact h.2
      subst had'
      obtain ⟨pre, mid, post, rfl, hpre, hm⟩ := at_spec p.path _ _ _ _ hf hat
      refine ⟨pack u mid, ?_, .of_cells hm, ?_⟩
      · have := run_loadVar' (P := P) (w := w) (b := L.b) (o := L.base + p.coff) hm hta htz (fun j c hc => by
          have := hcells (p.coff + j) c (by
            simp only at ho
            rw [List.append_assoc, List.getElem?_append_right (by omega), show p.coff + j - pre.length = j by omega, List.getElem?_append_left (by
              rcases Nat.lt_or_ge j mid.length with h | h
              · exact h
              · simp [List.getElem?_eq_none h] at hc)]
            exact hc)
          rwa [Nat.add_assoc])
        simpa [Instr.loadAt, Instr.sureAddr] using this
      · simp only [AV.refs, List.flatMap_cons, hb, List.flatMap_nil, List.append_nil]
        exact at_refs p.path _ _ _ hat
    · simp at h
  | iptr u =>
    simp only [loadAV] at h
    split at h
    · rename_i hc
      obtain rfl : u = v := by simpa using h
      obtain ⟨b, o, c1, rfl, hr, hf, hm⟩ := PR.iptr_inv (show PR E (.iptr u) ca from ha)
      refine ⟨pack u c1, ?_, .of_cells hf, ?_⟩
      · have := run_loadVar' (P := P) (w := w) (b := b) (o := o) hf hc.1 hc.2 (fun j c hcj => hs.imm _ _ _ (hm j c hcj))
        simpa [Instr.loadAt, Instr.sureAddr] using this
      · rw [FR.evol.refs_of_refless hr]; exact List.nil_subset _
    · simp at h
  | _ => simp [loadAV] at h
where
  at_refs : ∀ (path : List Nat) (v : AV) (o : Nat) (u : AV), v.at? path = some (o, u) → u.refs ⊆ v.refs
    | [], v, o, u, h => by
      have : (0, v) = (o, u) := by cases v <;> simpa [AV.at?] using h
      obtain ⟨_, rfl⟩ := by simpa using this
      exact fun _ h => h
    | i :: r, v, o, u, h => by
      cases v with
      | agg n ps =>
        simp only [AV.at?, Option.bind_eq_some_iff, Option.map_eq_some_iff, Prod.exists, Prod.mk.injEq] at h
        obtain ⟨p, hp, o', u', hr, _, rfl⟩ := h
        exact fun x hx => by
          simp only [AV.refs]
          exact refsL_of_mem (List.mem_of_getElem? hp) (at_refs r p _ _ hr hx)
      | arr n ps =>
        simp only [AV.at?, Option.bind_eq_some_iff, Option.map_eq_some_iff, Prod.exists, Prod.mk.injEq] at h
        obtain ⟨p, hp, o', u', hr, _, rfl⟩ := h
        exact fun x hx => by
          simp only [AV.refs]
          exact refsL_of_mem (List.mem_of_getElem? hp) (at_refs r p _ _ hr hx)
      | _ => simp [AV.at?] at h
  refsL_of_mem : ∀ {vs : List AV} {v : AV} {x : Nat}, v ∈ vs → x ∈ v.refs → x ∈ refsL vs
    | v :: vs, _, x, .head _, hx => by simp [refsL, hx]
    | v :: vs, u, x, .tail _ h, hx => by simp [refsL, refsL_of_mem h hx]

end
end Go.X
