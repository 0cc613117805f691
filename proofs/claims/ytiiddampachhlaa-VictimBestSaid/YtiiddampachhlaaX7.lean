/-
  Constants, zero values, operands; the operations that touch no memory.
-/
import Derived.Test.YtiiddampachhlaaX6
namespace Go.X
open Go.RowKit (Below)

section
variable {P : Program} {B : Nat} {E E' : Env} {H : Heap} {w w' : World}

theorem absCell_spec {c : Value} {v : AV} (h : absCell c = some v) : FR E [v] [c] ∧ v.refless = true ∧ v.isAgg = false := by
  unfold absCell at h
  split at h <;> first | (obtain rfl := Option.some.inj h; refine ⟨?_, rfl, rfl⟩) | simp at h
  · exact .bool .nil
  · exact .int .nil
  · exact .str .nil
  · exact .nilp .nil
  · exact .nils .nil
  · exact .nilm .nil
  · exact .nilf .nil
  · exact .nili .nil

theorem readMany_spec {f : TypeId → List Value → Option (AV × List Value)}
    (hf : ∀ t cs v r, f t cs = some (v, r) → ∃ c1, cs = c1 ++ r ∧ FR E [v] c1 ∧ v.refless = true) :
    ∀ (ts : List TypeId) (cs : List Value) (vs : List AV) (r : List Value), readMany f ts cs = some (vs, r) → ∃ c1, cs = c1 ++ r ∧ FR E vs c1 ∧ reflessL vs = true
  | [], cs, vs, r, h => by
    simp only [readMany, Option.some.injEq, Prod.mk.injEq] at h
    obtain ⟨rfl, rfl⟩ := h
    exact ⟨[], rfl, .nil, rfl⟩
  | t :: ts, cs, vs, r, h => by
    simp only [readMany, Option.bind_eq_some_iff, Option.map_eq_some_iff, Prod.exists, Prod.mk.injEq] at h
    obtain ⟨v, r1, h1, us, r2, h2, rfl, rfl⟩ := h
    obtain ⟨c1, rfl, k1, k2⟩ := hf _ _ _ _ h1
    obtain ⟨c2, rfl, k3, k4⟩ := readMany_spec hf ts _ _ _ h2
    exact ⟨c1 ++ c2, by simp, .cons k1 k3, by simp [reflessL, k2, k4]⟩

theorem absOf_spec : ∀ (d : Nat) (t : TypeId) (cs : List Value) (v : AV) (r : List Value), absOf P d t cs = some (v, r) → ∃ c1, cs = c1 ++ r ∧ FR E [v] c1 ∧ v.refless = true
  | 0, t, cs, v, r, h => by simp [absOf] at h
  | d + 1, t, cs, v, r, h => by
    unfold absOf at h
    split at h
    · simp only [Option.map_eq_some_iff, Prod.exists, Prod.mk.injEq] at h
      obtain ⟨vs, r', h1, rfl, rfl⟩ := h
      obtain ⟨c1, rfl, k1, k2⟩ := readMany_spec (fun t cs v r => absOf_spec d t cs v r) _ _ _ _ h1
      refine ⟨c1, rfl, ?_, by simpa [AV.refless] using k2⟩
      have := FR.agg (n := sumLen vs) (vs := []) (cs := []) k1 k1.length.symm .nil
      simpa using this
    · simp only [Option.bind_eq_some_iff, Prod.exists] at h
      obtain ⟨vs, r', h1, h2⟩ := h
      obtain ⟨c1, rfl, k1, k2⟩ := readMany_spec (fun t cs v r => absOf_spec d t cs v r) _ _ _ _ h1
      split at h2
      · obtain ⟨rfl, rfl⟩ := by simpa using h2
        refine ⟨c1, rfl, ?_, by simp [AV.refless, reflessL]⟩
        have := FR.arr (e := 1) (vs := []) (cs := []) k1 (by simp) .nil
        simpa using this
      · rename_i u us
        split at h2
        · rename_i hall
          obtain ⟨rfl, rfl⟩ := by simpa using h2
          refine ⟨c1, rfl, ?_, by simpa [AV.refless] using k2⟩
          have := FR.arr (e := u.flatLen) (vs := []) (cs := []) k1 (by simpa using hall) .nil
          simpa using this
        · simp at h2
    · split at h
      · simp only [Option.map_eq_some_iff, Prod.mk.injEq] at h
        obtain ⟨a, h1, rfl, rfl⟩ := h
        obtain ⟨k1, k2, _⟩ := absCell_spec (E := E) h1
        exact ⟨[_], rfl, k1, k2⟩
      · simp at h
    · simp at h

theorem zero_spec {t : TypeId} {v : AV} (h : zeroAV P t = some v) : ∃ i z, P.info? t = some i ∧ i.zero = some z ∧ FR E [v] z.cells.toList ∧ v.refless = true ∧ pack v z.cells.toList = z := by
  simp only [zeroAV, Option.bind_eq_some_iff] at h
  obtain ⟨z, ⟨i, hi, hz⟩, u, hu, h⟩ := h
  split at h
  · rename_i hag
    obtain rfl := Option.some.inj h
    unfold absWhole at hu
    split at hu
    · rename_i v hv
      obtain rfl := Option.some.inj hu
      obtain ⟨c1, hc, k1, k2⟩ := absOf_spec (E := E) _ _ _ _ _ hv
      rw [List.append_nil] at hc
      refine ⟨i, z, hi, hz, by rw [hc]; exact k1, k2, ?_⟩
      unfold pack
      rw [hag]
      cases z <;> simp [isAggV, Value.cells]
    · simp at hu
  · simp at h

theorem run_zeroValue' {t : TypeId} {i : TypeInfo} {z : Value} (hi : P.info? t = some i) (hz : i.zero = some z) (w : World) : (zeroValue t).run P w = .ok z w := by
  simp [zeroValue, typeInfo, hi, hz]

theorem const_ok (c : Value) : VR E ((absConst c).getD .bad) c := by
  cases h : absConst c with
  | none => trivial
  | some v =>
    unfold absConst at h
    split at h
    · split at h
      · rename_i hab
        obtain rfl := Option.some.inj h
        rename_i fn a b
        obtain rfl : a = #[] := Array.eq_empty_of_size_eq_zero hab.1
        obtain rfl : b = #[] := Array.eq_empty_of_size_eq_zero hab.2
        exact VR.of_PR (v := .func fn [] []) ⟨[_], .func (cx := []) (cy := []) (by simp) .nil .nil .nil, rfl⟩
      · simp at h
    · obtain ⟨h1, _, h3⟩ := absCell_spec (E := E) h
      exact VR.of_PR ⟨[c], h1, by simp [pack, h3]⟩

theorem scalar_ok {v : AV} {c d : Value} (h : VR E v c) (hs : v.scalar = some d) : c = d := by
  cases v <;> simp only [AV.scalar, Option.some.injEq, reduceCtorEq] at hs
  all_goals
    subst hs
    obtain ⟨cs, h1, rfl⟩ := h
    cases h1
    rfl

theorem liftPure_ok {e : Sem Value} {v : AV} (h : liftPure e = some v) (w : World) : ∃ c, e.run P w = .ok c w ∧ VR E v c := by
  unfold liftPure at h
  split at h <;> first | (obtain rfl := Option.some.inj h) | simp at h
  · exact ⟨_, rfl, VR.of_PR (v := .int _ _) ⟨[_], .int .nil, rfl⟩⟩
  · exact ⟨_, rfl, VR.of_PR (v := .bool _) ⟨[_], .bool .nil, rfl⟩⟩
  · exact ⟨_, rfl, VR.of_PR (v := .str _) ⟨[_], .str .nil, rfl⟩⟩

theorem PR.int {k : IntKind} {n : Int} : PR E (.int k n) (.int k n) := ⟨[_], .int .nil, rfl⟩
theorem PR.bool {b : Bool} : PR E (.bool b) (.bool b) := ⟨[_], .bool .nil, rfl⟩
theorem PR.str {s : ByteArray} : PR E (.str s) (.string s) := ⟨[_], .str .nil, rfl⟩
theorem VR.int {k : IntKind} {n : Int} : VR E (.int k n) (.int k n) := .of_PR .int
theorem VR.bool {b : Bool} : VR E (.bool b) (.bool b) := .of_PR .bool
theorem VR.str {s : ByteArray} : VR E (.str s) (.string s) := .of_PR .str

theorem VR.bool_inv {b : Bool} {c : Value} (h : VR E (.bool b) c) : c = .bool b := scalar_ok h rfl
theorem VR.int_inv {k : IntKind} {n : Int} {c : Value} (h : VR E (.int k n) c) : c = .int k n := scalar_ok h rfl
theorem VR.str_inv {s : ByteArray} {c : Value} (h : VR E (.str s) c) : c = .string s := scalar_ok h rfl

theorem idx_ok {v : AV} {c : Value} {i : Nat} (h : VR E v c) (hi : v.idx = some i) : ∃ k n, c = .int k n ∧ 0 ≤ n ∧ n.toNat = i := by
  cases v <;> simp only [AV.idx, reduceCtorEq] at hi
  split at hi
  · rename_i k n hn
    obtain rfl := Option.some.inj hi
    exact ⟨k, n, h.int_inv, hn, rfl⟩
  · simp at hi

theorem PR.agg_inv {n : Nat} {ps : List AV} {c : Value} (h : PR E (.agg n ps) c) : ∃ cs, c = .agg cs.toArray ∧ FR E ps cs ∧ n = cs.length := by
  obtain ⟨cs, h1, rfl⟩ := h
  obtain ⟨h2, h3⟩ := h1.agg_inv
  exact ⟨cs, rfl, h2, h3⟩

theorem PR.arr_inv {e : Nat} {xs : List AV} {c : Value} (h : PR E (.arr e xs) c) : ∃ cs, c = .agg cs.toArray ∧ FR E xs cs ∧ ∀ x ∈ xs, x.flatLen = e := by
  obtain ⟨cs, h1, rfl⟩ := h
  obtain ⟨h2, h3⟩ := h1.arr_inv
  exact ⟨cs, rfl, h2, h3⟩

/-- A part of an aggregate's cells. -/
theorem run_part' {t : TypeId} {v : AV} {pre mid post : List Value} {o : Nat} (hf : FR E [v] mid) (ho : pre.length = o) (ha : tagg P t = some v.isAgg) (hz : tsize P t = some v.flatLen) :
    (part t (pre ++ mid ++ post).toArray o).run P w = .ok (pack v mid) w := by
  have hl : mid.length = v.flatLen := by rw [hf.length]; simp [sumLen]
  cases hv : v.isAgg with
  | true =>
    rw [hv] at ha
    simp only [part, Sem.run_bind, run_isAgg' ha, Result.andThen_ok, if_true, run_sizeOf' hz]
    subst ho
    simp only [Sem.run_pure, pack, hv, if_true]
    congr 2
    rw [← hl]
    simp
  | false =>
    rw [hv] at ha
    obtain ⟨c, rfl, hp⟩ := hf.one_leaf hv
    subst ho
    simp [part, Sem.run_bind, run_isAgg' ha, hp]

theorem field_ok {t : TypeId} {x v : AV} {cx : Value} {f : Nat} (hx : VR E x cx) (h : fieldAV P t x f = some v) : ∃ c, (Instr.field t cx f).run P w = .ok c w ∧ VR E v c := by
  cases x <;> simp only [fieldAV, reduceCtorEq] at h
  rename_i n ps
  simp only [Option.bind_eq_some_iff] at h
  obtain ⟨fl, hfl, p, hp, h⟩ := h
  split at h
  · rename_i hc
    obtain rfl := Option.some.inj h
    obtain ⟨cs, rfl, hf, _⟩ := PR.agg_inv (show PR E (.agg n ps) cx from hx)
    obtain ⟨pre, mid, post, rfl, hpre, hm, _⟩ := hf.nth hp
    unfold fieldOf at hfl
    split at hfl
    · rename_i fs hu
      refine ⟨pack p mid, ?_, .of_PR (.of_cells hm)⟩
      have := run_part' (P := P) (w := w) (post := post) hm (hpre.trans hc.1) hc.2.1 hc.2.2
      simp only [Instr.field, Sem.run_bind, run_underlying hu, Result.andThen_ok, hfl, asAgg, Sem.run_pure]
      exact this
    · simp at hfl
  · simp at h

theorem index_ok {t : TypeId} {x i v : AV} {cx ci : Value} (hx : VR E x cx) (hi : VR E i ci) (h : indexAV P t x i = some v) : ∃ c, (Instr.index t cx ci).run P w = .ok c w ∧ VR E v c := by
  simp only [indexAV, Option.bind_eq_some_iff] at h
  obtain ⟨n, hn, h⟩ := h
  obtain ⟨k, m, rfl, hm0, hmn⟩ := idx_ok hi hn
  split at h
  · rename_i len e sz xs hu
    split at h
    · rename_i hc
      simp only [Option.bind_eq_some_iff] at h
      obtain ⟨u, hu', h⟩ := h
      split at h
      · rename_i hta
        obtain rfl := Option.some.inj h
        obtain ⟨cs, rfl, hf, he⟩ := PR.arr_inv (show PR E (.arr sz xs) cx from hx)
        have hlt : n < xs.length := by
          rcases Nat.lt_or_ge n xs.length with h | h
          · exact h
          · simp [List.getElem?_eq_none h] at hu'
        obtain ⟨pre, mid, post, rfl, hpre, hmid, _⟩ := hf.nth hu'
        have hs : sumLen (xs.take n) = sz * n := by
          rw [sumLen_same (fun x hx => he x (List.mem_of_mem_take hx))]
          simp [Nat.min_eq_left (Nat.le_of_lt hlt)]
        refine ⟨pack u mid, ?_, .of_PR (.of_cells hmid)⟩
        have hue : u.flatLen = sz := he u (List.mem_of_getElem? hu')
        have := run_part' (P := P) (w := w) (o := n * sz) (post := post) hmid (by rw [hpre, hs, Nat.mul_comm]) hta (by rw [hue]; exact hc.2)
        have hlt2 : m < (len : Int) := by omega
        simp only [Instr.index, asIntOf, Sem.run_bind, Sem.run_pure, Result.andThen_ok, run_underlying hu]
        rw [if_pos ⟨hm0, hlt2⟩]
        simp only [Sem.run_bind, run_sizeOf' hc.2, Result.andThen_ok, hmn]
        exact this
      · simp at h
    · simp at h
  · rename_i s hu
    simp only [Option.map_eq_some_iff] at h
    obtain ⟨b, hb, rfl⟩ := h
    obtain rfl := hx.str_inv
    refine ⟨.int .u8 b.toNat, ?_, VR.int⟩
    have hb' : s[n]? = some b := by
      rw [← hb]
      rfl
    simp only [Instr.index, asIntOf, Sem.run_bind, Sem.run_pure, Result.andThen_ok, run_underlying hu]
    rw [if_pos hm0, hmn, hb']
    rfl
  · simp at h

theorem fieldAddr_ok {t : TypeId} {x v : AV} {cx : Value} {f : Nat} (hx : VR E x cx) (h : fieldAddrAV P t x f = some v) : ∃ c, (Instr.fieldAt t cx f).run P w = .ok c w ∧ VR E v c := by
  simp only [fieldAddrAV, Option.bind_eq_some_iff] at h
  obtain ⟨fl, hfl, sz, hsz, h⟩ := h
  split at h
  · simp at h
  rename_i hsz0
  unfold fieldOf at hfl
  split at hfl
  · rename_i fs hu
    have hrun' : ∀ ad : Addr, (Instr.fieldAt t (.pointer (some ad)) f).run P w = .ok (.pointer (some (ad.add fl.offset))) w := fun ad => by
      simp [Instr.fieldAt, Sem.run_bind, run_underlying hu, Result.andThen_ok, hfl, Instr.sureAddr, fieldPlace, run_sizeOf' hsz, hsz0]
    have hrun : ∀ b o, (Instr.fieldAt t (.pointer (some ⟨b, o, none⟩)) f).run P w = .ok (.pointer (some ⟨b, o + fl.offset, none⟩)) w := fun b o => by
      rw [hrun', Addr.add_mk]
    split at h
    · rename_i p
      obtain rfl := Option.some.inj h
      obtain ⟨ad, rfl, h1, h2⟩ := PR.ptr_inv (show PR E (.ptr p) cx from hx)
      refine ⟨_, hrun' ad, .of_PR (v := .ptr _) ⟨[_], .ptr h1 (fun L hL => ?_) .nil, rfl⟩⟩
      rcases h2 L hL with h3 | ⟨h3, rfl⟩
      · exact .inl h3
      · exact .inr ⟨h3, by rw [Addr.add_mk, Nat.add_assoc]⟩
    · rename_i n ps
      simp only [Option.bind_eq_some_iff] at h
      obtain ⟨q, hq, h⟩ := h
      split at h
      · rename_i ho
        obtain rfl := Option.some.inj h
        obtain ⟨b, o, c1, rfl, hr, hf, hm⟩ := PR.iptr_inv (show PR E (.iptr (.agg n ps)) cx from hx)
        obtain ⟨hps, _⟩ := hf.agg_inv
        obtain ⟨pre, mid, post, rfl, hpre, hmid, _⟩ := hps.nth hq
        refine ⟨_, hrun b o, .of_PR (v := .iptr q) ⟨[_], .iptr (c1 := mid) ?_ hmid (fun j c hj => ?_) .nil, rfl⟩⟩
        · have : reflessL ps = true := by simpa [AV.refless] using hr
          exact reflessL_mem this (List.mem_of_getElem? hq)
        · have := hm (fl.offset + j) c (by
            rw [← ho, ← hpre, List.append_assoc, List.getElem?_append_right (by omega), show pre.length + j - pre.length = j by omega, List.getElem?_append_left (by
              rcases Nat.lt_or_ge j mid.length with h | h
              · exact h
              · simp [List.getElem?_eq_none h] at hj)]
            exact hj)
          rwa [Nat.add_assoc]
      · simp at h
    · simp at h
  · simp at hfl
where
  reflessL_mem : ∀ {vs : List AV} {v : AV}, reflessL vs = true → v ∈ vs → v.refless = true
    | v :: vs, _, h, .head _ => by simp only [reflessL, Bool.and_eq_true] at h; exact h.1
    | v :: vs, u, h, .tail _ hm => by simp only [reflessL, Bool.and_eq_true] at h; exact reflessL_mem h.2 hm

end
end Go.X
