/-
  More operations that touch no memory: addresses, slices, comparisons.
-/
import Derived.Test.YtiiddampachhlaaX7
namespace Go.X
open Go.RowKit (Below)

section
variable {P : Program} {B : Nat} {E E' : Env} {H : Heap} {w w' : World}

theorem reflessL_sub : ∀ {vs us : List AV}, reflessL vs = true → (∀ x ∈ us, x ∈ vs) → reflessL us = true
    | _, [], _, _ => rfl
    | vs, u :: us, h, hs => by
      simp only [reflessL, Bool.and_eq_true]
      exact ⟨fieldAddr_ok.reflessL_mem h (hs u (List.mem_cons_self)), reflessL_sub h (fun x hx => hs x (List.mem_cons_of_mem _ hx))⟩

theorem FR.isl_sub {e l n : Nat} {xs : List AV} {c1 : List Value} {b o cap : Nat} (hr : reflessL xs = true) (hf : FR E xs c1) (he : ∀ x ∈ xs, x.flatLen = e)
    (hm : ∀ j c, c1[j]? = some c → E.m b (o + j) = some c) (hl : l + n ≤ xs.length) (hcap : n ≤ cap) :
    PR E (.isl e ((xs.drop l).take n)) (.slice (some ⟨b, o + l * e, none⟩) n cap) := by
  have h1 : xs = xs.take l ++ ((xs.drop l).take n ++ (xs.drop l).drop n) := by rw [List.take_append_drop, List.take_append_drop]
  rw [h1] at hf
  obtain ⟨c0, c2, rfl, k0, k1⟩ := hf.append_inv
  obtain ⟨c3, c4, rfl, k2, k3⟩ := k1.append_inv
  have hlen : ((xs.drop l).take n).length = n := by simp; omega
  have hs : c0.length = l * e := by
    rw [k0.length, sumLen_same (fun x hx => he x (List.mem_of_mem_take hx))]
    simp [Nat.min_eq_left (show l ≤ xs.length by omega), Nat.mul_comm]
  refine ⟨[_], .isl (b := b) (o := o + l * e) (c1 := c3) (reflessL_sub hr (fun x hx => List.mem_of_mem_drop (List.mem_of_mem_take hx))) k2 (fun x hx => he x (List.mem_of_mem_drop (List.mem_of_mem_take hx))) (cap := cap) (by omega) (fun j c hj => ?_) (.inl rfl) .nil, ?_⟩
  · have := hm (l * e + j) c (by
      rw [← hs, List.getElem?_append_right (by omega), show c0.length + j - c0.length = j by omega, List.getElem?_append_left (by
        rcases Nat.lt_or_ge j c3.length with h | h
        · exact h
        · simp [List.getElem?_eq_none h] at hj)]
      exact hj)
    rwa [Nat.add_assoc]
  · rw [hlen]; rfl
theorem indexAddr_ok {t : TypeId} {x i v : AV} {cx ci : Value} (hx : VR E x cx) (hi : VR E i ci) (h : indexAddrAV P t x i = some v) :
    ∃ c, (Instr.indexAt t cx ci).run P w = .ok c w ∧ VR E v c := by
  simp only [indexAddrAV, Option.bind_eq_some_iff] at h
  obtain ⟨n, hn, h⟩ := h
  obtain ⟨k, m, rfl, hm0, hmn⟩ := idx_ok hi hn
  split at h
  · rename_i len e p hu
    simp only [Option.bind_eq_some_iff] at h
    obtain ⟨sz, hsz, h⟩ := h
    split at h
    · rename_i hlt
      obtain rfl := Option.some.inj h
      obtain ⟨ad, rfl, h1, h2⟩ := PR.ptr_inv (show PR E (.ptr p) cx from hx)
      have hlt2 : m < (len : Int) := by omega
      refine ⟨.pointer (some (ad.add (n * sz))), ?_, .of_PR (v := .ptr _) ⟨[_], .ptr h1 (fun L hL => ?_) .nil, rfl⟩⟩
      · simp [Instr.indexAt, asIntOf, Sem.run_bind, run_underlying hu, Instr.sureAddr, hm0, hlt2, run_sizeOf' hsz, hmn]
      · rcases h2 L hL with h3 | ⟨h3, rfl⟩
        · exact .inl h3
        · exact .inr ⟨h3, by rw [Addr.add_mk, Nat.add_assoc]⟩
    · simp at h
  · rename_i len e sz xs hu
    split at h
    · rename_i hc
      simp only [Option.map_eq_some_iff] at h
      obtain ⟨u, hu', rfl⟩ := h
      obtain ⟨b, o, c1, rfl, hr, hf, hm⟩ := PR.iptr_inv (show PR E (.iptr (.arr sz xs)) cx from hx)
      obtain ⟨hxs, he⟩ := hf.arr_inv
      obtain ⟨pre, mid, post, rfl, hpre, hmid, _⟩ := hxs.nth hu'
      have hlt : n < xs.length := by
        rcases Nat.lt_or_ge n xs.length with h | h
        · exact h
        · simp [List.getElem?_eq_none h] at hu'
      have hs : sumLen (xs.take n) = sz * n := by
        rw [sumLen_same (fun x hx => he x (List.mem_of_mem_take hx))]
        simp [Nat.min_eq_left (Nat.le_of_lt hlt)]
      have hlt2 : m < (len : Int) := by omega
      refine ⟨.pointer (some ⟨b, o + n * sz, none⟩), ?_, .of_PR (v := .iptr u) ⟨[_], .iptr (c1 := mid) (fieldAddr_ok.reflessL_mem (by simpa [AV.refless] using hr) (List.mem_of_getElem? hu')) hmid (fun j c hj => ?_) .nil, rfl⟩⟩
      · simp [Instr.indexAt, asIntOf, Sem.run_bind, run_underlying hu, Instr.sureAddr, hm0, hlt2, run_sizeOf' hc.2, hmn, Addr.add_mk]
      · have := hm (n * sz + j) c (by
          rw [Nat.mul_comm, ← hs, ← hpre, List.append_assoc, List.getElem?_append_right (by omega), show pre.length + j - pre.length = j by omega, List.getElem?_append_left (by
            rcases Nat.lt_or_ge j mid.length with h | h
            · exact h
            · simp [List.getElem?_eq_none h] at hj)]
          exact hj)
        rwa [Nat.add_assoc]
    · simp at h
  · rename_i e p sz nn off len hu
    split at h
    · rename_i hc
      obtain rfl := Option.some.inj h
      obtain ⟨ad, cap, rfl, h1, hcap, h2⟩ := PR.sl_inv (show PR E (.sl p sz nn off len) cx from hx)
      have hlt2 : m < (len : Int) := by omega
      refine ⟨.pointer (some (ad.add (n * sz))), ?_, .of_PR (v := .ptr _) ⟨[_], .ptr h1 (fun L hL => ?_) .nil, rfl⟩⟩
      · simp [Instr.indexAt, asIntOf, Sem.run_bind, run_underlying hu, hm0, hlt2, run_sizeOf' hc.2, hmn]
      · rcases h2 L hL with h3 | ⟨h3, _, _, h4⟩
        · exact .inl h3
        · refine .inr ⟨h3, ?_⟩
          rcases h4 with h4 | rfl
          · omega
          · rw [Addr.add_mk]
            simp only [Nat.add_mul, Addr.mk.injEq, and_true, true_and]
            omega
    · simp at h
  · rename_i e sz xs hu
    split at h
    · rename_i hsz
      simp only [Option.map_eq_some_iff] at h
      obtain ⟨u, hu', rfl⟩ := h
      obtain ⟨b, o, sp, c1, cap, rfl, hsp, hr, hf, he, hcap, hm⟩ := PR.isl_inv (show PR E (.isl sz xs) cx from hx)
      obtain rfl : sp = none := by
        rcases hsp with h | h
        · exact h
        · subst h
          simp at hu'
      obtain ⟨pre, mid, post, rfl, hpre, hmid, _⟩ := hf.nth hu'
      have hlt : n < xs.length := by
        rcases Nat.lt_or_ge n xs.length with h | h
        · exact h
        · simp [List.getElem?_eq_none h] at hu'
      have hs : sumLen (xs.take n) = sz * n := by
        rw [sumLen_same (fun x hx => he x (List.mem_of_mem_take hx))]
        simp [Nat.min_eq_left (Nat.le_of_lt hlt)]
      have hlt2 : m < (xs.length : Int) := by omega
      refine ⟨.pointer (some ⟨b, o + n * sz, none⟩), ?_, .of_PR (v := .iptr u) ⟨[_], .iptr (c1 := mid) (fieldAddr_ok.reflessL_mem hr (List.mem_of_getElem? hu')) hmid (fun j c hj => ?_) .nil, rfl⟩⟩
      · simp [Instr.indexAt, asIntOf, Sem.run_bind, run_underlying hu, hm0, hlt2, run_sizeOf' hsz, hmn, Addr.add_mk]
      · have := hm (n * sz + j) c (by
          rw [Nat.mul_comm, ← hs, ← hpre, List.append_assoc, List.getElem?_append_right (by omega), show pre.length + j - pre.length = j by omega, List.getElem?_append_left (by
            rcases Nat.lt_or_ge j mid.length with h | h
            · exact h
            · simp [List.getElem?_eq_none h] at hj)]
          exact hj)
        rwa [Nat.add_assoc]
    · simp at h
  · simp at h

/-- What a slice expression's bounds come to. -/
theorem bounds_ok {isSlice : Bool} {len cap d l h : Nat} {lo hi : Option AV} {clo chi : Option Value} (hlo : ∀ v, lo = some v → ∃ c, clo = some c ∧ VR E v c) (hlo' : lo = none → clo = none)
    (hhi : ∀ v, hi = some v → ∃ c, chi = some c ∧ VR E v c) (hhi' : hi = none → chi = none) (hd : d = len)
    (h1 : bnd d hi = some h) (h2 : bnd 0 lo = some l) (hle : l ≤ h) (hc : h ≤ cap) :
    (Instr.sliceBounds isSlice len cap clo chi none).run P w = .ok (l, h, cap) w := by
  subst hd
  have hH : chi = none ∧ h = d ∨ ∃ k n, chi = some (.int k n) ∧ 0 ≤ n ∧ n.toNat = h := by
    cases hi with
    | none => exact .inl ⟨hhi' rfl, by simpa [bnd] using h1.symm⟩
    | some v =>
      obtain ⟨c, rfl, hv⟩ := hhi v rfl
      obtain ⟨k, n, rfl, a, b⟩ := idx_ok hv h1
      exact .inr ⟨k, n, rfl, a, b⟩
  have hL : clo = none ∧ l = 0 ∨ ∃ k n, clo = some (.int k n) ∧ 0 ≤ n ∧ n.toNat = l := by
    cases lo with
    | none => exact .inl ⟨hlo' rfl, by simpa [bnd] using h2.symm⟩
    | some v =>
      obtain ⟨c, rfl, hv⟩ := hlo v rfl
      obtain ⟨k, n, rfl, a, b⟩ := idx_ok hv h2
      exact .inr ⟨k, n, rfl, a, b⟩
  rcases hH with ⟨rfl, rfl⟩ | ⟨k, n, rfl, hn0, rfl⟩ <;> rcases hL with ⟨rfl, rfl⟩ | ⟨k', n', rfl, hn0', rfl⟩
  · simp [Instr.sliceBounds]
  · have e1 : n' ≤ (h : Int) := by omega
    simp [Instr.sliceBounds, Instr.sliceBound, asIntOf, hn0', e1]
  · have e1 : n ≤ (cap : Int) := by omega
    simp [Instr.sliceBounds, Instr.sliceBound, asIntOf, hn0, e1]
  · have e1 : n ≤ (cap : Int) := by omega
    have e2 : n' ≤ n := by omega
    simp [Instr.sliceBounds, Instr.sliceBound, asIntOf, hn0, e1, hn0', e2, Int.toNat_of_nonneg hn0]

theorem len_slice {x : AV} {cx : Value} {n : Nat} (hx : VR E x cx) (h : x.len = some n) (hns : ∀ s, x ≠ .str s) : ∃ base cap, cx = .slice base n cap ∧ n ≤ cap := by
  cases x <;> simp only [AV.len, Option.some.injEq, reduceCtorEq] at h
  · exact absurd rfl (hns _)
  · subst h
    obtain ⟨cs, h1, rfl⟩ := (show PR E .nils cx from hx)
    cases h1 with
    | nils h1 =>
      cases h1
      exact ⟨_, _, rfl, Nat.le_refl _⟩
  · subst h
    obtain ⟨a, cap, rfl, _, hc, _⟩ := PR.sl_inv (show PR E (.sl _ _ _ _ _) cx from hx)
    exact ⟨_, _, rfl, hc⟩
  · subst h
    obtain ⟨b, o, sp, c1, cap, rfl, _, _, _, _, hc, _⟩ := PR.isl_inv (show PR E (.isl _ _) cx from hx)
    exact ⟨_, _, rfl, hc⟩

theorem slice3_ok {t : TypeId} {x v : AV} {cx : Value} {lo : Option AV} {clo : Option Value} {hi m : AV} {chi cm : Value} (hx : VR E x cx)
    (hlo : ∀ v, lo = some v → ∃ c, clo = some c ∧ VR E v c) (hlo' : lo = none → clo = none) (hhi : VR E hi chi) (hm : VR E m cm) (h : slice3AV P t x lo hi m = some v) :
    ∃ c, (Instr.sliceAt t cx clo (some chi) (some cm)).run P w = .ok c w ∧ VR E v c := by
  unfold slice3AV at h
  split at h
  · simp at h
  · rename_i e hu hns
    simp only [Option.bind_eq_some_iff] at h
    obtain ⟨sz, hsz, n, hn, m', hm', h', hh', l, hl, h⟩ := h
    split at h
    · rename_i hc
      obtain rfl := Option.some.inj h
      obtain ⟨base, cap, rfl, hcap⟩ := len_slice hx hn (fun s hs => hns s hs)
      obtain ⟨k1, n1, rfl, a1, rfl⟩ := idx_ok hm hm'
      obtain ⟨k2, n2, rfl, a2, rfl⟩ := idx_ok hhi hh'
      have e1 : n1 ≤ (cap : Int) := by omega
      have e2 : n2 ≤ n1 := by omega
      have hL : clo = none ∧ l = 0 ∨ ∃ k n, clo = some (.int k n) ∧ 0 ≤ n ∧ n.toNat = l := by
        cases lo with
        | none => exact .inl ⟨hlo' rfl, by simpa [bnd] using hl.symm⟩
        | some v =>
          obtain ⟨c, rfl, hv⟩ := hlo v rfl
          obtain ⟨k, n, rfl, a, b⟩ := idx_ok hv hl
          exact .inr ⟨k, n, rfl, a, b⟩
      have hb : ∃ r, (Instr.sliceBounds true n cap clo (some (.int k2 n2)) (some (.int k1 n1))).run P w = .ok r w := by
        rcases hL with ⟨rfl, rfl⟩ | ⟨k', n', rfl, hn0', rfl⟩
        · exact ⟨(0, n2.toNat, n1.toNat), by simp [Instr.sliceBounds, Instr.sliceBound, asIntOf, a1, e1, a2, e2, Int.toNat_of_nonneg a1]⟩
        · have e3 : n' ≤ n2 := by omega
          exact ⟨(n'.toNat, n2.toNat, n1.toNat), by simp [Instr.sliceBounds, Instr.sliceBound, asIntOf, a1, e1, a2, e2, hn0', e3, Int.toNat_of_nonneg a1, Int.toNat_of_nonneg a2]⟩
      obtain ⟨⟨r1, r2, r3⟩, hb⟩ := hb
      have hsz' : (sizeOf e).run P w = .ok sz w := run_sizeOf' hsz w
      refine ⟨.slice (if r3 = r1 then base else base.map (·.add (r1 * sz))) (r2 - r1) (r3 - r1), ?_, trivial⟩
      simp [Instr.sliceAt, run_underlying hu, Instr.slice, hb, hsz']
    · simp at h
  · simp at h

theorem slice_ok {t : TypeId} {x v : AV} {cx : Value} {lo hi : Option AV} {clo chi : Option Value} (hs : Sim B E H w) (hx : VR E x cx)
    (hlo : ∀ v, lo = some v → ∃ c, clo = some c ∧ VR E v c) (hlo' : lo = none → clo = none)
    (hhi : ∀ v, hi = some v → ∃ c, chi = some c ∧ VR E v c) (hhi' : hi = none → chi = none)
    (h : sliceAV P H t x lo hi = some v) :
    ∃ c, (Instr.sliceAt t cx clo chi none).run P w = .ok c w ∧ VR E v c := by
  unfold sliceAV at h
  split at h
  · rename_i n e p hu
    simp only [Option.bind_eq_some_iff] at h
    obtain ⟨sz, hsz, h, hh, l, hl, bk, hb, ⟨o, y⟩, hat, h⟩ := h
    split at h
    · rename_i e' xs hy
      simp only at hy
      subst hy
      split at h
      · rename_i hc
        obtain ⟨hle, hhn, hg, ho, rfl, hxn⟩ := hc
        obtain rfl := Option.some.inj h
        obtain ⟨ad, rfl, h1, h2⟩ := PR.ptr_inv (show PR E (.ptr p) cx from hx)
        obtain ⟨L, hL, hB, _, hgen⟩ := hs.at hb hg
        obtain ⟨cs, hf, hlen, _⟩ := hB.cs
        obtain ⟨pre, mid, post, rfl, hpre, hm⟩ := at_spec p.path _ _ _ _ hf hat
        have hml := hm.length
        simp only [sumLen, AV.flatLen, hxn, Nat.add_zero] at hml
        have hb' := bounds_ok (P := P) (w := w) (isSlice := false) (len := n) (cap := n) (d := n) hlo hlo' hhi hhi' rfl hh hl hle hhn
        have hfit := hB.fits
        have hads : ad.spot = none := by
          rcases h2 L hL with h3 | ⟨_, rfl⟩
          · omega
          · rfl
        refine ⟨.slice (some (if n = l then ad else ad.add (l * e'))) (_ - l) (n - l), ?_, .of_PR (v := .sl p e' n l _) ⟨[_], .sl (a := if n = l then ad else ad.add (l * e')) h1 (by omega) (fun L' hL' => ?_) (by split <;> simp [hads, Addr.add_spot]) .nil, rfl⟩⟩
        · simp [Instr.sliceAt, Sem.run_bind, run_underlying hu, Instr.sureAddr, hb', run_sizeOf' hsz]
        · obtain rfl : L = L' := by rw [hL] at hL'; exact Option.some.inj hL'
          rcases h2 L hL with h3 | ⟨h3, rfl⟩
          · exact .inl h3
          · refine .inr ⟨h3, by omega, ?_, ?_⟩
            · simp only at ho
              have : (pre ++ mid ++ post).length = pre.length + mid.length + post.length := by simp; omega
              rw [show l + (n - l) = n by omega, Nat.mul_comm n e']
              omega
            · by_cases hnl : n = l
              · exact .inl (by omega)
              · refine .inr ?_
                rw [if_neg hnl, Addr.add_mk]
      · simp at h
    · simp at h
  · rename_i n e sz xs hu
    simp only [Option.bind_eq_some_iff] at h
    obtain ⟨hh, hhh, l, hl, h⟩ := h
    split at h
    · rename_i hc
      obtain ⟨hle, hhn, hxn, hsz⟩ := hc
      obtain rfl := Option.some.inj h
      obtain ⟨b, o, c1, rfl, hr, hf, hm⟩ := PR.iptr_inv (show PR E (.iptr (.arr sz xs)) cx from hx)
      obtain ⟨hxs, he⟩ := hf.arr_inv
      have hb' := bounds_ok (P := P) (w := w) (isSlice := false) (len := n) (cap := n) (d := n) hlo hlo' hhi hhi' rfl hhh hl hle hhn
      have hr' : reflessL xs = true := by simpa [AV.refless] using hr
      by_cases hnl : n = l
      · subst hnl
        refine ⟨.slice (some ⟨b, o, none⟩) (hh - n) (n - n), ?_, .of_PR ?_⟩
        · simp [Instr.sliceAt, Sem.run_bind, run_underlying hu, Instr.sureAddr, hb', run_sizeOf' hsz]
        · have := FR.isl_sub (E := E) (l := 0) (n := 0) (cap := n - n) hr' hxs he hm (by omega) (by omega)
          rw [show hh - n = 0 by omega]
          simpa using this
      · refine ⟨.slice (some ⟨b, o + l * sz, none⟩) (hh - l) (n - l), ?_, .of_PR ?_⟩
        · simp [Instr.sliceAt, Sem.run_bind, run_underlying hu, Instr.sureAddr, hb', run_sizeOf' hsz, hnl, Addr.add_mk]
        · exact FR.isl_sub hr' hxs he hm (by omega) (by omega)
    · simp at h
  · rename_i s hu
    simp only [Option.bind_eq_some_iff] at h
    obtain ⟨hh, hhh, l, hl, h⟩ := h
    split at h
    · rename_i hc
      obtain rfl := Option.some.inj h
      obtain rfl := hx.str_inv
      have hb' := bounds_ok (P := P) (w := w) (isSlice := false) (len := s.size) (cap := s.size) (d := s.size) hlo hlo' hhi hhi' rfl hhh hl hc.1 hc.2
      exact ⟨.string (s.extract l hh), by simp [Instr.sliceAt, Instr.slice, Sem.run_bind, run_underlying hu, hb'], VR.str⟩
    · simp at h
  · rename_i e p sz n off len hu
    simp only [Option.bind_eq_some_iff] at h
    obtain ⟨hh, hhh, l, hl, h⟩ := h
    split at h
    · rename_i hc
      obtain ⟨hle, hhn, hsz, hlive⟩ := hc
      obtain rfl := Option.some.inj h
      obtain ⟨ad, cap, rfl, h1, hcap, h2⟩ := PR.sl_inv (show PR E (.sl p sz n off len) cx from hx)
      have hads := PR.sl_spot (show PR E (.sl p sz n off len) _ from hx)
      by_cases hhcap : hh ≤ cap
      · have hb' := bounds_ok (P := P) (w := w) (isSlice := true) (len := len) (cap := cap) (d := len) hlo hlo' hhi hhi' rfl hhh hl hle hhcap
        refine ⟨.slice (some (if cap = l then ad else ad.add (l * sz))) (hh - l) (cap - l), ?_, .of_PR (v := .sl p sz n (off + l) _) ⟨[_], .sl (a := if cap = l then ad else ad.add (l * sz)) h1 (by omega) (fun L hL => ?_) (by split <;> simp [hads, Addr.add_spot]) .nil, rfl⟩⟩
        · by_cases hcl : cap = l
          · subst hcl
            simp [Instr.sliceAt, Instr.slice, Sem.run_bind, run_underlying hu, hb', run_sizeOf' hsz]
          · simp [Instr.sliceAt, Instr.slice, Sem.run_bind, run_underlying hu, hb', run_sizeOf' hsz, hcl]
        · rcases h2 L hL with h3 | ⟨h3, h4, h5, h6⟩
          · exact .inl h3
          · refine .inr ⟨h3, by omega, by rw [show off + l + (cap - l) = off + cap by omega]; exact h5, ?_⟩
            by_cases hcl : cap = l
            · exact .inl (by omega)
            · rcases h6 with h6 | rfl
              · exact .inl (by omega)
              · refine .inr ?_
                rw [if_neg hcl, Addr.add_mk]
                simp only [Nat.add_mul, Addr.mk.injEq, and_true, true_and]
                omega
      · exfalso
        rcases hlive with h3 | h3
        · omega
        · simp only [Option.map_eq_some_iff] at h3
          obtain ⟨bk, hb, hg⟩ := h3
          obtain ⟨L, hL, _, _, hgen⟩ := hs.at hb hg
          rcases h2 L hL with h4 | ⟨_, h4, _⟩
          · omega
          · omega
    · simp at h
  · rename_i e sz xs hu
    simp only [Option.bind_eq_some_iff] at h
    obtain ⟨hh, hhh, l, hl, h⟩ := h
    split at h
    · rename_i hc
      obtain ⟨hle, hhn, hsz⟩ := hc
      obtain rfl := Option.some.inj h
      obtain ⟨b, o, sp, c1, cap, rfl, hsp, hr, hf, he, hcap, hm⟩ := PR.isl_inv (show PR E (.isl sz xs) cx from hx)
      have hb' := bounds_ok (P := P) (w := w) (isSlice := true) (len := xs.length) (cap := cap) (d := xs.length) hlo hlo' hhi hhi' rfl hhh hl hle (by omega)
      rcases hsp with rfl | rfl
      rotate_left
      · have hh0 : hh = 0 := by simpa using hhn
        have hl0 : l = 0 := by omega
        subst hh0 hl0
        cases hf
        refine ⟨.slice (some ⟨b, o, sp⟩) (0 - 0) (cap - 0), ?_, .of_PR ⟨[_], .isl (xs := []) (c1 := []) rfl .nil (by simp) (by simp) (by simp) (.inr rfl) .nil, rfl⟩⟩
        simp only [List.length_nil] at hb'
        by_cases hc0 : cap = 0
        · subst hc0
          simp [Instr.sliceAt, Instr.slice, Sem.run_bind, run_underlying hu, hb', run_sizeOf' hsz]
        · simp [Instr.sliceAt, Instr.slice, Sem.run_bind, run_underlying hu, hb', run_sizeOf' hsz, Addr.add]
      by_cases hcl : cap = l
      · subst hcl
        refine ⟨.slice (some ⟨b, o, none⟩) (hh - cap) (cap - cap), ?_, .of_PR ?_⟩
        · simp [Instr.sliceAt, Instr.slice, Sem.run_bind, run_underlying hu, hb', run_sizeOf' hsz]
        · have := FR.isl_sub (E := E) (l := 0) (n := 0) (cap := cap - cap) hr hf he hm (by omega) (by omega)
          rw [show hh - cap = 0 by omega]
          simpa using this
      · refine ⟨.slice (some ⟨b, o + l * sz, none⟩) (hh - l) (cap - l), ?_, .of_PR ?_⟩
        · simp [Instr.sliceAt, Instr.slice, Sem.run_bind, run_underlying hu, hb', run_sizeOf' hsz, hcl, Addr.add_mk]
        · exact FR.isl_sub hr hf he hm (by omega) (by omega)
    · simp at h
  · rename_i e hu
    simp only [Option.bind_eq_some_iff] at h
    obtain ⟨hh, hhh, l, hl, h⟩ := h
    split at h
    · rename_i hc
      obtain ⟨rfl, rfl, hsz⟩ := hc
      obtain ⟨sz, hsz⟩ := Option.isSome_iff_exists.1 hsz
      obtain rfl := Option.some.inj h
      obtain ⟨cs, h1, rfl⟩ := (show PR E .nils cx from hx)
      cases h1
      have hb' := bounds_ok (P := P) (w := w) (isSlice := true) (len := 0) (cap := 0) (d := 0) hlo hlo' hhi hhi' rfl hhh hl (Nat.le_refl _) (Nat.le_refl _)
      exact ⟨.slice none 0 0, by simp [Instr.sliceAt, Instr.slice, Sem.run_bind, run_underlying hu, hb', pack, AV.isAgg, run_sizeOf' hsz], .of_PR (v := .nils) ⟨[_], .nils .nil, rfl⟩⟩
    · simp at h
  · simp at h

end
end Go.X
