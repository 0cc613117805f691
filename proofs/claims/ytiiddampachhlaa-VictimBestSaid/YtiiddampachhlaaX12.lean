/-
  Slices: read, made, appended to, copied into.
-/
import Derived.Test.YtiiddampachhlaaX11
import Derived.Laws.Append
namespace Go.X
open Go.RowKit (Below)

section
variable {P : Program} {B : Nat} {E E' : Env} {H : Heap} {w w' : World}

/-- A slice or a string as a source: its elements and their cells. -/
structure Src (P : Program) (E : Env) (w : World) (sz : Nat) (xs : List AV) (cx : Value) (cells : List Value) : Prop where
  fr : FR E xs cells
  each : ∀ u ∈ xs, u.flatLen = sz
  len : ∀ w' : World, (Builtin.lenOf cx).run P w' = .ok xs.length w'
  first : ∀ w' : World, w'.heap = w.heap → ∀ k, k ≤ xs.length → (Builtin.firstCells sz k cx).run P w' = .ok (cells.take (k * sz)).toArray w'

theorem cell_heap (h : w'.heap = w.heap) (a : Addr) : w'.cell? a = w.cell? a := by simp [World.cell?, h]

theorem run_take {b o sz k : Nat} {cells : List Value} (hk : k * sz ≤ cells.length) (hc : ∀ j c, cells[j]? = some c → w.cell? ⟨b, o + j, none⟩ = some c) (h : w'.heap = w.heap) :
    (loadCells ⟨b, o, none⟩ (k * sz)).run P w' = .ok (cells.take (k * sz)).toArray w' := by
  refine run_loadCells' (by simp; omega) (fun j c hj => ?_)
  rw [List.getElem?_take] at hj
  split at hj
  · rw [cell_heap h]; exact hc j c hj
  · simp at hj

theorem src_ok (hs : Sim B E H w) {sz : Nat} {x : AV} {xs : List AV} {cx : Value} (hx : VR E x cx) (h : elemsAV H sz x = some xs) : ∃ cells, Src P E w sz xs cx cells := by
  cases x <;> simp only [elemsAV, reduceCtorEq] at h
  · obtain rfl := Option.some.inj h
    have h1 := (show PR E .nils cx from hx).leaf rfl
    cases h1
    refine ⟨[], .nil, by simp, fun w' => rfl, fun w' _ k hk => ?_⟩
    obtain rfl : k = 0 := by simpa using hk
    simp [Builtin.firstCells]
  · rename_i p e n off len
    simp only [Option.bind_eq_some_iff] at h
    obtain ⟨bk, hb, ⟨o, y⟩, hat, h⟩ := h
    split at h
    · rename_i e' ys hy
      simp only at hy
      subst hy
      split at h
      · rename_i hc
        obtain ⟨hg, ho, rfl, rfl, hn, hle⟩ := hc
        obtain rfl := Option.some.inj h
        obtain ⟨ad, cap, rfl, h1, hcap, h2⟩ := PR.sl_inv (show PR E (.sl p e' n off len) cx from hx)
        obtain ⟨L, hL, hB, _, hgen⟩ := hs.at hb hg
        obtain ⟨cs, hf, hlen, hcells⟩ := hB.cs
        obtain ⟨pre, mid, post, rfl, hpre, hm⟩ := at_spec p.path _ _ _ _ hf hat
        obtain ⟨hys, hye⟩ := hm.arr_inv
        have hsplit : ys = ys.take off ++ ((ys.drop off).take len ++ (ys.drop off).drop len) := by rw [List.take_append_drop, List.take_append_drop]
        rw [hsplit] at hys
        obtain ⟨c0, c2, rfl, k0, k1⟩ := hys.append_inv
        obtain ⟨c3, c4, rfl, k2, k3⟩ := k1.append_inv
        have hl0 : c0.length = off * e' := by
          rw [k0.length, sumLen_same (fun x hx => hye x (List.mem_of_mem_take hx))]
          simp [Nat.min_eq_left (show off ≤ ys.length by omega), Nat.mul_comm]
        have hll : ((ys.drop off).take len).length = len := by simp; omega
        have hsame : ∀ u ∈ (ys.drop off).take len, u.flatLen = e' := fun u hu => hye u (List.mem_of_mem_drop (List.mem_of_mem_take hu))
        have hl3 : c3.length = len * e' := by rw [k2.length, sumLen_same hsame, hll, Nat.mul_comm]
        refine ⟨c3, k2, hsame, fun w' => by simp [Builtin.lenOf, hll], fun w' hw k hk => ?_⟩
        rw [hll] at hk
        rcases h2 L hL with h3 | ⟨h3, _, _, h4⟩
        · omega
        · rcases h4 with h4 | rfl
          · obtain rfl : k = 0 := by omega
            simp [Builtin.firstCells, loadCells, loadCellsFrom]
          · simp only [Builtin.firstCells]
            refine run_take (w := w) (by rw [hl3]; exact Nat.mul_le_mul_right _ hk) (fun j c hj => ?_) hw
            have hjl : j < c3.length := by
              rcases Nat.lt_or_ge j c3.length with h | h
              · exact h
              · simp [List.getElem?_eq_none h] at hj
            have := hcells (p.coff + off * e' + j) c (by
              simp only at ho
              rw [← ho, ← hpre, ← hl0]
              rw [List.append_assoc, List.getElem?_append_right (by omega), List.getElem?_append_left (by simp; omega), List.getElem?_append_right (by omega), List.getElem?_append_left (by omega)]
              rw [show pre.length + c0.length + j - pre.length - c0.length = j by omega]
              exact hj)
            rw [show L.base + p.coff + off * e' + j = L.base + (p.coff + off * e' + j) by omega]
            exact this
      · simp at h
    · simp at h
  · rename_i e ys
    split at h
    · rename_i he
      subst he
      obtain rfl := Option.some.inj h
      obtain ⟨b, o, sp, c1, cap, rfl, hsp, hr, hf, hye, hcap, hm⟩ := PR.isl_inv (show PR E (.isl e ys) cx from hx)
      have hl : c1.length = ys.length * e := by rw [hf.length, sumLen_same hye, Nat.mul_comm]
      refine ⟨c1, hf, hye, fun w' => rfl, fun w' hw k hk => ?_⟩
      rcases hsp with rfl | rfl
      rotate_left
      · obtain rfl : k = 0 := by simpa using hk
        simp [Builtin.firstCells, loadCells, loadCellsFrom]
      simp only [Builtin.firstCells]
      exact run_take (w := w) (by rw [hl]; exact Nat.mul_le_mul_right _ hk) (fun j c hj => hs.imm _ _ _ (hm j c hj)) hw
    · simp at h

theorem FR_bytes : ∀ (l : List UInt8), FR E (l.map fun b => AV.int .u8 b.toNat) (l.map fun b => Value.int .u8 b.toNat)
  | [] => .nil
  | _ :: l => .int (FR_bytes l)

theorem src_str {s : ByteArray} {cx : Value} (hx : VR E (.str s) cx) : ∃ cells, Src P E w 1 (strAV s) cx cells := by
  obtain rfl := hx.str_inv
  refine ⟨s.data.toList.map fun b => Value.int .u8 b.toNat, FR_bytes _, by simp [strAV, AV.flatLen], fun w' => ?_, fun w' _ k hk => ?_⟩
  · simp [Builtin.lenOf, strAV]
  · simp only [Builtin.firstCells, Sem.run_pure]
    congr 1
    apply Array.ext'
    simp [ByteArray.extract, ByteArray.copySlice]

/-- append, where there is nothing to append. -/
theorem run_append_none {argTypes : Array TypeId} {t u e ty : TypeId} {d : TypeDesc} {i : TypeInfo} {base : Option Addr} {sLen sCap : Nat} {x : Value} {cells : List Value} (h0 : argTypes[0]? = some t) (h1 : argTypes[1]? = some u)
    (ht : P.underlying t = some (.slice e)) (hd : P.underlying u = some d) (hnd : srcKind d = true) (hi : P.info? e = some i) (hsrc : Src P E w i.size [] x cells) (hle : sLen ≤ sCap) :
    (Builtin.append_ argTypes ty #[.slice base sLen sCap, x]).run P w = .ok (.slice base sLen sCap) w := by
  have hf := hsrc.first w rfl 0 (by simp)
  have hl := hsrc.len w
  simp only [Nat.zero_mul, List.take_zero] at hf
  simp only [List.length_nil] at hl
  cases d <;> first | (simp [srcKind] at hnd; done) | skip
  all_goals
    simp [Builtin.append_, h0, h1, run_underlying ht, run_underlying hd, sizeOf, typeInfo, hi, hl, hf, hle]
    cases base <;> simp [storeCells]

/-- append, where there is room. -/
theorem run_append_in {argTypes : Array TypeId} {t u e ty : TypeId} {d : TypeDesc} {i : TypeInfo} {a : Addr} {sLen sCap : Nat} {x : Value} {xs : List AV} {cells : List Value} (h0 : argTypes[0]? = some t) (h1 : argTypes[1]? = some u)
    (ht : P.underlying t = some (.slice e)) (hd : P.underlying u = some d) (hnd : srcKind d = true) (hi : P.info? e = some i) (hsrc : Src P E w i.size xs x cells) (hcl : cells.length = xs.length * i.size) (hle : sLen + xs.length ≤ sCap)
    (hst : (storeCells (a.add (sLen * i.size)) cells).run P w = .ok () w') :
    (Builtin.append_ argTypes ty #[.slice (some a) sLen sCap, x]).run P w = .ok (.slice (some a) (sLen + xs.length) sCap) w' := by
  have hf := hsrc.first w rfl xs.length (Nat.le_refl _)
  have hl := hsrc.len w
  rw [← hcl, List.take_length] at hf
  cases d <;> first | (simp [srcKind] at hnd; done) | skip
  all_goals simp [Builtin.append_, h0, h1, run_underlying ht, run_underlying hd, sizeOf, typeInfo, hi, hl, hf, hle, hst]

/-- append, where there is no room. -/
theorem run_append_out {argTypes : Array TypeId} {t u e ty : TypeId} {d : TypeDesc} {i : TypeInfo} {z s : Value} {base : Option Addr} {sLen sCap : Nat} {x : Value} {xs : List AV} {olds cells : List Value} (h0 : argTypes[0]? = some t) (h1 : argTypes[1]? = some u)
    (ht : P.underlying t = some (.slice e)) (hd : P.underlying u = some d) (hnd : srcKind d = true) (hi : P.info? e = some i) (hz : i.zero = some z) (hs : s = .slice base sLen sCap)
    (hsrc : Src P E w i.size xs x cells) (hcl : cells.length = xs.length * i.size) (hlt : sCap < sLen + xs.length)
    (hold : ∀ w' : World, w'.heap = w.heap → (Builtin.firstCells i.size sLen s).run P w' = .ok olds.toArray w')
    (hmax : sLen + xs.length ≤ maxBytes) (hby : (sLen + xs.length) * i.bytes ≤ maxBytes) :
    (Builtin.append_ argTypes ty #[s, x]).run P w = .ok (.slice (some ⟨w.heap.size, 0, none⟩) (sLen + xs.length) (grownCap w (sLen + xs.length) sCap e))
      (w.drew.alloc (.cells ((olds ++ cells) ++ (Builtin.zeroCells z.cells (grownCap w (sLen + xs.length) sCap e - (sLen + xs.length))).toList).toArray e)) := by
  have hf := hsrc.first w.drew rfl xs.length (Nat.le_refl _)
  have hl := hsrc.len w
  have ho := hold w.drew rfl
  rw [← hcl, List.take_length] at hf
  subst hs
  have hn : ¬ (sLen + xs.length ≤ sCap) := by omega
  have hm : maxBytes = 70368744177664 := rfl
  have h63 : ¬ (9223372036854775807 < ((sLen : Int) + (xs.length : Int))) := by omega
  have h48 := growslice_fits (bytes := i.bytes) hlt (by omega)
  have h48' : ¬ (281474976710656 < Builtin.nextslicecap (sLen + xs.length) sCap * i.bytes) := by omega
  cases d <;> first | (simp [srcKind] at hnd; done) | skip
  all_goals
    simp [Builtin.append_, h0, h1, run_underlying ht, run_underlying hd, sizeOf, typeInfo, zeroValue, hi, hz, hl, hf, ho, hn, h63, h48', Question.forced, newRow, grownCap]
    congr 2
    apply Array.ext'
    simp

end
end Go.X
