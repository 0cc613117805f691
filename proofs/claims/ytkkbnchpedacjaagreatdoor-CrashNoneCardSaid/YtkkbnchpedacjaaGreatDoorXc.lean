/-
  Slices: read, made, appended to, copied into.
-/
import Derived.Test.YtkkbnchpedacjaaGreatDoorXb
import Derived.Laws.Append
import Derived.Laws.IdiomStrings
import Derived.Laws.BytesArg

namespace Go.X
open Go.RowKit (Below)

section
variable {P : Program} {B : Nat} {E E' : Env} {H : Heap} {w w' : World}

/-- A slice or a string as a source: its elements and their cells. -/
structure Src (P : Program) (E : Env) (w : World) (sz : Nat) (xs : List AV) (cx : Value) (cells : List Value) : Prop where
  fr : FR E xs cells
  each : ∀ u ∈ xs, u.flatLen = sz
  len : ∀ w' : World, (Builtin.lenOf cx).run P w' = .ok xs.length w'
  first : ∀ w' : World, w'.heap = w.heap → ∀ k, k ≤ xs.length → (Builtin.firstCells sz k cx).run P w' = .ok (cells.take (k * sz)).toArray w'

theorem cell_heap (h : w'.heap = w.heap) (a : Addr) : w'.cell? a = w.cell? a := by simp [World.cell?, h]

theorem run_take {b o sz k : Nat} {cells : List Value} (hk : k * sz ≤ cells.length) (hc : ∀ j c, cells[j]? = some c → w.cell? ⟨b, o + j, none⟩ = some c) (h : w'.heap = w.heap) :
    (loadCells ⟨b, o, none⟩ (k * sz)).run P w' = .ok (cells.take (k * sz)).toArray w' := by
  refine run_loadCells' (by simp; omega) (fun j c hj => ?_)
  rw [List.getElem?_take] at hj
  split at hj
  · rw [cell_heap h]; exact hc j c hj
  · simp at hj

theorem src_ok (hs : Sim B E H w) {sz : Nat} {x : AV} {xs : List AV} {cx : Value} (hx : VR E x cx) (h : elemsAV H sz x = some xs) : ∃ cells, Src P E w sz xs cx cells := by
  cases x <;> simp only [elemsAV, reduceCtorEq] at h
  · obtain rfl := Option.some.inj h
    have h1 := (show PR E .nils cx from hx).leaf rfl
    cases h1
    refine ⟨[], .nil, by simp, fun w' => rfl, fun w' _ k hk => ?_⟩
    obtain rfl : k = 0 := by simpa using hk
    simp [Builtin.firstCells]
  · rename_i p e n off len
    simp only [Option.bind_eq_some_iff] at h
    obtain ⟨bk, hb, ⟨o, y⟩, hat, h⟩ := h
    split at h
    · rename_i e' ys hy
      simp only at hy
      subst hy
      split at h
      · rename_i hc
        obtain ⟨hg, ho, rfl, rfl, hn, hle⟩ := hc
        obtain rfl := Option.some.inj h
        obtain ⟨ad, cap, rfl, h1, hcap, h2⟩ := PR.sl_inv (show PR E (.sl p e' n off len) cx from hx)
        obtain ⟨L, hL, hB, _, hgen⟩ := hs.at hb hg
        obtain ⟨cs, hf, hlen, hcells⟩ := hB.cs
        obtain ⟨pre, mid, post, rfl, hpre, hm⟩ := at_spec p.path _ _ _ _ hf hat
        obtain ⟨hys, hye⟩ := hm.arr_inv
        have hsplit : ys = ys.take off ++ ((ys.drop off).take len ++ (ys.drop off).drop len) := by rw [List.take_append_drop, List.take_append_drop]
        rw [hsplit] at hys
        obtain ⟨c0, c2, rfl, k0, k1⟩ := hys.append_inv
        obtain ⟨c3, c4, rfl, k2, k3⟩ := k1.append_inv
        have hl0 : c0.length = off * e' := by
          rw [k0.length, sumLen_same (fun x hx => hye x (List.mem_of_mem_take hx))]
          simp [Nat.min_eq_left (show off ≤ ys.length by omega), Nat.mul_comm]
        have hll : ((ys.drop off).take len).length = len := by simp; omega
        have hsame : ∀ u ∈ (ys.drop off).take len, u.flatLen = e' := fun u hu => hye u (List.mem_of_mem_drop (List.mem_of_mem_take hu))
        have hl3 : c3.length = len * e' := by rw [k2.length, sumLen_same hsame, hll, Nat.mul_comm]
        refine ⟨c3, k2, hsame, fun w' => by simp [Builtin.lenOf, hll], fun w' hw k hk => ?_⟩
        rw [hll] at hk
        rcases h2 L hL with h3 | ⟨h3, _, _, h4⟩
        · omega
        · rcases h4 with h4 | rfl
          · obtain rfl : k = 0 := by omega
            simp [Builtin.firstCells, loadCells, loadCellsFrom]
          · simp only [Builtin.firstCells]
            refine run_take (w := w) (by rw [hl3]; exact Nat.mul_le_mul_right _ hk) (fun j c hj => ?_) hw
            have hjl : j < c3.length := by
              rcases Nat.lt_or_ge j c3.length with h | h
              · exact h
              · simp [List.getElem?_eq_none h] at hj
            have := hcells (p.coff + off * e' + j) c (by
              simp only at ho
              rw [← ho, ← hpre, ← hl0]
              rw [List.append_assoc, List.getElem?_append_right (by omega), List.getElem?_append_left (by simp; omega), List.getElem?_append_right (by omega), List.getElem?_append_left (by omega)]
              rw [show pre.length + c0.length + j - pre.length - c0.length = j by omega]
              exact hj)
            rw [show L.base + p.coff + off * e' + j = L.base + (p.coff + off * e' + j) by omega]
            exact this
      · simp at h
    · simp at h
  · rename_i e ys
    split at h
    · rename_i he
      subst he
      obtain rfl := Option.some.inj h
      obtain ⟨b, o, sp, c1, cap, rfl, hsp, hr, hf, hye, hcap, hm⟩ := PR.isl_inv (show PR E (.isl e ys) cx from hx)
      have hl : c1.length = ys.length * e := by rw [hf.length, sumLen_same hye, Nat.mul_comm]
      refine ⟨c1, hf, hye, fun w' => rfl, fun w' hw k hk => ?_⟩
      rcases hsp with rfl | rfl
      rotate_left
      · obtain rfl : k = 0 := by simpa using hk
        simp [Builtin.firstCells, loadCells, loadCellsFrom]
      simp only [Builtin.firstCells]
      exact run_take (w := w) (by rw [hl]; exact Nat.mul_le_mul_right _ hk) (fun j c hj => hs.imm _ _ _ (hm j c hj)) hw
    · simp at h

theorem FR_bytes : ∀ (l : List UInt8), FR E (l.map fun b => AV.int .u8 b.toNat) (l.map fun b => Value.int .u8 b.toNat)
  | [] => .nil
  | _ :: l => .int (FR_bytes l)

theorem src_str {s : ByteArray} {cx : Value} (hx : VR E (.str s) cx) : ∃ cells, Src P E w 1 (strAV s) cx cells := by
  obtain rfl := hx.str_inv
  refine ⟨s.data.toList.map fun b => Value.int .u8 b.toNat, FR_bytes _, by simp [strAV, AV.flatLen], fun w' => ?_, fun w' _ k hk => ?_⟩
  · simp [Builtin.lenOf, strAV]
  · simp only [Builtin.firstCells, Sem.run_pure]
    congr 1
    apply Array.ext'
    simp [ByteArray.extract, ByteArray.copySlice]

/-- append, where there is nothing to append. -/
theorem run_append_none {argTypes : Array TypeId} {t u e ty : TypeId} {d : TypeDesc} {i : TypeInfo} {base : Option Addr} {sLen sCap : Nat} {x : Value} {cells : List Value} (h0 : argTypes[0]? = some t) (h1 : argTypes[1]? = some u)
    (ht : P.underlying t = some (.slice e)) (hd : P.underlying u = some d) (hnd : srcKind d = true) (hi : P.info? e = some i) (hsrc : Src P E w i.size [] x cells) (hle : sLen ≤ sCap) :
    (Builtin.append_ argTypes ty #[.slice base sLen sCap, x]).run P w = .ok (.slice base sLen sCap) w := by
  have hf := hsrc.first w rfl 0 (by simp)
  have hl := hsrc.len w
  simp only [Nat.zero_mul, List.take_zero] at hf
  simp only [List.length_nil] at hl
  cases d <;> first | (simp [srcKind] at hnd; done) | skip
  all_goals
    simp [Builtin.append_, h0, h1, run_underlying ht, run_underlying hd, sizeOf, typeInfo, hi, hl, hf, hle]
    cases base <;> simp [storeCells]

/-- append, where there is room. -/
theorem run_append_in {argTypes : Array TypeId} {t u e ty : TypeId} {d : TypeDesc} {i : TypeInfo} {a : Addr} {sLen sCap : Nat} {x : Value} {xs : List AV} {cells : List Value} (h0 : argTypes[0]? = some t) (h1 : argTypes[1]? = some u)
    (ht : P.underlying t = some (.slice e)) (hd : P.underlying u = some d) (hnd : srcKind d = true) (hi : P.info? e = some i) (hsrc : Src P E w i.size xs x cells) (hcl : cells.length = xs.length * i.size) (hle : sLen + xs.length ≤ sCap)
    (hst : (storeCells (a.add (sLen * i.size)) cells).run P w = .ok () w') :
    (Builtin.append_ argTypes ty #[.slice (some a) sLen sCap, x]).run P w = .ok (.slice (some a) (sLen + xs.length) sCap) w' := by
  have hf := hsrc.first w rfl xs.length (Nat.le_refl _)
  have hl := hsrc.len w
  rw [← hcl, List.take_length] at hf
  cases d <;> first | (simp [srcKind] at hnd; done) | skip
  all_goals simp [Builtin.append_, h0, h1, run_underlying ht, run_underlying hd, sizeOf, typeInfo, hi, hl, hf, hle, hst]

/-- append, where there is no room. -/
theorem run_append_out {argTypes : Array TypeId} {t u e ty : TypeId} {d : TypeDesc} {i : TypeInfo} {z s : Value} {base : Option Addr} {sLen sCap : Nat} {x : Value} {xs : List AV} {olds cells : List Value} (h0 : argTypes[0]? = some t) (h1 : argTypes[1]? = some u)
    (ht : P.underlying t = some (.slice e)) (hd : P.underlying u = some d) (hnd : srcKind d = true) (hi : P.info? e = some i) (hz : i.zero = some z) (hs : s = .slice base sLen sCap)
    (hsrc : Src P E w i.size xs x cells) (hcl : cells.length = xs.length * i.size) (hlt : sCap < sLen + xs.length)
    (hold : ∀ w' : World, w'.heap = w.heap → (Builtin.firstCells i.size sLen s).run P w' = .ok olds.toArray w')
    (hmax : sLen + xs.length ≤ maxBytes) (hby : (sLen + xs.length) * i.bytes ≤ maxBytes) :
    (Builtin.append_ argTypes ty #[s, x]).run P w = .ok (.slice (some ⟨w.heap.size, 0, none⟩) (sLen + xs.length) (grownCap w (sLen + xs.length) sCap e))
      (w.drew.alloc (.cells ((olds ++ cells) ++ (Builtin.zeroCells z.cells (grownCap w (sLen + xs.length) sCap e - (sLen + xs.length))).toList).toArray e)) := by
  have hf := hsrc.first w.drew rfl xs.length (Nat.le_refl _)
  have hl := hsrc.len w
  have ho := hold w.drew rfl
  rw [← hcl, List.take_length] at hf
  subst hs
  have hn : ¬ (sLen + xs.length ≤ sCap) := by omega
  have hm : maxBytes = 70368744177664 := rfl
  have h63 : ¬ (9223372036854775807 < ((sLen : Int) + (xs.length : Int))) := by omega
  have h48 := growslice_fits (bytes := i.bytes) hlt (by omega)
  have h48' : ¬ (281474976710656 < Builtin.nextslicecap (sLen + xs.length) sCap * i.bytes) := by omega
  cases d <;> first | (simp [srcKind] at hnd; done) | skip
  all_goals
    simp [Builtin.append_, h0, h1, run_underlying ht, run_underlying hd, sizeOf, typeInfo, zeroValue, hi, hz, hl, hf, ho, hn, h63, h48', Question.forced, newRow, grownCap]
    congr 2
    apply Array.ext'
    simp

end
end Go.X
/-
  append, copy, clear; slices made.
-/
namespace Go.X
open Go.RowKit (Below)

section
variable {P : Program} {B : Nat} {E E' : Env} {H : Heap} {w w' : World}

theorem setMany_refs {ys xs : List AV} {k : Nat} : ∀ x ∈ refsL (setMany ys k xs), x ∈ refsL ys ∨ x ∈ refsL xs := by
  intro x hx
  unfold setMany at hx
  rw [refsL_append, refsL_append] at hx
  simp only [List.mem_append] at hx
  rcases hx with (hx | hx) | hx
  · exact .inl (refsL_sub (fun y hy => List.mem_of_mem_take hy) x hx)
  · exact .inr hx
  · exact .inl (refsL_sub (fun y hy => List.mem_of_mem_drop hy) x hx)
where
  refsL_append : ∀ (a b : List AV), refsL (a ++ b) = refsL a ++ refsL b
    | [], b => by simp [refsL]
    | x :: a, b => by simp [refsL, refsL_append a b]
  refsL_sub : ∀ {a b : List AV}, (∀ y ∈ a, y ∈ b) → ∀ x ∈ refsL a, x ∈ refsL b
    | [], b, h, x, hx => by simp [refsL] at hx
    | y :: a, b, h, x, hx => by
      simp only [refsL, List.mem_append] at hx
      rcases hx with hx | hx
      · exact load_ok.refsL_of_mem (h y List.mem_cons_self) hx
      · exact refsL_sub (fun z hz => h z (List.mem_cons_of_mem _ hz)) x hx

/-- Some elements of an array or a slice are written over. -/
theorem Sim.splice (hs : Sim B E H w) {i : Nat} {bk : Blk} {L : Loc} {path : List Nat} {o sz k : Nat} {ys xs : List AV} {r : AV} {g fl : Bool} {cells : List Value} (hb : H.blk i = some bk) (hL : E.loc i = some L)
    (hat : bk.root.at? path = some (o, .arr sz ys)) (hput : bk.root.put? path (.arr sz (setMany ys k xs)) = some r) (hf : FR E xs cells) (hx : ∀ u ∈ xs, u.flatLen = sz) (hk : k + xs.length ≤ ys.length) (hfl : fl = true → r.refs = []) :
    (storeCells ⟨L.b, L.base + o + k * sz, none⟩ cells).run P w = .ok () (w.setCells L.b (L.base + o + k * sz) cells) ∧
    Sim B E (H.set i (some ⟨r, g, fl⟩)) (w.setCells L.b (L.base + o + k * sz) cells) ∧ ∀ q, Tr B q E w E (w.setCells L.b (L.base + o + k * sz) cells) := by
  obtain ⟨L', hL', hB, hBL⟩ := hs.live _ _ hb
  obtain rfl : L = L' := by rw [hL] at hL'; exact Option.some.inj hL'
  obtain ⟨cs, hfr, hlen, hcells⟩ := hB.cs
  obtain ⟨pre0, mid0, post0, hcs0, hpre0, hm0⟩ := at_spec _ _ _ _ _ hfr hat
  obtain ⟨hys, hye⟩ := hm0.arr_inv
  have hsplit : ys = ys.take k ++ ((ys.drop k).take xs.length ++ (ys.drop k).drop xs.length) := by rw [List.take_append_drop, List.take_append_drop]
  have hys' := hys
  rw [hsplit] at hys'
  obtain ⟨c0, c2, hc02, k0, k1⟩ := hys'.append_inv
  obtain ⟨c3, c4, rfl, k2, k3⟩ := k1.append_inv
  subst hc02
  have hl0 : c0.length = k * sz := by
    rw [k0.length, sumLen_same (fun x hx => hye x (List.mem_of_mem_take hx))]
    simp [Nat.min_eq_left (show k ≤ ys.length by omega), Nat.mul_comm]
  have hl3 : c3.length = cells.length := by
    rw [k2.length, hf.length, sumLen_same (fun x hx => hye x (List.mem_of_mem_drop (List.mem_of_mem_take hx))), sumLen_same hx]
    congr 1
    simp; omega
  have hnew : FR E [.arr sz (setMany ys k xs)] (c0 ++ cells ++ c4) := by
    have h1 : FR E (setMany ys k xs) (c0 ++ cells ++ c4) := by
      unfold setMany
      rw [List.drop_drop] at k3
      exact FR.append (FR.append k0 hf) k3
    have := FR.arr (e := sz) (vs := []) (cs := []) h1 (fun x hx' => by
      unfold setMany at hx'
      simp only [List.mem_append] at hx'
      rcases hx' with (h | h) | h
      · exact hye x (List.mem_of_mem_take h)
      · exact hx x h
      · exact hye x (List.mem_of_mem_drop h)) .nil
    simpa using this
  obtain ⟨pre, mid, post, hcs, hpre, hm, hml, hr, _⟩ := put_spec _ _ _ _ _ _ _ _ hfr hat hput hnew
  have hpp : pre = pre0 ∧ mid ++ post = (c0 ++ (c3 ++ c4)) ++ post0 := by
    rw [hcs, List.append_assoc, List.append_assoc] at hcs0
    exact List.append_inj hcs0 (by omega)
  obtain ⟨rfl, hmp⟩ := hpp
  have hmid : mid = c0 ++ (c3 ++ c4) ∧ post = post0 := List.append_inj hmp (by rw [← hml]; simp; omega)
  obtain ⟨rfl, rfl⟩ := hmid
  subst hcs
  have hfit := hB.fits
  have hlen' : pre.length + (c0.length + (c3.length + c4.length)) + post.length = L.gen := by rw [← hlen]; simp; omega
  have hroom : ∀ j, j < cells.length → o + k * sz + j < L.ext := fun j hj => by omega
  have hin := World.cell?_setCells_in L.b cells (L.base + o + k * sz) w (fun j hj => by
    have := (hB.room (o + k * sz + j) (hroom j hj)).1
    rwa [show L.base + (o + k * sz + j) = L.base + o + k * sz + j by omega] at this)
  have hout : ∀ b q, ¬ (b = L.b ∧ L.base + o + k * sz ≤ q ∧ q < L.base + o + k * sz + cells.length) → (w.setCells L.b (L.base + o + k * sz) cells).cell? ⟨b, q, none⟩ = w.cell? ⟨b, q, none⟩ := fun b q hq =>
    World.cell?_setCells_out L.b cells (L.base + o + k * sz) w ⟨b, q, none⟩ (fun h1 _ => by simp only at h1 ⊢; omega)
  refine ⟨?_, ?_⟩
  · have := run_storeCells_cells (P := P) L.b (L.base + o + k * sz) cells 0 w (fun j hj => by
      have := (hB.room (o + k * sz + j) (hroom j hj)).1
      rwa [show L.base + (o + k * sz + j) = L.base + o + k * sz + 0 + j by omega] at this) (fun j hj => by
      have := (hB.room (o + k * sz + j) (hroom j hj)).2
      rwa [show L.base + (o + k * sz + j) = L.base + o + k * sz + 0 + j by omega] at this) (fun v hv => hf.oneCell v hv)
    simpa using this
  · refine hs.write hb hL hr (by simp; omega) hfl (fun j c hj => ?_) (fun j hj => setCells_some _ _ _ _ _ (hB.room j hj).1) (fun b q hq => hout b q (fun hh => hq ?_)) (fun b q => World.frozen?_setCells _ _ _ _ _) (below_setCells _ hBL _ _ _)
    · by_cases h1 : o + k * sz ≤ j ∧ j < o + k * sz + cells.length
      · have h2 := hin (j - (o + k * sz)) (by omega)
        rw [show L.base + o + k * sz + (j - (o + k * sz)) = L.base + j by omega] at h2
        rw [h2, ← hj]
        simp only [List.append_assoc]
        rw [List.getElem?_append_right (by omega), List.getElem?_append_right (by omega), List.getElem?_append_left (by omega), List.getElem?_eq_getElem (by omega)]
        congr 2
        omega
      · rw [hout _ _ (by omega)]
        refine hcells j c ?_
        simp only [List.append_assoc] at hj ⊢
        rcases Nat.lt_or_ge j pre.length with h | h
        · rw [List.getElem?_append_left h] at hj ⊢; exact hj
        · rw [List.getElem?_append_right h] at hj ⊢
          rcases Nat.lt_or_ge (j - pre.length) c0.length with h' | h'
          · rw [List.getElem?_append_left h'] at hj ⊢; exact hj
          · rw [List.getElem?_append_right h'] at hj ⊢
            rw [List.getElem?_append_right (by omega)] at hj ⊢
            rw [hl3]
            exact hj
    · have := hroom (cells.length - 1)
      unfold Loc.has
      omega

theorem sl_new {E : Env} {L : Loc} {sz n cap : Nat} (hg : sz * n = L.gen) (hb : L.base = 0) (hcap : n ≤ cap) (hext : cap * sz ≤ L.ext) :
    VR (E.new L) (.sl ⟨E.top, 0, [], sz * n⟩ sz n 0 n) (.slice (some ⟨L.b, 0, none⟩) n cap) := by
  refine .of_PR (v := .sl _ _ _ _ _) ⟨[_], .sl (Nat.lt_succ_self _) hcap (fun L' hL' => .inr ?_) rfl .nil, rfl⟩
  simp only [Env.new, if_pos] at hL'
  obtain rfl := Option.some.inj hL'
  exact ⟨hg, by omega, by simpa using hext, .inr (by simp [hb])⟩

/-- A row of new elements, with room behind. -/
theorem rowSl_ok {n0 : Nat} (hs : Sim B E H w) (hn : n0 ≤ H.length) {sz : Nat} {xs : List AV} {cells rest : List Value} {t : TypeId} {cap : Nat} {fl : Bool} {fr : Nat × Nat} (hf : FR E xs cells) (hx : ∀ u ∈ xs, u.flatLen = sz) (hfl : fl = true → refsL xs = [])
    (hw : w'.heap = w.heap) (hwo : Bel B w w') (hcap : xs.length ≤ cap) (hrest : cells.length + rest.length = cap * sz) (hfr : fr = (0, 0) ∨ cap * sz ≤ fr.1 := by exact .inl rfl) :
    Res B n0 E H w (.sl ⟨H.length, 0, [], sz * xs.length⟩ sz xs.length 0 xs.length) (newBlk H (.arr sz xs) true fl) false (E.new ⟨w.heap.size, 0, sz * xs.length + rest.length, sz * xs.length⟩)
      (w'.alloc (.cells (cells ++ rest).toArray t fr)) (.slice (some ⟨w.heap.size, 0, none⟩) xs.length cap) := by
  have hl : cells.length = sz * xs.length := by rw [hf.length, sumLen_same hx]
  have hfa : FR E [.arr sz xs] cells := by
    have := FR.arr (e := sz) (vs := []) (cs := []) hf hx .nil
    simpa using this
  obtain ⟨k1, k2⟩ := row_ok (g := true) (rest := rest) (t := t) hs hfa (fl := fl) (fr := fr) (by simpa [AV.refs] using hfl) hw hwo (by rw [hrest]; exact hfr) hl.symm
  refine ⟨k1, ?_, k2 _ (Nat.le_refl _), by simp [newBlk], fun _ => Sub.append hn⟩
  rw [← hs.top]
  exact sl_new rfl rfl hcap (by simp only; omega)

end
end Go.X
/-
  append, copy, clear; slices made: what the evaluator tells is what the model does.
-/
namespace Go.X
open Go.RowKit (Below)

section
variable {P : Program} {B : Nat} {E E' : Env} {H : Heap} {w w' : World}

theorem tinfo {t : TypeId} {n m : Nat} (h : tsize P t = some n) (h' : tbytes P t = some m) : ∃ i, P.info? t = some i ∧ i.size = n ∧ i.bytes = m := by
  unfold tsize at h
  unfold tbytes at h'
  cases hi : P.info? t with
  | none => simp [hi] at h
  | some i => exact ⟨i, rfl, by simpa [hi] using h, by simpa [hi] using h'⟩

theorem zero_size {t : TypeId} {n : Nat} {i : TypeInfo} (h : (zeroAV P t).map AV.flatLen = some n) (hi : P.info? t = some i) : ∃ z, i.zero = some z ∧ z.cells.size = n := by
  simp only [Option.map_eq_some_iff] at h
  obtain ⟨v, hv, rfl⟩ := h
  obtain ⟨i', z, hi', hz, hf, _⟩ := zero_spec (E := ⟨fun _ => none, fun _ _ => none, 0, fun _ => none, 0⟩) hv
  rw [hi] at hi'
  obtain rfl := Option.some.inj hi'
  have := hf.length
  exact ⟨z, hz, by simpa [sumLen] using this⟩

theorem below_drew {B : Nat} (w : World) : Bel B w w.drew := (Bel.refl B w).drew

theorem size_zeroCells' {z : Value} {n sz : Nat} (h : z.cells.size = sz) : (Builtin.zeroCells z.cells n).toList.length = n * sz := by
  have := size_zeroCells z.cells n
  simp [this, h]

theorem at_nil (v : AV) : v.at? [] = some (0, v) := by cases v <;> rfl

theorem append_ok {n0 : Nat} (hs : Sim B E H w) (hn : n0 ≤ H.length) {argTypes : Array TypeId} {t u e ty : TypeId} {d : TypeDesc} {s v : AV} {cs cx : Value} {xs : List AV} {cells : List Value} {sz : Nat} {H' : Heap}
    (h0 : argTypes[0]? = some t) (h1 : argTypes[1]? = some u) (ht : P.underlying t = some (.slice e)) (hd : P.underlying u = some d) (hnd : srcKind d = true) (hsz : tsize P e = some sz)
    (hv : VR E s cs) (hsrc : Src P E w sz xs cx cells) (h : appendAV P H e s xs = some (v, H')) :
    ∃ c w' E', (Builtin.append_ argTypes ty #[cs, cx]).run P w = .ok c w' ∧ Res B n0 E H w v H' (appendFlag n0 s xs) E' w' c := by
  simp only [appendAV, Option.bind_eq_some_iff] at h
  obtain ⟨sz', hsz', by_, hby, h⟩ := h
  obtain rfl : sz = sz' := by rw [hsz] at hsz'; exact Option.some.inj hsz'
  obtain ⟨i, hi, his, hib⟩ := tinfo hsz hby
  subst his hib
  have hcl : cells.length = xs.length * i.size := by rw [hsrc.fr.length, sumLen_same hsrc.each, Nat.mul_comm]
  split at h
  · -- nothing
    split at h
    · obtain ⟨rfl, rfl⟩ := by simpa using h
      have k := (show PR E .nils cs from hv).leaf rfl
      cases k
      exact ⟨_, _, E, run_append_none h0 h1 ht hd hnd hi hsrc (Nat.le_refl _), Res.same hs (.of_PR (v := .nils) ⟨[_], .nils .nil, rfl⟩)⟩
    · obtain ⟨rfl, rfl⟩ := by simpa using h
      obtain ⟨a, cap, rfl, _, hcap, _⟩ := PR.sl_inv (show PR E (.sl _ _ _ _ _) cs from hv)
      exact ⟨_, _, E, run_append_none h0 h1 ht hd hnd hi hsrc hcap, Res.same hs hv⟩
    · obtain ⟨rfl, rfl⟩ := by simpa using h
      obtain ⟨b, o, sp, c1, cap, rfl, _, _, _, _, hcap, _⟩ := PR.isl_inv (show PR E (.isl _ _) cs from hv)
      exact ⟨_, _, E, run_append_none h0 h1 ht hd hnd hi hsrc hcap, Res.same hs hv⟩
    · simp at h
  · rename_i x r
    generalize hxs : x :: r = xs at *
    have hpos : 0 < xs.length := by subst hxs; simp
    split at h
    · rename_i hc
      obtain ⟨hz, _, hsz0⟩ := hc
      obtain ⟨z, hiz, hzs⟩ := zero_size hz hi
      split at h
      · -- nil
        split at h
        · rename_i hb
          obtain ⟨rfl, rfl⟩ := by simpa using h
          have k := (show PR E .nils cs from hv).leaf rfl
          cases k
          have hr := run_append_out (P := P) (w := w) (z := z) (base := none) (sLen := 0) (sCap := 0) (olds := []) (ty := ty) h0 h1 ht hd hnd hi hiz rfl hsrc hcl (by omega) (fun w' _ => by simp [Builtin.firstCells]) (by simpa using hb.2) (by simpa using hb.1)
          simp only [Nat.zero_add, List.nil_append] at hr
          have hge := grownCap_ge w xs.length 0 e
          have hres := rowSl_ok (w' := w.drew) (t := e) hs hn hsrc.fr hsrc.each (fl := reflessL xs) (fun hf => setMany_refs_nil hf) rfl (below_drew w) hge (rest := (Builtin.zeroCells z.cells (grownCap w xs.length 0 e - xs.length)).toList) (by
            rw [hcl, size_zeroCells' hzs, ← Nat.add_mul]; congr 1; omega)
          exact ⟨_, _, _, hr, hres⟩
        · simp at h
      · rename_i p e1 n off len
        simp only [Option.bind_eq_some_iff] at h
        obtain ⟨bk, hb, ⟨o, y⟩, hat, h⟩ := h
        split at h
        · rename_i e' ys hy
          simp only at hy
          subst hy
          split at h
          · rename_i hc
            obtain ⟨hg, ho, rfl, rfl, hyn, hle⟩ := hc
            obtain ⟨ad, cap, rfl, hid, hcap, h2⟩ := PR.sl_inv (show PR E (.sl p i.size n off len) cs from hv)
            obtain ⟨L, hL, hB, hBL, hgen⟩ := hs.at hb hg
            simp only at ho
            have h3 : n ≤ off + cap ∧ p.coff + (off + cap) * i.size ≤ L.ext ∧ (cap = 0 ∨ ad = ⟨L.b, L.base + p.coff + off * i.size, none⟩) := by
              rcases h2 L hL with h3 | ⟨_, h3⟩
              · omega
              · exact h3
            obtain ⟨h3, h4, h5⟩ := h3
            have hflat : ∀ {q : AV}, (∀ x ∈ q.refs, x ∈ bk.root.refs ∨ x ∈ refsL xs) → (bk.flat && reflessL xs) = true → q.refs = [] := fun {q} hq hf => by
              simp only [Bool.and_eq_true] at hf
              refine List.eq_nil_iff_forall_not_mem.2 (fun x hx => ?_)
              rcases hq x hx with h | h
              · simp [hs.flat _ _ hb hf.1] at h
              · simp [FR.evol0.refsL_of_refless hf.2] at h
            have hsub : ∀ {q : AV} {g fl : Bool}, (∀ x ∈ q.refs, x ∈ bk.root.refs ∨ x ∈ refsL xs) → (decide (p.id < n0) && !reflessL xs) = false → Sub n0 H (H.set p.id (some ⟨q, g, fl⟩)) := fun {q g fl} hq he => by
              refine Sub.set hb (fun hlt b hb' y hy => ?_)
              obtain rfl := Option.some.inj hb'
              have hr : reflessL xs = true := by simpa [hlt] using he
              rcases hq y hy with h | h
              · exact h
              · simp [FR.evol0.refsL_of_refless hr] at h
            split at h
            · -- room, and known
              rename_i hroom
              simp only [Option.map_eq_some_iff, Prod.mk.injEq] at h
              obtain ⟨q, hput, rfl, rfl⟩ := h
              have hq : ∀ x ∈ q.refs, x ∈ bk.root.refs ∨ x ∈ refsL xs := fun x hx => by
                rcases put_refs _ _ _ _ hput x hx with h | h
                · exact .inl h
                · simp only [AV.refs] at h
                  rcases setMany_refs x h with h | h
                  · exact .inl (load_ok.at_refs _ _ _ _ hat (by simpa [AV.refs] using h))
                  · exact .inr h
              obtain ⟨k1, k2, k3⟩ := hs.splice (P := P) (g := bk.grow) hb hL hat hput hsrc.fr hsrc.each (by omega) (hflat hq)
              have had : ad = ⟨L.b, L.base + p.coff + off * i.size, none⟩ := by
                rcases h5 with h5 | h5
                · omega
                · exact h5
              subst had
              refine ⟨_, _, E, run_append_in h0 h1 ht hd hnd hi hsrc hcl (by omega) ?_, k2, ?_, k3 _, by simp, fun he => hsub hq he⟩
              · rw [Addr.add_mk, show L.base + p.coff + off * i.size + len * i.size = L.base + o + (off + len) * i.size by rw [ho, Nat.add_mul]; omega]
                exact k1
              · refine .of_PR (v := .sl p i.size n off (len + xs.length)) ⟨[_], .sl hid (by omega) (fun L' hL' => .inr ?_) rfl .nil, rfl⟩
                obtain rfl : L = L' := by rw [hL] at hL'; exact Option.some.inj hL'
                exact ⟨hgen, h3, h4, h5⟩
            · split at h
              · -- at the end
                rename_i hroom hc
                obtain ⟨rfl, rfl, hpath, hgrow, hbm, hlm⟩ := hc
                obtain ⟨rfl, rfl⟩ := by simpa using h
                rw [hpath] at hat
                rw [at_nil] at hat
                have hoo : 0 = o := congrArg Prod.fst (Option.some.inj hat)
                have hroot : bk.root = AV.arr i.size ys := congrArg Prod.snd (Option.some.inj hat)
                subst hoo
                obtain ⟨cs0, hfr, hlen, hcells⟩ := hB.cs
                have hfr' := hfr
                rw [hroot] at hfr'
                obtain ⟨hys, hye⟩ := hfr'.arr_inv
                have hl0 : cs0.length = len * i.size := by rw [hys.length, sumLen_same hye, hyn, Nat.mul_comm]
                have hnewf : FR E [.arr i.size (ys ++ xs)] (cs0 ++ cells) := by
                  have := FR.arr (e := i.size) (vs := []) (cs := []) (FR.append hys hsrc.fr) (fun x hx => by
                    rcases List.mem_append.1 hx with h | h
                    · exact hye x h
                    · exact hsrc.each x h) .nil
                  simpa using this
                have hq : ∀ x ∈ (AV.arr i.size (ys ++ xs)).refs, x ∈ bk.root.refs ∨ x ∈ refsL xs := fun x hx => by
                  simp only [AV.refs, setMany_refs.refsL_append, List.mem_append] at hx
                  rw [hroot]
                  exact hx
                have hfit := hB.fits
                have hg1 : L.gen = len * i.size := by omega
                have hnl : (cs0 ++ cells).length = i.size * (len + xs.length) := by simp [hl0, hcl, Nat.mul_add, Nat.mul_comm]
                have hsz1 : i.size * (len + xs.length) = len * i.size + xs.length * i.size := by rw [Nat.mul_add, Nat.mul_comm, Nat.mul_comm i.size xs.length]
                have hxl : i.size ≤ xs.length * i.size := Nat.le_mul_of_pos_left _ hpos
                simp only [Nat.zero_mul, Nat.zero_add, Nat.add_zero] at h3 h4 h5
                rw [← ho] at h4 h5
                simp only [Nat.zero_add, Nat.add_zero] at h4 h5
                by_cases hin : len + xs.length ≤ cap
                · -- at its place
                  have hce : (len + xs.length) * i.size ≤ cap * i.size := Nat.mul_le_mul_right _ hin
                  rw [Nat.add_mul] at hce
                  have had : ad = ⟨L.b, L.base, none⟩ := by
                    rcases h5 with h5 | h5
                    · omega
                    · exact h5
                  subst had
                  have hcr : ∀ j, j < cells.length → len * i.size + j < L.ext := fun j hj => by omega
                  have hin' := World.cell?_setCells_in L.b cells (L.base + len * i.size) w (fun j hj => by
                    rw [Nat.add_assoc]; exact (hB.room _ (hcr j hj)).1)
                  have hout : ∀ b q, ¬ (b = L.b ∧ L.base + len * i.size ≤ q ∧ q < L.base + len * i.size + cells.length) → (w.setCells L.b (L.base + len * i.size) cells).cell? ⟨b, q, none⟩ = w.cell? ⟨b, q, none⟩ := fun b q hq =>
                    World.cell?_setCells_out L.b cells (L.base + len * i.size) w ⟨b, q, none⟩ (fun h1 _ => by simp only at h1 ⊢; omega)
                  have hst := run_storeCells_cells (P := P) L.b (L.base + len * i.size) cells 0 w (fun j hj => by
                    rw [Nat.add_zero, Nat.add_assoc]; exact (hB.room _ (hcr j hj)).1) (fun j hj => by
                    rw [Nat.add_zero, Nat.add_assoc]; exact (hB.room _ (hcr j hj)).2) (fun v hv => hsrc.fr.oneCell v hv)
                  simp only [Nat.add_zero] at hst
                  have hgr := hs.grow (w' := w.setCells L.b (L.base + len * i.size) cells) (L' := ⟨L.b, L.base, L.ext, i.size * (len + xs.length)⟩) (g := true) hb hL (by simp only; omega) hnewf hnl (by simp only; omega) (hflat hq) (.inl ⟨rfl, rfl, rfl⟩)
                    (fun j c hj => by
                      rcases Nat.lt_or_ge j cs0.length with h | h
                      · rw [hout _ _ (by simp only; omega)]
                        rw [List.getElem?_append_left h] at hj
                        exact hcells j c hj
                      · rw [List.getElem?_append_right h] at hj
                        have hjl : j - cs0.length < cells.length := by
                          rcases Nat.lt_or_ge (j - cs0.length) cells.length with h | h
                          · exact h
                          · simp [List.getElem?_eq_none h] at hj
                        have := hin' (j - cs0.length) hjl
                        simp only
                        rw [show L.base + len * i.size + (j - cs0.length) = L.base + j by omega] at this
                        rw [this, ← hj, List.getElem?_eq_getElem hjl])
                    (fun j hj => ⟨setCells_some _ _ _ _ _ (hB.room j hj).1, by rw [World.frozen?_setCells]; exact (hB.room j hj).2⟩)
                    (fun b q _ hq => ⟨hout b q (fun hh => hq (by unfold Loc.has; have := hcr (cells.length - 1); omega)), World.frozen?_setCells _ _ _ _ _⟩) (below_setCells _ hBL _ _ _)
                  refine ⟨_, _, _, run_append_in h0 h1 ht hd hnd hi hsrc hcl hin (by rw [Addr.add_mk]; exact hst), hgr.1, ?_, hgr.2 _, by simp, fun he => hsub hq he⟩
                  refine .of_PR (v := .sl _ _ _ _ _) ⟨[_], .sl (show _ < E.top from hid) hin (fun L' hL' => .inr ?_) rfl .nil, rfl⟩
                  simp only [Env.put, if_pos] at hL'
                  obtain rfl := Option.some.inj hL'
                  exact ⟨rfl, by omega, by simp only [Nat.zero_add]; omega, .inr (by simp)⟩
                · -- at a new place
                  have hold : ∀ w' : World, w'.heap = w.heap → (Builtin.firstCells i.size len (.slice (some ad) len cap)).run P w' = .ok cs0.toArray w' := fun w' hw => by
                    rcases Nat.eq_zero_or_pos len with rfl | hlp
                    · have hc0 : cs0 = [] := List.eq_nil_of_length_eq_zero (by omega)
                      simp [Builtin.firstCells, loadCells, loadCellsFrom, hc0]
                    · have had : ad = ⟨L.b, L.base, none⟩ := by
                        rcases h5 with h5 | h5
                        · omega
                        · exact h5
                      subst had
                      simp only [Builtin.firstCells]
                      exact run_loadCells' hl0 (fun j c hj => by rw [cell_heap hw]; exact hcells j c hj)
                  have hr := run_append_out (P := P) (w := w) (z := z) (ty := ty) h0 h1 ht hd hnd hi hiz rfl hsrc hcl (by omega) hold hlm hbm
                  have hge := grownCap_ge w (len + xs.length) cap e
                  generalize hgc : grownCap w (len + xs.length) cap e = gc at *
                  have hzl := size_zeroCells' (n := gc - (len + xs.length)) hzs
                  generalize (Builtin.zeroCells z.cells (gc - (len + xs.length))).toList = rest at *
                  have hge' : (len + xs.length) * i.size ≤ gc * i.size := Nat.mul_le_mul_right _ hge
                  have hrl : rest.length = gc * i.size - (len + xs.length) * i.size := by rw [hzl, Nat.sub_mul]
                  have hsz2 : w.drew.heap.size = w.heap.size := rfl
                  have hgr := hs.grow (w' := w.drew.alloc (.cells ((cs0 ++ cells) ++ rest).toArray e)) (L' := ⟨w.heap.size, 0, i.size * (len + xs.length) + rest.length, i.size * (len + xs.length)⟩) (g := true) hb hL (by simp only; omega) hnewf hnl (Nat.le_add_right _ _) (hflat hq) (.inr (Nat.le_refl _))
                    (fun j c hj => by
                      rw [World.cell?_alloc_at _ _ _ _ hsz2.symm]
                      simp only [Nat.zero_add, List.getElem?_toArray]
                      rw [List.getElem?_append_left (by
                        rcases Nat.lt_or_ge j (cs0 ++ cells).length with h | h
                        · exact h
                        · simp [List.getElem?_eq_none h] at hj)]
                      exact hj)
                    (fun j hj => by
                      simp only at hj
                      refine ⟨?_, World.frozen?_alloc_at _ _ _ _ hsz2.symm⟩
                      rw [World.cell?_alloc_at _ _ _ _ hsz2.symm]
                      simp only [Nat.zero_add, List.getElem?_toArray]
                      rw [List.getElem?_eq_getElem (by rw [List.length_append, hnl]; exact hj)]
                      rfl)
                    (fun b q hbq _ => ⟨by rw [World.cell?_alloc_past _ _ _ (by rw [hsz2]; exact hbq)]; rfl, World.frozen?_of_block (Below.heap_alloc w.drew _ b (by rw [hsz2]; exact hbq))⟩)
                    ((below_drew w).trans ((Bel.refl B w.drew).alloc (by rw [hsz2]; exact hs.old) _))
                  refine ⟨_, _, _, hr, hgr.1, ?_, hgr.2 _, by simp, fun he => hsub hq he⟩
                  refine .of_PR (v := .sl _ _ _ _ _) ⟨[_], .sl (show _ < E.top from hid) hge (fun L' hL' => .inr ?_) rfl .nil, rfl⟩
                  simp only [Env.put, if_pos] at hL'
                  obtain rfl := Option.some.inj hL'
                  refine ⟨rfl, by omega, ?_, .inr (by simp)⟩
                  simp only [Nat.zero_add]
                  rw [hrl, hsz1]
                  rw [Nat.add_mul] at *
                  omega
              · simp at h
          · simp at h
        · simp at h
      · simp at h
    · simp at h
where
  setMany_refs_nil {xs : List AV} (h : reflessL xs = true) : refsL xs = [] := FR.evol0.refsL_of_refless h

end
end Go.X
/-
  copy, clear, slices made, conversions; values frozen.
-/
namespace Go.X
open Go.RowKit (Below)

section
variable {P : Program} {B : Nat} {E E' : Env} {H : Heap} {w w' : World}

theorem FR.take_each {sz k : Nat} {xs : List AV} {cells : List Value} (hf : FR E xs cells) (hx : ∀ u ∈ xs, u.flatLen = sz) (hk : k ≤ xs.length) : FR E (xs.take k) (cells.take (k * sz)) := by
  have h1 : xs = xs.take k ++ xs.drop k := (List.take_append_drop k xs).symm
  rw [h1] at hf
  obtain ⟨c0, c1, rfl, k0, k1⟩ := hf.append_inv
  have hl : c0.length = k * sz := by
    rw [k0.length, sumLen_same (fun x hx' => hx x (List.mem_of_mem_take hx'))]
    simp [Nat.min_eq_left hk, Nat.mul_comm]
  rw [← hl, List.take_left]
  exact k0

theorem srcAV_ok (hs : Sim B E H w) {sz : Nat} {x : AV} {xs : List AV} {cx : Value} (hx : VR E x cx) (h : srcAV H sz x = some xs) : ∃ cells, Src P E w sz xs cx cells := by
  unfold srcAV at h
  split at h
  · split at h
    · rename_i h1
      subst h1
      obtain rfl := Option.some.inj h
      exact src_str hx
    · simp at h
  · exact src_ok hs hx h

theorem copy_ok {n0 : Nat} (hs : Sim B E H w) {argTypes : Array TypeId} {t ty : TypeId} {d s v : AV} {cd cx : Value} {H' : Heap} (h0 : argTypes[0]? = some t) (hd : VR E d cd) (hx : VR E s cx)
    (h : copyAV P H t d s = some (v, H')) :
    ∃ c w' E', (Builtin.copy_ argTypes ty #[cd, cx]).run P w = .ok c w' ∧ Res B n0 E H w v H' (copyFlag n0 H' d) E' w' c := by
  unfold copyAV at h
  split at h
  · rename_i e hu
    simp only [Option.bind_eq_some_iff] at h
    obtain ⟨sz, hsz, xs, hxs, h⟩ := h
    obtain ⟨cells, hsrc⟩ := srcAV_ok (P := P) hs hx hxs
    split at h
    · obtain ⟨rfl, rfl⟩ := by simpa using h
      have k := (show PR E .nils cd from hd).leaf rfl
      cases k
      refine ⟨.int .i64 0, w, E, ?_, Res.same hs VR.int⟩
      have hf := hsrc.first w rfl 0 (Nat.zero_le _)
      simp [Builtin.copy_, h0, run_underlying hu, hsrc.len w, run_sizeOf' hsz, hf, goInt]
    · rename_i p e1 n off len
      simp only [Option.bind_eq_some_iff] at h
      obtain ⟨bk, hb, ⟨o, y⟩, hat, h⟩ := h
      split at h
      · rename_i e' ys hy
        simp only at hy
        subst hy
        split at h
        · rename_i hc
          obtain ⟨hg, ho, rfl, rfl, hyn, hle, hall⟩ := hc
          simp only [Option.map_eq_some_iff, Prod.mk.injEq] at h
          obtain ⟨q, hput, rfl, rfl⟩ := h
          obtain ⟨ad, cap, rfl, hid, hcap, h2⟩ := PR.sl_inv (show PR E (.sl p e' n off len) cd from hd)
          obtain ⟨L, hL, hB, hBL, hgen⟩ := hs.at hb hg
          have hk : min xs.length len ≤ xs.length := Nat.min_le_left _ _
          have hk2 : min xs.length len ≤ len := Nat.min_le_right _ _
          have hfk := hsrc.fr.take_each hsrc.each hk
          have hq : ∀ x ∈ q.refs, x ∈ bk.root.refs ∨ x ∈ refsL xs := fun x hx => by
            rcases put_refs _ _ _ _ hput x hx with h | h
            · exact .inl h
            · simp only [AV.refs] at h
              rcases setMany_refs x h with h | h
              · exact .inl (load_ok.at_refs _ _ _ _ hat (by simpa [AV.refs] using h))
              · exact .inr (setMany_refs.refsL_sub (fun y hy => List.mem_of_mem_take hy) x h)
          have hfl : (bk.flat && reflessL xs) = true → q.refs = [] := fun hf => by
            simp only [Bool.and_eq_true] at hf
            refine List.eq_nil_iff_forall_not_mem.2 (fun x hx => ?_)
            rcases hq x hx with h | h
            · simp [hs.flat _ _ hb hf.1] at h
            · simp [FR.evol0.refsL_of_refless hf.2] at h
          obtain ⟨k1, k2, k3⟩ := hs.splice (P := P) (g := bk.grow) hb hL hat hput hfk (fun u hu => hsrc.each u (List.mem_of_mem_take hu)) (by simp; omega) hfl
          simp only at ho
          have hfirst := hsrc.first w rfl (min xs.length len) hk
          have hst : (storeCells ad (cells.take (min xs.length len * e'))).run P w = .ok () (w.setCells L.b (L.base + o + off * e') (cells.take (min xs.length len * e'))) := by
            rcases h2 L hL with h3 | ⟨_, _, _, h3⟩
            · omega
            · rcases h3 with h3 | rfl
              · have : min xs.length len = 0 := by omega
                simp [this, storeCells, World.setCells]
              · rw [ho] at k1 ⊢
                exact k1
          refine ⟨.int .i64 (min xs.length len : Nat), _, E, ?_, k2, VR.int, k3 _, by simp, fun he => ?_⟩
          · simp only [Nat.min_def] at hfirst hst ⊢
            simp [Builtin.copy_, h0, run_underlying hu, hsrc.len w, run_sizeOf' hsz, Nat.min_def, hfirst, hst, goInt]
          · refine Sub.set hb (fun hlt b hb' y hy => ?_)
            obtain rfl := Option.some.inj hb'
            have hnm : noMap (some ⟨q, bk.grow, bk.flat && reflessL xs⟩) := fun b hb' => by
              obtain rfl := Option.some.inj hb'
              exact put_notup (v := .arr e' _) hput rfl
            simp only [copyFlag, Heap.blk_set (Heap.blk_some hb) hnm, if_true, hlt, decide_true, Bool.true_and, Bool.not_eq_false', Bool.and_eq_true] at he
            rcases hq y hy with h | h
            · exact h
            · simp [FR.evol0.refsL_of_refless he.2] at h
        · simp at h
      · simp at h
    · simp at h
  · simp at h

theorem range_zero (n s : Nat) (hs : 0 < s) (z : Array Value) (hz : z.size = s) : ((Array.range (n * s)).map (z[· % z.size]!)).toList = (List.replicate n z.toList).flatten := by
  subst hz
  apply List.ext_getElem?
  intro j
  have hlen : (List.replicate n z.toList).flatten.length = n * z.size := by simp
  by_cases hj : j < n * z.size
  · have h1 : ((Array.range (n * z.size)).map (z[· % z.size]!)).toList[j]? = some z[j % z.size]! := by
      simp [hj]
    rw [h1]
    have hm : j % z.size < z.size := Nat.mod_lt _ hs
    rw [getElem!_pos z _ hm]
    induction n generalizing j with
    | zero => simp at hj
    | succ n ih =>
      rw [List.replicate_succ, List.flatten_cons]
      rcases Nat.lt_or_ge j z.size with h | h
      · rw [List.getElem?_append_left (by simpa using h)]
        have e : j % z.size = j := Nat.mod_eq_of_lt h
        simp [e, h]
      · rw [List.getElem?_append_right (by simpa using h)]
        have e : (j - z.size) % z.size = j % z.size := by
          conv => rhs; rw [show j = (j - z.size) + z.size by omega, Nat.add_mod_right]
        have := ih (j - z.toList.length) (by simp) (by simp [Nat.add_mul] at hj ⊢; omega) (by
          have : j - z.size < n * z.size := by rw [Nat.add_mul] at hj; omega
          simp [this]) (by simpa [e] using hm)
        simp only [Array.length_toList] at this
        simp only [e] at this
        simpa using this
  · rw [List.getElem?_eq_none (by simp; omega), List.getElem?_eq_none (by simp; omega)]

theorem FR_replicate {z : AV} {cs : List Value} (h : FR E [z] cs) : ∀ n, FR E (List.replicate n z) (List.replicate n cs).flatten
  | 0 => .nil
  | n + 1 => by
    rw [List.replicate_succ, List.replicate_succ, List.flatten_cons]
    exact FR.cons h (FR_replicate h n)

theorem refsL_replicate {z : AV} (h : z.refs = []) : ∀ n, refsL (List.replicate n z) = []
  | 0 => rfl
  | n + 1 => by rw [List.replicate_succ]; simp [refsL, h, refsL_replicate h n]

theorem makeSlice_ok {n0 : Nat} (hs : Sim B E H w) (hn : n0 ≤ H.length) {t e : TypeId} {l c sz by_ : Nat} {al ac z : AV} {cl cc : Value} (hu : P.underlying t = some (.slice e)) (hsz : tsize P e = some sz) (hby : tbytes P e = some by_)
    (hl : VR E al cl) (hl' : al.idx = some l) (hc : VR E ac cc) (hc' : ac.idx = some c) (hz : zeroAV P e = some z) (hle : l ≤ c) (hm1 : c * by_ ≤ maxBytes) (hm2 : c ≤ maxBytes) (hzl : z.flatLen = sz) (hsz0 : 0 < sz) :
    ∃ cv w' E', (Instr.makeSlice t cl cc).run P w = .ok cv w' ∧ Res B n0 E H w (.sl ⟨H.length, 0, [], sz * l⟩ sz l 0 l) (newBlk H (.arr sz (List.replicate l z)) true true) false E' w' cv := by
  obtain ⟨kl, nl, rfl, hl0, rfl⟩ := idx_ok hl hl'
  obtain ⟨kc, nc, rfl, hc0, rfl⟩ := idx_ok hc hc'
  obtain ⟨i, hi, his, hib⟩ := tinfo hsz hby
  subst his hib
  obtain ⟨i', zv, hi', hiz, hf, hrl, _⟩ := zero_spec (E := E) hz
  rw [hi] at hi'
  obtain rfl := Option.some.inj hi'
  have hzs : zv.cells.size = i.size := by
    have := hf.length
    simp only [sumLen, hzl, Nat.add_zero, Array.length_toList] at this
    exact this
  have hmb : maxBytes = 70368744177664 := rfl
  have e1 : IntKind.i64.wrap nl = nl := by simp only [IntKind.wrap, IntKind.bits, IntKind.signed]; simp; omega
  have e2 : IntKind.i64.wrap nc = nc := by simp only [IntKind.wrap, IntKind.bits, IntKind.signed]; simp; omega
  have hb1 : ¬ (281474976710656 < (i.bytes : Int) * nc) := by
    have : (i.bytes : Int) * nc = ((nc.toNat * i.bytes : Nat) : Int) := by rw [Int.natCast_mul, Int.toNat_of_nonneg hc0, Int.mul_comm]
    rw [this]; omega
  have hr : (Instr.makeSlice t (.int kl nl) (.int kc nc)).run P w = .ok (.slice (some ⟨w.heap.size, 0, none⟩) nl.toNat nc.toNat)
      (w.alloc (.cells ((Array.range (nc.toNat * i.size)).map (zv.cells[· % zv.cells.size]!)) e)) := by
    have h3 : ¬ (nc < 0) := by omega
    have h4 : ¬ (nl < 0) := by omega
    have h5 : ¬ (nl > nc) := by omega
    by_cases h0 : nc.toNat * i.size = 0
    · simp [Instr.makeSlice, run_underlying hu, asInt, asIntOf, typeInfo, sizeOf, hi, e1, e2, hb1, h3, h4, h5, h0, newRow]
      have hr0 : Array.range 0 = #[] := by apply Array.ext'; simp
      simp [hr0]
    · simp [Instr.makeSlice, run_underlying hu, asInt, asIntOf, typeInfo, sizeOf, zeroValue, hi, hiz, e1, e2, hb1, h3, h4, h5, h0, newRow]
  have hcells : ((Array.range (nc.toNat * i.size)).map (zv.cells[· % zv.cells.size]!)) = ((List.replicate nl.toNat zv.cells.toList).flatten ++ (List.replicate (nc.toNat - nl.toNat) zv.cells.toList).flatten).toArray := by
    apply Array.ext'
    rw [range_zero _ _ hsz0 _ hzs, ← List.flatten_append, List.replicate_append_replicate]
    congr 2
    omega
  rw [hcells] at hr
  have hres := rowSl_ok (w' := w) (t := e) (sz := i.size) (cap := nc.toNat) (fl := true) hs hn (FR_replicate hf nl.toNat) (fun u hu => by rw [List.eq_of_mem_replicate hu]; exact hzl) (fun _ => refsL_replicate (FR.evol0.refs_of_refless hrl) _) rfl (Bel.refl _ _) (by simpa using hle)
    (rest := (List.replicate (nc.toNat - nl.toNat) zv.cells.toList).flatten) (by simp [hzs, ← Nat.add_mul]; congr 1; omega)
  simp only [List.length_replicate] at hres
  exact ⟨_, _, _, hr, hres⟩

theorem fill_arr {place : Nat → Option (Nat × Nat)} {e : Nat} : ∀ (ps : List (Nat × AV)) (xs : List AV) (r : AV) (_ : True), fillAV place (.arr e xs) ps = some r → ∃ ys, r = .arr e ys ∧ ys.length = xs.length
  | [], xs, r, _, h => by
    simp only [fillAV, Option.some.injEq] at h
    exact ⟨xs, h.symm, rfl⟩
  | (i, v) :: ps, xs, r, _, h => by
    simp only [fillAV, Option.bind_eq_some_iff] at h
    obtain ⟨x, _, y, _, h⟩ := h
    split at h
    · simp only [Option.bind_eq_some_iff] at h
      obtain ⟨acc, hput, h⟩ := h
      simp only [AV.put?, Option.bind_eq_some_iff, Option.map_eq_some_iff] at hput
      obtain ⟨_, _, q, _, rfl⟩ := hput
      obtain ⟨ys, h1, h2⟩ := fill_arr ps _ r trivial h
      exact ⟨ys, h1, by simpa using h2⟩
    · simp at h

theorem buildSlice_ok {n0 : Nat} (hs : Sim B E H w) (hn : n0 ≤ H.length) {t e : TypeId} {len sz : Nat} {z r : AV} {ps : List (Nat × AV)} {cps : List (Nat × Value)} (hu : P.underlying t = some (.slice e)) (hsz : tsize P e = some sz)
    (hz : zeroAV P e = some z) (hzl : z.flatLen = sz) (hsz0 : 0 < sz) (hlen : 0 < len) (hsmall : len * sz ≤ 2 ^ 20) (hp : Parts E ps cps) (hr : fillAV (fun i => some (i * sz, sz)) (.arr sz (List.replicate len z)) ps = some r) :
    ∃ cv w' E', (Instr.buildSlice t len cps.toArray).run P w = .ok cv w' ∧ Res B n0 E H w (.sl ⟨H.length, 0, [], sz * len⟩ sz len 0 len) (newBlk H r true r.refless) false E' w' cv := by
  obtain ⟨i, hi, his⟩ : ∃ i, P.info? e = some i ∧ i.size = sz := by simpa [tsize] using hsz
  subst his
  obtain ⟨i', zv, hi', hiz, hf, hrl, _⟩ := zero_spec (E := E) hz
  rw [hi] at hi'
  obtain rfl := Option.some.inj hi'
  have hzs : zv.cells.size = i.size := by
    have := hf.length
    simp only [sumLen, hzl, Nat.add_zero, Array.length_toList] at this
    exact this
  have hfa : FR E [.arr i.size (List.replicate len z)] (List.replicate len zv.cells.toList).flatten := by
    have := FR.arr (e := i.size) (vs := []) (cs := []) (FR_replicate hf len) (fun u hu => by rw [List.eq_of_mem_replicate hu]; exact hzl) .nil
    simpa using this
  obtain ⟨cells', h1, h2, h3, _⟩ := fill_ok (place' := fun j => some (j * i.size, i.size)) (fun _ _ h => h) ps cps _ r _ hp hfa hr
  have harr : ∃ xs, r = .arr i.size xs ∧ xs.length = len := by
    obtain ⟨xs, hx1, hx2⟩ := fill_arr _ _ _ trivial hr
    exact ⟨xs, hx1, by simpa using hx2⟩
  obtain ⟨xs, rfl, hxl⟩ := harr
  obtain ⟨hxs, hxe⟩ := h2.arr_inv
  have hpos : ¬ len * i.size = 0 := by
    have := Nat.mul_pos hlen hsz0
    omega
  have hrun := run_buildSlice (P := P) w t e len cps.toArray cells'.toArray i zv hu hi hiz (by omega) hpos (by
    have : (Array.range (len * i.size)).map (zv.cells[· % zv.cells.size]!) = (List.replicate len zv.cells.toList).flatten.toArray := by
      apply Array.ext'
      rw [range_zero _ _ hsz0 _ hzs]
    rw [this]
    simpa using h1)
  have hcl : cells'.length = i.size * len := by rw [hxs.length, sumLen_same hxe, hxl]
  have hres := rowSl_ok (w' := w) (t := e) (cap := len) (fl := (AV.arr i.size xs).refless) (rest := []) hs hn hxs hxe (fun h => by
    have := FR.evol0.refs_of_refless h
    simpa [AV.refs] using this) rfl (Bel.refl _ _) (by omega) (by simp [hcl, Nat.mul_comm])
  simp only [hxl, List.append_nil] at hres
  exact ⟨_, _, _, hrun, hres⟩

theorem buildSlice0_ok {n0 : Nat} (hs : Sim B E H w) (hn : n0 ≤ H.length) {t e : TypeId} {sz : Nat} (hu : P.underlying t = some (.slice e)) (hsz : tsize P e = some sz) :
    ∃ cv w' E', (Instr.buildSlice t 0 #[]).run P w = .ok cv w' ∧ Res B n0 E H w (.sl ⟨H.length, 0, [], sz * 0⟩ sz 0 0 0) (newBlk H (.arr sz []) true true) false E' w' cv := by
  have hr0 : Array.range 0 = #[] := by apply Array.ext'; simp
  have hrun : (Instr.buildSlice t 0 #[]).run P w = .ok (.slice (some ⟨w.heap.size, 0, none⟩) 0 0) (w.alloc (.cells #[] e)) := by
    simp [Instr.buildSlice, run_underlying hu, run_sizeOf' hsz, hr0, Instr.fill, newRow]
  have hres := rowSl_ok (w' := w) (t := e) (sz := sz) (cap := 0) (fl := true) (rest := []) hs hn (FR.nil) (by simp) (fun _ => rfl) rfl (Bel.refl _ _) (Nat.le_refl _) (by simp)
  exact ⟨_, _, _, hrun, hres⟩

theorem clear_ok {n0 : Nat} (hs : Sim B E H w) {argTypes : Array TypeId} {t ty : TypeId} {d v : AV} {cd : Value} {H' : Heap} (h0 : argTypes[0]? = some t) (hd : VR E d cd)
    (h : clearAV P H t d = some (v, H')) :
    ∃ c w' E', (Builtin.clear_ argTypes ty #[cd]).run P w = .ok c w' ∧ Res B n0 E H w v H' false E' w' c := by
  have hvt : ∀ E, VR E (.tuple []) (.tuple #[]) := fun E => ⟨[], rfl, rfl, fun i v c hv => by simp at hv⟩
  unfold clearAV at h
  split at h
  · rename_i d' hu
    obtain ⟨rfl, rfl⟩ := by simpa using h
    have k := (show PR E .nils cd from hd).leaf rfl
    cases k
    have hd : ∃ dd, P.underlying t = some dd := ⟨_, hu⟩
    refine ⟨.tuple #[], w, E, ?_, Res.same hs (hvt E)⟩
    obtain ⟨dd, hdd⟩ := hd
    simp [Builtin.clear_, h0, run_underlying hdd]
  · rename_i e p sz n off len hu
    simp only [Option.bind_eq_some_iff] at h
    obtain ⟨z, hz, sz', hsz, bk, hb, ⟨o, y⟩, hat, h⟩ := h
    split at h
    · rename_i e' ys hy
      simp only at hy
      subst hy
      split at h
      · rename_i hc
        obtain ⟨hg, ho, rfl, rfl, hyn, hle, hzl, hlen⟩ := hc
        simp only [Option.map_eq_some_iff, Prod.mk.injEq] at h
        obtain ⟨q, hput, rfl, rfl⟩ := h
        obtain ⟨ad, cap, rfl, hid, hcap, h2⟩ := PR.sl_inv (show PR E (.sl p _ n off len) cd from hd)
        obtain ⟨L, hL, hB, hBL, hgen⟩ := hs.at hb hg
        obtain ⟨i, zv, hi, hiz, hf, hrl, _⟩ := zero_spec (E := E) hz
        have hr0 := FR.evol0.refs_of_refless hrl
        have hzs : zv.cells.size = e' := by
          have := hf.length
          simp only [sumLen, hzl, Nat.add_zero, Array.length_toList] at this
          exact this
        have hq : ∀ x ∈ q.refs, x ∈ bk.root.refs := fun x hx => by
          rcases put_refs _ _ _ _ hput x hx with h | h
          · exact h
          · simp only [AV.refs] at h
            rcases setMany_refs x h with h | h
            · exact load_ok.at_refs _ _ _ _ hat (by simpa [AV.refs] using h)
            · simp [refsL_replicate hr0] at h
        obtain ⟨k1, k2, k3⟩ := hs.splice (P := P) (g := bk.grow) (fl := bk.flat) hb hL hat hput (FR_replicate hf len) (fun u hu => by rw [List.eq_of_mem_replicate hu]; exact hzl) (by simp; omega)
          (fun hfl => List.eq_nil_iff_forall_not_mem.2 (fun x hx => by simpa [hs.flat _ _ hb hfl] using hq x hx))
        have had : ad = ⟨L.b, L.base + p.coff + off * e', none⟩ := by
          rcases h2 L hL with h3 | ⟨_, _, _, h3⟩
          · omega
          · rcases h3 with h3 | h3
            · omega
            · exact h3
        subst had
        simp only at ho
        have hzc : (Builtin.zeroCells zv.cells len).toList = (List.replicate len zv.cells.toList).flatten := by
          unfold Builtin.zeroCells
          rcases Nat.eq_zero_or_pos e' with h0 | h0
          · subst h0
            have h1 : zv.cells = #[] := Array.eq_empty_of_size_eq_zero hzs
            rw [h1]
            simp
          · rw [← range_zero len _ (by rw [hzs]; exact h0) zv.cells rfl]
        rw [← hzc] at k1 k2 k3
        rw [ho] at k1 k2 k3
        refine ⟨.tuple #[], w.setCells L.b (L.base + p.coff + off * e') (Builtin.zeroCells zv.cells len).toList, E, ?_, k2, hvt E, k3 _, by simp, fun _ => Sub.set hb (fun _ b hb' y hy => by obtain rfl := Option.some.inj hb'; exact hq y hy)⟩
        obtain ⟨m, rfl⟩ : ∃ m, len = m + 1 := ⟨len - 1, by omega⟩
        simp [Builtin.clear_, h0, run_underlying hu, run_zeroValue' hi hiz, k1]
      · simp at h
    · simp at h
  · simp at h

theorem bytes_cells : ∀ {xs : List AV} {cells : List Value} {l : List UInt8}, FR E xs cells → bytesOf xs = some l → ∃ ns : List Int, cells = ns.map (Value.int .u8) ∧ l = ns.map fun n => UInt8.ofNat n.toNat
  | [], cells, l, hf, h => by
    cases hf
    simp only [bytesOf, Option.some.injEq] at h
    exact ⟨[], rfl, h.symm⟩
  | x :: xs, cells, l, hf, h => by
    unfold bytesOf at h
    split at h
    · simp at *
    · rename_i n r heq
      obtain ⟨rfl, rfl⟩ := by simpa using heq
      simp only [Option.map_eq_some_iff] at h
      obtain ⟨l', hl, rfl⟩ := h
      cases hf with
      | int hf =>
      obtain ⟨ns, rfl, rfl⟩ := bytes_cells hf hl
      exact ⟨n :: ns, rfl, rfl⟩
    · simp at h

theorem bytes_back {n0 : Nat} (hs : Sim B E H w) {src dst e : TypeId} {x : AV} {cx : Value} {xs : List AV} {l : List UInt8} (hx : VR E x cx) (hxs : elemsAV H 1 x = some xs) (hl : bytesOf xs = some l)
    (hsl : P.underlying src = some (.slice e)) (hd : P.underlying dst = some .string) (hu8 : P.underlying e = some (.int .u8)) :
    ∃ c w' E', (convert src dst cx).run P w = .ok c w' ∧ Res B n0 E H w (.str ⟨l.toArray⟩) H false E' w' c := by
  obtain ⟨cells, hsrc⟩ := src_ok (P := P) hs hx hxs
  obtain ⟨ns, hns, hln⟩ := bytes_cells hsrc.fr hl
  have hstr : (⟨l.toArray⟩ : ByteArray) = ns.foldl (fun r n => r.push (UInt8.ofNat n.toNat)) ByteArray.empty := by
    rw [foldl_push_bytes, hln]
    simp [ByteArray.empty, ByteArray.emptyWithCapacity]
    rfl
  have hlen : ns.length = xs.length := by
    have := hsrc.fr.length
    rw [hns, sumLen_same hsrc.each] at this
    simpa using this
  have hfirst := hsrc.first w rfl xs.length (Nat.le_refl _)
  have hct : cells.take (xs.length * 1) = cells := by
    rw [List.take_of_length_le]
    rw [hns]; simp [hlen]
  rw [hct] at hfirst
  refine ⟨.string ⟨l.toArray⟩, w, E, ?_, Res.same hs VR.str⟩
  rw [hstr]
  cases x <;> simp only [elemsAV, reduceCtorEq] at hxs
  · have k := (show PR E .nils cx from hx).leaf rfl
    cases k
    obtain rfl := Option.some.inj hxs
    have : ns = [] := List.eq_nil_of_length_eq_zero (by simpa using hlen)
    subst this
    exact run_convert_bytes_nil w src e hsl hu8 0 0 dst hd
  · obtain ⟨a, cap, rfl, _, _, _⟩ := PR.sl_inv (show PR E (.sl _ _ _ _ _) cx from hx)
    have hl' := hsrc.len w
    simp only [Builtin.lenOf, Sem.run_pure, Result.ok.injEq, and_true] at hl'
    subst hl'
    rw [run_convert_bytes_string w src dst e _ _ cap hsl hu8 hd]
    refine run_bytesToString w a _ cap ns ?_
    rw [← hns]
    simpa [Builtin.firstCells] using hfirst
  · obtain ⟨b, o, sp, c1, cap, rfl, _⟩ := PR.isl_inv (show PR E (.isl _ _) cx from hx)
    have hl' := hsrc.len w
    simp only [Builtin.lenOf, Sem.run_pure, Result.ok.injEq, and_true] at hl'
    rw [run_convert_bytes_string w src dst e _ _ cap hsl hu8 hd]
    refine run_bytesToString w _ _ cap ns ?_
    rw [← hns, hl']
    simpa [Builtin.firstCells] using hfirst

theorem convert_ok {n0 : Nat} (hs : Sim B E H w) (hn : n0 ≤ H.length) {src dst : TypeId} {x v : AV} {cx : Value} {H' : Heap} (hx : VR E x cx) (h : convertAV P H src dst x = some (v, H')) :
    ∃ c w' E', (convert src dst cx).run P w = .ok c w' ∧ Res B n0 E H w v H' false E' w' c := by
  unfold convertAV at h
  split at h
  · rename_i d k k' n hs' hd
    obtain ⟨rfl, rfl⟩ := by simpa using h
    obtain rfl := hx.int_inv
    exact ⟨_, w, E, by simp [convert, run_underlying hs', run_underlying hd, Conv.intToInt], Res.same hs VR.int⟩
  · rename_i s hs' hd
    obtain ⟨rfl, rfl⟩ := by simpa using h
    obtain rfl := hx.str_inv
    exact ⟨_, w, E, by simp [convert, run_underlying hs', run_underlying hd], Res.same hs VR.str⟩
  · rename_i e s hs' hd
    split at h
    · rename_i hu8
      split at h
      · rename_i hsz
        obtain ⟨rfl, rfl⟩ := by simpa using h
        obtain rfl := hx.str_inv
        have hr := run_bytes_of_string (P := P) w src dst e s hs' hd hu8
        have hge := grownCap_ge w s.size 0 e
        generalize grownCap w s.size 0 e = gc at *
        have hbl : (strAV s).length = s.size := by
          simp only [strAV, List.length_map, Array.length_toList]
          rfl
        have hbr : bytesRow s gc = ((s.data.toList.map fun (b : UInt8) => Value.int .u8 b.toNat) ++ List.replicate (gc - s.size) (Value.int .u8 0)).toArray := by
          unfold bytesRow
          apply Array.ext'
          simp
        rw [hbr] at hr
        have hcl : (s.data.toList.map fun (b : UInt8) => Value.int .u8 b.toNat).length = s.size := by
          simp only [List.length_map, Array.length_toList]
          rfl
        have hres := rowSl_ok (w' := w.drew) (t := e) (sz := 1) (cap := gc) (fl := true) (fr := (((s.data.toList.map fun (b : UInt8) => Value.int .u8 b.toNat) ++ List.replicate (gc - s.size) (Value.int .u8 0)).toArray.size, ((s.data.toList.map fun (b : UInt8) => Value.int .u8 b.toNat) ++ List.replicate (gc - s.size) (Value.int .u8 0)).toArray.size + 1))
          hs hn (show FR E (strAV s) _ from FR_bytes s.data.toList) (fun u hu => by simp only [strAV, List.mem_map] at hu; obtain ⟨b, _, rfl⟩ := hu; rfl) (fun _ => refsL_str s.data.toList) rfl (below_drew w) (by rw [hbl]; exact hge)
          (rest := List.replicate (gc - s.size) (Value.int .u8 0)) (by rw [hcl]; simp; omega) (.inr (by simp only [List.size_toArray, List.length_append, hcl, List.length_replicate]; omega))
        rw [hbl] at hres
        simp only [Nat.one_mul] at hres
        exact ⟨_, _, _, hr, hres⟩
      · simp at h
    · simp at h
  · rename_i hsl hd
    split at h
    · rename_i hu8
      simp only [Option.bind_eq_some_iff, Option.map_eq_some_iff, Prod.mk.injEq] at h
      obtain ⟨xs, hxs, l, hl, rfl, rfl⟩ := h
      exact bytes_back hs hx hxs hl hsl hd hu8
    · simp at h
  · simp at h
where
  refsL_str : ∀ (l : List UInt8), refsL (l.map fun (b : UInt8) => AV.int .u8 b.toNat) = []
    | [] => rfl
    | b :: l => by simp [refsL, AV.refs, refsL_str l]
end
end Go.X
/-
  Values frozen: a block that nobody writes any more becomes a value.
-/
namespace Go.X
open Go.RowKit (Below)

section
variable {P : Program} {B : Nat} {E E' : Env} {H : Heap} {w w' : World}

/-- Where a slice's elements lie. -/
theorem sl_where (hs : Sim B E H w) {p : Pl} {e n off len sz : Nat} {xs : List AV} {cx : Value} (hx : PR E (.sl p e n off len) cx) (h : elemsAV H sz (.sl p e n off len) = some xs) :
    ∃ a cap L cells, cx = .slice (some a) len cap ∧ a.spot = none ∧ len ≤ cap ∧ E.loc p.id = some L ∧ FR E xs cells ∧ (∀ u ∈ xs, u.flatLen = sz) ∧ xs.length = len ∧ e = sz ∧
      ∀ j c, cells[j]? = some c → a.block = L.b ∧ L.base ≤ a.off + j ∧ a.off + j < L.base + L.gen ∧ w.cell? ⟨a.block, a.off + j, none⟩ = some c := by
  simp only [elemsAV, Option.bind_eq_some_iff] at h
  obtain ⟨bk, hb, ⟨o, y⟩, hat, h⟩ := h
  split at h
  · rename_i e' ys hy
    simp only at hy
    subst hy
    split at h
    · rename_i hc
      obtain ⟨hg, ho, rfl, rfl, hn, hle⟩ := hc
      obtain rfl := Option.some.inj h
      obtain ⟨ad, cap, rfl, h1, hcap, h2⟩ := PR.sl_inv hx
      have hsp := PR.sl_spot hx
      obtain ⟨L, hL, hB, _, hgen⟩ := hs.at hb hg
      obtain ⟨cs, hf, hlen, hcells⟩ := hB.cs
      obtain ⟨pre, mid, post, rfl, hpre, hm⟩ := at_spec p.path _ _ _ _ hf hat
      obtain ⟨hys, hye⟩ := hm.arr_inv
      have hsplit : ys = ys.take off ++ ((ys.drop off).take len ++ (ys.drop off).drop len) := by rw [List.take_append_drop, List.take_append_drop]
      rw [hsplit] at hys
      obtain ⟨c0, c2, rfl, k0, k1⟩ := hys.append_inv
      obtain ⟨c3, c4, rfl, k2, k3⟩ := k1.append_inv
      have hl0 : c0.length = off * e' := by
        rw [k0.length, sumLen_same (fun x hx => hye x (List.mem_of_mem_take hx))]
        simp [Nat.min_eq_left (show off ≤ ys.length by omega), Nat.mul_comm]
      have hll : ((ys.drop off).take len).length = len := by simp; omega
      have hsame : ∀ u ∈ (ys.drop off).take len, u.flatLen = e' := fun u hu => hye u (List.mem_of_mem_drop (List.mem_of_mem_take hu))
      have hl3 : c3.length = len * e' := by rw [k2.length, sumLen_same hsame, hll, Nat.mul_comm]
      refine ⟨ad, cap, L, c3, rfl, hsp, hcap, hL, k2, hsame, hll, rfl, fun j c hj => ?_⟩
      have hjl : j < c3.length := by
        rcases Nat.lt_or_ge j c3.length with h | h
        · exact h
        · simp [List.getElem?_eq_none h] at hj
      rcases h2 L hL with h3 | ⟨h3, _, _, h4⟩
      · omega
      · rcases h4 with h4 | rfl
        · have h0 : len = 0 := by omega
          rw [h0, Nat.zero_mul] at hl3
          omega
        · simp only at ho
          have htot : pre.length + (c0.length + (c3.length + c4.length)) + post.length = L.gen := by rw [← hlen]; simp; omega
          have := hcells (p.coff + off * e' + j) c (by
            rw [← ho, ← hpre, ← hl0]
            rw [List.append_assoc, List.getElem?_append_right (by omega), List.getElem?_append_left (by simp; omega), List.getElem?_append_right (by omega), List.getElem?_append_left (by omega)]
            rw [show pre.length + c0.length + j - pre.length - c0.length = j by omega]
            exact hj)
          refine ⟨rfl, by simp only; omega, by simp only; omega, ?_⟩
          simp only
          rw [show L.base + p.coff + off * e' + j = L.base + (p.coff + off * e' + j) by omega]
          exact this
    · simp at h
  · simp at h

/-- What a freezing comes to. -/
structure Frz (B n0 : Nat) (E : Env) (H : Heap) (w : World) (E' : Env) (H' : Heap) : Prop where
  sim : Sim B E' H' w
  tr : Tr B H.length E w E' w
  len : H'.length = H.length
  sub : Sub n0 H H'
  fr : ∀ us ds, FR E us ds → FR E' us ds

theorem Frz.refl {n0 : Nat} (hs : Sim B E H w) : Frz B n0 E H w E H := ⟨hs, Tr.refl _ _ _ _, rfl, Sub.refl _ _, fun _ _ h => h⟩
theorem Frz.trans {n0 : Nat} {E1 E2 : Env} {H1 H2 : Heap} (h : Frz B n0 E H w E1 H1) (g : Frz B n0 E1 H1 w E2 H2) : Frz B n0 E H w E2 H2 :=
  ⟨g.sim, h.tr.trans (h.len ▸ g.tr), g.len.trans h.len, h.sub.trans g.sub, fun us ds k => g.fr us ds (h.fr us ds k)⟩

def Env.kill (E : Env) (w : World) (i : Nat) (L : Loc) : Env :=
  ⟨fun j => if j = i then none else E.loc j, fun b o => match E.m b o with | some c => some c | none => if L.b = b ∧ L.base ≤ o ∧ o < L.base + L.gen then w.cell? ⟨b, o, none⟩ else none, E.top, E.mloc, E.yl⟩

theorem kill_ok {n0 : Nat} (hs : Sim B E H w) {i : Nat} {L : Loc} (hL : E.loc i = some L) (hi : n0 ≤ i) : Frz B n0 E H w (E.kill w i L) (H.set i none) := by
  have hlt := hs.lt hL
  obtain ⟨bk, hb⟩ := hs.dead i L hL
  obtain ⟨L', hL', hB, _⟩ := hs.live i bk hb
  obtain rfl : L = L' := by rw [hL] at hL'; exact Option.some.inj hL'
  have hfit := hB.fits
  have hblk : ∀ j, Heap.blk (H.set i none) j = if i = j then none else H.blk j := fun j => Heap.blk_set hlt noMap_none
  have hless := hs.less (E' := E.kill w i L) (H' := H.set i none) (by simp [Env.kill, hs.top]) (fun j bk' hj => by
      rw [hblk] at hj
      split at hj
      · simp at hj
      · obtain ⟨Lj, _, hBj, _⟩ := hs.live j bk' hj
        exact ⟨hj, hBj.refs_lt⟩) (fun j => by
      rw [hblk]
      simp only [Env.kill]
      by_cases hij : j = i
      · simp [hij]
      · have hji : ¬ i = j := fun e => hij e.symm
        simp only [if_neg hij, if_neg hji]
        cases hj : H.blk j with
        | some b => simp
        | none =>
          simp only [Option.isSome_none, Bool.false_eq_true, if_false]
          cases hl : E.loc j with
          | none => rfl
          | some Lj =>
            obtain ⟨b, hb'⟩ := hs.dead j Lj hl
            rw [hj] at hb'
            simp at hb') (fun j es he => by
      rw [Heap.mp_set hlt noMap_none] at he
      split at he
      · cases he
      · exact he) (fun j => by
      rw [Heap.mp_set hlt noMap_none]
      simp only [Env.kill]
      cases hj : E.mloc j with
      | none => simp
      | some b =>
        obtain ⟨es, he⟩ := hs.mdead j b hj
        have hij : ¬ i = j := fun e => by
          subst e
          rw [Heap.mp_blk hb] at he
          cases he
        simp [hij, he]) (fun b o c hc => by simp [Env.kill, hc]) (fun b o c hc => by
      have hnin : ∀ {P : Prop}, (InE E b o → P) → InE (E.kill w i L) b o → P := fun f ⟨j, Lj, hj, hh⟩ => by
        simp only [Env.kill] at hj
        split at hj
        · simp at hj
        · exact f ⟨j, Lj, hj, hh⟩
      simp only [Env.kill] at hc
      split at hc
      · rename_i c' hm
        obtain rfl := Option.some.inj hc
        exact ⟨hs.imm b o _ hm, fun hin => hnin (hs.immApart b o _ hm) hin⟩
      · split at hc
        · rename_i hr
          refine ⟨hc, fun ⟨j, Lj, hj, hh⟩ => ?_⟩
          simp only [Env.kill] at hj
          split at hj
          · simp at hj
          · rename_i hji
            exact hs.apart i j L Lj hL hj (fun e => hji e.symm) b o ⟨hr.1, hr.2.1, by omega⟩ hh
        · simp at hc) (fun b o c hc => by
      simp only [Env.kill] at hc
      split at hc
      · rename_i c' hm
        obtain rfl := Option.some.inj hc
        exact .inl hm
      · split at hc
        · rename_i hr
          exact .inr ⟨i, L, hL, hr.1, hr.2.1, by omega⟩
        · simp at hc)
  refine ⟨hless.1, hless.2 _, by simp, Sub.set hb (fun h _ _ => by omega), fun us ds h => ?_⟩
  exact h.later (hless.2 E.top).evol (Nat.le_refl _)

mutual
theorem freezeAV_ok {n0 : Nat} : ∀ (v : AV) (E : Env) (H : Heap) (v' : AV) (H' : Heap) (cs : List Value), Sim B E H w → FR E [v] cs → freezeAV n0 v H = some (v', H') →
    ∃ E', Frz B n0 E H w E' H' ∧ FR E' [v'] cs ∧ v'.flatLen = v.flatLen
  | .sl p e n off len, E, H, v', H', cs, hs, hf, h => by
    simp only [freezeAV] at h
    split at h
    · simp at h
    · rename_i hid
      simp only [Option.bind_eq_some_iff] at h
      obtain ⟨xs, hxs, h⟩ := h
      split at h
      · rename_i hr
        obtain ⟨rfl, rfl⟩ := by simpa using h
        simp only [Bool.and_eq_true, decide_eq_true_eq] at hr
        obtain ⟨c, rfl, hp⟩ := hf.one_leaf rfl
        obtain ⟨a, cap, L, cells, rfl, hsp, hcap, hL, hfx, hex, hlx, _, hwh⟩ := sl_where hs (show PR E (.sl p e n off len) c from ⟨[c], hf, hp.symm⟩) hxs
        have hk := kill_ok (n0 := n0) hs hL (by omega)
        refine ⟨_, hk, ?_, rfl⟩
        obtain ⟨ab, ao, as⟩ := a
        simp only at hsp
        subst hsp
        rw [← hlx]
        refine .isl hr.1 (hk.fr _ _ hfx) hex (by omega) (fun j c hj => ?_) (.inl rfl) .nil
        obtain ⟨h1, h2, h3, h4⟩ := hwh j c hj
        simp only at h1 h2 h3 h4
        simp only [Env.kill]
        split
        · rename_i c' hm
          rw [← hs.imm _ _ _ hm]
          exact h4
        · rw [if_pos ⟨h1.symm, h2, h3⟩]
          exact h4
      · simp at h
  | .agg n ps, E, H, v', H', cs, hs, hf, h => by
    simp only [freezeAV, Option.map_eq_some_iff, Prod.exists, Prod.mk.injEq] at h
    obtain ⟨ps', H1, h1, rfl, rfl⟩ := h
    obtain ⟨hps, hn⟩ := hf.agg_inv
    obtain ⟨E', k1, k2, k3⟩ := freezeL_ok ps E H ps' H1 cs hs hps h1
    refine ⟨E', k1, ?_, rfl⟩
    have := FR.agg (n := n) (vs := []) (cs := []) k2 hn .nil
    simpa using this
  | .arr e xs, E, H, v', H', cs, hs, hf, h => by
    simp only [freezeAV] at h
    split at h
    · obtain ⟨rfl, rfl⟩ := by simpa using h
      exact ⟨E, Frz.refl hs, hf, rfl⟩
    · simp only [Option.map_eq_some_iff, Prod.exists, Prod.mk.injEq] at h
      obtain ⟨xs', H1, h1, rfl, rfl⟩ := h
      obtain ⟨hxs, he⟩ := hf.arr_inv
      obtain ⟨E', k1, k2, k3⟩ := freezeL_ok xs E H xs' H1 cs hs hxs h1
      have hl : xs'.length = xs.length := by rw [← List.length_map (f := AV.flatLen), k3, List.length_map]
      refine ⟨E', k1, ?_, by simp [AV.flatLen, hl]⟩
      have := FR.arr (e := e) (vs := []) (cs := []) k2 (fun x hx => by
        have : x.flatLen ∈ xs'.map AV.flatLen := List.mem_map_of_mem hx
        rw [k3] at this
        obtain ⟨y, hy, hyx⟩ := List.mem_map.1 this
        rw [← hyx]
        exact he y hy) .nil
      simpa using this
  | .bad, E, H, v', H', cs, hs, hf, h | .int _ _, E, H, v', H', cs, hs, hf, h | .bool _, E, H, v', H', cs, hs, hf, h | .str _, E, H, v', H', cs, hs, hf, h | .nilp, E, H, v', H', cs, hs, hf, h
  | .sptr _ _ _ _ _, E, H, v', H', cs, hs, hf, h | .ptr _, E, H, v', H', cs, hs, hf, h | .iptr _, E, H, v', H', cs, hs, hf, h | .nils, E, H, v', H', cs, hs, hf, h | .isl _ _, E, H, v', H', cs, hs, hf, h | .nilm, E, H, v', H', cs, hs, hf, h
  | .map _, E, H, v', H', cs, hs, hf, h | .func _ _ _, E, H, v', H', cs, hs, hf, h | .nilf, E, H, v', H', cs, hs, hf, h | .hnd _ _, E, H, v', H', cs, hs, hf, h | .iface _ _, E, H, v', H', cs, hs, hf, h | .nili, E, H, v', H', cs, hs, hf, h
  | .tuple _, E, H, v', H', cs, hs, hf, h => by
    obtain ⟨rfl, rfl⟩ := by simpa [freezeAV] using h
    exact ⟨E, Frz.refl hs, hf, rfl⟩
theorem freezeL_ok {n0 : Nat} : ∀ (vs : List AV) (E : Env) (H : Heap) (vs' : List AV) (H' : Heap) (cs : List Value), Sim B E H w → FR E vs cs → freezeL n0 vs H = some (vs', H') →
    ∃ E', Frz B n0 E H w E' H' ∧ FR E' vs' cs ∧ vs'.map AV.flatLen = vs.map AV.flatLen
  | [], E, H, vs', H', cs, hs, hf, h => by
    obtain ⟨rfl, rfl⟩ := by simpa [freezeL] using h
    exact ⟨E, Frz.refl hs, hf, rfl⟩
  | v :: vs, E, H, vs', H', cs, hs, hf, h => by
    simp only [freezeL, Option.bind_eq_some_iff, Option.map_eq_some_iff, Prod.exists, Prod.mk.injEq] at h
    obtain ⟨v1, H1, h1, vs2, H2, h2, rfl, rfl⟩ := h
    obtain ⟨c1, c2, rfl, k1, k2⟩ := hf.cons_inv
    obtain ⟨E1, g1, g2, g3⟩ := freezeAV_ok v E H v1 H1 c1 hs k1 h1
    obtain ⟨E2, g4, g5, g6⟩ := freezeL_ok vs E1 H1 vs2 H2 c2 g1.sim (g1.fr _ _ k2) h2
    exact ⟨E2, g1.trans g4, FR.cons (g4.fr _ _ g2) g5, by simp [g3, g6]⟩
end

end
end Go.X
