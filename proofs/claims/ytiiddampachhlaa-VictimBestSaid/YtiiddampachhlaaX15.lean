/-
  copy, clear, slices made, conversions; values frozen.
-/
import Derived.Test.YtiiddampachhlaaX14
import Derived.Laws.IdiomStrings
import Derived.Laws.BytesArg
namespace Go.X
open Go.RowKit (Below)

section
variable {P : Program} {B : Nat} {E E' : Env} {H : Heap} {w w' : World}

theorem FR.take_each {sz k : Nat} {xs : List AV} {cells : List Value} (hf : FR E xs cells) (hx : ∀ u ∈ xs, u.flatLen = sz) (hk : k ≤ xs.length) : FR E (xs.take k) (cells.take (k * sz)) := by
  have h1 : xs = xs.take k ++ xs.drop k := (List.take_append_drop k xs).symm
  rw [h1] at hf
  obtain ⟨c0, c1, rfl, k0, k1⟩ := hf.append_inv
  have hl : c0.length = k * sz := by
    rw [k0.length, sumLen_same (fun x hx' => hx x (List.mem_of_mem_take hx'))]
    simp [Nat.min_eq_left hk, Nat.mul_comm]
  rw [← hl, List.take_left]
  exact k0

theorem srcAV_ok (hs : Sim B E H w) {sz : Nat} {x : AV} {xs : List AV} {cx : Value} (hx : VR E x cx) (h : srcAV H sz x = some xs) : ∃ cells, Src P E w sz xs cx cells := by
  unfold srcAV at h
  split at h
  · split at h
    · rename_i h1
      subst h1
      obtain rfl := Option.some.inj h
      exact src_str hx
    · simp at h
  · exact src_ok hs hx h

theorem copy_ok {n0 : Nat} (hs : Sim B E H w) {argTypes : Array TypeId} {t ty : TypeId} {d s v : AV} {cd cx : Value} {H' : Heap} (h0 : argTypes[0]? = some t) (hd : VR E d cd) (hx : VR E s cx)
    (h : copyAV P H t d s = some (v, H')) :
    ∃ c w' E', (Builtin.copy_ argTypes ty #[cd, cx]).run P w = .ok c w' ∧ Res B n0 E H w v H' (copyFlag n0 H' d) E' w' c := by
  unfold copyAV at h
  split at h
  · rename_i e hu
    simp only [Option.bind_eq_some_iff] at h
    obtain ⟨sz, hsz, xs, hxs, h⟩ := h
    obtain ⟨cells, hsrc⟩ := srcAV_ok (P := P) hs hx hxs
    split at h
    · obtain ⟨rfl, rfl⟩ := by simpa using h
      have k := (show PR E .nils cd from hd).leaf rfl
      cases k
      refine ⟨.int .i64 0, w, E, ?_, Res.same hs VR.int⟩
      have hf := hsrc.first w rfl 0 (Nat.zero_le _)
      simp [Builtin.copy_, h0, run_underlying hu, hsrc.len w, run_sizeOf' hsz, hf, goInt]
    · rename_i p e1 n off len
      simp only [Option.bind_eq_some_iff] at h
      obtain ⟨bk, hb, ⟨o, y⟩, hat, h⟩ := h
      split at h
      · rename_i e' ys hy
        simp only at hy
        subst hy
        split at h
        · rename_i hc
          obtain ⟨hg, ho, rfl, rfl, hyn, hle, hall⟩ := hc
          simp only [Option.map_eq_some_iff, Prod.mk.injEq] at h
          obtain ⟨q, hput, rfl, rfl⟩ := h
          obtain ⟨ad, cap, rfl, hid, hcap, h2⟩ := PR.sl_inv (show PR E (.sl p e' n off len) cd from hd)
          obtain ⟨L, hL, hB, hBL, hgen⟩ := hs.at hb hg
          have hk : min xs.length len ≤ xs.length := Nat.min_le_left _ _
          have hk2 : min xs.length len ≤ len := Nat.min_le_right _ _
          have hfk := hsrc.fr.take_each hsrc.each hk
          have hq : ∀ x ∈ q.refs, x ∈ bk.root.refs ∨ x ∈ refsL xs := fun x hx => by
            rcases put_refs _ _ _ _ hput x hx with h | h
            · exact .inl h
            · simp only [AV.refs] at h
              rcases setMany_refs x h with h | h
              · exact .inl (load_ok.at_refs _ _ _ _ hat (by simpa [AV.refs] using h))
              · exact .inr (setMany_refs.refsL_sub (fun y hy => List.mem_of_mem_take hy) x h)
          have hfl : (bk.flat && reflessL xs) = true → q.refs = [] := fun hf => by
            simp only [Bool.and_eq_true] at hf
            refine List.eq_nil_iff_forall_not_mem.2 (fun x hx => ?_)
            rcases hq x hx with h | h
            · simp [hs.flat _ _ hb hf.1] at h
            · simp [FR.evol.refsL_of_refless hf.2] at h
          obtain ⟨k1, k2, k3⟩ := hs.splice (P := P) (g := bk.grow) hb hL hat hput hfk (fun u hu => hsrc.each u (List.mem_of_mem_take hu)) (by simp; omega) hfl
          simp only at ho
          have hfirst := hsrc.first w rfl (min xs.length len) hk
          have hst : (storeCells ad (cells.take (min xs.length len * e'))).run P w = .ok () (w.setCells L.b (L.base + o + off * e') (cells.take (min xs.length len * e'))) := by
            rcases h2 L hL with h3 | ⟨_, _, _, h3⟩
            · omega
            · rcases h3 with h3 | rfl
              · have : min xs.length len = 0 := by omega
                simp [this, storeCells, World.setCells]
              · rw [ho] at k1 ⊢
                exact k1
          refine ⟨.int .i64 (min xs.length len : Nat), _, E, ?_, k2, VR.int, k3 _, by simp, fun he => ?_⟩
          · simp only [Nat.min_def] at hfirst hst ⊢
            simp [Builtin.copy_, h0, run_underlying hu, hsrc.len w, run_sizeOf' hsz, Nat.min_def, hfirst, hst, goInt]
          · refine Sub.set hb (fun hlt b hb' y hy => ?_)
            obtain rfl := Option.some.inj hb'
            simp only [copyFlag, Heap.blk_set (Heap.blk_some hb), if_true, hlt, decide_true, Bool.true_and, Bool.not_eq_false', Bool.and_eq_true] at he
            rcases hq y hy with h | h
            · exact h
            · simp [FR.evol.refsL_of_refless he.2] at h
        · simp at h
      · simp at h
    · simp at h
  · simp at h

theorem range_zero (n s : Nat) (hs : 0 < s) (z : Array Value) (hz : z.size = s) : ((Array.range (n * s)).map (z[· % z.size]!)).toList = (List.replicate n z.toList).flatten := by
  subst hz
  apply List.ext_getElem?
  intro j
  have hlen : (List.replicate n z.toList).flatten.length = n * z.size := by simp
  by_cases hj : j < n * z.size
  · have h1 : ((Array.range (n * z.size)).map (z[· % z.size]!)).toList[j]? = some z[j % z.size]! := by
      simp [hj]
    rw [h1]
    have hm : j % z.size < z.size := Nat.mod_lt _ hs
    rw [getElem!_pos z _ hm]
    induction n generalizing j with
    | zero => simp at hj
    | succ n ih =>
      rw [List.replicate_succ, List.flatten_cons]
      rcases Nat.lt_or_ge j z.size with h | h
      · rw [List.getElem?_append_left (by simpa using h)]
        have e : j % z.size = j := Nat.mod_eq_of_lt h
        simp [e, h]
      · rw [List.getElem?_append_right (by simpa using h)]
        have e : (j - z.size) % z.size = j % z.size := by
          conv => rhs; rw [show j = (j - z.size) + z.size by omega, Nat.add_mod_right]
        have := ih (j - z.toList.length) (by simp) (by simp [Nat.add_mul] at hj ⊢; omega) (by
          have : j - z.size < n * z.size := by rw [Nat.add_mul] at hj; omega
          simp [this]) (by simpa [e] using hm)
        simp only [Array.length_toList] at this
        simp only [e] at this
        simpa using this
  · rw [List.getElem?_eq_none (by simp; omega), List.getElem?_eq_none (by simp; omega)]

theorem FR_replicate {z : AV} {cs : List Value} (h : FR E [z] cs) : ∀ n, FR E (List.replicate n z) (List.replicate n cs).flatten
  | 0 => .nil
  | n + 1 => by
    rw [List.replicate_succ, List.replicate_succ, List.flatten_cons]
    exact FR.cons h (FR_replicate h n)

theorem refsL_replicate {z : AV} (h : z.refs = []) : ∀ n, refsL (List.replicate n z) = []
  | 0 => rfl
  | n + 1 => by rw [List.replicate_succ]; simp [refsL, h, refsL_replicate h n]

theorem makeSlice_ok {n0 : Nat} (hs : Sim B E H w) (hn : n0 ≤ H.length) {t e : TypeId} {l c sz by_ : Nat} {al ac z : AV} {cl cc : Value} (hu : P.underlying t = some (.slice e)) (hsz : tsize P e = some sz) (hby : tbytes P e = some by_)
    (hl : VR E al cl) (hl' : al.idx = some l) (hc : VR E ac cc) (hc' : ac.idx = some c) (hz : zeroAV P e = some z) (hle : l ≤ c) (hm1 : c * by_ ≤ maxBytes) (hm2 : c ≤ maxBytes) (hzl : z.flatLen = sz) (hsz0 : 0 < sz) :
    ∃ cv w' E', (Instr.makeSlice t cl cc).run P w = .ok cv w' ∧ Res B n0 E H w (.sl ⟨H.length, 0, [], sz * l⟩ sz l 0 l) (newBlk H (.arr sz (List.replicate l z)) true true) false E' w' cv := by
  obtain ⟨kl, nl, rfl, hl0, rfl⟩ := idx_ok hl hl'
  obtain ⟨kc, nc, rfl, hc0, rfl⟩ := idx_ok hc hc'
  obtain ⟨i, hi, his, hib⟩ := tinfo hsz hby
  subst his hib
  obtain ⟨i', zv, hi', hiz, hf, hrl, _⟩ := zero_spec (E := E) hz
  rw [hi] at hi'
  obtain rfl := Option.some.inj hi'
  have hzs : zv.cells.size = i.size := by
    have := hf.length
    simp only [sumLen, hzl, Nat.add_zero, Array.length_toList] at this
    exact this
  have hmb : maxBytes = 70368744177664 := rfl
  have e1 : IntKind.i64.wrap nl = nl := by simp only [IntKind.wrap, IntKind.bits, IntKind.signed]; simp; omega
  have e2 : IntKind.i64.wrap nc = nc := by simp only [IntKind.wrap, IntKind.bits, IntKind.signed]; simp; omega
  have hb1 : ¬ (281474976710656 < (i.bytes : Int) * nc) := by
    have : (i.bytes : Int) * nc = ((nc.toNat * i.bytes : Nat) : Int) := by rw [Int.natCast_mul, Int.toNat_of_nonneg hc0, Int.mul_comm]
    rw [this]; omega
  have hr : (Instr.makeSlice t (.int kl nl) (.int kc nc)).run P w = .ok (.slice (some ⟨w.heap.size, 0, none⟩) nl.toNat nc.toNat)
      (w.alloc (.cells ((Array.range (nc.toNat * i.size)).map (zv.cells[· % zv.cells.size]!)) e)) := by
    have h3 : ¬ (nc < 0) := by omega
    have h4 : ¬ (nl < 0) := by omega
    have h5 : ¬ (nl > nc) := by omega
    by_cases h0 : nc.toNat * i.size = 0
    · simp [Instr.makeSlice, run_underlying hu, asInt, asIntOf, typeInfo, sizeOf, hi, e1, e2, hb1, h3, h4, h5, h0, newRow]
      have hr0 : Array.range 0 = #[] := by apply Array.ext'; simp
      simp [hr0]
    · simp [Instr.makeSlice, run_underlying hu, asInt, asIntOf, typeInfo, sizeOf, zeroValue, hi, hiz, e1, e2, hb1, h3, h4, h5, h0, newRow]
  have hcells : ((Array.range (nc.toNat * i.size)).map (zv.cells[· % zv.cells.size]!)) = ((List.replicate nl.toNat zv.cells.toList).flatten ++ (List.replicate (nc.toNat - nl.toNat) zv.cells.toList).flatten).toArray := by
    apply Array.ext'
    rw [range_zero _ _ hsz0 _ hzs, ← List.flatten_append, List.replicate_append_replicate]
    congr 2
    omega
  rw [hcells] at hr
  have hres := rowSl_ok (w' := w) (t := e) (sz := i.size) (cap := nc.toNat) (fl := true) hs hn (FR_replicate hf nl.toNat) (fun u hu => by rw [List.eq_of_mem_replicate hu]; exact hzl) (fun _ => refsL_replicate (FR.evol.refs_of_refless hrl) _) rfl (Below.refl _ _) (by simpa using hle)
    (rest := (List.replicate (nc.toNat - nl.toNat) zv.cells.toList).flatten) (by simp [hzs, ← Nat.add_mul]; congr 1; omega)
  simp only [List.length_replicate] at hres
  exact ⟨_, _, _, hr, hres⟩

theorem fill_arr {place : Nat → Option (Nat × Nat)} {e : Nat} : ∀ (ps : List (Nat × AV)) (xs : List AV) (r : AV) (_ : True), fillAV place (.arr e xs) ps = some r → ∃ ys, r = .arr e ys ∧ ys.length = xs.length
  | [], xs, r, _, h => by
    simp only [fillAV, Option.some.injEq] at h
    exact ⟨xs, h.symm, rfl⟩
  | (i, v) :: ps, xs, r, _, h => by
    simp only [fillAV, Option.bind_eq_some_iff] at h
    obtain ⟨x, _, y, _, h⟩ := h
    split at h
    · simp only [Option.bind_eq_some_iff] at h
      obtain ⟨acc, hput, h⟩ := h
      simp only [AV.put?, Option.bind_eq_some_iff, Option.map_eq_some_iff] at hput
      obtain ⟨_, _, q, _, rfl⟩ := hput
      obtain ⟨ys, h1, h2⟩ := fill_arr ps _ r trivial h
      exact ⟨ys, h1, by simpa using h2⟩
    · simp at h

theorem buildSlice_ok {n0 : Nat} (hs : Sim B E H w) (hn : n0 ≤ H.length) {t e : TypeId} {len sz : Nat} {z r : AV} {ps : List (Nat × AV)} {cps : List (Nat × Value)} (hu : P.underlying t = some (.slice e)) (hsz : tsize P e = some sz)
    (hz : zeroAV P e = some z) (hzl : z.flatLen = sz) (hsz0 : 0 < sz) (hlen : 0 < len) (hsmall : len * sz ≤ 2 ^ 20) (hp : Parts E ps cps) (hr : fillAV (fun i => some (i * sz, sz)) (.arr sz (List.replicate len z)) ps = some r) :
    ∃ cv w' E', (Instr.buildSlice t len cps.toArray).run P w = .ok cv w' ∧ Res B n0 E H w (.sl ⟨H.length, 0, [], sz * len⟩ sz len 0 len) (newBlk H r true r.refless) false E' w' cv := by
  obtain ⟨i, hi, his⟩ : ∃ i, P.info? e = some i ∧ i.size = sz := by simpa [tsize] using hsz
  subst his
  obtain ⟨i', zv, hi', hiz, hf, hrl, _⟩ := zero_spec (E := E) hz
  rw [hi] at hi'
  obtain rfl := Option.some.inj hi'
  have hzs : zv.cells.size = i.size := by
    have := hf.length
    simp only [sumLen, hzl, Nat.add_zero, Array.length_toList] at this
    exact this
  have hfa : FR E [.arr i.size (List.replicate len z)] (List.replicate len zv.cells.toList).flatten := by
    have := FR.arr (e := i.size) (vs := []) (cs := []) (FR_replicate hf len) (fun u hu => by rw [List.eq_of_mem_replicate hu]; exact hzl) .nil
    simpa using this
  obtain ⟨cells', h1, h2, h3, _⟩ := fill_ok (place' := fun j => some (j * i.size, i.size)) (fun _ _ h => h) ps cps _ r _ hp hfa hr
  have harr : ∃ xs, r = .arr i.size xs ∧ xs.length = len := by
    obtain ⟨xs, hx1, hx2⟩ := fill_arr _ _ _ trivial hr
    exact ⟨xs, hx1, by simpa using hx2⟩
  obtain ⟨xs, rfl, hxl⟩ := harr
  obtain ⟨hxs, hxe⟩ := h2.arr_inv
  have hpos : ¬ len * i.size = 0 := by
    have := Nat.mul_pos hlen hsz0
    omega
  have hrun := run_buildSlice (P := P) w t e len cps.toArray cells'.toArray i zv hu hi hiz (by omega) hpos (by
    have : (Array.range (len * i.size)).map (zv.cells[· % zv.cells.size]!) = (List.replicate len zv.cells.toList).flatten.toArray := by
      apply Array.ext'
      rw [range_zero _ _ hsz0 _ hzs]
    rw [this]
    simpa using h1)
  have hcl : cells'.length = i.size * len := by rw [hxs.length, sumLen_same hxe, hxl]
  have hres := rowSl_ok (w' := w) (t := e) (cap := len) (fl := (AV.arr i.size xs).refless) (rest := []) hs hn hxs hxe (fun h => by
    have := FR.evol.refs_of_refless h
    simpa [AV.refs] using this) rfl (Below.refl _ _) (by omega) (by simp [hcl, Nat.mul_comm])
  simp only [hxl, List.append_nil] at hres
  exact ⟨_, _, _, hrun, hres⟩

theorem buildSlice0_ok {n0 : Nat} (hs : Sim B E H w) (hn : n0 ≤ H.length) {t e : TypeId} {sz : Nat} (hu : P.underlying t = some (.slice e)) (hsz : tsize P e = some sz) :
    ∃ cv w' E', (Instr.buildSlice t 0 #[]).run P w = .ok cv w' ∧ Res B n0 E H w (.sl ⟨H.length, 0, [], sz * 0⟩ sz 0 0 0) (newBlk H (.arr sz []) true true) false E' w' cv := by
  have hr0 : Array.range 0 = #[] := by apply Array.ext'; simp
  have hrun : (Instr.buildSlice t 0 #[]).run P w = .ok (.slice (some ⟨w.heap.size, 0, none⟩) 0 0) (w.alloc (.cells #[] e)) := by
    simp [Instr.buildSlice, run_underlying hu, run_sizeOf' hsz, hr0, Instr.fill, newRow]
  have hres := rowSl_ok (w' := w) (t := e) (sz := sz) (cap := 0) (fl := true) (rest := []) hs hn (FR.nil) (by simp) (fun _ => rfl) rfl (Below.refl _ _) (Nat.le_refl _) (by simp)
  exact ⟨_, _, _, hrun, hres⟩

theorem clear_ok {n0 : Nat} (hs : Sim B E H w) {argTypes : Array TypeId} {t ty : TypeId} {d v : AV} {cd : Value} {H' : Heap} (h0 : argTypes[0]? = some t) (hd : VR E d cd)
    (h : clearAV P H t d = some (v, H')) :
    ∃ c w' E', (Builtin.clear_ argTypes ty #[cd]).run P w = .ok c w' ∧ Res B n0 E H w v H' false E' w' c := by
  have hvt : ∀ E, VR E (.tuple []) (.tuple #[]) := fun E => ⟨[], rfl, rfl, fun i v c hv => by simp at hv⟩
  unfold clearAV at h
  split at h
  · rename_i d' hu
    obtain ⟨rfl, rfl⟩ := by simpa using h
    have k := (show PR E .nils cd from hd).leaf rfl
    cases k
    have hd : ∃ dd, P.underlying t = some dd := ⟨_, hu⟩
    refine ⟨.tuple #[], w, E, ?_, Res.same hs (hvt E)⟩
    obtain ⟨dd, hdd⟩ := hd
    simp [Builtin.clear_, h0, run_underlying hdd]
  · rename_i e p sz n off len hu
    simp only [Option.bind_eq_some_iff] at h
    obtain ⟨z, hz, sz', hsz, bk, hb, ⟨o, y⟩, hat, h⟩ := h
    split at h
    · rename_i e' ys hy
      simp only at hy
      subst hy
      split at h
      · rename_i hc
        obtain ⟨hg, ho, rfl, rfl, hyn, hle, hzl, hlen⟩ := hc
        simp only [Option.map_eq_some_iff, Prod.mk.injEq] at h
        obtain ⟨q, hput, rfl, rfl⟩ := h
        obtain ⟨ad, cap, rfl, hid, hcap, h2⟩ := PR.sl_inv (show PR E (.sl p _ n off len) cd from hd)
        obtain ⟨L, hL, hB, hBL, hgen⟩ := hs.at hb hg
        obtain ⟨i, zv, hi, hiz, hf, hrl, _⟩ := zero_spec (E := E) hz
        have hr0 := FR.evol.refs_of_refless hrl
        have hzs : zv.cells.size = e' := by
          have := hf.length
          simp only [sumLen, hzl, Nat.add_zero, Array.length_toList] at this
          exact this
        have hq : ∀ x ∈ q.refs, x ∈ bk.root.refs := fun x hx => by
          rcases put_refs _ _ _ _ hput x hx with h | h
          · exact h
          · simp only [AV.refs] at h
            rcases setMany_refs x h with h | h
            · exact load_ok.at_refs _ _ _ _ hat (by simpa [AV.refs] using h)
            · simp [refsL_replicate hr0] at h
        obtain ⟨k1, k2, k3⟩ := hs.splice (P := P) (g := bk.grow) (fl := bk.flat) hb hL hat hput (FR_replicate hf len) (fun u hu => by rw [List.eq_of_mem_replicate hu]; exact hzl) (by simp; omega)
          (fun hfl => List.eq_nil_iff_forall_not_mem.2 (fun x hx => by simpa [hs.flat _ _ hb hfl] using hq x hx))
        have had : ad = ⟨L.b, L.base + p.coff + off * e', none⟩ := by
          rcases h2 L hL with h3 | ⟨_, _, _, h3⟩
          · omega
          · rcases h3 with h3 | h3
            · omega
            · exact h3
        subst had
        simp only at ho
        have hzc : (Builtin.zeroCells zv.cells len).toList = (List.replicate len zv.cells.toList).flatten := by
          unfold Builtin.zeroCells
          rcases Nat.eq_zero_or_pos e' with h0 | h0
          · subst h0
            have h1 : zv.cells = #[] := Array.eq_empty_of_size_eq_zero hzs
            rw [h1]
            simp
          · rw [← range_zero len _ (by rw [hzs]; exact h0) zv.cells rfl]
        rw [← hzc] at k1 k2 k3
        rw [ho] at k1 k2 k3
        refine ⟨.tuple #[], w.setCells L.b (L.base + p.coff + off * e') (Builtin.zeroCells zv.cells len).toList, E, ?_, k2, hvt E, k3 _, by simp, fun _ => Sub.set hb (fun _ b hb' y hy => by obtain rfl := Option.some.inj hb'; exact hq y hy)⟩
        obtain ⟨m, rfl⟩ : ∃ m, len = m + 1 := ⟨len - 1, by omega⟩
        simp [Builtin.clear_, h0, run_underlying hu, run_zeroValue' hi hiz, k1]
      · simp at h
    · simp at h
  · simp at h

theorem bytes_cells : ∀ {xs : List AV} {cells : List Value} {l : List UInt8}, FR E xs cells → bytesOf xs = some l → ∃ ns : List Int, cells = ns.map (Value.int .u8) ∧ l = ns.map fun n => UInt8.ofNat n.toNat
  | [], cells, l, hf, h => by
    cases hf
    simp only [bytesOf, Option.some.injEq] at h
    exact ⟨[], rfl, h.symm⟩
  | x :: xs, cells, l, hf, h => by
    unfold bytesOf at h
    split at h
    · simp at *
    · rename_i n r heq
      obtain ⟨rfl, rfl⟩ := by simpa using heq
      simp only [Option.map_eq_some_iff] at h
      obtain ⟨l', hl, rfl⟩ := h
      cases hf with
      | int hf =>
      obtain ⟨ns, rfl, rfl⟩ := bytes_cells hf hl
      exact ⟨n :: ns, rfl, rfl⟩
    · simp at h

theorem bytes_back {n0 : Nat} (hs : Sim B E H w) {src dst e : TypeId} {x : AV} {cx : Value} {xs : List AV} {l : List UInt8} (hx : VR E x cx) (hxs : elemsAV H 1 x = some xs) (hl : bytesOf xs = some l)
    (hsl : P.underlying src = some (.slice e)) (hd : P.underlying dst = some .string) (hu8 : P.underlying e = some (.int .u8)) :
    ∃ c w' E', (convert src dst cx).run P w = .ok c w' ∧ Res B n0 E H w (.str ⟨l.toArray⟩) H false E' w' c := by
  obtain ⟨cells, hsrc⟩ := src_ok (P := P) hs hx hxs
  obtain ⟨ns, hns, hln⟩ := bytes_cells hsrc.fr hl
  have hstr : (⟨l.toArray⟩ : ByteArray) = ns.foldl (fun r n => r.push (UInt8.ofNat n.toNat)) ByteArray.empty := by
    rw [foldl_push_bytes, hln]
    simp [ByteArray.empty, ByteArray.emptyWithCapacity]
    rfl
  have hlen : ns.length = xs.length := by
    have := hsrc.fr.length
    rw [hns, sumLen_same hsrc.each] at this
    simpa using this
  have hfirst := hsrc.first w rfl xs.length (Nat.le_refl _)
  have hct : cells.take (xs.length * 1) = cells := by
    rw [List.take_of_length_le]
    rw [hns]; simp [hlen]
  rw [hct] at hfirst
  refine ⟨.string ⟨l.toArray⟩, w, E, ?_, Res.same hs VR.str⟩
  rw [hstr]
  cases x <;> simp only [elemsAV, reduceCtorEq] at hxs
  · have k := (show PR E .nils cx from hx).leaf rfl
    cases k
    obtain rfl := Option.some.inj hxs
    have : ns = [] := List.eq_nil_of_length_eq_zero (by simpa using hlen)
    subst this
    exact run_convert_bytes_nil w src e hsl hu8 0 0 dst hd
  · obtain ⟨a, cap, rfl, _, _, _⟩ := PR.sl_inv (show PR E (.sl _ _ _ _ _) cx from hx)
    have hl' := hsrc.len w
    simp only [Builtin.lenOf, Sem.run_pure, Result.ok.injEq, and_true] at hl'
    subst hl'
    rw [run_convert_bytes_string w src dst e _ _ cap hsl hu8 hd]
    refine run_bytesToString w a _ cap ns ?_
    rw [← hns]
    simpa [Builtin.firstCells] using hfirst
  · obtain ⟨b, o, sp, c1, cap, rfl, _⟩ := PR.isl_inv (show PR E (.isl _ _) cx from hx)
    have hl' := hsrc.len w
    simp only [Builtin.lenOf, Sem.run_pure, Result.ok.injEq, and_true] at hl'
    rw [run_convert_bytes_string w src dst e _ _ cap hsl hu8 hd]
    refine run_bytesToString w _ _ cap ns ?_
    rw [← hns, hl']
    simpa [Builtin.firstCells] using hfirst

theorem convert_ok {n0 : Nat} (hs : Sim B E H w) (hn : n0 ≤ H.length) {src dst : TypeId} {x v : AV} {cx : Value} {H' : Heap} (hx : VR E x cx) (h : convertAV P H src dst x = some (v, H')) :
    ∃ c w' E', (convert src dst cx).run P w = .ok c w' ∧ Res B n0 E H w v H' false E' w' c := by
  unfold convertAV at h
  split at h
  · rename_i d k k' n hs' hd
    obtain ⟨rfl, rfl⟩ := by simpa using h
    obtain rfl := hx.int_inv
    exact ⟨_, w, E, by simp [convert, run_underlying hs', run_underlying hd, Conv.intToInt], Res.same hs VR.int⟩
  · rename_i s hs' hd
    obtain ⟨rfl, rfl⟩ := by simpa using h
    obtain rfl := hx.str_inv
    exact ⟨_, w, E, by simp [convert, run_underlying hs', run_underlying hd], Res.same hs VR.str⟩
  · rename_i e s hs' hd
    split at h
    · rename_i hu8
      split at h
      · rename_i hsz
        obtain ⟨rfl, rfl⟩ := by simpa using h
        obtain rfl := hx.str_inv
        have hr := run_bytes_of_string (P := P) w src dst e s hs' hd hu8
        have hge := grownCap_ge w s.size 0 e
        generalize grownCap w s.size 0 e = gc at *
        have hbl : (strAV s).length = s.size := by
          simp only [strAV, List.length_map, Array.length_toList]
          rfl
        have hbr : bytesRow s gc = ((s.data.toList.map fun (b : UInt8) => Value.int .u8 b.toNat) ++ List.replicate (gc - s.size) (Value.int .u8 0)).toArray := by
          unfold bytesRow
          apply Array.ext'
          simp
        rw [hbr] at hr
        have hcl : (s.data.toList.map fun (b : UInt8) => Value.int .u8 b.toNat).length = s.size := by
          simp only [List.length_map, Array.length_toList]
          rfl
        have hres := rowSl_ok (w' := w.drew) (t := e) (sz := 1) (cap := gc) (fl := true) (fr := (((s.data.toList.map fun (b : UInt8) => Value.int .u8 b.toNat) ++ List.replicate (gc - s.size) (Value.int .u8 0)).toArray.size, ((s.data.toList.map fun (b : UInt8) => Value.int .u8 b.toNat) ++ List.replicate (gc - s.size) (Value.int .u8 0)).toArray.size + 1))
          hs hn (show FR E (strAV s) _ from FR_bytes s.data.toList) (fun u hu => by simp only [strAV, List.mem_map] at hu; obtain ⟨b, _, rfl⟩ := hu; rfl) (fun _ => refsL_str s.data.toList) rfl (below_drew w) (by rw [hbl]; exact hge)
          (rest := List.replicate (gc - s.size) (Value.int .u8 0)) (by rw [hcl]; simp; omega) (.inr (by simp only [List.size_toArray, List.length_append, hcl, List.length_replicate]; omega))
        rw [hbl] at hres
        simp only [Nat.one_mul] at hres
        exact ⟨_, _, _, hr, hres⟩
      · simp at h
    · simp at h
  · rename_i hsl hd
    split at h
    · rename_i hu8
      simp only [Option.bind_eq_some_iff, Option.map_eq_some_iff, Prod.mk.injEq] at h
      obtain ⟨xs, hxs, l, hl, rfl, rfl⟩ := h
      exact bytes_back hs hx hxs hl hsl hd hu8
    · simp at h
  · simp at h
where
  refsL_str : ∀ (l : List UInt8), refsL (l.map fun (b : UInt8) => AV.int .u8 b.toNat) = []
    | [] => rfl
    | b :: l => by simp [refsL, AV.refs, refsL_str l]
end
end Go.X
