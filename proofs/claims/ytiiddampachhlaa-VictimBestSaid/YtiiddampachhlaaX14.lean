/-
  append, copy, clear; slices made: what the evaluator tells is what the model does.
-/
import Derived.Test.YtiiddampachhlaaX13
namespace Go.X
open Go.RowKit (Below)

section
variable {P : Program} {B : Nat} {E E' : Env} {H : Heap} {w w' : World}

theorem tinfo {t : TypeId} {n m : Nat} (h : tsize P t = some n) (h' : tbytes P t = some m) : ∃ i, P.info? t = some i ∧ i.size = n ∧ i.bytes = m := by
  unfold tsize at h
  unfold tbytes at h'
  cases hi : P.info? t with
  | none => simp [hi] at h
  | some i => exact ⟨i, rfl, by simpa [hi] using h, by simpa [hi] using h'⟩

theorem zero_size {t : TypeId} {n : Nat} {i : TypeInfo} (h : (zeroAV P t).map AV.flatLen = some n) (hi : P.info? t = some i) : ∃ z, i.zero = some z ∧ z.cells.size = n := by
  simp only [Option.map_eq_some_iff] at h
  obtain ⟨v, hv, rfl⟩ := h
  obtain ⟨i', z, hi', hz, hf, _⟩ := zero_spec (E := ⟨fun _ => none, fun _ _ => none, 0⟩) hv
  rw [hi] at hi'
  obtain rfl := Option.some.inj hi'
  have := hf.length
  exact ⟨z, hz, by simpa [sumLen] using this⟩

theorem below_drew {B : Nat} (w : World) : Below B w w.drew := (Below.refl B w).drew

theorem size_zeroCells' {z : Value} {n sz : Nat} (h : z.cells.size = sz) : (Builtin.zeroCells z.cells n).toList.length = n * sz := by
  have := size_zeroCells z.cells n
  simp [this, h]

theorem at_nil (v : AV) : v.at? [] = some (0, v) := by cases v <;> rfl

theorem append_ok {n0 : Nat} (hs : Sim B E H w) (hn : n0 ≤ H.length) {argTypes : Array TypeId} {t u e ty : TypeId} {d : TypeDesc} {s v : AV} {cs cx : Value} {xs : List AV} {cells : List Value} {sz : Nat} {H' : Heap}
    (h0 : argTypes[0]? = some t) (h1 : argTypes[1]? = some u) (ht : P.underlying t = some (.slice e)) (hd : P.underlying u = some d) (hnd : srcKind d = true) (hsz : tsize P e = some sz)
    (hv : VR E s cs) (hsrc : Src P E w sz xs cx cells) (h : appendAV P H e s xs = some (v, H')) :
    ∃ c w' E', (Builtin.append_ argTypes ty #[cs, cx]).run P w = .ok c w' ∧ Res B n0 E H w v H' (appendFlag n0 s xs) E' w' c := by
  simp only [appendAV, Option.bind_eq_some_iff] at h
  obtain ⟨sz', hsz', by_, hby, h⟩ := h
  obtain rfl : sz = sz' := by rw [hsz] at hsz'; exact Option.some.inj hsz'
  obtain ⟨i, hi, his, hib⟩ := tinfo hsz hby
  subst his hib
  have hcl : cells.length = xs.length * i.size := by rw [hsrc.fr.length, sumLen_same hsrc.each, Nat.mul_comm]
  split at h
  · -- nothing
    split at h
    · obtain ⟨rfl, rfl⟩ := by simpa using h
      have k := (show PR E .nils cs from hv).leaf rfl
      cases k
      exact ⟨_, _, E, run_append_none h0 h1 ht hd hnd hi hsrc (Nat.le_refl _), Res.same hs (.of_PR (v := .nils) ⟨[_], .nils .nil, rfl⟩)⟩
    · obtain ⟨rfl, rfl⟩ := by simpa using h
      obtain ⟨a, cap, rfl, _, hcap, _⟩ := PR.sl_inv (show PR E (.sl _ _ _ _ _) cs from hv)
      exact ⟨_, _, E, run_append_none h0 h1 ht hd hnd hi hsrc hcap, Res.same hs hv⟩
    · obtain ⟨rfl, rfl⟩ := by simpa using h
      obtain ⟨b, o, sp, c1, cap, rfl, _, _, _, _, hcap, _⟩ := PR.isl_inv (show PR E (.isl _ _) cs from hv)
      exact ⟨_, _, E, run_append_none h0 h1 ht hd hnd hi hsrc hcap, Res.same hs hv⟩
    · simp at h
  · rename_i x r
    generalize hxs : x :: r = xs at *
    have hpos : 0 < xs.length := by subst hxs; simp
    split at h
    · rename_i hc
      obtain ⟨hz, _, hsz0⟩ := hc
      obtain ⟨z, hiz, hzs⟩ := zero_size hz hi
      split at h
      · -- nil
        split at h
        · rename_i hb
          obtain ⟨rfl, rfl⟩ := by simpa using h
          have k := (show PR E .nils cs from hv).leaf rfl
          cases k
          have hr := run_append_out (P := P) (w := w) (z := z) (base := none) (sLen := 0) (sCap := 0) (olds := []) (ty := ty) h0 h1 ht hd hnd hi hiz rfl hsrc hcl (by omega) (fun w' _ => by simp [Builtin.firstCells]) (by simpa using hb.2) (by simpa using hb.1)
          simp only [Nat.zero_add, List.nil_append] at hr
          have hge := grownCap_ge w xs.length 0 e
          have hres := rowSl_ok (w' := w.drew) (t := e) hs hn hsrc.fr hsrc.each (fl := reflessL xs) (fun hf => setMany_refs_nil hf) rfl (below_drew w) hge (rest := (Builtin.zeroCells z.cells (grownCap w xs.length 0 e - xs.length)).toList) (by
            rw [hcl, size_zeroCells' hzs, ← Nat.add_mul]; congr 1; omega)
          exact ⟨_, _, _, hr, hres⟩
        · simp at h
      · rename_i p e1 n off len
        simp only [Option.bind_eq_some_iff] at h
        obtain ⟨bk, hb, ⟨o, y⟩, hat, h⟩ := h
        split at h
        · rename_i e' ys hy
          simp only at hy
          subst hy
          split at h
          · rename_i hc
            obtain ⟨hg, ho, rfl, rfl, hyn, hle⟩ := hc
            obtain ⟨ad, cap, rfl, hid, hcap, h2⟩ := PR.sl_inv (show PR E (.sl p i.size n off len) cs from hv)
            obtain ⟨L, hL, hB, hBL, hgen⟩ := hs.at hb hg
            simp only at ho
            have h3 : n ≤ off + cap ∧ p.coff + (off + cap) * i.size ≤ L.ext ∧ (cap = 0 ∨ ad = ⟨L.b, L.base + p.coff + off * i.size, none⟩) := by
              rcases h2 L hL with h3 | ⟨_, h3⟩
              · omega
              · exact h3
            obtain ⟨h3, h4, h5⟩ := h3
            have hflat : ∀ {q : AV}, (∀ x ∈ q.refs, x ∈ bk.root.refs ∨ x ∈ refsL xs) → (bk.flat && reflessL xs) = true → q.refs = [] := fun {q} hq hf => by
              simp only [Bool.and_eq_true] at hf
              refine List.eq_nil_iff_forall_not_mem.2 (fun x hx => ?_)
              rcases hq x hx with h | h
              · simp [hs.flat _ _ hb hf.1] at h
              · simp [FR.evol.refsL_of_refless hf.2] at h
            have hsub : ∀ {q : AV} {g fl : Bool}, (∀ x ∈ q.refs, x ∈ bk.root.refs ∨ x ∈ refsL xs) → (decide (p.id < n0) && !reflessL xs) = false → Sub n0 H (H.set p.id (some ⟨q, g, fl⟩)) := fun {q g fl} hq he => by
              refine Sub.set hb (fun hlt b hb' y hy => ?_)
              obtain rfl := Option.some.inj hb'
              have hr : reflessL xs = true := by simpa [hlt] using he
              rcases hq y hy with h | h
              · exact h
              · simp [FR.evol.refsL_of_refless hr] at h
            split at h
            · -- room, and known
              rename_i hroom
              simp only [Option.map_eq_some_iff, Prod.mk.injEq] at h
              obtain ⟨q, hput, rfl, rfl⟩ := h
              have hq : ∀ x ∈ q.refs, x ∈ bk.root.refs ∨ x ∈ refsL xs := fun x hx => by
                rcases put_refs _ _ _ _ hput x hx with h | h
                · exact .inl h
                · simp only [AV.refs] at h
                  rcases setMany_refs x h with h | h
                  · exact .inl (load_ok.at_refs _ _ _ _ hat (by simpa [AV.refs] using h))
                  · exact .inr h
              obtain ⟨k1, k2, k3⟩ := hs.splice (P := P) (g := bk.grow) hb hL hat hput hsrc.fr hsrc.each (by omega) (hflat hq)
              have had : ad = ⟨L.b, L.base + p.coff + off * i.size, none⟩ := by
                rcases h5 with h5 | h5
                · omega
                · exact h5
              subst had
              refine ⟨_, _, E, run_append_in h0 h1 ht hd hnd hi hsrc hcl (by omega) ?_, k2, ?_, k3 _, by simp, fun he => hsub hq he⟩
              · rw [Addr.add_mk, show L.base + p.coff + off * i.size + len * i.size = L.base + o + (off + len) * i.size by rw [ho, Nat.add_mul]; omega]
                exact k1
              · refine .of_PR (v := .sl p i.size n off (len + xs.length)) ⟨[_], .sl hid (by omega) (fun L' hL' => .inr ?_) rfl .nil, rfl⟩
                obtain rfl : L = L' := by rw [hL] at hL'; exact Option.some.inj hL'
                exact ⟨hgen, h3, h4, h5⟩
            · split at h
              · -- at the end
                rename_i hroom hc
                obtain ⟨rfl, rfl, hpath, hgrow, hbm, hlm⟩ := hc
                obtain ⟨rfl, rfl⟩ := by simpa using h
                rw [hpath] at hat
                rw [at_nil] at hat
                have hoo : 0 = o := congrArg Prod.fst (Option.some.inj hat)
                have hroot : bk.root = AV.arr i.size ys := congrArg Prod.snd (Option.some.inj hat)
                subst hoo
                obtain ⟨cs0, hfr, hlen, hcells⟩ := hB.cs
                have hfr' := hfr
                rw [hroot] at hfr'
                obtain ⟨hys, hye⟩ := hfr'.arr_inv
                have hl0 : cs0.length = len * i.size := by rw [hys.length, sumLen_same hye, hyn, Nat.mul_comm]
                have hnewf : FR E [.arr i.size (ys ++ xs)] (cs0 ++ cells) := by
                  have := FR.arr (e := i.size) (vs := []) (cs := []) (FR.append hys hsrc.fr) (fun x hx => by
                    rcases List.mem_append.1 hx with h | h
                    · exact hye x h
                    · exact hsrc.each x h) .nil
                  simpa using this
                have hq : ∀ x ∈ (AV.arr i.size (ys ++ xs)).refs, x ∈ bk.root.refs ∨ x ∈ refsL xs := fun x hx => by
                  simp only [AV.refs, setMany_refs.refsL_append, List.mem_append] at hx
                  rw [hroot]
                  exact hx
                have hfit := hB.fits
                have hg1 : L.gen = len * i.size := by omega
                have hnl : (cs0 ++ cells).length = i.size * (len + xs.length) := by simp [hl0, hcl, Nat.mul_add, Nat.mul_comm]
                have hsz1 : i.size * (len + xs.length) = len * i.size + xs.length * i.size := by rw [Nat.mul_add, Nat.mul_comm, Nat.mul_comm i.size xs.length]
                have hxl : i.size ≤ xs.length * i.size := Nat.le_mul_of_pos_left _ hpos
                simp only [Nat.zero_mul, Nat.zero_add, Nat.add_zero] at h3 h4 h5
                rw [← ho] at h4 h5
                simp only [Nat.zero_add, Nat.add_zero] at h4 h5
                by_cases hin : len + xs.length ≤ cap
                · -- at its place
                  have hce : (len + xs.length) * i.size ≤ cap * i.size := Nat.mul_le_mul_right _ hin
                  rw [Nat.add_mul] at hce
                  have had : ad = ⟨L.b, L.base, none⟩ := by
                    rcases h5 with h5 | h5
                    · omega
                    · exact h5
                  subst had
                  have hcr : ∀ j, j < cells.length → len * i.size + j < L.ext := fun j hj => by omega
                  have hin' := World.cell?_setCells_in L.b cells (L.base + len * i.size) w (fun j hj => by
                    rw [Nat.add_assoc]; exact (hB.room _ (hcr j hj)).1)
                  have hout : ∀ b q, ¬ (b = L.b ∧ L.base + len * i.size ≤ q ∧ q < L.base + len * i.size + cells.length) → (w.setCells L.b (L.base + len * i.size) cells).cell? ⟨b, q, none⟩ = w.cell? ⟨b, q, none⟩ := fun b q hq =>
                    World.cell?_setCells_out L.b cells (L.base + len * i.size) w ⟨b, q, none⟩ (fun h1 _ => by simp only at h1 ⊢; omega)
                  have hst := run_storeCells_cells (P := P) L.b (L.base + len * i.size) cells 0 w (fun j hj => by
                    rw [Nat.add_zero, Nat.add_assoc]; exact (hB.room _ (hcr j hj)).1) (fun j hj => by
                    rw [Nat.add_zero, Nat.add_assoc]; exact (hB.room _ (hcr j hj)).2) (fun v hv => hsrc.fr.oneCell v hv)
                  simp only [Nat.add_zero] at hst
                  have hgr := hs.grow (w' := w.setCells L.b (L.base + len * i.size) cells) (L' := ⟨L.b, L.base, L.ext, i.size * (len + xs.length)⟩) (g := true) hb hL (by simp only; omega) hnewf hnl (by simp only; omega) (hflat hq) (.inl ⟨rfl, rfl, rfl⟩)
                    (fun j c hj => by
                      rcases Nat.lt_or_ge j cs0.length with h | h
                      · rw [hout _ _ (by simp only; omega)]
                        rw [List.getElem?_append_left h] at hj
                        exact hcells j c hj
                      · rw [List.getElem?_append_right h] at hj
                        have hjl : j - cs0.length < cells.length := by
                          rcases Nat.lt_or_ge (j - cs0.length) cells.length with h | h
                          · exact h
                          · simp [List.getElem?_eq_none h] at hj
                        have := hin' (j - cs0.length) hjl
                        simp only
                        rw [show L.base + len * i.size + (j - cs0.length) = L.base + j by omega] at this
                        rw [this, ← hj, List.getElem?_eq_getElem hjl])
                    (fun j hj => ⟨setCells_some _ _ _ _ _ (hB.room j hj).1, by rw [World.frozen?_setCells]; exact (hB.room j hj).2⟩)
                    (fun b q _ hq => ⟨hout b q (fun hh => hq (by unfold Loc.has; have := hcr (cells.length - 1); omega)), World.frozen?_setCells _ _ _ _ _⟩) (below_setCells _ hBL _ _ _)
                  refine ⟨_, _, _, run_append_in h0 h1 ht hd hnd hi hsrc hcl hin (by rw [Addr.add_mk]; exact hst), hgr.1, ?_, hgr.2 _, by simp, fun he => hsub hq he⟩
                  refine .of_PR (v := .sl _ _ _ _ _) ⟨[_], .sl (show _ < E.top from hid) hin (fun L' hL' => .inr ?_) rfl .nil, rfl⟩
                  simp only [Env.put, if_pos] at hL'
                  obtain rfl := Option.some.inj hL'
                  exact ⟨rfl, by omega, by simp only [Nat.zero_add]; omega, .inr (by simp)⟩
                · -- at a new place
                  have hold : ∀ w' : World, w'.heap = w.heap → (Builtin.firstCells i.size len (.slice (some ad) len cap)).run P w' = .ok cs0.toArray w' := fun w' hw => by
                    rcases Nat.eq_zero_or_pos len with rfl | hlp
                    · have hc0 : cs0 = [] := List.eq_nil_of_length_eq_zero (by omega)
                      simp [Builtin.firstCells, loadCells, loadCellsFrom, hc0]
                    · have had : ad = ⟨L.b, L.base, none⟩ := by
                        rcases h5 with h5 | h5
                        · omega
                        · exact h5
                      subst had
                      simp only [Builtin.firstCells]
                      exact run_loadCells' hl0 (fun j c hj => by rw [cell_heap hw]; exact hcells j c hj)
                  have hr := run_append_out (P := P) (w := w) (z := z) (ty := ty) h0 h1 ht hd hnd hi hiz rfl hsrc hcl (by omega) hold hlm hbm
                  have hge := grownCap_ge w (len + xs.length) cap e
                  generalize hgc : grownCap w (len + xs.length) cap e = gc at *
                  have hzl := size_zeroCells' (n := gc - (len + xs.length)) hzs
                  generalize (Builtin.zeroCells z.cells (gc - (len + xs.length))).toList = rest at *
                  have hge' : (len + xs.length) * i.size ≤ gc * i.size := Nat.mul_le_mul_right _ hge
                  have hrl : rest.length = gc * i.size - (len + xs.length) * i.size := by rw [hzl, Nat.sub_mul]
                  have hsz2 : w.drew.heap.size = w.heap.size := rfl
                  have hgr := hs.grow (w' := w.drew.alloc (.cells ((cs0 ++ cells) ++ rest).toArray e)) (L' := ⟨w.heap.size, 0, i.size * (len + xs.length) + rest.length, i.size * (len + xs.length)⟩) (g := true) hb hL (by simp only; omega) hnewf hnl (Nat.le_add_right _ _) (hflat hq) (.inr (Nat.le_refl _))
                    (fun j c hj => by
                      rw [World.cell?_alloc_at _ _ _ _ hsz2.symm]
                      simp only [Nat.zero_add, List.getElem?_toArray]
                      rw [List.getElem?_append_left (by
                        rcases Nat.lt_or_ge j (cs0 ++ cells).length with h | h
                        · exact h
                        · simp [List.getElem?_eq_none h] at hj)]
                      exact hj)
                    (fun j hj => by
                      simp only at hj
                      refine ⟨?_, World.frozen?_alloc_at _ _ _ _ hsz2.symm⟩
                      rw [World.cell?_alloc_at _ _ _ _ hsz2.symm]
                      simp only [Nat.zero_add, List.getElem?_toArray]
                      rw [List.getElem?_eq_getElem (by rw [List.length_append, hnl]; exact hj)]
                      rfl)
                    (fun b q hbq _ => ⟨by rw [World.cell?_alloc_past _ _ _ (by rw [hsz2]; exact hbq)]; rfl, World.frozen?_of_block (Below.heap_alloc w.drew _ b (by rw [hsz2]; exact hbq))⟩)
                    ((below_drew w).trans ((Below.refl B w.drew).alloc (by rw [hsz2]; exact hs.old) _))
                  refine ⟨_, _, _, hr, hgr.1, ?_, hgr.2 _, by simp, fun he => hsub hq he⟩
                  refine .of_PR (v := .sl _ _ _ _ _) ⟨[_], .sl (show _ < E.top from hid) hge (fun L' hL' => .inr ?_) rfl .nil, rfl⟩
                  simp only [Env.put, if_pos] at hL'
                  obtain rfl := Option.some.inj hL'
                  refine ⟨rfl, by omega, ?_, .inr (by simp)⟩
                  simp only [Nat.zero_add]
                  rw [hrl, hsz1]
                  rw [Nat.add_mul] at *
                  omega
              · simp at h
          · simp at h
        · simp at h
      · simp at h
    · simp at h
where
  setMany_refs_nil {xs : List AV} (h : reflessL xs = true) : refsL xs = [] := FR.evol.refsL_of_refless h

end
end Go.X
