/-
  append, copy, clear; slices made.
-/
import Derived.Test.YtiiddampachhlaaX12
namespace Go.X
open Go.RowKit (Below)

section
variable {P : Program} {B : Nat} {E E' : Env} {H : Heap} {w w' : World}

theorem setMany_refs {ys xs : List AV} {k : Nat} : ∀ x ∈ refsL (setMany ys k xs), x ∈ refsL ys ∨ x ∈ refsL xs := by
  intro x hx
  unfold setMany at hx
  rw [refsL_append, refsL_append] at hx
  simp only [List.mem_append] at hx
  rcases hx with (hx | hx) | hx
  · exact .inl (refsL_sub (fun y hy => List.mem_of_mem_take hy) x hx)
  · exact .inr hx
  · exact .inl (refsL_sub (fun y hy => List.mem_of_mem_drop hy) x hx)
where
  refsL_append : ∀ (a b : List AV), refsL (a ++ b) = refsL a ++ refsL b
    | [], b => by simp [refsL]
    | x :: a, b => by simp [refsL, refsL_append a b]
  refsL_sub : ∀ {a b : List AV}, (∀ y ∈ a, y ∈ b) → ∀ x ∈ refsL a, x ∈ refsL b
    | [], b, h, x, hx => by simp [refsL] at hx
    | y :: a, b, h, x, hx => by
      simp only [refsL, List.mem_append] at hx
      rcases hx with hx | hx
      · exact load_ok.refsL_of_mem (h y List.mem_cons_self) hx
      · exact refsL_sub (fun z hz => h z (List.mem_cons_of_mem _ hz)) x hx

/-- Some elements of an array or a slice are written over. -/
theorem Sim.splice (hs : Sim B E H w) {i : Nat} {bk : Blk} {L : Loc} {path : List Nat} {o sz k : Nat} {ys xs : List AV} {r : AV} {g fl : Bool} {cells : List Value} (hb : H.blk i = some bk) (hL : E.loc i = some L)
    (hat : bk.root.at? path = some (o, .arr sz ys)) (hput : bk.root.put? path (.arr sz (setMany ys k xs)) = some r) (hf : FR E xs cells) (hx : ∀ u ∈ xs, u.flatLen = sz) (hk : k + xs.length ≤ ys.length) (hfl : fl = true → r.refs = []) :
    (storeCells ⟨L.b, L.base + o + k * sz, none⟩ cells).run P w = .ok () (w.setCells L.b (L.base + o + k * sz) cells) ∧
    Sim B E (H.set i (some ⟨r, g, fl⟩)) (w.setCells L.b (L.base + o + k * sz) cells) ∧ ∀ q, Tr B q E w E (w.setCells L.b (L.base + o + k * sz) cells) := by
  obtain ⟨L', hL', hB, hBL⟩ := hs.live _ _ hb
  obtain rfl : L = L' := by rw [hL] at hL'; exact Option.some.inj hL'
  obtain ⟨cs, hfr, hlen, hcells⟩ := hB.cs
  obtain ⟨pre0, mid0, post0, hcs0, hpre0, hm0⟩ := at_spec _ _ _ _ _ hfr hat
  obtain ⟨hys, hye⟩ := hm0.arr_inv
  have hsplit : ys = ys.take k ++ ((ys.drop k).take xs.length ++ (ys.drop k).drop xs.length) := by rw [List.take_append_drop, List.take_append_drop]
  have hys' := hys
  rw [hsplit] at hys'
  obtain ⟨c0, c2, hc02, k0, k1⟩ := hys'.append_inv
  obtain ⟨c3, c4, rfl, k2, k3⟩ := k1.append_inv
  subst hc02
  have hl0 : c0.length = k * sz := by
    rw [k0.length, sumLen_same (fun x hx => hye x (List.mem_of_mem_take hx))]
    simp [Nat.min_eq_left (show k ≤ ys.length by omega), Nat.mul_comm]
  have hl3 : c3.length = cells.length := by
    rw [k2.length, hf.length, sumLen_same (fun x hx => hye x (List.mem_of_mem_drop (List.mem_of_mem_take hx))), sumLen_same hx]
    congr 1
    simp; omega
  have hnew : FR E [.arr sz (setMany ys k xs)] (c0 ++ cells ++ c4) := by
    have h1 : FR E (setMany ys k xs) (c0 ++ cells ++ c4) := by
      unfold setMany
      rw [List.drop_drop] at k3
      exact FR.append (FR.append k0 hf) k3
    have := FR.arr (e := sz) (vs := []) (cs := []) h1 (fun x hx' => by
      unfold setMany at hx'
      simp only [List.mem_append] at hx'
      rcases hx' with (h | h) | h
      · exact hye x (List.mem_of_mem_take h)
      · exact hx x h
      · exact hye x (List.mem_of_mem_drop h)) .nil
    simpa using this
  obtain ⟨pre, mid, post, hcs, hpre, hm, hml, hr, _⟩ := put_spec _ _ _ _ _ _ _ _ hfr hat hput hnew
  have hpp : pre = pre0 ∧ mid ++ post = (c0 ++ (c3 ++ c4)) ++ post0 := by
    rw [hcs, List.append_assoc, List.append_assoc] at hcs0
    exact List.append_inj hcs0 (by omega)
  obtain ⟨rfl, hmp⟩ := hpp
  have hmid : mid = c0 ++ (c3 ++ c4) ∧ post = post0 := List.append_inj hmp (by rw [← hml]; simp; omega)
  obtain ⟨rfl, rfl⟩ := hmid
  subst hcs
  have hfit := hB.fits
  have hlen' : pre.length + (c0.length + (c3.length + c4.length)) + post.length = L.gen := by rw [← hlen]; simp; omega
  have hroom : ∀ j, j < cells.length → o + k * sz + j < L.ext := fun j hj => by omega
  have hin := World.cell?_setCells_in L.b cells (L.base + o + k * sz) w (fun j hj => by
    have := (hB.room (o + k * sz + j) (hroom j hj)).1
    rwa [show L.base + (o + k * sz + j) = L.base + o + k * sz + j by omega] at this)
  have hout : ∀ b q, ¬ (b = L.b ∧ L.base + o + k * sz ≤ q ∧ q < L.base + o + k * sz + cells.length) → (w.setCells L.b (L.base + o + k * sz) cells).cell? ⟨b, q, none⟩ = w.cell? ⟨b, q, none⟩ := fun b q hq =>
    World.cell?_setCells_out L.b cells (L.base + o + k * sz) w ⟨b, q, none⟩ (fun h1 _ => by simp only at h1 ⊢; omega)
  refine ⟨?_, ?_⟩
  · have := run_storeCells_cells (P := P) L.b (L.base + o + k * sz) cells 0 w (fun j hj => by
      have := (hB.room (o + k * sz + j) (hroom j hj)).1
      rwa [show L.base + (o + k * sz + j) = L.base + o + k * sz + 0 + j by omega] at this) (fun j hj => by
      have := (hB.room (o + k * sz + j) (hroom j hj)).2
      rwa [show L.base + (o + k * sz + j) = L.base + o + k * sz + 0 + j by omega] at this) (fun v hv => hf.oneCell v hv)
    simpa using this
  · refine hs.write hb hL hr (by simp; omega) hfl (fun j c hj => ?_) (fun j hj => setCells_some _ _ _ _ _ (hB.room j hj).1) (fun b q hq => hout b q (fun hh => hq ?_)) (fun b q => World.frozen?_setCells _ _ _ _ _) (below_setCells _ hBL _ _ _)
    · by_cases h1 : o + k * sz ≤ j ∧ j < o + k * sz + cells.length
      · have h2 := hin (j - (o + k * sz)) (by omega)
        rw [show L.base + o + k * sz + (j - (o + k * sz)) = L.base + j by omega] at h2
        rw [h2, ← hj]
        simp only [List.append_assoc]
        rw [List.getElem?_append_right (by omega), List.getElem?_append_right (by omega), List.getElem?_append_left (by omega), List.getElem?_eq_getElem (by omega)]
        congr 2
        omega
      · rw [hout _ _ (by omega)]
        refine hcells j c ?_
        simp only [List.append_assoc] at hj ⊢
        rcases Nat.lt_or_ge j pre.length with h | h
        · rw [List.getElem?_append_left h] at hj ⊢; exact hj
        · rw [List.getElem?_append_right h] at hj ⊢
          rcases Nat.lt_or_ge (j - pre.length) c0.length with h' | h'
          · rw [List.getElem?_append_left h'] at hj ⊢; exact hj
          · rw [List.getElem?_append_right h'] at hj ⊢
            rw [List.getElem?_append_right (by omega)] at hj ⊢
            rw [hl3]
            exact hj
    · have := hroom (cells.length - 1)
      unfold Loc.has
      omega

theorem sl_new {E : Env} {L : Loc} {sz n cap : Nat} (hg : sz * n = L.gen) (hb : L.base = 0) (hcap : n ≤ cap) (hext : cap * sz ≤ L.ext) :
    VR (E.new L) (.sl ⟨E.top, 0, [], sz * n⟩ sz n 0 n) (.slice (some ⟨L.b, 0, none⟩) n cap) := by
  refine .of_PR (v := .sl _ _ _ _ _) ⟨[_], .sl (Nat.lt_succ_self _) hcap (fun L' hL' => .inr ?_) rfl .nil, rfl⟩
  simp only [Env.new, if_pos] at hL'
  obtain rfl := Option.some.inj hL'
  exact ⟨hg, by omega, by simpa using hext, .inr (by simp [hb])⟩

/-- A row of new elements, with room behind. -/
theorem rowSl_ok {n0 : Nat} (hs : Sim B E H w) (hn : n0 ≤ H.length) {sz : Nat} {xs : List AV} {cells rest : List Value} {t : TypeId} {cap : Nat} {fl : Bool} {fr : Nat × Nat} (hf : FR E xs cells) (hx : ∀ u ∈ xs, u.flatLen = sz) (hfl : fl = true → refsL xs = [])
    (hw : w'.heap = w.heap) (hwo : Below B w w') (hcap : xs.length ≤ cap) (hrest : cells.length + rest.length = cap * sz) (hfr : fr = (0, 0) ∨ cap * sz ≤ fr.1 := by exact .inl rfl) :
    Res B n0 E H w (.sl ⟨H.length, 0, [], sz * xs.length⟩ sz xs.length 0 xs.length) (newBlk H (.arr sz xs) true fl) false (E.new ⟨w.heap.size, 0, sz * xs.length + rest.length, sz * xs.length⟩)
      (w'.alloc (.cells (cells ++ rest).toArray t fr)) (.slice (some ⟨w.heap.size, 0, none⟩) xs.length cap) := by
  have hl : cells.length = sz * xs.length := by rw [hf.length, sumLen_same hx]
  have hfa : FR E [.arr sz xs] cells := by
    have := FR.arr (e := sz) (vs := []) (cs := []) hf hx .nil
    simpa using this
  obtain ⟨k1, k2⟩ := row_ok (g := true) (rest := rest) (t := t) hs hfa (fl := fl) (fr := fr) (by simpa [AV.refs] using hfl) hw hwo (by rw [hrest]; exact hfr) hl.symm
  refine ⟨k1, ?_, k2 _ (Nat.le_refl _), by simp [newBlk], fun _ => Sub.append hn⟩
  rw [← hs.top]
  exact sl_new rfl rfl hcap (by simp only; omega)

end
end Go.X
