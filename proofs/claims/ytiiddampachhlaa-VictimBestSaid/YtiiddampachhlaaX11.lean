/-
  Operations that write memory or make it: stores, new variables, slices made.
-/
import Derived.Test.YtiiddampachhlaaX10
namespace Go.X
open Go.RowKit (Below)

section
variable {P : Program} {B : Nat} {E E' : Env} {H : Heap} {w w' : World}

theorem below_setCells (b : Nat) (hb : B ≤ b) : ∀ (vs : List Value) (o : Nat) (w : World), Below B w (w.setCells b o vs)
  | [], _, w => Below.refl _ _
  | v :: vs, o, w => by
    rw [World.setCells]
    exact ((Below.refl B w).setCell (p := ⟨b, o, none⟩) hb v).trans (below_setCells b hb vs (o + 1) _)

theorem setCells_some (b : Nat) : ∀ (vs : List Value) (o : Nat) (w : World) (x : Addr), (w.cell? x).isSome = true → ((w.setCells b o vs).cell? x).isSome = true
  | [], _, _, _, h => h
  | v :: vs, o, w, x, h => by
    rw [World.setCells]
    refine setCells_some b vs (o + 1) _ x ?_
    obtain ⟨u, hu⟩ := Option.isSome_iff_exists.1 h
    obtain ⟨v', hv⟩ := Go.RowKit.cell?_setCell_some (w := w) (p := ⟨b, o, none⟩) (x := v) (q := x) (v := u) hu
    rw [hv]; rfl

/-- A part of a live block is written over by a value of the same size. -/
theorem Sim.part (hs : Sim B E H w) {i : Nat} {bk : Blk} {L : Loc} {path : List Nat} {o : Nat} {u u' r : AV} {g fl : Bool} {mid' : List Value} (hb : H.blk i = some bk) (hL : E.loc i = some L)
    (hat : bk.root.at? path = some (o, u)) (hput : bk.root.put? path u' = some r) (hm' : FR E [u'] mid') (hfl : fl = true → r.refs = []) :
    (storeCells ⟨L.b, L.base + o, none⟩ mid').run P w = .ok () (w.setCells L.b (L.base + o) mid') ∧
    Sim B E (H.set i (some ⟨r, g, fl⟩)) (w.setCells L.b (L.base + o) mid') ∧ ∀ k, Tr B k E w E (w.setCells L.b (L.base + o) mid') := by
  obtain ⟨L', hL', hB, hBL⟩ := hs.live _ _ hb
  obtain rfl : L = L' := by rw [hL] at hL'; exact Option.some.inj hL'
  obtain ⟨cs, hf, hlen, hcells⟩ := hB.cs
  obtain ⟨pre, mid, post, rfl, hpre, hm, hml, hr, _⟩ := put_spec _ _ _ _ _ _ _ _ hf hat hput hm'
  have hfit := hB.fits
  have hlen' : pre.length + mid.length + post.length = L.gen := by rw [← hlen]; simp; omega
  have hroom : ∀ j, j < mid'.length → o + j < L.ext := fun j hj => by omega
  have hin := World.cell?_setCells_in L.b mid' (L.base + o) w (fun j hj => by
    rw [Nat.add_assoc]; exact (hB.room (o + j) (hroom j hj)).1)
  have hout : ∀ b q, ¬ (b = L.b ∧ L.base + o ≤ q ∧ q < L.base + o + mid'.length) → (w.setCells L.b (L.base + o) mid').cell? ⟨b, q, none⟩ = w.cell? ⟨b, q, none⟩ := fun b q hq =>
    World.cell?_setCells_out L.b mid' (L.base + o) w ⟨b, q, none⟩ (fun h1 _ => by simp only at h1 ⊢; omega)
  refine ⟨?_, ?_⟩
  · have := run_storeCells_cells (P := P) L.b (L.base + o) mid' 0 w (fun j hj => by
      rw [Nat.add_zero, Nat.add_assoc]; exact (hB.room (o + j) (hroom j hj)).1) (fun j hj => by
      rw [Nat.add_zero, Nat.add_assoc]; exact (hB.room (o + j) (hroom j hj)).2) (fun v hv => hm'.oneCell v hv)
    simpa using this
  · refine hs.write hb hL hr (by simp; omega) hfl (fun j c hj => ?_) (fun j hj => setCells_some _ _ _ _ _ (hB.room j hj).1) (fun b q hq => hout b q (fun hh => hq ?_)) (fun b q => World.frozen?_setCells _ _ _ _ _) (below_setCells _ hBL _ _ _)
    · by_cases h1 : o ≤ j ∧ j < o + mid'.length
      · have h2 := hin (j - o) (by omega)
        rw [show L.base + o + (j - o) = L.base + j by omega] at h2
        rw [h2, ← hj, List.append_assoc, List.getElem?_append_right (by omega), List.getElem?_append_left (by omega), hpre, List.getElem?_eq_getElem (by omega)]
      · rw [hout _ _ (by omega)]
        refine hcells j c ?_
        rw [List.append_assoc] at hj ⊢
        rcases Nat.lt_or_ge j pre.length with h | h
        · rw [List.getElem?_append_left h] at hj ⊢; exact hj
        · rw [List.getElem?_append_right h] at hj ⊢
          rw [List.getElem?_append_right (by omega)] at hj ⊢
          rw [hml] at hj
          exact hj
    · have := hroom (mid'.length - 1)
      unfold Loc.has
      omega

theorem put_refs : ∀ (path : List Nat) (v u r : AV), v.put? path u = some r → ∀ x ∈ r.refs, x ∈ v.refs ∨ x ∈ u.refs
  | [], v, u, r, h, x, hx => by
    have h2 : v.flatLen = u.flatLen ∧ u = r := by cases v <;> simpa [AV.put?] using h
    exact .inr (h2.2 ▸ hx)
  | i :: p, v, u, r, h, x, hx => by
    cases v with
    | agg n ps =>
      simp only [AV.put?, Option.bind_eq_some_iff, Option.map_eq_some_iff] at h
      obtain ⟨q, hq, q', hq', rfl⟩ := h
      simp only [AV.refs] at hx ⊢
      exact refsL_set hq (fun y hy => put_refs p q u q' hq' y hy) hx
    | arr n ps =>
      simp only [AV.put?, Option.bind_eq_some_iff, Option.map_eq_some_iff] at h
      obtain ⟨q, hq, q', hq', rfl⟩ := h
      simp only [AV.refs] at hx ⊢
      exact refsL_set hq (fun y hy => put_refs p q u q' hq' y hy) hx
    | _ => simp [AV.put?] at h
where
  refsL_set : ∀ {ps : List AV} {i : Nat} {q q' u : AV} {x : Nat}, ps[i]? = some q → (∀ y ∈ q'.refs, y ∈ q.refs ∨ y ∈ u.refs) → x ∈ refsL (ps.set i q') → x ∈ refsL ps ∨ x ∈ u.refs
    | p :: ps, 0, q, q', u, x, hq, h, hx => by
      simp only [List.getElem?_cons_zero, Option.some.injEq] at hq
      subst hq
      simp only [List.set_cons_zero, refsL, List.mem_append] at hx ⊢
      rcases hx with hx | hx
      · rcases h x hx with h | h
        · exact .inl (.inl h)
        · exact .inr h
      · exact .inl (.inr hx)
    | p :: ps, i + 1, q, q', u, x, hq, h, hx => by
      simp only [List.set_cons_succ, refsL, List.mem_append] at hx ⊢
      rcases hx with hx | hx
      · exact .inl (.inl hx)
      · rcases refsL_set (by simpa using hq) h hx with h | h
        · exact .inl (.inr h)
        · exact .inr h

/-- Old blocks' references only get fewer. -/
def Sub (n0 : Nat) (H H' : Heap) : Prop := ∀ i, i < n0 → ∀ b', H'.blk i = some b' → ∃ b, H.blk i = some b ∧ ∀ x ∈ b'.root.refs, x ∈ b.root.refs

theorem Sub.refl (n0 : Nat) (H : Heap) : Sub n0 H H := fun _ _ b h => ⟨b, h, fun _ h => h⟩
theorem Sub.trans {n0 : Nat} {H H1 H2 : Heap} (h : Sub n0 H H1) (g : Sub n0 H1 H2) : Sub n0 H H2 := fun i hi b h2 => by
  obtain ⟨b1, h1, k1⟩ := g i hi b h2
  obtain ⟨b0, h0, k0⟩ := h i hi b1 h1
  exact ⟨b0, h0, fun x hx => k0 x (k1 x hx)⟩
theorem Sub.mono {n0 n1 : Nat} {H H' : Heap} (h : Sub n0 H H') (hn : n1 ≤ n0) : Sub n1 H H' := fun i hi => h i (by omega)

theorem Sub.set {n0 i : Nat} {H : Heap} {bk : Blk} {x : Option Blk} (hb : H.blk i = some bk) (h : i < n0 → ∀ b, x = some b → ∀ y ∈ b.root.refs, y ∈ bk.root.refs) : Sub n0 H (H.set i x) := fun j hj b' hb' => by
  rw [Heap.blk_set (Heap.blk_some hb)] at hb'
  split at hb'
  · rename_i hij
    subst hij
    exact ⟨bk, hb, h hj b' hb'⟩
  · exact ⟨b', hb', fun _ h => h⟩

theorem Sub.append {n0 : Nat} {H : Heap} {x : Option Blk} (hn : n0 ≤ H.length) : Sub n0 H (H ++ [x]) := fun j hj b' hb' => by
  rw [Heap.blk_append, if_neg (by omega)] at hb'
  exact ⟨b', hb', fun _ h => h⟩

/-- What an operation comes to. -/
structure Res (B n0 : Nat) (E : Env) (H : Heap) (w : World) (v : AV) (H' : Heap) (e : Bool) (E' : Env) (w' : World) (c : Value) : Prop where
  sim : Sim B E' H' w'
  val : VR E' v c
  tr : Tr B H.length E w E' w'
  len : H.length ≤ H'.length
  sub : e = false → Sub n0 H H'

theorem Res.same {n0 : Nat} {e : Bool} (hs : Sim B E H w) {v : AV} {c : Value} (hv : VR E v c) : Res B n0 E H w v H e E w c :=
  ⟨hs, hv, Tr.refl _ _ _ _, Nat.le_refl _, fun _ => Sub.refl _ _⟩

theorem store_ok {n0 : Nat} (hs : Sim B E H w) {t : TypeId} {a v : AV} {ca cv : Value} {H' : Heap} (ha : VR E a ca) (hv : VR E v cv) (h : storeAV P H t a v = some H') :
    ∃ w', (Instr.storeAt t ca cv).run P w = .ok () w' ∧ Res B n0 E H w .bad H' (storeFlag n0 a v) E w' undef := by
  cases a <;> simp only [storeAV, reduceCtorEq] at h
  rename_i p
  simp only [Option.bind_eq_some_iff] at h
  obtain ⟨bk, hb, ⟨o, u⟩, hat, r, hput, h⟩ := h
  split at h
  · rename_i hc
    obtain ⟨hg, ho, hsz, hp⟩ := hc
    obtain rfl := Option.some.inj h
    obtain ⟨ad, rfl, _, had⟩ := PR.ptr_inv (show PR E (.ptr p) ca from ha)
    obtain ⟨L, hL, hB, _, hgen⟩ := hs.at hb hg
    have had' : ad = ⟨L.b, L.base + o, none⟩ := by
      simp only at ho
      rcases had L hL with h | h
      · omega
      · rw [ho]; exact h.2
    subst had'
    have hcv := (hv.toPR hp).cells
    have hfl : (bk.flat && v.refless) = true → r.refs = [] := fun hfl => by
      simp only [Bool.and_eq_true] at hfl
      have h1 := hs.flat _ _ hb hfl.1
      have h2 := FR.evol.refs_of_refless hfl.2
      refine List.eq_nil_iff_forall_not_mem.2 (fun x hx => ?_)
      rcases put_refs _ _ _ _ hput x hx with h | h
      · simp [h1] at h
      · simp [h2] at h
    obtain ⟨k1, k2, k3⟩ := hs.part (P := P) (g := bk.grow) hb hL hat hput hcv hfl
    have hcs : cv.cells.size = v.flatLen := by
      have := hcv.length
      simpa [sumLen] using this
    refine ⟨_, ?_, k2, trivial, k3 _, by simp, fun he => ?_⟩
    · simp only [Instr.storeAt, Instr.sureAddr, Sem.run_bind, Sem.run_pure, Result.andThen_ok, storeVar, run_sizeOf' hsz, hcs]
      simpa using k1
    · refine Sub.set hb (fun hi b hb' y hy => ?_)
      obtain rfl := Option.some.inj hb'
      simp only [storeFlag, escapes, Bool.and_eq_false_iff, Bool.not_eq_false'] at he
      rcases he with he | he
      · simp at he; omega
      · rcases put_refs _ _ _ _ hput y hy with h | h
        · exact h
        · simp [FR.evol.refs_of_refless he] at h
  · simp at h

theorem alloc_at (w' : World) (c : Array Value) (t : TypeId) (fr : Nat × Nat) (j : Nat) : (w'.alloc (.cells c t fr)).cell? ⟨w'.heap.size, j, none⟩ = c[j]? ∧ (w'.alloc (.cells c t fr)).frozen? ⟨w'.heap.size, j, none⟩ = (decide (fr.1 ≤ j) && decide (j < fr.2)) := by
  have h : (w'.alloc (.cells c t fr)).heap[w'.heap.size]? = some (.cells c t fr) := by
    show (w'.heap.push (.cells c t fr))[w'.heap.size]? = some (.cells c t fr)
    simp
  constructor
  · unfold World.cell?
    rw [h]
    rfl
  · unfold World.frozen?
    rw [h]

/-- A new row of cells. -/
theorem row_ok (hs : Sim B E H w) {r : AV} {cs rest : List Value} {t : TypeId} {g fl : Bool} {fr : Nat × Nat} (hf : FR E [r] cs) (hfl : fl = true → r.refs = []) {n : Nat} (hw : w'.heap = w.heap) (hwo : Below B w w')
    (hfr : fr = (0, 0) ∨ cs.length + rest.length ≤ fr.1) :
    n = cs.length →
    Sim B (E.new ⟨w.heap.size, 0, n + rest.length, n⟩) (H ++ [some ⟨r, g, fl⟩]) (w'.alloc (.cells (cs ++ rest).toArray t fr)) ∧ ∀ k, k ≤ H.length → Tr B k E w (E.new ⟨w.heap.size, 0, n + rest.length, n⟩) (w'.alloc (.cells (cs ++ rest).toArray t fr)) := by
  intro hnl
  have hsz : w'.heap.size = w.heap.size := by rw [hw]
  have hat := alloc_at w' (cs ++ rest).toArray t fr
  rw [hsz] at hat
  refine hs.new hf hnl.symm (Nat.le_add_right _ _) hfl (Nat.le_refl _) (fun j c hj => ?_) (fun j hj => ⟨?_, ?_⟩) (fun b o hb => ⟨?_, ?_⟩) (hwo.trans ((Below.refl B w').alloc (by rw [hsz]; exact hs.old) _))
  · have hjl : j < cs.length := by
      rcases Nat.lt_or_ge j cs.length with h | h
      · exact h
      · simp [List.getElem?_eq_none h] at hj
    simp only [Nat.zero_add]
    rw [(hat j).1, List.getElem?_toArray, List.getElem?_append_left hjl]
    exact hj
  · simp only at hj
    simp only [Nat.zero_add]
    rw [(hat j).1, List.getElem?_toArray, List.getElem?_eq_getElem (by simp; omega)]
    rfl
  · simp only at hj
    simp only [Nat.zero_add]
    rw [(hat j).2]
    rcases hfr with rfl | h
    · simp
    · simp; omega
  · have : (w'.alloc (.cells (cs ++ rest).toArray t fr)).cell? ⟨b, o, none⟩ = w'.cell? ⟨b, o, none⟩ := by
      refine World.cell?_of_block (Below.heap_alloc w' _ b ?_)
      rw [hsz]; exact hb
    rw [this]
    simp [World.cell?, hw]
  · have : (w'.alloc (.cells (cs ++ rest).toArray t fr)).frozen? ⟨b, o, none⟩ = w'.frozen? ⟨b, o, none⟩ := by
      refine World.frozen?_of_block (Below.heap_alloc w' _ b ?_)
      rw [hsz]; exact hb
    rw [this]
    simp [World.frozen?, hw]

theorem ptr_new {E : Env} {L : Loc} {v : AV} (hg : v.flatLen = L.gen) (hb : L.base = 0) : VR (E.new L) (.ptr ⟨E.top, 0, [], v.flatLen⟩) (.pointer (some ⟨L.b, 0, none⟩)) := by
  refine .of_PR (v := .ptr _) ⟨[_], .ptr (Nat.lt_succ_self _) (fun L' hL' => .inr ?_) .nil, rfl⟩
  simp only [Env.new, if_pos] at hL'
  obtain rfl := Option.some.inj hL'
  exact ⟨hg, by simp [hb]⟩

theorem newVar_ok {n0 : Nat} (hs : Sim B E H w) (hn : n0 ≤ H.length) {v : AV} {cv : Value} {t : TypeId} (hv : FR E [v] cv.cells.toList) :
    (newVar t cv).run P w = .ok ⟨w.heap.size, 0, none⟩ (w.alloc (.cells cv.cells t)) ∧
    Res B n0 E H w (newVarAV H v).1 (newVarAV H v).2 false (E.new ⟨w.heap.size, 0, v.flatLen, v.flatLen⟩) (w.alloc (.cells cv.cells t)) (.pointer (some ⟨w.heap.size, 0, none⟩)) := by
  have hl := hv.length
  simp only [sumLen, Nat.add_zero] at hl
  have := row_ok (w' := w) (g := false) (fl := v.refless) (rest := []) (t := t) (fr := (0, 0)) hs hv (fun h => FR.evol.refs_of_refless h) rfl (Below.refl _ _) (.inl rfl) hl.symm
  simp only [List.append_nil, List.length_nil, Nat.add_zero, Array.toArray_toList] at this
  refine ⟨by simp [newVar, newRow], this.1, ?_, this.2 _ (Nat.le_refl _), by simp [newVarAV, newBlk], fun _ => Sub.append hn⟩
  rw [newVarAV, ← hs.top]
  exact ptr_new rfl rfl

theorem alloc_ok {n0 : Nat} (hs : Sim B E H w) (hn : n0 ≤ H.length) {z : AV} {t : TypeId} (hz : zeroAV P t = some z) :
    ∃ c w' E', (Instr.alloc t true (.tuple #[])).run P w = .ok c w' ∧ Res B n0 E H w (newVarAV H z).1 (newVarAV H z).2 false E' w' c := by
  obtain ⟨i, zv, hi, hiz, hf, _, _⟩ := zero_spec (E := E) hz
  obtain ⟨h1, h2⟩ := newVar_ok (P := P) hs hn (t := t) hf
  exact ⟨_, _, _, by simp [Instr.alloc, run_zeroValue' hi hiz, h1], h2⟩

theorem box_ok {n0 : Nat} (hs : Sim B E H w) (hn : n0 ≤ H.length) {v : AV} {cv : Value} {t : TypeId} (hv : VR E v cv) (hp : v.plain = true) :
    ∃ c w' E', (Instr.box t cv).run P w = .ok c w' ∧ Res B n0 E H w (newVarAV H v).1 (newVarAV H v).2 false E' w' c := by
  obtain ⟨h1, h2⟩ := newVar_ok (P := P) hs hn (t := t) (hv.toPR hp).cells
  exact ⟨_, _, _, by simp [Instr.box, h1], h2⟩

end
end Go.X
