/-
  What keeps the abstract memory true of the world: a block written, a new block, a block that grew, blocks given up.
-/
import Derived.Test.YtkkbnchpedacjaaGreatDoorXa
import Derived.ChangeKeysEq
import Derived.Laws.StructEq
import Derived.Laws.Tables
import Derived.Great.FillDense
import Derived.Great.BuildSlice

namespace Go.X
open Go.RowKit (Below)

section
variable {P : Program} {B : Nat} {E E' : Env} {H : Heap} {w w' : World}

theorem BlkAt.later {bk : Blk} {L : Loc} {k : Nat} (h : BlkAt E bk L w) (he : Evol k E E') (hk : k ≤ E'.top) (hr : ∀ r ∈ bk.root.refs, r < k)
    (hc : ∀ j, j < L.ext → w'.cell? ⟨L.b, L.base + j, none⟩ = w.cell? ⟨L.b, L.base + j, none⟩ ∧ w'.frozen? ⟨L.b, L.base + j, none⟩ = w.frozen? ⟨L.b, L.base + j, none⟩) : BlkAt E' bk L w' := by
  obtain ⟨⟨cs, h1, h2, h3⟩, h4, h5⟩ := h
  refine ⟨⟨cs, h1.evol he hk (by simpa [refsL] using hr), h2, fun j c hj => ?_⟩, h4, fun j hj => ?_⟩
  · have hlt : j < cs.length := by
      rcases Nat.lt_or_ge j cs.length with h | h
      · exact h
      · simp [List.getElem?_eq_none h] at hj
    rw [(hc j (by omega)).1]
    exact h3 j c hj
  · rw [(hc j hj).1, (hc j hj).2]
    exact h5 j hj

theorem BlkAt.refs_lt {bk : Blk} {L : Loc} (h : BlkAt E bk L w) : ∀ r ∈ bk.root.refs, r < E.top := by
  obtain ⟨⟨cs, h1, _⟩, _⟩ := h
  have := h1.refs_lt
  simpa [refsL] using this

theorem Sim.lt (hs : Sim B E H w) {i : Nat} {L : Loc} (h : E.loc i = some L) : i < H.length := by
  obtain ⟨bk, hb⟩ := hs.dead i L h
  exact Heap.blk_some hb

theorem Sim.loc_lt (hs : Sim B E H w) {i : Nat} {L : Loc} (h : E.loc i = some L) {j : Nat} (hj : j < L.ext) : L.b < w.heap.size := by
  obtain ⟨bk, hb⟩ := hs.dead i L h
  obtain ⟨L', h1, h2, _⟩ := hs.live i bk hb
  obtain rfl : L = L' := by rw [h] at h1; exact Option.some.inj h1
  have := (h2.room j hj).1
  obtain ⟨c, hc⟩ := Option.isSome_iff_exists.1 this
  exact World.block_lt_of_cell? w _ hc

/-- A block is written, and nothing else. -/
theorem Sim.write (hs : Sim B E H w) {i : Nat} {bk : Blk} {L : Loc} {r : AV} {g fl : Bool} {cs' : List Value} (hb : H.blk i = some bk) (hL : E.loc i = some L)
    (hf : FR E [r] cs') (hlen : cs'.length = L.gen) (hfl : fl = true → r.refs = [])
    (hcell : ∀ j c, cs'[j]? = some c → w'.cell? ⟨L.b, L.base + j, none⟩ = some c)
    (hroom : ∀ j, j < L.ext → (w'.cell? ⟨L.b, L.base + j, none⟩).isSome = true)
    (hout : ∀ b o, ¬ L.has b o → w'.cell? ⟨b, o, none⟩ = w.cell? ⟨b, o, none⟩) (hfrz : ∀ b o, w'.frozen? ⟨b, o, none⟩ = w.frozen? ⟨b, o, none⟩) (hbel : Bel B w w') :
    Sim B E (H.set i (some ⟨r, g, fl⟩)) w' ∧ ∀ k, Tr B k E w E w' := by
  have hi := Heap.blk_some hb
  refine ⟨⟨by simp [hs.top], fun j bk' hj => ?_, fun j L' hj => ?_, hs.apart, fun b o c hc => ?_, hs.immApart, fun j bk' hj hfl' => ?_, Nat.le_trans hs.old hbel.size, fun j es hj => ?_, fun j b hj => ?_, hs.mapart⟩, fun k => ⟨hbel.toBelow, Evol.refl _ _, fun b o _ hn => ?_, fun _ _ _ h => h, fun _ _ _ _ h => .inl h, fun j o ho hn _ => hbel.objs j o ho hn, fun _ _ h => h⟩⟩
  · rw [Heap.blk_set hi hf.noMap] at hj
    split at hj
    · rename_i hij
      subst hij
      obtain rfl := Option.some.inj hj
      obtain ⟨L', h1, h2, h3⟩ := hs.live _ _ hb
      obtain rfl : L = L' := by rw [hL] at h1; exact Option.some.inj h1
      exact ⟨L, hL, ⟨⟨cs', hf, hlen, hcell⟩, h2.fits, fun j hj => ⟨hroom j hj, by rw [hfrz]; exact (h2.room j hj).2⟩⟩, h3⟩
    · rename_i hij
      obtain ⟨L', h1, h2, h3⟩ := hs.live _ _ hj
      refine ⟨L', h1, h2.later (k := E.top) (Evol.refl _ _) (Nat.le_refl _) h2.refs_lt (fun q hq => ⟨hout _ _ (fun hh => ?_), hfrz _ _⟩), h3⟩
      exact hs.apart i j L L' hL h1 hij _ _ hh ⟨rfl, by omega, by omega⟩
  · rw [Heap.blk_set hi hf.noMap]
    split
    · exact ⟨_, rfl⟩
    · exact hs.dead j L' hj
  · rw [hout b o (fun hh => hs.immApart b o c hc ⟨i, L, hL, hh⟩)]
    exact hs.imm b o c hc
  · rw [Heap.blk_set hi hf.noMap] at hj
    split at hj
    · obtain rfl := Option.some.inj hj
      exact hfl hfl'
    · exact hs.flat _ _ hj hfl'
  · rw [Heap.mp_set hi hf.noMap] at hj
    split at hj
    · cases hj
    · obtain ⟨b, h1, h2, h3⟩ := hs.mlive j es hj
      exact ⟨b, h1, h2.keeps hbel, h3⟩
  · obtain ⟨es, he⟩ := hs.mdead j b hj
    refine ⟨es, ?_⟩
    rw [Heap.mp_set hi hf.noMap, if_neg]
    · exact he
    · intro e
      subst e
      rw [Heap.mp_blk hb] at he
      cases he
  · exact ⟨hout b o (fun hh => hn ⟨i, L, hL, hh⟩), hfrz b o⟩

def Env.new (E : Env) (L : Loc) : Env := ⟨fun i => if i = E.top then some L else E.loc i, E.m, E.top + 1, E.mloc, E.yl⟩

theorem Env.new_evol (L : Loc) : Evol E.top E (E.new L) := by
  refine ⟨fun i hi L' h => ?_, fun _ _ _ h => h, fun _ _ _ h => h, rfl⟩
  simp only [Env.new] at h
  rw [if_neg (by omega)] at h
  exact ⟨L', h, .inl rfl⟩

/-- A new block. -/
theorem Sim.new (hs : Sim B E H w) {L : Loc} {r : AV} {g fl : Bool} {cs : List Value} (hf : FR E [r] cs) (hlen : cs.length = L.gen) (hfits : L.gen ≤ L.ext) (hfl : fl = true → r.refs = [])
    (hnew : w.heap.size ≤ L.b)
    (hcell : ∀ j c, cs[j]? = some c → w'.cell? ⟨L.b, L.base + j, none⟩ = some c)
    (hroom : ∀ j, j < L.ext → (w'.cell? ⟨L.b, L.base + j, none⟩).isSome = true ∧ w'.frozen? ⟨L.b, L.base + j, none⟩ = false)
    (hold : ∀ b o, b < w.heap.size → w'.cell? ⟨b, o, none⟩ = w.cell? ⟨b, o, none⟩ ∧ w'.frozen? ⟨b, o, none⟩ = w.frozen? ⟨b, o, none⟩) (hbel : Bel B w w') :
    Sim B (E.new L) (H ++ [some ⟨r, g, fl⟩]) w' ∧ (∀ k, k ≤ H.length → Tr B k E w (E.new L) w') := by
  have hev : Evol E.top E (E.new L) := Env.new_evol L
  have htop : (E.new L).top = E.top + 1 := rfl
  have hloc : ∀ i, (E.new L).loc i = if i = E.top then some L else E.loc i := fun i => rfl
  have hb0 := hs.old
  refine ⟨⟨by simp [htop, hs.top], fun j bk' hj => ?_, fun j L' hj => ?_, fun i j Li Lj hi hj hij b o => ?_, fun b o c hc => ?_, fun b o c hc hin => ?_, fun j bk' hj hfl' => ?_, Nat.le_trans hs.old hbel.size, fun j es hj => ?_, fun j b hj => ?_, hs.mapart⟩, fun k hk => ⟨hbel.toBelow, hev.mono (by rw [hs.top]; exact hk), fun b o hb _ => hold b o hb, fun b o hb hin => ?_, fun _ _ _ _ h => .inl h, fun j o ho hn _ => hbel.objs j o ho hn, fun _ _ h => h⟩⟩
  · rw [Heap.blk_append hf.noMap] at hj
    split at hj
    · rename_i hij
      obtain rfl := Option.some.inj hj
      refine ⟨L, by rw [hloc, if_pos (by rw [hs.top]; exact hij)], ⟨⟨cs, hf.later hev (by omega), hlen, hcell⟩, hfits, hroom⟩, by omega⟩
    · rename_i hij
      obtain ⟨L', h1, h2, h3⟩ := hs.live _ _ hj
      refine ⟨L', by rw [hloc, if_neg (by rw [hs.top]; exact hij)]; exact h1, h2.later (k := E.top) hev (by omega) h2.refs_lt (fun q hq => hold _ _ (hs.loc_lt h1 hq)), h3⟩
  · rw [Heap.blk_append hf.noMap]
    rw [hloc] at hj
    split
    · exact ⟨_, rfl⟩
    · rename_i hij
      rw [if_neg (by rw [hs.top]; exact hij)] at hj
      exact hs.dead j L' hj
  · rw [hloc] at hi hj
    intro hLi hLj
    split at hi <;> split at hj
    · omega
    · obtain rfl := Option.some.inj hi
      have := hs.loc_lt hj (j := o - Lj.base) (by have := hLj; unfold Loc.has at this; omega)
      have h1 := hLi.1
      have h2 := hLj.1
      omega
    · obtain rfl := Option.some.inj hj
      have := hs.loc_lt hi (j := o - Li.base) (by have := hLi; unfold Loc.has at this; omega)
      have h1 := hLi.1
      have h2 := hLj.1
      omega
    · exact hs.apart i j Li Lj hi hj hij b o hLi hLj
  · have h1 := hs.imm b o c hc
    rw [(hold b o (World.block_lt_of_cell? w _ h1)).1]
    exact h1
  · obtain ⟨i, Li, hi, hh⟩ := hin
    rw [hloc] at hi
    split at hi
    · obtain rfl := Option.some.inj hi
      have h1 := World.block_lt_of_cell? w _ (hs.imm b o c hc)
      have h2 := hh.1
      simp only at h1
      omega
    · exact hs.immApart b o c hc ⟨i, Li, hi, hh⟩
  · rw [Heap.blk_append hf.noMap] at hj
    split at hj
    · obtain rfl := Option.some.inj hj
      exact hfl hfl'
    · exact hs.flat _ _ hj hfl'
  · rw [Heap.mp_append hf.noMap] at hj
    obtain ⟨b, h1, h2, h3⟩ := hs.mlive j es hj
    exact ⟨b, h1, h2.keeps hbel, h3⟩
  · obtain ⟨es, he⟩ := hs.mdead j b hj
    exact ⟨es, by rw [Heap.mp_append hf.noMap]; exact he⟩
  · obtain ⟨i, Li, hi, hh⟩ := hin
    rw [hloc] at hi
    split at hi
    · obtain rfl := Option.some.inj hi
      have h2 := hh.1
      omega
    · exact ⟨i, Li, hi, hh⟩

/-- A block that was made before is taken up. -/
theorem Sim.adopt (hs : Sim B E H w) {L : Loc} {bk : Blk} {cs : List Value} (hf : FR E [bk.root] cs) (hlen : cs.length = L.gen) (hfits : L.gen ≤ L.ext) (hfl : bk.flat = true → bk.root.refs = []) (hB : B ≤ L.b)
    (hcell : ∀ j c, cs[j]? = some c → w.cell? ⟨L.b, L.base + j, none⟩ = some c)
    (hroom : ∀ j, j < L.ext → (w.cell? ⟨L.b, L.base + j, none⟩).isSome = true ∧ w.frozen? ⟨L.b, L.base + j, none⟩ = false)
    (hout : ∀ b o, L.has b o → ¬ InE E b o ∧ E.m b o = none) : Sim B (E.new L) (H ++ [some bk]) w := by
  have hnm : noMap (some bk) := by obtain ⟨r, g, f⟩ := bk; exact hf.noMap
  have hev : Evol E.top E (E.new L) := Env.new_evol L
  have htop : (E.new L).top = E.top + 1 := rfl
  have hloc : ∀ i, (E.new L).loc i = if i = E.top then some L else E.loc i := fun i => rfl
  refine ⟨by simp [htop, hs.top], fun j bk' hj => ?_, fun j L' hj => ?_, fun i j Li Lj hi hj hij b o => ?_, fun b o c hc => hs.imm b o c hc, fun b o c hc hin => ?_, fun j bk' hj hfl' => ?_, hs.old, fun j es hj => ?_, fun j b hj => ?_, hs.mapart⟩
  · rw [Heap.blk_append hnm] at hj
    split at hj
    · rename_i hij
      obtain rfl := Option.some.inj hj
      exact ⟨L, by rw [hloc, if_pos (by rw [hs.top]; exact hij)], ⟨⟨cs, hf.later hev (by omega), hlen, hcell⟩, hfits, hroom⟩, hB⟩
    · rename_i hij
      obtain ⟨L', h1, h2, h3⟩ := hs.live _ _ hj
      exact ⟨L', by rw [hloc, if_neg (by rw [hs.top]; exact hij)]; exact h1, h2.later (k := E.top) hev (by omega) h2.refs_lt (fun q hq => ⟨rfl, rfl⟩), h3⟩
  · rw [Heap.blk_append hnm]
    rw [hloc] at hj
    split
    · exact ⟨_, rfl⟩
    · rename_i hij
      rw [if_neg (by rw [hs.top]; exact hij)] at hj
      exact hs.dead j L' hj
  · rw [hloc] at hi hj
    intro hLi hLj
    split at hi <;> split at hj
    · omega
    · obtain rfl := Option.some.inj hi
      exact (hout b o hLi).1 ⟨j, Lj, hj, hLj⟩
    · obtain rfl := Option.some.inj hj
      exact (hout b o hLj).1 ⟨i, Li, hi, hLi⟩
    · exact hs.apart i j Li Lj hi hj hij b o hLi hLj
  · obtain ⟨i, Li, hi, hh⟩ := hin
    rw [hloc] at hi
    split at hi
    · obtain rfl := Option.some.inj hi
      have hc' : E.m b o = some c := hc
      rw [(hout b o hh).2] at hc'
      simp at hc'
    · exact hs.immApart b o c hc ⟨i, Li, hi, hh⟩
  · rw [Heap.blk_append hnm] at hj
    split at hj
    · obtain rfl := Option.some.inj hj
      exact hfl hfl'
    · exact hs.flat _ _ hj hfl'
  · rw [Heap.mp_append hnm] at hj
    exact hs.mlive j es hj
  · obtain ⟨es, he⟩ := hs.mdead j b hj
    exact ⟨es, by rw [Heap.mp_append hnm]; exact he⟩

def Env.put (E : Env) (i : Nat) (L : Loc) : Env := ⟨fun j => if j = i then some L else E.loc j, E.m, E.top, E.mloc, E.yl⟩

/-- A block that grew: at its place, or at a new one. -/
theorem Sim.grow (hs : Sim B E H w) {i : Nat} {bk : Blk} {L L' : Loc} {r : AV} {g fl : Bool} {cs' : List Value} (hb : H.blk i = some bk) (hL : E.loc i = some L)
    (hgen : L.gen < L'.gen) (hf : FR E [r] cs') (hlen : cs'.length = L'.gen) (hfits : L'.gen ≤ L'.ext) (hfl : fl = true → r.refs = [])
    (hwhere : (L'.b = L.b ∧ L'.base = L.base ∧ L'.ext = L.ext) ∨ w.heap.size ≤ L'.b)
    (hcell : ∀ j c, cs'[j]? = some c → w'.cell? ⟨L'.b, L'.base + j, none⟩ = some c)
    (hroom : ∀ j, j < L'.ext → (w'.cell? ⟨L'.b, L'.base + j, none⟩).isSome = true ∧ w'.frozen? ⟨L'.b, L'.base + j, none⟩ = false)
    (hold : ∀ b o, b < w.heap.size → ¬ L.has b o → w'.cell? ⟨b, o, none⟩ = w.cell? ⟨b, o, none⟩ ∧ w'.frozen? ⟨b, o, none⟩ = w.frozen? ⟨b, o, none⟩) (hbel : Bel B w w') :
    Sim B (E.put i L') (H.set i (some ⟨r, g, fl⟩)) w' ∧ ∀ k, Tr B k E w (E.put i L') w' := by
  have hi := Heap.blk_some hb
  have hloc : ∀ j, (E.put i L').loc j = if j = i then some L' else E.loc j := fun j => rfl
  have hev : ∀ k, Evol k E (E.put i L') := fun k => by
    refine ⟨fun j _ L1 h => ?_, fun _ _ _ h => h, fun _ _ _ h => h, rfl⟩
    rw [hloc] at h
    split at h
    · rename_i hji
      subst hji
      obtain rfl := Option.some.inj h
      exact ⟨L, hL, .inr hgen⟩
    · exact ⟨L1, h, .inl rfl⟩
  have htop : (E.put i L').top = E.top := rfl
  obtain ⟨L0, hL0, hBk, hBL⟩ := hs.live _ _ hb
  obtain rfl : L = L0 := by rw [hL] at hL0; exact Option.some.inj hL0
  have hBL' : B ≤ L'.b := by
    rcases hwhere with ⟨h, _⟩ | h
    · omega
    · exact Nat.le_trans hs.old h
  have hsub : ∀ b o, b < w.heap.size → L'.has b o → L.has b o := fun b o hbs hh => by
    rcases hwhere with ⟨h1, h2, h3⟩ | h
    · unfold Loc.has at hh ⊢; omega
    · have := hh.1; omega
  have hin : ∀ b o, b < w.heap.size → InE (E.put i L') b o → InE E b o := fun b o hbs ⟨j, Lj, hj, hh⟩ => by
    rw [hloc] at hj
    split at hj
    · obtain rfl := Option.some.inj hj
      exact ⟨i, L, hL, hsub b o hbs hh⟩
    · exact ⟨j, Lj, hj, hh⟩
  refine ⟨⟨by simp [htop, hs.top], fun j bk' hj => ?_, fun j L1 hj => ?_, fun j k Lj Lk hj hk hjk b o => ?_, fun b o c hc => ?_, fun b o c hc hii => ?_, fun j bk' hj hfl' => ?_, Nat.le_trans hs.old hbel.size, fun j es hj => ?_, fun j b hj => ?_, hs.mapart⟩, fun k => ⟨hbel.toBelow, hev k, fun b o hbs hn => hold b o hbs (fun hh => hn ⟨i, L, hL, hh⟩), hin, fun _ _ _ _ h => .inl h, fun j o ho hn _ => hbel.objs j o ho hn, fun _ _ h => h⟩⟩
  · rw [Heap.blk_set hi hf.noMap] at hj
    split at hj
    · rename_i hij
      subst hij
      obtain rfl := Option.some.inj hj
      exact ⟨L', by rw [hloc, if_pos rfl], ⟨⟨cs', hf.later (hev _) (Nat.le_refl _), hlen, hcell⟩, hfits, hroom⟩, hBL'⟩
    · rename_i hij
      obtain ⟨Lj, h1, h2, h3⟩ := hs.live _ _ hj
      refine ⟨Lj, by rw [hloc, if_neg (fun e => hij e.symm)]; exact h1, h2.later (k := E.top) (hev _) (Nat.le_refl _) h2.refs_lt (fun q hq => hold _ _ (hs.loc_lt h1 hq) (fun hh => ?_)), h3⟩
      exact hs.apart i j L Lj hL h1 hij _ _ hh ⟨rfl, by omega, by omega⟩
  · rw [Heap.blk_set hi hf.noMap]
    split
    · exact ⟨_, rfl⟩
    · rename_i hij
      rw [hloc, if_neg (fun e => hij e.symm)] at hj
      exact hs.dead j L1 hj
  · rw [hloc] at hj hk
    intro h1 h2
    split at hj <;> split at hk
    · omega
    · rename_i hji hki
      obtain rfl := Option.some.inj hj
      have hbs := hs.loc_lt hk (j := o - Lk.base) (by have := h2; unfold Loc.has at this; omega)
      rw [h2.1] at hbs
      exact hs.apart i k L Lk hL hk (fun e => hki e.symm) b o (hsub b o hbs h1) h2
    · rename_i hji hki
      obtain rfl := Option.some.inj hk
      have hbs := hs.loc_lt hj (j := o - Lj.base) (by have := h1; unfold Loc.has at this; omega)
      rw [h1.1] at hbs
      exact hs.apart i j L Lj hL hj (fun e => hji e.symm) b o (hsub b o hbs h2) h1
    · exact hs.apart j k Lj Lk hj hk hjk b o h1 h2
  · have h1 := hs.imm b o c hc
    rw [(hold b o (World.block_lt_of_cell? w _ h1) (fun hh => hs.immApart b o c hc ⟨i, L, hL, hh⟩)).1]
    exact h1
  · have h1 := World.block_lt_of_cell? w _ (hs.imm b o c hc)
    exact hs.immApart b o c hc (hin b o h1 hii)
  · rw [Heap.blk_set hi hf.noMap] at hj
    split at hj
    · obtain rfl := Option.some.inj hj
      exact hfl hfl'
    · exact hs.flat _ _ hj hfl'
  · rw [Heap.mp_set hi hf.noMap] at hj
    split at hj
    · cases hj
    · obtain ⟨b, h1, h2, h3⟩ := hs.mlive j es hj
      exact ⟨b, h1, h2.keeps hbel, h3⟩
  · obtain ⟨es, he⟩ := hs.mdead j b hj
    refine ⟨es, ?_⟩
    rw [Heap.mp_set hi hf.noMap, if_neg]
    · exact he
    · intro e
      subst e
      rw [Heap.mp_blk hb] at he
      cases he

/-- Some blocks are given up; what was theirs may be told as never to change. -/
theorem Sim.less (hs : Sim B E H w) {H' : Heap} (htop : E'.top = H'.length) (hle : ∀ i bk, H'.blk i = some bk → H.blk i = some bk ∧ ∀ r ∈ bk.root.refs, r < E'.top)
    (hloc : ∀ i, E'.loc i = if (H'.blk i).isSome then E.loc i else none) (hlem : ∀ i es, H'.mp i = some es → H.mp i = some es) (hmloc : ∀ i, E'.mloc i = if (H'.mp i).isSome then E.mloc i else none) (hm : ∀ b o c, E.m b o = some c → E'.m b o = some c)
    (hm2 : ∀ b o c, E'.m b o = some c → w.cell? ⟨b, o, none⟩ = some c ∧ ¬ InE E' b o) (hm3 : ∀ b o c, E'.m b o = some c → E.m b o = some c ∨ InE E b o) (hyl : E'.yl = E.yl := by rfl) :
    Sim B E' H' w ∧ ∀ k, Tr B k E w E' w := by
  have hev : ∀ k, Evol k E E' := fun k => ⟨fun i _ L h => by
    rw [hloc] at h
    split at h
    · exact ⟨L, h, .inl rfl⟩
    · simp at h, hm, fun i _ b h => by
    rw [hmloc] at h
    split at h
    · exact h
    · exact absurd h (by simp), hyl⟩
  have hinM : ∀ j, InM E' j → InM E j := fun j ⟨i, hi⟩ => by
    rw [hmloc] at hi
    split at hi
    · exact ⟨i, hi⟩
    · cases hi
  have hin : ∀ b o, InE E' b o → InE E b o := fun b o ⟨i, L, hi, hh⟩ => by
    rw [hloc] at hi
    split at hi
    · exact ⟨i, L, hi, hh⟩
    · simp at hi
  refine ⟨⟨htop, fun i bk hi => ?_, fun i L hi => ?_, fun i j Li Lj hi hj hij => ?_, fun b o c hc => (hm2 b o c hc).1, fun b o c hc => (hm2 b o c hc).2, fun i bk hi hf => hs.flat i bk (hle i bk hi).1 hf, hs.old, fun i es hi => ?_, fun i b hi => ?_, fun i j b hi hj => ?_⟩,
    fun k => ⟨Below.refl _ _, hev k, fun _ _ _ _ => ⟨rfl, rfl⟩, fun b o _ h => hin b o h, fun b o c _ h => hm3 b o c h, fun _ _ h _ _ => h, fun j _ h => hinM j h⟩⟩
  · obtain ⟨h1, h2⟩ := hle i bk hi
    obtain ⟨L, h3, h4, h5⟩ := hs.live i bk h1
    exact ⟨L, by rw [hloc, hi]; simpa using h3, h4.later (k := E'.top) (hev _) (Nat.le_refl _) h2 (fun _ _ => ⟨rfl, rfl⟩), h5⟩
  · rw [hloc] at hi
    split at hi
    · rename_i h
      exact Option.isSome_iff_exists.1 h
    · simp at hi
  · rw [hloc] at hi hj
    split at hi <;> split at hj
    · exact hs.apart i j Li Lj hi hj hij
    · simp at hj
    · simp at hi
    · simp at hj
  · obtain ⟨b, h1, h2, h3⟩ := hs.mlive i es (hlem i es hi)
    exact ⟨b, by rw [hmloc, hi]; simpa using h1, h2, h3⟩
  · rw [hmloc] at hi
    split at hi
    · rename_i h
      exact Option.isSome_iff_exists.1 h
    · cases hi
  · rw [hmloc] at hi hj
    split at hi <;> split at hj
    · exact hs.mapart i j b hi hj
    · cases hj
    · cases hi
    · cases hi
end
end Go.X
/-
  Constants, zero values, operands; the operations that touch no memory.
-/
namespace Go.X
open Go.RowKit (Below)

section
variable {P : Program} {B : Nat} {E E' : Env} {H : Heap} {w w' : World}

theorem absCell_spec {c : Value} {v : AV} (h : absCell c = some v) : FR E [v] [c] ∧ v.refless = true ∧ v.isAgg = false := by
  unfold absCell at h
  split at h <;> first | (obtain rfl := Option.some.inj h; refine ⟨?_, rfl, rfl⟩) | simp at h
  · exact .bool .nil
  · exact .int .nil
  · exact .str .nil
  · exact .nilp .nil
  · exact .nils .nil
  · exact .nilm .nil
  · exact .nilf .nil
  · exact .nili .nil

theorem readMany_spec {f : TypeId → List Value → Option (AV × List Value)}
    (hf : ∀ t cs v r, f t cs = some (v, r) → ∃ c1, cs = c1 ++ r ∧ FR E [v] c1 ∧ v.refless = true) :
    ∀ (ts : List TypeId) (cs : List Value) (vs : List AV) (r : List Value), readMany f ts cs = some (vs, r) → ∃ c1, cs = c1 ++ r ∧ FR E vs c1 ∧ reflessL vs = true
  | [], cs, vs, r, h => by
    simp only [readMany, Option.some.injEq, Prod.mk.injEq] at h
    obtain ⟨rfl, rfl⟩ := h
    exact ⟨[], rfl, .nil, rfl⟩
  | t :: ts, cs, vs, r, h => by
    simp only [readMany, Option.bind_eq_some_iff, Option.map_eq_some_iff, Prod.exists, Prod.mk.injEq] at h
    obtain ⟨v, r1, h1, us, r2, h2, rfl, rfl⟩ := h
    obtain ⟨c1, rfl, k1, k2⟩ := hf _ _ _ _ h1
    obtain ⟨c2, rfl, k3, k4⟩ := readMany_spec hf ts _ _ _ h2
    exact ⟨c1 ++ c2, by simp, .cons k1 k3, by simp [reflessL, k2, k4]⟩

theorem absOf_spec : ∀ (d : Nat) (t : TypeId) (cs : List Value) (v : AV) (r : List Value), absOf P d t cs = some (v, r) → ∃ c1, cs = c1 ++ r ∧ FR E [v] c1 ∧ v.refless = true
  | 0, t, cs, v, r, h => by simp [absOf] at h
  | d + 1, t, cs, v, r, h => by
    unfold absOf at h
    split at h
    · simp only [Option.map_eq_some_iff, Prod.exists, Prod.mk.injEq] at h
      obtain ⟨vs, r', h1, rfl, rfl⟩ := h
      obtain ⟨c1, rfl, k1, k2⟩ := readMany_spec (fun t cs v r => absOf_spec d t cs v r) _ _ _ _ h1
      refine ⟨c1, rfl, ?_, by simpa [AV.refless] using k2⟩
      have := FR.agg (n := sumLen vs) (vs := []) (cs := []) k1 k1.length.symm .nil
      simpa using this
    · simp only [Option.bind_eq_some_iff, Prod.exists] at h
      obtain ⟨vs, r', h1, h2⟩ := h
      obtain ⟨c1, rfl, k1, k2⟩ := readMany_spec (fun t cs v r => absOf_spec d t cs v r) _ _ _ _ h1
      split at h2
      · obtain ⟨rfl, rfl⟩ := by simpa using h2
        refine ⟨c1, rfl, ?_, by simp [AV.refless, reflessL]⟩
        have := FR.arr (e := 1) (vs := []) (cs := []) k1 (by simp) .nil
        simpa using this
      · rename_i u us
        split at h2
        · rename_i hall
          obtain ⟨rfl, rfl⟩ := by simpa using h2
          refine ⟨c1, rfl, ?_, by simpa [AV.refless] using k2⟩
          have := FR.arr (e := u.flatLen) (vs := []) (cs := []) k1 (by simpa using hall) .nil
          simpa using this
        · simp at h2
    · split at h
      · simp only [Option.map_eq_some_iff, Prod.mk.injEq] at h
        obtain ⟨a, h1, rfl, rfl⟩ := h
        obtain ⟨k1, k2, _⟩ := absCell_spec (E := E) h1
        exact ⟨[_], rfl, k1, k2⟩
      · simp at h
    · simp at h

theorem zero_spec {t : TypeId} {v : AV} (h : zeroAV P t = some v) : ∃ i z, P.info? t = some i ∧ i.zero = some z ∧ FR E [v] z.cells.toList ∧ v.refless = true ∧ pack v z.cells.toList = z := by
  simp only [zeroAV, Option.bind_eq_some_iff] at h
  obtain ⟨z, ⟨i, hi, hz⟩, u, hu, h⟩ := h
  split at h
  · rename_i hag
    obtain rfl := Option.some.inj h
    unfold absWhole at hu
    split at hu
    · rename_i v hv
      obtain rfl := Option.some.inj hu
      obtain ⟨c1, hc, k1, k2⟩ := absOf_spec (E := E) _ _ _ _ _ hv
      rw [List.append_nil] at hc
      refine ⟨i, z, hi, hz, by rw [hc]; exact k1, k2, ?_⟩
      unfold pack
      rw [hag]
      cases z <;> simp [isAggV, Value.cells]
    · simp at hu
  · simp at h

theorem run_zeroValue' {t : TypeId} {i : TypeInfo} {z : Value} (hi : P.info? t = some i) (hz : i.zero = some z) (w : World) : (zeroValue t).run P w = .ok z w := by
  simp [zeroValue, typeInfo, hi, hz]

theorem const_ok (c : Value) : VR E ((absConst c).getD .bad) c := by
  cases h : absConst c with
  | none => trivial
  | some v =>
    unfold absConst at h
    split at h
    · split at h
      · rename_i hab
        obtain rfl := Option.some.inj h
        rename_i fn a b
        obtain rfl : a = #[] := Array.eq_empty_of_size_eq_zero hab.1
        obtain rfl : b = #[] := Array.eq_empty_of_size_eq_zero hab.2
        exact VR.of_PR (v := .func fn [] []) ⟨[_], .func (cx := []) (cy := []) (by simp) .nil .nil .nil, rfl⟩
      · simp at h
    · obtain ⟨h1, _, h3⟩ := absCell_spec (E := E) h
      exact VR.of_PR ⟨[c], h1, by simp [pack, h3]⟩

theorem scalar_ok {v : AV} {c d : Value} (h : VR E v c) (hs : v.scalar = some d) : c = d := by
  cases v <;> simp only [AV.scalar, Option.some.injEq, reduceCtorEq] at hs
  all_goals
    subst hs
    obtain ⟨cs, h1, rfl⟩ := h
    cases h1
    rfl

theorem liftPure_ok {e : Sem Value} {v : AV} (h : liftPure e = some v) (w : World) : ∃ c, e.run P w = .ok c w ∧ VR E v c := by
  unfold liftPure at h
  split at h <;> first | (obtain rfl := Option.some.inj h) | simp at h
  · exact ⟨_, rfl, VR.of_PR (v := .int _ _) ⟨[_], .int .nil, rfl⟩⟩
  · exact ⟨_, rfl, VR.of_PR (v := .bool _) ⟨[_], .bool .nil, rfl⟩⟩
  · exact ⟨_, rfl, VR.of_PR (v := .str _) ⟨[_], .str .nil, rfl⟩⟩

theorem PR.int {k : IntKind} {n : Int} : PR E (.int k n) (.int k n) := ⟨[_], .int .nil, rfl⟩
theorem PR.bool {b : Bool} : PR E (.bool b) (.bool b) := ⟨[_], .bool .nil, rfl⟩
theorem PR.str {s : ByteArray} : PR E (.str s) (.string s) := ⟨[_], .str .nil, rfl⟩
theorem VR.int {k : IntKind} {n : Int} : VR E (.int k n) (.int k n) := .of_PR .int
theorem VR.bool {b : Bool} : VR E (.bool b) (.bool b) := .of_PR .bool
theorem VR.str {s : ByteArray} : VR E (.str s) (.string s) := .of_PR .str

theorem VR.bool_inv {b : Bool} {c : Value} (h : VR E (.bool b) c) : c = .bool b := scalar_ok h rfl
theorem VR.int_inv {k : IntKind} {n : Int} {c : Value} (h : VR E (.int k n) c) : c = .int k n := scalar_ok h rfl
theorem VR.str_inv {s : ByteArray} {c : Value} (h : VR E (.str s) c) : c = .string s := scalar_ok h rfl

theorem idx_ok {v : AV} {c : Value} {i : Nat} (h : VR E v c) (hi : v.idx = some i) : ∃ k n, c = .int k n ∧ 0 ≤ n ∧ n.toNat = i := by
  cases v <;> simp only [AV.idx, reduceCtorEq] at hi
  split at hi
  · rename_i k n hn
    obtain rfl := Option.some.inj hi
    exact ⟨k, n, h.int_inv, hn, rfl⟩
  · simp at hi

theorem PR.agg_inv {n : Nat} {ps : List AV} {c : Value} (h : PR E (.agg n ps) c) : ∃ cs, c = .agg cs.toArray ∧ FR E ps cs ∧ n = cs.length := by
  obtain ⟨cs, h1, rfl⟩ := h
  obtain ⟨h2, h3⟩ := h1.agg_inv
  exact ⟨cs, rfl, h2, h3⟩

theorem PR.arr_inv {e : Nat} {xs : List AV} {c : Value} (h : PR E (.arr e xs) c) : ∃ cs, c = .agg cs.toArray ∧ FR E xs cs ∧ ∀ x ∈ xs, x.flatLen = e := by
  obtain ⟨cs, h1, rfl⟩ := h
  obtain ⟨h2, h3⟩ := h1.arr_inv
  exact ⟨cs, rfl, h2, h3⟩

/-- A part of an aggregate's cells. -/
theorem run_part' {t : TypeId} {v : AV} {pre mid post : List Value} {o : Nat} (hf : FR E [v] mid) (ho : pre.length = o) (ha : tagg P t = some v.isAgg) (hz : tsize P t = some v.flatLen) :
    (part t (pre ++ mid ++ post).toArray o).run P w = .ok (pack v mid) w := by
  have hl : mid.length = v.flatLen := by rw [hf.length]; simp [sumLen]
  cases hv : v.isAgg with
  | true =>
    rw [hv] at ha
    simp only [part, Sem.run_bind, run_isAgg' ha, Result.andThen_ok, if_true, run_sizeOf' hz]
    subst ho
    simp only [Sem.run_pure, pack, hv, if_true]
    congr 2
    rw [← hl]
    simp
  | false =>
    rw [hv] at ha
    obtain ⟨c, rfl, hp⟩ := hf.one_leaf hv
    subst ho
    simp [part, Sem.run_bind, run_isAgg' ha, hp]

theorem field_ok {t : TypeId} {x v : AV} {cx : Value} {f : Nat} (hx : VR E x cx) (h : fieldAV P t x f = some v) : ∃ c, (Instr.field t cx f).run P w = .ok c w ∧ VR E v c := by
  cases x <;> simp only [fieldAV, reduceCtorEq] at h
  rename_i n ps
  simp only [Option.bind_eq_some_iff] at h
  obtain ⟨fl, hfl, p, hp, h⟩ := h
  split at h
  · rename_i hc
    obtain rfl := Option.some.inj h
    obtain ⟨cs, rfl, hf, _⟩ := PR.agg_inv (show PR E (.agg n ps) cx from hx)
    obtain ⟨pre, mid, post, rfl, hpre, hm, _⟩ := hf.nth hp
    unfold fieldOf at hfl
    split at hfl
    · rename_i fs hu
      refine ⟨pack p mid, ?_, .of_PR (.of_cells hm)⟩
      have := run_part' (P := P) (w := w) (post := post) hm (hpre.trans hc.1) hc.2.1 hc.2.2
      simp only [Instr.field, Sem.run_bind, run_underlying hu, Result.andThen_ok, hfl, asAgg, Sem.run_pure]
      exact this
    · simp at hfl
  · simp at h

theorem index_ok {t : TypeId} {x i v : AV} {cx ci : Value} (hx : VR E x cx) (hi : VR E i ci) (h : indexAV P t x i = some v) : ∃ c, (Instr.index t cx ci).run P w = .ok c w ∧ VR E v c := by
  simp only [indexAV, Option.bind_eq_some_iff] at h
  obtain ⟨n, hn, h⟩ := h
  obtain ⟨k, m, rfl, hm0, hmn⟩ := idx_ok hi hn
  split at h
  · rename_i len e sz xs hu
    split at h
    · rename_i hc
      simp only [Option.bind_eq_some_iff] at h
      obtain ⟨u, hu', h⟩ := h
      split at h
      · rename_i hta
        obtain rfl := Option.some.inj h
        obtain ⟨cs, rfl, hf, he⟩ := PR.arr_inv (show PR E (.arr sz xs) cx from hx)
        have hlt : n < xs.length := by
          rcases Nat.lt_or_ge n xs.length with h | h
          · exact h
          · simp [List.getElem?_eq_none h] at hu'
        obtain ⟨pre, mid, post, rfl, hpre, hmid, _⟩ := hf.nth hu'
        have hs : sumLen (xs.take n) = sz * n := by
          rw [sumLen_same (fun x hx => he x (List.mem_of_mem_take hx))]
          simp [Nat.min_eq_left (Nat.le_of_lt hlt)]
        refine ⟨pack u mid, ?_, .of_PR (.of_cells hmid)⟩
        have hue : u.flatLen = sz := he u (List.mem_of_getElem? hu')
        have := run_part' (P := P) (w := w) (o := n * sz) (post := post) hmid (by rw [hpre, hs, Nat.mul_comm]) hta (by rw [hue]; exact hc.2)
        have hlt2 : m < (len : Int) := by omega
        simp only [Instr.index, asIntOf, Sem.run_bind, Sem.run_pure, Result.andThen_ok, run_underlying hu]
        rw [if_pos ⟨hm0, hlt2⟩]
        simp only [Sem.run_bind, run_sizeOf' hc.2, Result.andThen_ok, hmn]
        exact this
      · simp at h
    · simp at h
  · rename_i s hu
    simp only [Option.map_eq_some_iff] at h
    obtain ⟨b, hb, rfl⟩ := h
    obtain rfl := hx.str_inv
    refine ⟨.int .u8 b.toNat, ?_, VR.int⟩
    have hb' : s[n]? = some b := by
      rw [← hb]
      rfl
    simp only [Instr.index, asIntOf, Sem.run_bind, Sem.run_pure, Result.andThen_ok, run_underlying hu]
    rw [if_pos hm0, hmn, hb']
    rfl
  · simp at h

theorem fieldAddr_ok {t : TypeId} {x v : AV} {cx : Value} {f : Nat} (hx : VR E x cx) (h : fieldAddrAV P t x f = some v) : ∃ c, (Instr.fieldAt t cx f).run P w = .ok c w ∧ VR E v c := by
  simp only [fieldAddrAV, Option.bind_eq_some_iff] at h
  obtain ⟨fl, hfl, sz, hsz, h⟩ := h
  split at h
  · simp at h
  rename_i hsz0
  unfold fieldOf at hfl
  split at hfl
  · rename_i fs hu
    have hrun' : ∀ ad : Addr, (Instr.fieldAt t (.pointer (some ad)) f).run P w = .ok (.pointer (some (ad.add fl.offset))) w := fun ad => by
      simp [Instr.fieldAt, Sem.run_bind, run_underlying hu, Result.andThen_ok, hfl, Instr.sureAddr, fieldPlace, run_sizeOf' hsz, hsz0]
    have hrun : ∀ b o, (Instr.fieldAt t (.pointer (some ⟨b, o, none⟩)) f).run P w = .ok (.pointer (some ⟨b, o + fl.offset, none⟩)) w := fun b o => by
      rw [hrun', Addr.add_mk]
    split at h
    · rename_i p
      obtain rfl := Option.some.inj h
      obtain ⟨ad, rfl, h1, h2⟩ := PR.ptr_inv (show PR E (.ptr p) cx from hx)
      refine ⟨_, hrun' ad, .of_PR (v := .ptr _) ⟨[_], .ptr h1 (fun L hL => ?_) .nil, rfl⟩⟩
      rcases h2 L hL with h3 | ⟨h3, rfl⟩
      · exact .inl h3
      · exact .inr ⟨h3, by rw [Addr.add_mk, Nat.add_assoc]⟩
    · rename_i n ps
      simp only [Option.bind_eq_some_iff] at h
      obtain ⟨q, hq, h⟩ := h
      split at h
      · rename_i ho
        obtain rfl := Option.some.inj h
        obtain ⟨b, o, c1, rfl, hr, hf, hm⟩ := PR.iptr_inv (show PR E (.iptr (.agg n ps)) cx from hx)
        obtain ⟨hps, _⟩ := hf.agg_inv
        obtain ⟨pre, mid, post, rfl, hpre, hmid, _⟩ := hps.nth hq
        refine ⟨_, hrun b o, .of_PR (v := .iptr q) ⟨[_], .iptr (c1 := mid) ?_ hmid (fun j c hj => ?_) .nil, rfl⟩⟩
        · have : reflessL ps = true := by simpa [AV.refless] using hr
          exact reflessL_mem this (List.mem_of_getElem? hq)
        · have := hm (fl.offset + j) c (by
            rw [← ho, ← hpre, List.append_assoc, List.getElem?_append_right (by omega), show pre.length + j - pre.length = j by omega, List.getElem?_append_left (by
              rcases Nat.lt_or_ge j mid.length with h | h
              · exact h
              · simp [List.getElem?_eq_none h] at hj)]
            exact hj)
          rwa [Nat.add_assoc]
      · simp at h
    · simp at h
  · simp at hfl
where
  reflessL_mem : ∀ {vs : List AV} {v : AV}, reflessL vs = true → v ∈ vs → v.refless = true
    | v :: vs, _, h, .head _ => by simp only [reflessL, Bool.and_eq_true] at h; exact h.1
    | v :: vs, u, h, .tail _ hm => by simp only [reflessL, Bool.and_eq_true] at h; exact reflessL_mem h.2 hm

end
end Go.X
/-
  More operations that touch no memory: addresses, slices, comparisons.
-/
namespace Go.X
open Go.RowKit (Below)

section
variable {P : Program} {B : Nat} {E E' : Env} {H : Heap} {w w' : World}

theorem reflessL_sub : ∀ {vs us : List AV}, reflessL vs = true → (∀ x ∈ us, x ∈ vs) → reflessL us = true
    | _, [], _, _ => rfl
    | vs, u :: us, h, hs => by
      simp only [reflessL, Bool.and_eq_true]
      exact ⟨fieldAddr_ok.reflessL_mem h (hs u (List.mem_cons_self)), reflessL_sub h (fun x hx => hs x (List.mem_cons_of_mem _ hx))⟩

theorem FR.isl_sub {e l n : Nat} {xs : List AV} {c1 : List Value} {b o cap : Nat} (hr : reflessL xs = true) (hf : FR E xs c1) (he : ∀ x ∈ xs, x.flatLen = e)
    (hm : ∀ j c, c1[j]? = some c → E.m b (o + j) = some c) (hl : l + n ≤ xs.length) (hcap : n ≤ cap) :
    PR E (.isl e ((xs.drop l).take n)) (.slice (some ⟨b, o + l * e, none⟩) n cap) := by
  have h1 : xs = xs.take l ++ ((xs.drop l).take n ++ (xs.drop l).drop n) := by rw [List.take_append_drop, List.take_append_drop]
  rw [h1] at hf
  obtain ⟨c0, c2, rfl, k0, k1⟩ := hf.append_inv
  obtain ⟨c3, c4, rfl, k2, k3⟩ := k1.append_inv
  have hlen : ((xs.drop l).take n).length = n := by simp; omega
  have hs : c0.length = l * e := by
    rw [k0.length, sumLen_same (fun x hx => he x (List.mem_of_mem_take hx))]
    simp [Nat.min_eq_left (show l ≤ xs.length by omega), Nat.mul_comm]
  refine ⟨[_], .isl (b := b) (o := o + l * e) (c1 := c3) (reflessL_sub hr (fun x hx => List.mem_of_mem_drop (List.mem_of_mem_take hx))) k2 (fun x hx => he x (List.mem_of_mem_drop (List.mem_of_mem_take hx))) (cap := cap) (by omega) (fun j c hj => ?_) (.inl rfl) .nil, ?_⟩
  · have := hm (l * e + j) c (by
      rw [← hs, List.getElem?_append_right (by omega), show c0.length + j - c0.length = j by omega, List.getElem?_append_left (by
        rcases Nat.lt_or_ge j c3.length with h | h
        · exact h
        · simp [List.getElem?_eq_none h] at hj)]
      exact hj)
    rwa [Nat.add_assoc]
  · rw [hlen]; rfl
theorem indexAddr_ok {t : TypeId} {x i v : AV} {cx ci : Value} (hx : VR E x cx) (hi : VR E i ci) (h : indexAddrAV P t x i = some v) :
    ∃ c, (Instr.indexAt t cx ci).run P w = .ok c w ∧ VR E v c := by
  simp only [indexAddrAV, Option.bind_eq_some_iff] at h
  obtain ⟨n, hn, h⟩ := h
  obtain ⟨k, m, rfl, hm0, hmn⟩ := idx_ok hi hn
  split at h
  · rename_i len e p hu
    simp only [Option.bind_eq_some_iff] at h
    obtain ⟨sz, hsz, h⟩ := h
    split at h
    · rename_i hlt
      obtain rfl := Option.some.inj h
      obtain ⟨ad, rfl, h1, h2⟩ := PR.ptr_inv (show PR E (.ptr p) cx from hx)
      have hlt2 : m < (len : Int) := by omega
      refine ⟨.pointer (some (ad.add (n * sz))), ?_, .of_PR (v := .ptr _) ⟨[_], .ptr h1 (fun L hL => ?_) .nil, rfl⟩⟩
      · simp [Instr.indexAt, asIntOf, Sem.run_bind, run_underlying hu, Instr.sureAddr, hm0, hlt2, run_sizeOf' hsz, hmn]
      · rcases h2 L hL with h3 | ⟨h3, rfl⟩
        · exact .inl h3
        · exact .inr ⟨h3, by rw [Addr.add_mk, Nat.add_assoc]⟩
    · simp at h
  · rename_i len e sz xs hu
    split at h
    · rename_i hc
      simp only [Option.map_eq_some_iff] at h
      obtain ⟨u, hu', rfl⟩ := h
      obtain ⟨b, o, c1, rfl, hr, hf, hm⟩ := PR.iptr_inv (show PR E (.iptr (.arr sz xs)) cx from hx)
      obtain ⟨hxs, he⟩ := hf.arr_inv
      obtain ⟨pre, mid, post, rfl, hpre, hmid, _⟩ := hxs.nth hu'
      have hlt : n < xs.length := by
        rcases Nat.lt_or_ge n xs.length with h | h
        · exact h
        · simp [List.getElem?_eq_none h] at hu'
      have hs : sumLen (xs.take n) = sz * n := by
        rw [sumLen_same (fun x hx => he x (List.mem_of_mem_take hx))]
        simp [Nat.min_eq_left (Nat.le_of_lt hlt)]
      have hlt2 : m < (len : Int) := by omega
      refine ⟨.pointer (some ⟨b, o + n * sz, none⟩), ?_, .of_PR (v := .iptr u) ⟨[_], .iptr (c1 := mid) (fieldAddr_ok.reflessL_mem (by simpa [AV.refless] using hr) (List.mem_of_getElem? hu')) hmid (fun j c hj => ?_) .nil, rfl⟩⟩
      · simp [Instr.indexAt, asIntOf, Sem.run_bind, run_underlying hu, Instr.sureAddr, hm0, hlt2, run_sizeOf' hc.2, hmn, Addr.add_mk]
      · have := hm (n * sz + j) c (by
          rw [Nat.mul_comm, ← hs, ← hpre, List.append_assoc, List.getElem?_append_right (by omega), show pre.length + j - pre.length = j by omega, List.getElem?_append_left (by
            rcases Nat.lt_or_ge j mid.length with h | h
            · exact h
            · simp [List.getElem?_eq_none h] at hj)]
          exact hj)
        rwa [Nat.add_assoc]
    · simp at h
  · rename_i e p sz nn off len hu
    split at h
    · rename_i hc
      obtain rfl := Option.some.inj h
      obtain ⟨ad, cap, rfl, h1, hcap, h2⟩ := PR.sl_inv (show PR E (.sl p sz nn off len) cx from hx)
      have hlt2 : m < (len : Int) := by omega
      refine ⟨.pointer (some (ad.add (n * sz))), ?_, .of_PR (v := .ptr _) ⟨[_], .ptr h1 (fun L hL => ?_) .nil, rfl⟩⟩
      · simp [Instr.indexAt, asIntOf, Sem.run_bind, run_underlying hu, hm0, hlt2, run_sizeOf' hc.2, hmn]
      · rcases h2 L hL with h3 | ⟨h3, _, _, h4⟩
        · exact .inl h3
        · refine .inr ⟨h3, ?_⟩
          rcases h4 with h4 | rfl
          · omega
          · rw [Addr.add_mk]
            simp only [Nat.add_mul, Addr.mk.injEq, and_true, true_and]
            omega
    · simp at h
  · rename_i e sz xs hu
    split at h
    · rename_i hsz
      simp only [Option.map_eq_some_iff] at h
      obtain ⟨u, hu', rfl⟩ := h
      obtain ⟨b, o, sp, c1, cap, rfl, hsp, hr, hf, he, hcap, hm⟩ := PR.isl_inv (show PR E (.isl sz xs) cx from hx)
      obtain rfl : sp = none := by
        rcases hsp with h | h
        · exact h
        · subst h
          simp at hu'
      obtain ⟨pre, mid, post, rfl, hpre, hmid, _⟩ := hf.nth hu'
      have hlt : n < xs.length := by
        rcases Nat.lt_or_ge n xs.length with h | h
        · exact h
        · simp [List.getElem?_eq_none h] at hu'
      have hs : sumLen (xs.take n) = sz * n := by
        rw [sumLen_same (fun x hx => he x (List.mem_of_mem_take hx))]
        simp [Nat.min_eq_left (Nat.le_of_lt hlt)]
      have hlt2 : m < (xs.length : Int) := by omega
      refine ⟨.pointer (some ⟨b, o + n * sz, none⟩), ?_, .of_PR (v := .iptr u) ⟨[_], .iptr (c1 := mid) (fieldAddr_ok.reflessL_mem hr (List.mem_of_getElem? hu')) hmid (fun j c hj => ?_) .nil, rfl⟩⟩
      · simp [Instr.indexAt, asIntOf, Sem.run_bind, run_underlying hu, hm0, hlt2, run_sizeOf' hsz, hmn, Addr.add_mk]
      · have := hm (n * sz + j) c (by
          rw [Nat.mul_comm, ← hs, ← hpre, List.append_assoc, List.getElem?_append_right (by omega), show pre.length + j - pre.length = j by omega, List.getElem?_append_left (by
            rcases Nat.lt_or_ge j mid.length with h | h
            · exact h
            · simp [List.getElem?_eq_none h] at hj)]
          exact hj)
        rwa [Nat.add_assoc]
    · simp at h
  · simp at h

/-- What a slice expression's bounds come to. -/
theorem bounds_ok {isSlice : Bool} {len cap d l h : Nat} {lo hi : Option AV} {clo chi : Option Value} (hlo : ∀ v, lo = some v → ∃ c, clo = some c ∧ VR E v c) (hlo' : lo = none → clo = none)
    (hhi : ∀ v, hi = some v → ∃ c, chi = some c ∧ VR E v c) (hhi' : hi = none → chi = none) (hd : d = len)
    (h1 : bnd d hi = some h) (h2 : bnd 0 lo = some l) (hle : l ≤ h) (hc : h ≤ cap) :
    (Instr.sliceBounds isSlice len cap clo chi none).run P w = .ok (l, h, cap) w := by
  subst hd
  have hH : chi = none ∧ h = d ∨ ∃ k n, chi = some (.int k n) ∧ 0 ≤ n ∧ n.toNat = h := by
    cases hi with
    | none => exact .inl ⟨hhi' rfl, by simpa [bnd] using h1.symm⟩
    | some v =>
      obtain ⟨c, rfl, hv⟩ := hhi v rfl
      obtain ⟨k, n, rfl, a, b⟩ := idx_ok hv h1
      exact .inr ⟨k, n, rfl, a, b⟩
  have hL : clo = none ∧ l = 0 ∨ ∃ k n, clo = some (.int k n) ∧ 0 ≤ n ∧ n.toNat = l := by
    cases lo with
    | none => exact .inl ⟨hlo' rfl, by simpa [bnd] using h2.symm⟩
    | some v =>
      obtain ⟨c, rfl, hv⟩ := hlo v rfl
      obtain ⟨k, n, rfl, a, b⟩ := idx_ok hv h2
      exact .inr ⟨k, n, rfl, a, b⟩
  rcases hH with ⟨rfl, rfl⟩ | ⟨k, n, rfl, hn0, rfl⟩ <;> rcases hL with ⟨rfl, rfl⟩ | ⟨k', n', rfl, hn0', rfl⟩
  · simp [Instr.sliceBounds]
  · have e1 : n' ≤ (h : Int) := by omega
    simp [Instr.sliceBounds, Instr.sliceBound, asIntOf, hn0', e1]
  · have e1 : n ≤ (cap : Int) := by omega
    simp [Instr.sliceBounds, Instr.sliceBound, asIntOf, hn0, e1]
  · have e1 : n ≤ (cap : Int) := by omega
    have e2 : n' ≤ n := by omega
    simp [Instr.sliceBounds, Instr.sliceBound, asIntOf, hn0, e1, hn0', e2, Int.toNat_of_nonneg hn0]

theorem len_slice {x : AV} {cx : Value} {n : Nat} (hx : VR E x cx) (h : x.len = some n) (hns : ∀ s, x ≠ .str s) : ∃ base cap, cx = .slice base n cap ∧ n ≤ cap := by
  cases x <;> simp only [AV.len, Option.some.injEq, reduceCtorEq] at h
  · exact absurd rfl (hns _)
  · subst h
    obtain ⟨cs, h1, rfl⟩ := (show PR E .nils cx from hx)
    cases h1 with
    | nils h1 =>
      cases h1
      exact ⟨_, _, rfl, Nat.le_refl _⟩
  · subst h
    obtain ⟨a, cap, rfl, _, hc, _⟩ := PR.sl_inv (show PR E (.sl _ _ _ _ _) cx from hx)
    exact ⟨_, _, rfl, hc⟩
  · subst h
    obtain ⟨b, o, sp, c1, cap, rfl, _, _, _, _, hc, _⟩ := PR.isl_inv (show PR E (.isl _ _) cx from hx)
    exact ⟨_, _, rfl, hc⟩

theorem slice3_ok {t : TypeId} {x v : AV} {cx : Value} {lo : Option AV} {clo : Option Value} {hi m : AV} {chi cm : Value} (hx : VR E x cx)
    (hlo : ∀ v, lo = some v → ∃ c, clo = some c ∧ VR E v c) (hlo' : lo = none → clo = none) (hhi : VR E hi chi) (hm : VR E m cm) (h : slice3AV P t x lo hi m = some v) :
    ∃ c, (Instr.sliceAt t cx clo (some chi) (some cm)).run P w = .ok c w ∧ VR E v c := by
  unfold slice3AV at h
  split at h
  · simp at h
  · rename_i e hu hns
    simp only [Option.bind_eq_some_iff] at h
    obtain ⟨sz, hsz, n, hn, m', hm', h', hh', l, hl, h⟩ := h
    split at h
    · rename_i hc
      obtain rfl := Option.some.inj h
      obtain ⟨base, cap, rfl, hcap⟩ := len_slice hx hn (fun s hs => hns s hs)
      obtain ⟨k1, n1, rfl, a1, rfl⟩ := idx_ok hm hm'
      obtain ⟨k2, n2, rfl, a2, rfl⟩ := idx_ok hhi hh'
      have e1 : n1 ≤ (cap : Int) := by omega
      have e2 : n2 ≤ n1 := by omega
      have hL : clo = none ∧ l = 0 ∨ ∃ k n, clo = some (.int k n) ∧ 0 ≤ n ∧ n.toNat = l := by
        cases lo with
        | none => exact .inl ⟨hlo' rfl, by simpa [bnd] using hl.symm⟩
        | some v =>
          obtain ⟨c, rfl, hv⟩ := hlo v rfl
          obtain ⟨k, n, rfl, a, b⟩ := idx_ok hv hl
          exact .inr ⟨k, n, rfl, a, b⟩
      have hb : ∃ r, (Instr.sliceBounds true n cap clo (some (.int k2 n2)) (some (.int k1 n1))).run P w = .ok r w := by
        rcases hL with ⟨rfl, rfl⟩ | ⟨k', n', rfl, hn0', rfl⟩
        · exact ⟨(0, n2.toNat, n1.toNat), by simp [Instr.sliceBounds, Instr.sliceBound, asIntOf, a1, e1, a2, e2, Int.toNat_of_nonneg a1]⟩
        · have e3 : n' ≤ n2 := by omega
          exact ⟨(n'.toNat, n2.toNat, n1.toNat), by simp [Instr.sliceBounds, Instr.sliceBound, asIntOf, a1, e1, a2, e2, hn0', e3, Int.toNat_of_nonneg a1, Int.toNat_of_nonneg a2]⟩
      obtain ⟨⟨r1, r2, r3⟩, hb⟩ := hb
      have hsz' : (sizeOf e).run P w = .ok sz w := run_sizeOf' hsz w
      refine ⟨.slice (if r3 = r1 then base else base.map (·.add (r1 * sz))) (r2 - r1) (r3 - r1), ?_, trivial⟩
      simp [Instr.sliceAt, run_underlying hu, Instr.slice, hb, hsz']
    · simp at h
  · simp at h

theorem slice_ok {t : TypeId} {x v : AV} {cx : Value} {lo hi : Option AV} {clo chi : Option Value} (hs : Sim B E H w) (hx : VR E x cx)
    (hlo : ∀ v, lo = some v → ∃ c, clo = some c ∧ VR E v c) (hlo' : lo = none → clo = none)
    (hhi : ∀ v, hi = some v → ∃ c, chi = some c ∧ VR E v c) (hhi' : hi = none → chi = none)
    (h : sliceAV P H t x lo hi = some v) :
    ∃ c, (Instr.sliceAt t cx clo chi none).run P w = .ok c w ∧ VR E v c := by
  unfold sliceAV at h
  split at h
  · rename_i n e p hu
    simp only [Option.bind_eq_some_iff] at h
    obtain ⟨sz, hsz, h, hh, l, hl, bk, hb, ⟨o, y⟩, hat, h⟩ := h
    split at h
    · rename_i e' xs hy
      simp only at hy
      subst hy
      split at h
      · rename_i hc
        obtain ⟨hle, hhn, hg, ho, rfl, hxn⟩ := hc
        obtain rfl := Option.some.inj h
        obtain ⟨ad, rfl, h1, h2⟩ := PR.ptr_inv (show PR E (.ptr p) cx from hx)
        obtain ⟨L, hL, hB, _, hgen⟩ := hs.at hb hg
        obtain ⟨cs, hf, hlen, _⟩ := hB.cs
        obtain ⟨pre, mid, post, rfl, hpre, hm⟩ := at_spec p.path _ _ _ _ hf hat
        have hml := hm.length
        simp only [sumLen, AV.flatLen, hxn, Nat.add_zero] at hml
        have hb' := bounds_ok (P := P) (w := w) (isSlice := false) (len := n) (cap := n) (d := n) hlo hlo' hhi hhi' rfl hh hl hle hhn
        have hfit := hB.fits
        have hads : ad.spot = none := by
          rcases h2 L hL with h3 | ⟨_, rfl⟩
          · omega
          · rfl
        refine ⟨.slice (some (if n = l then ad else ad.add (l * e'))) (_ - l) (n - l), ?_, .of_PR (v := .sl p e' n l _) ⟨[_], .sl (a := if n = l then ad else ad.add (l * e')) h1 (by omega) (fun L' hL' => ?_) (by split <;> simp [hads, Addr.add_spot]) .nil, rfl⟩⟩
        · simp [Instr.sliceAt, Sem.run_bind, run_underlying hu, Instr.sureAddr, hb', run_sizeOf' hsz]
        · obtain rfl : L = L' := by rw [hL] at hL'; exact Option.some.inj hL'
          rcases h2 L hL with h3 | ⟨h3, rfl⟩
          · exact .inl h3
          · refine .inr ⟨h3, by omega, ?_, ?_⟩
            · simp only at ho
              have : (pre ++ mid ++ post).length = pre.length + mid.length + post.length := by simp; omega
              rw [show l + (n - l) = n by omega, Nat.mul_comm n e']
              omega
            · by_cases hnl : n = l
              · exact .inl (by omega)
              · refine .inr ?_
                rw [if_neg hnl, Addr.add_mk]
      · simp at h
    · simp at h
  · rename_i n e sz xs hu
    simp only [Option.bind_eq_some_iff] at h
    obtain ⟨hh, hhh, l, hl, h⟩ := h
    split at h
    · rename_i hc
      obtain ⟨hle, hhn, hxn, hsz⟩ := hc
      obtain rfl := Option.some.inj h
      obtain ⟨b, o, c1, rfl, hr, hf, hm⟩ := PR.iptr_inv (show PR E (.iptr (.arr sz xs)) cx from hx)
      obtain ⟨hxs, he⟩ := hf.arr_inv
      have hb' := bounds_ok (P := P) (w := w) (isSlice := false) (len := n) (cap := n) (d := n) hlo hlo' hhi hhi' rfl hhh hl hle hhn
      have hr' : reflessL xs = true := by simpa [AV.refless] using hr
      by_cases hnl : n = l
      · subst hnl
        refine ⟨.slice (some ⟨b, o, none⟩) (hh - n) (n - n), ?_, .of_PR ?_⟩
        · simp [Instr.sliceAt, Sem.run_bind, run_underlying hu, Instr.sureAddr, hb', run_sizeOf' hsz]
        · have := FR.isl_sub (E := E) (l := 0) (n := 0) (cap := n - n) hr' hxs he hm (by omega) (by omega)
          rw [show hh - n = 0 by omega]
          simpa using this
      · refine ⟨.slice (some ⟨b, o + l * sz, none⟩) (hh - l) (n - l), ?_, .of_PR ?_⟩
        · simp [Instr.sliceAt, Sem.run_bind, run_underlying hu, Instr.sureAddr, hb', run_sizeOf' hsz, hnl, Addr.add_mk]
        · exact FR.isl_sub hr' hxs he hm (by omega) (by omega)
    · simp at h
  · rename_i s hu
    simp only [Option.bind_eq_some_iff] at h
    obtain ⟨hh, hhh, l, hl, h⟩ := h
    split at h
    · rename_i hc
      obtain rfl := Option.some.inj h
      obtain rfl := hx.str_inv
      have hb' := bounds_ok (P := P) (w := w) (isSlice := false) (len := s.size) (cap := s.size) (d := s.size) hlo hlo' hhi hhi' rfl hhh hl hc.1 hc.2
      exact ⟨.string (s.extract l hh), by simp [Instr.sliceAt, Instr.slice, Sem.run_bind, run_underlying hu, hb'], VR.str⟩
    · simp at h
  · rename_i e p sz n off len hu
    simp only [Option.bind_eq_some_iff] at h
    obtain ⟨hh, hhh, l, hl, h⟩ := h
    split at h
    · rename_i hc
      obtain ⟨hle, hhn, hsz, hlive⟩ := hc
      obtain rfl := Option.some.inj h
      obtain ⟨ad, cap, rfl, h1, hcap, h2⟩ := PR.sl_inv (show PR E (.sl p sz n off len) cx from hx)
      have hads := PR.sl_spot (show PR E (.sl p sz n off len) _ from hx)
      by_cases hhcap : hh ≤ cap
      · have hb' := bounds_ok (P := P) (w := w) (isSlice := true) (len := len) (cap := cap) (d := len) hlo hlo' hhi hhi' rfl hhh hl hle hhcap
        refine ⟨.slice (some (if cap = l then ad else ad.add (l * sz))) (hh - l) (cap - l), ?_, .of_PR (v := .sl p sz n (off + l) _) ⟨[_], .sl (a := if cap = l then ad else ad.add (l * sz)) h1 (by omega) (fun L hL => ?_) (by split <;> simp [hads, Addr.add_spot]) .nil, rfl⟩⟩
        · by_cases hcl : cap = l
          · subst hcl
            simp [Instr.sliceAt, Instr.slice, Sem.run_bind, run_underlying hu, hb', run_sizeOf' hsz]
          · simp [Instr.sliceAt, Instr.slice, Sem.run_bind, run_underlying hu, hb', run_sizeOf' hsz, hcl]
        · rcases h2 L hL with h3 | ⟨h3, h4, h5, h6⟩
          · exact .inl h3
          · refine .inr ⟨h3, by omega, by rw [show off + l + (cap - l) = off + cap by omega]; exact h5, ?_⟩
            by_cases hcl : cap = l
            · exact .inl (by omega)
            · rcases h6 with h6 | rfl
              · exact .inl (by omega)
              · refine .inr ?_
                rw [if_neg hcl, Addr.add_mk]
                simp only [Nat.add_mul, Addr.mk.injEq, and_true, true_and]
                omega
      · exfalso
        rcases hlive with h3 | h3
        · omega
        · simp only [Option.map_eq_some_iff] at h3
          obtain ⟨bk, hb, hg⟩ := h3
          obtain ⟨L, hL, _, _, hgen⟩ := hs.at hb hg
          rcases h2 L hL with h4 | ⟨_, h4, _⟩
          · omega
          · omega
    · simp at h
  · rename_i e sz xs hu
    simp only [Option.bind_eq_some_iff] at h
    obtain ⟨hh, hhh, l, hl, h⟩ := h
    split at h
    · rename_i hc
      obtain ⟨hle, hhn, hsz⟩ := hc
      obtain rfl := Option.some.inj h
      obtain ⟨b, o, sp, c1, cap, rfl, hsp, hr, hf, he, hcap, hm⟩ := PR.isl_inv (show PR E (.isl sz xs) cx from hx)
      have hb' := bounds_ok (P := P) (w := w) (isSlice := true) (len := xs.length) (cap := cap) (d := xs.length) hlo hlo' hhi hhi' rfl hhh hl hle (by omega)
      rcases hsp with rfl | rfl
      rotate_left
      · have hh0 : hh = 0 := by simpa using hhn
        have hl0 : l = 0 := by omega
        subst hh0 hl0
        cases hf
        refine ⟨.slice (some ⟨b, o, sp⟩) (0 - 0) (cap - 0), ?_, .of_PR ⟨[_], .isl (xs := []) (c1 := []) rfl .nil (by simp) (by simp) (by simp) (.inr rfl) .nil, rfl⟩⟩
        simp only [List.length_nil] at hb'
        by_cases hc0 : cap = 0
        · subst hc0
          simp [Instr.sliceAt, Instr.slice, Sem.run_bind, run_underlying hu, hb', run_sizeOf' hsz]
        · simp [Instr.sliceAt, Instr.slice, Sem.run_bind, run_underlying hu, hb', run_sizeOf' hsz, Addr.add]
      by_cases hcl : cap = l
      · subst hcl
        refine ⟨.slice (some ⟨b, o, none⟩) (hh - cap) (cap - cap), ?_, .of_PR ?_⟩
        · simp [Instr.sliceAt, Instr.slice, Sem.run_bind, run_underlying hu, hb', run_sizeOf' hsz]
        · have := FR.isl_sub (E := E) (l := 0) (n := 0) (cap := cap - cap) hr hf he hm (by omega) (by omega)
          rw [show hh - cap = 0 by omega]
          simpa using this
      · refine ⟨.slice (some ⟨b, o + l * sz, none⟩) (hh - l) (cap - l), ?_, .of_PR ?_⟩
        · simp [Instr.sliceAt, Instr.slice, Sem.run_bind, run_underlying hu, hb', run_sizeOf' hsz, hcl, Addr.add_mk]
        · exact FR.isl_sub hr hf he hm (by omega) (by omega)
    · simp at h
  · rename_i e hu
    simp only [Option.bind_eq_some_iff] at h
    obtain ⟨hh, hhh, l, hl, h⟩ := h
    split at h
    · rename_i hc
      obtain ⟨rfl, rfl, hsz⟩ := hc
      obtain ⟨sz, hsz⟩ := Option.isSome_iff_exists.1 hsz
      obtain rfl := Option.some.inj h
      obtain ⟨cs, h1, rfl⟩ := (show PR E .nils cx from hx)
      cases h1
      have hb' := bounds_ok (P := P) (w := w) (isSlice := true) (len := 0) (cap := 0) (d := 0) hlo hlo' hhi hhi' rfl hhh hl (Nat.le_refl _) (Nat.le_refl _)
      exact ⟨.slice none 0 0, by simp [Instr.sliceAt, Instr.slice, Sem.run_bind, run_underlying hu, hb', pack, AV.isAgg, run_sizeOf' hsz], .of_PR (v := .nils) ⟨[_], .nils .nil, rfl⟩⟩
    · simp at h
  · simp at h

end
end Go.X
/-
  Comparisons.
-/
namespace Go.X
open Go.RowKit (Below)

section
variable {P : Program} {B : Nat} {E E' : Env} {H : Heap} {w w' : World}

theorem eqMany_ok {d : Nat} {f : TypeId → AV → AV → Option Bool}
    (hf : ∀ t x y cx cy r, PR E x cx → PR E y cy → f t x y = some r → (Op.equalIn d t cx cy).run P w = .ok r w) :
    ∀ (fs : List Field) (o : Nat) (xs ys : List AV) (cx cy px py : List Value) (r : Bool), FR E xs cx → FR E ys cy → px.length = o → py.length = o →
      eqMany P f fs o xs ys = some r → (Op.eqFields d (px ++ cx).toArray (py ++ cy).toArray fs).run P w = .ok r w
  | [], o, xs, ys, cx, cy, px, py, r, hx, hy, _, _, h => by
    cases xs <;> cases ys <;> simp only [eqMany, Option.some.injEq, reduceCtorEq] at h
    subst h
    rfl
  | fl :: fs, o, xs, ys, cx, cy, px, py, r, hx, hy, hpx, hpy, h => by
    cases xs <;> cases ys <;> simp only [eqMany, reduceCtorEq] at h
    rename_i x xs y ys
    split at h
    · rename_i hc
      obtain ⟨ho, hsz, hyl, hag, hya⟩ := hc
      obtain ⟨c1, c2, rfl, h1, h2⟩ := hx.cons_inv
      obtain ⟨d1, d2, rfl, k1, k2⟩ := hy.cons_inv
      have l1 : c1.length = x.flatLen := by rw [h1.length]; simp [sumLen]
      have l2 : d1.length = x.flatLen := by rw [k1.length, ← hyl]; simp [sumLen]
      have next := fun r h => eqMany_ok hf fs (o + x.flatLen) xs ys c2 d2 (px ++ c1) (py ++ d1) r h2 k2 (by simp; omega) (by simp; omega) h
      simp only [List.append_assoc] at next
      split at h
      · rename_i hn
        simp only [Option.bind_eq_some_iff] at h
        obtain ⟨b, hb, h⟩ := h
        have e1 := run_part' (P := P) (w := w) (pre := px) (post := c2) h1 (hpx.trans ho.symm) hag hsz
        have e2 := run_part' (P := P) (w := w) (pre := py) (post := d2) k1 (hpy.trans ho.symm) (by rw [hya]; exact hag) (by rw [hyl]; exact hsz)
        simp only [List.append_assoc] at e1 e2
        have e3 := hf _ _ _ _ _ _ (PR.of_cells h1) (PR.of_cells k1) hb
        rw [Op.eqFields, if_pos hn]
        simp only [Sem.run_bind, e1, e2, e3, Result.andThen_ok]
        cases b
        · simp only [Bool.false_eq_true, if_false, Option.some.injEq] at h
          subst h
          simp
        · simp only [if_true] at h
          simpa using next r h
      · rename_i hn
        rw [Op.eqFields, if_neg hn]
        exact next r h
    · simp at h

theorem eqRep_ok {d : Nat} {e : TypeId} {c : Nat} {f : TypeId → AV → AV → Option Bool} (hc : tsize P e = some c)
    (hf : ∀ t x y cx cy r, PR E x cx → PR E y cy → f t x y = some r → (Op.equalIn d t cx cy).run P w = .ok r w) :
    ∀ (xs ys : List AV) (cx cy px py : List Value) (k n : Nat) (r : Bool), FR E xs cx → FR E ys cy → (∀ x ∈ xs, x.flatLen = c) → (∀ y ∈ ys, y.flatLen = c) → px.length = k * c → py.length = k * c → xs.length = n →
      eqRep P f e xs ys = some r → (Op.eqItems d e c (px ++ cx).toArray (py ++ cy).toArray (List.range' k n)).run P w = .ok r w
  | [], ys, cx, cy, px, py, k, n, r, hx, hy, _, _, _, _, hn, h => by
    cases ys <;> simp only [eqRep, Option.some.injEq, reduceCtorEq] at h
    subst h
    subst hn
    rfl
  | x :: xs, ys, cx, cy, px, py, k, n, r, hx, hy, hlx, hly, hpx, hpy, hn, h => by
    cases ys <;> simp only [eqRep, reduceCtorEq] at h
    rename_i y ys
    split at h
    · rename_i hag
      obtain ⟨hag, hya⟩ := hag
      obtain ⟨c1, c2, rfl, h1, h2⟩ := hx.cons_inv
      obtain ⟨d1, d2, rfl, k1, k2⟩ := hy.cons_inv
      have fx : x.flatLen = c := hlx x (List.mem_cons_self)
      have fy : y.flatLen = c := hly y (List.mem_cons_self)
      have l1 : c1.length = c := by rw [h1.length]; simp [sumLen, fx]
      have l2 : d1.length = c := by rw [k1.length]; simp [sumLen, fy]
      obtain ⟨n', rfl⟩ : ∃ n', n = n' + 1 := ⟨n - 1, by simp at hn; omega⟩
      have next := fun r h => eqRep_ok hc hf xs ys c2 d2 (px ++ c1) (py ++ d1) (k + 1) n' r h2 k2 (fun x hx => hlx x (List.mem_cons_of_mem _ hx)) (fun x hx => hly x (List.mem_cons_of_mem _ hx))
        (by simp [Nat.add_mul]; omega) (by simp [Nat.add_mul]; omega) (by simpa using hn) h
      simp only [List.append_assoc] at next
      simp only [Option.bind_eq_some_iff] at h
      obtain ⟨b, hb, h⟩ := h
      have e1 := run_part' (P := P) (w := w) (pre := px) (post := c2) h1 hpx hag (by rw [fx]; exact hc)
      have e2 := run_part' (P := P) (w := w) (pre := py) (post := d2) k1 hpy (by rw [hya]; exact hag) (by rw [fy]; exact hc)
      simp only [List.append_assoc] at e1 e2
      have e3 := hf _ _ _ _ _ _ (PR.of_cells h1) (PR.of_cells k1) hb
      rw [List.range'_succ, Op.eqItems]
      simp only [Sem.run_bind, e1, e2, e3, Result.andThen_ok]
      cases b
      · simp only [Bool.false_eq_true, if_false, Option.some.injEq] at h
        subst h
        simp
      · simp only [if_true] at h
        simpa using next r h
    · simp at h

theorem PR.leaf {v : AV} {c : Value} (h : PR E v c) (hv : v.isAgg = false) : FR E [v] [c] := by
  obtain ⟨cs, h1, rfl⟩ := h
  obtain ⟨c, rfl, hp⟩ := h1.one_leaf hv
  rwa [hp]

set_option maxHeartbeats 2000000 in
theorem eqAV_ok : ∀ (d k : Nat) (t : TypeId) (x y : AV) (cx cy : Value) (r : Bool), PR E x cx → PR E y cy → eqAV P d t x y = some r → (Op.equalIn (k + d) t cx cy).run P w = .ok r w
  | 0, k, t, x, y, cx, cy, r, hx, hy, h => by simp [eqAV] at h
  | d + 1, k, t, x, y, cx, cy, r, hx, hy, h => by
    have ih := fun t x y cx cy r => eqAV_ok d k t x y cx cy r
    unfold eqAV at h
    split at h
    case h_13 =>
      rename_i fs n xs m ys hu
      split at h
      · simp at h
      · rename_i hst
        obtain ⟨cs, rfl, hf, _⟩ := PR.agg_inv hx
        obtain ⟨ds, rfl, hg, _⟩ := PR.agg_inv hy
        have hfs : P.fieldsOf t = fs := by simp [Program.fieldsOf, hu]
        have := eqMany_ok (d := k + d) ih fs.toList 0 xs ys cs ds [] [] r hf hg rfl rfl h
        rw [← Nat.add_assoc, run_equalIn_struct w (k + d) t _ _ (by rw [hfs]; exact hu) (by simpa using hst), hfs]
        simpa using this
    case h_14 =>
      rename_i n e a xs b ys hu
      split at h
      · rename_i hc
        obtain ⟨hc, rfl, hn⟩ := hc
        obtain ⟨cs, rfl, hf, hfe⟩ := PR.arr_inv hx
        obtain ⟨ds, rfl, hg, hge⟩ := PR.arr_inv hy
        have := eqRep_ok (d := k + d) hc ih xs ys cs ds [] [] 0 n r hf hg hfe hge (by simp) (by simp) hn h
        obtain ⟨i, hi, hsz⟩ : ∃ i, P.info? e = some i ∧ i.size = a := by simpa [tsize] using hc
        have hce : P.cellsOf e = a := by simp [Program.cellsOf, hi, hsz]
        rw [← Nat.add_assoc, run_equalIn_array w (k + d) _ _ hu hi, hce, List.range_eq_range']
        simpa using this
      · simp at h
    case h_12 =>
      rename_i ms tx vx ty vy hu
      have h1 := hx.leaf rfl
      have h2 := hy.leaf rfl
      cases h1 with
      | iface h1 h1' =>
      cases h2 with
      | iface h2 h2' =>
      rw [← Nat.add_assoc]
      split at h
      · rename_i hne
        obtain rfl := Option.some.inj h
        simp [Op.equalIn, run_underlying hu, hne]
      · rename_i hne
        have hne : tx = ty := Decidable.not_not.1 hne
        subst hne
        split at h
        · rename_i hcomp
          simp only [Option.map_eq_some_iff] at hcomp
          obtain ⟨i, hi, hcomp⟩ := hcomp
          have := ih _ _ _ _ _ _ (PR.of_cells h1) (PR.of_cells h2) h
          simp [Op.equalIn, run_underlying hu, typeInfo, hi, hcomp, this]
        · simp at h
    case h_1 =>
      rename_i a b hu
      obtain rfl := (VR.of_PR hx).bool_inv
      obtain rfl := (VR.of_PR hy).bool_inv
      obtain rfl := Option.some.inj h
      simp [Op.equalIn, run_underlying hu]
    case h_2 =>
      rename_i k1 k2 a k3 b hu
      split at h
      · rename_i hk
        obtain rfl := (VR.of_PR hx).int_inv
        obtain rfl := (VR.of_PR hy).int_inv
        obtain rfl := Option.some.inj h
        simp [Op.equalIn, run_underlying hu, hk]
      · simp at h
    case h_3 =>
      rename_i a b hu
      obtain rfl := (VR.of_PR hx).str_inv
      obtain rfl := (VR.of_PR hy).str_inv
      obtain rfl := Option.some.inj h
      simp [Op.equalIn, run_underlying hu]
    case h_26 => simp at h
    all_goals
      first | (rename_i hu; obtain rfl := Option.some.inj h) | (simp at h; done)
      have h1 := hx.leaf rfl
      have h2 := hy.leaf rfl
      cases h1 <;> cases h2 <;> simp [Op.equalIn, run_underlying hu]

end
end Go.X
/-
  Structs and arrays built of their parts; type assertions; lengths.
-/
namespace Go.X
open Go.RowKit (Below)

section
variable {P : Program} {B : Nat} {E E' : Env} {H : Heap} {w w' : World}

/-- Parts, related one by one. -/
inductive Parts (E : Env) : List (Nat × AV) → List (Nat × Value) → Prop
  | nil : Parts E [] []
  | cons {i : Nat} {v : AV} {c : Value} {ps : List (Nat × AV)} {cs : List (Nat × Value)} : VR E v c → Parts E ps cs → Parts E ((i, v) :: ps) ((i, c) :: cs)

theorem fill_step {pre mid post mid' : List Value} (hl : mid'.length = mid.length) :
    (mid'.toArray.zipIdx.foldl (fun cs (x : Value × Nat) => cs.setIfInBounds (pre.length + x.2) x.1) (pre ++ mid ++ post).toArray) = (pre ++ mid' ++ post).toArray := by
  obtain ⟨h1, h2⟩ := Go.Great.foldl_set pre.length mid' 0 (pre ++ mid ++ post).toArray
  have : mid'.toArray.zipIdx.foldl (fun cs (x : Value × Nat) => cs.setIfInBounds (pre.length + x.2) x.1) (pre ++ mid ++ post).toArray =
      (mid'.zipIdx 0).foldl (fun cs (x : Value × Nat) => cs.setIfInBounds (pre.length + x.2) x.1) (pre ++ mid ++ post).toArray := by
    rw [← Array.foldl_toList]
    simp
  rw [this]
  apply Array.ext_getElem?
  intro k
  rw [h2 k]
  simp only [List.size_toArray, List.getElem?_toArray, List.length_append, Nat.add_zero]
  by_cases hk : pre.length ≤ k ∧ k < pre.length + mid'.length ∧ k < pre.length + mid.length + post.length
  · rw [if_pos hk, List.append_assoc, List.getElem?_append_right hk.1, List.getElem?_append_left (by omega)]
  · rw [if_neg hk, List.append_assoc, List.append_assoc]
    rcases Nat.lt_or_ge k pre.length with h | h
    · rw [List.getElem?_append_left h, List.getElem?_append_left h]
    · rw [List.getElem?_append_right h, List.getElem?_append_right h]
      rcases Nat.lt_or_ge (k - pre.length) mid.length with h3 | h3
      · omega
      · rw [List.getElem?_append_right h3, List.getElem?_append_right (by omega), hl]

theorem fill_ok {place place' : Nat → Option (Nat × Nat)} (hpl : ∀ i x, place i = some x → place' i = some x) :
    ∀ (ps : List (Nat × AV)) (cps : List (Nat × Value)) (acc acc' : AV) (cells : List Value), Parts E ps cps → FR E [acc] cells → fillAV place acc ps = some acc' →
      ∃ cells', Instr.fill place' cells.toArray cps = some cells'.toArray ∧ FR E [acc'] cells' ∧ acc'.flatLen = acc.flatLen ∧ (acc.isAgg = true → acc'.isAgg = true)
  | [], _, acc, acc', cells, hp, hf, h => by
    cases hp
    simp only [fillAV, Option.some.injEq] at h
    subst h
    exact ⟨cells, rfl, hf, rfl, id⟩
  | (i, v) :: ps, _, acc, acc', cells, hp, hf, h => by
    cases hp with
    | cons hv hp =>
    rename_i c cps
    simp only [fillAV, Option.bind_eq_some_iff] at h
    obtain ⟨⟨off, sz⟩, hx, ⟨o, u⟩, hat, h⟩ := h
    split at h
    · rename_i hc
      obtain ⟨rfl, hvl, hvp⟩ := hc
      simp only [Option.bind_eq_some_iff] at h
      obtain ⟨acc1, hput, h⟩ := h
      have hvc := (hv.toPR hvp).cells
      obtain ⟨pre, mid, post, rfl, hpre, hm, hlen, hf1, hfl⟩ := put_spec _ _ _ _ _ _ _ _ hf hat hput hvc
      obtain ⟨cells', h1, h2, h3, h4⟩ := fill_ok hpl ps cps acc1 acc' _ hp hf1 h
      refine ⟨cells', ?_, h2, h3.trans hfl, fun ha => h4 (put_agg hput ha)⟩
      unfold Instr.fill
      rw [hpl i _ hx]
      have hcl : c.cells.size = v.flatLen := by
        have := hvc.length
        simpa [sumLen] using this
      simp only [hcl, hvl]
      have hms : mid.length = sz := by
        have : c.cells.toList.length = sz := by simp [hcl, hvl]
        omega
      rw [if_neg (by simp; omega)]
      rw [← h1]
      have := fill_step (pre := pre) (mid := mid) (post := post) (mid' := c.cells.toList) hlen
      simp only [hpre] at this
      rw [← this]
    · simp at h
where
  put_agg : ∀ {acc acc1 v : AV} {i : Nat}, acc.put? [i] v = some acc1 → acc.isAgg = true → acc1.isAgg = true := by
    intro acc acc1 v i h ha
    cases acc <;> simp only [AV.put?, Option.bind_eq_some_iff, Option.map_eq_some_iff, reduceCtorEq] at h
    · obtain ⟨_, _, _, _, rfl⟩ := h; rfl
    · obtain ⟨_, _, _, _, rfl⟩ := h; rfl

theorem places_ok : ∀ (fs : List Field), fs.all (fun f => (tsize P f.type).isSome) = true → ∃ places, fs.mapM (fun f => (P.info? f.type).map fun i => (f.offset, i.size)) = some places ∧ ∀ i x, structPlace P fs i = some x → places[i]? = some x
  | [], _ => ⟨[], rfl, fun i x h => by simp [structPlace] at h⟩
  | f :: fs, h => by
    simp only [List.all_cons, Bool.and_eq_true] at h
    obtain ⟨places, h1, h2⟩ := places_ok fs h.2
    obtain ⟨sz, hsz⟩ := Option.isSome_iff_exists.1 h.1
    obtain ⟨inf, hi, hs⟩ : ∃ i, P.info? f.type = some i ∧ i.size = sz := by simpa [tsize] using hsz
    refine ⟨(f.offset, sz) :: places, by simp [List.mapM_cons, hi, h1, hs], fun i x hx => ?_⟩
    cases i with
    | zero => simpa [structPlace, hsz] using hx
    | succ i => simpa [structPlace] using h2 i x (by simpa [structPlace] using hx)

theorem build_ok {t : TypeId} {ps : List (Nat × AV)} {cps : List (Nat × Value)} {v : AV} (hp : Parts E ps cps) (h : buildAV P t ps = some v) :
    ∃ c, (Instr.build t cps.toArray).run P w = .ok c w ∧ VR E v c := by
  simp only [buildAV, Option.bind_eq_some_iff] at h
  obtain ⟨z, hz, h⟩ := h
  obtain ⟨i, zv, hi, hiz, hf, _, hpk⟩ := zero_spec (E := E) hz
  split at h
  · simp at h
  rename_i hzag
  have hzag : z.isAgg = true := by simpa using hzag
  split at h
  · rename_i fs hu
    split at h
    · rename_i hall
      obtain ⟨places, hpl, hpl2⟩ := places_ok fs.toList hall
      obtain ⟨cells', h1, h2, h3, h4⟩ := fill_ok (place' := (places.toArray[·]?)) (fun i x hx => by simpa using hpl2 i x hx) ps cps z v _ hp hf h
      refine ⟨.agg cells'.toArray, run_build w t _ _ ?_, .of_PR ⟨cells', h2, by simp [pack, h4 hzag]⟩⟩
      simp only [Program.built, hi, hu, hiz, hpl]
      simpa using h1
    · simp at h
  · rename_i n e hu
    simp only [Option.bind_eq_some_iff] at h
    obtain ⟨s, hs, h⟩ := h
    obtain ⟨inf, hie, hs'⟩ : ∃ i, P.info? e = some i ∧ i.size = s := by simpa [tsize] using hs
    obtain ⟨cells', h1, h2, h3, h4⟩ := fill_ok (place' := fun i => some (i * s, s)) (fun i x hx => hx) ps cps z v _ hp hf h
    refine ⟨.agg cells'.toArray, run_build w t _ _ ?_, .of_PR ⟨cells', h2, by simp [pack, h4 hzag]⟩⟩
    simp only [Program.built, hi, hu, hiz, hie, hs']
    simpa using h1
  · simp at h

theorem PR.iface_inv {t : TypeId} {v : AV} {c : Value} (h : PR E (.iface t v) c) : ∃ cv, c = .iface t cv ∧ PR E v cv := by
  have h1 := h.leaf rfl
  cases h1 with
  | iface h1 h2 => exact ⟨_, rfl, _, h1, rfl⟩

theorem PR.nili_inv {c : Value} (h : PR E .nili c) : c = .nilIface := by
  have h1 := h.leaf rfl
  cases h1
  rfl

theorem VR.pair {a : AV} {ca : Value} {b : Bool} (h : PR E a ca) : VR E (.tuple [a, .bool b]) (.tuple #[ca, .bool b]) := by
  refine ⟨[ca, .bool b], rfl, rfl, fun i v c hv hc => ?_⟩
  match i with
  | 0 => simp at hv hc; subst hv hc; exact .inr h
  | 1 => simp at hv hc; subst hv hc; exact .inr .bool
  | i + 2 => simp at hv

theorem typeAssert_ok {x v : AV} {cx : Value} {xt as : TypeId} {ok : Bool} (hx : VR E x cx) (h : typeAssertAV P x as ok = some v) :
    ∃ c, (Instr.typeAssert cx xt as ok).run P w = .ok c w ∧ VR E v c := by
  have hfail : (if ok then (zeroAV P as).map fun z => AV.tuple [z, .bool false] else none) = some v → ok = true ∧ ∃ z cz, (∀ w, (zeroValue as).run P w = .ok cz w) ∧ PR E z cz ∧ v = .tuple [z, .bool false] := by
    intro h
    split at h
    · rename_i hok
      simp only [Option.map_eq_some_iff] at h
      obtain ⟨z, hz, rfl⟩ := h
      obtain ⟨i, zv, hi, hiz, hf, _, hpk⟩ := zero_spec (E := E) hz
      exact ⟨hok, z, zv, fun w => run_zeroValue' hi hiz w, ⟨_, hf, hpk.symm⟩, rfl⟩
    · simp at h
  have hhold : ∀ {u cu}, PR E u cu → (if ok then AV.tuple [u, .bool true] else u) = v → VR E v (if ok then .tuple #[cu, .bool true] else cu) := by
    intro u cu hu hv
    subst hv
    cases ok
    · exact VR.of_PR hu
    · exact VR.pair hu
  simp only [typeAssertAV] at h
  split at h
  · rename_i ms hu
    obtain ⟨rfl, z, cz, h1, h2, rfl⟩ := hfail h
    obtain rfl := PR.nili_inv (show PR E .nili cx from hx)
    exact ⟨_, by simp [Instr.typeAssert, run_underlying hu, h1], VR.pair h2⟩
  · rename_i want t u hu
    simp only [Option.bind_eq_some_iff] at h
    obtain ⟨i, hi, h⟩ := h
    obtain ⟨cu, rfl, hcu⟩ := PR.iface_inv (show PR E (.iface t u) cx from hx)
    split at h
    · rename_i hm
      obtain ⟨rfl, z, cz, h1, h2, rfl⟩ := hfail h
      obtain ⟨m, hm⟩ := missingMethod_some (want := want) (got := i.methods) (by simpa [missingB] using hm)
      exact ⟨_, by simp [Instr.typeAssert, run_underlying hu, typeInfo, hi, hm, h1], VR.pair h2⟩
    · rename_i hm
      have hm : Instr.missingMethod want i.methods = none := missingMethod_none (by simpa [missingB] using hm)
      exact ⟨_, by simp only [Instr.typeAssert, Sem.run_bind, run_underlying hu, typeInfo, run_program, hi, Result.andThen_ok, Sem.run_pure, hm], hhold (show PR E (.iface t u) _ from hx) (by simpa using h)⟩
  · rename_i d hx' hu
    obtain ⟨rfl, z, cz, h1, h2, rfl⟩ := hfail h
    obtain rfl := PR.nili_inv (show PR E .nili cx from hx)
    refine ⟨_, ?_, VR.pair h2⟩
    cases d <;> first | (simp [Instr.typeAssert, run_underlying hu, h1]; done) | (exfalso; exact hx' _ rfl)
  · rename_i d t u hx' hu
    obtain ⟨cu, rfl, hcu⟩ := PR.iface_inv (show PR E (.iface t u) cx from hx)
    split at h
    · rename_i hta
      refine ⟨_, ?_, hhold hcu (by simpa using h)⟩
      cases d <;> first | (simp [Instr.typeAssert, run_underlying hu, hta]; done) | (exfalso; exact hx' _ rfl)
    · rename_i hta
      obtain ⟨rfl, z, cz, h1, h2, rfl⟩ := hfail h
      refine ⟨_, ?_, VR.pair h2⟩
      cases d <;> first | (simp [Instr.typeAssert, run_underlying hu, hta, h1]; done) | (exfalso; exact hx' _ rfl)
  · simp at h

end
end Go.X
/-
  Operations that write memory or make it: stores, new variables, slices made.
-/
namespace Go.X
open Go.RowKit (Below)

section
variable {P : Program} {B : Nat} {E E' : Env} {H : Heap} {w w' : World}

theorem below_setCells (b : Nat) (hb : B ≤ b) : ∀ (vs : List Value) (o : Nat) (w : World), Bel B w (w.setCells b o vs)
  | [], _, w => Bel.refl _ _
  | v :: vs, o, w => by
    rw [World.setCells]
    exact ((Bel.refl B w).setCell (p := ⟨b, o, none⟩) hb v).trans (below_setCells b hb vs (o + 1) _)

theorem setCells_some (b : Nat) : ∀ (vs : List Value) (o : Nat) (w : World) (x : Addr), (w.cell? x).isSome = true → ((w.setCells b o vs).cell? x).isSome = true
  | [], _, _, _, h => h
  | v :: vs, o, w, x, h => by
    rw [World.setCells]
    refine setCells_some b vs (o + 1) _ x ?_
    obtain ⟨u, hu⟩ := Option.isSome_iff_exists.1 h
    obtain ⟨v', hv⟩ := Go.RowKit.cell?_setCell_some (w := w) (p := ⟨b, o, none⟩) (x := v) (q := x) (v := u) hu
    rw [hv]; rfl

/-- A part of a live block is written over by a value of the same size. -/
theorem Sim.part (hs : Sim B E H w) {i : Nat} {bk : Blk} {L : Loc} {path : List Nat} {o : Nat} {u u' r : AV} {g fl : Bool} {mid' : List Value} (hb : H.blk i = some bk) (hL : E.loc i = some L)
    (hat : bk.root.at? path = some (o, u)) (hput : bk.root.put? path u' = some r) (hm' : FR E [u'] mid') (hfl : fl = true → r.refs = []) :
    (storeCells ⟨L.b, L.base + o, none⟩ mid').run P w = .ok () (w.setCells L.b (L.base + o) mid') ∧
    Sim B E (H.set i (some ⟨r, g, fl⟩)) (w.setCells L.b (L.base + o) mid') ∧ ∀ k, Tr B k E w E (w.setCells L.b (L.base + o) mid') := by
  obtain ⟨L', hL', hB, hBL⟩ := hs.live _ _ hb
  obtain rfl : L = L' := by rw [hL] at hL'; exact Option.some.inj hL'
  obtain ⟨cs, hf, hlen, hcells⟩ := hB.cs
  obtain ⟨pre, mid, post, rfl, hpre, hm, hml, hr, _⟩ := put_spec _ _ _ _ _ _ _ _ hf hat hput hm'
  have hfit := hB.fits
  have hlen' : pre.length + mid.length + post.length = L.gen := by rw [← hlen]; simp; omega
  have hroom : ∀ j, j < mid'.length → o + j < L.ext := fun j hj => by omega
  have hin := World.cell?_setCells_in L.b mid' (L.base + o) w (fun j hj => by
    rw [Nat.add_assoc]; exact (hB.room (o + j) (hroom j hj)).1)
  have hout : ∀ b q, ¬ (b = L.b ∧ L.base + o ≤ q ∧ q < L.base + o + mid'.length) → (w.setCells L.b (L.base + o) mid').cell? ⟨b, q, none⟩ = w.cell? ⟨b, q, none⟩ := fun b q hq =>
    World.cell?_setCells_out L.b mid' (L.base + o) w ⟨b, q, none⟩ (fun h1 _ => by simp only at h1 ⊢; omega)
  refine ⟨?_, ?_⟩
  · have := run_storeCells_cells (P := P) L.b (L.base + o) mid' 0 w (fun j hj => by
      rw [Nat.add_zero, Nat.add_assoc]; exact (hB.room (o + j) (hroom j hj)).1) (fun j hj => by
      rw [Nat.add_zero, Nat.add_assoc]; exact (hB.room (o + j) (hroom j hj)).2) (fun v hv => hm'.oneCell v hv)
    simpa using this
  · refine hs.write hb hL hr (by simp; omega) hfl (fun j c hj => ?_) (fun j hj => setCells_some _ _ _ _ _ (hB.room j hj).1) (fun b q hq => hout b q (fun hh => hq ?_)) (fun b q => World.frozen?_setCells _ _ _ _ _) (below_setCells _ hBL _ _ _)
    · by_cases h1 : o ≤ j ∧ j < o + mid'.length
      · have h2 := hin (j - o) (by omega)
        rw [show L.base + o + (j - o) = L.base + j by omega] at h2
        rw [h2, ← hj, List.append_assoc, List.getElem?_append_right (by omega), List.getElem?_append_left (by omega), hpre, List.getElem?_eq_getElem (by omega)]
      · rw [hout _ _ (by omega)]
        refine hcells j c ?_
        rw [List.append_assoc] at hj ⊢
        rcases Nat.lt_or_ge j pre.length with h | h
        · rw [List.getElem?_append_left h] at hj ⊢; exact hj
        · rw [List.getElem?_append_right h] at hj ⊢
          rw [List.getElem?_append_right (by omega)] at hj ⊢
          rw [hml] at hj
          exact hj
    · have := hroom (mid'.length - 1)
      unfold Loc.has
      omega

theorem put_refs : ∀ (path : List Nat) (v u r : AV), v.put? path u = some r → ∀ x ∈ r.refs, x ∈ v.refs ∨ x ∈ u.refs
  | [], v, u, r, h, x, hx => by
    have h2 : v.flatLen = u.flatLen ∧ u = r := by cases v <;> simpa [AV.put?] using h
    exact .inr (h2.2 ▸ hx)
  | i :: p, v, u, r, h, x, hx => by
    cases v with
    | agg n ps =>
      simp only [AV.put?, Option.bind_eq_some_iff, Option.map_eq_some_iff] at h
      obtain ⟨q, hq, q', hq', rfl⟩ := h
      simp only [AV.refs] at hx ⊢
      exact refsL_set hq (fun y hy => put_refs p q u q' hq' y hy) hx
    | arr n ps =>
      simp only [AV.put?, Option.bind_eq_some_iff, Option.map_eq_some_iff] at h
      obtain ⟨q, hq, q', hq', rfl⟩ := h
      simp only [AV.refs] at hx ⊢
      exact refsL_set hq (fun y hy => put_refs p q u q' hq' y hy) hx
    | _ => simp [AV.put?] at h
where
  refsL_set : ∀ {ps : List AV} {i : Nat} {q q' u : AV} {x : Nat}, ps[i]? = some q → (∀ y ∈ q'.refs, y ∈ q.refs ∨ y ∈ u.refs) → x ∈ refsL (ps.set i q') → x ∈ refsL ps ∨ x ∈ u.refs
    | p :: ps, 0, q, q', u, x, hq, h, hx => by
      simp only [List.getElem?_cons_zero, Option.some.injEq] at hq
      subst hq
      simp only [List.set_cons_zero, refsL, List.mem_append] at hx ⊢
      rcases hx with hx | hx
      · rcases h x hx with h | h
        · exact .inl (.inl h)
        · exact .inr h
      · exact .inl (.inr hx)
    | p :: ps, i + 1, q, q', u, x, hq, h, hx => by
      simp only [List.set_cons_succ, refsL, List.mem_append] at hx ⊢
      rcases hx with hx | hx
      · exact .inl (.inl hx)
      · rcases refsL_set (by simpa using hq) h hx with h | h
        · exact .inl (.inr h)
        · exact .inr h

theorem put_notup {r v q : AV} {path : List Nat} (h : r.put? path v = some q) (hv : v.isTup = false) : q.isTup = false := by
  cases path with
  | nil =>
    have : q = v := by
      cases r <;> simp only [AV.put?] at h <;> split at h <;> first | exact (Option.some.inj h).symm | cases h
    rw [this]
    exact hv
  | cons i p =>
    cases r <;> simp only [AV.put?, reduceCtorEq, Option.bind_eq_some_iff, Option.map_eq_some_iff] at h
    · obtain ⟨_, _, _, _, rfl⟩ := h; rfl
    · obtain ⟨_, _, _, _, rfl⟩ := h; rfl

/-- Old blocks' references only get fewer. -/
def Sub (n0 : Nat) (H H' : Heap) : Prop := ∀ i, i < n0 → ∀ b', H'.blk i = some b' → ∃ b, H.blk i = some b ∧ ∀ x ∈ b'.root.refs, x ∈ b.root.refs

theorem Sub.refl (n0 : Nat) (H : Heap) : Sub n0 H H := fun _ _ b h => ⟨b, h, fun _ h => h⟩
theorem Sub.trans {n0 : Nat} {H H1 H2 : Heap} (h : Sub n0 H H1) (g : Sub n0 H1 H2) : Sub n0 H H2 := fun i hi b h2 => by
  obtain ⟨b1, h1, k1⟩ := g i hi b h2
  obtain ⟨b0, h0, k0⟩ := h i hi b1 h1
  exact ⟨b0, h0, fun x hx => k0 x (k1 x hx)⟩
theorem Sub.mono {n0 n1 : Nat} {H H' : Heap} (h : Sub n0 H H') (hn : n1 ≤ n0) : Sub n1 H H' := fun i hi => h i (by omega)

theorem Sub.set {n0 i : Nat} {H : Heap} {bk : Blk} {x : Option Blk} (hb : H.blk i = some bk) (h : i < n0 → ∀ b, x = some b → ∀ y ∈ b.root.refs, y ∈ bk.root.refs) : Sub n0 H (H.set i x) := fun j hj b' hb' => by
  rw [Heap.blk_set' (Heap.blk_some hb)] at hb'
  split at hb'
  · rename_i hij
    subst hij
    exact ⟨bk, hb, h hj b' (blkOf_some hb')⟩
  · exact ⟨b', hb', fun _ h => h⟩

theorem Sub.append {n0 : Nat} {H : Heap} {x : Option Blk} (hn : n0 ≤ H.length) : Sub n0 H (H ++ [x]) := fun j hj b' hb' => by
  rw [Heap.blk_append', if_neg (by omega)] at hb'
  exact ⟨b', hb', fun _ h => h⟩

/-- What an operation comes to. -/
structure Res (B n0 : Nat) (E : Env) (H : Heap) (w : World) (v : AV) (H' : Heap) (e : Bool) (E' : Env) (w' : World) (c : Value) : Prop where
  sim : Sim B E' H' w'
  val : VR E' v c
  tr : Tr B H.length E w E' w'
  len : H.length ≤ H'.length
  sub : e = false → Sub n0 H H'

theorem Res.same {n0 : Nat} {e : Bool} (hs : Sim B E H w) {v : AV} {c : Value} (hv : VR E v c) : Res B n0 E H w v H e E w c :=
  ⟨hs, hv, Tr.refl _ _ _ _, Nat.le_refl _, fun _ => Sub.refl _ _⟩

theorem store_ok {n0 : Nat} (hs : Sim B E H w) {t : TypeId} {a v : AV} {ca cv : Value} {H' : Heap} (ha : VR E a ca) (hv : VR E v cv) (h : storeAV P H t a v = some H') :
    ∃ w', (Instr.storeAt t ca cv).run P w = .ok () w' ∧ Res B n0 E H w .bad H' (storeFlag n0 a v) E w' undef := by
  cases a <;> simp only [storeAV, reduceCtorEq] at h
  rename_i p
  simp only [Option.bind_eq_some_iff] at h
  obtain ⟨bk, hb, ⟨o, u⟩, hat, r, hput, h⟩ := h
  split at h
  · rename_i hc
    obtain ⟨hg, ho, hsz, hp⟩ := hc
    obtain rfl := Option.some.inj h
    obtain ⟨ad, rfl, _, had⟩ := PR.ptr_inv (show PR E (.ptr p) ca from ha)
    obtain ⟨L, hL, hB, _, hgen⟩ := hs.at hb hg
    have had' : ad = ⟨L.b, L.base + o, none⟩ := by
      simp only at ho
      rcases had L hL with h | h
      · omega
      · rw [ho]; exact h.2
    subst had'
    have hcv := (hv.toPR hp).cells
    have hfl : (bk.flat && v.refless) = true → r.refs = [] := fun hfl => by
      simp only [Bool.and_eq_true] at hfl
      have h1 := hs.flat _ _ hb hfl.1
      have h2 := FR.evol0.refs_of_refless hfl.2
      refine List.eq_nil_iff_forall_not_mem.2 (fun x hx => ?_)
      rcases put_refs _ _ _ _ hput x hx with h | h
      · simp [h1] at h
      · simp [h2] at h
    obtain ⟨k1, k2, k3⟩ := hs.part (P := P) (g := bk.grow) hb hL hat hput hcv hfl
    have hcs : cv.cells.size = v.flatLen := by
      have := hcv.length
      simpa [sumLen] using this
    refine ⟨_, ?_, k2, trivial, k3 _, by simp, fun he => ?_⟩
    · simp only [Instr.storeAt, Instr.sureAddr, Sem.run_bind, Sem.run_pure, Result.andThen_ok, storeVar, run_sizeOf' hsz, hcs]
      simpa using k1
    · refine Sub.set hb (fun hi b hb' y hy => ?_)
      obtain rfl := Option.some.inj hb'
      simp only [storeFlag, escapes, Bool.and_eq_false_iff, Bool.not_eq_false'] at he
      rcases he with he | he
      · simp at he; omega
      · rcases put_refs _ _ _ _ hput y hy with h | h
        · exact h
        · simp [FR.evol0.refs_of_refless he] at h
  · simp at h

theorem alloc_at (w' : World) (c : Array Value) (t : TypeId) (fr : Nat × Nat) (j : Nat) : (w'.alloc (.cells c t fr)).cell? ⟨w'.heap.size, j, none⟩ = c[j]? ∧ (w'.alloc (.cells c t fr)).frozen? ⟨w'.heap.size, j, none⟩ = (decide (fr.1 ≤ j) && decide (j < fr.2)) := by
  have h : (w'.alloc (.cells c t fr)).heap[w'.heap.size]? = some (.cells c t fr) := by
    show (w'.heap.push (.cells c t fr))[w'.heap.size]? = some (.cells c t fr)
    simp
  constructor
  · unfold World.cell?
    rw [h]
    rfl
  · unfold World.frozen?
    rw [h]

/-- A new row of cells. -/
theorem row_ok (hs : Sim B E H w) {r : AV} {cs rest : List Value} {t : TypeId} {g fl : Bool} {fr : Nat × Nat} (hf : FR E [r] cs) (hfl : fl = true → r.refs = []) {n : Nat} (hw : w'.heap = w.heap) (hwo : Bel B w w')
    (hfr : fr = (0, 0) ∨ cs.length + rest.length ≤ fr.1) :
    n = cs.length →
    Sim B (E.new ⟨w.heap.size, 0, n + rest.length, n⟩) (H ++ [some ⟨r, g, fl⟩]) (w'.alloc (.cells (cs ++ rest).toArray t fr)) ∧ ∀ k, k ≤ H.length → Tr B k E w (E.new ⟨w.heap.size, 0, n + rest.length, n⟩) (w'.alloc (.cells (cs ++ rest).toArray t fr)) := by
  intro hnl
  have hsz : w'.heap.size = w.heap.size := by rw [hw]
  have hat := alloc_at w' (cs ++ rest).toArray t fr
  rw [hsz] at hat
  refine hs.new hf hnl.symm (Nat.le_add_right _ _) hfl (Nat.le_refl _) (fun j c hj => ?_) (fun j hj => ⟨?_, ?_⟩) (fun b o hb => ⟨?_, ?_⟩) (hwo.trans ((Bel.refl B w').alloc (by rw [hsz]; exact hs.old) _))
  · have hjl : j < cs.length := by
      rcases Nat.lt_or_ge j cs.length with h | h
      · exact h
      · simp [List.getElem?_eq_none h] at hj
    simp only [Nat.zero_add]
    rw [(hat j).1, List.getElem?_toArray, List.getElem?_append_left hjl]
    exact hj
  · simp only at hj
    simp only [Nat.zero_add]
    rw [(hat j).1, List.getElem?_toArray, List.getElem?_eq_getElem (by simp; omega)]
    rfl
  · simp only at hj
    simp only [Nat.zero_add]
    rw [(hat j).2]
    rcases hfr with rfl | h
    · simp
    · simp; omega
  · have : (w'.alloc (.cells (cs ++ rest).toArray t fr)).cell? ⟨b, o, none⟩ = w'.cell? ⟨b, o, none⟩ := by
      refine World.cell?_of_block (Below.heap_alloc w' _ b ?_)
      rw [hsz]; exact hb
    rw [this]
    simp [World.cell?, hw]
  · have : (w'.alloc (.cells (cs ++ rest).toArray t fr)).frozen? ⟨b, o, none⟩ = w'.frozen? ⟨b, o, none⟩ := by
      refine World.frozen?_of_block (Below.heap_alloc w' _ b ?_)
      rw [hsz]; exact hb
    rw [this]
    simp [World.frozen?, hw]

theorem ptr_new {E : Env} {L : Loc} {v : AV} (hg : v.flatLen = L.gen) (hb : L.base = 0) : VR (E.new L) (.ptr ⟨E.top, 0, [], v.flatLen⟩) (.pointer (some ⟨L.b, 0, none⟩)) := by
  refine .of_PR (v := .ptr _) ⟨[_], .ptr (Nat.lt_succ_self _) (fun L' hL' => .inr ?_) .nil, rfl⟩
  simp only [Env.new, if_pos] at hL'
  obtain rfl := Option.some.inj hL'
  exact ⟨hg, by simp [hb]⟩

theorem newVar_ok {n0 : Nat} (hs : Sim B E H w) (hn : n0 ≤ H.length) {v : AV} {cv : Value} {t : TypeId} (hv : FR E [v] cv.cells.toList) :
    (newVar t cv).run P w = .ok ⟨w.heap.size, 0, none⟩ (w.alloc (.cells cv.cells t)) ∧
    Res B n0 E H w (newVarAV H v).1 (newVarAV H v).2 false (E.new ⟨w.heap.size, 0, v.flatLen, v.flatLen⟩) (w.alloc (.cells cv.cells t)) (.pointer (some ⟨w.heap.size, 0, none⟩)) := by
  have hl := hv.length
  simp only [sumLen, Nat.add_zero] at hl
  have := row_ok (w' := w) (g := false) (fl := v.refless) (rest := []) (t := t) (fr := (0, 0)) hs hv (fun h => FR.evol0.refs_of_refless h) rfl (Bel.refl _ _) (.inl rfl) hl.symm
  simp only [List.append_nil, List.length_nil, Nat.add_zero, Array.toArray_toList] at this
  refine ⟨by simp [newVar, newRow], this.1, ?_, this.2 _ (Nat.le_refl _), by simp [newVarAV, newBlk], fun _ => Sub.append hn⟩
  rw [newVarAV, ← hs.top]
  exact ptr_new rfl rfl

theorem alloc_ok {n0 : Nat} (hs : Sim B E H w) (hn : n0 ≤ H.length) {z : AV} {t : TypeId} (hz : zeroAV P t = some z) :
    ∃ c w' E', (Instr.alloc t true (.tuple #[])).run P w = .ok c w' ∧ Res B n0 E H w (newVarAV H z).1 (newVarAV H z).2 false E' w' c := by
  obtain ⟨i, zv, hi, hiz, hf, _, _⟩ := zero_spec (E := E) hz
  obtain ⟨h1, h2⟩ := newVar_ok (P := P) hs hn (t := t) hf
  exact ⟨_, _, _, by simp [Instr.alloc, run_zeroValue' hi hiz, h1], h2⟩

theorem box_ok {n0 : Nat} (hs : Sim B E H w) (hn : n0 ≤ H.length) {v : AV} {cv : Value} {t : TypeId} (hv : VR E v cv) (hp : v.plain = true) :
    ∃ c w' E', (Instr.box t cv).run P w = .ok c w' ∧ Res B n0 E H w (newVarAV H v).1 (newVarAV H v).2 false E' w' c := by
  obtain ⟨h1, h2⟩ := newVar_ok (P := P) hs hn (t := t) (hv.toPR hp).cells
  exact ⟨_, _, _, by simp [Instr.box, h1], h2⟩

end
end Go.X
