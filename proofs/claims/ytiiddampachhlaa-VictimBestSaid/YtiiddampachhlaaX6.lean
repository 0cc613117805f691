/-
  What keeps the abstract memory true of the world: a block written, a new block, a block that grew, blocks given up.
-/
import Derived.Test.YtiiddampachhlaaX5
namespace Go.X
open Go.RowKit (Below)

section
variable {P : Program} {B : Nat} {E E' : Env} {H : Heap} {w w' : World}

theorem BlkAt.later {bk : Blk} {L : Loc} {k : Nat} (h : BlkAt E bk L w) (he : Evol k E E') (hk : k ≤ E'.top) (hr : ∀ r ∈ bk.root.refs, r < k)
    (hc : ∀ j, j < L.ext → w'.cell? ⟨L.b, L.base + j, none⟩ = w.cell? ⟨L.b, L.base + j, none⟩ ∧ w'.frozen? ⟨L.b, L.base + j, none⟩ = w.frozen? ⟨L.b, L.base + j, none⟩) : BlkAt E' bk L w' := by
  obtain ⟨⟨cs, h1, h2, h3⟩, h4, h5⟩ := h
  refine ⟨⟨cs, h1.evol he hk (by simpa [refsL] using hr), h2, fun j c hj => ?_⟩, h4, fun j hj => ?_⟩
  · have hlt : j < cs.length := by
      rcases Nat.lt_or_ge j cs.length with h | h
      · exact h
      · simp [List.getElem?_eq_none h] at hj
    rw [(hc j (by omega)).1]
    exact h3 j c hj
  · rw [(hc j hj).1, (hc j hj).2]
    exact h5 j hj

theorem BlkAt.refs_lt {bk : Blk} {L : Loc} (h : BlkAt E bk L w) : ∀ r ∈ bk.root.refs, r < E.top := by
  obtain ⟨⟨cs, h1, _⟩, _⟩ := h
  have := h1.refs_lt
  simpa [refsL] using this

theorem Sim.lt (hs : Sim B E H w) {i : Nat} {L : Loc} (h : E.loc i = some L) : i < H.length := by
  obtain ⟨bk, hb⟩ := hs.dead i L h
  exact Heap.blk_some hb

theorem Sim.loc_lt (hs : Sim B E H w) {i : Nat} {L : Loc} (h : E.loc i = some L) {j : Nat} (hj : j < L.ext) : L.b < w.heap.size := by
  obtain ⟨bk, hb⟩ := hs.dead i L h
  obtain ⟨L', h1, h2, _⟩ := hs.live i bk hb
  obtain rfl : L = L' := by rw [h] at h1; exact Option.some.inj h1
  have := (h2.room j hj).1
  obtain ⟨c, hc⟩ := Option.isSome_iff_exists.1 this
  exact World.block_lt_of_cell? w _ hc

/-- A block is written, and nothing else. -/
theorem Sim.write (hs : Sim B E H w) {i : Nat} {bk : Blk} {L : Loc} {r : AV} {g fl : Bool} {cs' : List Value} (hb : H.blk i = some bk) (hL : E.loc i = some L)
    (hf : FR E [r] cs') (hlen : cs'.length = L.gen) (hfl : fl = true → r.refs = [])
    (hcell : ∀ j c, cs'[j]? = some c → w'.cell? ⟨L.b, L.base + j, none⟩ = some c)
    (hroom : ∀ j, j < L.ext → (w'.cell? ⟨L.b, L.base + j, none⟩).isSome = true)
    (hout : ∀ b o, ¬ L.has b o → w'.cell? ⟨b, o, none⟩ = w.cell? ⟨b, o, none⟩) (hfrz : ∀ b o, w'.frozen? ⟨b, o, none⟩ = w.frozen? ⟨b, o, none⟩) (hbel : Below B w w') :
    Sim B E (H.set i (some ⟨r, g, fl⟩)) w' ∧ ∀ k, Tr B k E w E w' := by
  have hi := Heap.blk_some hb
  refine ⟨⟨by simp [hs.top], fun j bk' hj => ?_, fun j L' hj => ?_, hs.apart, fun b o c hc => ?_, hs.immApart, fun j bk' hj hfl' => ?_, Nat.le_trans hs.old hbel.size⟩, fun k => ⟨hbel, Evol.refl _ _, fun b o _ hn => ?_, fun _ _ _ h => h, fun _ _ _ _ h => .inl h⟩⟩
  · rw [Heap.blk_set hi] at hj
    split at hj
    · rename_i hij
      subst hij
      obtain rfl := Option.some.inj hj
      obtain ⟨L', h1, h2, h3⟩ := hs.live _ _ hb
      obtain rfl : L = L' := by rw [hL] at h1; exact Option.some.inj h1
      exact ⟨L, hL, ⟨⟨cs', hf, hlen, hcell⟩, h2.fits, fun j hj => ⟨hroom j hj, by rw [hfrz]; exact (h2.room j hj).2⟩⟩, h3⟩
    · rename_i hij
      obtain ⟨L', h1, h2, h3⟩ := hs.live _ _ hj
      refine ⟨L', h1, h2.later (k := E.top) (Evol.refl _ _) (Nat.le_refl _) h2.refs_lt (fun q hq => ⟨hout _ _ (fun hh => ?_), hfrz _ _⟩), h3⟩
      exact hs.apart i j L L' hL h1 hij _ _ hh ⟨rfl, by omega, by omega⟩
  · rw [Heap.blk_set hi]
    split
    · exact ⟨_, rfl⟩
    · exact hs.dead j L' hj
  · rw [hout b o (fun hh => hs.immApart b o c hc ⟨i, L, hL, hh⟩)]
    exact hs.imm b o c hc
  · rw [Heap.blk_set hi] at hj
    split at hj
    · obtain rfl := Option.some.inj hj
      exact hfl hfl'
    · exact hs.flat _ _ hj hfl'
  · exact ⟨hout b o (fun hh => hn ⟨i, L, hL, hh⟩), hfrz b o⟩

def Env.new (E : Env) (L : Loc) : Env := ⟨fun i => if i = E.top then some L else E.loc i, E.m, E.top + 1⟩

theorem Env.new_evol (L : Loc) : Evol E.top E (E.new L) := by
  refine ⟨fun i hi L' h => ?_, fun _ _ _ h => h⟩
  simp only [Env.new] at h
  rw [if_neg (by omega)] at h
  exact ⟨L', h, .inl rfl⟩

/-- A new block. -/
theorem Sim.new (hs : Sim B E H w) {L : Loc} {r : AV} {g fl : Bool} {cs : List Value} (hf : FR E [r] cs) (hlen : cs.length = L.gen) (hfits : L.gen ≤ L.ext) (hfl : fl = true → r.refs = [])
    (hnew : w.heap.size ≤ L.b)
    (hcell : ∀ j c, cs[j]? = some c → w'.cell? ⟨L.b, L.base + j, none⟩ = some c)
    (hroom : ∀ j, j < L.ext → (w'.cell? ⟨L.b, L.base + j, none⟩).isSome = true ∧ w'.frozen? ⟨L.b, L.base + j, none⟩ = false)
    (hold : ∀ b o, b < w.heap.size → w'.cell? ⟨b, o, none⟩ = w.cell? ⟨b, o, none⟩ ∧ w'.frozen? ⟨b, o, none⟩ = w.frozen? ⟨b, o, none⟩) (hbel : Below B w w') :
    Sim B (E.new L) (H ++ [some ⟨r, g, fl⟩]) w' ∧ (∀ k, k ≤ H.length → Tr B k E w (E.new L) w') := by
  have hev : Evol E.top E (E.new L) := Env.new_evol L
  have htop : (E.new L).top = E.top + 1 := rfl
  have hloc : ∀ i, (E.new L).loc i = if i = E.top then some L else E.loc i := fun i => rfl
  have hb0 := hs.old
  refine ⟨⟨by simp [htop, hs.top], fun j bk' hj => ?_, fun j L' hj => ?_, fun i j Li Lj hi hj hij b o => ?_, fun b o c hc => ?_, fun b o c hc hin => ?_, fun j bk' hj hfl' => ?_, Nat.le_trans hs.old hbel.size⟩, fun k hk => ⟨hbel, hev.mono (by rw [hs.top]; exact hk), fun b o hb _ => hold b o hb, fun b o hb hin => ?_, fun _ _ _ _ h => .inl h⟩⟩
  · rw [Heap.blk_append] at hj
    split at hj
    · rename_i hij
      obtain rfl := Option.some.inj hj
      refine ⟨L, by rw [hloc, if_pos (by rw [hs.top]; exact hij)], ⟨⟨cs, hf.later hev (by omega), hlen, hcell⟩, hfits, hroom⟩, by omega⟩
    · rename_i hij
      obtain ⟨L', h1, h2, h3⟩ := hs.live _ _ hj
      refine ⟨L', by rw [hloc, if_neg (by rw [hs.top]; exact hij)]; exact h1, h2.later (k := E.top) hev (by omega) h2.refs_lt (fun q hq => hold _ _ (hs.loc_lt h1 hq)), h3⟩
  · rw [Heap.blk_append]
    rw [hloc] at hj
    split
    · exact ⟨_, rfl⟩
    · rename_i hij
      rw [if_neg (by rw [hs.top]; exact hij)] at hj
      exact hs.dead j L' hj
  · rw [hloc] at hi hj
    intro hLi hLj
    split at hi <;> split at hj
    · omega
    · obtain rfl := Option.some.inj hi
      have := hs.loc_lt hj (j := o - Lj.base) (by have := hLj; unfold Loc.has at this; omega)
      have h1 := hLi.1
      have h2 := hLj.1
      omega
    · obtain rfl := Option.some.inj hj
      have := hs.loc_lt hi (j := o - Li.base) (by have := hLi; unfold Loc.has at this; omega)
      have h1 := hLi.1
      have h2 := hLj.1
      omega
    · exact hs.apart i j Li Lj hi hj hij b o hLi hLj
  · have h1 := hs.imm b o c hc
    rw [(hold b o (World.block_lt_of_cell? w _ h1)).1]
    exact h1
  · obtain ⟨i, Li, hi, hh⟩ := hin
    rw [hloc] at hi
    split at hi
    · obtain rfl := Option.some.inj hi
      have h1 := World.block_lt_of_cell? w _ (hs.imm b o c hc)
      have h2 := hh.1
      simp only at h1
      omega
    · exact hs.immApart b o c hc ⟨i, Li, hi, hh⟩
  · rw [Heap.blk_append] at hj
    split at hj
    · obtain rfl := Option.some.inj hj
      exact hfl hfl'
    · exact hs.flat _ _ hj hfl'
  · obtain ⟨i, Li, hi, hh⟩ := hin
    rw [hloc] at hi
    split at hi
    · obtain rfl := Option.some.inj hi
      have h2 := hh.1
      omega
    · exact ⟨i, Li, hi, hh⟩

/-- A block that was made before is taken up. -/
theorem Sim.adopt (hs : Sim B E H w) {L : Loc} {bk : Blk} {cs : List Value} (hf : FR E [bk.root] cs) (hlen : cs.length = L.gen) (hfits : L.gen ≤ L.ext) (hfl : bk.flat = true → bk.root.refs = []) (hB : B ≤ L.b)
    (hcell : ∀ j c, cs[j]? = some c → w.cell? ⟨L.b, L.base + j, none⟩ = some c)
    (hroom : ∀ j, j < L.ext → (w.cell? ⟨L.b, L.base + j, none⟩).isSome = true ∧ w.frozen? ⟨L.b, L.base + j, none⟩ = false)
    (hout : ∀ b o, L.has b o → ¬ InE E b o ∧ E.m b o = none) : Sim B (E.new L) (H ++ [some bk]) w := by
  have hev : Evol E.top E (E.new L) := Env.new_evol L
  have htop : (E.new L).top = E.top + 1 := rfl
  have hloc : ∀ i, (E.new L).loc i = if i = E.top then some L else E.loc i := fun i => rfl
  refine ⟨by simp [htop, hs.top], fun j bk' hj => ?_, fun j L' hj => ?_, fun i j Li Lj hi hj hij b o => ?_, fun b o c hc => hs.imm b o c hc, fun b o c hc hin => ?_, fun j bk' hj hfl' => ?_, hs.old⟩
  · rw [Heap.blk_append] at hj
    split at hj
    · rename_i hij
      obtain rfl := Option.some.inj hj
      exact ⟨L, by rw [hloc, if_pos (by rw [hs.top]; exact hij)], ⟨⟨cs, hf.later hev (by omega), hlen, hcell⟩, hfits, hroom⟩, hB⟩
    · rename_i hij
      obtain ⟨L', h1, h2, h3⟩ := hs.live _ _ hj
      exact ⟨L', by rw [hloc, if_neg (by rw [hs.top]; exact hij)]; exact h1, h2.later (k := E.top) hev (by omega) h2.refs_lt (fun q hq => ⟨rfl, rfl⟩), h3⟩
  · rw [Heap.blk_append]
    rw [hloc] at hj
    split
    · exact ⟨_, rfl⟩
    · rename_i hij
      rw [if_neg (by rw [hs.top]; exact hij)] at hj
      exact hs.dead j L' hj
  · rw [hloc] at hi hj
    intro hLi hLj
    split at hi <;> split at hj
    · omega
    · obtain rfl := Option.some.inj hi
      exact (hout b o hLi).1 ⟨j, Lj, hj, hLj⟩
    · obtain rfl := Option.some.inj hj
      exact (hout b o hLj).1 ⟨i, Li, hi, hLi⟩
    · exact hs.apart i j Li Lj hi hj hij b o hLi hLj
  · obtain ⟨i, Li, hi, hh⟩ := hin
    rw [hloc] at hi
    split at hi
    · obtain rfl := Option.some.inj hi
      have hc' : E.m b o = some c := hc
      rw [(hout b o hh).2] at hc'
      simp at hc'
    · exact hs.immApart b o c hc ⟨i, Li, hi, hh⟩
  · rw [Heap.blk_append] at hj
    split at hj
    · obtain rfl := Option.some.inj hj
      exact hfl hfl'
    · exact hs.flat _ _ hj hfl'

def Env.put (E : Env) (i : Nat) (L : Loc) : Env := ⟨fun j => if j = i then some L else E.loc j, E.m, E.top⟩

/-- A block that grew: at its place, or at a new one. -/
theorem Sim.grow (hs : Sim B E H w) {i : Nat} {bk : Blk} {L L' : Loc} {r : AV} {g fl : Bool} {cs' : List Value} (hb : H.blk i = some bk) (hL : E.loc i = some L)
    (hgen : L.gen < L'.gen) (hf : FR E [r] cs') (hlen : cs'.length = L'.gen) (hfits : L'.gen ≤ L'.ext) (hfl : fl = true → r.refs = [])
    (hwhere : (L'.b = L.b ∧ L'.base = L.base ∧ L'.ext = L.ext) ∨ w.heap.size ≤ L'.b)
    (hcell : ∀ j c, cs'[j]? = some c → w'.cell? ⟨L'.b, L'.base + j, none⟩ = some c)
    (hroom : ∀ j, j < L'.ext → (w'.cell? ⟨L'.b, L'.base + j, none⟩).isSome = true ∧ w'.frozen? ⟨L'.b, L'.base + j, none⟩ = false)
    (hold : ∀ b o, b < w.heap.size → ¬ L.has b o → w'.cell? ⟨b, o, none⟩ = w.cell? ⟨b, o, none⟩ ∧ w'.frozen? ⟨b, o, none⟩ = w.frozen? ⟨b, o, none⟩) (hbel : Below B w w') :
    Sim B (E.put i L') (H.set i (some ⟨r, g, fl⟩)) w' ∧ ∀ k, Tr B k E w (E.put i L') w' := by
  have hi := Heap.blk_some hb
  have hloc : ∀ j, (E.put i L').loc j = if j = i then some L' else E.loc j := fun j => rfl
  have hev : ∀ k, Evol k E (E.put i L') := fun k => by
    refine ⟨fun j _ L1 h => ?_, fun _ _ _ h => h⟩
    rw [hloc] at h
    split at h
    · rename_i hji
      subst hji
      obtain rfl := Option.some.inj h
      exact ⟨L, hL, .inr hgen⟩
    · exact ⟨L1, h, .inl rfl⟩
  have htop : (E.put i L').top = E.top := rfl
  obtain ⟨L0, hL0, hBk, hBL⟩ := hs.live _ _ hb
  obtain rfl : L = L0 := by rw [hL] at hL0; exact Option.some.inj hL0
  have hBL' : B ≤ L'.b := by
    rcases hwhere with ⟨h, _⟩ | h
    · omega
    · exact Nat.le_trans hs.old h
  have hsub : ∀ b o, b < w.heap.size → L'.has b o → L.has b o := fun b o hbs hh => by
    rcases hwhere with ⟨h1, h2, h3⟩ | h
    · unfold Loc.has at hh ⊢; omega
    · have := hh.1; omega
  have hin : ∀ b o, b < w.heap.size → InE (E.put i L') b o → InE E b o := fun b o hbs ⟨j, Lj, hj, hh⟩ => by
    rw [hloc] at hj
    split at hj
    · obtain rfl := Option.some.inj hj
      exact ⟨i, L, hL, hsub b o hbs hh⟩
    · exact ⟨j, Lj, hj, hh⟩
  refine ⟨⟨by simp [htop, hs.top], fun j bk' hj => ?_, fun j L1 hj => ?_, fun j k Lj Lk hj hk hjk b o => ?_, fun b o c hc => ?_, fun b o c hc hii => ?_, fun j bk' hj hfl' => ?_, Nat.le_trans hs.old hbel.size⟩, fun k => ⟨hbel, hev k, fun b o hbs hn => hold b o hbs (fun hh => hn ⟨i, L, hL, hh⟩), hin, fun _ _ _ _ h => .inl h⟩⟩
  · rw [Heap.blk_set hi] at hj
    split at hj
    · rename_i hij
      subst hij
      obtain rfl := Option.some.inj hj
      exact ⟨L', by rw [hloc, if_pos rfl], ⟨⟨cs', hf.later (hev _) (Nat.le_refl _), hlen, hcell⟩, hfits, hroom⟩, hBL'⟩
    · rename_i hij
      obtain ⟨Lj, h1, h2, h3⟩ := hs.live _ _ hj
      refine ⟨Lj, by rw [hloc, if_neg (fun e => hij e.symm)]; exact h1, h2.later (k := E.top) (hev _) (Nat.le_refl _) h2.refs_lt (fun q hq => hold _ _ (hs.loc_lt h1 hq) (fun hh => ?_)), h3⟩
      exact hs.apart i j L Lj hL h1 hij _ _ hh ⟨rfl, by omega, by omega⟩
  · rw [Heap.blk_set hi]
    split
    · exact ⟨_, rfl⟩
    · rename_i hij
      rw [hloc, if_neg (fun e => hij e.symm)] at hj
      exact hs.dead j L1 hj
  · rw [hloc] at hj hk
    intro h1 h2
    split at hj <;> split at hk
    · omega
    · rename_i hji hki
      obtain rfl := Option.some.inj hj
      have hbs := hs.loc_lt hk (j := o - Lk.base) (by have := h2; unfold Loc.has at this; omega)
      rw [h2.1] at hbs
      exact hs.apart i k L Lk hL hk (fun e => hki e.symm) b o (hsub b o hbs h1) h2
    · rename_i hji hki
      obtain rfl := Option.some.inj hk
      have hbs := hs.loc_lt hj (j := o - Lj.base) (by have := h1; unfold Loc.has at this; omega)
      rw [h1.1] at hbs
      exact hs.apart i j L Lj hL hj (fun e => hji e.symm) b o (hsub b o hbs h2) h1
    · exact hs.apart j k Lj Lk hj hk hjk b o h1 h2
  · have h1 := hs.imm b o c hc
    rw [(hold b o (World.block_lt_of_cell? w _ h1) (fun hh => hs.immApart b o c hc ⟨i, L, hL, hh⟩)).1]
    exact h1
  · have h1 := World.block_lt_of_cell? w _ (hs.imm b o c hc)
    exact hs.immApart b o c hc (hin b o h1 hii)
  · rw [Heap.blk_set hi] at hj
    split at hj
    · obtain rfl := Option.some.inj hj
      exact hfl hfl'
    · exact hs.flat _ _ hj hfl'

/-- Some blocks are given up; what was theirs may be told as never to change. -/
theorem Sim.less (hs : Sim B E H w) {H' : Heap} (htop : E'.top = H'.length) (hle : ∀ i bk, H'.blk i = some bk → H.blk i = some bk ∧ ∀ r ∈ bk.root.refs, r < E'.top)
    (hloc : ∀ i, E'.loc i = if (H'.blk i).isSome then E.loc i else none) (hm : ∀ b o c, E.m b o = some c → E'.m b o = some c)
    (hm2 : ∀ b o c, E'.m b o = some c → w.cell? ⟨b, o, none⟩ = some c ∧ ¬ InE E' b o) (hm3 : ∀ b o c, E'.m b o = some c → E.m b o = some c ∨ InE E b o) :
    Sim B E' H' w ∧ ∀ k, Tr B k E w E' w := by
  have hev : ∀ k, Evol k E E' := fun k => ⟨fun i _ L h => by
    rw [hloc] at h
    split at h
    · exact ⟨L, h, .inl rfl⟩
    · simp at h, hm⟩
  have hin : ∀ b o, InE E' b o → InE E b o := fun b o ⟨i, L, hi, hh⟩ => by
    rw [hloc] at hi
    split at hi
    · exact ⟨i, L, hi, hh⟩
    · simp at hi
  refine ⟨⟨htop, fun i bk hi => ?_, fun i L hi => ?_, fun i j Li Lj hi hj hij => ?_, fun b o c hc => (hm2 b o c hc).1, fun b o c hc => (hm2 b o c hc).2, fun i bk hi hf => hs.flat i bk (hle i bk hi).1 hf, hs.old⟩,
    fun k => ⟨Below.refl _ _, hev k, fun _ _ _ _ => ⟨rfl, rfl⟩, fun b o _ h => hin b o h, fun b o c _ h => hm3 b o c h⟩⟩
  · obtain ⟨h1, h2⟩ := hle i bk hi
    obtain ⟨L, h3, h4, h5⟩ := hs.live i bk h1
    exact ⟨L, by rw [hloc, hi]; simpa using h3, h4.later (k := E'.top) (hev _) (Nat.le_refl _) h2 (fun _ _ => ⟨rfl, rfl⟩), h5⟩
  · rw [hloc] at hi
    split at hi
    · rename_i h
      exact Option.isSome_iff_exists.1 h
    · simp at hi
  · rw [hloc] at hi hj
    split at hi <;> split at hj
    · exact hs.apart i j Li Lj hi hj hij
    · simp at hj
    · simp at hi
    · simp at hj
end
end Go.X
