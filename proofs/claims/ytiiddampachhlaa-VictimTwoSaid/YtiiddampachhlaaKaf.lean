/-
  A call looks at a piece of memory alone: what it does to the piece, its blocks numbered anew, it does to the whole.
-/
import Derived.Test.YtiiddampachhlaaKae
import Derived.Sort.Grow

namespace Go.X
open Go.RowKit (Below)

section
variable {B : Nat} {E : Env} {H : Heap} {w : World} {p : List Nat}

/-! ### Back -/
def backN (p : List Nat) (n j : Nat) : Nat := match p[j]? with
  | some i => i
  | none => n + (j - p.length)

def setAll (f : Option Blk → Option Blk) : List Nat → Heap → Heap → Heap
  | i :: r, b :: bs, H => setAll f r bs (H.set i (f b))
  | _, _, H => H

def backH (p : List Nat) (H H1 : Heap) : Heap := setAll (renB (backN p H.length)) p H1 H ++ (H1.drop p.length).map (renB (backN p H.length))

theorem setAll_length (f : Option Blk → Option Blk) : ∀ (p : List Nat) (H1 H : Heap), (setAll f p H1 H).length = H.length
  | [], _, _ => by simp [setAll]
  | _ :: _, [], _ => by simp [setAll]
  | i :: r, b :: bs, H => by rw [setAll, setAll_length f r bs]; simp

theorem raw_set {H : Heap} {i j : Nat} {x : Option Blk} (hi : i < H.length) : Heap.raw (H.set i x) j = if i = j then x else H.raw j := get_set hi

theorem setAll_raw (f : Option Blk → Option Blk) : ∀ (p : List Nat) (H1 H : Heap), p.Nodup → (∀ i ∈ p, i < H.length) → p.length ≤ H1.length → ∀ i, (setAll f p H1 H).raw i = if i ∈ p then f (H1.raw (idx p i)) else H.raw i
  | [], H1, H, _, _, _, i => by simp [setAll]
  | _ :: _, [], H, _, _, hl, i => by simp at hl
  | k :: r, b :: bs, H, hn, hlt, hl, i => by
    obtain ⟨hk, hn'⟩ := List.nodup_cons.1 hn
    rw [setAll, setAll_raw f r bs (H.set k (f b)) hn' (fun j hj => by rw [List.length_set]; exact hlt j (List.mem_cons_of_mem _ hj)) (by simpa using hl) i]
    by_cases hi : i ∈ r
    · have hki : k ≠ i := fun he => hk (he ▸ hi)
      rw [if_pos hi, if_pos (List.mem_cons_of_mem _ hi), idx_ne hki]
      rfl
    · rw [if_neg hi, raw_set (hlt k List.mem_cons_self)]
      by_cases hki : k = i
      · subst hki
        rw [if_pos rfl, if_pos List.mem_cons_self, idx_eq]
        rfl
      · rw [if_neg hki, if_neg (by simp [hi, Ne.symm hki])]

/-- Where a number comes from. -/
def srcN (p : List Nat) (n i : Nat) : Option Nat := if i ∈ p then some (idx p i) else if i < n then none else some (i - n + p.length)

theorem src_back {n : Nat} (hn : p.Nodup) (hlt : ∀ i ∈ p, i < n) (j : Nat) : srcN p n (backN p n j) = some j := by
  unfold backN srcN
  cases hj : p[j]? with
  | some i =>
    simp only
    rw [if_pos (List.mem_of_getElem? hj), idx_of hn hj]
  | none =>
    simp only
    have hj' : p.length ≤ j := by simpa using hj
    rw [if_neg (fun h => absurd (hlt _ h) (by omega)), if_neg (by omega)]
    congr 1
    omega
theorem back_src {n i j : Nat} (h : srcN p n i = some j) : backN p n j = i := by
  unfold srcN at h
  unfold backN
  split at h
  · rename_i hi
    obtain rfl := Option.some.inj h
    rw [idx_get hi]
  · split at h
    · cases h
    · rename_i h1 h2
      obtain rfl := Option.some.inj h
      rw [List.getElem?_eq_none (by omega)]
      simp only
      omega
theorem src_none {n i : Nat} (h : srcN p n i = none) : i ∉ p ∧ i < n := by
  unfold srcN at h
  split at h
  · cases h
  · split at h
    · exact ⟨by assumption, by assumption⟩
    · cases h

theorem backH_raw {H1 : Heap} (hp : Piece H p) (hl : p.length ≤ H1.length) (i : Nat) : (backH p H H1).raw i = match srcN p H.length i with
    | some j => renB (backN p H.length) (H1.raw j)
    | none => H.raw i := by
  unfold backH
  rw [Heap.raw, List.getElem?_append, setAll_length]
  by_cases hi : i < H.length
  · rw [if_pos hi]
    show Heap.raw _ i = _
    rw [setAll_raw _ p H1 H hp.nodup hp.lt hl]
    unfold srcN
    by_cases hm : i ∈ p
    · rw [if_pos hm, if_pos hm]
    · rw [if_neg hm, if_neg hm, if_pos hi]
  · rw [if_neg hi]
    unfold srcN
    rw [if_neg (fun h => hi (hp.lt i h)), if_neg hi]
    simp only
    rw [List.getElem?_map, List.getElem?_drop]
    unfold Heap.raw
    rw [show p.length + (i - H.length) = i - H.length + p.length by omega]
    cases H1[i - H.length + p.length]? <;> rfl
theorem backH_blk {H1 : Heap} (hp : Piece H p) (hl : p.length ≤ H1.length) (i : Nat) : (backH p H H1).blk i = match srcN p H.length i with
    | some j => (H1.blk j).map (renBk (backN p H.length))
    | none => H.blk i := by
  rw [Heap.blk_raw, backH_raw hp hl]
  cases srcN p H.length i with
  | none => rfl
  | some j => simp only; rw [blkOf_renB]; rfl
theorem backH_mp {H1 : Heap} (hp : Piece H p) (hl : p.length ≤ H1.length) (i : Nat) : (backH p H H1).mp i = match srcN p H.length i with
    | some j => H1.mp j
    | none => H.mp i := by
  rw [Heap.mp_raw, backH_raw hp hl]
  cases srcN p H.length i with
  | none => rfl
  | some j => simp only; rw [mpOf_renB]; rfl

def Env.back (E E1 : Env) (p : List Nat) (n : Nat) : Env := ⟨fun i => match srcN p n i with | some j => E1.loc j | none => E.loc i, E1.m, n + (E1.top - p.length), fun i => match srcN p n i with | some j => E1.mloc j | none => E.mloc i, E1.yl⟩

theorem piece_back {E1 : Env} {H1 : Heap} {w' : World} {v : AV} {c : Value} {e : Bool} (hs : Sim B E H w) (hp : Piece H p) (R : Res B (pieceH p H).length (E.piece p) (pieceH p H) w v H1 e E1 w' c) :
    Res B H.length E H w (v.ren (backN p H.length)) (backH p H H1) e (E.back E1 p H.length) w' c := by
  have hm0 : (pieceH p H).length = p.length := by simp [pieceH]
  have hl : p.length ≤ H1.length := by rw [← hm0]; exact R.len
  have htop := R.sim.top
  have hsb := src_back (n := H.length) hp.nodup hp.lt
  have hgood : ∀ r, r < E1.top → GoodR (backN p H.length) E1 (E.back E1 p H.length) r := fun r hr => by
    refine ⟨?_, fun L' h => ⟨L', ?_, .inl rfl⟩, fun b h => ?_⟩
    · show backN p H.length r < H.length + (E1.top - p.length)
      unfold backN
      cases hj : p[r]? with
      | some i => have := hp.lt i (List.mem_of_getElem? hj); simp only; omega
      | none =>
        have hj' : p.length ≤ r := by simpa using hj
        simp only
        omega
    · simpa [Env.back, hsb r] using h
    · simpa [Env.back, hsb r] using h
  have hmm : ∀ b o c, E1.m b o = some c → (E.back E1 p H.length).m b o = some c := fun _ _ _ h => h
  have hev : Evol H.length E (E.back E1 p H.length) := by
    refine ⟨fun i hi L' h => ?_, fun b o c h => R.tr.evol.m b o c h, fun i hi b h => ?_, R.tr.evol.yl⟩
    · simp only [Env.back] at h
      cases hsr : srcN p H.length i with
      | none => rw [hsr] at h; exact ⟨L', h, .inl rfl⟩
      | some j =>
        rw [hsr] at h
        have hmem : i ∈ p := by
          unfold srcN at hsr
          split at hsr
          · assumption
          · first | cases hsr | (rw [if_pos hi] at hsr; cases hsr)
        have hj : j = idx p i := by
          unfold srcN at hsr
          rw [if_pos hmem] at hsr
          exact (Option.some.inj hsr).symm
        subst hj
        obtain ⟨L, h1, h2⟩ := R.tr.evol.loc (idx p i) (by rw [hm0]; exact idx_lt hmem) L' h
        exact ⟨L, by simpa [Env.piece, idx_get hmem] using h1, h2⟩
    · simp only [Env.back] at h
      cases hsr : srcN p H.length i with
      | none => rw [hsr] at h; exact h
      | some j =>
        rw [hsr] at h
        have hmem : i ∈ p := by
          unfold srcN at hsr
          split at hsr
          · assumption
          · first | cases hsr | (rw [if_pos hi] at hsr; cases hsr)
        have hj : j = idx p i := by
          unfold srcN at hsr
          rw [if_pos hmem] at hsr
          exact (Option.some.inj hsr).symm
        subst hj
        have h1 := R.tr.evol.mloc (idx p i) (by rw [hm0]; exact idx_lt hmem) b h
        simpa [Env.piece, idx_get hmem] using h1
  have hinE : ∀ {b o}, InE (E.piece p) b o → InE E b o := fun h => by
    obtain ⟨i, _, L, h1, h2⟩ := inE_piece h
    exact ⟨i, L, h1, h2⟩
  have hinM : ∀ {j}, InM (E.piece p) j → InM E j := fun h => by
    obtain ⟨i, _, h1⟩ := inM_piece h
    exact ⟨i, h1⟩
  -- what lies outside of the piece
  have hroom : ∀ {i L b o}, E.loc i = some L → L.has b o → b < w.heap.size := fun {i L b o} hi hh => by
    obtain ⟨bk, hb⟩ := hs.dead i L hi
    obtain ⟨L2, h1, h2, _⟩ := hs.live i bk hb
    rw [hi] at h1
    obtain rfl := Option.some.inj h1
    obtain ⟨rfl, g1, g2⟩ := hh
    have := (h2.room (o - L.base) (by omega)).1
    obtain ⟨c, hc⟩ := Option.isSome_iff_exists.1 this
    exact World.block_lt_of_cell? w _ hc
  have hout : ∀ {i L b o}, i ∉ p → E.loc i = some L → L.has b o → ¬ InE (E.piece p) b o := fun {i L b o} hi hL hh hin => by
    obtain ⟨k, hk, L2, h1, h2⟩ := inE_piece hin
    exact hs.apart i k L L2 hL h1 (fun he => hi (he ▸ hk)) b o hh h2
  have hmlt : ∀ {i b}, E.mloc i = some b → b < w.heap.size := fun {i b} hi => by
    obtain ⟨es, he⟩ := hs.mdead i b hi
    obtain ⟨b', h1, ⟨vs, clock, h2, _⟩, _⟩ := hs.mlive i es he
    rw [hi] at h1
    obtain rfl := Option.some.inj h1
    rcases Nat.lt_or_ge b w.heap.size with h | h
    · exact h
    · rw [Array.getElem?_eq_none h] at h2; cases h2
  have hmout : ∀ {i b}, i ∉ p → E.mloc i = some b → ¬ InM (E.piece p) b := fun {i b} hi hL hin => by
    obtain ⟨k, hk, h1⟩ := inM_piece hin
    exact hi (hs.mapart i k b hL h1 ▸ hk)
  refine ⟨⟨?_, fun i bk hi => ?_, fun i L hi => ?_, fun i j Li Lj hi hj hij b o hbi hbj => ?_, R.sim.imm, fun b o c hc hin => ?_, fun i bk hi hf => ?_, R.sim.old, fun i es hi => ?_, fun i b hi => ?_, fun i j b hi hj => ?_⟩,
    R.val.ren hmm rfl (fun r hr => hgood r (R.val.refs_lt r hr)),
    ⟨R.tr.below, hev, fun b o hb hn => R.tr.frame b o hb (fun h => hn (hinE h)), fun b o hb h => ?_, fun b o c hb h => (R.tr.imm b o c hb h).imp (fun h => h) hinE, fun j o ho hn hM => R.tr.objs j o ho hn (fun h => hM (hinM h)), fun j hj h => ?_⟩, ?_, fun he i hi b' hb' => ?_⟩
  · show H.length + (E1.top - p.length) = _
    unfold backH
    rw [List.length_append, setAll_length, List.length_map, List.length_drop, htop]
  · rw [backH_blk hp hl] at hi
    simp only [Env.back]
    cases hsr : srcN p H.length i with
    | some j =>
      rw [hsr] at hi
      simp only [Option.map_eq_some_iff] at hi
      obtain ⟨bk1, h1, rfl⟩ := hi
      obtain ⟨L, h2, h3, h4⟩ := R.sim.live j bk1 h1
      exact ⟨L, h2, h3.ren hmm (fun _ r hr => hgood r (h3.refs_lt r hr)) (R.sim.flat j bk1 h1) (fun _ _ => ⟨rfl, rfl⟩), h4⟩
    | none =>
      rw [hsr] at hi
      obtain ⟨hni, hlt⟩ := src_none hsr
      obtain ⟨L, h2, ⟨⟨cs, k1, k2, k3⟩, k4, k5⟩, h4⟩ := hs.live i bk hi
      have hcell : ∀ j, j < L.ext → w'.cell? ⟨L.b, L.base + j, none⟩ = w.cell? ⟨L.b, L.base + j, none⟩ ∧ w'.frozen? ⟨L.b, L.base + j, none⟩ = w.frozen? ⟨L.b, L.base + j, none⟩ := fun j hj =>
        R.tr.frame L.b (L.base + j) (hroom (o := L.base + j) h2 ⟨rfl, by omega, by omega⟩) (hout (o := L.base + j) hni h2 ⟨rfl, by omega, by omega⟩)
      refine ⟨L, h2, ⟨⟨cs, k1.evol hev (by show H.length ≤ H.length + _; omega) (fun r hr => by rw [← hs.top]; exact k1.refs_lt r hr), k2, fun j c hj => ?_⟩, k4, fun j hj => ?_⟩, h4⟩
      · have hlt : j < cs.length := (List.getElem?_eq_some_iff.1 hj).1
        rw [(hcell j (by omega)).1]
        exact k3 j c hj
      · rw [(hcell j hj).1, (hcell j hj).2]
        exact k5 j hj
  · rw [backH_blk hp hl]
    simp only [Env.back] at hi
    cases hsr : srcN p H.length i with
    | some j =>
      rw [hsr] at hi
      obtain ⟨bk, hb⟩ := R.sim.dead j L hi
      refine ⟨renBk (backN p H.length) bk, ?_⟩
      simp only
      rw [hb]
      rfl
    | none =>
      rw [hsr] at hi
      exact hs.dead i L hi
  · simp only [Env.back] at hi hj
    cases hsi : srcN p H.length i with
    | some i1 =>
      rw [hsi] at hi
      cases hsj : srcN p H.length j with
      | some j1 =>
        rw [hsj] at hj
        refine R.sim.apart i1 j1 Li Lj hi hj (fun he => hij ?_) b o hbi hbj
        rw [← back_src hsi, ← back_src hsj, he]
      | none =>
        rw [hsj] at hj
        exact hout (src_none hsj).1 hj hbj (R.tr.ext b o (hroom hj hbj) ⟨i1, Li, hi, hbi⟩)
    | none =>
      rw [hsi] at hi
      cases hsj : srcN p H.length j with
      | some j1 =>
        rw [hsj] at hj
        exact hout (src_none hsi).1 hi hbi (R.tr.ext b o (hroom hi hbi) ⟨j1, Lj, hj, hbj⟩)
      | none =>
        rw [hsj] at hj
        exact hs.apart i j Li Lj hi hj hij b o hbi hbj
  · obtain ⟨i, L, hi, hh⟩ := hin
    simp only [Env.back] at hi
    cases hsi : srcN p H.length i with
    | some i1 =>
      rw [hsi] at hi
      exact R.sim.immApart b o c hc ⟨i1, L, hi, hh⟩
    | none =>
      rw [hsi] at hi
      rcases R.tr.imm b o c (hroom hi hh) hc with h | h
      · exact hs.immApart b o c h ⟨i, L, hi, hh⟩
      · exact hout (src_none hsi).1 hi hh h
  · rw [backH_blk hp hl] at hi
    cases hsr : srcN p H.length i with
    | some j =>
      rw [hsr] at hi
      simp only [Option.map_eq_some_iff] at hi
      obtain ⟨bk1, h1, rfl⟩ := hi
      have h2 := R.sim.flat j bk1 h1
      rw [renBk_refs _ _ h2, h2 (by rw [← renBk_flat (backN p H.length)]; exact hf)]
      rfl
    | none =>
      rw [hsr] at hi
      exact hs.flat i bk hi hf
  · rw [backH_mp hp hl] at hi
    simp only [Env.back]
    cases hsr : srcN p H.length i with
    | some j =>
      rw [hsr] at hi
      exact R.sim.mlive j es hi
    | none =>
      rw [hsr] at hi
      obtain ⟨b, h1, ⟨vs, clock, h2, h3⟩, h4⟩ := hs.mlive i es hi
      exact ⟨b, h1, ⟨vs, clock, R.tr.objs b _ h2 rfl (hmout (src_none hsr).1 h1), h3⟩, h4⟩
  · rw [backH_mp hp hl]
    simp only [Env.back] at hi
    cases hsr : srcN p H.length i with
    | some j =>
      rw [hsr] at hi
      exact R.sim.mdead j b hi
    | none =>
      rw [hsr] at hi
      exact hs.mdead i b hi
  · simp only [Env.back] at hi hj
    cases hsi : srcN p H.length i with
    | some i1 =>
      rw [hsi] at hi
      cases hsj : srcN p H.length j with
      | some j1 =>
        rw [hsj] at hj
        rw [← back_src hsi, ← back_src hsj, R.sim.mapart i1 j1 b hi hj]
      | none =>
        rw [hsj] at hj
        exact absurd (R.tr.extM b (hmlt hj) ⟨i1, hi⟩) (hmout (src_none hsj).1 hj)
    | none =>
      rw [hsi] at hi
      cases hsj : srcN p H.length j with
      | some j1 =>
        rw [hsj] at hj
        exact absurd (R.tr.extM b (hmlt hi) ⟨j1, hj⟩) (hmout (src_none hsi).1 hi)
      | none =>
        rw [hsj] at hj
        exact hs.mapart i j b hi hj
  · obtain ⟨i, L, hi, hh⟩ := h
    simp only [Env.back] at hi
    cases hsi : srcN p H.length i with
    | some i1 =>
      rw [hsi] at hi
      exact hinE (R.tr.ext b o hb ⟨i1, L, hi, hh⟩)
    | none =>
      rw [hsi] at hi
      exact ⟨i, L, hi, hh⟩
  · obtain ⟨i, hi⟩ := h
    simp only [Env.back] at hi
    cases hsi : srcN p H.length i with
    | some i1 =>
      rw [hsi] at hi
      exact hinM (R.tr.extM j hj ⟨i1, hi⟩)
    | none =>
      rw [hsi] at hi
      exact ⟨i, hi⟩
  · unfold backH
    rw [List.length_append, setAll_length]
    omega
  · rw [backH_blk hp hl] at hb'
    cases hsr : srcN p H.length i with
    | none =>
      rw [hsr] at hb'
      exact ⟨b', hb', fun _ h => h⟩
    | some j =>
      rw [hsr] at hb'
      simp only [Option.map_eq_some_iff] at hb'
      obtain ⟨bk1, h1, rfl⟩ := hb'
      have hmem : i ∈ p := by
        unfold srcN at hsr
        split at hsr
        · assumption
        · first | cases hsr | (rw [if_pos hi] at hsr; cases hsr)
      have hj : j = idx p i := by
        unfold srcN at hsr
        rw [if_pos hmem] at hsr
        exact (Option.some.inj hsr).symm
      subst hj
      obtain ⟨b0, k1, k2⟩ := R.sub he (idx p i) (by rw [hm0]; exact idx_lt hmem) bk1 h1
      rw [pieceH_blk, idx_get hmem, Option.bind_some, Option.map_eq_some_iff] at k1
      obtain ⟨b, k3, rfl⟩ := k1
      refine ⟨b, k3, fun x hx => ?_⟩
      rw [renBk_refs _ _ (R.sim.flat _ bk1 h1), List.mem_map] at hx
      obtain ⟨y, hy, rfl⟩ := hx
      have hy2 := k2 y hy
      rw [renBk_refs _ _ (hs.flat i b k3), List.mem_map] at hy2
      obtain ⟨z, hz, rfl⟩ := hy2
      have hzp : z ∈ p := by
        refine hp.closed i hmem b k3 ?_ z hz
        cases hf : b.flat with
        | false => rfl
        | true => rw [hs.flat i b k3 hf] at hz; cases hz
      unfold backN
      rw [idx_get hzp]
      exact hz
end

end Go.X
/-
  Pieces of memory: what is told of calls on a piece of memory, its blocks numbered in the order in which they are met, holds on any memory.
-/
namespace Go.X
open Go.RowKit (Below)

theorem reach_lt {H : Heap} {n : Nat} : ∀ (k : Nat) (todo seen keep : List Nat), reach H 0 k todo seen = some keep → (∀ i bk, H.blk i = some bk → ∀ r ∈ bk.root.refs, r < n) → (∀ i ∈ todo, i < n) → (∀ i ∈ seen, i < n) → seen.Nodup →
    (∀ i ∈ keep, i < n) ∧ keep.Nodup
  | 0, [], seen, keep, h, hb, ht, hs, hn => by
    obtain rfl : seen = keep := by simpa [reach] using h
    exact ⟨hs, hn⟩
  | k + 1, [], seen, keep, h, hb, ht, hs, hn => by
    obtain rfl : seen = keep := by simpa [reach] using h
    exact ⟨hs, hn⟩
  | 0, i :: todo, seen, keep, h, _, _, _, _ => by simp [reach] at h
  | k + 1, i :: todo, seen, keep, h, hb, ht, hs, hn => by
    unfold reach at h
    rw [if_neg (Nat.not_lt_zero i)] at h
    have ht' : ∀ j ∈ todo, j < n := fun j hj => ht j (List.mem_cons_of_mem _ hj)
    split at h
    · exact reach_lt k todo seen keep h hb ht' hs hn
    · rename_i hc
      have hi : i ∉ seen := by simpa using hc
      have hs' : ∀ j ∈ i :: seen, j < n := fun j hj => by
        rcases List.mem_cons.1 hj with rfl | hj
        · exact ht j List.mem_cons_self
        · exact hs j hj
      have hn' : (i :: seen).Nodup := List.nodup_cons.2 ⟨hi, hn⟩
      split at h
      · rename_i b hbk
        refine reach_lt k _ (i :: seen) keep h hb (fun j hj => ?_) hs' hn'
        split at hj
        · exact ht' j hj
        · rcases List.mem_append.1 hj with hj | hj
          · exact hb i b hbk j hj
          · exact ht' j hj
      · exact reach_lt k todo (i :: seen) keep h hb ht' hs' hn'

/-- What the values lead to, in the order in which it is met. -/
def pieceOf (H : Heap) (args : List AV) : Option (List Nat) := (reach H 0 1000 (refsL args) []).map List.reverse

theorem pieceOf_ok {B : Nat} {E : Env} {H : Heap} {w : World} (hs : Sim B E H w) {args : List AV} {p : List Nat} (ha : ∀ r ∈ refsL args, r < H.length) (h : pieceOf H args = some p) : Piece H p ∧ ∀ r ∈ refsL args, r ∈ p := by
  unfold pieceOf at h
  rw [Option.map_eq_some_iff] at h
  obtain ⟨keep, hk, rfl⟩ := h
  obtain ⟨h1, _, h3⟩ := reach_ok _ _ _ _ hk (fun i hi => by simp at hi)
  obtain ⟨h4, h5⟩ := reach_lt (n := H.length) _ _ _ _ hk (fun i bk hb r hr => by
    obtain ⟨L, _, k2, _⟩ := hs.live i bk hb
    rw [← hs.top]
    exact k2.refs_lt r hr) ha (by simp) List.nodup_nil
  refine ⟨⟨by rw [List.Nodup, List.pairwise_reverse]; exact h5.imp Ne.symm, fun i hi => h4 i (by simpa using hi), fun i hi bk hb hf r hr => ?_⟩, fun r hr => ?_⟩
  · rcases h1 i (by simpa using hi) bk hb hf r hr with h | h | h
    · omega
    · simpa using h
    · simp at h
  · rcases h3 r hr with h | h
    · omega
    · simpa using h

/-- An oracle, asked of pieces. -/
def locF (K : Oracle) : Oracle := fun f args H => (pieceOf H args).bind fun p => (K f (renL (idx p) args) (pieceH p H)).map fun r => (r.1.ren (backN p H.length), backH p H r.2.1, r.2.2)

theorem GlobOk.piece {G : Nat → Option AV} {E : Env} (h : GlobOk G E) (p : List Nat) : GlobOk G (E.piece p) := fun g v hg => by
  have h1 := VR.ren (E := E) (E' := E.piece p) (g := idx p) (fun _ _ _ h => h) rfl (h g v hg) (by simp [AV.refs])
  simpa [AV.ren] using h1

theorem loc_sound {P : Program} {G : Nat → Option AV} {K : Oracle} (hK : ∀ B, OracleSound P B G K) (B : Nat) : OracleSound P B G (locF K) := by
  intro f args H v H' e h E w cargs hs hG hl hv
  unfold locF at h
  simp only [Option.bind_eq_some_iff, Option.map_eq_some_iff, Prod.mk.injEq] at h
  obtain ⟨p, hp, ⟨v0, H0, e0⟩, h0, rfl, rfl, rfl⟩ := h
  have hargs : ∀ r ∈ refsL args, r < H.length := fun r hr => by
    have : ∃ v ∈ args, r ∈ v.refs := by
      clear hv hp h0 hl
      induction args with
      | nil => simp [refsL] at hr
      | cons x vs ih =>
        simp only [refsL, List.mem_append] at hr
        rcases hr with hr | hr
        · exact ⟨x, List.mem_cons_self, hr⟩
        · obtain ⟨v, hv, hr⟩ := ih hr
          exact ⟨v, List.mem_cons_of_mem _ hv, hr⟩
    obtain ⟨v, hvm, hr⟩ := this
    obtain ⟨i, hi, hvi⟩ := List.getElem_of_mem hvm
    have hci : cargs[i]? = some cargs[i] := List.getElem?_eq_getElem (by omega)
    rw [← hs.top]
    exact (hv i v _ (by rw [List.getElem?_eq_getElem hi, hvi]) hci).refs_lt r hr
  obtain ⟨hP, hin⟩ := pieceOf_ok hs hargs hp
  refine (hK B f _ _ v0 H0 e0 h0 (E.piece p) w cargs (hs.piece hP) (hG.piece p) (by rw [renL_length]; exact hl) (fun i v c hvi hc => ?_)).mono ?_
  · rw [renL_map, List.getElem?_map, Option.map_eq_some_iff] at hvi
    obtain ⟨u, hu, rfl⟩ := hvi
    exact VR.ren (E := E) (E' := E.piece p) (fun _ _ _ h => h) rfl (hv i u c hu hc) (fun r hr => good_piece (hin r (mem_refsL (List.mem_of_getElem? hu) hr)))
  · rintro en w' ⟨c, E1, rfl, R⟩
    exact ⟨c, _, rfl, piece_back hs hP R⟩

/-! ### Tables, with memory -/

/-- What may come of a call: the first whose test holds: the value, the piece, the mark. -/
abbrev Outs := List (Bool × AV × Heap × Bool)
def pickO : Outs → Option (AV × Heap × Bool)
  | [] => none
  | (b, r) :: l => cond b (some r) (pickO l)

/-- What is told of functions on a piece of memory. -/
abbrev MTab := FuncId → Option (List AV → Heap → Option Outs)

def mOf (T : MTab) : Oracle := fun f args H => match T f with
  | some t => (t args H).bind pickO
  | none => none

def both (T : Table) (M : MTab) : Oracle := fun f args H => match pureK (kOf T) f args H with
  | some r => some r
  | none => locF (mOf M) f args H

structure MemTab (P : Program) (U : Out) (T : Table) (M : MTab) : Prop where
  pure : ∀ B, OracleSound P B U.G (pureK (kOf T))
  mem : ∀ B, OracleSound P B U.G (mOf M)

theorem MemTab.sound {P : Program} {U : Out} {T : Table} {M : MTab} (h : MemTab P U T M) (B : Nat) : OracleSound P B U.G (both T M) := by
  intro f args H v H' e hx
  unfold both at hx
  split at hx
  · rename_i r hr
    obtain rfl := Option.some.inj hx
    exact h.pure B f args H v H' e hr
  · exact loc_sound h.mem B f args H v H' e hx

theorem MemTab.ofFun {P : Program} {U : Out} {T : Table} (h : FunTab P U T) : MemTab P U T (fun _ => none) :=
  ⟨h.ok, fun B f args H v H' e hx => by cases hx⟩

section
variable {R : Type} (bot : R)

def outsK (k : AV → Heap → Bool → R) : Outs → R
  | [] => bot
  | (b, v, H, e) :: l => cond b (k v H e) (outsK k l)

def memK (t : List AV → Heap → Option Outs) : List AV → Heap → (AV → Heap → Bool → R) → R := fun args H k => match pieceOf H args with
  | some p => match t (renL (idx p) args) (pieceH p H) with
    | some l => outsK bot (fun v H1 e => k (v.ren (backN p H.length)) (backH p H H1) e) l
    | none => bot
  | none => bot

theorem outsK_pick (k : AV → Heap → Bool → R) : ∀ (l : Outs), outsK bot k l = (pickO l).elim bot fun r => k r.1 r.2.1 r.2.2
  | [] => rfl
  | (b, v, H, e) :: l => by
    unfold outsK pickO
    cases b
    · exact outsK_pick k l
    · rfl

/-- The evaluator handing on, with both tables. -/
def evalMK (P : Program) (U : Out) (ann : FuncId → FAnn) (fuel : Nat) (T : Table) (M : MTab) : Nat → OracleK R
  | 0 => fun _ _ _ _ => bot
  | n + 1 => fun f args H k => match T f with
    | some t => snapLK bot H args fun xs => match t xs with
      | some (b, v) => cond b (k v H false) bot
      | none => bot
    | none => match M f with
      | some t => memK bot t args H k
      | none => evalFK bot true P U ann fuel (evalN P U ann fuel (both T M) n) (evalMK P U ann fuel T M n) f args H k

theorem evalMK_le {P : Program} {U : Out} {ann : FuncId → FAnn} {fuel : Nat} {T : Table} {M : MTab} : ∀ (n : Nat) (f : FuncId) (args : List AV) (H : Heap) (k : AV → Heap → Bool → R),
    Le bot (evalMK bot P U ann fuel T M n f args H k) (KOf bot (evalN P U ann fuel (both T M) n) f args H k)
  | 0, f, args, H, k => .inl rfl
  | n + 1, f, args, H, k => by
    show Le bot (match T f with
      | some t => snapLK bot H args fun xs => match t xs with
        | some (b, v) => cond b (k v H false) bot
        | none => bot
      | none => match M f with
        | some t => memK bot t args H k
        | none => evalFK bot true P U ann fuel (evalN P U ann fuel (both T M) n) (evalMK bot P U ann fuel T M n) f args H k)
      ((match both T M f args H with | some r => some r | none => evalF P U ann fuel (evalN P U ann fuel (both T M) n) f args H).elim bot fun r => k r.1 r.2.1 r.2.2)
    cases hT : T f with
    | none =>
      have hp : pureK (kOf T) f args H = none := by
        unfold pureK kOf
        rw [hT]
        cases snapL H args <;> rfl
      simp only
      cases hM : M f with
      | none =>
        have : both T M f args H = none := by
          unfold both
          rw [hp]
          simp only
          unfold locF mOf
          rw [hM]
          cases pieceOf H args <;> rfl
        rw [this]
        exact evalFK_le bot true (evalMK_le n) f args H k
      | some t =>
        simp only
        unfold memK
        cases hpc : pieceOf H args with
        | none => exact .inl rfl
        | some p =>
          simp only
          cases ht : t (renL (idx p) args) (pieceH p H) with
          | none => exact .inl rfl
          | some l =>
            simp only
            rw [outsK_pick]
            cases hl : pickO l with
            | none => exact .inl rfl
            | some r =>
              right
              have : both T M f args H = some (r.1.ren (backN p H.length), backH p H r.2.1, r.2.2) := by
                unfold both
                rw [hp]
                simp only
                unfold locF mOf
                rw [hM, hpc]
                simp [ht, hl]
              rw [this]
              rfl
    | some t =>
      simp only
      refine (snapLK_le bot H args _).trans bot ?_
      cases hs : snapL H args with
      | none => exact .inl rfl
      | some xs =>
        simp only [Option.elim_some]
        cases ht : t xs with
        | none => exact .inl rfl
        | some r =>
          obtain ⟨b, v⟩ := r
          cases b
          · exact .inl rfl
          · right
            have : both T M f args H = some (v, H, false) := by
              unfold both
              have : pureK (kOf T) f args H = some (v, H, false) := by
                unfold pureK kOf
                simp [hs, hT, ht]
              rw [this]
            rw [this]
            rfl
end

theorem evalN_of_M {P : Program} {U : Out} {ann : FuncId → FAnn} {fuel n : Nat} {T : Table} {M : MTab} {f : FuncId} {args : List AV} {H : Heap} {r : AV × Heap × Bool}
    (h : evalMK none P U ann fuel T M n f args H (fun v H e => some (v, H, e)) = some r) : evalN P U ann fuel (both T M) n f args H = some r := by
  rcases evalMK_le (R := Option (AV × Heap × Bool)) none (P := P) (U := U) (ann := ann) (fuel := fuel) (T := T) (M := M) n f args H (fun v H e => some (v, H, e)) with h1 | h1
  · rw [h] at h1; cases h1
  · rw [h] at h1
    unfold KOf at h1
    cases hx : evalN P U ann fuel (both T M) n f args H with
    | none => rw [hx] at h1; cases h1
    | some x => rw [hx] at h1; exact h1.symm

theorem run_of_trueM {P : Program} {U : Out} {ann : FuncId → FAnn} {fuel n : Nat} {T : Table} {M : MTab} {f : FuncId} {args : List AV} {H : Heap}
    (h : evalMK false P U ann fuel T M n f args H (fun v _ _ => v.isTrue) = true) : ∃ H' e, evalN P U ann fuel (both T M) n f args H = some (.bool true, H', e) := by
  rcases evalMK_le (R := Bool) false (P := P) (U := U) (ann := ann) (fuel := fuel) (T := T) (M := M) n f args H (fun v _ _ => v.isTrue) with h1 | h1
  · rw [h] at h1; cases h1
  rw [h1] at h
  unfold KOf at h
  cases hx : evalN P U ann fuel (both T M) n f args H with
  | none => rw [hx] at h; simp at h
  | some r =>
    obtain ⟨v, H', e⟩ := r
    rw [hx] at h
    simp only [Option.elim_some] at h
    cases v <;> simp [AV.isTrue] at h
    subst h
    exact ⟨H', e, rfl⟩

/-- One function more, that only looks, whatever way it was found. -/
theorem MemTab.addN {P : Program} {U : Out} {ann : FuncId → FAnn} {fuel n : Nat} {T : Table} {M : MTab} (hT : MemTab P U T M) (hX : ∀ B, ExtSound P B U.X) (hm : P.follows .mixedOrders = true) (hA : ∀ f, funcOk P (ann f) f = true)
    {g : FuncId} {t : List AV → Option (Bool × AV)} (h : ∀ xs v, t xs = some (true, v) → v.cleanR = true ∧ ∃ H' e, evalN P U ann fuel (both T M) n g xs [] = some (v, H', e)) :
    MemTab P U (fun f => if f = g then some t else T f) M := by
  refine ⟨fun B => ?_, hT.mem⟩
  have h1 : OracleSound P B U.G (pureK fun f xs => if f = g then (match t xs with | some (true, v) => some v | _ => Option.none) else Option.none) :=
    pure_sound hT.sound hX hm hA (fun f xs v hv => by
      split at hv
      · rename_i hf
        subst hf
        split at hv
        · rename_i v' hv'
          obtain rfl := Option.some.inj hv
          exact h xs v' hv'
        · cases hv
      · cases hv) B
  intro f args H v H' e hx
  by_cases hf : f = g
  · refine h1 f args H v H' e ?_
    rw [← hx]
    unfold pureK kOf
    simp only [if_pos hf]
    rfl
  · refine hT.pure B f args H v H' e ?_
    rw [← hx]
    unfold pureK kOf
    simp only [if_neg hf]

theorem MemTab.add {P : Program} {U : Out} {ann : FuncId → FAnn} {fuel n : Nat} {T : Table} {M : MTab} (hT : MemTab P U T M) (hX : ∀ B, ExtSound P B U.X) (hm : P.follows .mixedOrders = true) (hA : ∀ f, funcOk P (ann f) f = true)
    {g : FuncId} {t : List AV → Option (Bool × AV)} (h : ∀ xs v, t xs = some (true, v) → v.cleanR = true ∧ ∃ H' e, evalMK Option.none P U ann fuel T M n g xs [] (fun v H e => some (v, H, e)) = some (v, H', e)) :
    MemTab P U (fun f => if f = g then some t else T f) M :=
  hT.addN hX hm hA (fun xs v hv => by
    obtain ⟨h1, H', e, h2⟩ := h xs v hv
    exact ⟨h1, H', e, evalN_of_M h2⟩)

/-- One function more, memory and all. -/
theorem MemTab.addMem {P : Program} {U : Out} {ann : FuncId → FAnn} {fuel n : Nat} {T : Table} {M : MTab} (hT : MemTab P U T M) (hX : ∀ B, ExtSound P B U.X) (hm : P.follows .mixedOrders = true) (hA : ∀ f, funcOk P (ann f) f = true)
    {g : FuncId} {t : List AV → Heap → Option Outs} (h : ∀ args H r, (t args H).bind pickO = some r → evalN P U ann fuel (both T M) n g args H = some r) :
    MemTab P U T (fun f => if f = g then some t else M f) := by
  refine ⟨hT.pure, fun B f args H v H' e hx => ?_⟩
  by_cases hf : f = g
  · subst hf
    unfold mOf at hx
    simp only [if_true] at hx
    intro E w cargs hs hG hl hv
    exact evalN_ok (hT.sound B) (hX B) hm hA n f args H v H' e (h args H _ hx) E w cargs hs hG hl hv
  · refine hT.mem B f args H v H' e ?_
    rw [← hx]
    unfold mOf
    simp only [if_neg hf]

/-- One function more, found sound in any way. -/
theorem MemTab.addS {P : Program} {U : Out} {T : Table} {M : MTab} (hT : MemTab P U T M) {g : FuncId} {t : List AV → Heap → Option Outs}
    (h : ∀ B, OracleSound P B U.G (fun f args H => if f = g then (t args H).bind pickO else Option.none)) :
    MemTab P U T (fun f => if f = g then some t else M f) := by
  refine ⟨hT.pure, fun B f args H v H' e hx => ?_⟩
  by_cases hf : f = g
  · refine h B f args H v H' e ?_
    rw [← hx]
    unfold mOf
    simp only [if_pos hf]
  · refine hT.mem B f args H v H' e ?_
    rw [← hx]
    unfold mOf
    simp only [if_neg hf]

end Go.X
/-
  Functions told by families: for each member the arguments, the piece of memory, and what comes of them; and what loads and stores at a place come to.
-/
namespace Go.X
open Classical

/-- What is told of a function, for each member of a family. -/
structure Fam (ι : Type) where
  A : ι → List AV
  HH : ι → Heap
  pre : ι → Prop
  outs : ι → Outs
  inj : ∀ i j, A i = A j → HH i = HH j → i = j
  dft : ι

namespace Fam
variable {ι : Type} (S : Fam ι)

noncomputable def tst (args : List AV) (H : Heap) : Bool := decide (∃ i, S.pre i ∧ args = S.A i ∧ H = S.HH i)
noncomputable def par (args : List AV) (H : Heap) : ι := if h : ∃ i, args = S.A i ∧ H = S.HH i then Classical.choose h else S.dft
noncomputable def entry : List AV → Heap → Option Outs := fun args H => some ((S.outs (S.par args H)).map fun x => (S.tst args H && x.1, x.2))

theorem tst_at (i : ι) (h : S.pre i) : S.tst (S.A i) (S.HH i) = true := decide_eq_true ⟨i, h, rfl, rfl⟩
theorem par_at (i : ι) : S.par (S.A i) (S.HH i) = i := by
  have h : ∃ j, S.A i = S.A j ∧ S.HH i = S.HH j := ⟨i, rfl, rfl⟩
  unfold par
  rw [dif_pos h]
  obtain ⟨h1, h2⟩ := Classical.choose_spec h
  exact (S.inj _ _ h1 h2).symm

theorem pick_and (b : Bool) : ∀ (l : Outs) (r : AV × Heap × Bool), pickO (l.map fun x => (b && x.1, x.2)) = some r → b = true ∧ pickO l = some r
  | [], r, h => by cases h
  | (c, s) :: l, r, h => by
    unfold pickO at h ⊢
    simp only [List.map_cons] at h
    cases b with
    | false =>
      simp only [Bool.false_and, cond_false] at h
      exact absurd (pick_and false l r (by simpa using h)).1 (by simp)
    | true =>
      refine ⟨rfl, ?_⟩
      cases c with
      | false =>
        simp only [Bool.true_and, cond_false] at h ⊢
        exact (pick_and true l r (by simpa using h)).2
      | true => simpa using h

theorem entry_true {args : List AV} {H : Heap} {r : AV × Heap × Bool} (h : (S.entry args H).bind pickO = some r) : ∃ i, S.pre i ∧ args = S.A i ∧ H = S.HH i ∧ pickO (S.outs i) = some r := by
  unfold entry at h
  rw [Option.bind_some] at h
  obtain ⟨h1, h2⟩ := pick_and _ _ _ h
  obtain ⟨i, hp, rfl, rfl⟩ := of_decide_eq_true h1
  exact ⟨i, hp, rfl, rfl, by rw [S.par_at] at h2; exact h2⟩
end Fam

/-- One function more, of a family. -/
theorem MemTab.addFam {P : Program} {U : Out} {ann : FuncId → FAnn} {fuel n : Nat} {T : Table} {M : MTab} (hT : MemTab P U T M) (hX : ∀ B, ExtSound P B U.X) (hm : P.follows .mixedOrders = true) (hA : ∀ f, funcOk P (ann f) f = true)
    {g : FuncId} {ι : Type} (S : Fam ι) (h : ∀ i, S.pre i → evalMK Option.none P U ann fuel T M n g (S.A i) (S.HH i) (fun v H e => some (v, H, e)) = pickO (S.outs i)) :
    MemTab P U T (fun f => if f = g then some S.entry else M f) :=
  hT.addMem hX hm hA (fun args H r he => by
    obtain ⟨i, hp, rfl, rfl, h3⟩ := S.entry_true he
    exact evalN_of_M ((h i hp).trans h3))

/-! Loads and stores at a place of an array. -/
theorem ld_arr {P : Program} {H : Heap} {t : TypeId} {id coff j g e : Nat} {xs : List AV} {gr fl : Bool} {x : AV} (hb : H.blk id = some ⟨.arr e xs, gr, fl⟩) (hg : e * xs.length = g) (hc : coff = e * j) (hx : xs[j]? = some x)
    (ht : tagg P t = some x.isAgg) (hs : tsize P t = some x.flatLen) : loadAV P H t (.ptr ⟨id, coff, [j], g⟩) = some x := by
  have hat : (AV.arr e xs).at? [j] = some (e * j, x) := by
      simp [AV.at?, hx]
  have hfl : (AV.arr e xs).flatLen = g := hg
  simp only [loadAV, hb, hat, Option.bind_some, hfl, hc, ht, hs]
  simp

theorem st_arr {P : Program} {H : Heap} {t : TypeId} {id coff j g e : Nat} {xs : List AV} {gr fl : Bool} {x v : AV} (hb : H.blk id = some ⟨.arr e xs, gr, fl⟩) (hg : e * xs.length = g) (hc : coff = e * j) (hx : xs[j]? = some x)
    (hv : v.plain = true) (hs : tsize P t = some v.flatLen) (hl : x.flatLen = v.flatLen) : storeAV P H t (.ptr ⟨id, coff, [j], g⟩) v = some (H.set id (some ⟨.arr e (xs.set j v), gr, fl && v.refless⟩)) := by
  have hat : (AV.arr e xs).at? [j] = some (e * j, x) := by simp [AV.at?, hx]
  have hput : (AV.arr e xs).put? [j] v = some (.arr e (xs.set j v)) := by simp [AV.put?, hx, hl]
  have hfl : (AV.arr e xs).flatLen = g := hg
  simp only [storeAV, hb, hat, hput, Option.bind_some, hfl, hc, hs, hv]
  simp

/-- A field of an element. -/
theorem ld_fld {P : Program} {H : Heap} {t : TypeId} {id coff j f g e n : Nat} {xs ps : List AV} {gr fl : Bool} {x : AV} (hb : H.blk id = some ⟨.arr e xs, gr, fl⟩) (hg : e * xs.length = g) (hx : xs[j]? = some (.agg n ps)) (hp : ps[f]? = some x) (hc : coff = e * j + sumLen (ps.take f))
    (ht : tagg P t = some x.isAgg) (hs : tsize P t = some x.flatLen) : loadAV P H t (.ptr ⟨id, coff, [j, f], g⟩) = some x := by
  have hat : (AV.arr e xs).at? [j, f] = some (e * j + sumLen (ps.take f), x) := by simp [AV.at?, hx, hp]
  have hfl : (AV.arr e xs).flatLen = g := hg
  simp only [loadAV, hb, hat, Option.bind_some, hfl, hc, ht, hs]
  simp

theorem st_fld {P : Program} {H : Heap} {t : TypeId} {id coff j f g e n : Nat} {xs ps : List AV} {gr fl : Bool} {x v : AV} (hb : H.blk id = some ⟨.arr e xs, gr, fl⟩) (hg : e * xs.length = g) (hx : xs[j]? = some (.agg n ps)) (hp : ps[f]? = some x) (hc : coff = e * j + sumLen (ps.take f))
    (hv : v.plain = true) (hs : tsize P t = some v.flatLen) (hl : x.flatLen = v.flatLen) : storeAV P H t (.ptr ⟨id, coff, [j, f], g⟩) v = some (H.set id (some ⟨.arr e (xs.set j (.agg n (ps.set f v))), gr, fl && v.refless⟩)) := by
  have hat : (AV.arr e xs).at? [j, f] = some (e * j + sumLen (ps.take f), x) := by simp [AV.at?, hx, hp]
  have hput : (AV.arr e xs).put? [j, f] v = some (.arr e (xs.set j (.agg n (ps.set f v)))) := by simp [AV.put?, hx, hp, hl]
  have hfl : (AV.arr e xs).flatLen = g := hg
  simp only [storeAV, hb, hat, hput, Option.bind_some, hfl, hc, hs, hv]
  simp

theorem proj1 (j : Nat) (e : Nat) (xs : List AV) : projT [j] (.arr e xs) = (xs[j]?).getD .bad := rfl

/-- Wrapped, of what is small. -/
theorem wrapS {i : Nat} (h : i < 2 ^ 62) : IntKind.i64.wrap ((i : Int) + 1) = ((i + 1 : Nat) : Int) := by
  rw [IntKind.wrap_i64]
  omega
end Go.X
/-
  A function, gone on with at a place of its text.
-/
namespace Go.X
section
variable {R : Type} (bot : R) (sym : Bool)
def gotoCK (C : Ctx) (KK : OracleK R) (fuel : Nat) : List Bool → Nat → Code → St → (Ex → St → R) → R
  | p, _, .block id c, s, k => gotoCK C KK fuel p id c s fun e s => match e with
      | .exit i => if i = id then k .normal s else k (.exit i) s
      | .normal => k .normal s
      | .ret => k .ret s
  | false :: p, cur, .seq a b, s, k => gotoCK C KK fuel p cur a s fun e s => match e with
      | .normal => evalCK bot sym C KK fuel cur b s k
      | .exit i => k (.exit i) s
      | .ret => k .ret s
  | true :: p, cur, .seq _ b, s, k => gotoCK C KK fuel p cur b s k
  | false :: p, cur, .cond _ a _, s, k => gotoCK C KK fuel p cur a s k
  | true :: p, cur, .cond _ _ b, s, k => gotoCK C KK fuel p cur b s k
  | [], cur, c, s, k => evalCK bot sym C KK fuel cur c s k
  | _, _, _, _, _ => bot
def gotoFK (P : Program) (U : Out) (ann : FuncId → FAnn) (fuel : Nat) (K : Oracle) (KK : OracleK R) (f : FuncId) (nargs n0 : Nat) (p : List Bool) (s : St) (k : AV → Heap → Bool → R) : R :=
  match P.funcs[f]? with
  | some fn => match fn.body with
    | some c =>
      let C : Ctx := ⟨P, K, n0, max fn.ntmps nargs, ann f, U, noY, evalI P U ann fuel K⟩
      gotoCK bot sym C KK fuel p 0 c s (finK bot C fn n0 k)
    | none => bot
  | none => bot
end
end Go.X
/-
  Integers sorted in place: what the shelf's contract says of the world, said of memory.
-/
namespace Go.X
open Go.RowKit (Below)
open Go.Sort

def intsL (zs : List Int) : List AV := zs.map fun z => .int .i64 z
def sortZ (zs : List Int) : List Int := zs.mergeSort fun x y => decide (x ≤ y)
def toInts (xs : List AV) : List Int := xs.map AV.toInt

theorem toInts_ints (zs : List Int) : toInts (intsL zs) = zs := by
  unfold toInts intsL
  rw [List.map_map]
  exact List.map_id'' (fun _ => rfl) zs
theorem intsL_of {xs : List AV} (h : xs.all (fun x => x.isIntK .i64) = true) : intsL (toInts xs) = xs := by
  unfold toInts intsL
  rw [List.map_map]
  refine (List.map_congr_left fun x hx => ?_).trans (List.map_id xs)
  have := List.all_eq_true.1 h x hx
  cases x <;> simp only [AV.isIntK, reduceCtorEq, beq_iff_eq] at this
  subst this
  rfl
theorem sortZ_length (zs : List Int) : (sortZ zs).length = zs.length := by simp [sortZ]

theorem FR.intsL {E : Env} : ∀ {zs : List Int} {cs : List Value}, FR E (intsL zs) cs → cs = zs.map (Value.int .i64)
  | [], cs, h => by
    have : FR E [] cs := h
    cases this
    rfl
  | z :: zs, cs, h => by
    have h' : FR E (.int .i64 z :: Go.X.intsL zs) cs := h
    cases h' with
    | int h1 => rw [FR.intsL h1]; rfl
theorem FR.ofInts {E : Env} : ∀ (zs : List Int), FR E (Go.X.intsL zs) (zs.map (Value.int .i64))
  | [] => .nil
  | _ :: zs => .int (FR.ofInts zs)

/-- What sorting comes to. -/
def sortT : List AV → Heap → Option (Bool × AV × Heap × Bool) := fun args H => match args with
  | [.sl p e n off len] => match H.blk p.id with
    | some ⟨.arr e' xs, g, fl⟩ => some (decide (p.path = [] ∧ p.coff = 0 ∧ e = 1 ∧ e' = 1 ∧ fl = true ∧ xs.length = p.gen ∧ xs.length = n ∧ 0 < len ∧ off + len ≤ n ∧ len < 4611686018427387904) && ((xs.drop off).take len).all (fun x => x.isIntK .i64),
        .tuple [], H.set p.id (some ⟨.arr 1 (setMany xs off (intsL (sortZ (toInts ((xs.drop off).take len))))), g, true⟩), false)
    | _ => none
  | _ => none

theorem sort_sound {P : Program} {G : Nat → Option AV} {f : FuncId}
    (hC : ∀ (blk off cap : Nat) (zs : List Int) (w : World), Holds (Value.int .i64) w blk off zs.toArray → blk < w.heap.size → zs.length < 4611686018427387904 →
      Calls P f #[.slice (some ⟨blk, off, none⟩) zs.length cap] w fun e w' => e = .returned (.tuple #[]) ∧ ∃ n os, w' = grow (putRow (Value.int .i64) (Sort.ahead w n) blk off (zs.mergeSort fun x y => decide (x ≤ y)).toArray) os) (B : Nat) :
    OracleSound P B G (fun g args H => if g = f then (match sortT args H with | some (true, r) => some r | _ => none) else none) := by
  intro g args H v H' e h E w cargs hs hG hl hv
  simp only at h
  split at h
  · rename_i hg
    subst hg
    split at h
    · rename_i r hr
      obtain rfl := Option.some.inj h
      unfold sortT at hr
      split at hr
      · rename_i p e n off len
        split at hr
        · rename_i e' xs gr fl hb
          simp only [Option.some.injEq, Prod.mk.injEq, Bool.and_eq_true, decide_eq_true_eq] at hr
          obtain ⟨⟨⟨hp, hco, rfl, rfl, rfl, hgen, rfl, hpos, hle, hbig⟩, hall⟩, rfl, rfl, rfl⟩ := hr
          -- the slice
          obtain ⟨cx, rfl⟩ : ∃ cx, cargs = [cx] := by
            cases cargs with
            | nil => simp at hl
            | cons c r => cases r with
              | nil => exact ⟨c, rfl⟩
              | cons _ _ => simp at hl
          have hx : PR E (.sl p 1 xs.length off len) cx := hv 0 _ _ rfl rfl
          obtain ⟨L, hL, hB, hBL⟩ := hs.live _ _ hb
          obtain ⟨cs, hfr, hlen, hcells⟩ := hB.cs
          obtain ⟨hxs, _⟩ := FR.arr_inv (show FR E [.arr 1 xs] cs from hfr)
          have hcl : cs.length = xs.length := by rw [hfr.length]; simp [sumLen, AV.flatLen]
          obtain ⟨a, cap, rfl, h1, hcap, h2⟩ := PR.sl_inv hx
          have hLg : L.gen = xs.length := by rw [← hlen, hcl]
          have ha : a = ⟨L.b, L.base + off, none⟩ := by
            rcases h2 L hL with h | ⟨_, _, _, h⟩
            · omega
            · rcases h with h | h
              · omega
              · rw [h, hco]; simp
          subst ha
          -- its cells
          have hseg : xs = xs.take off ++ ((xs.drop off).take len ++ (xs.drop off).drop len) := by rw [List.take_append_drop, List.take_append_drop]
          have hxs' := hxs
          rw [hseg] at hxs'
          obtain ⟨c0, c2, hc02, k0, k1⟩ := hxs'.append_inv
          obtain ⟨c3, c4, rfl, k2, k3⟩ := k1.append_inv
          subst hc02
          generalize hzs : toInts ((xs.drop off).take len) = zs
          have hsegz : (xs.drop off).take len = Go.X.intsL zs := by rw [← hzs, intsL_of hall]
          rw [hsegz] at k2
          have hc3 := FR.intsL k2
          subst hc3
          have hzl : zs.length = len := by
            rw [← hzs]
            simp [toInts]
            omega
          have hl0 : c0.length = off := by
            have : ∀ u ∈ xs.take off, u.flatLen = 1 := fun u hu => (FR.arr_inv (show FR E [.arr 1 xs] _ from hfr)).2 u (List.mem_of_mem_take hu)
            rw [k0.length, sumLen_same this]
            simp
            omega
          have hbase : ∀ j c, (c0 ++ (zs.map (Value.int .i64) ++ c4))[j]? = some c → w.cell? ⟨L.b, L.base + j, none⟩ = some c := hcells
          have hholds : Holds (Value.int .i64) w L.b (L.base + off) zs.toArray := by
            intro j hj
            have hj' : j < zs.length := by simpa using hj
            refine ⟨?_, ?_⟩
            · have := hbase (off + j) (Value.int .i64 zs[j]) (by
                rw [List.getElem?_append_right (by omega), show off + j - c0.length = j by omega, List.getElem?_append_left (by simpa using hj')]
                simp [hj'])
              rw [show L.base + off + j = L.base + (off + j) by omega, this]
              simp [hj']
            · rw [show L.base + off + j = L.base + (off + j) by omega]
              exact (hB.room (off + j) (by have := hB.fits; omega)).2
          have hblk : L.b < w.heap.size := hs.loc_lt hL (j := 0) (by have := hB.fits; omega)
          have hcall := hC L.b (L.base + off) cap zs w hholds hblk (by omega)
          rw [hzl] at hcall
          refine hcall.mono ?_
          rintro en w' ⟨rfl, m, os, rfl⟩
          have hsz : ((zs.mergeSort fun x y => decide (x ≤ y)).toArray).size = zs.toArray.size := by simp
          have hh' : Holds (Value.int .i64) (Sort.ahead w m) L.b (L.base + off) zs.toArray := hholds
          have hcp : ∀ j, j < zs.length → (putRow (Value.int .i64) (Sort.ahead w m) L.b (L.base + off) (zs.mergeSort fun x y => decide (x ≤ y)).toArray).cell? ⟨L.b, L.base + off + j, none⟩ = some (Value.int .i64 ((zs.mergeSort fun x y => decide (x ≤ y)).toArray)[j]!) := fun j hj =>
            cell?_putRow (Value.int .i64) (Sort.ahead w m) L.b (L.base + off) zs.toArray _ hh' hsz j (by simpa using hj)
          have hco' : ∀ b o, (b ≠ L.b ∨ o < L.base + off ∨ L.base + off + zs.length ≤ o) → (putRow (Value.int .i64) (Sort.ahead w m) L.b (L.base + off) (zs.mergeSort fun x y => decide (x ≤ y)).toArray).cell? ⟨b, o, none⟩ = w.cell? ⟨b, o, none⟩ := fun b o h =>
            cell?_putRow_other (Value.int .i64) (Sort.ahead w m) L.b (L.base + off) _ ⟨b, o, none⟩ (by simpa using h)
          have hfits := hB.fits
          have hw := hs.write (w' := putRow (Value.int .i64) (Sort.ahead w m) L.b (L.base + off) (zs.mergeSort fun x y => decide (x ≤ y)).toArray) (r := .arr 1 (setMany xs off (Go.X.intsL (sortZ zs)))) (g := gr) (fl := true)
            (cs' := c0 ++ ((sortZ zs).map (Value.int .i64) ++ c4)) hb hL
            (by
              have hx1 : FR E (setMany xs off (Go.X.intsL (sortZ zs))) (c0 ++ ((sortZ zs).map (Value.int .i64) ++ c4)) := by
                unfold setMany
                rw [List.append_assoc]
                refine FR.append k0 (FR.append (FR.ofInts _) ?_)
                have : (Go.X.intsL (sortZ zs)).length = len := by simp [Go.X.intsL, sortZ_length, hzl]
                rw [this]
                simpa [List.drop_drop] using k3
              have := FR.arr (e := 1) hx1 (fun u hu => ?_) FR.nil
              · simpa using this
              · unfold setMany at hu
                rcases List.mem_append.1 hu with hu | hu
                · rcases List.mem_append.1 hu with hu | hu
                  · exact (FR.arr_inv (show FR E [.arr 1 xs] _ from hfr)).2 u (List.mem_of_mem_take hu)
                  · obtain ⟨z, _, rfl⟩ := List.mem_map.1 hu
                    rfl
                · exact (FR.arr_inv (show FR E [.arr 1 xs] _ from hfr)).2 u (List.mem_of_mem_drop hu))
            (by
              rw [← hlen]
              simp [sortZ_length])
            (fun _ => by
              have h0 : refsL xs = [] := hs.flat _ _ hb rfl
              show refsL (setMany xs off (Go.X.intsL (sortZ zs))) = []
              have hmem : ∀ (l : List AV), (∀ u ∈ l, u.refs = []) → refsL l = [] := fun l => by
                induction l with
                | nil => intro _; rfl
                | cons x l ih => intro h; rw [refsL, h x List.mem_cons_self, ih fun u hu => h u (List.mem_cons_of_mem _ hu)]; rfl
              have hxm : ∀ u ∈ xs, u.refs = [] := fun u hu => by
                cases hr : u.refs with
                | nil => rfl
                | cons r t =>
                  have := mem_refsL hu (show r ∈ u.refs by rw [hr]; exact List.mem_cons_self)
                  rw [h0] at this
                  cases this
              refine hmem _ fun u hu => ?_
              unfold setMany at hu
              rcases List.mem_append.1 hu with hu | hu
              · rcases List.mem_append.1 hu with hu | hu
                · exact hxm u (List.mem_of_mem_take hu)
                · obtain ⟨z, _, rfl⟩ := List.mem_map.1 hu
                  rfl
              · exact hxm u (List.mem_of_mem_drop hu))
            (fun j c hj => by
              rcases Nat.lt_or_ge j off with h1 | h1
              · rw [List.getElem?_append_left (by omega)] at hj
                rw [hco' _ _ (by omega)]
                exact hbase j c (by rw [List.getElem?_append_left (by omega)]; exact hj)
              · rw [List.getElem?_append_right (by omega), hl0] at hj
                rcases Nat.lt_or_ge (j - off) zs.length with h2 | h2
                · rw [List.getElem?_append_left (by simpa [sortZ_length] using h2)] at hj
                  rw [show L.base + j = L.base + off + (j - off) by omega, hcp _ h2]
                  rw [List.getElem?_map] at hj
                  have h3 : j - off < (sortZ zs).length := by rw [sortZ_length]; exact h2
                  rw [List.getElem?_eq_getElem h3, Option.map_some] at hj
                  rw [← hj]
                  have h4 : j - off < (zs.mergeSort fun x y => decide (x ≤ y)).length := h3
                  simp only [sortZ, List.getElem!_toArray, List.getElem!_eq_getElem?_getD, List.getElem?_eq_getElem h4, Option.getD_some]
                · rw [List.getElem?_append_right (by simpa [sortZ_length] using h2)] at hj
                  rw [hco' _ _ (by omega)]
                  refine hbase j c ?_
                  rw [List.getElem?_append_right (by omega), hl0, List.getElem?_append_right (by simpa using h2)]
                  simpa [sortZ_length] using hj)
            (fun j hj => by
              rcases Nat.lt_or_ge j off with h1 | h1
              · rw [hco' _ _ (by omega)]; exact (hB.room j hj).1
              · rcases Nat.lt_or_ge (j - off) zs.length with h2 | h2
                · rw [show L.base + j = L.base + off + (j - off) by omega, hcp _ h2]; rfl
                · rw [hco' _ _ (by omega)]; exact (hB.room j hj).1)
            (fun b o hn => hco' b o (by
              by_cases hbb : b = L.b
              · subst hbb
                right
                rcases Nat.lt_or_ge o (L.base + off) with h | h
                · exact .inl h
                · right
                  rcases Nat.lt_or_ge o (L.base + off + zs.length) with h' | h'
                  · exact absurd ⟨rfl, by omega, by omega⟩ hn
                  · exact h'
              · exact .inl hbb))
            (fun b o => by rw [frozen?_putRow]; rfl)
            ⟨⟨rfl, rfl, rfl, by rw [size_putRow]; exact Nat.le_refl _, fun k hk => by
                show (putRow (Value.int .i64) (Sort.ahead w m) L.b (L.base + off) _).heap[k]? = w.heap[k]?
                unfold putRow mapBlock
                simp only [Array.getElem?_modify]
                rw [if_neg (by omega)]
                rfl⟩, fun j o ho hn => by
                show (putRow (Value.int .i64) (Sort.ahead w m) L.b (L.base + off) _).heap[j]? = some o
                unfold putRow mapBlock
                simp only [Array.getElem?_modify]
                have ho' : (Sort.ahead w m).heap[j]? = some o := ho
                rw [ho']
                split
                · cases o <;> simp [notCells] at hn <;> rfl
                · rfl⟩
          have hbel : Below (putRow (Value.int .i64) (Sort.ahead w m) L.b (L.base + off) (zs.mergeSort fun x y => decide (x ≤ y)).toArray).heap.size (putRow (Value.int .i64) (Sort.ahead w m) L.b (L.base + off) (zs.mergeSort fun x y => decide (x ≤ y)).toArray)
              (grow (putRow (Value.int .i64) (Sort.ahead w m) L.b (L.base + off) (zs.mergeSort fun x y => decide (x ≤ y)).toArray) os) :=
            ⟨rfl, rfl, rfl, by rw [size_grow]; omega, fun k hk => by
              show (_ ++ os)[k]? = _
              rw [Array.getElem?_append_left hk]⟩
          refine ⟨.tuple #[], E, rfl, ⟨hw.1.stays hbel, ⟨[], rfl, rfl, by simp⟩, (hw.2 _).trans (Tr.stays hw.1 hbel), by simp, fun _ => ?_⟩⟩
          refine Sub.set hb fun _ b hb' y hy => ?_
          obtain rfl := Option.some.inj hb'
          exfalso
          have : (AV.arr 1 (setMany xs off (Go.X.intsL (sortZ zs)))).refs = [] := hw.1.flat p.id ⟨_, gr, true⟩ (by rw [Heap.blk_set (Heap.blk_some hb) (fun b hb => by obtain rfl := Option.some.inj hb; rfl)]; simp) rfl
          rw [this] at hy
          cases hy
        · cases hr
      · cases hr
    · cases h
  · cases h
end Go.X
/-
  Functions that read only: the memory that comes of them is the memory given.
-/
namespace Go.X
open Classical
namespace Fam
variable {ι : Type} (S : Fam ι)
/-- What is told: the members' arguments and memories alone; the value is a function of both; the memory is what it was. -/
noncomputable def entryV (v : List AV → Heap → AV) : List AV → Heap → Option Outs := fun args H => some [(S.tst args H, v args H, H, false)]
theorem entryV_true {v : List AV → Heap → AV} {args : List AV} {H : Heap} {r : AV × Heap × Bool} (h : (S.entryV v args H).bind pickO = some r) : ∃ i, S.pre i ∧ args = S.A i ∧ H = S.HH i ∧ r = (v args H, H, false) := by
  unfold entryV at h
  rw [Option.bind_some, pickO] at h
  cases ht : S.tst args H with
  | false => rw [ht] at h; simp [pickO] at h
  | true =>
    rw [ht] at h
    obtain ⟨i, hp, h1, h2⟩ := of_decide_eq_true ht
    exact ⟨i, hp, h1, h2, by simpa using h.symm⟩
/-- Functions that write: what comes of them, by the arguments and the memory. -/
noncomputable def entryW (v : List AV → Heap → AV) (w : List AV → Heap → Heap) : List AV → Heap → Option Outs := fun args H => some [(S.tst args H, v args H, w args H, false)]
theorem entryW_true {v : List AV → Heap → AV} {w : List AV → Heap → Heap} {args : List AV} {H : Heap} {r : AV × Heap × Bool} (h : (S.entryW v w args H).bind pickO = some r) : ∃ i, S.pre i ∧ args = S.A i ∧ H = S.HH i ∧ r = (v args H, w args H, false) := by
  unfold entryW at h
  rw [Option.bind_some, pickO] at h
  cases ht : S.tst args H with
  | false => rw [ht] at h; simp [pickO] at h
  | true =>
    rw [ht] at h
    obtain ⟨i, hp, h1, h2⟩ := of_decide_eq_true ht
    exact ⟨i, hp, h1, h2, by simpa using h.symm⟩
end Fam
theorem MemTab.addRead {P : Program} {U : Out} {ann : FuncId → FAnn} {fuel n : Nat} {T : Table} {M : MTab} (hT : MemTab P U T M) (hX : ∀ B, ExtSound P B U.X) (hm : P.follows .mixedOrders = true) (hA : ∀ f, funcOk P (ann f) f = true)
    {g : FuncId} {ι : Type} (S : Fam ι) (v : List AV → Heap → AV) (h : ∀ i, S.pre i → evalMK Option.none P U ann fuel T M n g (S.A i) (S.HH i) (fun v H e => some (v, H, e)) = some (v (S.A i) (S.HH i), S.HH i, false)) :
    MemTab P U T (fun f => if f = g then some (S.entryV v) else M f) :=
  hT.addMem hX hm hA (fun args H r he => by
    obtain ⟨i, hp, rfl, rfl, rfl⟩ := S.entryV_true he
    exact evalN_of_M (h i hp))
theorem MemTab.addWrite {P : Program} {U : Out} {ann : FuncId → FAnn} {fuel n : Nat} {T : Table} {M : MTab} (hT : MemTab P U T M) (hX : ∀ B, ExtSound P B U.X) (hm : P.follows .mixedOrders = true) (hA : ∀ f, funcOk P (ann f) f = true)
    {g : FuncId} {ι : Type} (S : Fam ι) (v : List AV → Heap → AV) (w : List AV → Heap → Heap) (h : ∀ i, S.pre i → evalMK Option.none P U ann fuel T M n g (S.A i) (S.HH i) (fun v H e => some (v, H, e)) = some (v (S.A i) (S.HH i), w (S.A i) (S.HH i), false)) :
    MemTab P U T (fun f => if f = g then some (S.entryW v w) else M f) :=
  hT.addMem hX hm hA (fun args H r he => by
    obtain ⟨i, hp, rfl, rfl, rfl⟩ := S.entryW_true he
    exact evalN_of_M (h i hp))
end Go.X
/-
  Calls and results, read off in the symbolic way: an array whose elements are not known is taken for one without references, and that is asked for.
-/
namespace Go.X
mutual
/-- Arrays hold no references. -/
def AV.okS : AV → Bool
  | .arr _ xs => reflessL xs
  | .agg _ ps => okSL ps
  | .tuple ps => okSL ps
  | _ => true
def okSL : List AV → Bool
  | [] => true
  | v :: vs => v.okS && okSL vs
end
mutual
def AV.renS (g : Nat → Nat) : AV → AV
  | .arr e xs => .arr e xs
  | .agg n ps => .agg n (renSL g ps)
  | .tuple ps => .tuple (renSL g ps)
  | v => v.ren g
def renSL (g : Nat → Nat) : List AV → List AV
  | [] => []
  | v :: vs => v.renS g :: renSL g vs
end
mutual
def AV.refsS : AV → List Nat
  | .arr _ _ => []
  | .agg _ ps => refsSL ps
  | .tuple ps => refsSL ps
  | v => v.refs
def refsSL : List AV → List Nat
  | [] => []
  | v :: vs => v.refsS ++ refsSL vs
end
theorem ren_refless_both (g : Nat → Nat) : (∀ v : AV, v.refless = true → v.ren g = v) ∧ ∀ l : List AV, reflessL l = true → renL g l = l := by
  have key : ∀ v : AV, v.refless = true → v.ren g = v := by
    intro v
    induction v using AV.rec (motive_2 := fun l => reflessL l = true → renL g l = l) with
    | nil => rfl
    | cons x r h1 h2 =>
      rename_i h
      simp only [reflessL, Bool.and_eq_true] at h
      simp [renL, h1 h.1, h2 h.2]
    | iface t v ih => intro h; simpa [AV.ren] using ih (by simpa [AV.refless] using h)
    | agg n ps ih => intro h; simpa [AV.ren] using ih (by simpa [AV.refless] using h)
    | arr e xs ih => intro h; simpa [AV.ren] using ih (by simpa [AV.refless] using h)
    | _ => intro h; first | rfl | (simp [AV.refless] at h)
  refine ⟨key, fun l => ?_⟩
  induction l with
  | nil => intro _; rfl
  | cons x r ih =>
    intro h
    simp only [reflessL, Bool.and_eq_true] at h
    simp [renL, key x h.1, ih h.2]
theorem refs_of_refless_all : (∀ v : AV, v.refless = true → v.refs = []) ∧ ∀ l : List AV, reflessL l = true → refsL l = [] := by
  have key : ∀ v : AV, v.refless = true → v.refs = [] := by
    intro v
    induction v using AV.rec (motive_2 := fun l => reflessL l = true → refsL l = []) with
    | nil => rfl
    | cons x r h1 h2 =>
      rename_i h
      simp only [reflessL, Bool.and_eq_true] at h
      simp [refsL, h1 h.1, h2 h.2]
    | iface t v ih => intro h; simpa [AV.refs] using ih (by simpa [AV.refless] using h)
    | agg n ps ih => intro h; simpa [AV.refs] using ih (by simpa [AV.refless] using h)
    | arr e xs ih => intro h; simpa [AV.refs] using ih (by simpa [AV.refless] using h)
    | _ => intro h; first | rfl | (simp [AV.refless] at h)
  refine ⟨key, fun l => ?_⟩
  induction l with
  | nil => intro _; rfl
  | cons x r ih =>
    intro h
    simp only [reflessL, Bool.and_eq_true] at h
    simp [refsL, key x h.1, ih h.2]
theorem okS_both (g : Nat → Nat) : (∀ v : AV, v.okS = true → v.renS g = v.ren g ∧ v.refsS = v.refs) ∧ ∀ l : List AV, okSL l = true → renSL g l = renL g l ∧ refsSL l = refsL l := by
  have key : ∀ v : AV, v.okS = true → v.renS g = v.ren g ∧ v.refsS = v.refs := by
    intro v
    induction v using AV.rec (motive_2 := fun l => okSL l = true → renSL g l = renL g l ∧ refsSL l = refsL l) with
    | nil => exact ⟨rfl, rfl⟩
    | cons x r h1 h2 =>
      rename_i h
      simp only [okSL, Bool.and_eq_true] at h
      obtain ⟨a, b⟩ := h1 h.1
      obtain ⟨c, d⟩ := h2 h.2
      exact ⟨by simp [renSL, renL, a, c], by simp [refsSL, refsL, b, d]⟩
    | agg n ps ih =>
      intro h
      obtain ⟨a, b⟩ := ih (by simpa [AV.okS] using h)
      exact ⟨by simp [AV.renS, AV.ren, a], by simp [AV.refsS, AV.refs, b]⟩
    | tuple ps ih =>
      intro h
      obtain ⟨a, b⟩ := ih (by simpa [AV.okS] using h)
      exact ⟨by simp [AV.renS, AV.ren, a], by simp [AV.refsS, AV.refs, b]⟩
    | arr e xs ih =>
      intro h
      have h' : reflessL xs = true := by simpa [AV.okS] using h
      exact ⟨by simp [AV.renS, AV.ren, (ren_refless_both g).2 _ h'], by simp [AV.refsS, AV.refs, refs_of_refless_all.2 _ h']⟩
    | _ => intro h; exact ⟨rfl, rfl⟩
  refine ⟨key, fun l => ?_⟩
  induction l with
  | nil => intro _; exact ⟨rfl, rfl⟩
  | cons x r ih =>
    intro h
    simp only [okSL, Bool.and_eq_true] at h
    obtain ⟨a, b⟩ := key x h.1
    obtain ⟨c, d⟩ := ih h.2
    exact ⟨by simp [renSL, renL, a, c], by simp [refsSL, refsL, b, d]⟩
section
variable {R : Type} (bot : R)
def resS (C : Ctx) (s : St) : List ResultVar → List AV → (List AV → R) → R
  | [], acc, k => k acc
  | .tmp t :: l, acc, k => resS C s l (acc ++ [s.get C.A t]) k
  | .cell a t :: l, acc, k => loadS bot C.P s.H t (s.get C.A a) fun v => resS C s l (acc ++ [v]) k
theorem resS_le (C : Ctx) (s : St) : ∀ (l : List ResultVar) (acc : List AV) (k : List AV → R), Le bot (resS bot C s l acc k) ((l.mapM (resultAV C s)).elim bot fun vs => k (acc ++ vs))
  | [], acc, k => by
    right
    simp [resS]
  | .tmp t :: l, acc, k => by
    unfold resS
    refine (resS_le C s l _ k).trans bot (.inr ?_)
    rw [List.mapM_cons]
    simp only [resultAV]
    cases l.mapM (resultAV C s) with
    | none => rfl
    | some vs => simp
  | .cell a t :: l, acc, k => by
    unfold resS
    refine (loadS_le bot _ _ _ _ _).trans bot ?_
    rw [List.mapM_cons]
    simp only [resultAV]
    cases loadAV C.P s.H t (s.get C.A a) with
    | none => exact .inr rfl
    | some v =>
      refine (resS_le C s l _ k).trans bot (.inr ?_)
      cases l.mapM (resultAV C s) with
      | none => rfl
      | some vs => simp
def pickS (k : AV → R) : List AV → R
  | [v] => k v
  | vs => cond (vs.all AV.plain) (k (.tuple vs)) bot
theorem pickS_le (k : AV → R) (vs : List AV) : Le bot (pickS bot k vs) (k (pickAV vs)) := by
  unfold pickS
  split
  · exact .inr rfl
  · rename_i vs hne
    refine cond_le bot fun h => .inr ?_
    have : ∀ l : List AV, l.all AV.plain = true → l.map (fun v => if v.plain then v else .bad) = l := by
      intro l hl
      induction l with
      | nil => rfl
      | cons a l ih =>
        simp only [List.all_cons, Bool.and_eq_true] at hl
        simp only [List.map_cons, hl.1, if_true, ih hl.2]
    unfold pickAV
    split
    · rename_i v
      exact absurd rfl (hne v)
    · rw [this _ h]
def finS (C : Ctx) (fn : Func) (n0 : Nat) (k : AV → Heap → Bool → R) : Ex → St → R := fun e s => match e with
  | .exit _ => bot
  | _ => resS bot C s fn.results.toList [] fun vs => pickS bot (fun v => cond v.okS ((sweep s.H n0 v.refsS s.esc).elim bot fun H' => k v H' s.esc) bot) vs
theorem finS_le (C : Ctx) (fn : Func) (n0 : Nat) (k : AV → Heap → Bool → R) (e : Ex) (s : St) : Le bot (finS bot C fn n0 k e s) (finK bot C fn n0 k e s) := by
  have h : Le bot (resS bot C s fn.results.toList [] fun vs => pickS bot (fun v => cond v.okS ((sweep s.H n0 v.refsS s.esc).elim bot fun H' => k v H' s.esc) bot) vs)
      ((fn.results.toList.mapM (resultAV C s)).elim bot fun vs => (sweep s.H n0 (pickAV vs).refs s.esc).elim bot fun H' => k (pickAV vs) H' s.esc) := by
    refine (resS_le bot C s _ _ _).trans bot (Le.elim bot fun vs => ?_)
    rw [List.nil_append]
    refine (pickS_le bot _ vs).trans bot ?_
    refine cond_le bot fun hr => .inr ?_
    rw [((okS_both id).1 _ hr).2]
  cases e with
  | exit i => exact .inl rfl
  | normal => exact h
  | ret => exact h
def evalFS (P : Program) (U : Out) (ann : FuncId → FAnn) (fuel : Nat) (K : Oracle) (KK : OracleK R) : OracleK R := fun f args H k =>
  match P.funcs[f]? with
  | some fn => match fn.body with
    | some c =>
      let C : Ctx := ⟨P, K, H.length, max fn.ntmps args.length, ann f, U, noY, evalI P U ann fuel K⟩
      evalCK bot true C KK fuel 0 c ⟨initL C.A.keys args, [], H, false⟩ (finS bot C fn H.length k)
    | none => bot
  | none => bot
theorem evalFS_le {P : Program} {U : Out} {ann : FuncId → FAnn} {fuel : Nat} {K : Oracle} {KK : OracleK R} (hK : ∀ f args H k, Le bot (KK f args H k) (KOf bot K f args H k)) (f : FuncId) (args : List AV) (H : Heap) (k : AV → Heap → Bool → R) :
    Le bot (evalFS bot P U ann fuel K KK f args H k) ((evalF P U ann fuel K f args H).elim bot fun r => k r.1 r.2.1 r.2.2) := by
  unfold evalFS evalF evalG
  cases hf : P.funcs[f]? with
  | none => exact .inl rfl
  | some fn =>
    simp only [Option.bind_some]
    cases hb : fn.body with
    | none => exact .inl rfl
    | some c =>
      simp only [Option.bind_some]
      refine (evalCK_le bot true (C := ⟨P, K, H.length, max fn.ntmps args.length, ann f, U, noY, evalI P U ann fuel K⟩) hK fuel c 0 _ _).trans bot ?_
      cases evalC ⟨P, K, H.length, max fn.ntmps args.length, ann f, U, noY, evalI P U ann fuel K⟩ fuel 0 c ⟨initL (ann f).keys args, [], H, false⟩ with
      | none => exact .inl rfl
      | some x =>
        obtain ⟨e, s2⟩ := x
        refine (finS_le bot _ _ _ _ _ _).trans bot ?_
        cases e with
        | exit i => exact .inl rfl
        | normal =>
          simp only [Option.bind_some, finK]
          right
          cases fn.results.toList.mapM (resultAV ⟨P, K, H.length, max fn.ntmps args.length, ann f, U, noY, evalI P U ann fuel K⟩ s2) with
          | none => rfl
          | some vs =>
            simp only [Option.elim_some, Option.bind_some]
            cases sweep s2.H H.length (pickAV vs).refs s2.esc <;> rfl
        | ret =>
          simp only [Option.bind_some, finK]
          right
          cases fn.results.toList.mapM (resultAV ⟨P, K, H.length, max fn.ntmps args.length, ann f, U, noY, evalI P U ann fuel K⟩ s2) with
          | none => rfl
          | some vs =>
            simp only [Option.elim_some, Option.bind_some]
            cases sweep s2.H H.length (pickAV vs).refs s2.esc <;> rfl
def outsS (g : Nat → Nat) (B : Heap → Heap) (k : AV → Heap → Bool → R) : Outs → R
  | [] => bot
  | (b, v, H, e) :: l => cond b (cond v.okS (k (v.renS g) (B H) e) bot) (outsS g B k l)
theorem outsS_le (g : Nat → Nat) (B : Heap → Heap) (k : AV → Heap → Bool → R) : ∀ l : Outs, Le bot (outsS bot g B k l) (outsK bot (fun v H1 e => k (v.ren g) (B H1) e) l)
  | [] => .inl rfl
  | (b, v, H, e) :: l => by
    unfold outsS outsK
    cases b with
    | false => exact outsS_le g B k l
    | true =>
      refine cond_le bot fun hv => .inr ?_
      rw [((okS_both g).1 _ hv).1]
      rfl
def memS (t : List AV → Heap → Option Outs) : List AV → Heap → (AV → Heap → Bool → R) → R := fun args H k => cond (okSL args) (match (reach H 0 1000 (refsSL args) []).map List.reverse with
  | some p => match t (renSL (idx p) args) (pieceH p H) with
    | some l => outsS bot (backN p H.length) (backH p H) k l
    | none => bot
  | none => bot) bot
theorem memS_le (t : List AV → Heap → Option Outs) (args : List AV) (H : Heap) (k : AV → Heap → Bool → R) : Le bot (memS bot t args H k) (memK bot t args H k) := by
  unfold memS memK pieceOf
  refine cond_le bot fun h => ?_
  rw [((okS_both id).2 _ h).2]
  cases (reach H 0 1000 (refsL args) []).map List.reverse with
  | none => exact .inl rfl
  | some p =>
    simp only
    rw [((okS_both (idx p)).2 _ h).1]
    cases t (renL (idx p) args) (pieceH p H) with
    | none => exact .inl rfl
    | some l => exact outsS_le bot _ _ k l
/-- The evaluator handing on, with both tables; calls and results in the symbolic way. -/
def evalMS (P : Program) (U : Out) (ann : FuncId → FAnn) (fuel : Nat) (T : Table) (M : MTab) : Nat → OracleK R
  | 0 => fun _ _ _ _ => bot
  | n + 1 => fun f args H k => match T f with
    | some t => snapLK bot H args fun xs => match t xs with
      | some (b, v) => cond b (k v H false) bot
      | none => bot
    | none => match M f with
      | some t => memS bot t args H k
      | none => evalFS bot P U ann fuel (evalN P U ann fuel (both T M) n) (evalMS P U ann fuel T M n) f args H k
theorem evalMS_le {P : Program} {U : Out} {ann : FuncId → FAnn} {fuel : Nat} {T : Table} {M : MTab} : ∀ (n : Nat) (f : FuncId) (args : List AV) (H : Heap) (k : AV → Heap → Bool → R),
    Le bot (evalMS bot P U ann fuel T M n f args H k) (KOf bot (evalN P U ann fuel (both T M) n) f args H k)
  | 0, f, args, H, k => .inl rfl
  | n + 1, f, args, H, k => by
    show Le bot (match T f with
      | some t => snapLK bot H args fun xs => match t xs with
        | some (b, v) => cond b (k v H false) bot
        | none => bot
      | none => match M f with
        | some t => memS bot t args H k
        | none => evalFS bot P U ann fuel (evalN P U ann fuel (both T M) n) (evalMS bot P U ann fuel T M n) f args H k) _
    have hM' := evalMK_le (R := R) bot (P := P) (U := U) (ann := ann) (fuel := fuel) (T := T) (M := M) (n + 1) f args H k
    unfold evalMK at hM'
    cases hT : T f with
    | some t => rw [hT] at hM'; exact hM'
    | none =>
      rw [hT] at hM'
      simp only at hM' ⊢
      cases hM : M f with
      | some t =>
        rw [hM] at hM'
        exact (memS_le bot t args H k).trans bot hM'
      | none =>
        simp only
        have hn : both T M f args H = none := by
          unfold both
          have hp : pureK (kOf T) f args H = none := by
            unfold pureK kOf
            rw [hT]
            cases snapL H args <;> rfl
          rw [hp]
          simp only
          unfold locF mOf
          rw [hM]
          cases pieceOf H args <;> rfl
        refine (evalFS_le bot (evalMS_le n) f args H k).trans bot (.inr ?_)
        show _ = (match both T M f args H with | some r => some r | none => evalF P U ann fuel (evalN P U ann fuel (both T M) n) f args H).elim bot fun r => k r.1 r.2.1 r.2.2
        rw [hn]
end
theorem evalN_of_S {P : Program} {U : Out} {ann : FuncId → FAnn} {fuel n : Nat} {T : Table} {M : MTab} {f : FuncId} {args : List AV} {H : Heap} {r : AV × Heap × Bool}
    (h : evalMS none P U ann fuel T M n f args H (fun v H e => some (v, H, e)) = some r) : evalN P U ann fuel (both T M) n f args H = some r := by
  rcases evalMS_le (R := Option (AV × Heap × Bool)) none (P := P) (U := U) (ann := ann) (fuel := fuel) (T := T) (M := M) n f args H (fun v H e => some (v, H, e)) with h1 | h1
  · rw [h] at h1; cases h1
  · rw [h] at h1
    unfold KOf at h1
    cases hx : evalN P U ann fuel (both T M) n f args H with
    | none => rw [hx] at h1; cases h1
    | some x => rw [hx] at h1; exact h1.symm
theorem run_of_trueS {P : Program} {U : Out} {ann : FuncId → FAnn} {fuel n : Nat} {T : Table} {M : MTab} {f : FuncId} {args : List AV} {H : Heap}
    (h : evalMS false P U ann fuel T M n f args H (fun v _ _ => v.isTrue) = true) : ∃ H' e, evalN P U ann fuel (both T M) n f args H = some (.bool true, H', e) := by
  rcases evalMS_le (R := Bool) false (P := P) (U := U) (ann := ann) (fuel := fuel) (T := T) (M := M) n f args H (fun v _ _ => v.isTrue) with h1 | h1
  · rw [h] at h1; cases h1
  rw [h1] at h
  unfold KOf at h
  cases hx : evalN P U ann fuel (both T M) n f args H with
  | none => rw [hx] at h; simp at h
  | some r =>
    obtain ⟨v, H', e⟩ := r
    rw [hx] at h
    simp only [Option.elim_some] at h
    cases v <;> simp only [AV.isTrue, reduceCtorEq] at h
    subst h
    exact ⟨H', e, rfl⟩
theorem MemTab.addReadS {P : Program} {U : Out} {ann : FuncId → FAnn} {fuel n : Nat} {T : Table} {M : MTab} (hT : MemTab P U T M) (hX : ∀ B, ExtSound P B U.X) (hm : P.follows .mixedOrders = true) (hA : ∀ f, funcOk P (ann f) f = true)
    {g : FuncId} {ι : Type} (S : Fam ι) (v : List AV → Heap → AV) (h : ∀ i, S.pre i → evalMS Option.none P U ann fuel T M n g (S.A i) (S.HH i) (fun v H e => some (v, H, e)) = some (v (S.A i) (S.HH i), S.HH i, false)) :
    MemTab P U T (fun f => if f = g then some (S.entryV v) else M f) :=
  hT.addMem hX hm hA (fun args H r he => by
    obtain ⟨i, hp, rfl, rfl, rfl⟩ := S.entryV_true he
    exact evalN_of_S (h i hp))
theorem MemTab.addWriteS {P : Program} {U : Out} {ann : FuncId → FAnn} {fuel n : Nat} {T : Table} {M : MTab} (hT : MemTab P U T M) (hX : ∀ B, ExtSound P B U.X) (hm : P.follows .mixedOrders = true) (hA : ∀ f, funcOk P (ann f) f = true)
    {g : FuncId} {ι : Type} (S : Fam ι) (v : List AV → Heap → AV) (w : List AV → Heap → Heap) (h : ∀ i, S.pre i → evalMS Option.none P U ann fuel T M n g (S.A i) (S.HH i) (fun v H e => some (v, H, e)) = some (v (S.A i) (S.HH i), w (S.A i) (S.HH i), false)) :
    MemTab P U T (fun f => if f = g then some (S.entryW v w) else M f) :=
  hT.addMem hX hm hA (fun args H r he => by
    obtain ⟨i, hp, rfl, rfl, rfl⟩ := S.entryW_true he
    exact evalN_of_S (h i hp))
end Go.X
/-
  A function with a loop, told by the run handed on: its call.
-/
namespace Go.X
open Classical
theorem evalN_of_FS {P : Program} {U : Out} {ann : FuncId → FAnn} {fuel n : Nat} {T : Table} {M : MTab} {f : FuncId} {args : List AV} {H : Heap} {r : AV × Heap × Bool} (hT : T f = none) (hM : M f = none)
    (h : evalFK none true P U ann fuel (evalN P U ann fuel (both T M) n) (evalMS none P U ann fuel T M n) f args H (fun v H e => some (v, H, e)) = some r) : evalN P U ann fuel (both T M) (n + 1) f args H = some r := by
  have hn : both T M f args H = none := by
    unfold both
    have hp : pureK (kOf T) f args H = none := by
      unfold pureK kOf
      rw [hT]
      cases snapL H args <;> rfl
    rw [hp]
    simp only
    unfold locF mOf
    rw [hM]
    cases pieceOf H args <;> rfl
  have hl := evalFK_le (R := Option (AV × Heap × Bool)) none true (P := P) (U := U) (ann := ann) (fuel := fuel) (KK := evalMS none P U ann fuel T M n) (evalMS_le none n) f args H (fun v H e => some (v, H, e))
  show (match both T M f args H with | some r => some r | none => evalF P U ann fuel (evalN P U ann fuel (both T M) n) f args H) = some r
  rw [hn]
  simp only
  rcases hl with h1 | h1
  · rw [h] at h1; cases h1
  · rw [h] at h1
    unfold KOf at h1
    cases he : evalF P U ann fuel (evalN P U ann fuel (both T M) n) f args H with
    | none => rw [he] at h1; cases h1
    | some x => rw [he] at h1; simpa using h1.symm
/-- Of two tables, function by function. -/
theorem MemTab.pick {P : Program} {U : Out} {T : Table} {Ma Mb : MTab} (ha : MemTab P U T Ma) (hb : MemTab P U T Mb) (g : FuncId) : MemTab P U T (fun f => if f = g then Ma f else Mb f) := by
  refine ⟨ha.pure, fun B f args H v H' e hx => ?_⟩
  by_cases hc : f = g
  · refine ha.mem B f args H v H' e ?_
    rw [← hx]
    unfold mOf
    simp only [if_pos hc]
  · refine hb.mem B f args H v H' e ?_
    rw [← hx]
    unfold mOf
    simp only [if_neg hc]
/-- A function of a family, with two outcomes told by a test. -/
theorem MemTab.addTwo {P : Program} {U : Out} {ann : FuncId → FAnn} {fuel n : Nat} {T : Table} {M : MTab} (hT : MemTab P U T M) (hX : ∀ B, ExtSound P B U.X) (hm : P.follows .mixedOrders = true) (hA : ∀ f, funcOk P (ann f) f = true)
    {g : FuncId} {ι : Type} (S : Fam ι) (c : List AV → Heap → Bool) (v1 v2 : List AV → Heap → AV) (w1 w2 : List AV → Heap → Heap)
    (h : ∀ i, S.pre i → evalN P U ann fuel (both T M) n g (S.A i) (S.HH i) = some (match c (S.A i) (S.HH i) with | true => (v1 (S.A i) (S.HH i), w1 (S.A i) (S.HH i), false) | false => (v2 (S.A i) (S.HH i), w2 (S.A i) (S.HH i), false))) :
    MemTab P U T (fun f => if f = g then some (fun args H => some [(S.tst args H && c args H, v1 args H, w1 args H, false), (S.tst args H, v2 args H, w2 args H, false)]) else M f) :=
  hT.addMem (n := n) hX hm hA (fun args H r he => by
    simp only [Option.bind_some] at he
    cases ht : S.tst args H with
    | false => rw [ht] at he; simp [pickO] at he
    | true =>
      obtain ⟨i, hp, rfl, rfl⟩ := of_decide_eq_true ht
      rw [h i hp]
      rw [ht] at he
      cases hc : c (S.A i) (S.HH i) with
      | true => rw [hc] at he; simpa [pickO] using he
      | false => rw [hc] at he; simpa [pickO] using he)
end Go.X
/-
  Runs that end in a statement: from the statement that a run hands back, that there is a result of which it holds. Loads and stores are asked for by place and type alone.
-/
namespace Go.X

theorem Le.imp {a b : Prop} (h : Le False a b) : a → b := fun ha => by
  rcases h with h | h
  · exact (h ▸ ha : False).elim
  · exact h ▸ ha

/-! ### Places -/
/-- The flat offset of a place. -/
def coffOf : AV → List Nat → Nat
  | .agg _ ps, i :: r => sumLen (ps.take i) + coffOf ((ps[i]?).getD .bad) r
  | .arr e xs, i :: r => e * i + coffOf ((xs[i]?).getD .bad) r
  | _, _ => 0
/-- Is there such a place? -/
def inAt : AV → List Nat → Bool
  | _, [] => true
  | .agg _ ps, i :: r => decide (i < ps.length) && inAt ((ps[i]?).getD .bad) r
  | .arr _ xs, i :: r => decide (i < xs.length) && inAt ((xs[i]?).getD .bad) r
  | _, _ :: _ => false
theorem at_of_in : ∀ (path : List Nat) (v : AV), inAt v path = true → v.at? path = some (coffOf v path, projT path v)
  | [], v, _ => by cases v <;> rfl
  | i :: r, v, h => by
    cases v <;> simp only [inAt, Bool.false_eq_true, Bool.and_eq_true, decide_eq_true_eq] at h
    · rename_i n ps
      have hx : ps[i]? = some ps[i] := List.getElem?_eq_getElem h.1
      have ih := at_of_in r _ h.2
      simp only [AV.at?, coffOf, projT, AV.elem]
      rw [hx] at ih ⊢
      simp only [Option.getD_some, Option.bind_some] at ih ⊢
      rw [ih]
      rfl
    · rename_i e xs
      have hx : xs[i]? = some xs[i] := List.getElem?_eq_getElem h.1
      have ih := at_of_in r _ h.2
      simp only [AV.at?, coffOf, projT, AV.elem]
      rw [hx] at ih ⊢
      simp only [Option.getD_some, Option.bind_some] at ih ⊢
      rw [ih]
      rfl
theorem put_of_in : ∀ (path : List Nat) (v u : AV), inAt v path = true → (projT path v).flatLen = u.flatLen → v.put? path u = some (putT path v u)
  | [], v, u, _, hl => by
    have hl' : v.flatLen = u.flatLen := hl
    cases v <;> simp only [AV.put?, putT, if_pos hl']
  | i :: r, v, u, h, hl => by
    cases v <;> simp only [inAt, Bool.false_eq_true, Bool.and_eq_true, decide_eq_true_eq] at h
    · rename_i n ps
      have hx : ps[i]? = some ps[i] := List.getElem?_eq_getElem h.1
      simp only [projT, AV.elem] at hl
      have ih := put_of_in r _ u h.2 hl
      simp only [AV.put?, putT, AV.elem, setElem]
      rw [hx] at ih ⊢
      simp only [Option.getD_some, Option.bind_some] at ih ⊢
      rw [ih]
      rfl
    · rename_i e xs
      have hx : xs[i]? = some xs[i] := List.getElem?_eq_getElem h.1
      simp only [projT, AV.elem] at hl
      have ih := put_of_in r _ u h.2 hl
      simp only [AV.put?, putT, AV.elem, setElem]
      rw [hx] at ih ⊢
      simp only [Option.getD_some, Option.bind_some] at ih ⊢
      rw [ih]
      rfl
/-- A place that is what a pointer says: of so many cells. -/
def okPl (root : AV) (path : List Nat) (coff gen n : Nat) : Bool := decide (root.flatLen = gen) && (decide (coffOf root path = coff) && (inAt root path && decide ((projT path root).flatLen = n)))
/-- .. and of this shape. -/
def okAt (root : AV) (path : List Nat) (coff gen : Nat) (a : Bool) (n : Nat) : Bool := okPl root path coff gen n && ((projT path root).isAgg == a)
theorem okPl_iff {root : AV} {path : List Nat} {coff gen n : Nat} : okPl root path coff gen n = true ↔ root.flatLen = gen ∧ coffOf root path = coff ∧ inAt root path = true ∧ (projT path root).flatLen = n := by simp [okPl]
theorem okAt_iff {root : AV} {path : List Nat} {coff gen n : Nat} {a : Bool} : okAt root path coff gen a n = true ↔ okPl root path coff gen n = true ∧ (projT path root).isAgg = a := by simp [okAt]

/-! ### Values laid open -/
/-- An array of numbers of a kind. -/
def AV.isArrI : AV → Nat → IntKind → Bool
  | .arr e xs, n, k => e == 1 && (xs.length == n && xs.all fun x => x.isIntK k)
  | _, _, _ => false
/-- Its numbers, laid open. -/
def arI (k : IntKind) (n : Nat) (v : AV) : List AV := (List.range n).map fun i => .int k (v.elem i).toInt
theorem arI_of {v : AV} {n : Nat} {k : IntKind} (h : v.isArrI n k = true) : v = .arr 1 (arI k n v) := by
  cases v <;> simp only [AV.isArrI, Bool.false_eq_true, Bool.and_eq_true, beq_iff_eq] at h
  rename_i e xs
  obtain ⟨rfl, rfl, hall⟩ := h
  congr 1
  apply List.ext_getElem
  · simp [arI]
  · intro i h1 h2
    have hx := List.all_eq_true.1 hall xs[i] (List.getElem_mem h1)
    simp only [arI, List.getElem_map, List.getElem_range, AV.elem, List.getElem?_eq_getElem h1, Option.getD_some]
    cases hxi : xs[i] <;> rw [hxi] at hx <;> simp only [AV.isIntK, beq_iff_eq, Bool.false_eq_true] at hx
    subst hx
    rfl

/-- A value of a type without pointers, laid open. -/
def openP (P : Program) : Nat → TypeId → AV → (AV → Prop) → Prop
  | 0, _, v, k => k v
  | d + 1, t, v, k => match P.underlying t with
    | some (.int i) => cond (v.isIntK i) (k (.int i v.toInt)) False
    | some .bool => cond v.isBoolV (k (.bool v.toBool)) False
    | some (.array n e) => match thasp P e, P.underlying e, tsize P e with
      | false, some (.int i), _ => cond (v.isArrI n i) (k (.arr 1 (arI i n v))) False
      | false, _, some sz => cond (v.isArrN sz n) (k (.arr sz v.toArr)) False
      | _, _, _ => k v
    | some (.struct fs) => match thasp P t, tsize P t with
      | false, some n => cond (v.isAggN n fs.toList.length) (openL (openP P d) fs.toList 0 v fun ps => k (.agg n ps)) False
      | _, _ => k v
    | _ => k v

theorem openL_imp {e : TypeId → AV → (AV → Prop) → Prop} (he : ∀ t v k, e t v k → k v) (v : AV) : ∀ (l : List Field) (i : Nat) (k : List AV → Prop),
    openL e l i v k → k ((List.range' i l.length).map v.part)
  | [], i, k, h => h
  | f :: r, i, k, h => by
    unfold openL at h
    have h1 := he _ _ _ h
    have h2 := openL_imp he v r (i + 1) _ h1
    simpa only [List.length_cons, List.range'_succ, List.map_cons] using h2

theorem cond_imp {c : Bool} {a : Prop} (h : cond c a False) : c = true ∧ a := by
  cases c
  · exact h.elim
  · exact ⟨rfl, h⟩

theorem openP_imp (P : Program) : ∀ (d : Nat) (t : TypeId) (v : AV) (k : AV → Prop), openP P d t v k → k v
  | 0, t, v, k, h => h
  | d + 1, t, v, k, h => by
    unfold openP at h
    split at h
    · rename_i i hu
      obtain ⟨hv, h⟩ := cond_imp h
      cases v <;> simp only [AV.isIntK, beq_iff_eq, Bool.false_eq_true] at hv
      subst hv
      exact h
    · obtain ⟨hv, h⟩ := cond_imp h
      cases v <;> simp only [AV.isBoolV, Bool.false_eq_true] at hv
      exact h
    · split at h
      · obtain ⟨hv, h⟩ := cond_imp h
        rw [arI_of hv]
        exact h
      · obtain ⟨hv, h⟩ := cond_imp h
        cases v <;> simp only [AV.isArrN, Bool.and_eq_true, beq_iff_eq, Bool.false_eq_true] at hv
        obtain ⟨rfl, _⟩ := hv
        exact h
      · exact h
    · rename_i fs hu
      split at h
      · rename_i n hn hsz
        obtain ⟨hv, h⟩ := cond_imp h
        clear hsz
        have hex : ∃ ps, v = .agg n ps ∧ ps.length = fs.toList.length := by
          cases v <;> simp only [AV.isAggN, Bool.and_eq_true, beq_iff_eq, Bool.false_eq_true] at hv
          obtain ⟨rfl, hl⟩ := hv
          exact ⟨_, rfl, hl⟩
        obtain ⟨ps, rfl, hl⟩ := hex
        have h2 := openL_imp (fun t v k => openP_imp P d t v k) _ fs.toList 0 _ h
        refine Eq.mp (congrArg k ?_) h2
        congr 1
        apply List.ext_getElem?
        intro i
        rw [List.getElem?_map]
        rcases Nat.lt_or_ge i ps.length with hi | hi
        · rw [List.getElem?_range' (by omega)]
          simp [AV.part, hi]
        · rw [List.getElem?_eq_none (by simpa using (by omega : fs.toList.length ≤ i)), List.getElem?_eq_none hi]
          rfl
      · exact h
    · exact h

/-! ### Loads and stores -/
def loadP (P : Program) (H : Heap) (t : TypeId) (a : AV) (k : AV → Prop) : Prop := match a with
  | .ptr p => (H.blk p.id).elim False fun b => match tagg P t, tsize P t with
    | some g, some n => cond (okAt b.root p.path p.coff p.gen g n) (match thasp P t with
      | false => openP P 4 t (projT p.path b.root) k
      | true => k (projT p.path b.root)) False
    | _, _ => False
  | a => (loadAV P H t a).elim False k

theorem loadP_imp {P : Program} {H : Heap} {t : TypeId} {a : AV} {k : AV → Prop} (h : loadP P H t a k) : (loadAV P H t a).elim False k := by
  unfold loadP at h
  split at h
  · rename_i p
    cases hb : H.blk p.id with
    | none => rw [hb] at h; exact h.elim
    | some b =>
      rw [hb] at h
      simp only [Option.elim_some] at h
      split at h
      · rename_i g n hg hn
        obtain ⟨hc, h⟩ := cond_imp h
        rw [okAt_iff, okPl_iff] at hc
        obtain ⟨⟨h1, h2, h3, h4⟩, h5⟩ := hc
        have : loadAV P H t (.ptr p) = some (projT p.path b.root) := by
          simp only [loadAV, hb, Option.bind_some, at_of_in _ _ h3, h1, h2, hg, hn, h4, h5]
          simp
        rw [this]
        split at h
        · exact openP_imp P 4 t _ k h
        · exact h
      · exact h.elim
  · exact h

/-- An element of a row that lies in a block of its own is laid anew: the row that comes of it has a name. -/
def putP (b : Blk) (path : List Nat) (v : AV) (k : AV → Prop) : Prop := match b.grow, b.root, path with
  | true, .arr e xs, i :: r => ∀ ys, ys = xs.set i (putT r ((xs[i]?).getD .bad) v) → k (.arr e ys)
  | _, root, path => k (putT path root v)
theorem putP_imp {b : Blk} {path : List Nat} {v : AV} {k : AV → Prop} (h : putP b path v k) : k (putT path b.root v) := by
  unfold putP at h
  split at h
  · rename_i e xs i r hr hp
    rw [hp]
    have := h _ rfl
    simpa only [putT, setElem, AV.elem] using this
  · rename_i root path' _ _
    exact h

def storeP (P : Program) (n0 : Nat) (H : Heap) (t : TypeId) (a v : AV) (k : Heap → Bool → Prop) : Prop := match a with
  | .ptr p => (H.blk p.id).elim False fun b => match tsize P t with
    | some n => cond (decide (v.flatLen = n) && v.plain) (cond (okPl b.root p.path p.coff p.gen n) (match thasp P t with
      | false => cond v.refless (putP b p.path v fun r => k (H.set p.id (some ⟨r, b.grow, b.flat⟩)) false) False
      | true => putP b p.path v fun r => k (H.set p.id (some ⟨r, b.grow, b.flat && v.refless⟩)) (storeFlag n0 (.ptr p) v)) False) False
    | none => False
  | _ => False

theorem storeP_imp {P : Program} {n0 : Nat} {H : Heap} {t : TypeId} {a v : AV} {k : Heap → Bool → Prop} (h : storeP P n0 H t a v k) : (storeAV P H t a v).elim False fun H' => k H' (storeFlag n0 a v) := by
  unfold storeP at h
  split at h
  · rename_i p
    cases hb : H.blk p.id with
    | none => rw [hb] at h; exact h.elim
    | some b =>
      rw [hb] at h
      simp only [Option.elim_some] at h
      split at h
      · rename_i n hn
        obtain ⟨hv, h⟩ := cond_imp h
        obtain ⟨hc, h⟩ := cond_imp h
        simp only [Bool.and_eq_true, decide_eq_true_eq] at hv
        obtain ⟨h1, h2, h3, h4⟩ := okPl_iff.1 hc
        have hs : storeAV P H t (.ptr p) v = some (H.set p.id (some ⟨putT p.path b.root v, b.grow, b.flat && v.refless⟩)) := by
          simp only [storeAV, hb, Option.bind_some, at_of_in _ _ h3, put_of_in _ _ _ h3 (h4.trans hv.1.symm), h1, h2, hn, hv.1, hv.2]
          simp
        rw [hs]
        split at h
        · obtain ⟨hr, h⟩ := cond_imp h
          have hfl : storeFlag n0 (.ptr p) v = false := by simp [storeFlag, escapes, hr]
          simp only [Option.elim_some, hfl, hr, Bool.and_true]
          exact putP_imp (k := fun r => k (H.set p.id (some ⟨r, b.grow, b.flat⟩)) false) h
        · exact putP_imp (k := fun r => k (H.set p.id (some ⟨r, b.grow, b.flat && v.refless⟩)) (storeFlag n0 (.ptr p) v)) h
      · exact h.elim
  · exact h.elim

/-- '==', where what comes of it has a name. -/
def eqP (P : Program) (o : BinOp) (t : TypeId) (x y : Operand) (a b : AV) (k : AV → Prop) : Prop := match a.scalar, b.scalar with
  | some cx, some cy => (scalBin P o t cx cy).elim False k
  | none, none => if a.isAgg && P.eqGuardType P.depth t then False else match o with
    | .eql => cond (eqNil P t x y a b).isSome (k (.bool ((eqNil P t x y a b).getD false))) False
    | .neq => cond (eqNil P t x y a b).isSome (k (.bool !((eqNil P t x y a b).getD false))) False
    | _ => False
  | _, _ => False
theorem eqP_imp {P : Program} {o : BinOp} {t : TypeId} {x y : Operand} {a b : AV} {k : AV → Prop} (h : eqP P o t x y a b k) : eqS False P o t x y a b k := by
  unfold eqP at h
  unfold eqS
  split at h
  · rename_i hx hy
    simp only [hx, hy]
    exact h
  · rename_i hx hy
    simp only [hx, hy]
    split at h
    · exact h.elim
    · rename_i hg
      rw [if_neg hg]
      split at h
      · obtain ⟨hs, h⟩ := cond_imp h
        obtain ⟨r, hr⟩ := Option.isSome_iff_exists.1 hs
        rw [hr] at h ⊢
        exact h
      · obtain ⟨hs, h⟩ := cond_imp h
        obtain ⟨r, hr⟩ := Option.isSome_iff_exists.1 hs
        rw [hr] at h ⊢
        exact h
      · exact h.elim
  · exact h.elim

/-! ### Slices of arrays, and what is copied -/
theorem isArrN_of {v : AV} {sz n : Nat} (h : v.isArrN sz n = true) : ∃ xs, v = .arr sz xs ∧ xs.length = n := by
  cases v <;> simp only [AV.isArrN, Bool.and_eq_true, beq_iff_eq, Bool.false_eq_true] at h
  obtain ⟨rfl, h⟩ := h
  exact ⟨_, rfl, h⟩
def sliceP (P : Program) (H : Heap) (t : TypeId) (x : AV) (lo hi : Option AV) (k : AV → Prop) : Prop := match P.underlying t, x with
  | some (.array n e), .ptr p => (tsize P e).elim False fun sz => bndK False n hi fun h => bndK False 0 lo fun l => (H.blk p.id).elim False fun b =>
      cond (decide (l ≤ h) && decide (h ≤ n)) (cond (okPl b.root p.path p.coff p.gen (sz * n) && (projT p.path b.root).isArrN sz n) (k (.sl p sz n l (h - l))) False) False
  | _, _ => sliceS False P H t x lo hi k
theorem sliceP_imp {P : Program} {H : Heap} {t : TypeId} {x : AV} {lo hi : Option AV} {k : AV → Prop} (h : sliceP P H t x lo hi k) : (sliceAV P H t x lo hi).elim False k := by
  unfold sliceP at h
  split at h
  · rename_i n e p hu
    unfold sliceAV
    simp only [hu]
    cases hsz : tsize P e with
    | none => rw [hsz] at h; exact h.elim
    | some sz =>
      rw [hsz] at h
      simp only [Option.elim_some, Option.bind_some] at h ⊢
      have h1 := (bndK_le False n hi _).imp h
      cases hh : bnd n hi with
      | none => rw [hh] at h1; exact h1.elim
      | some hv =>
        rw [hh] at h1
        simp only [Option.elim_some, Option.bind_some] at h1 ⊢
        have h2 := (bndK_le False 0 lo _).imp h1
        cases hl : bnd 0 lo with
        | none => rw [hl] at h2; exact h2.elim
        | some lv =>
          rw [hl] at h2
          simp only [Option.elim_some, Option.bind_some] at h2 ⊢
          cases hb : H.blk p.id with
          | none => rw [hb] at h2; exact h2.elim
          | some b =>
            rw [hb] at h2
            simp only [Option.elim_some, Option.bind_some] at h2 ⊢
            obtain ⟨c1, h2⟩ := cond_imp h2
            obtain ⟨c2, h2⟩ := cond_imp h2
            simp only [Bool.and_eq_true, decide_eq_true_eq] at c1 c2
            obtain ⟨c3, c4⟩ := c2
            obtain ⟨d1, d2, d3, d4⟩ := okPl_iff.1 c3
            obtain ⟨xs, hx, hxl⟩ := isArrN_of c4
            rw [at_of_in _ _ d3]
            simp only [Option.bind_some, hx]
            simp only [c1.1, c1.2, d1, d2, hxl, and_self, if_true]
            exact h2
  · exact (sliceS_le False P H t _ lo hi k).imp h
theorem setMany_length {xs vs : List AV} {off : Nat} (h : off + vs.length ≤ xs.length) : (setMany xs off vs).length = xs.length := by
  unfold setMany
  simp
  omega
/-- What is laid over a whole row has a name. -/
def overP (b : Blk) (path : List Nat) (sz : Nat) (ys : List AV) (k : AV → Prop) : Prop := match b.grow, path with
  | true, [] => ∀ zs, zs = ys → k (.arr sz zs)
  | _, path => k (putT path b.root (.arr sz ys))
theorem overP_imp {b : Blk} {path : List Nat} {sz : Nat} {ys : List AV} {k : AV → Prop} (h : overP b path sz ys k) : k (putT path b.root (.arr sz ys)) := by
  unfold overP at h
  split at h
  · exact h _ rfl
  · exact h
def copyP (C : Ctx) (H : Heap) (t : TypeId) (d y : AV) (k : AV → Heap → Bool → Prop) : Prop := match C.P.underlying t with
  | some (.slice e) => match thasp C.P e, d with
    | false, .sl p e' n off len => (tsize C.P e).elim False fun sz => srcS False H sz y fun xs => (H.blk p.id).elim False fun b =>
        cond (decide (e' = sz) && b.flat) (cond (decide (off + len ≤ n)) (cond (xs.all (fun u => u.flatLen == sz) && reflessL xs) (cond (okPl b.root p.path p.coff p.gen (sz * n) && (projT p.path b.root).isArrN sz n)
          (overP b p.path sz (setMany (projT p.path b.root).toArr off (xs.take (min xs.length len))) fun r => k (.int .i64 ((min xs.length len : Nat) : Int)) (H.set p.id (some ⟨r, b.grow, true⟩)) false) False) False) False) False
    | _, _ => copyS False C H t d y k
  | _ => False
theorem srcS_mono {H : Heap} {sz : Nat} {y : AV} {k k' : List AV → Prop} (hk : ∀ xs, k xs → k' xs) (h : srcS False H sz y k) : srcS False H sz y k' := by
  unfold srcS at h ⊢
  split at h
  · split at h
    · rename_i hc
      rw [if_pos hc]
      exact hk _ h
    · exact h.elim
  · unfold elemsK at h ⊢
    split at h
    · exact hk _ h
    · split at h
      · rename_i hc
        rw [if_pos hc]
        exact hk _ h
      · exact h.elim
    · rename_i p e n off len
      split at h
      · rename_i b hb
        split at h
        · rename_i x hx
          split at h
          · rename_i e' xs hx2
            split at h
            · rename_i hc
              rw [if_pos hc]
              obtain ⟨c1, h⟩ := cond_imp h
              obtain ⟨c2, h⟩ := cond_imp h
              obtain ⟨c3, h⟩ := cond_imp h
              obtain ⟨c4, h⟩ := cond_imp h
              rw [c1, c2, c3, c4]
              exact hk _ h
            · exact h.elim
          · exact h.elim
        · exact h.elim
      · exact h.elim
    · exact h.elim
theorem srcS_or {H : Heap} {sz : Nat} {y : AV} {xs : List AV} {k : List AV → Prop} (hx : srcAV H sz y = some xs) (h : srcS False H sz y k) : srcS False H sz y fun xs' => xs' = xs ∧ k xs' := by
  unfold srcS at h ⊢
  unfold srcAV at hx
  split at h
  · split at h
    · rename_i hc
      rw [if_pos hc]
      simp only [if_pos hc, Option.some.injEq] at hx
      exact ⟨hx.symm ▸ rfl, h⟩
    · exact h.elim
  · rename_i hne
    have hx' : elemsAV H sz y = some xs := by
      cases y <;> first | exact hx | exact (hne _ rfl).elim
    unfold elemsK at h ⊢
    split at h
    · exact ⟨Option.some.inj hx', h⟩
    · split at h
      · rename_i hc
        rw [if_pos hc]
        simp only [elemsAV, if_pos hc, Option.some.injEq] at hx'
        exact ⟨hx', h⟩
      · exact h.elim
    · rename_i p e n off len
      split at h
      · rename_i b hb
        split at h
        · rename_i x hxx
          split at h
          · rename_i e' ys hx2
            split at h
            · rename_i hc
              rw [if_pos hc]
              obtain ⟨c1, h⟩ := cond_imp h
              obtain ⟨c2, h⟩ := cond_imp h
              obtain ⟨c3, h⟩ := cond_imp h
              obtain ⟨c4, h⟩ := cond_imp h
              rw [c1, c2, c3, c4]
              refine ⟨?_, h⟩
              simp only [decide_eq_true_eq] at c1 c2 c3 c4
              simp only [elemsAV, hb, Option.bind_some, hxx, hx2] at hx'
              rw [if_pos ⟨c1, c2, hc.1, hc.2, c3, c4⟩] at hx'
              exact Option.some.inj hx'
            · exact h.elim
          · exact h.elim
        · exact h.elim
      · exact h.elim
    · exact h.elim
theorem copyP_imp {C : Ctx} {H : Heap} {t : TypeId} {d y : AV} {k : AV → Heap → Bool → Prop} (h : copyP C H t d y k) : (copyAV C.P H t d y).elim False fun r => k r.1 r.2 (copyFlag C.n0 r.2 d) := by
  refine (copyS_le False H t d y k).imp ?_
  unfold copyP at h
  split at h
  · rename_i e hu
    split at h
    · rename_i p e' n off len hp
      unfold copyS
      simp only [hu, hp]
      cases hsz : tsize C.P e with
      | none => rw [hsz] at h; exact h.elim
      | some sz =>
        rw [hsz] at h
        simp only [Option.elim_some] at h ⊢
        have h0 := h
        -- the elements
        have hsrc := (srcS_le False H sz y _).imp h
        cases hx : srcAV H sz y with
        | none => rw [hx] at hsrc; exact hsrc.elim
        | some xs =>
          rw [hx] at hsrc
          simp only [Option.elim_some] at hsrc
          -- the same elements on the other side
          have key : ∀ xs', xs' = xs → (((H.blk p.id).elim False fun b =>
              cond (decide (e' = sz) && b.flat) (cond (decide (off + len ≤ n)) (cond (xs'.all (fun u => u.flatLen == sz) && reflessL xs') (cond (okPl b.root p.path p.coff p.gen (sz * n) && (projT p.path b.root).isArrN sz n)
                (overP b p.path sz (setMany (projT p.path b.root).toArr off (xs'.take (min xs'.length len))) fun r => k (.int .i64 ((min xs'.length len : Nat) : Int)) (H.set p.id (some ⟨r, b.grow, true⟩)) false) False) False) False) False) →
              ((H.blk p.id).elim False fun b =>
                cond ((copyAV C.P H t (.sl p e' n off len) y).isSome && reflessL xs' && b.flat) (k (.int .i64 ((min xs'.length len : Nat) : Int))
                  (H.set p.id (some ⟨putT p.path b.root (.arr sz (setMany (projT p.path b.root).toArr off (xs'.take (min xs'.length len)))), b.grow, true⟩)) false) False)) := by
            rintro xs' rfl h
            cases hb : H.blk p.id with
            | none => rw [hb] at h; exact h.elim
            | some b =>
              rw [hb] at h
              simp only [Option.elim_some] at h ⊢
              obtain ⟨c1, h⟩ := cond_imp h
              obtain ⟨c2, h⟩ := cond_imp h
              obtain ⟨c3, h⟩ := cond_imp h
              obtain ⟨c4, h⟩ := cond_imp h
              simp only [Bool.and_eq_true, decide_eq_true_eq] at c1 c2 c3 c4
              obtain ⟨rfl, c1⟩ := c1
              obtain ⟨c3, c3'⟩ := c3
              obtain ⟨d1, d2, d3, d4⟩ := okPl_iff.1 c4.1
              obtain ⟨ys, hys, hyl⟩ := isArrN_of c4.2
              have hlen : off + (xs'.take (min xs'.length len)).length ≤ ys.length := by simp; omega
              have hput := put_of_in p.path b.root (.arr e' (setMany ys off (xs'.take (min xs'.length len)))) d3 (by
                rw [hys]
                simp [AV.flatLen, setMany_length hlen])
              have hc : (copyAV C.P H t (.sl p e' n off len) y).isSome = true := by
                unfold copyAV
                simp only [hu, hsz, Option.bind_some, hx, hb, at_of_in _ _ d3, hys]
                simp only [d1, d2, hyl, c2, c3, and_self, if_true, hput]
                rfl
              rw [hc, c3', c1]
              exact overP_imp (k := fun r => k (.int .i64 ((min xs'.length len : Nat) : Int)) (H.set p.id (some ⟨r, b.grow, true⟩)) false) h
          -- from the elements told to the elements that are
          have hself : srcS False H sz y fun xs' => xs' = xs ∧ ((H.blk p.id).elim False fun b =>
              cond (decide (e' = sz) && b.flat) (cond (decide (off + len ≤ n)) (cond (xs'.all (fun u => u.flatLen == sz) && reflessL xs') (cond (okPl b.root p.path p.coff p.gen (sz * n) && (projT p.path b.root).isArrN sz n)
                (overP b p.path sz (setMany (projT p.path b.root).toArr off (xs'.take (min xs'.length len))) fun r => k (.int .i64 ((min xs'.length len : Nat) : Int)) (H.set p.id (some ⟨r, b.grow, true⟩)) false) False) False) False) False) := by
            exact srcS_or (k := fun xs' => ((H.blk p.id).elim False fun b =>
              cond (decide (e' = sz) && b.flat) (cond (decide (off + len ≤ n)) (cond (xs'.all (fun u => u.flatLen == sz) && reflessL xs') (cond (okPl b.root p.path p.coff p.gen (sz * n) && (projT p.path b.root).isArrN sz n)
                (overP b p.path sz (setMany (projT p.path b.root).toArr off (xs'.take (min xs'.length len))) fun r => k (.int .i64 ((min xs'.length len : Nat) : Int)) (H.set p.id (some ⟨r, b.grow, true⟩)) false) False) False) False) False)) hx h0
          exact srcS_mono (fun xs' hx' => key xs' hx'.1 hx'.2) hself
    · exact h
  · exact h.elim

/-! ### Steps -/
def goP (C : Ctx) (KK : OracleK Prop) (s : St) (o : Oper) (k : St → Prop) : Prop := match o.op with
  | .load _ (.global _) => goS False C KK s o k
  | .load t a => loadP C.P s.H t (s.eval C.A a) fun v => putK C s o k v s.H false
  | .store t a x => storeP C.P C.n0 s.H t (s.eval C.A a) (s.eval C.A x) fun H' e => putK C s o k .bad H' e
  | .binOp op t x y _ => eqP C.P op t x y (s.eval C.A x) (s.eval C.A y) fun v => putK C s o k v s.H false
  | .slice t x lo hi none => sliceP C.P s.H t (s.eval C.A x) (lo.map (s.eval C.A)) (hi.map (s.eval C.A)) fun v => putK C s o k v s.H false
  | .call { callee := .builtin .copy, args, argTypes } => match args.toList.map (s.eval C.A) with
    | [d, y] => (argTypes[0]?).elim False fun t => copyP C s.H t d y (putK C s o k)
    | _ => False
  | _ => goS False C KK s o k

variable {C : Ctx} {KK : OracleK Prop}

theorem goP_imp (hK : ∀ f args H k, Le False (KK f args H k) (KOf False C.K f args H k)) (s : St) (o : Oper) (k : St → Prop) (h : goP C KK s o k) :
    (evalOp C s o.op o.type).elim False fun r => putK C s o k r.1 r.2.1 r.2.2 := by
  unfold goP at h
  split at h
  · exact (goS_le False hK s o k).imp h
  · rename_i t a hne hop
    rw [hop]
    have h1 := loadP_imp h
    have he : evalOp C s (.load t a) o.type = ((loadAV C.P s.H t (s.eval C.A a)).map fun v => (v, s.H, false)) := by
      unfold evalOp
      cases a <;> first | rfl | exact (hne _ rfl).elim | exact (hne _ _ rfl).elim | exact (hne _ _ hop).elim
    rw [he]
    cases hl : loadAV C.P s.H t (s.eval C.A a) with
    | none => rw [hl] at h1; exact h1.elim
    | some v => rw [hl] at h1; exact h1
  · rename_i t a x hop
    rw [hop]
    have h1 := storeP_imp h
    have he : evalOp C s (.store t a x) o.type = ((storeAV C.P s.H t (s.eval C.A a) (s.eval C.A x)).map fun H' => (AV.bad, H', storeFlag C.n0 (s.eval C.A a) (s.eval C.A x))) := rfl
    rw [he]
    cases hl : storeAV C.P s.H t (s.eval C.A a) (s.eval C.A x) with
    | none => rw [hl] at h1; exact h1.elim
    | some v => rw [hl] at h1; exact h1
  · rename_i op t x y z hop
    have h1 := eqP_imp h
    refine (goS_le False hK s o k).imp ?_
    unfold goS
    rw [hop]
    exact h1
  · rename_i t x lo hi hop
    rw [hop]
    have h1 := sliceP_imp h
    have he : evalOp C s (.slice t x lo hi none) o.type = ((sliceAV C.P s.H t (s.eval C.A x) (lo.map (s.eval C.A)) (hi.map (s.eval C.A))).map fun v => (v, s.H, false)) := rfl
    rw [he]
    cases hl : sliceAV C.P s.H t (s.eval C.A x) (lo.map (s.eval C.A)) (hi.map (s.eval C.A)) with
    | none => rw [hl] at h1; exact h1.elim
    | some v => rw [hl] at h1; exact h1
  · rename_i args argTypes hop
    rw [hop]
    split at h
    · rename_i d y hargs
      have he : evalOp C s (.call { callee := .builtin .copy, args, argTypes }) o.type = (argTypes[0]?).bind fun t => (copyAV C.P s.H t d y).map fun r => (r.1, r.2, copyFlag C.n0 r.2 d) := by
        show evalBuiltin C .copy argTypes (args.toList.map (s.eval C.A)) s = _
        rw [hargs]
        rfl
      rw [he]
      cases ht : argTypes[0]? with
      | none => rw [ht] at h; exact h.elim
      | some t =>
        rw [ht] at h
        have h1 := copyP_imp h
        simp only [Option.bind_some]
        cases hl : copyAV C.P s.H t d y with
        | none => rw [hl] at h1; exact h1.elim
        | some v => rw [hl] at h1; exact h1
    · exact h.elim
  · exact (goS_le False hK s o k).imp h

def stepOpP (C : Ctx) (KK : OracleK Prop) (ops : List Oper) (s : St) (o : Oper) (k : St → Prop) : Prop :=
  match o.guard with
  | none => goP C KK s o k
  | some (j, want) => match (ops[j]?).bind (·.dst) with
    | some d => match s.get C.A d with
      | .bool b => cond b (cond want (goP C KK (s.know C.A d true) o k) (skipK C (s.know C.A d true) o k)) (cond want (skipK C (s.know C.A d false) o k) (goP C KK (s.know C.A d false) o k))
      | .undf => skipK C s o k
      | _ => False
    | none => False

def runOpsP (C : Ctx) (KK : OracleK Prop) (ops : List Oper) : List Oper → St → (St → Prop) → Prop
  | [], s, k => k s
  | o :: r, s, k => stepOpP C KK ops s o fun s => runOpsP C KK ops r s k

def runOrdP (C : Ctx) (KK : OracleK Prop) (ops : List Oper) (flo : List Nat) : List Nat → St → (St → List (Heap × Bool) → Prop) → Prop
  | [], s, k => k s []
  | i :: r, s, k => match ops[i]? with
    | some o => stepOpP C KK ops s o fun s' => match flo.contains i with
        | true => cond (lastBare s'.H) (runOrdP C KK ops flo r s' fun s'' hs => k s'' (if isLoud C.P o.op then (s'.H, s'.esc) :: hs else hs)) False
        | false => runOrdP C KK ops flo r s' fun s'' hs => k s'' (if isLoud C.P o.op then (s'.H, s'.esc) :: hs else hs)
    | none => False

/-- An operation that reads, looked at with another memory of the way: a load is asked for by its place. -/
def chkOneP (C : Ctx) (ops : List Oper) (s : St) (o : Oper) (H : Heap) (k : Prop) : Prop :=
  match wantedAV C.A ops s o with
  | some true => match o.op with
    | .load _ (.global _) => chkOneK False C ops s o H k
    | .load t a => match s.eval C.A a with
      | .ptr p => match o.dst with
        | some d => match s.get C.A d with
          | .bad => chkOneK False C ops s o H k
          | v => (H.blk p.id).elim False fun b => match tagg C.P t, tsize C.P t with
            | some g, some n => cond (okAt b.root p.path p.coff p.gen g n) (if d < C.N then cond ((projT p.path b.root).beq v) k False else False) False
            | _, _ => False
        | none => chkOneK False C ops s o H k
      | _ => chkOneK False C ops s o H k
    | _ => chkOneK False C ops s o H k
  | some false => k
  | none => False
theorem chkOneP_imp {C : Ctx} {ops : List Oper} {s : St} {o : Oper} {H : Heap} {k : Prop} (h : chkOneP C ops s o H k) : chkOneK False C ops s o H k := by
  unfold chkOneP at h
  split at h
  · rename_i hw
    split at h
    · exact h
    · rename_i t a hne hop
      split at h
      · rename_i p hp
        split at h
        · rename_i d hd
          split at h
          · exact h
          · rename_i v hv
            cases hb : H.blk p.id with
            | none => rw [hb] at h; exact h.elim
            | some b =>
              rw [hb] at h
              simp only [Option.elim_some] at h
              split at h
              · rename_i g n hg hn
                obtain ⟨hc, h⟩ := cond_imp h
                rw [okAt_iff, okPl_iff] at hc
                obtain ⟨⟨h1, h2, h3, h4⟩, h5⟩ := hc
                have hl : loadAV C.P H t (.ptr p) = some (projT p.path b.root) := by
                  simp only [loadAV, hb, Option.bind_some, at_of_in _ _ h3, h1, h2, hg, hn, h4, h5]
                  simp
                have he : evalOp C { s with H } o.op o.type = some (projT p.path b.root, H, false) := by
                  rw [hop]
                  have hp' : ({ s with H := H } : St).eval C.A a = .ptr p := by
                    rw [← hp]
                    unfold St.eval
                    cases a <;> rfl
                  have hx : evalOp C { s with H } (.load t a) o.type = ((loadAV C.P H t (({ s with H := H } : St).eval C.A a)).map fun v => (v, H, false)) := by
                    unfold evalOp
                    cases a <;> first | rfl | exact (hne _ rfl).elim | exact (hne _ _ rfl).elim | exact (hne _ _ hop).elim
                  rw [hx, hp', hl]
                  rfl
                unfold chkOneK
                rw [hw, he]
                simp only [hd]
                revert h hv
                generalize St.get C.A s d = v
                intro hv h
                cases v <;> first | exact (hv rfl).elim | exact h
              · exact h.elim
        · exact h
      · exact h
    · exact h
  · rename_i hw
    unfold chkOneK
    rw [hw]
    exact h
  · exact h.elim
def chkPsP (C : Ctx) (ops : List Oper) (s : St) (o : Oper) (hs : List (Heap × Bool)) : List Nat → Prop → Prop
  | [], k => k
  | p :: r, k => match hs[p]? with
    | some h => chkOneP C ops s o h.1 (chkPsP C ops s o hs r k)
    | none => chkPsP C ops s o hs r k
def chkAllP (C : Ctx) (ops : List Oper) (s : St) (hs : List (Heap × Bool)) : List (Nat × List Nat) → Prop → Prop
  | [], k => k
  | x :: r, k => match ops[x.1]? with
    | some o => chkPsP C ops s o hs x.2 (chkAllP C ops s hs r k)
    | none => chkAllP C ops s hs r k
theorem chkPsP_imp (C : Ctx) (ops : List Oper) (s : St) (o : Oper) (hs : List (Heap × Bool)) : ∀ (l : List Nat) (k : Prop),
    chkPsP C ops s o hs l k → cond (l.all fun p => match hs[p]? with | some h => chkOne C ops s o h.1 | none => true) k False
  | [], k, h => h
  | p :: r, k, h => by
    unfold chkPsP at h
    simp only [List.all_cons]
    cases hp : hs[p]? with
    | none => rw [hp] at h; simpa using chkPsP_imp C ops s o hs r k h
    | some x =>
      rw [hp] at h
      have h1 := (chkOneK_le False ops s o x.1 _).imp (chkOneP_imp h)
      obtain ⟨h2, h3⟩ := cond_imp h1
      have h4 := chkPsP_imp C ops s o hs r k h3
      simpa [h2] using h4
theorem chkAllP_imp (C : Ctx) (ops : List Oper) (s : St) (hs : List (Heap × Bool)) : ∀ (l : List (Nat × List Nat)) (k : Prop),
    chkAllP C ops s hs l k → cond (chkAll C ops s hs l) k False
  | [], k, h => h
  | x :: r, k, h => by
    have ih := chkAllP_imp C ops s hs r k
    unfold chkAll at ih
    unfold chkAllP at h
    unfold chkAll
    simp only [List.all_cons]
    cases ho : ops[x.1]? with
    | none => rw [ho] at h; simpa [ho] using ih h
    | some o =>
      rw [ho] at h
      have h1 := chkPsP_imp C ops s o hs x.2 _ h
      obtain ⟨h2, h3⟩ := cond_imp h1
      have h4 := ih h3
      simp only
      revert h2
      generalize (x.2.all fun p => match hs[p]? with | some h => chkOne C ops s o h.1 | none => true) = b
      intro h2
      rw [h2]
      exact h4

def runRegionP (C : Ctx) (KK : OracleK Prop) (id : Nat) (ops : Array Oper) (draw : Bool) (s : St) (k : St → Prop) : Prop :=
  let s := { s with T := [] }
  if draw then
    match C.A.ord.lookup id with
    | some a => runOrdP C KK ops.toList a.flo a.order s fun s' hs => chkAllP C ops.toList s' ((s.H, s.esc) :: hs) a.chk (k s')
    | none => False
  else runOpsP C KK ops.toList ops.toList s k

def loopP (hd : St → Option St) (body : St → (Ex → St → Prop) → Prop) : Nat → St → (Ex → St → Prop) → Prop
  | 0, _, _ => False
  | n + 1, s, k => body s fun e s => match e with
      | .normal => (hd s).elim False fun s => loopP hd body n s k
      | .exit i => k (.exit i) s
      | .ret => k .ret s

def evalCP (C : Ctx) (KK : OracleK Prop) (fuel : Nat) : Nat → Code → St → (Ex → St → Prop) → Prop
  | _, .skip, s, k => k .normal s
  | _, .region id ops draw, s, k => runRegionP C KK id ops draw s fun s => k .normal { s with T := [] }
  | cur, .seq a b, s, k => evalCP C KK fuel cur a s fun e s => match e with
      | .normal => evalCP C KK fuel cur b s k
      | .exit i => k (.exit i) s
      | .ret => k .ret s
  | cur, .cond c a b, s, k => match s.eval C.A c with
      | .bool t => cond t (evalCP C KK fuel cur a (s.knowO C.A c true) k) (evalCP C KK fuel cur b (s.knowO C.A c false) k)
      | _ => False
  | _, .block id c, s, k => evalCP C KK fuel id c s fun e s => match e with
      | .exit i => if i = id then k .normal s else k (.exit i) s
      | .normal => k .normal s
      | .ret => k .ret s
  | cur, .loop c, s, k => (headSt C ((C.A.keep.lookup cur).getD 0) s).elim False fun s => loopP (headSt C ((C.A.keep.lookup cur).getD 0)) (fun s k => evalCP C KK fuel 0 c s k) fuel s k
  | _, .exit i, s, k => k (.exit i) s
  | _, .ret, s, k => k .ret s
  | cur, .rangeFunc g ps a b, s, k => (evalC C fuel cur (.rangeFunc g ps a b) s).elim False fun x => k x.1 x.2
  | _, _, _, _ => False

/-! What is handed back holds of what comes. -/
theorem stepOpP_imp (hK : ∀ f args H k, Le False (KK f args H k) (KOf False C.K f args H k)) (ops : List Oper) (s : St) (o : Oper) (k : St → Prop) :
    stepOpP C KK ops s o k → (stepOp C ops s o).elim False k := by
  have hgo : goP C KK s o k → (((evalOp C s o.op o.type).map fun r =>
      let s' := { s with H := r.2.1, esc := s.esc || r.2.2 }
      match o.dst with
      | some d => s'.set C.A d (if d < C.N then r.1 else .bad)
      | none => s').elim False k) := by
    intro h
    have h1 := goP_imp hK s o k h
    cases he : evalOp C s o.op o.type with
    | none => rw [he] at h1; exact h1.elim
    | some r => rw [he] at h1; exact h1
  have hskip : skipK C s o k → ((some (match o.dst with | some d => s.set C.A d .undf | none => s)).elim False k) := fun h => h
  unfold stepOpP stepOp wantedAV
  split
  · rename_i hg
    rw [hg]
    simp only [Option.bind_some, if_true]
    exact hgo
  · rename_i j want hg
    rw [hg]
    simp only
    split
    · rename_i d hd
      rw [hd]
      simp only
      split
      · rename_i b hb
        rw [hb]
        simp only [Option.bind_some]
        cases b <;> cases want <;> simp only [cond_true, cond_false, know_same hb] <;> first | exact hgo | exact hskip
      · rename_i hb
        rw [hb]
        simp only [Option.bind_some]
        exact hskip
      · exact False.elim
    · exact False.elim

theorem stepY_imp (hK : ∀ f args H k, Le False (KK f args H k) (KOf False C.K f args H k)) (ops : List Oper) (s : St) (o : Oper) (k : St → Prop) (h : stepOpP C KK ops s o k) :
    (stepY C ops s o).elim False k := by
  unfold stepY
  split
  · rename_i f args argTypes hop
    split
    · rename_i hc
      simp only [Bool.and_eq_true, Option.isNone_iff_eq_none] at hc
      have hf : s.eval C.A f = .yld := by
        have := hc.1
        cases hv : s.eval C.A f <;> rw [hv] at this <;> first | rfl | cases this
      exfalso
      unfold stepOpP at h
      rw [hc.2] at h
      simp only at h
      unfold goP at h
      rw [hop] at h
      simp only at h
      unfold goS at h
      rw [hop] at h
      simp only [hf, calleeAV, Option.elim_none] at h
    · exact stepOpP_imp hK ops s o k h
  · exact stepOpP_imp hK ops s o k h

theorem runOpsP_imp (hK : ∀ f args H k, Le False (KK f args H k) (KOf False C.K f args H k)) (ops : List Oper) : ∀ (l : List Oper) (s : St) (k : St → Prop), runOpsP C KK ops l s k → (runOps C ops l s).elim False k
  | [], s, k, h => h
  | o :: r, s, k, h => by
    unfold runOpsP at h
    have h1 := stepY_imp hK ops s o _ h
    unfold runOps
    cases hs : stepY C ops s o with
    | none => rw [hs] at h1; exact h1.elim
    | some s' => rw [hs] at h1; exact runOpsP_imp hK ops r s' k h1

theorem runOrdP_imp (hK : ∀ f args H k, Le False (KK f args H k) (KOf False C.K f args H k)) (ops : List Oper) (flo : List Nat) : ∀ (l : List Nat) (s : St) (k : St → List (Heap × Bool) → Prop),
    runOrdP C KK ops flo l s k → (runOrd C ops flo l s).elim False fun x => k x.1 x.2
  | [], s, k, h => h
  | i :: r, s, k, h => by
    unfold runOrdP at h
    unfold runOrd
    cases hi : ops[i]? with
    | none => rw [hi] at h; exact h.elim
    | some o =>
      rw [hi] at h
      simp only [Option.bind_some] at h ⊢
      have h1 := stepOpP_imp hK ops s o _ h
      cases hs : stepOp C ops s o with
      | none => rw [hs] at h1; exact h1.elim
      | some s' =>
        rw [hs] at h1
        simp only [Option.elim_some, Option.bind_some] at h1 ⊢
        have h2 : (flo.contains i && !lastBare s'.H) = false ∧ runOrdP C KK ops flo r s' fun s'' hs => k s'' (if isLoud C.P o.op then (s'.H, s'.esc) :: hs else hs) := by
          split at h1
          · obtain ⟨hb, h1⟩ := cond_imp h1
            exact ⟨by simp [hb], h1⟩
          · rename_i hc
            exact ⟨by rw [hc]; rfl, h1⟩
        rw [h2.1]
        have h3 := runOrdP_imp hK ops flo r s' _ h2.2
        simp only [Bool.false_eq_true, if_false]
        cases hr : runOrd C ops flo r s' with
        | none => rw [hr] at h3; exact h3.elim
        | some x => rw [hr] at h3; exact h3

theorem runRegionP_imp (hK : ∀ f args H k, Le False (KK f args H k) (KOf False C.K f args H k)) (id : Nat) (ops : Array Oper) (draw : Bool) (s : St) (k : St → Prop) (h : runRegionP C KK id ops draw s k) :
    (runRegion C id ops draw s).elim False k := by
  unfold runRegionP at h
  unfold runRegion
  simp only at h ⊢
  split at h
  · rename_i hd
    rw [if_pos hd]
    cases ha : C.A.ord.lookup id with
    | none => rw [ha] at h; exact h.elim
    | some a =>
      rw [ha] at h
      simp only at h ⊢
      have h1 := runOrdP_imp hK _ _ _ _ _ h
      cases hr : runOrd C ops.toList a.flo a.order { s with T := [] } with
      | none => rw [hr] at h1; exact h1.elim
      | some x =>
        rw [hr] at h1
        simp only [Option.elim_some, Option.bind_some] at h1 ⊢
        have h2 := chkAllP_imp _ _ _ _ _ _ h1
        obtain ⟨h3, h4⟩ := cond_imp h2
        rw [if_pos h3]
        exact h4
  · rename_i hd
    rw [if_neg hd]
    exact runOpsP_imp hK _ _ _ _ h

theorem loopP_imp {hd : St → Option St} {body : St → Option (Ex × St)} {bodyP : St → (Ex → St → Prop) → Prop} (hb : ∀ s k, bodyP s k → (body s).elim False fun x => k x.1 x.2) :
    ∀ (n : Nat) (s s1 : St) (k : Ex → St → Prop), hd s = some s1 → loopP hd bodyP n s1 k → (loopN hd body n s).elim False fun x => k x.1 x.2
  | 0, s, s1, k, _, hl => hl.elim
  | n + 1, s, s1, k, h, hl => by
    unfold loopP at hl
    unfold loopN
    rw [h]
    simp only [Option.bind_some]
    have h1 := hb _ _ hl
    cases hx : body s1 with
    | none => rw [hx] at h1; exact h1.elim
    | some x =>
      rw [hx] at h1
      obtain ⟨e, s2⟩ := x
      cases e with
      | normal =>
        simp only [Option.elim_some, Option.bind_some] at h1 ⊢
        cases h2 : hd s2 with
        | none => rw [h2] at h1; exact h1.elim
        | some s3 => rw [h2] at h1; exact loopP_imp hb n s2 s3 k h2 h1
      | exit i => exact h1
      | ret => exact h1

theorem evalCP_imp (hK : ∀ f args H k, Le False (KK f args H k) (KOf False C.K f args H k)) (fuel : Nat) : ∀ (c : Code) (cur : Nat) (s : St) (k : Ex → St → Prop),
    evalCP C KK fuel cur c s k → (evalC C fuel cur c s).elim False fun x => k x.1 x.2
  | .skip, cur, s, k, h => h
  | .region id ops draw, cur, s, k, h => by
    unfold evalCP at h
    unfold evalC
    have h1 := runRegionP_imp hK _ _ _ _ _ h
    cases hr : runRegion C id ops draw s with
    | none => rw [hr] at h1; exact h1.elim
    | some x => rw [hr] at h1; exact h1
  | .seq a b, cur, s, k, h => by
    unfold evalCP at h
    unfold evalC
    have h1 := evalCP_imp hK fuel a cur s _ h
    cases ha : evalC C fuel cur a s with
    | none => rw [ha] at h1; exact h1.elim
    | some x =>
      rw [ha] at h1
      obtain ⟨e, s2⟩ := x
      cases e with
      | normal => exact evalCP_imp hK fuel b cur s2 k h1
      | exit i => exact h1
      | ret => exact h1
  | .cond c a b, cur, s, k, h => by
    unfold evalCP at h
    unfold evalC
    split at h
    · rename_i t ht
      rw [ht]
      cases t
      · rw [cond_false, knowO_same ht] at h; exact evalCP_imp hK fuel b cur s k h
      · rw [cond_true, knowO_same ht] at h; exact evalCP_imp hK fuel a cur s k h
    · exact h.elim
  | .block id c, cur, s, k, h => by
    unfold evalCP at h
    unfold evalC
    have h1 := evalCP_imp hK fuel c id s _ h
    cases ha : evalC C fuel id c s with
    | none => rw [ha] at h1; exact h1.elim
    | some x =>
      rw [ha] at h1
      obtain ⟨e, s2⟩ := x
      cases e with
      | normal => exact h1
      | exit i =>
        simp only [Option.elim_some, Option.map_some] at h1 ⊢
        split at h1 <;> rename_i hi
        · rw [if_pos hi]; exact h1
        · rw [if_neg hi]; exact h1
      | ret => exact h1
  | .loop c, cur, s, k, h => by
    unfold evalCP at h
    unfold evalC
    cases hh : headSt C ((C.A.keep.lookup cur).getD 0) s with
    | none => rw [hh] at h; exact h.elim
    | some s1 => rw [hh] at h; exact loopP_imp (fun s k => evalCP_imp hK fuel c 0 s k) fuel s s1 k hh h
  | .exit i, cur, s, k, h => h
  | .ret, cur, s, k, h => h
  | .rangeFunc .., cur, s, k, h => h
  | .scope _, cur, s, k, h => h.elim
  | .label _, cur, s, k, h => h.elim
  | .goto _, cur, s, k, h => h.elim
  | .refuse _, cur, s, k, h => h.elim

/-! ### Functions -/
def resP (C : Ctx) (s : St) : List ResultVar → List AV → (List AV → Prop) → Prop
  | [], acc, k => k acc
  | .tmp t :: l, acc, k => resP C s l (acc ++ [s.get C.A t]) k
  | .cell a t :: l, acc, k => loadP C.P s.H t (s.get C.A a) fun v => resP C s l (acc ++ [v]) k
theorem resP_imp (C : Ctx) (s : St) : ∀ (l : List ResultVar) (acc : List AV) (k : List AV → Prop), resP C s l acc k → (l.mapM (resultAV C s)).elim False fun vs => k (acc ++ vs)
  | [], acc, k, h => by simpa [resP] using h
  | .tmp t :: l, acc, k, h => by
    unfold resP at h
    have h1 := resP_imp C s l _ k h
    rw [List.mapM_cons]
    simp only [resultAV]
    cases hm : l.mapM (resultAV C s) with
    | none => rw [hm] at h1; exact h1.elim
    | some vs => rw [hm] at h1; simpa using h1
  | .cell a t :: l, acc, k, h => by
    unfold resP at h
    have h0 := loadP_imp h
    rw [List.mapM_cons]
    simp only [resultAV]
    cases hl : loadAV C.P s.H t (s.get C.A a) with
    | none => rw [hl] at h0; exact h0.elim
    | some v =>
      rw [hl] at h0
      have h1 := resP_imp C s l _ k h0
      cases hm : l.mapM (resultAV C s) with
      | none => rw [hm] at h1; exact h1.elim
      | some vs => rw [hm] at h1; simpa using h1
def finP (C : Ctx) (fn : Func) (n0 : Nat) (k : AV → Heap → Bool → Prop) : Ex → St → Prop := fun e s => match e with
  | .exit _ => False
  | _ => resP C s fn.results.toList [] fun vs => pickS False (fun v => cond v.okS ((sweep s.H n0 v.refsS s.esc).elim False fun H' => k v H' s.esc) False) vs
theorem finP_imp (C : Ctx) (fn : Func) (n0 : Nat) (k : AV → Heap → Bool → Prop) (e : Ex) (s : St) : finP C fn n0 k e s → finK False C fn n0 k e s := by
  have h : (resP C s fn.results.toList [] fun vs => pickS False (fun v => cond v.okS ((sweep s.H n0 v.refsS s.esc).elim False fun H' => k v H' s.esc) False) vs) →
      ((fn.results.toList.mapM (resultAV C s)).elim False fun vs => (sweep s.H n0 (pickAV vs).refs s.esc).elim False fun H' => k (pickAV vs) H' s.esc) := fun h => by
    have h1 := resP_imp C s _ _ _ h
    cases hm : fn.results.toList.mapM (resultAV C s) with
    | none => rw [hm] at h1; exact h1.elim
    | some vs =>
      rw [hm] at h1
      simp only [Option.elim_some, List.nil_append] at h1 ⊢
      have h2 := (pickS_le False _ vs).imp h1
      obtain ⟨h3, h4⟩ := cond_imp h2
      rw [((okS_both id).1 _ h3).2] at h4
      exact h4
  cases e with
  | exit i => exact False.elim
  | normal => exact h
  | ret => exact h
def evalFP (P : Program) (U : Out) (ann : FuncId → FAnn) (fuel : Nat) (K : Oracle) (KK : OracleK Prop) : OracleK Prop := fun f args H k =>
  match P.funcs[f]? with
  | some fn => match fn.body with
    | some c =>
      let C : Ctx := ⟨P, K, H.length, max fn.ntmps args.length, ann f, U, noY, evalI P U ann fuel K⟩
      evalCP C KK fuel 0 c ⟨initL C.A.keys args, [], H, false⟩ (finP C fn H.length k)
    | none => False
  | none => False
theorem evalFP_imp {P : Program} {U : Out} {ann : FuncId → FAnn} {fuel : Nat} {K : Oracle} {KK : OracleK Prop} (hK : ∀ f args H k, Le False (KK f args H k) (KOf False K f args H k)) (f : FuncId) (args : List AV) (H : Heap) (k : AV → Heap → Bool → Prop)
    (h : evalFP P U ann fuel K KK f args H k) : (evalF P U ann fuel K f args H).elim False fun r => k r.1 r.2.1 r.2.2 := by
  unfold evalFP at h
  unfold evalF evalG
  cases hf : P.funcs[f]? with
  | none => rw [hf] at h; exact h.elim
  | some fn =>
    rw [hf] at h
    simp only [Option.bind_some] at h ⊢
    cases hb : fn.body with
    | none => rw [hb] at h; exact h.elim
    | some c =>
      rw [hb] at h
      simp only [Option.bind_some] at h ⊢
      have h1 := evalCP_imp (C := ⟨P, K, H.length, max fn.ntmps args.length, ann f, U, noY, evalI P U ann fuel K⟩) hK fuel c 0 _ _ h
      cases he : evalC ⟨P, K, H.length, max fn.ntmps args.length, ann f, U, noY, evalI P U ann fuel K⟩ fuel 0 c ⟨initL (ann f).keys args, [], H, false⟩ with
      | none => rw [he] at h1; exact h1.elim
      | some x =>
        rw [he] at h1
        obtain ⟨e, s2⟩ := x
        have h2 := finP_imp _ _ _ _ _ _ h1
        cases e with
        | exit i => exact h2.elim
        | normal =>
          simp only [finK, Option.bind_some] at h2 ⊢
          cases hm : fn.results.toList.mapM (resultAV ⟨P, K, H.length, max fn.ntmps args.length, ann f, U, noY, evalI P U ann fuel K⟩ s2) with
          | none => rw [hm] at h2; exact h2.elim
          | some vs =>
            rw [hm] at h2
            simp only [Option.elim_some, Option.bind_some] at h2 ⊢
            cases hs : sweep s2.H H.length (pickAV vs).refs s2.esc with
            | none => rw [hs] at h2; exact h2.elim
            | some H' => rw [hs] at h2; exact h2
        | ret =>
          simp only [finK, Option.bind_some] at h2 ⊢
          cases hm : fn.results.toList.mapM (resultAV ⟨P, K, H.length, max fn.ntmps args.length, ann f, U, noY, evalI P U ann fuel K⟩ s2) with
          | none => rw [hm] at h2; exact h2.elim
          | some vs =>
            rw [hm] at h2
            simp only [Option.elim_some, Option.bind_some] at h2 ⊢
            cases hs : sweep s2.H H.length (pickAV vs).refs s2.esc with
            | none => rw [hs] at h2; exact h2.elim
            | some H' => rw [hs] at h2; exact h2

/-- Code, gone on with inside loops: the ways to the loops, how often each may go round behind this round, the state at the inmost head. -/
def resumeCP (C : Ctx) (KK : OracleK Prop) (fuel : Nat) : List (List Bool × Nat) → List Bool → Nat → Nat → Code → St → (Ex → St → Prop) → Prop
  | q, p, n, _, .block id c, s, k => resumeCP C KK fuel q p n id c s fun e s => match e with
      | .exit i => if i = id then k .normal s else k (.exit i) s
      | .normal => k .normal s
      | .ret => k .ret s
  | q, false :: p, n, cur, .seq a b, s, k => resumeCP C KK fuel q p n cur a s fun e s => match e with
      | .normal => evalCP C KK fuel cur b s k
      | .exit i => k (.exit i) s
      | .ret => k .ret s
  | q, true :: p, n, cur, .seq _ b, s, k => resumeCP C KK fuel q p n cur b s k
  | q, false :: p, n, cur, .cond _ a _, s, k => resumeCP C KK fuel q p n cur a s k
  | q, true :: p, n, cur, .cond _ _ b, s, k => resumeCP C KK fuel q p n cur b s k
  | [], [], n, cur, .loop c, s, k => loopP (headSt C ((C.A.keep.lookup cur).getD 0)) (fun s k => evalCP C KK fuel 0 c s k) n s k
  | (p2, n2) :: q, [], n, cur, .loop c, s, k => resumeCP C KK fuel q p2 n2 0 c s fun e s => match e with
      | .normal => (headSt C ((C.A.keep.lookup cur).getD 0) s).elim False fun s => loopP (headSt C ((C.A.keep.lookup cur).getD 0)) (fun s k => evalCP C KK fuel 0 c s k) n s k
      | .exit i => k (.exit i) s
      | .ret => k .ret s
  | _, _, _, _, _, _, _ => False

/-- A function, gone on with inside loops. -/
def resumeFP (P : Program) (U : Out) (ann : FuncId → FAnn) (fuel : Nat) (K : Oracle) (KK : OracleK Prop) (f : FuncId) (nargs n0 : Nat) (q : List (List Bool × Nat)) (p : List Bool) (n : Nat) (s : St) (k : AV → Heap → Bool → Prop) : Prop :=
  match P.funcs[f]? with
  | some fn => match fn.body with
    | some c =>
      let C : Ctx := ⟨P, K, n0, max fn.ntmps nargs, ann f, U, noY, evalI P U ann fuel K⟩
      resumeCP C KK fuel q p n 0 c s (finP C fn n0 k)
    | none => False
  | none => False
end Go.X
/-
  Functions told by what holds of their results: tables of statements, each call on its own piece of memory, or on values alone.
-/
namespace Go.X
open Classical

theorem Le.ofImp {a b : Prop} (h : a → b) : Le False a b := by
  by_cases ha : a
  · exact .inr (propext ⟨h, fun _ => ha⟩)
  · exact .inl (propext ⟨ha, False.elim⟩)

/-- What is asked, so that a call's results are as is wanted. -/
abbrev PT := List AV → Heap → (AV → Heap → Bool → Prop) → Prop

/-- What runs: the program, what lies about it, its notes, how often loops go round, how each function's calls are told (0: gone through where they stand, 1: on their piece of memory, 2: on values alone, 3: given), what is given. -/
structure Setg where
  P : Program
  U : Out
  ann : FuncId → FAnn
  fu : Nat
  mode : FuncId → Nat
  K0 : Oracle

structure Setg.Ok (S : Setg) : Prop where
  ext : ∀ B, ExtSound S.P B S.U.X
  mixed : S.P.follows .mixedOrders = true
  annOk : ∀ f, funcOk S.P (S.ann f) f = true
  given : ∀ B, OracleSound S.P B S.U.G S.K0

/-- A call on values alone. -/
def valF (F : Oracle) : Oracle := fun f args H => (snapL H args).bind fun xs => (F f xs []).bind fun r => if r.1.cleanR then some (r.1, H, false) else none

/-- Calls, no deeper than so, each in its way. -/
def evalL (S : Setg) : Nat → Oracle
  | 0 => fun f args H => match S.mode f with
    | 3 => S.K0 f args H
    | _ => none
  | n + 1 => fun f args H => match S.mode f with
    | 0 => evalF S.P S.U S.ann S.fu (evalL S n) f args H
    | 1 => locF (evalF S.P S.U S.ann S.fu (evalL S n)) f args H
    | 2 => valF (evalF S.P S.U S.ann S.fu (evalL S n)) f args H
    | _ => S.K0 f args H

theorem valF_sound {P : Program} {U : Out} {F : Oracle} (hF : ∀ B, OracleSound P B U.G F) (B : Nat) : OracleSound P B U.G (valF F) := by
  intro f args H v H' e h E w cargs hs hG hl hv
  unfold valF at h
  simp only [Option.bind_eq_some_iff] at h
  obtain ⟨xs, hxs, ⟨v', H1, e1⟩, hf, h⟩ := h
  simp only at h
  split at h
  · rename_i hc
    simp only [Option.some.injEq, Prod.mk.injEq] at h
    obtain ⟨rfl, rfl, rfl⟩ := h
    obtain ⟨k1, k2⟩ := snapL_ok hs hxs hl hv
    have hG' : GlobOk U.G (Env.start w) := fun g u hu => by
      obtain ⟨cs, h1, h2⟩ := (show PR E (.iptr u) _ from hG g u hu)
      refine VR.of_PR (v := .iptr u) ⟨cs, h1.toStart hs ?_, h2⟩
      cases h1 with
      | iptr h3 _ _ _ => simp [reflessL, AV.refless]
    refine (hF w.heap.size f xs [] v' H1 e1 hf (Env.start w) w cargs (Sim.start w) hG' k1 k2).mono ?_
    rintro en w' ⟨c, E', rfl, hr⟩
    have hb := hr.tr.below
    exact ⟨c, E, rfl, ⟨hs.stays hb, hr.val.ofClean hc, Tr.stays hs hb, Nat.le_refl _, fun _ => Sub.refl _ _⟩⟩
  · cases h

theorem evalL_ok {S : Setg} (hS : S.Ok) : ∀ (n B : Nat), OracleSound S.P B S.U.G (evalL S n)
  | 0, B => fun f args H v H' e h => by
    unfold evalL at h
    split at h
    · exact hS.given B f args H v H' e h
    · cases h
  | n + 1, B => fun f args H v H' e h => by
    unfold evalL at h
    have hF : ∀ B, OracleSound S.P B S.U.G (evalF S.P S.U S.ann S.fu (evalL S n)) := fun B => evalF_ok (evalL_ok hS n B) (hS.ext B) hS.mixed hS.annOk
    split at h
    · exact hF B f args H v H' e h
    · exact loc_sound hF B f args H v H' e h
    · exact valF_sound hF B f args H v H' e h
    · exact hS.given B f args H v H' e h

/-- A told call, as it is asked for. -/
def callP (m : Nat) (t : PT) (args : List AV) (H : Heap) (k : AV → Heap → Bool → Prop) : Prop := match m with
  | 1 => cond (okSL args) (match (reach H 0 1000 (refsSL args) []).map List.reverse with
    | some p => t (renSL (idx p) args) (pieceH p H) fun v H1 e => cond v.okS (k (v.renS (backN p H.length)) (backH p H H1) e) False
    | none => False) False
  | 2 => snapLK False H args fun xs => t xs [] fun v _ _ => cond v.cleanR (k v H false) False
  | 3 => t args H k
  | _ => False

def evalPS (S : Setg) (T : FuncId → Option PT) (N : Nat) : Nat → OracleK Prop
  | 0 => fun _ _ _ _ => False
  | n + 1 => fun f args H k => match T f with
    | some t => callP (S.mode f) t args H k
    | none => match S.mode f with
      | 0 => evalFP S.P S.U S.ann S.fu (evalL S (n + N)) (evalPS S T N n) f args H k
      | _ => False

/-- What is told is so. -/
def PTab (S : Setg) (T : FuncId → Option PT) (N : Nat) : Prop := ∀ f t, T f = some t → ∀ n, N ≤ n → ∀ args H k, t args H k → match S.mode f with
  | 3 => (S.K0 f args H).elim False fun r => k r.1 r.2.1 r.2.2
  | _ => (evalF S.P S.U S.ann S.fu (evalL S n) f args H).elim False fun r => k r.1 r.2.1 r.2.2

theorem PTab.mono {S : Setg} {T : FuncId → Option PT} {N N' : Nat} (h : PTab S T N) (hN : N ≤ N') : PTab S T N' := fun f t ht n hn => h f t ht n (by omega)

/-- A call on its piece, as it is asked for. -/
theorem callP1_imp {F : Oracle} {f : FuncId} {t : PT} (ht : ∀ args H k, t args H k → (F f args H).elim False fun r => k r.1 r.2.1 r.2.2) {args : List AV} {H : Heap} {k : AV → Heap → Bool → Prop}
    (h : callP 1 t args H k) : (locF F f args H).elim False fun r => k r.1 r.2.1 r.2.2 := by
  unfold callP at h
  simp only at h
  obtain ⟨ha, h⟩ := cond_imp h
  rw [((okS_both id).2 _ ha).2] at h
  unfold locF pieceOf
  cases hp : (reach H 0 1000 (refsL args) []).map List.reverse with
  | none => rw [hp] at h; exact h.elim
  | some p =>
    rw [hp] at h
    simp only [Option.bind_some] at h ⊢
    rw [((okS_both (idx p)).2 _ ha).1] at h
    have h1 := ht _ _ _ h
    cases hr : F f (renL (idx p) args) (pieceH p H) with
    | none => rw [hr] at h1; exact h1.elim
    | some r =>
      rw [hr] at h1
      simp only [Option.elim_some, Option.map_some] at h1 ⊢
      obtain ⟨hv, h1⟩ := cond_imp h1
      rw [((okS_both (backN p H.length)).1 _ hv).1] at h1
      exact h1
theorem callP_imp {S : Setg} {T : FuncId → Option PT} {N n : Nat} (hT : PTab S T N) (hn : N ≤ n) {f : FuncId} {t : PT} (ht : T f = some t) {args : List AV} {H : Heap} {k : AV → Heap → Bool → Prop}
    (h : callP (S.mode f) t args H k) : (evalL S (n + 1) f args H).elim False fun r => k r.1 r.2.1 r.2.2 := by
  have hs := hT f t ht n hn
  unfold evalL
  unfold callP at h
  split at h
  · rename_i hm
    rw [hm] at hs ⊢
    simp only at hs ⊢
    obtain ⟨ha, h⟩ := cond_imp h
    rw [((okS_both id).2 _ ha).2] at h
    unfold locF pieceOf
    cases hp : (reach H 0 1000 (refsL args) []).map List.reverse with
    | none => rw [hp] at h; exact h.elim
    | some p =>
      rw [hp] at h
      simp only [Option.bind_some] at h ⊢
      rw [((okS_both (idx p)).2 _ ha).1] at h
      have h1 := hs _ _ _ h
      cases hr : evalF S.P S.U S.ann S.fu (evalL S n) f (renL (idx p) args) (pieceH p H) with
      | none => rw [hr] at h1; exact h1.elim
      | some r =>
        rw [hr] at h1
        simp only [Option.elim_some, Option.map_some] at h1 ⊢
        obtain ⟨hv, h1⟩ := cond_imp h1
        rw [((okS_both (backN p H.length)).1 _ hv).1] at h1
        exact h1
  · rename_i hm
    rw [hm] at hs ⊢
    simp only at hs ⊢
    have h1 := (snapLK_le False H args _).imp h
    unfold valF
    cases hx : snapL H args with
    | none => rw [hx] at h1; exact h1.elim
    | some xs =>
      rw [hx] at h1
      simp only [Option.elim_some, Option.bind_some] at h1 ⊢
      have h2 := hs _ _ _ h1
      cases hr : evalF S.P S.U S.ann S.fu (evalL S n) f xs [] with
      | none => rw [hr] at h2; exact h2.elim
      | some r =>
        rw [hr] at h2
        simp only [Option.elim_some, Option.bind_some] at h2 ⊢
        obtain ⟨hv, h2⟩ := cond_imp h2
        rw [if_pos hv]
        exact h2
  · rename_i hm
    rw [hm] at hs ⊢
    simp only at hs ⊢
    exact hs _ _ _ h
  · exact h.elim

theorem evalPS_le {S : Setg} {T : FuncId → Option PT} {N : Nat} (hT : PTab S T N) : ∀ (n : Nat) (f : FuncId) (args : List AV) (H : Heap) (k : AV → Heap → Bool → Prop), Le False (evalPS S T N n f args H k) (KOf False (evalL S (n + N)) f args H k)
  | 0, f, args, H, k => .inl rfl
  | n + 1, f, args, H, k => Le.ofImp fun h => by
    unfold evalPS at h
    unfold KOf
    rw [show n + 1 + N = n + N + 1 by omega]
    cases ht : T f with
    | some t =>
      rw [ht] at h
      exact callP_imp hT (by omega) ht h
    | none =>
      rw [ht] at h
      simp only at h
      split at h
      · rename_i hm
        unfold evalL
        rw [hm]
        exact evalFP_imp (evalPS_le hT n) f args H k h
      · exact h.elim

/-- A function's text, with a table. -/
def runP (S : Setg) (T : FuncId → Option PT) (N D : Nat) (fuel : Nat) : OracleK Prop := evalFP S.P S.U S.ann fuel (evalL S (D + N)) (evalPS S T N D)
/-- .. inside loops. -/
def resPS (S : Setg) (T : FuncId → Option PT) (N D : Nat) (fuel : Nat) (f : FuncId) (nargs n0 : Nat) (q : List (List Bool × Nat)) (p : List Bool) (n : Nat) (s : St) (k : AV → Heap → Bool → Prop) : Prop :=
  resumeFP S.P S.U S.ann fuel (evalL S (D + N)) (evalPS S T N D) f nargs n0 q p n s k

theorem PTab.none {S : Setg} : PTab S (fun _ => Option.none) 0 := fun _ _ h => by cases h

/-- One function more. -/
theorem PTab.add {S : Setg} {T : FuncId → Option PT} {N : Nat} (hT : PTab S T N) {g : FuncId} {t : PT} (D : Nat) (hm : (S.mode g == 3) = false)
    (h : ∀ N', N ≤ N' → ∀ args H k, t args H k → runP S T N' D S.fu g args H k) : PTab S (fun f => if f = g then some t else T f) (D + N) := by
  intro f u hu n hn args H k hk
  by_cases hf : f = g
  · subst hf
    simp only [if_true, Option.some.injEq] at hu
    subst hu
    have h1 := h (n - D) (by omega) args H k hk
    unfold runP at h1
    have h2 := evalFP_imp (evalPS_le (hT.mono (by omega : N ≤ n - D)) D) f args H k h1
    rw [show D + (n - D) = n by omega] at h2
    split
    · rename_i h3; rw [h3] at hm; cases hm
    · exact h2
  · simp only [if_neg hf] at hu
    exact hT f u hu n (by omega) args H k hk

/-- One that is given. -/
theorem PTab.give {S : Setg} {T : FuncId → Option PT} {N : Nat} (hT : PTab S T N) {g : FuncId} {t : PT} (hm : S.mode g = 3)
    (h : ∀ args H k, t args H k → (S.K0 g args H).elim False fun r => k r.1 r.2.1 r.2.2) : PTab S (fun f => if f = g then some t else T f) N := by
  intro f u hu n hn args H k hk
  by_cases hf : f = g
  · subst hf
    simp only [if_true, Option.some.injEq] at hu
    subst hu
    rw [hm]
    exact h args H k hk
  · simp only [if_neg hf] at hu
    exact hT f u hu n hn args H k hk

/-- The law's run. -/
theorem PTab.law {S : Setg} {T : FuncId → Option PT} {N : Nat} (hT : PTab S T N) {f : FuncId} (D : Nat) (hm : S.mode f = 0) {vs : List AV}
    (h : runP S T N D S.fu f vs [] fun v _ _ => v = .bool true) : ∃ H' e, evalN S.P S.U S.ann S.fu (evalL S (D + N + 1)) 0 f vs [] = some (.bool true, H', e) := by
  have h1 := evalFP_imp (evalPS_le hT D) f vs [] _ h
  show ∃ H' e, evalL S (D + N + 1) f vs [] = some (.bool true, H', e)
  unfold evalL
  rw [hm]
  simp only
  cases hr : evalF S.P S.U S.ann S.fu (evalL S (D + N)) f vs [] with
  | none => rw [hr] at h1; exact h1.elim
  | some r =>
    obtain ⟨v, H', e⟩ := r
    rw [hr] at h1
    obtain rfl : v = .bool true := h1
    exact ⟨H', e, rfl⟩
attribute [irreducible] runP resPS
end Go.X
