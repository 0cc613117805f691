/-
  A call looks at a piece of memory alone: what it does to the piece, its blocks numbered anew, it does to the whole.
-/
import Derived.Test.YtkkbnchpedacjaaGreatDoorXk

namespace Go.X
open Go.RowKit (Below)

mutual
/-- Blocks numbered anew. -/
def AV.ren (g : Nat → Nat) : AV → AV
  | .ptr p => .ptr { p with id := g p.id }
  | .sl p a b c d => .sl { p with id := g p.id } a b c d
  | .sptr p a b c d => .sptr { p with id := g p.id } a b c d
  | .map i => .map (g i)
  | .func fn xs ys => .func fn (renL g xs) (renL g ys)
  | .iface t v => .iface t (v.ren g)
  | .agg n ps => .agg n (renL g ps)
  | .arr e xs => .arr e (renL g xs)
  | .tuple vs => .tuple (renL g vs)
  | v => v
def renL (g : Nat → Nat) : List AV → List AV
  | [] => []
  | v :: vs => v.ren g :: renL g vs
end

theorem renL_map (g : Nat → Nat) : ∀ (vs : List AV), renL g vs = vs.map (AV.ren g)
  | [] => rfl
  | v :: vs => by rw [renL, renL_map g vs]; rfl
theorem renL_length (g : Nat → Nat) (vs : List AV) : (renL g vs).length = vs.length := by rw [renL_map, List.length_map]
theorem ren_flatLen (g : Nat → Nat) (v : AV) : (v.ren g).flatLen = v.flatLen := by
  cases v <;> simp [AV.ren, AV.flatLen, renL_length]
theorem ren_isAgg (g : Nat → Nat) (v : AV) : (v.ren g).isAgg = v.isAgg := by cases v <;> rfl
theorem ren_isTup (g : Nat → Nat) (v : AV) : (v.ren g).isTup = v.isTup := by cases v <;> rfl
theorem ren_pack (g : Nat → Nat) (v : AV) (cs : List Value) : pack (v.ren g) cs = pack v cs := by unfold pack; rw [ren_isAgg]

mutual
theorem ren_norefs (g : Nat → Nat) : ∀ (v : AV), v.refs = [] → v.ren g = v
  | .bad, _ | .undf, _ | .yld, _ | .int _ _, _ | .bool _, _ | .str _, _ | .nilp, _ | .iptr _, _ | .nils, _ | .isl _ _, _ | .nilm, _ | .nilf, _ | .hnd _ _, _ | .nili, _ => by simp [AV.ren]
  | .ptr _, h | .sl _ _ _ _ _, h | .sptr _ _ _ _ _, h | .map _, h => by simp [AV.refs] at h
  | .func fn xs ys, h => by
    simp only [AV.refs, List.append_eq_nil_iff] at h
    simp [AV.ren, renL_norefs g xs h.1, renL_norefs g ys h.2]
  | .iface t v, h => by simp only [AV.refs] at h; simp [AV.ren, ren_norefs g v h]
  | .agg n ps, h => by simp only [AV.refs] at h; simp [AV.ren, renL_norefs g ps h]
  | .arr e xs, h => by simp only [AV.refs] at h; simp [AV.ren, renL_norefs g xs h]
  | .tuple vs, h => by simp only [AV.refs] at h; simp [AV.ren, renL_norefs g vs h]
theorem renL_norefs (g : Nat → Nat) : ∀ (vs : List AV), refsL vs = [] → renL g vs = vs
  | [], _ => rfl
  | v :: vs, h => by
    simp only [refsL, List.append_eq_nil_iff] at h
    rw [renL, ren_norefs g v h.1, renL_norefs g vs h.2]
end

mutual
theorem ren_refs (g : Nat → Nat) : ∀ (v : AV), (v.ren g).refs = v.refs.map g
  | .bad | .undf | .yld | .int _ _ | .bool _ | .str _ | .nilp | .iptr _ | .nils | .isl _ _ | .nilm | .nilf | .hnd _ _ | .nili => by simp [AV.ren, AV.refs]
  | .ptr _ | .sl _ _ _ _ _ | .sptr _ _ _ _ _ | .map _ => by simp [AV.ren, AV.refs]
  | .func fn xs ys => by simp [AV.ren, AV.refs, renL_refs g xs, renL_refs g ys]
  | .iface t v => by simp [AV.ren, AV.refs, ren_refs g v]
  | .agg n ps => by simp [AV.ren, AV.refs, renL_refs g ps]
  | .arr e xs => by simp [AV.ren, AV.refs, renL_refs g xs]
  | .tuple vs => by simp [AV.ren, AV.refs, renL_refs g vs]
theorem renL_refs (g : Nat → Nat) : ∀ (vs : List AV), refsL (renL g vs) = (refsL vs).map g
  | [] => rfl
  | v :: vs => by simp [renL, refsL, ren_refs g v, renL_refs g vs]
end

/-- A number's new place. -/
structure GoodR (g : Nat → Nat) (E E' : Env) (r : Nat) : Prop where
  lt : g r < E'.top
  loc : ∀ L', E'.loc (g r) = some L' → ∃ L, E.loc r = some L ∧ (L' = L ∨ L.gen < L'.gen)
  mloc : ∀ b, E'.mloc (g r) = some b → E.mloc r = some b

theorem FR.ren {E E' : Env} {g : Nat → Nat} (hm : ∀ b o c, E.m b o = some c → E'.m b o = some c) {vs : List AV} {cs : List Value} (h : FR E vs cs) (hr : ∀ r ∈ refsL vs, GoodR g E E' r) : FR E' (renL g vs) cs := by
  induction h with
  | nil => exact .nil
  | int h ih => exact .int (ih (by simpa [refsL, AV.refs] using hr))
  | bool h ih => exact .bool (ih (by simpa [refsL, AV.refs] using hr))
  | str h ih => exact .str (ih (by simpa [refsL, AV.refs] using hr))
  | nilp h ih => exact .nilp (ih (by simpa [refsL, AV.refs] using hr))
  | nils h ih => exact .nils (ih (by simpa [refsL, AV.refs] using hr))
  | nilm h ih => exact .nilm (ih (by simpa [refsL, AV.refs] using hr))
  | @map i b vs cs h1 h2 h ih =>
    have hp := hr i (by simp [refsL, AV.refs])
    exact .map hp.lt (fun b' hb => h2 b' (hp.mloc b' hb)) (ih (fun r h => hr r (by simp [refsL, AV.refs, h])))
  | nilf h ih => exact .nilf (ih (by simpa [refsL, AV.refs] using hr))
  | hnd h ih => exact .hnd (ih (by simpa [refsL, AV.refs] using hr))
  | nili h ih => exact .nili (ih (by simpa [refsL, AV.refs] using hr))
  | @ptr p a vs cs h1 h2 h ih =>
    have hp := hr p.id (by simp [refsL, AV.refs])
    refine .ptr hp.lt (fun L hL => ?_) (ih (fun r h => hr r (by simp [refsL, AV.refs, h])))
    obtain ⟨L0, h0, h3⟩ := hp.loc L hL
    rcases h2 L0 h0 with h4 | h4 <;> rcases h3 with rfl | h3
    · exact .inl h4
    · exact .inl (by show p.gen < L.gen; omega)
    · exact .inr h4
    · exact .inl (by show p.gen < L.gen; omega)
  | @sl p esz n off len cap a vs cs h1 hlc h2 hs h ih =>
    have hp := hr p.id (by simp [refsL, AV.refs])
    refine .sl hp.lt hlc (fun L hL => ?_) hs (ih (fun r h => hr r (by simp [refsL, AV.refs, h])))
    obtain ⟨L0, h0, h3⟩ := hp.loc L hL
    rcases h2 L0 h0 with h4 | h4 <;> rcases h3 with rfl | h3
    · exact .inl h4
    · exact .inl (by show p.gen < L.gen; omega)
    · exact .inr h4
    · exact .inl (by show p.gen < L.gen; omega)
  | @sptr p esz n off len a vs cs h1 h2 h ih =>
    have hp := hr p.id (by simp [refsL, AV.refs])
    refine .sptr hp.lt (fun L hL => ?_) (ih (fun r h => hr r (by simp [refsL, AV.refs, h])))
    obtain ⟨L0, h0, h3⟩ := hp.loc L hL
    rcases h2 L0 h0 with h4 | h4 <;> rcases h3 with rfl | h3
    · exact .inl h4
    · exact .inl (by show p.gen < L.gen; omega)
    · exact .inr h4
    · exact .inl (by show p.gen < L.gen; omega)
  | @isl e xs c1 b o cap sp vs cs h1 h2 h3 h4 h5 h6 h ih1 ih =>
    refine .isl h1 ?_ h3 h4 (fun j c hc => hm _ _ _ (h5 j c hc)) h6 (ih (by simpa [refsL, AV.refs] using hr))
    have h0 := FR.evol0.refsL_of_refless h1
    have := ih1 (by rw [h0]; simp)
    rwa [renL_norefs g xs h0] at this
  | @iptr v c1 b o vs cs h1 h2 h3 h ih1 ih =>
    refine .iptr h1 ?_ (fun j c hc => hm _ _ _ (h3 j c hc)) (ih (by simpa [refsL, AV.refs] using hr))
    have h0 := FR.evol0.refs_of_refless h1
    have := ih1 (by simp [refsL, h0])
    rwa [renL, renL, ren_norefs g v h0] at this
  | func h1 h2 h3 h ih1 ih2 ih =>
    refine .func (fun x hx => ?_) (ih1 (fun r h => hr r (by simp [refsL, AV.refs, h]))) (ih2 (fun r h => hr r (by simp [refsL, AV.refs, h]))) (ih (fun r h => hr r (by simp [refsL, h])))
    rw [renL_map, renL_map, ← List.map_append, List.mem_map] at hx
    obtain ⟨y, hy, rfl⟩ := hx
    rw [ren_isAgg]
    exact h1 y hy
  | @iface t v c1 vs cs h1 h ih1 ih =>
    have := ih1 (fun r h => hr r (by simp [refsL] at h; simp [refsL, AV.refs, h]))
    rw [renL, AV.ren, ← ren_pack g v c1]
    exact .iface this (ih (fun r h => hr r (by simp [refsL, h])))
  | agg h1 hn h ih1 ih => exact .agg (ih1 (fun r h => hr r (by simp [refsL, AV.refs, h]))) hn (ih (fun r h => hr r (by simp [refsL, h])))
  | @arr e xs c1 vs cs h1 he h ih1 ih =>
    refine .arr (ih1 (fun r h => hr r (by simp [refsL, AV.refs, h]))) (fun x hx => ?_) (ih (fun r h => hr r (by simp [refsL, h])))
    rw [renL_map, List.mem_map] at hx
    obtain ⟨y, hy, rfl⟩ := hx
    rw [ren_flatLen]
    exact he y hy

theorem VR.ren {E E' : Env} {g : Nat → Nat} (hm : ∀ b o c, E.m b o = some c → E'.m b o = some c) (hy : E'.yl = E.yl) {v : AV} {c : Value} (h : VR E v c) (hr : ∀ r ∈ v.refs, GoodR g E E' r) : VR E' (v.ren g) c := by
  have key : ∀ {v : AV} {c : Value}, PR E v c → (∀ r ∈ v.refs, GoodR g E E' r) → PR E' (v.ren g) c := fun {v c} h hr => by
    obtain ⟨cs, h1, h2⟩ := h
    exact ⟨cs, h1.ren hm (by simpa [refsL] using hr), by rw [ren_pack]; exact h2⟩
  cases v with
  | bad => trivial
  | undf => exact h
  | yld => exact (show c = _ from h).trans (by rw [hy])
  | tuple vs =>
    obtain ⟨cvs, h1, h2, h3⟩ := h
    refine ⟨cvs, h1, by rw [renL_length]; exact h2, fun i v c hv hc => ?_⟩
    rw [renL_map, List.getElem?_map, Option.map_eq_some_iff] at hv
    obtain ⟨u, hu, rfl⟩ := hv
    rcases h3 i u c hu hc with rfl | hp
    · exact .inl rfl
    · exact .inr (key hp (fun r hr' => hr r (by simp only [AV.refs]; exact mem_refsL (List.mem_of_getElem? hu) hr')))
  | _ => exact VR.of_PR (key (show PR E _ c from h) hr)

/-! ### The piece -/
def idx : List Nat → Nat → Nat
  | [], _ => 0
  | i :: r, x => if i == x then 0 else idx r x + 1

theorem idx_get : ∀ {l : List Nat} {x : Nat}, x ∈ l → l[idx l x]? = some x
  | i :: r, x, h => by
    unfold idx
    by_cases hx : i = x
    · subst hx; simp
    · have : x ∈ r := by
        rcases List.mem_cons.1 h with h | h
        · exact absurd h.symm hx
        · exact h
      simp [hx, idx_get this]
theorem idx_lt {l : List Nat} {x : Nat} (h : x ∈ l) : idx l x < l.length := (List.getElem?_eq_some_iff.1 (idx_get h)).1
theorem idx_ne {l : List Nat} {k x : Nat} (h : k ≠ x) : idx (k :: l) x = idx l x + 1 := by
  show (if (k == x) = true then 0 else idx l x + 1) = _
  rw [if_neg (by simpa using h)]
theorem idx_eq {l : List Nat} {x : Nat} : idx (x :: l) x = 0 := by
  show (if (x == x) = true then 0 else idx l x + 1) = _
  rw [if_pos (by simp)]
theorem idx_of : ∀ {l : List Nat} (_ : l.Nodup) {j x : Nat} (_ : l[j]? = some x), idx l x = j
  | [], _, j, x, h => by simp at h
  | i :: r, hn, 0, x, h => by
    obtain rfl : i = x := by simpa using h
    exact idx_eq
  | i :: r, hn, j + 1, x, h => by
    obtain ⟨h1, h2⟩ := List.nodup_cons.1 hn
    have h3 : r[j]? = some x := by simpa using h
    rw [idx_ne (k := i) (x := x) (fun he => h1 (by rw [he]; exact List.mem_of_getElem? h3)), idx_of h2 h3]

def renBk (g : Nat → Nat) (b : Blk) : Blk := if b.flat then b else ⟨b.root.ren g, b.grow, b.flat⟩
def renB (g : Nat → Nat) : Option Blk → Option Blk
  | some b => some (if b.root.isTup then b else renBk g b)
  | none => none

theorem renBk_isTup (g : Nat → Nat) (b : Blk) : (renBk g b).root.isTup = b.root.isTup := by
  unfold renBk
  split
  · rfl
  · exact ren_isTup g b.root
theorem blkOf_renB (g : Nat → Nat) (x : Option Blk) : blkOf (renB g x) = (blkOf x).map (renBk g) := by
  cases x with
  | none => rfl
  | some b =>
    unfold renB
    cases h : b.root.isTup with
    | true => simp [blkOf, h]
    | false => simp [blkOf, h, renBk_isTup]
theorem mpOf_renB (g : Nat → Nat) (x : Option Blk) : mpOf (renB g x) = mpOf x := by
  cases x with
  | none => rfl
  | some b =>
    cases h : b.root.isTup with
    | true => simp [renB, h]
    | false =>
      have h0 : renB g (some b) = some (renBk g b) := by simp [renB, h]
      rw [h0]
      have h' : (renBk g b).root.isTup = false := by rw [renBk_isTup, h]
      generalize renBk g b = b' at h'
      obtain ⟨r, x, y⟩ := b
      obtain ⟨r', x', y'⟩ := b'
      cases r <;> cases r' <;> simp_all [mpOf, AV.isTup]
theorem renBk_flat (g : Nat → Nat) (b : Blk) : (renBk g b).flat = b.flat := by
  unfold renBk
  split <;> rfl
theorem renBk_refs (g : Nat → Nat) (b : Blk) (hf : b.flat = true → b.root.refs = []) : (renBk g b).root.refs = b.root.refs.map g := by
  unfold renBk
  split
  · rename_i h; rw [hf h]; rfl
  · exact ren_refs g b.root

def pieceH (p : List Nat) (H : Heap) : Heap := p.map fun i => renB (idx p) (H.raw i)
def Env.piece (E : Env) (p : List Nat) : Env := ⟨fun j => (p[j]?).bind E.loc, E.m, p.length, fun j => (p[j]?).bind E.mloc, E.yl⟩

theorem Heap.blk_raw (H : Heap) (i : Nat) : H.blk i = blkOf (H.raw i) := rfl
theorem Heap.mp_raw (H : Heap) (i : Nat) : H.mp i = mpOf (H.raw i) := rfl
theorem pieceH_raw (p : List Nat) (H : Heap) (j : Nat) : (pieceH p H).raw j = (p[j]?).bind fun i => renB (idx p) (H.raw i) := by
  unfold pieceH
  rw [Heap.raw, List.getElem?_map]
  cases p[j]? <;> rfl
theorem pieceH_blk (p : List Nat) (H : Heap) (j : Nat) : (pieceH p H).blk j = (p[j]?).bind fun i => (H.blk i).map (renBk (idx p)) := by
  rw [Heap.blk_raw, pieceH_raw]
  cases p[j]? with
  | none => rfl
  | some i => simp only [Option.bind_some]; rw [blkOf_renB]; rfl
theorem pieceH_mp (p : List Nat) (H : Heap) (j : Nat) : (pieceH p H).mp j = (p[j]?).bind H.mp := by
  rw [Heap.mp_raw, pieceH_raw]
  cases p[j]? with
  | none => rfl
  | some i => simp only [Option.bind_some]; rw [mpOf_renB]; rfl

/-- A piece of memory: nothing in it leads out of it. -/
structure Piece (H : Heap) (p : List Nat) : Prop where
  nodup : p.Nodup
  lt : ∀ i ∈ p, i < H.length
  closed : ∀ i ∈ p, ∀ bk, H.blk i = some bk → bk.flat = false → ∀ r ∈ bk.root.refs, r ∈ p

section
variable {B : Nat} {E : Env} {H : Heap} {w : World} {p : List Nat}

theorem good_piece {r : Nat} (hr : r ∈ p) : GoodR (idx p) E (E.piece p) r :=
  ⟨idx_lt hr, fun L' h => ⟨L', by simpa [Env.piece, idx_get hr] using h, .inl rfl⟩, fun b h => by simpa [Env.piece, idx_get hr] using h⟩

theorem BlkAt.ren {E E' : Env} {g : Nat → Nat} {bk : Blk} {L : Loc} {w w' : World} (hm : ∀ b o c, E.m b o = some c → E'.m b o = some c) (h : BlkAt E bk L w) (hr : bk.flat = false → ∀ r ∈ bk.root.refs, GoodR g E E' r) (hf : bk.flat = true → bk.root.refs = [])
    (hw : ∀ j, j < L.ext → w'.cell? ⟨L.b, L.base + j, none⟩ = w.cell? ⟨L.b, L.base + j, none⟩ ∧ w'.frozen? ⟨L.b, L.base + j, none⟩ = w.frozen? ⟨L.b, L.base + j, none⟩) : BlkAt E' (renBk g bk) L w' := by
  obtain ⟨⟨cs, h1, h2, h3⟩, h4, h5⟩ := h
  refine ⟨⟨cs, ?_, h2, fun j c hj => ?_⟩, h4, fun j hj => ?_⟩
  · cases hfl : bk.flat with
    | true =>
      have hx := h1.ren (g := g) hm (by simp [refsL, hf hfl])
      rw [renL, renL, ren_norefs g _ (hf hfl)] at hx
      unfold renBk
      rw [if_pos hfl]
      exact hx
    | false =>
      have hx := h1.ren (g := g) hm (fun r h => hr hfl r (by simpa [refsL] using h))
      unfold renBk
      rw [if_neg (by simp [hfl])]
      exact hx
  · have hlt : j < cs.length := (List.getElem?_eq_some_iff.1 hj).1
    rw [(hw j (by omega)).1]
    exact h3 j c hj
  · rw [(hw j hj).1, (hw j hj).2]
    exact h5 j hj

theorem inE_piece {b o : Nat} (h : InE (E.piece p) b o) : ∃ i ∈ p, ∃ L, E.loc i = some L ∧ L.has b o := by
  obtain ⟨j, L, h1, h2⟩ := h
  simp only [Env.piece, Option.bind_eq_some_iff] at h1
  obtain ⟨i, h3, h4⟩ := h1
  exact ⟨i, List.mem_of_getElem? h3, L, h4, h2⟩
theorem inM_piece {j : Nat} (h : InM (E.piece p) j) : ∃ i ∈ p, E.mloc i = some j := by
  obtain ⟨k, h1⟩ := h
  simp only [Env.piece, Option.bind_eq_some_iff] at h1
  obtain ⟨i, h3, h4⟩ := h1
  exact ⟨i, List.mem_of_getElem? h3, h4⟩

theorem Sim.piece (hs : Sim B E H w) (hp : Piece H p) : Sim B (E.piece p) (pieceH p H) w := by
  refine ⟨by simp [Env.piece, pieceH], fun j bk hj => ?_, fun j L hj => ?_, fun i j Li Lj hi hj hij => ?_, hs.imm, fun b o c hc hin => ?_, fun j bk hj hf => ?_, hs.old, fun j es hj => ?_, fun j b hj => ?_, fun i j b hi hj => ?_⟩
  · rw [pieceH_blk] at hj
    simp only [Option.bind_eq_some_iff, Option.map_eq_some_iff] at hj
    obtain ⟨i, h1, bk0, h2, rfl⟩ := hj
    obtain ⟨L, h3, h4, h5⟩ := hs.live i bk0 h2
    refine ⟨L, by simp [Env.piece, h1, h3], BlkAt.ren (E := E) (E' := E.piece p) (fun _ _ _ h => h) h4 (fun hf r hr => good_piece (hp.closed i (List.mem_of_getElem? h1) bk0 h2 hf r hr)) (hs.flat i bk0 h2) (fun _ _ => ⟨rfl, rfl⟩), h5⟩
  · simp only [Env.piece, Option.bind_eq_some_iff] at hj
    obtain ⟨i, h1, h2⟩ := hj
    obtain ⟨bk, h3⟩ := hs.dead i L h2
    exact ⟨_, by rw [pieceH_blk, h1, Option.bind_some, h3, Option.map_some]⟩
  · simp only [Env.piece, Option.bind_eq_some_iff] at hi hj
    obtain ⟨i', h1, h2⟩ := hi
    obtain ⟨j', h3, h4⟩ := hj
    refine hs.apart i' j' Li Lj h2 h4 (fun he => hij ?_)
    subst he
    rw [← idx_of hp.nodup h1, ← idx_of hp.nodup h3]
  · obtain ⟨i, _, L, h1, h2⟩ := inE_piece hin
    exact hs.immApart b o c hc ⟨i, L, h1, h2⟩
  · rw [pieceH_blk] at hj
    simp only [Option.bind_eq_some_iff, Option.map_eq_some_iff] at hj
    obtain ⟨i, h1, bk0, h2, rfl⟩ := hj
    rw [renBk_refs _ _ (hs.flat i bk0 h2), hs.flat i bk0 h2 (by rw [← renBk_flat (idx p)]; exact hf)]
    rfl
  · rw [pieceH_mp] at hj
    simp only [Option.bind_eq_some_iff] at hj
    obtain ⟨i, h1, h2⟩ := hj
    obtain ⟨b, h3, h4⟩ := hs.mlive i es h2
    exact ⟨b, by simp [Env.piece, h1, h3], h4⟩
  · simp only [Env.piece, Option.bind_eq_some_iff] at hj
    obtain ⟨i, h1, h2⟩ := hj
    obtain ⟨es, h3⟩ := hs.mdead i b h2
    exact ⟨es, by rw [pieceH_mp, h1, Option.bind_some, h3]⟩
  · simp only [Env.piece, Option.bind_eq_some_iff] at hi hj
    obtain ⟨i', h1, h2⟩ := hi
    obtain ⟨j', h3, h4⟩ := hj
    have := hs.mapart i' j' b h2 h4
    subst this
    rw [← idx_of hp.nodup h1, ← idx_of hp.nodup h3]

/-! ### Back -/
def backN (p : List Nat) (n j : Nat) : Nat := match p[j]? with
  | some i => i
  | none => n + (j - p.length)

def setAll (f : Option Blk → Option Blk) : List Nat → Heap → Heap → Heap
  | i :: r, b :: bs, H => setAll f r bs (H.set i (f b))
  | _, _, H => H

def backH (p : List Nat) (H H1 : Heap) : Heap := setAll (renB (backN p H.length)) p H1 H ++ (H1.drop p.length).map (renB (backN p H.length))

theorem setAll_length (f : Option Blk → Option Blk) : ∀ (p : List Nat) (H1 H : Heap), (setAll f p H1 H).length = H.length
  | [], _, _ => by simp [setAll]
  | _ :: _, [], _ => by simp [setAll]
  | i :: r, b :: bs, H => by rw [setAll, setAll_length f r bs]; simp

theorem raw_set {H : Heap} {i j : Nat} {x : Option Blk} (hi : i < H.length) : Heap.raw (H.set i x) j = if i = j then x else H.raw j := get_set hi

theorem setAll_raw (f : Option Blk → Option Blk) : ∀ (p : List Nat) (H1 H : Heap), p.Nodup → (∀ i ∈ p, i < H.length) → p.length ≤ H1.length → ∀ i, (setAll f p H1 H).raw i = if i ∈ p then f (H1.raw (idx p i)) else H.raw i
  | [], H1, H, _, _, _, i => by simp [setAll]
  | _ :: _, [], H, _, _, hl, i => by simp at hl
  | k :: r, b :: bs, H, hn, hlt, hl, i => by
    obtain ⟨hk, hn'⟩ := List.nodup_cons.1 hn
    rw [setAll, setAll_raw f r bs (H.set k (f b)) hn' (fun j hj => by rw [List.length_set]; exact hlt j (List.mem_cons_of_mem _ hj)) (by simpa using hl) i]
    by_cases hi : i ∈ r
    · have hki : k ≠ i := fun he => hk (he ▸ hi)
      rw [if_pos hi, if_pos (List.mem_cons_of_mem _ hi), idx_ne hki]
      rfl
    · rw [if_neg hi, raw_set (hlt k List.mem_cons_self)]
      by_cases hki : k = i
      · subst hki
        rw [if_pos rfl, if_pos List.mem_cons_self, idx_eq]
        rfl
      · rw [if_neg hki, if_neg (by simp [hi, Ne.symm hki])]

/-- Where a number comes from. -/
def srcN (p : List Nat) (n i : Nat) : Option Nat := if i ∈ p then some (idx p i) else if i < n then none else some (i - n + p.length)

theorem src_back {n : Nat} (hn : p.Nodup) (hlt : ∀ i ∈ p, i < n) (j : Nat) : srcN p n (backN p n j) = some j := by
  unfold backN srcN
  cases hj : p[j]? with
  | some i =>
    simp only
    rw [if_pos (List.mem_of_getElem? hj), idx_of hn hj]
  | none =>
    simp only
    have hj' : p.length ≤ j := by simpa using hj
    rw [if_neg (fun h => absurd (hlt _ h) (by omega)), if_neg (by omega)]
    congr 1
    omega
theorem back_src {n i j : Nat} (h : srcN p n i = some j) : backN p n j = i := by
  unfold srcN at h
  unfold backN
  split at h
  · rename_i hi
    obtain rfl := Option.some.inj h
    rw [idx_get hi]
  · split at h
    · cases h
    · rename_i h1 h2
      obtain rfl := Option.some.inj h
      rw [List.getElem?_eq_none (by omega)]
      simp only
      omega
theorem src_none {n i : Nat} (h : srcN p n i = none) : i ∉ p ∧ i < n := by
  unfold srcN at h
  split at h
  · cases h
  · split at h
    · exact ⟨by assumption, by assumption⟩
    · cases h

theorem backH_raw {H1 : Heap} (hp : Piece H p) (hl : p.length ≤ H1.length) (i : Nat) : (backH p H H1).raw i = match srcN p H.length i with
    | some j => renB (backN p H.length) (H1.raw j)
    | none => H.raw i := by
  unfold backH
  rw [Heap.raw, List.getElem?_append, setAll_length]
  by_cases hi : i < H.length
  · rw [if_pos hi]
    show Heap.raw _ i = _
    rw [setAll_raw _ p H1 H hp.nodup hp.lt hl]
    unfold srcN
    by_cases hm : i ∈ p
    · rw [if_pos hm, if_pos hm]
    · rw [if_neg hm, if_neg hm, if_pos hi]
  · rw [if_neg hi]
    unfold srcN
    rw [if_neg (fun h => hi (hp.lt i h)), if_neg hi]
    simp only
    rw [List.getElem?_map, List.getElem?_drop]
    unfold Heap.raw
    rw [show p.length + (i - H.length) = i - H.length + p.length by omega]
    cases H1[i - H.length + p.length]? <;> rfl
theorem backH_blk {H1 : Heap} (hp : Piece H p) (hl : p.length ≤ H1.length) (i : Nat) : (backH p H H1).blk i = match srcN p H.length i with
    | some j => (H1.blk j).map (renBk (backN p H.length))
    | none => H.blk i := by
  rw [Heap.blk_raw, backH_raw hp hl]
  cases srcN p H.length i with
  | none => rfl
  | some j => simp only; rw [blkOf_renB]; rfl
theorem backH_mp {H1 : Heap} (hp : Piece H p) (hl : p.length ≤ H1.length) (i : Nat) : (backH p H H1).mp i = match srcN p H.length i with
    | some j => H1.mp j
    | none => H.mp i := by
  rw [Heap.mp_raw, backH_raw hp hl]
  cases srcN p H.length i with
  | none => rfl
  | some j => simp only; rw [mpOf_renB]; rfl

def Env.back (E E1 : Env) (p : List Nat) (n : Nat) : Env := ⟨fun i => match srcN p n i with | some j => E1.loc j | none => E.loc i, E1.m, n + (E1.top - p.length), fun i => match srcN p n i with | some j => E1.mloc j | none => E.mloc i, E1.yl⟩

theorem piece_back {E1 : Env} {H1 : Heap} {w' : World} {v : AV} {c : Value} {e : Bool} (hs : Sim B E H w) (hp : Piece H p) (R : Res B (pieceH p H).length (E.piece p) (pieceH p H) w v H1 e E1 w' c) :
    Res B H.length E H w (v.ren (backN p H.length)) (backH p H H1) e (E.back E1 p H.length) w' c := by
  have hm0 : (pieceH p H).length = p.length := by simp [pieceH]
  have hl : p.length ≤ H1.length := by rw [← hm0]; exact R.len
  have htop := R.sim.top
  have hsb := src_back (n := H.length) hp.nodup hp.lt
  have hgood : ∀ r, r < E1.top → GoodR (backN p H.length) E1 (E.back E1 p H.length) r := fun r hr => by
    refine ⟨?_, fun L' h => ⟨L', ?_, .inl rfl⟩, fun b h => ?_⟩
    · show backN p H.length r < H.length + (E1.top - p.length)
      unfold backN
      cases hj : p[r]? with
      | some i => have := hp.lt i (List.mem_of_getElem? hj); simp only; omega
      | none =>
        have hj' : p.length ≤ r := by simpa using hj
        simp only
        omega
    · simpa [Env.back, hsb r] using h
    · simpa [Env.back, hsb r] using h
  have hmm : ∀ b o c, E1.m b o = some c → (E.back E1 p H.length).m b o = some c := fun _ _ _ h => h
  have hev : Evol H.length E (E.back E1 p H.length) := by
    refine ⟨fun i hi L' h => ?_, fun b o c h => R.tr.evol.m b o c h, fun i hi b h => ?_, R.tr.evol.yl⟩
    · simp only [Env.back] at h
      cases hsr : srcN p H.length i with
      | none => rw [hsr] at h; exact ⟨L', h, .inl rfl⟩
      | some j =>
        rw [hsr] at h
        have hmem : i ∈ p := by
          unfold srcN at hsr
          split at hsr
          · assumption
          · first | cases hsr | (rw [if_pos hi] at hsr; cases hsr)
        have hj : j = idx p i := by
          unfold srcN at hsr
          rw [if_pos hmem] at hsr
          exact (Option.some.inj hsr).symm
        subst hj
        obtain ⟨L, h1, h2⟩ := R.tr.evol.loc (idx p i) (by rw [hm0]; exact idx_lt hmem) L' h
        exact ⟨L, by simpa [Env.piece, idx_get hmem] using h1, h2⟩
    · simp only [Env.back] at h
      cases hsr : srcN p H.length i with
      | none => rw [hsr] at h; exact h
      | some j =>
        rw [hsr] at h
        have hmem : i ∈ p := by
          unfold srcN at hsr
          split at hsr
          · assumption
          · first | cases hsr | (rw [if_pos hi] at hsr; cases hsr)
        have hj : j = idx p i := by
          unfold srcN at hsr
          rw [if_pos hmem] at hsr
          exact (Option.some.inj hsr).symm
        subst hj
        have h1 := R.tr.evol.mloc (idx p i) (by rw [hm0]; exact idx_lt hmem) b h
        simpa [Env.piece, idx_get hmem] using h1
  have hinE : ∀ {b o}, InE (E.piece p) b o → InE E b o := fun h => by
    obtain ⟨i, _, L, h1, h2⟩ := inE_piece h
    exact ⟨i, L, h1, h2⟩
  have hinM : ∀ {j}, InM (E.piece p) j → InM E j := fun h => by
    obtain ⟨i, _, h1⟩ := inM_piece h
    exact ⟨i, h1⟩
  -- what lies outside of the piece
  have hroom : ∀ {i L b o}, E.loc i = some L → L.has b o → b < w.heap.size := fun {i L b o} hi hh => by
    obtain ⟨bk, hb⟩ := hs.dead i L hi
    obtain ⟨L2, h1, h2, _⟩ := hs.live i bk hb
    rw [hi] at h1
    obtain rfl := Option.some.inj h1
    obtain ⟨rfl, g1, g2⟩ := hh
    have := (h2.room (o - L.base) (by omega)).1
    obtain ⟨c, hc⟩ := Option.isSome_iff_exists.1 this
    exact World.block_lt_of_cell? w _ hc
  have hout : ∀ {i L b o}, i ∉ p → E.loc i = some L → L.has b o → ¬ InE (E.piece p) b o := fun {i L b o} hi hL hh hin => by
    obtain ⟨k, hk, L2, h1, h2⟩ := inE_piece hin
    exact hs.apart i k L L2 hL h1 (fun he => hi (he ▸ hk)) b o hh h2
  have hmlt : ∀ {i b}, E.mloc i = some b → b < w.heap.size := fun {i b} hi => by
    obtain ⟨es, he⟩ := hs.mdead i b hi
    obtain ⟨b', h1, ⟨vs, clock, h2, _⟩, _⟩ := hs.mlive i es he
    rw [hi] at h1
    obtain rfl := Option.some.inj h1
    rcases Nat.lt_or_ge b w.heap.size with h | h
    · exact h
    · rw [Array.getElem?_eq_none h] at h2; cases h2
  have hmout : ∀ {i b}, i ∉ p → E.mloc i = some b → ¬ InM (E.piece p) b := fun {i b} hi hL hin => by
    obtain ⟨k, hk, h1⟩ := inM_piece hin
    exact hi (hs.mapart i k b hL h1 ▸ hk)
  refine ⟨⟨?_, fun i bk hi => ?_, fun i L hi => ?_, fun i j Li Lj hi hj hij b o hbi hbj => ?_, R.sim.imm, fun b o c hc hin => ?_, fun i bk hi hf => ?_, R.sim.old, fun i es hi => ?_, fun i b hi => ?_, fun i j b hi hj => ?_⟩,
    R.val.ren hmm rfl (fun r hr => hgood r (R.val.refs_lt r hr)),
    ⟨R.tr.below, hev, fun b o hb hn => R.tr.frame b o hb (fun h => hn (hinE h)), fun b o hb h => ?_, fun b o c hb h => (R.tr.imm b o c hb h).imp (fun h => h) hinE, fun j o ho hn hM => R.tr.objs j o ho hn (fun h => hM (hinM h)), fun j hj h => ?_⟩, ?_, fun he i hi b' hb' => ?_⟩
  · show H.length + (E1.top - p.length) = _
    unfold backH
    rw [List.length_append, setAll_length, List.length_map, List.length_drop, htop]
  · rw [backH_blk hp hl] at hi
    simp only [Env.back]
    cases hsr : srcN p H.length i with
    | some j =>
      rw [hsr] at hi
      simp only [Option.map_eq_some_iff] at hi
      obtain ⟨bk1, h1, rfl⟩ := hi
      obtain ⟨L, h2, h3, h4⟩ := R.sim.live j bk1 h1
      exact ⟨L, h2, h3.ren hmm (fun _ r hr => hgood r (h3.refs_lt r hr)) (R.sim.flat j bk1 h1) (fun _ _ => ⟨rfl, rfl⟩), h4⟩
    | none =>
      rw [hsr] at hi
      obtain ⟨hni, hlt⟩ := src_none hsr
      obtain ⟨L, h2, ⟨⟨cs, k1, k2, k3⟩, k4, k5⟩, h4⟩ := hs.live i bk hi
      have hcell : ∀ j, j < L.ext → w'.cell? ⟨L.b, L.base + j, none⟩ = w.cell? ⟨L.b, L.base + j, none⟩ ∧ w'.frozen? ⟨L.b, L.base + j, none⟩ = w.frozen? ⟨L.b, L.base + j, none⟩ := fun j hj =>
        R.tr.frame L.b (L.base + j) (hroom (o := L.base + j) h2 ⟨rfl, by omega, by omega⟩) (hout (o := L.base + j) hni h2 ⟨rfl, by omega, by omega⟩)
      refine ⟨L, h2, ⟨⟨cs, k1.evol hev (by show H.length ≤ H.length + _; omega) (fun r hr => by rw [← hs.top]; exact k1.refs_lt r hr), k2, fun j c hj => ?_⟩, k4, fun j hj => ?_⟩, h4⟩
      · have hlt : j < cs.length := (List.getElem?_eq_some_iff.1 hj).1
        rw [(hcell j (by omega)).1]
        exact k3 j c hj
      · rw [(hcell j hj).1, (hcell j hj).2]
        exact k5 j hj
  · rw [backH_blk hp hl]
    simp only [Env.back] at hi
    cases hsr : srcN p H.length i with
    | some j =>
      rw [hsr] at hi
      obtain ⟨bk, hb⟩ := R.sim.dead j L hi
      refine ⟨renBk (backN p H.length) bk, ?_⟩
      simp only
      rw [hb]
      rfl
    | none =>
      rw [hsr] at hi
      exact hs.dead i L hi
  · simp only [Env.back] at hi hj
    cases hsi : srcN p H.length i with
    | some i1 =>
      rw [hsi] at hi
      cases hsj : srcN p H.length j with
      | some j1 =>
        rw [hsj] at hj
        refine R.sim.apart i1 j1 Li Lj hi hj (fun he => hij ?_) b o hbi hbj
        rw [← back_src hsi, ← back_src hsj, he]
      | none =>
        rw [hsj] at hj
        exact hout (src_none hsj).1 hj hbj (R.tr.ext b o (hroom hj hbj) ⟨i1, Li, hi, hbi⟩)
    | none =>
      rw [hsi] at hi
      cases hsj : srcN p H.length j with
      | some j1 =>
        rw [hsj] at hj
        exact hout (src_none hsi).1 hi hbi (R.tr.ext b o (hroom hi hbi) ⟨j1, Lj, hj, hbj⟩)
      | none =>
        rw [hsj] at hj
        exact hs.apart i j Li Lj hi hj hij b o hbi hbj
  · obtain ⟨i, L, hi, hh⟩ := hin
    simp only [Env.back] at hi
    cases hsi : srcN p H.length i with
    | some i1 =>
      rw [hsi] at hi
      exact R.sim.immApart b o c hc ⟨i1, L, hi, hh⟩
    | none =>
      rw [hsi] at hi
      rcases R.tr.imm b o c (hroom hi hh) hc with h | h
      · exact hs.immApart b o c h ⟨i, L, hi, hh⟩
      · exact hout (src_none hsi).1 hi hh h
  · rw [backH_blk hp hl] at hi
    cases hsr : srcN p H.length i with
    | some j =>
      rw [hsr] at hi
      simp only [Option.map_eq_some_iff] at hi
      obtain ⟨bk1, h1, rfl⟩ := hi
      have h2 := R.sim.flat j bk1 h1
      rw [renBk_refs _ _ h2, h2 (by rw [← renBk_flat (backN p H.length)]; exact hf)]
      rfl
    | none =>
      rw [hsr] at hi
      exact hs.flat i bk hi hf
  · rw [backH_mp hp hl] at hi
    simp only [Env.back]
    cases hsr : srcN p H.length i with
    | some j =>
      rw [hsr] at hi
      exact R.sim.mlive j es hi
    | none =>
      rw [hsr] at hi
      obtain ⟨b, h1, ⟨vs, clock, h2, h3⟩, h4⟩ := hs.mlive i es hi
      exact ⟨b, h1, ⟨vs, clock, R.tr.objs b _ h2 rfl (hmout (src_none hsr).1 h1), h3⟩, h4⟩
  · rw [backH_mp hp hl]
    simp only [Env.back] at hi
    cases hsr : srcN p H.length i with
    | some j =>
      rw [hsr] at hi
      exact R.sim.mdead j b hi
    | none =>
      rw [hsr] at hi
      exact hs.mdead i b hi
  · simp only [Env.back] at hi hj
    cases hsi : srcN p H.length i with
    | some i1 =>
      rw [hsi] at hi
      cases hsj : srcN p H.length j with
      | some j1 =>
        rw [hsj] at hj
        rw [← back_src hsi, ← back_src hsj, R.sim.mapart i1 j1 b hi hj]
      | none =>
        rw [hsj] at hj
        exact absurd (R.tr.extM b (hmlt hj) ⟨i1, hi⟩) (hmout (src_none hsj).1 hj)
    | none =>
      rw [hsi] at hi
      cases hsj : srcN p H.length j with
      | some j1 =>
        rw [hsj] at hj
        exact absurd (R.tr.extM b (hmlt hi) ⟨j1, hj⟩) (hmout (src_none hsi).1 hi)
      | none =>
        rw [hsj] at hj
        exact hs.mapart i j b hi hj
  · obtain ⟨i, L, hi, hh⟩ := h
    simp only [Env.back] at hi
    cases hsi : srcN p H.length i with
    | some i1 =>
      rw [hsi] at hi
      exact hinE (R.tr.ext b o hb ⟨i1, L, hi, hh⟩)
    | none =>
      rw [hsi] at hi
      exact ⟨i, L, hi, hh⟩
  · obtain ⟨i, hi⟩ := h
    simp only [Env.back] at hi
    cases hsi : srcN p H.length i with
    | some i1 =>
      rw [hsi] at hi
      exact hinM (R.tr.extM j hj ⟨i1, hi⟩)
    | none =>
      rw [hsi] at hi
      exact ⟨i, hi⟩
  · unfold backH
    rw [List.length_append, setAll_length]
    omega
  · rw [backH_blk hp hl] at hb'
    cases hsr : srcN p H.length i with
    | none =>
      rw [hsr] at hb'
      exact ⟨b', hb', fun _ h => h⟩
    | some j =>
      rw [hsr] at hb'
      simp only [Option.map_eq_some_iff] at hb'
      obtain ⟨bk1, h1, rfl⟩ := hb'
      have hmem : i ∈ p := by
        unfold srcN at hsr
        split at hsr
        · assumption
        · first | cases hsr | (rw [if_pos hi] at hsr; cases hsr)
      have hj : j = idx p i := by
        unfold srcN at hsr
        rw [if_pos hmem] at hsr
        exact (Option.some.inj hsr).symm
      subst hj
      obtain ⟨b0, k1, k2⟩ := R.sub he (idx p i) (by rw [hm0]; exact idx_lt hmem) bk1 h1
      rw [pieceH_blk, idx_get hmem, Option.bind_some, Option.map_eq_some_iff] at k1
      obtain ⟨b, k3, rfl⟩ := k1
      refine ⟨b, k3, fun x hx => ?_⟩
      rw [renBk_refs _ _ (R.sim.flat _ bk1 h1), List.mem_map] at hx
      obtain ⟨y, hy, rfl⟩ := hx
      have hy2 := k2 y hy
      rw [renBk_refs _ _ (hs.flat i b k3), List.mem_map] at hy2
      obtain ⟨z, hz, rfl⟩ := hy2
      have hzp : z ∈ p := by
        refine hp.closed i hmem b k3 ?_ z hz
        cases hf : b.flat with
        | false => rfl
        | true => rw [hs.flat i b k3 hf] at hz; cases hz
      unfold backN
      rw [idx_get hzp]
      exact hz
end

end Go.X
/-
  Pieces of memory: what is told of calls on a piece of memory, its blocks numbered in the order in which they are met, holds on any memory.
-/
namespace Go.X
open Go.RowKit (Below)

theorem reach_lt {H : Heap} {n : Nat} : ∀ (k : Nat) (todo seen keep : List Nat), reach H 0 k todo seen = some keep → (∀ i bk, H.blk i = some bk → ∀ r ∈ bk.root.refs, r < n) → (∀ i ∈ todo, i < n) → (∀ i ∈ seen, i < n) → seen.Nodup →
    (∀ i ∈ keep, i < n) ∧ keep.Nodup
  | 0, [], seen, keep, h, hb, ht, hs, hn => by
    obtain rfl : seen = keep := by simpa [reach] using h
    exact ⟨hs, hn⟩
  | k + 1, [], seen, keep, h, hb, ht, hs, hn => by
    obtain rfl : seen = keep := by simpa [reach] using h
    exact ⟨hs, hn⟩
  | 0, i :: todo, seen, keep, h, _, _, _, _ => by simp [reach] at h
  | k + 1, i :: todo, seen, keep, h, hb, ht, hs, hn => by
    unfold reach at h
    rw [if_neg (Nat.not_lt_zero i)] at h
    have ht' : ∀ j ∈ todo, j < n := fun j hj => ht j (List.mem_cons_of_mem _ hj)
    split at h
    · exact reach_lt k todo seen keep h hb ht' hs hn
    · rename_i hc
      have hi : i ∉ seen := by simpa using hc
      have hs' : ∀ j ∈ i :: seen, j < n := fun j hj => by
        rcases List.mem_cons.1 hj with rfl | hj
        · exact ht j List.mem_cons_self
        · exact hs j hj
      have hn' : (i :: seen).Nodup := List.nodup_cons.2 ⟨hi, hn⟩
      split at h
      · rename_i b hbk
        refine reach_lt k _ (i :: seen) keep h hb (fun j hj => ?_) hs' hn'
        split at hj
        · exact ht' j hj
        · rcases List.mem_append.1 hj with hj | hj
          · exact hb i b hbk j hj
          · exact ht' j hj
      · exact reach_lt k todo (i :: seen) keep h hb ht' hs' hn'

/-- What the values lead to, in the order in which it is met. -/
def pieceOf (H : Heap) (args : List AV) : Option (List Nat) := (reach H 0 1000 (refsL args) []).map List.reverse

theorem pieceOf_ok {B : Nat} {E : Env} {H : Heap} {w : World} (hs : Sim B E H w) {args : List AV} {p : List Nat} (ha : ∀ r ∈ refsL args, r < H.length) (h : pieceOf H args = some p) : Piece H p ∧ ∀ r ∈ refsL args, r ∈ p := by
  unfold pieceOf at h
  rw [Option.map_eq_some_iff] at h
  obtain ⟨keep, hk, rfl⟩ := h
  obtain ⟨h1, _, h3⟩ := reach_ok _ _ _ _ hk (fun i hi => by simp at hi)
  obtain ⟨h4, h5⟩ := reach_lt (n := H.length) _ _ _ _ hk (fun i bk hb r hr => by
    obtain ⟨L, _, k2, _⟩ := hs.live i bk hb
    rw [← hs.top]
    exact k2.refs_lt r hr) ha (by simp) List.nodup_nil
  refine ⟨⟨by rw [List.Nodup, List.pairwise_reverse]; exact h5.imp Ne.symm, fun i hi => h4 i (by simpa using hi), fun i hi bk hb hf r hr => ?_⟩, fun r hr => ?_⟩
  · rcases h1 i (by simpa using hi) bk hb hf r hr with h | h | h
    · omega
    · simpa using h
    · simp at h
  · rcases h3 r hr with h | h
    · omega
    · simpa using h

/-- An oracle, asked of pieces. -/
def locF (K : Oracle) : Oracle := fun f args H => (pieceOf H args).bind fun p => (K f (renL (idx p) args) (pieceH p H)).map fun r => (r.1.ren (backN p H.length), backH p H r.2.1, r.2.2)

theorem GlobOk.piece {G : Nat → Option AV} {E : Env} (h : GlobOk G E) (p : List Nat) : GlobOk G (E.piece p) := fun g v hg => by
  have h1 := VR.ren (E := E) (E' := E.piece p) (g := idx p) (fun _ _ _ h => h) rfl (h g v hg) (by simp [AV.refs])
  simpa [AV.ren] using h1

theorem loc_sound {P : Program} {G : Nat → Option AV} {K : Oracle} (hK : ∀ B, OracleSound P B G K) (B : Nat) : OracleSound P B G (locF K) := by
  intro f args H v H' e h E w cargs hs hG hl hv
  unfold locF at h
  simp only [Option.bind_eq_some_iff, Option.map_eq_some_iff, Prod.mk.injEq] at h
  obtain ⟨p, hp, ⟨v0, H0, e0⟩, h0, rfl, rfl, rfl⟩ := h
  have hargs : ∀ r ∈ refsL args, r < H.length := fun r hr => by
    have : ∃ v ∈ args, r ∈ v.refs := by
      clear hv hp h0 hl
      induction args with
      | nil => simp [refsL] at hr
      | cons x vs ih =>
        simp only [refsL, List.mem_append] at hr
        rcases hr with hr | hr
        · exact ⟨x, List.mem_cons_self, hr⟩
        · obtain ⟨v, hv, hr⟩ := ih hr
          exact ⟨v, List.mem_cons_of_mem _ hv, hr⟩
    obtain ⟨v, hvm, hr⟩ := this
    obtain ⟨i, hi, hvi⟩ := List.getElem_of_mem hvm
    have hci : cargs[i]? = some cargs[i] := List.getElem?_eq_getElem (by omega)
    rw [← hs.top]
    exact (hv i v _ (by rw [List.getElem?_eq_getElem hi, hvi]) hci).refs_lt r hr
  obtain ⟨hP, hin⟩ := pieceOf_ok hs hargs hp
  refine (hK B f _ _ v0 H0 e0 h0 (E.piece p) w cargs (hs.piece hP) (hG.piece p) (by rw [renL_length]; exact hl) (fun i v c hvi hc => ?_)).mono ?_
  · rw [renL_map, List.getElem?_map, Option.map_eq_some_iff] at hvi
    obtain ⟨u, hu, rfl⟩ := hvi
    exact VR.ren (E := E) (E' := E.piece p) (fun _ _ _ h => h) rfl (hv i u c hu hc) (fun r hr => good_piece (hin r (mem_refsL (List.mem_of_getElem? hu) hr)))
  · rintro en w' ⟨c, E1, rfl, R⟩
    exact ⟨c, _, rfl, piece_back hs hP R⟩

/-! ### Tables, with memory -/

/-- What is told of functions on a piece of memory: where the test holds, the value, the piece, the mark. -/
abbrev MTab := FuncId → Option (List AV → Heap → Option (Bool × AV × Heap × Bool))

def mOf (T : MTab) : Oracle := fun f args H => match T f with
  | some t => match t args H with
    | some (true, r) => some r
    | _ => none
  | none => none

def both (T : Table) (M : MTab) : Oracle := fun f args H => match pureK (kOf T) f args H with
  | some r => some r
  | none => locF (mOf M) f args H

structure MemTab (P : Program) (U : Out) (T : Table) (M : MTab) : Prop where
  pure : ∀ B, OracleSound P B U.G (pureK (kOf T))
  mem : ∀ B, OracleSound P B U.G (mOf M)

theorem MemTab.sound {P : Program} {U : Out} {T : Table} {M : MTab} (h : MemTab P U T M) (B : Nat) : OracleSound P B U.G (both T M) := by
  intro f args H v H' e hx
  unfold both at hx
  split at hx
  · rename_i r hr
    obtain rfl := Option.some.inj hx
    exact h.pure B f args H v H' e hr
  · exact loc_sound h.mem B f args H v H' e hx

theorem MemTab.ofFun {P : Program} {U : Out} {T : Table} (h : FunTab P U T) : MemTab P U T (fun _ => none) :=
  ⟨h.ok, fun B f args H v H' e hx => by cases hx⟩

section
variable {R : Type} (bot : R)

def memK (t : List AV → Heap → Option (Bool × AV × Heap × Bool)) : List AV → Heap → (AV → Heap → Bool → R) → R := fun args H k => match pieceOf H args with
  | some p => match t (renL (idx p) args) (pieceH p H) with
    | some (b, v, H1, e) => cond b (k (v.ren (backN p H.length)) (backH p H H1) e) bot
    | none => bot
  | none => bot

/-- The evaluator handing on, with both tables. -/
def evalMK (P : Program) (U : Out) (ann : FuncId → FAnn) (fuel : Nat) (T : Table) (M : MTab) : Nat → OracleK R
  | 0 => fun _ _ _ _ => bot
  | n + 1 => fun f args H k => match T f with
    | some t => snapLK bot H args fun xs => match t xs with
      | some (b, v) => cond b (k v H false) bot
      | none => bot
    | none => match M f with
      | some t => memK bot t args H k
      | none => evalFK bot true P U ann fuel (evalN P U ann fuel (both T M) n) (evalMK P U ann fuel T M n) f args H k

theorem evalMK_le {P : Program} {U : Out} {ann : FuncId → FAnn} {fuel : Nat} {T : Table} {M : MTab} : ∀ (n : Nat) (f : FuncId) (args : List AV) (H : Heap) (k : AV → Heap → Bool → R),
    Le bot (evalMK bot P U ann fuel T M n f args H k) (KOf bot (evalN P U ann fuel (both T M) n) f args H k)
  | 0, f, args, H, k => .inl rfl
  | n + 1, f, args, H, k => by
    show Le bot (match T f with
      | some t => snapLK bot H args fun xs => match t xs with
        | some (b, v) => cond b (k v H false) bot
        | none => bot
      | none => match M f with
        | some t => memK bot t args H k
        | none => evalFK bot true P U ann fuel (evalN P U ann fuel (both T M) n) (evalMK bot P U ann fuel T M n) f args H k)
      ((match both T M f args H with | some r => some r | none => evalF P U ann fuel (evalN P U ann fuel (both T M) n) f args H).elim bot fun r => k r.1 r.2.1 r.2.2)
    cases hT : T f with
    | none =>
      have hp : pureK (kOf T) f args H = none := by
        unfold pureK kOf
        rw [hT]
        cases snapL H args <;> rfl
      simp only
      cases hM : M f with
      | none =>
        have : both T M f args H = none := by
          unfold both
          rw [hp]
          simp only
          unfold locF mOf
          rw [hM]
          cases pieceOf H args <;> rfl
        rw [this]
        exact evalFK_le bot true (evalMK_le n) f args H k
      | some t =>
        simp only
        unfold memK
        cases hpc : pieceOf H args with
        | none => exact .inl rfl
        | some p =>
          simp only
          cases ht : t (renL (idx p) args) (pieceH p H) with
          | none => exact .inl rfl
          | some r =>
            obtain ⟨b, v, H1, e⟩ := r
            cases b
            · exact .inl rfl
            · right
              have : both T M f args H = some (v.ren (backN p H.length), backH p H H1, e) := by
                unfold both
                rw [hp]
                simp only
                unfold locF mOf
                rw [hM, hpc]
                simp [ht]
              rw [this]
              rfl
    | some t =>
      simp only
      refine (snapLK_le bot H args _).trans bot ?_
      cases hs : snapL H args with
      | none => exact .inl rfl
      | some xs =>
        simp only [Option.elim_some]
        cases ht : t xs with
        | none => exact .inl rfl
        | some r =>
          obtain ⟨b, v⟩ := r
          cases b
          · exact .inl rfl
          · right
            have : both T M f args H = some (v, H, false) := by
              unfold both
              have : pureK (kOf T) f args H = some (v, H, false) := by
                unfold pureK kOf
                simp [hs, hT, ht]
              rw [this]
            rw [this]
            rfl
end

theorem evalN_of_M {P : Program} {U : Out} {ann : FuncId → FAnn} {fuel n : Nat} {T : Table} {M : MTab} {f : FuncId} {args : List AV} {H : Heap} {r : AV × Heap × Bool}
    (h : evalMK none P U ann fuel T M n f args H (fun v H e => some (v, H, e)) = some r) : evalN P U ann fuel (both T M) n f args H = some r := by
  rcases evalMK_le (R := Option (AV × Heap × Bool)) none (P := P) (U := U) (ann := ann) (fuel := fuel) (T := T) (M := M) n f args H (fun v H e => some (v, H, e)) with h1 | h1
  · rw [h] at h1; cases h1
  · rw [h] at h1
    unfold KOf at h1
    cases hx : evalN P U ann fuel (both T M) n f args H with
    | none => rw [hx] at h1; cases h1
    | some x => rw [hx] at h1; exact h1.symm

theorem run_of_trueM {P : Program} {U : Out} {ann : FuncId → FAnn} {fuel n : Nat} {T : Table} {M : MTab} {f : FuncId} {args : List AV} {H : Heap}
    (h : evalMK false P U ann fuel T M n f args H (fun v _ _ => v.isTrue) = true) : ∃ H' e, evalN P U ann fuel (both T M) n f args H = some (.bool true, H', e) := by
  rcases evalMK_le (R := Bool) false (P := P) (U := U) (ann := ann) (fuel := fuel) (T := T) (M := M) n f args H (fun v _ _ => v.isTrue) with h1 | h1
  · rw [h] at h1; cases h1
  rw [h1] at h
  unfold KOf at h
  cases hx : evalN P U ann fuel (both T M) n f args H with
  | none => rw [hx] at h; simp at h
  | some r =>
    obtain ⟨v, H', e⟩ := r
    rw [hx] at h
    simp only [Option.elim_some] at h
    cases v <;> simp [AV.isTrue] at h
    subst h
    exact ⟨H', e, rfl⟩

/-- One function more, that only looks, whatever way it was found. -/
theorem MemTab.addN {P : Program} {U : Out} {ann : FuncId → FAnn} {fuel n : Nat} {T : Table} {M : MTab} (hT : MemTab P U T M) (hX : ∀ B, ExtSound P B U.X) (hm : P.follows .mixedOrders = true) (hA : ∀ f, funcOk P (ann f) f = true)
    {g : FuncId} {t : List AV → Option (Bool × AV)} (h : ∀ xs v, t xs = some (true, v) → v.cleanR = true ∧ ∃ H' e, evalN P U ann fuel (both T M) n g xs [] = some (v, H', e)) :
    MemTab P U (fun f => if f = g then some t else T f) M := by
  refine ⟨fun B => ?_, hT.mem⟩
  have h1 : OracleSound P B U.G (pureK fun f xs => if f = g then (match t xs with | some (true, v) => some v | _ => Option.none) else Option.none) :=
    pure_sound hT.sound hX hm hA (fun f xs v hv => by
      split at hv
      · rename_i hf
        subst hf
        split at hv
        · rename_i v' hv'
          obtain rfl := Option.some.inj hv
          exact h xs v' hv'
        · cases hv
      · cases hv) B
  intro f args H v H' e hx
  by_cases hf : f = g
  · refine h1 f args H v H' e ?_
    rw [← hx]
    unfold pureK kOf
    simp only [if_pos hf]
    rfl
  · refine hT.pure B f args H v H' e ?_
    rw [← hx]
    unfold pureK kOf
    simp only [if_neg hf]

theorem MemTab.add {P : Program} {U : Out} {ann : FuncId → FAnn} {fuel n : Nat} {T : Table} {M : MTab} (hT : MemTab P U T M) (hX : ∀ B, ExtSound P B U.X) (hm : P.follows .mixedOrders = true) (hA : ∀ f, funcOk P (ann f) f = true)
    {g : FuncId} {t : List AV → Option (Bool × AV)} (h : ∀ xs v, t xs = some (true, v) → v.cleanR = true ∧ ∃ H' e, evalMK Option.none P U ann fuel T M n g xs [] (fun v H e => some (v, H, e)) = some (v, H', e)) :
    MemTab P U (fun f => if f = g then some t else T f) M :=
  hT.addN hX hm hA (fun xs v hv => by
    obtain ⟨h1, H', e, h2⟩ := h xs v hv
    exact ⟨h1, H', e, evalN_of_M h2⟩)

/-- One function more, memory and all. -/
theorem MemTab.addMem {P : Program} {U : Out} {ann : FuncId → FAnn} {fuel n : Nat} {T : Table} {M : MTab} (hT : MemTab P U T M) (hX : ∀ B, ExtSound P B U.X) (hm : P.follows .mixedOrders = true) (hA : ∀ f, funcOk P (ann f) f = true)
    {g : FuncId} {t : List AV → Heap → Option (Bool × AV × Heap × Bool)} (h : ∀ args H v H' e, t args H = some (true, v, H', e) → evalN P U ann fuel (both T M) n g args H = some (v, H', e)) :
    MemTab P U T (fun f => if f = g then some t else M f) := by
  refine ⟨hT.pure, fun B f args H v H' e hx => ?_⟩
  by_cases hf : f = g
  · subst hf
    unfold mOf at hx
    simp only [if_true] at hx
    split at hx
    · rename_i r hr
      obtain rfl := Option.some.inj hx
      intro E w cargs hs hG hl hv
      exact evalN_ok (hT.sound B) (hX B) hm hA n f args H v H' e (h args H v H' e hr) E w cargs hs hG hl hv
    · cases hx
  · refine hT.mem B f args H v H' e ?_
    rw [← hx]
    unfold mOf
    simp only [if_neg hf]

/-- One function more, found sound in any way. -/
theorem MemTab.addS {P : Program} {U : Out} {T : Table} {M : MTab} (hT : MemTab P U T M) {g : FuncId} {t : List AV → Heap → Option (Bool × AV × Heap × Bool)}
    (h : ∀ B, OracleSound P B U.G (fun f args H => if f = g then (match t args H with | some (true, r) => some r | _ => Option.none) else Option.none)) :
    MemTab P U T (fun f => if f = g then some t else M f) := by
  refine ⟨hT.pure, fun B f args H v H' e hx => ?_⟩
  by_cases hf : f = g
  · refine h B f args H v H' e ?_
    rw [← hx]
    unfold mOf
    simp only [if_pos hf]
  · refine hT.mem B f args H v H' e ?_
    rw [← hx]
    unfold mOf
    simp only [if_neg hf]

end Go.X
/-
  Facts of calls, on pieces of memory: a fact holds wherever its piece is met.
-/
namespace Go.X

def noneK : Oracle := fun _ _ _ => none
theorem noneK_sound {P : Program} {G : Nat → Option AV} (B : Nat) : OracleSound P B G noneK := fun f args H v H' e h => by cases h

noncomputable def locMemo (F : List Fact) (K : Oracle) : Oracle := fun f args H => match locF (memoF F noneK) f args H with
  | some r => some r
  | none => K f args H

theorem locMemo_sound {P : Program} {U : Out} {F : List Fact} {K : Oracle} (hF : FactsOk P U F) (hK : ∀ B, OracleSound P B U.G K) (B : Nat) : OracleSound P B U.G (locMemo F K) := by
  intro f args H v H' e h
  unfold locMemo at h
  split at h
  · rename_i r hr
    obtain rfl := Option.some.inj h
    exact loc_sound (memo_sound hF noneK_sound) B f args H v H' e hr
  · exact hK B f args H v H' e h

section
variable {R : Type} (bot : R)

noncomputable def locFind (F : List Fact) (f : FuncId) (args : List AV) (H : Heap) (k : AV → Heap → Bool → R) (d : R) : R := List.rec d
  (fun x _ ih => ifQ (Nat.beq x.f f) (ifQ (beqLQ x.args args) (ifQ (beqHQ x.H H) (k x.v x.H' x.e) ih) ih) ih) F

/-- A list, laid out to its end. -/
noncomputable def layQ {α : Type} (l : List α) (k : List α → R) : R := (List.rec (motive := fun _ => (List α → R) → R) (fun k => k []) (fun x _ ih k => ih fun r => k (x :: r)) l : (List α → R) → R) k
theorem layQ_eq {α : Type} (l : List α) (k : List α → R) : layQ l k = k l := by
  induction l generalizing k with
  | nil => rfl
  | cons x l ih => exact ih (fun r => k (x :: r))

noncomputable def locG (F : List Fact) (o : Option (Hnd R)) (f : FuncId) : Hnd R := fun fb args H k => match pieceOf H args with
  | none => orFb o fb args H k
  | some p => layQ p fun p => locFind F f (renL (idx p) args) (pieceH p H) (fun v H1 e => layQ (backH p H H1) fun H2 => k (v.ren (backN p (lenQ H))) H2 e) (orFb o fb args H k)
noncomputable def locR (F : List Fact) (KT : FuncId → Option (Hnd R)) : FuncId → Option (Hnd R) := fun f => ifQ (hasF F f) (some (locG F (KT f) f)) (KT f)

theorem locFind_cases (F : List Fact) (f : FuncId) (args : List AV) (H : Heap) (k : AV → Heap → Bool → R) (d : R) :
    (locFind F f args H k d = d ∧ memoF F noneK f args H = none) ∨ ∃ r, memoF F noneK f args H = some r ∧ locFind F f args H k d = k r.1 r.2.1 r.2.2 := by
  induction F with
  | nil => exact .inl ⟨rfl, rfl⟩
  | cons x F ih =>
    have u1 : locFind (x :: F) f args H k d = ifQ (Nat.beq x.f f) (ifQ (beqLQ x.args args) (ifQ (beqHQ x.H H) (k x.v x.H' x.e) (locFind F f args H k d)) (locFind F f args H k d)) (locFind F f args H k d) := rfl
    have u2 : memoF (x :: F) noneK f args H = ifQ (Nat.beq x.f f) (ifQ (beqLQ x.args args) (ifQ (beqHQ x.H H) (some (x.v, x.H', x.e)) (memoF F noneK f args H)) (memoF F noneK f args H)) (memoF F noneK f args H) := rfl
    rw [u1, u2]
    simp only [ifQ_eq]
    cases Nat.beq x.f f with
    | false => exact ih
    | true =>
      cases beqLQ x.args args with
      | false => exact ih
      | true =>
        cases beqHQ x.H H with
        | false => exact ih
        | true => exact .inr ⟨_, rfl, rfl⟩

theorem locMemo_not {F : List Fact} {K : Oracle} {f : FuncId} (h : hasF F f = false) (args : List AV) (H : Heap) : locMemo F K f args H = K f args H := by
  have : locF (memoF F noneK) f args H = none := by
    unfold locF
    cases pieceOf H args with
    | none => rfl
    | some p => simp only [Option.bind_some]; rw [memoF_not h]; rfl
  unfold locMemo
  rw [this]

theorem hkf_loc {F : List Fact} {K : Oracle} {KT : FuncId → Option (Hnd R)} (hk : HkF bot K KT) : HkF bot (locMemo F K) (locR F KT) := by
  constructor
  · intro f h hf fb args H k o hfb
    unfold locR at hf
    rw [ifQ_eq] at hf
    cases hb : hasF F f with
    | true =>
      rw [hb, cond_true, Option.some.injEq] at hf
      subst hf
      unfold locG
      cases hp : pieceOf H args with
      | none =>
        have : locMemo F K f args H = K f args H := by unfold locMemo locF; rw [hp]; rfl
        rw [this]
        exact hk.base bot f fb args H k o hfb
      | some p =>
        simp only [layQ_eq]
        rcases locFind_cases F f (renL (idx p) args) (pieceH p H) (fun v H1 e => k (v.ren (backN p (lenQ H))) (backH p H H1) e) (orFb (KT f) fb args H k) with ⟨h1, h2⟩ | ⟨r, h1, h2⟩
        · have : locMemo F K f args H = K f args H := by unfold locMemo locF; rw [hp, Option.bind_some, h2]; rfl
          rw [this, h1]
          exact hk.base bot f fb args H k o hfb
        · have : locMemo F K f args H = some (r.1.ren (backN p H.length), backH p H r.2.1, r.2.2) := by unfold locMemo locF; rw [hp, Option.bind_some, h1]; rfl
          rw [this, h2, lenQ_eq]
          exact .inr rfl
    | false =>
      rw [hb, cond_false] at hf
      rw [locMemo_not hb]
      exact hk.some f h hf fb args H k o hfb
  · intro f hf args H
    unfold locR at hf
    rw [ifQ_eq] at hf
    cases hb : hasF F f with
    | true => rw [hb] at hf; cases hf
    | false =>
      rw [hb, cond_false] at hf
      rw [locMemo_not hb]
      exact hk.none f hf args H
end

end Go.X
