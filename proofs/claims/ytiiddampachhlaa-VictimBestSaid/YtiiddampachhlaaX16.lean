/-
  Values frozen: a block that nobody writes any more becomes a value.
-/
import Derived.Test.YtiiddampachhlaaX15
namespace Go.X
open Go.RowKit (Below)

section
variable {P : Program} {B : Nat} {E E' : Env} {H : Heap} {w w' : World}

/-- Where a slice's elements lie. -/
theorem sl_where (hs : Sim B E H w) {p : Pl} {e n off len sz : Nat} {xs : List AV} {cx : Value} (hx : PR E (.sl p e n off len) cx) (h : elemsAV H sz (.sl p e n off len) = some xs) :
    ∃ a cap L cells, cx = .slice (some a) len cap ∧ a.spot = none ∧ len ≤ cap ∧ E.loc p.id = some L ∧ FR E xs cells ∧ (∀ u ∈ xs, u.flatLen = sz) ∧ xs.length = len ∧ e = sz ∧
      ∀ j c, cells[j]? = some c → a.block = L.b ∧ L.base ≤ a.off + j ∧ a.off + j < L.base + L.gen ∧ w.cell? ⟨a.block, a.off + j, none⟩ = some c := by
  simp only [elemsAV, Option.bind_eq_some_iff] at h
  obtain ⟨bk, hb, ⟨o, y⟩, hat, h⟩ := h
  split at h
  · rename_i e' ys hy
    simp only at hy
    subst hy
    split at h
    · rename_i hc
      obtain ⟨hg, ho, rfl, rfl, hn, hle⟩ := hc
      obtain rfl := Option.some.inj h
      obtain ⟨ad, cap, rfl, h1, hcap, h2⟩ := PR.sl_inv hx
      have hsp := PR.sl_spot hx
      obtain ⟨L, hL, hB, _, hgen⟩ := hs.at hb hg
      obtain ⟨cs, hf, hlen, hcells⟩ := hB.cs
      obtain ⟨pre, mid, post, rfl, hpre, hm⟩ := at_spec p.path _ _ _ _ hf hat
      obtain ⟨hys, hye⟩ := hm.arr_inv
      have hsplit : ys = ys.take off ++ ((ys.drop off).take len ++ (ys.drop off).drop len) := by rw [List.take_append_drop, List.take_append_drop]
      rw [hsplit] at hys
      obtain ⟨c0, c2, rfl, k0, k1⟩ := hys.append_inv
      obtain ⟨c3, c4, rfl, k2, k3⟩ := k1.append_inv
      have hl0 : c0.length = off * e' := by
        rw [k0.length, sumLen_same (fun x hx => hye x (List.mem_of_mem_take hx))]
        simp [Nat.min_eq_left (show off ≤ ys.length by omega), Nat.mul_comm]
      have hll : ((ys.drop off).take len).length = len := by simp; omega
      have hsame : ∀ u ∈ (ys.drop off).take len, u.flatLen = e' := fun u hu => hye u (List.mem_of_mem_drop (List.mem_of_mem_take hu))
      have hl3 : c3.length = len * e' := by rw [k2.length, sumLen_same hsame, hll, Nat.mul_comm]
      refine ⟨ad, cap, L, c3, rfl, hsp, hcap, hL, k2, hsame, hll, rfl, fun j c hj => ?_⟩
      have hjl : j < c3.length := by
        rcases Nat.lt_or_ge j c3.length with h | h
        · exact h
        · simp [List.getElem?_eq_none h] at hj
      rcases h2 L hL with h3 | ⟨h3, _, _, h4⟩
      · omega
      · rcases h4 with h4 | rfl
        · have h0 : len = 0 := by omega
          rw [h0, Nat.zero_mul] at hl3
          omega
        · simp only at ho
          have htot : pre.length + (c0.length + (c3.length + c4.length)) + post.length = L.gen := by rw [← hlen]; simp; omega
          have := hcells (p.coff + off * e' + j) c (by
            rw [← ho, ← hpre, ← hl0]
            rw [List.append_assoc, List.getElem?_append_right (by omega), List.getElem?_append_left (by simp; omega), List.getElem?_append_right (by omega), List.getElem?_append_left (by omega)]
            rw [show pre.length + c0.length + j - pre.length - c0.length = j by omega]
            exact hj)
          refine ⟨rfl, by simp only; omega, by simp only; omega, ?_⟩
          simp only
          rw [show L.base + p.coff + off * e' + j = L.base + (p.coff + off * e' + j) by omega]
          exact this
    · simp at h
  · simp at h

/-- What a freezing comes to. -/
structure Frz (B n0 : Nat) (E : Env) (H : Heap) (w : World) (E' : Env) (H' : Heap) : Prop where
  sim : Sim B E' H' w
  tr : Tr B H.length E w E' w
  len : H'.length = H.length
  sub : Sub n0 H H'
  fr : ∀ us ds, FR E us ds → FR E' us ds

theorem Frz.refl {n0 : Nat} (hs : Sim B E H w) : Frz B n0 E H w E H := ⟨hs, Tr.refl _ _ _ _, rfl, Sub.refl _ _, fun _ _ h => h⟩
theorem Frz.trans {n0 : Nat} {E1 E2 : Env} {H1 H2 : Heap} (h : Frz B n0 E H w E1 H1) (g : Frz B n0 E1 H1 w E2 H2) : Frz B n0 E H w E2 H2 :=
  ⟨g.sim, h.tr.trans (h.len ▸ g.tr), g.len.trans h.len, h.sub.trans g.sub, fun us ds k => g.fr us ds (h.fr us ds k)⟩

def Env.kill (E : Env) (w : World) (i : Nat) (L : Loc) : Env :=
  ⟨fun j => if j = i then none else E.loc j, fun b o => match E.m b o with | some c => some c | none => if L.b = b ∧ L.base ≤ o ∧ o < L.base + L.gen then w.cell? ⟨b, o, none⟩ else none, E.top⟩

theorem kill_ok {n0 : Nat} (hs : Sim B E H w) {i : Nat} {L : Loc} (hL : E.loc i = some L) (hi : n0 ≤ i) : Frz B n0 E H w (E.kill w i L) (H.set i none) := by
  have hlt := hs.lt hL
  obtain ⟨bk, hb⟩ := hs.dead i L hL
  obtain ⟨L', hL', hB, _⟩ := hs.live i bk hb
  obtain rfl : L = L' := by rw [hL] at hL'; exact Option.some.inj hL'
  have hfit := hB.fits
  have hblk : ∀ j, Heap.blk (H.set i none) j = if i = j then none else H.blk j := fun j => Heap.blk_set hlt
  have hless := hs.less (E' := E.kill w i L) (H' := H.set i none) (by simp [Env.kill, hs.top]) (fun j bk' hj => by
      rw [hblk] at hj
      split at hj
      · simp at hj
      · obtain ⟨Lj, _, hBj, _⟩ := hs.live j bk' hj
        exact ⟨hj, hBj.refs_lt⟩) (fun j => by
      rw [hblk]
      simp only [Env.kill]
      by_cases hij : j = i
      · simp [hij]
      · have hji : ¬ i = j := fun e => hij e.symm
        simp only [if_neg hij, if_neg hji]
        cases hj : H.blk j with
        | some b => simp
        | none =>
          simp only [Option.isSome_none, Bool.false_eq_true, if_false]
          cases hl : E.loc j with
          | none => rfl
          | some Lj =>
            obtain ⟨b, hb'⟩ := hs.dead j Lj hl
            rw [hj] at hb'
            simp at hb') (fun b o c hc => by simp [Env.kill, hc]) (fun b o c hc => by
      have hnin : ∀ {P : Prop}, (InE E b o → P) → InE (E.kill w i L) b o → P := fun f ⟨j, Lj, hj, hh⟩ => by
        simp only [Env.kill] at hj
        split at hj
        · simp at hj
        · exact f ⟨j, Lj, hj, hh⟩
      simp only [Env.kill] at hc
      split at hc
      · rename_i c' hm
        obtain rfl := Option.some.inj hc
        exact ⟨hs.imm b o _ hm, fun hin => hnin (hs.immApart b o _ hm) hin⟩
      · split at hc
        · rename_i hr
          refine ⟨hc, fun ⟨j, Lj, hj, hh⟩ => ?_⟩
          simp only [Env.kill] at hj
          split at hj
          · simp at hj
          · rename_i hji
            exact hs.apart i j L Lj hL hj (fun e => hji e.symm) b o ⟨hr.1, hr.2.1, by omega⟩ hh
        · simp at hc) (fun b o c hc => by
      simp only [Env.kill] at hc
      split at hc
      · rename_i c' hm
        obtain rfl := Option.some.inj hc
        exact .inl hm
      · split at hc
        · rename_i hr
          exact .inr ⟨i, L, hL, hr.1, hr.2.1, by omega⟩
        · simp at hc)
  refine ⟨hless.1, hless.2 _, by simp, Sub.set hb (fun h _ _ => by omega), fun us ds h => ?_⟩
  exact h.later (hless.2 E.top).evol (Nat.le_refl _)

mutual
theorem freezeAV_ok {n0 : Nat} : ∀ (v : AV) (E : Env) (H : Heap) (v' : AV) (H' : Heap) (cs : List Value), Sim B E H w → FR E [v] cs → freezeAV n0 v H = some (v', H') →
    ∃ E', Frz B n0 E H w E' H' ∧ FR E' [v'] cs ∧ v'.flatLen = v.flatLen
  | .sl p e n off len, E, H, v', H', cs, hs, hf, h => by
    simp only [freezeAV] at h
    split at h
    · simp at h
    · rename_i hid
      simp only [Option.bind_eq_some_iff] at h
      obtain ⟨xs, hxs, h⟩ := h
      split at h
      · rename_i hr
        obtain ⟨rfl, rfl⟩ := by simpa using h
        simp only [Bool.and_eq_true, decide_eq_true_eq] at hr
        obtain ⟨c, rfl, hp⟩ := hf.one_leaf rfl
        obtain ⟨a, cap, L, cells, rfl, hsp, hcap, hL, hfx, hex, hlx, _, hwh⟩ := sl_where hs (show PR E (.sl p e n off len) c from ⟨[c], hf, hp.symm⟩) hxs
        have hk := kill_ok (n0 := n0) hs hL (by omega)
        refine ⟨_, hk, ?_, rfl⟩
        obtain ⟨ab, ao, as⟩ := a
        simp only at hsp
        subst hsp
        rw [← hlx]
        refine .isl hr.1 (hk.fr _ _ hfx) hex (by omega) (fun j c hj => ?_) (.inl rfl) .nil
        obtain ⟨h1, h2, h3, h4⟩ := hwh j c hj
        simp only at h1 h2 h3 h4
        simp only [Env.kill]
        split
        · rename_i c' hm
          rw [← hs.imm _ _ _ hm]
          exact h4
        · rw [if_pos ⟨h1.symm, h2, h3⟩]
          exact h4
      · simp at h
  | .agg n ps, E, H, v', H', cs, hs, hf, h => by
    simp only [freezeAV, Option.map_eq_some_iff, Prod.exists, Prod.mk.injEq] at h
    obtain ⟨ps', H1, h1, rfl, rfl⟩ := h
    obtain ⟨hps, hn⟩ := hf.agg_inv
    obtain ⟨E', k1, k2, k3⟩ := freezeL_ok ps E H ps' H1 cs hs hps h1
    refine ⟨E', k1, ?_, rfl⟩
    have := FR.agg (n := n) (vs := []) (cs := []) k2 hn .nil
    simpa using this
  | .arr e xs, E, H, v', H', cs, hs, hf, h => by
    simp only [freezeAV] at h
    split at h
    · obtain ⟨rfl, rfl⟩ := by simpa using h
      exact ⟨E, Frz.refl hs, hf, rfl⟩
    · simp only [Option.map_eq_some_iff, Prod.exists, Prod.mk.injEq] at h
      obtain ⟨xs', H1, h1, rfl, rfl⟩ := h
      obtain ⟨hxs, he⟩ := hf.arr_inv
      obtain ⟨E', k1, k2, k3⟩ := freezeL_ok xs E H xs' H1 cs hs hxs h1
      have hl : xs'.length = xs.length := by rw [← List.length_map (f := AV.flatLen), k3, List.length_map]
      refine ⟨E', k1, ?_, by simp [AV.flatLen, hl]⟩
      have := FR.arr (e := e) (vs := []) (cs := []) k2 (fun x hx => by
        have : x.flatLen ∈ xs'.map AV.flatLen := List.mem_map_of_mem hx
        rw [k3] at this
        obtain ⟨y, hy, hyx⟩ := List.mem_map.1 this
        rw [← hyx]
        exact he y hy) .nil
      simpa using this
  | .bad, E, H, v', H', cs, hs, hf, h | .int _ _, E, H, v', H', cs, hs, hf, h | .bool _, E, H, v', H', cs, hs, hf, h | .str _, E, H, v', H', cs, hs, hf, h | .nilp, E, H, v', H', cs, hs, hf, h
  | .ptr _, E, H, v', H', cs, hs, hf, h | .iptr _, E, H, v', H', cs, hs, hf, h | .nils, E, H, v', H', cs, hs, hf, h | .isl _ _, E, H, v', H', cs, hs, hf, h | .nilm, E, H, v', H', cs, hs, hf, h
  | .map _, E, H, v', H', cs, hs, hf, h | .func _ _ _, E, H, v', H', cs, hs, hf, h | .nilf, E, H, v', H', cs, hs, hf, h | .hnd _ _, E, H, v', H', cs, hs, hf, h | .iface _ _, E, H, v', H', cs, hs, hf, h | .nili, E, H, v', H', cs, hs, hf, h
  | .tuple _, E, H, v', H', cs, hs, hf, h => by
    obtain ⟨rfl, rfl⟩ := by simpa [freezeAV] using h
    exact ⟨E, Frz.refl hs, hf, rfl⟩
theorem freezeL_ok {n0 : Nat} : ∀ (vs : List AV) (E : Env) (H : Heap) (vs' : List AV) (H' : Heap) (cs : List Value), Sim B E H w → FR E vs cs → freezeL n0 vs H = some (vs', H') →
    ∃ E', Frz B n0 E H w E' H' ∧ FR E' vs' cs ∧ vs'.map AV.flatLen = vs.map AV.flatLen
  | [], E, H, vs', H', cs, hs, hf, h => by
    obtain ⟨rfl, rfl⟩ := by simpa [freezeL] using h
    exact ⟨E, Frz.refl hs, hf, rfl⟩
  | v :: vs, E, H, vs', H', cs, hs, hf, h => by
    simp only [freezeL, Option.bind_eq_some_iff, Option.map_eq_some_iff, Prod.exists, Prod.mk.injEq] at h
    obtain ⟨v1, H1, h1, vs2, H2, h2, rfl, rfl⟩ := h
    obtain ⟨c1, c2, rfl, k1, k2⟩ := hf.cons_inv
    obtain ⟨E1, g1, g2, g3⟩ := freezeAV_ok v E H v1 H1 c1 hs k1 h1
    obtain ⟨E2, g4, g5, g6⟩ := freezeL_ok vs E1 H1 vs2 H2 c2 g1.sim (g1.fr _ _ k2) h2
    exact ⟨E2, g1.trans g4, FR.cons (g4.fr _ _ g2) g5, by simp [g3, g6]⟩
end

end
end Go.X
