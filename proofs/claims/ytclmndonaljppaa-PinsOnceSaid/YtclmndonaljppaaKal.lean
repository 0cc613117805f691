/-
  PinsOnce: the end of a step of the law.
-/
import Derived.Test.YtclmndonaljppaaKai
import Derived.Test.YtclmndonaljppaaKak
import Derived.Test.YtclmndonaljppaaKaj

namespace Go.Proofs.Ytclmndonaljppaa
open Go Go.X
variable {F : Nat}
set_option maxRecDepth 100000
abbrev pQ : List Bool := [true, true, true, true, true, false, true]
theorem beq_int' {z : Int} : (AV.int .i64 z).beq (.int .i64 z) = true := by simp [AV.beq]
theorem okN4 {ns : List (Ar 64)} {n m c : Nat} (h : n < ns.length) (hm : m < 64) (hg : ns.length = 4) (hc : 64 * n + m = c) : okAt (.arr 64 (row encN ns)) [n, m] c 256 false 1 = true := by
  have h1 := okN (g := 256) h hm (by omega)
  have e : 0 + (0 + n) * 64 + m * 1 = c := by omega
  rw [e] at h1
  simpa using h1
theorem plN4 {ns : List (Ar 64)} {n m c : Nat} (h : n < ns.length) (hm : m < 64) (hg : ns.length = 4) (hc : 64 * n + m = c) : okPl (.arr 64 (row encN ns)) [n, m] c 256 1 = true := (okAt_iff.1 (okN4 h hm hg hc)).1
theorem prN4 {ns : List (Ar 64)} {n m : Nat} (h : n < ns.length) (hm : m < 64) : projT [n, m] (.arr 64 (row encN ns)) = .int .i64 (ns[n].get m) := by
  have h1 := prN h hm
  simpa using h1
theorem puN4 {ns : List (Ar 64)} {n m : Nat} {v : Int} (h : n < ns.length) : putT [n, m] (.arr 64 (row encN ns)) (.int .i64 v) = .arr 64 (row encN (ns.set n (ns[n].set m v))) := by
  have h1 := puN (m := m) (v := v) h
  simpa using h1
theorem okZ4 {l : List Int} {n c : Nat} (h : n < l.length) (hg : l.length = 4) (hc : n = c) : okAt (.arr 1 (row encZ l)) [n] c 4 false 1 = true := by
  have h1 := okZ (g := 4) h hg
  have e : 0 + (0 + n) * 1 = c := by omega
  rw [e] at h1
  simpa using h1
theorem plZ4 {l : List Int} {n c : Nat} (h : n < l.length) (hg : l.length = 4) (hc : n = c) : okPl (.arr 1 (row encZ l)) [n] c 4 1 = true := (okAt_iff.1 (okZ4 h hg hc)).1
theorem prZ4 {l : List Int} {n : Nat} (h : n < l.length) : projT [n] (.arr 1 (row encZ l)) = .int .i64 l[n] := by
  have h1 := prZ h
  simpa using h1
theorem puZ4 {l : List Int} {n : Nat} {v : Int} : putT [n] (.arr 1 (row encZ l)) (.int .i64 v) = .arr 1 (row encZ (l.set n v)) := by
  simp [putT, setElem, row, encK]
/-- How many pages each session has. -/
def lens (ls : List (List Int)) : List Int := ls.map fun l => ((l.length : Nat) : Int)
/-- What stands in memory between the steps. -/
structure Inv4 (H : Heap) (i jp h g : Nat) (vs : List AV) (ls : List (List Int)) : Prop where
  p : PinsR H i jp vs ls
  hv : H.blk h = some ⟨.arr 64 (row encN (ls.map cntA)), false, true⟩
  mn : H.blk g = some ⟨.arr 1 (row encZ (lens ls)), false, true⟩
  good : AllGood ls
  four : ls.length = 4
  d1 : h ∉ i :: jp :: refsL vs
  d2 : g ∉ i :: jp :: refsL vs
  ne : h ≠ g
theorem Inv4.keep {H H' : Heap} {i jp h g : Nat} {vs : List AV} {ls : List (List Int)} (x : Inv4 H i jp h g vs ls) (hk : Keep [] H H') : Inv4 H' i jp h g vs ls :=
  ⟨x.p.keep' hk (by simp), (hk.blk (blk_lt x.hv) (by simp)).trans x.hv, (hk.blk (blk_lt x.mn) (by simp)).trans x.mn, x.good, x.four, x.d1, x.d2, x.ne⟩
variable {N fuel m n0 : Nat} {l : List Stp} {i jp h g : Nat} {ix a b y z : Int} {k : AV → Heap → Bool → Prop} {vs : List AV} {ls : List (List Int)}
theorem cnt4 (hl : ls.length = 4) (hp : OkP b) : ((cntL b ls : Nat) : Int) = ((ls.map cntA)[0]'(by simp [hl])).get b.toNat + ((ls.map cntA)[1]'(by simp [hl])).get b.toNat + ((ls.map cntA)[2]'(by simp [hl])).get b.toNat + ((ls.map cntA)[3]'(by simp [hl])).get b.toNat := by
  match ls, hl with
  | [p, q, r, s], _ =>
    obtain ⟨n, rfl⟩ : ∃ n : Nat, b = (n : Int) := ⟨b.toNat, by have := hp.1; omega⟩
    have hn : n < 64 := by have := hp.2; omega
    simp only [List.map_cons, List.getElem_cons_zero, List.getElem_cons_succ, Int.toNat_natCast, cntA_get hn, cntL, List.map_nil, List.sum_cons, List.sum_nil]
    omega
theorem end4 {H2 : Heap} (x : Inv4 H2 i jp h g vs ls) (hs : OkS ls a) (hp : OkP b) (hy : (lens ls).getD a.toNat 0 = y) (hz : z = y)
    (hk : resPS (S F) TL N 9 fuel 4 1 n0 [] pQ m ⟨L4 (.isl 3 (row encSt l)) i h g (IntKind.i64.wrap (ix + 1)), [], H2, true⟩ k) :
  cond (!(z : Int) == y) (∃ (b26 : Blk), And (Heap.blk H2 g = some b26) (cond (okAt b26.1 [Int.toNat (a)] (0 + Int.toNat (a) * 1) 4 false 1) (cond (AV.beq (projT [Int.toNat (a)] b26.1) (AV.int IntKind.i64 (y))) (k (AV.bool false) H2 true) (False)) (False))) (cond (decide (0 ≤ b)) (cond (decide (Int.toNat (b) < 64)) (∃ (b27 : Blk), And (Heap.blk H2 h = some b27) (cond (okAt b27.1 [0, Int.toNat (b)] (0 + Int.toNat (b) * 1) 256 false 1) (cond (AV.isIntK (projT [0, Int.toNat (b)] b27.1) IntKind.i64) (cond (decide (0 ≤ b)) (cond (decide (Int.toNat (b) < 64)) (∃ (b28 : Blk), And (Heap.blk H2 h = some b28) (cond (okAt b28.1 [1, Int.toNat (b)] (64 + Int.toNat (b) * 1) 256 false 1) (cond (AV.isIntK (projT [1, Int.toNat (b)] b28.1) IntKind.i64) (cond (decide (0 ≤ b)) (cond (decide (Int.toNat (b) < 64)) (∃ (b29 : Blk), And (Heap.blk H2 h = some b29) (cond (okAt b29.1 [2, Int.toNat (b)] (128 + Int.toNat (b) * 1) 256 false 1) (cond (AV.isIntK (projT [2, Int.toNat (b)] b29.1) IntKind.i64) (cond (decide (0 ≤ b)) (cond (decide (Int.toNat (b) < 64)) (∃ (b30 : Blk), And (Heap.blk H2 h = some b30) (cond (okAt b30.1 [3, Int.toNat (b)] (192 + Int.toNat (b) * 1) 256 false 1) (cond (AV.isIntK (projT [3, Int.toNat (b)] b30.1) IntKind.i64) (∃ (i31 : Nat), ∃ (j32 : Nat), ∃ (vs33 : List AV), ∃ (ls34 : List (List Int)), ∃ (pg35 : Int), And ([AV.ptr (Pl.mk i 0 [] 1), AV.int IntKind.i64 (b)] = [AV.ptr (Pl.mk i31 0 [] 1), AV.int IntKind.i64 pg35]) (And (PinsR H2 i31 j32 vs33 ls34) (∃ (b36 : Blk), And (Heap.blk H2 g = some b36) (cond (okAt b36.1 [Int.toNat (a)] (0 + Int.toNat (a) * 1) 4 false 1) (cond (AV.beq (projT [Int.toNat (a)] b36.1) (AV.int IntKind.i64 (y))) (∃ (b37 : Blk), And (Heap.blk H2 h = some b37) (cond (okAt b37.1 [0, Int.toNat (b)] (0 + Int.toNat (b) * 1) 256 false 1) (cond (AV.beq (projT [0, Int.toNat (b)] b37.1) (AV.int IntKind.i64 (AV.toInt (projT [0, Int.toNat (b)] b27.1)))) (∃ (b38 : Blk), And (Heap.blk H2 h = some b38) (cond (okAt b38.1 [1, Int.toNat (b)] (64 + Int.toNat (b) * 1) 256 false 1) (cond (AV.beq (projT [1, Int.toNat (b)] b38.1) (AV.int IntKind.i64 (AV.toInt (projT [1, Int.toNat (b)] b28.1)))) (∃ (b39 : Blk), And (Heap.blk H2 h = some b39) (cond (okAt b39.1 [2, Int.toNat (b)] (128 + Int.toNat (b) * 1) 256 false 1) (cond (AV.beq (projT [2, Int.toNat (b)] b39.1) (AV.int IntKind.i64 (AV.toInt (projT [2, Int.toNat (b)] b29.1)))) (∃ (b40 : Blk), And (Heap.blk H2 h = some b40) (cond (okAt b40.1 [3, Int.toNat (b)] (192 + Int.toNat (b) * 1) 256 false 1) (cond (AV.beq (projT [3, Int.toNat (b)] b40.1) (AV.int IntKind.i64 (AV.toInt (projT [3, Int.toNat (b)] b30.1)))) (cond (!(↑(cntL pg35 ls34) : Int) == IntKind.wrap IntKind.i64 (IntKind.wrap IntKind.i64 (IntKind.wrap IntKind.i64 (AV.toInt (projT [0, Int.toNat (b)] b27.1) + AV.toInt (projT [1, Int.toNat (b)] b28.1)) + AV.toInt (projT [2, Int.toNat (b)] b29.1)) + AV.toInt (projT [3, Int.toNat (b)] b30.1))) (k (AV.bool false) H2 true) (resPS (S F) TL N 9 fuel 4 1 n0 [] [true, true, true, true, true, false, true] m (St.mk [(0, AV.isl 3 (row encSt l)), (2, AV.bad), (3, AV.ptr (Pl.mk i 0 [] 1)), (4, AV.bad), (5, AV.ptr (Pl.mk h 0 [] 256)), (6, AV.ptr (Pl.mk g 0 [] 4)), (7, AV.int IntKind.i64 (IntKind.wrap IntKind.i64 (ix + 1))), (8, AV.bad), (9, AV.bad), (10, AV.bad), (11, AV.bad), (26, AV.bad), (39, AV.bad), (58, AV.bad), (71, AV.bad), (73, AV.bad), (97, AV.bad), (99, AV.bad), (145, AV.bad)] [] H2 true) k)) (False)) (False))) (False)) (False))) (False)) (False))) (False)) (False))) (False)) (False))))) (False)) (False))) (False)) (False)) (False)) (False))) (False)) (False)) (False)) (False))) (False)) (False)) (False)) (False))) (False)) (False)) := by
  subst hz
  have hb : b.toNat < 64 := by have := hp.1; have := hp.2; omega
  have hn : a.toNat < (lens ls).length := by have h1 := hs.1; have h2 := hs.2; simp [lens]; omega
  have hlen : (lens ls).length = 4 := by simp [lens, x.four]
  have hlm : (ls.map cntA).length = 4 := by simp [x.four]
  have hy' : (lens ls)[a.toNat] = z := by rw [← hy]; simp [List.getD, hn]
  have h0 : 0 < (ls.map cntA).length := by omega
  have h1 : 1 < (ls.map cntA).length := by omega
  have h2 : 2 < (ls.map cntA).length := by omega
  have h3 : 3 < (ls.map cntA).length := by omega
  have c0 := smallN x.good _ (List.getElem_mem h0) _ hb
  have c1 := smallN x.good _ (List.getElem_mem h1) _ hb
  have c2 := smallN x.good _ (List.getElem_mem h2) _ hb
  have c3 := smallN x.good _ (List.getElem_mem h3) _ hb
  refine cF (by simp) ?_
  refine cD hp.1 (cD hb (ldg x.hv (okN4 h0 hb hlm (by omega)) ?_))
  rw [prN4 h0 hb]
  refine cT rfl (cD hp.1 (cD hb (ldg x.hv (okN4 h1 hb hlm (by omega)) ?_)))
  rw [prN4 h1 hb]
  refine cT rfl (cD hp.1 (cD hb (ldg x.hv (okN4 h2 hb hlm (by omega)) ?_)))
  rw [prN4 h2 hb]
  refine cT rfl (cD hp.1 (cD hb (ldg x.hv (okN4 h3 hb hlm (by omega)) ?_)))
  rw [prN4 h3 hb]
  refine cT rfl ⟨i, jp, vs, ls, b, rfl, x.p, ldg x.mn (okZ4 hn hlen (by omega)) (cT (by rw [prZ4 hn, hy']; exact beq_int') ?_)⟩
  refine ldg x.hv (okN4 h0 hb hlm (by omega)) (cT (by rw [prN4 h0 hb]; exact beq_int') ?_)
  refine ldg x.hv (okN4 h1 hb hlm (by omega)) (cT (by rw [prN4 h1 hb]; exact beq_int') ?_)
  refine ldg x.hv (okN4 h2 hb hlm (by omega)) (cT (by rw [prN4 h2 hb]; exact beq_int') ?_)
  refine ldg x.hv (okN4 h3 hb hlm (by omega)) (cT (by rw [prN4 h3 hb]; exact beq_int') ?_)
  refine cF ?_ hk
  simp only [AV.toInt]
  rw [wrapI (x := ((ls.map cntA)[0]).get b.toNat + ((ls.map cntA)[1]).get b.toNat) (by omega) (by omega), wrapI (x := ((ls.map cntA)[0]).get b.toNat + ((ls.map cntA)[1]).get b.toNat + ((ls.map cntA)[2]).get b.toNat) (by omega) (by omega), wrapI (by omega) (by omega), cnt4 x.four hp]
  simp
theorem tail4 {H1 : Heap} (x : Inv4 H1 i jp h g vs ls) (hs : OkS ls a) (hp : OkP b)
    (hk : ∀ H2, Inv4 H2 i jp h g vs ls → resPS (S F) TL N 9 fuel 4 1 n0 [] pQ m ⟨L4 (.isl 3 (row encSt l)) i h g (IntKind.i64.wrap (ix + 1)), [], H2, true⟩ k) :
  ∃ (b19 : Blk), And (Heap.blk H1 g = some b19) (cond (okAt b19.1 [Int.toNat (a)] (0 + Int.toNat (a) * 1) 4 false 1) (cond (AV.isIntK (projT [Int.toNat (a)] b19.1) IntKind.i64) (∃ (i20 : Nat), ∃ (j21 : Nat), ∃ (vs22 : List AV), ∃ (ls23 : List (List Int)), ∃ (s24 : Int), And ([AV.ptr (Pl.mk i 0 [] 1), AV.int IntKind.i64 (a)] = [AV.ptr (Pl.mk i20 0 [] 1), AV.int IntKind.i64 s24]) (And (PinsR H1 i20 j21 vs22 ls23) (And ((¬OkS ls23 s24 ∨ List.getD ls23 (Int.toNat s24) [] = []) → ∀ (H'25 : Heap), (Keep [] H1 H'25) → cond (!(↑0 : Int) == AV.toInt (projT [Int.toNat (a)] b19.1)) (∃ (b26 : Blk), And (Heap.blk H'25 g = some b26) (cond (okAt b26.1 [Int.toNat (a)] (0 + Int.toNat (a) * 1) 4 false 1) (cond (AV.beq (projT [Int.toNat (a)] b26.1) (AV.int IntKind.i64 (AV.toInt (projT [Int.toNat (a)] b19.1)))) (k (AV.bool false) H'25 true) (False)) (False))) (cond (decide (0 ≤ b)) (cond (decide (Int.toNat (b) < 64)) (∃ (b27 : Blk), And (Heap.blk H'25 h = some b27) (cond (okAt b27.1 [0, Int.toNat (b)] (0 + Int.toNat (b) * 1) 256 false 1) (cond (AV.isIntK (projT [0, Int.toNat (b)] b27.1) IntKind.i64) (cond (decide (0 ≤ b)) (cond (decide (Int.toNat (b) < 64)) (∃ (b28 : Blk), And (Heap.blk H'25 h = some b28) (cond (okAt b28.1 [1, Int.toNat (b)] (64 + Int.toNat (b) * 1) 256 false 1) (cond (AV.isIntK (projT [1, Int.toNat (b)] b28.1) IntKind.i64) (cond (decide (0 ≤ b)) (cond (decide (Int.toNat (b) < 64)) (∃ (b29 : Blk), And (Heap.blk H'25 h = some b29) (cond (okAt b29.1 [2, Int.toNat (b)] (128 + Int.toNat (b) * 1) 256 false 1) (cond (AV.isIntK (projT [2, Int.toNat (b)] b29.1) IntKind.i64) (cond (decide (0 ≤ b)) (cond (decide (Int.toNat (b) < 64)) (∃ (b30 : Blk), And (Heap.blk H'25 h = some b30) (cond (okAt b30.1 [3, Int.toNat (b)] (192 + Int.toNat (b) * 1) 256 false 1) (cond (AV.isIntK (projT [3, Int.toNat (b)] b30.1) IntKind.i64) (∃ (i31 : Nat), ∃ (j32 : Nat), ∃ (vs33 : List AV), ∃ (ls34 : List (List Int)), ∃ (pg35 : Int), And ([AV.ptr (Pl.mk i 0 [] 1), AV.int IntKind.i64 (b)] = [AV.ptr (Pl.mk i31 0 [] 1), AV.int IntKind.i64 pg35]) (And (PinsR H'25 i31 j32 vs33 ls34) (∃ (b36 : Blk), And (Heap.blk H'25 g = some b36) (cond (okAt b36.1 [Int.toNat (a)] (0 + Int.toNat (a) * 1) 4 false 1) (cond (AV.beq (projT [Int.toNat (a)] b36.1) (AV.int IntKind.i64 (AV.toInt (projT [Int.toNat (a)] b19.1)))) (∃ (b37 : Blk), And (Heap.blk H'25 h = some b37) (cond (okAt b37.1 [0, Int.toNat (b)] (0 + Int.toNat (b) * 1) 256 false 1) (cond (AV.beq (projT [0, Int.toNat (b)] b37.1) (AV.int IntKind.i64 (AV.toInt (projT [0, Int.toNat (b)] b27.1)))) (∃ (b38 : Blk), And (Heap.blk H'25 h = some b38) (cond (okAt b38.1 [1, Int.toNat (b)] (64 + Int.toNat (b) * 1) 256 false 1) (cond (AV.beq (projT [1, Int.toNat (b)] b38.1) (AV.int IntKind.i64 (AV.toInt (projT [1, Int.toNat (b)] b28.1)))) (∃ (b39 : Blk), And (Heap.blk H'25 h = some b39) (cond (okAt b39.1 [2, Int.toNat (b)] (128 + Int.toNat (b) * 1) 256 false 1) (cond (AV.beq (projT [2, Int.toNat (b)] b39.1) (AV.int IntKind.i64 (AV.toInt (projT [2, Int.toNat (b)] b29.1)))) (∃ (b40 : Blk), And (Heap.blk H'25 h = some b40) (cond (okAt b40.1 [3, Int.toNat (b)] (192 + Int.toNat (b) * 1) 256 false 1) (cond (AV.beq (projT [3, Int.toNat (b)] b40.1) (AV.int IntKind.i64 (AV.toInt (projT [3, Int.toNat (b)] b30.1)))) (cond (!(↑(cntL pg35 ls34) : Int) == IntKind.wrap IntKind.i64 (IntKind.wrap IntKind.i64 (IntKind.wrap IntKind.i64 (AV.toInt (projT [0, Int.toNat (b)] b27.1) + AV.toInt (projT [1, Int.toNat (b)] b28.1)) + AV.toInt (projT [2, Int.toNat (b)] b29.1)) + AV.toInt (projT [3, Int.toNat (b)] b30.1))) (k (AV.bool false) H'25 true) (resPS (S F) TL N 9 fuel 4 1 n0 [] [true, true, true, true, true, false, true] m (St.mk [(0, AV.isl 3 (row encSt l)), (2, AV.bad), (3, AV.ptr (Pl.mk i 0 [] 1)), (4, AV.bad), (5, AV.ptr (Pl.mk h 0 [] 256)), (6, AV.ptr (Pl.mk g 0 [] 4)), (7, AV.int IntKind.i64 (IntKind.wrap IntKind.i64 (ix + 1))), (8, AV.bad), (9, AV.bad), (10, AV.bad), (11, AV.bad), (26, AV.bad), (39, AV.bad), (58, AV.bad), (71, AV.bad), (73, AV.bad), (97, AV.bad), (99, AV.bad), (145, AV.bad)] [] H'25 true) k)) (False)) (False))) (False)) (False))) (False)) (False))) (False)) (False))) (False)) (False))))) (False)) (False))) (False)) (False)) (False)) (False))) (False)) (False)) (False)) (False))) (False)) (False)) (False)) (False))) (False)) (False))) ((OkS ls23 s24) → ∀ (k041 : Nat), ∀ (H'42 : Heap), (List.length H1 ≤ k041) → (Heap.blk H'42 k041 = some (Blk.mk (AV.arr 1 (row encZ (List.getD ls23 (Int.toNat s24) []))) true true)) → (Keep [] H1 H'42) → cond (!(↑(List.length (List.getD ls23 (Int.toNat s24) [])) : Int) == AV.toInt (projT [Int.toNat (a)] b19.1)) (∃ (b43 : Blk), And (Heap.blk H'42 g = some b43) (cond (okAt b43.1 [Int.toNat (a)] (0 + Int.toNat (a) * 1) 4 false 1) (cond (AV.beq (projT [Int.toNat (a)] b43.1) (AV.int IntKind.i64 (AV.toInt (projT [Int.toNat (a)] b19.1)))) (k (AV.bool false) H'42 true) (False)) (False))) (cond (decide (0 ≤ b)) (cond (decide (Int.toNat (b) < 64)) (∃ (b44 : Blk), And (Heap.blk H'42 h = some b44) (cond (okAt b44.1 [0, Int.toNat (b)] (0 + Int.toNat (b) * 1) 256 false 1) (cond (AV.isIntK (projT [0, Int.toNat (b)] b44.1) IntKind.i64) (cond (decide (0 ≤ b)) (cond (decide (Int.toNat (b) < 64)) (∃ (b45 : Blk), And (Heap.blk H'42 h = some b45) (cond (okAt b45.1 [1, Int.toNat (b)] (64 + Int.toNat (b) * 1) 256 false 1) (cond (AV.isIntK (projT [1, Int.toNat (b)] b45.1) IntKind.i64) (cond (decide (0 ≤ b)) (cond (decide (Int.toNat (b) < 64)) (∃ (b46 : Blk), And (Heap.blk H'42 h = some b46) (cond (okAt b46.1 [2, Int.toNat (b)] (128 + Int.toNat (b) * 1) 256 false 1) (cond (AV.isIntK (projT [2, Int.toNat (b)] b46.1) IntKind.i64) (cond (decide (0 ≤ b)) (cond (decide (Int.toNat (b) < 64)) (∃ (b47 : Blk), And (Heap.blk H'42 h = some b47) (cond (okAt b47.1 [3, Int.toNat (b)] (192 + Int.toNat (b) * 1) 256 false 1) (cond (AV.isIntK (projT [3, Int.toNat (b)] b47.1) IntKind.i64) (∃ (i48 : Nat), ∃ (j49 : Nat), ∃ (vs50 : List AV), ∃ (ls51 : List (List Int)), ∃ (pg52 : Int), And ([AV.ptr (Pl.mk i 0 [] 1), AV.int IntKind.i64 (b)] = [AV.ptr (Pl.mk i48 0 [] 1), AV.int IntKind.i64 pg52]) (And (PinsR H'42 i48 j49 vs50 ls51) (∃ (b53 : Blk), And (Heap.blk H'42 g = some b53) (cond (okAt b53.1 [Int.toNat (a)] (0 + Int.toNat (a) * 1) 4 false 1) (cond (AV.beq (projT [Int.toNat (a)] b53.1) (AV.int IntKind.i64 (AV.toInt (projT [Int.toNat (a)] b19.1)))) (∃ (b54 : Blk), And (Heap.blk H'42 h = some b54) (cond (okAt b54.1 [0, Int.toNat (b)] (0 + Int.toNat (b) * 1) 256 false 1) (cond (AV.beq (projT [0, Int.toNat (b)] b54.1) (AV.int IntKind.i64 (AV.toInt (projT [0, Int.toNat (b)] b44.1)))) (∃ (b55 : Blk), And (Heap.blk H'42 h = some b55) (cond (okAt b55.1 [1, Int.toNat (b)] (64 + Int.toNat (b) * 1) 256 false 1) (cond (AV.beq (projT [1, Int.toNat (b)] b55.1) (AV.int IntKind.i64 (AV.toInt (projT [1, Int.toNat (b)] b45.1)))) (∃ (b56 : Blk), And (Heap.blk H'42 h = some b56) (cond (okAt b56.1 [2, Int.toNat (b)] (128 + Int.toNat (b) * 1) 256 false 1) (cond (AV.beq (projT [2, Int.toNat (b)] b56.1) (AV.int IntKind.i64 (AV.toInt (projT [2, Int.toNat (b)] b46.1)))) (∃ (b57 : Blk), And (Heap.blk H'42 h = some b57) (cond (okAt b57.1 [3, Int.toNat (b)] (192 + Int.toNat (b) * 1) 256 false 1) (cond (AV.beq (projT [3, Int.toNat (b)] b57.1) (AV.int IntKind.i64 (AV.toInt (projT [3, Int.toNat (b)] b47.1)))) (cond (!(↑(cntL pg52 ls51) : Int) == IntKind.wrap IntKind.i64 (IntKind.wrap IntKind.i64 (IntKind.wrap IntKind.i64 (AV.toInt (projT [0, Int.toNat (b)] b44.1) + AV.toInt (projT [1, Int.toNat (b)] b45.1)) + AV.toInt (projT [2, Int.toNat (b)] b46.1)) + AV.toInt (projT [3, Int.toNat (b)] b47.1))) (k (AV.bool false) H'42 true) (resPS (S F) TL N 9 fuel 4 1 n0 [] [true, true, true, true, true, false, true] m (St.mk [(0, AV.isl 3 (row encSt l)), (2, AV.bad), (3, AV.ptr (Pl.mk i 0 [] 1)), (4, AV.bad), (5, AV.ptr (Pl.mk h 0 [] 256)), (6, AV.ptr (Pl.mk g 0 [] 4)), (7, AV.int IntKind.i64 (IntKind.wrap IntKind.i64 (ix + 1))), (8, AV.bad), (9, AV.bad), (10, AV.bad), (11, AV.bad), (26, AV.bad), (39, AV.bad), (58, AV.bad), (71, AV.bad), (73, AV.bad), (97, AV.bad), (99, AV.bad), (145, AV.bad)] [] H'42 true) k)) (False)) (False))) (False)) (False))) (False)) (False))) (False)) (False))) (False)) (False))))) (False)) (False))) (False)) (False)) (False)) (False))) (False)) (False)) (False)) (False))) (False)) (False)) (False)) (False))) (False)) (False)))))) (False)) (False)) := by
  have hn : a.toNat < (lens ls).length := by have h1 := hs.1; have h2 := hs.2; simp [lens]; omega
  have hnl : a.toNat < ls.length := by have h1 := hs.1; have h2 := hs.2; omega
  have hlen : (lens ls).length = 4 := by simp [lens, x.four]
  have hg : ls.getD a.toNat [] = ls[a.toNat] := by simp [List.getD, hnl]
  have hy' : (lens ls)[a.toNat] = ((ls.getD a.toNat []).length : Int) := by rw [hg]; simp [lens]
  have hy : (lens ls).getD a.toNat 0 = ((ls.getD a.toNat []).length : Int) := by rw [← hy']; simp [List.getD, hn]
  refine ldg x.mn (okZ4 hn hlen (by omega)) ?_
  rw [prZ4 hn, hy']
  refine cT rfl ⟨i, jp, vs, ls, a, rfl, x.p, fun ho H2 K => ?_, fun _ k0 H2 _ _ K => ?_⟩
  · have h0 := ho.resolve_left (fun h => h hs)
    exact end4 (x.keep K) hs hp hy (by rw [h0]; rfl) (hk _ (x.keep K))
  · exact end4 (x.keep K) hs hp hy rfl (hk _ (x.keep K))
end Go.Proofs.Ytclmndonaljppaa
/-
  PinsOnce: the law's run.
-/
namespace Go.Proofs.Ytclmndonaljppaa
open Go Go.X
variable {F : Nat} {N fuel m n0 : Nat} {l : List Stp} {i jp h g : Nat} {k : AV → Heap → Bool → Prop} {vs : List AV} {ls : List (List Int)}
set_option maxRecDepth 100000
theorem modR_ok (x : Int) {n : Int} (hn : 0 < n) : 0 ≤ modR x n ∧ modR x n < n := ⟨Int.emod_nonneg x (by omega), Int.emod_lt_of_pos x hn⟩
/-- The next memory. -/
theorem Inv4.next {H1 H2 : Heap} {vs' : List AV} {ls' : List (List Int)} (x : Inv4 H1 i jp h g vs ls) (h2 : PinsR H2 i jp vs' ls') (hn : Nxt H1 i jp vs H2 vs') (hg : AllGood ls') (hl : ls'.length = 4) {B C : List Int → Prop} :
    H2.blk h = some ⟨.arr 64 (row encN (ls.map cntA)), false, true⟩ ∧ H2.blk g = some ⟨.arr 1 (row encZ (lens ls)), false, true⟩ ∧ h ∉ i :: jp :: refsL vs' ∧ g ∉ i :: jp :: refsL vs' := by
  have hhl := blk_lt x.hv
  have hgl := blk_lt x.mn
  have nd : ∀ y, y < H1.length → y ∉ i :: jp :: refsL vs → y ∉ i :: jp :: refsL vs' := fun y hy hd hx => by
    simp only [List.mem_cons, not_or] at hx hd
    rcases hx with hx | hx | hx
    · exact hd.1 hx
    · exact hd.2.1 hx
    · rcases hn.new y hx with h | h
      · exact hd.2.2 h
      · omega
  exact ⟨(hn.keep.blk hhl x.d1).trans x.hv, (hn.keep.blk hgl x.d2).trans x.mn, nd h hhl x.d1, nd g hgl x.d2⟩
theorem addS_length (s pg : Int) : (addS ls s pg).length = ls.length := by unfold addS; split <;> simp
theorem dropS_length (s pg : Int) : (dropS ls s pg).length = ls.length := by unfold dropS; split <;> simp
/-- One number of 'have', one of 'many' are written. -/
theorem Inv4.wr {H2 : Heap} {ms : List (Ar 64)} {zs : List Int} {ls' : List (List Int)} (h2 : PinsR H2 i jp vs ls') (b1 : H2.blk h = some ⟨.arr 64 (row encN ms), false, true⟩) (b2 : H2.blk g = some ⟨.arr 1 (row encZ zs), false, true⟩)
    (d1 : h ∉ i :: jp :: refsL vs) (d2 : g ∉ i :: jp :: refsL vs) (ne : h ≠ g) (hg : AllGood ls') (hl : ls'.length = 4) :
    Inv4 ((H2.set h (some ⟨.arr 64 (row encN (ls'.map cntA)), false, true⟩)).set g (some ⟨.arr 1 (row encZ (lens ls')), false, true⟩)) i jp h g vs ls' := by
  have hhl := blk_lt b1
  have hgl := blk_lt b2
  refine ⟨h2.keep fun x hx => ?_, ?_, blk_set (by simpa using hgl) rfl, hg, hl, d1, d2, ne⟩
  · rw [blk_set_ne (fun (he : x = g) => d2 (he ▸ hx)), blk_set_ne (fun (he : x = h) => d1 (he ▸ hx))]
  · rw [blk_set_ne ne, blk_set hhl rfl]
theorem stepA4 {H : Heap} {ix : Nat} (hi : ix < l.length) (x : Inv4 H i jp h g vs ls)
    (hk : ∀ H2 vs' ls', Inv4 H2 i jp h g vs' ls' → resPS (S F) TL N 9 fuel 4 1 n0 [] pQ m ⟨L4 (.isl 3 (row encSt l)) i h g (IntKind.i64.wrap ((ix : Int) + 1)), [], H2, true⟩ k) :
    resPS (S F) TL N 9 fuel 4 1 n0 [] pQ (m + 1) ⟨L4 (.isl 3 (row encSt l)) i h g ix, [], H, true⟩ k := by
  rw [step4]
  have hil : (ix : Int) < ((row encSt l).length : Int) := by rw [row_length]; omega
  refine cD hil (cD (by omega) ?_)
  rw [Int.toNat_natCast, step_at hi]
  refine cT rfl (cT rfl (cT rfl (cT rfl (cD (by omega) (cT rfl (cT rfl (cT rfl (cT rfl ⟨l[ix].s, 4, rfl, .inl rfl, rfl, l[ix].pg, 64, rfl, .inr rfl, rfl, cT beq_int' (cD (by omega) (cT rfl (cT rfl (cT rfl (cT rfl ?_)))))⟩))))))))
  obtain ⟨a1, a2⟩ := modR_ok l[ix].s (n := 4) (by omega)
  obtain ⟨p1, p2⟩ := modR_ok l[ix].pg (n := 64) (by omega)
  generalize modR l[ix].s 4 = a at a1 a2
  generalize modR l[ix].pg 64 = b at p1 p2
  have hs : OkS ls a := ⟨a1, by rw [x.four]; exact a2⟩
  have hp : OkP b := ⟨p1, p2⟩
  have hnl : a.toNat < ls.length := by rw [x.four]; omega
  have ha4 : a.toNat < 4 := by omega
  have hb : b.toNat < 64 := by omega
  have hlm : (ls.map cntA).length = 4 := by simp [x.four]
  have hnm : a.toNat < (ls.map cntA).length := by omega
  have hlen : (lens ls).length = 4 := by simp [lens, x.four]
  have hnz : a.toNat < (lens ls).length := by omega
  have hg : ls.getD a.toNat [] = ls[a.toNat] := by simp [List.getD, hnl]
  have hgd := x.good _ (List.getElem_mem hnl)
  have eN : (ls.map cntA)[a.toNat] = cntA ls[a.toNat] := by simp
  have eZ : (lens ls)[a.toNat] = (ls[a.toNat].length : Int) := by simp [lens]
  have hsm := cntA_small hgd hb
  have hl16 := hgd.len
  obtain ⟨bn, rfl⟩ : ∃ n : Nat, b = (n : Int) := ⟨b.toNat, by omega⟩
  rw [Int.toNat_natCast] at hb hsm
  have eC := cntA_get (l := ls[a.toNat]) hb
  by_cases hd : l[ix].drop = true
  · refine cT hd ⟨i, jp, vs, ls, a, (bn : Int), rfl, x.p, fun H2 vs' h2 hn => ?_⟩
    obtain ⟨b1, b2, d1, d2⟩ := x.next h2 hn (dropS_good x.good _ _) (by rw [dropS_length, x.four]) (B := fun _ => True) (C := fun _ => True)
    refine cD a1 (cD ha4 (cD p1 (cD hb (ldg b1 (okN4 hnm hb hlm (by omega)) ?_))))
    rw [Int.toNat_natCast, prN4 hnm hb]
    refine cT rfl ?_
    simp only [AV.toInt, eN]
    by_cases hm : (bn : Int) ∈ ls[a.toNat]
    · have e0 : dropErr ls a bn = 0 := by unfold dropErr; rw [if_pos hs, hg, if_pos hm]
      have hc := List.count_pos_iff.2 hm
      have e1 : dropS ls a bn = ls.set a.toNat (ls[a.toNat].erase bn) := by unfold dropS; rw [if_pos e0, hg]
      have hpos : (cntA ls[a.toNat]).get bn > 0 := by rw [eC]; omega
      refine cF (by rw [e0, decide_eq_true hpos]; rfl) (cT (by rw [e0]; rfl) (cD a1 (cD ha4 (cD p1 (cD hb (ldg b1 (okN4 hnm hb hlm (by omega)) ?_))))))
      rw [prN4 hnm hb]
      refine cT rfl (cD a1 (cD ha4 (cD p1 (cD hb (ldg b1 (plN4 hnm hb hlm (by omega)) ?_)))))
      rintro H3 rfl
      rw [puN4 hnm]
      refine cD a1 (cD ha4 (ldg ((blk_set_ne (Ne.symm x.ne)).trans b2) (okZ4 hnz hlen (by omega)) ?_))
      rw [prZ4 hnz]
      refine cT rfl (cD a1 (cD ha4 (ldg ((blk_set_ne (Ne.symm x.ne)).trans b2) (plZ4 hnz hlen (by omega)) ?_)))
      rintro H4 rfl
      simp only [AV.toInt, eN, eZ]
      rw [puZ4, wrapI (by omega) (by omega), wrapI (by omega) (by omega)]
      have f1 : (ls.map cntA).set a.toNat ((cntA ls[a.toNat]).set bn ((cntA ls[a.toNat]).get bn - 1)) = (dropS ls a bn).map cntA := by
        have := cntA_drop (l := ls[a.toNat]) (pg := (bn : Int)) hp hm
        rw [Int.toNat_natCast] at this
        rw [e1, List.map_set, ← this]
        rfl
      have f2 : (lens ls).set a.toNat ((ls[a.toNat].length : Int) - 1) = lens (dropS ls a bn) := by
        have he := List.length_erase_of_mem hm
        have hpos := List.length_pos_of_mem hm
        rw [e1, lens, lens, List.map_set, he]
        congr 1
        omega
      have hI := Inv4.wr h2 b1 b2 d1 d2 x.ne (dropS_good x.good a bn) (by rw [dropS_length, x.four])
      rw [← f1, ← f2] at hI
      have hI2 := hI
      have hs' : OkS (dropS ls a bn) a := ⟨a1, by rw [dropS_length, x.four]; exact a2⟩
      refine cD a1 (cD ha4 (tail4 (vs := vs') (ls := dropS ls a bn) ?_ hs' hp fun H5 h5 => hk H5 _ _ h5))
      exact hI2
    · have e0 : dropErr ls a bn = 19 := by unfold dropErr; rw [if_pos hs, hg, if_neg hm]
      have hc : ls[a.toNat].count (bn : Int) = 0 := List.count_eq_zero.2 hm
      have e1 : dropS ls a bn = ls := by unfold dropS; rw [if_neg (by rw [e0]; decide)]
      have hz : ¬ (cntA ls[a.toNat]).get bn > 0 := by rw [eC, hc]; omega
      refine cF (by rw [e0, decide_eq_false hz]; rfl) (cF (by rw [e0]; rfl) (cD a1 (cD ha4 (tail4 (vs := vs') (ls := ls) ?_ hs hp fun H5 h5 => hk H5 _ _ h5))))
      rw [e1] at h2
      exact ⟨h2, b1, b2, x.good, x.four, d1, d2, x.ne⟩
  · have hd : l[ix].drop = false := by simpa using hd
    refine cF hd ⟨i, jp, vs, ls, a, (bn : Int), rfl, x.p, fun H2 vs' h2 hn => ?_⟩
    obtain ⟨b1, b2, d1, d2⟩ := x.next h2 hn (addS_good x.good _ _) (by rw [addS_length, x.four]) (B := fun _ => True) (C := fun _ => True)
    refine cD a1 (cD ha4 (ldg b2 (okZ4 hnz hlen (by omega)) ?_))
    rw [prZ4 hnz]
    refine cT rfl ?_
    simp only [AV.toInt, eZ]
    by_cases hm : ls[a.toNat].length < 16
    · have e0 : addErr ls a bn = 0 := by unfold addErr; rw [if_pos hs, if_pos hp, hg, if_neg (by omega)]
      have e1 : addS ls a bn = ls.set a.toNat (sortI (ls[a.toNat] ++ [(bn : Int)])) := by unfold addS; rw [if_pos e0, hg]
      have hlt : ((ls[a.toNat].length : Nat) : Int) < 16 := by omega
      refine cF (by rw [e0, decide_eq_true hlt]; rfl) (cT (by rw [e0]; rfl) (cD a1 (cD ha4 (cD p1 (cD hb (ldg b1 (okN4 hnm hb hlm (by omega)) ?_))))))
      rw [Int.toNat_natCast, prN4 hnm hb]
      refine cT rfl (cD a1 (cD ha4 (cD p1 (cD hb (ldg b1 (plN4 hnm hb hlm (by omega)) ?_)))))
      rintro H3 rfl
      rw [puN4 hnm]
      refine cD a1 (cD ha4 (ldg ((blk_set_ne (Ne.symm x.ne)).trans b2) (okZ4 hnz hlen (by omega)) ?_))
      rw [prZ4 hnz]
      refine cT rfl (cD a1 (cD ha4 (ldg ((blk_set_ne (Ne.symm x.ne)).trans b2) (plZ4 hnz hlen (by omega)) ?_)))
      rintro H4 rfl
      simp only [AV.toInt, eN, eZ]
      rw [puZ4, wrapI (by omega) (by omega), wrapI (by omega) (by omega)]
      have f1 : (ls.map cntA).set a.toNat ((cntA ls[a.toNat]).set bn ((cntA ls[a.toNat]).get bn + 1)) = (addS ls a bn).map cntA := by
        have := cntA_add (l := ls[a.toNat]) (pg := (bn : Int)) hp
        rw [Int.toNat_natCast] at this
        rw [e1, List.map_set, ← this]
      have f2 : (lens ls).set a.toNat ((ls[a.toNat].length : Int) + 1) = lens (addS ls a bn) := by
        rw [e1, lens, lens, List.map_set, sortI_length, List.length_append]
        rfl
      have hI := Inv4.wr h2 b1 b2 d1 d2 x.ne (addS_good x.good a bn) (by rw [addS_length, x.four])
      rw [← f1, ← f2] at hI
      have hs' : OkS (addS ls a bn) a := ⟨a1, by rw [addS_length, x.four]; exact a2⟩
      refine cD a1 (cD ha4 (tail4 (vs := vs') (ls := addS ls a bn) ?_ hs' hp fun H5 h5 => hk H5 _ _ h5))
      exact hI
    · have e0 : addErr ls a bn = 19 := by unfold addErr; rw [if_pos hs, if_pos hp, hg, if_pos (by omega)]
      have e1 : addS ls a bn = ls := by unfold addS; rw [if_neg (by rw [e0]; decide)]
      have hlt : ¬ ((ls[a.toNat].length : Nat) : Int) < 16 := by omega
      refine cF (by rw [e0, decide_eq_false hlt]; rfl) (cF (by rw [e0]; rfl) (cD a1 (cD ha4 (tail4 (vs := vs') (ls := ls) ?_ hs hp fun H5 h5 => hk H5 _ _ h5))))
      rw [e1] at h2
      exact ⟨h2, b1, b2, x.good, x.four, d1, d2, x.ne⟩
theorem loop4 (hl : l.length ≤ 200) (hk : ∀ H, k (.bool true) H true) : ∀ (d ix m : Nat) (H : Heap) (vs : List AV) (ls : List (List Int)), ix + d = l.length → d < m → Inv4 H i jp h g vs ls →
    resPS (S F) TL N 9 fuel 4 1 n0 [] pQ m ⟨L4 (.isl 3 (row encSt l)) i h g ix, [], H, true⟩ k
  | _, _, 0, _, _, _, _, h, _ => by omega
  | 0, ix, m + 1, H, vs, ls, hd, _, x => by
    rw [step4]
    exact cN (by rw [row_length]; omega) ⟨rfl, hk _⟩
  | d + 1, ix, m + 1, H, vs, ls, hd, hm, x => by
    have hw : IntKind.i64.wrap ((ix : Int) + 1) = ((ix + 1 : Nat) : Int) := wrapS (by omega)
    refine stepA4 (by omega) x fun H2 vs' ls' h2 => ?_
    rw [hw]
    exact loop4 hl hk d (ix + 1) m H2 vs' ls' (by omega) (by omega) h2
abbrev z4 : List AV := [AV.arr 1 (encL IntKind.i64 64 fun (_i : Nat) => 0), AV.arr 1 (encL IntKind.i64 64 fun (_i : Nat) => 0), AV.arr 1 (encL IntKind.i64 64 fun (_i : Nat) => 0), AV.arr 1 (encL IntKind.i64 64 fun (_i : Nat) => 0)]
theorem inv4_start {H : Heap} (hp : PinsR H i jp vs (List.replicate 4 [])) :
    Inv4 (H ++ [some (Blk.mk (.arr 64 z4) false true)] ++ [some (Blk.mk (.arr 1 [AV.int .i64 0, AV.int .i64 0, AV.int .i64 0, AV.int .i64 0]) false true)]) i jp H.length (H ++ [some (Blk.mk (.arr 64 z4) false true)]).length vs (List.replicate 4 []) := by
  have hl : (H ++ [some (Blk.mk (.arr 64 z4) false true)]).length = H.length + 1 := by simp
  refine ⟨hp.keep' (fp := []) ((Keep.refl [] H).appIn.appIn) (by simp), ?_, blk_new rfl, allGood_nil 4, rfl, fun hx => ?_, fun hx => ?_, by rw [hl]; omega⟩
  · rw [blk_app (by rw [hl]; omega), blk_new (by rfl)]
    simp only [List.map_replicate, cntA_nil]
    rfl
  · have := hp.lt _ hx; omega
  · have := hp.lt _ hx; rw [hl] at this; omega
theorem once4 (N : Nat) (l : List Stp) : runP (S F) TL N 9 (S F).fu 4 [.isl 3 (row encSt l)] [] fun v _ _ => v = .bool true := by
  rw [start4]
  refine ⟨4, rfl, fun hn => absurd (by omega) hn, fun _ _ i jp vs H hp _ _ => ?_⟩
  by_cases h200 : ((row encSt l).length : Int) > 200
  · exact cD h200 ⟨rfl, rfl⟩
  rw [row_length] at h200
  refine cN (by rw [row_length]; exact h200) ?_
  exact loop4 (by omega) (fun _ => rfl) l.length 0 (S F).fu _ vs _ (by omega) (by rw [S_fu]; omega) (inv4_start hp)
theorem once4n (N : Nat) : runP (S F) TL N 9 (S F).fu 4 [.nils] [] fun v _ _ => v = .bool true := by
  rw [start4n]
  refine ⟨4, rfl, fun hn => absurd (by omega) hn, fun _ _ i jp vs H hp _ _ => ?_⟩
  have hst := step4n (F := F) N (S F).fu (F + 4999) 0 i H.length (H ++ [some (Blk.mk (.arr 64 z4) false true)]).length (H ++ [some (Blk.mk (.arr 64 z4) false true)] ++ [some (Blk.mk (.arr 1 [AV.int .i64 0, AV.int .i64 0, AV.int .i64 0, AV.int .i64 0]) false true)]) (fun v _ _ => v = .bool true)
  rw [show (F + 4999) + 1 = (S F).fu from rfl] at hst
  exact hst.symm ▸ ⟨rfl, rfl⟩
end Go.Proofs.Ytclmndonaljppaa
