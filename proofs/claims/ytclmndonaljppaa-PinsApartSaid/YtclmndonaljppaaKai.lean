/-
  What compares; counts; lists without an element; new pins.
-/
import Derived.Test.YtclmndonaljppaaKah
import Derived.Test.YtclmndonaljppaaKaa

namespace Go.Proofs.Ytclmndonaljppaa
open Go Go.X
variable {F : Nat}
set_option maxRecDepth 100000
theorem nat_beq {a b : Nat} : (((a : Nat) : Int) == ((b : Nat) : Int)) = decide (a = b) := by
  by_cases h : a = b
  · subst h; simp
  · have : ¬ (a : Int) = b := by omega
    simp only [h, decide_false, beq_eq_false_iff_ne]
    exact this
theorem loop14 (N fuel n0 : Nat) (k1 g1 k2 g2 : Nat) (l tl m tm : List Int) (H : Heap) (k : AV → Heap → Bool → Prop) (hb : H.blk k1 = some ⟨.arr 1 (row encZ (l ++ tl)), true, true⟩) (hg : l.length + tl.length = g1)
    (hb2 : H.blk k2 = some ⟨.arr 1 (row encZ (m ++ tm)), true, true⟩) (hg2 : m.length + tm.length = g2) (hl : l.length ≤ 1000) (hlm : l.length = m.length) :
    ∀ (d j f : Nat), j + d = l.length → d < f → k (.bool (decide (l.drop j = m.drop j))) H true →
      resPS (S F) T0 N 30 fuel 14 2 n0 [] [true, true, false, true] f ⟨L14 (.sl ⟨k1, 0, [], g1⟩ 1 g1 0 l.length) (.sl ⟨k2, 0, [], g2⟩ 1 g2 0 m.length) j, [], H, true⟩ k
  | _, _, 0, _, h, _ => by omega
  | 0, j, f + 1, hd, _, hk => by
    rw [step14]
    refine cN (by omega) ?_
    rw [List.drop_of_length_le (by omega), List.drop_of_length_le (by omega)] at hk
    exact hk
  | d + 1, j, f + 1, hd, hm, hk => by
    have hj : j < l.length := by omega
    have hj2 : j < m.length := by omega
    have hjt : j < (l ++ tl).length := by simp; omega
    have hjt2 : j < (m ++ tm).length := by simp; omega
    have hdr : l.drop j = l[j] :: l.drop (j + 1) := by simp
    have hdr2 : m.drop j = m[j] :: m.drop (j + 1) := by simp
    have hw : IntKind.i64.wrap ((j : Int) + 1) = ((j + 1 : Nat) : Int) := wrapS (by omega)
    rw [step14]
    refine cD (by omega) (cD (by omega) (cD (by simpa using hj) (ldg hb ?_ ?_)))
    · rw [Int.toNat_natCast]; exact okZ hjt (by simpa using hg)
    rw [Int.toNat_natCast, prZ hjt]
    refine cT rfl (cD (by omega) (cD hj2 (ldg hb2 ?_ ?_)))
    · exact okZ hjt2 (by simpa using hg2)
    rw [prZ hjt2]
    refine cT rfl ?_
    have he : (l ++ tl)[j] = l[j] := by simp [hj]
    have he2 : (m ++ tm)[j] = m[j] := by simp [hj2]
    simp only [AV.toInt, he, he2, hw]
    rw [hdr, hdr2] at hk
    by_cases h : l[j] = m[j]
    · refine cF (by simp [h]) ?_
      refine loop14 N fuel n0 k1 g1 k2 g2 l tl m tm H k hb hg hb2 hg2 hl hlm d (j + 1) f (by omega) (by omega) ?_
      have e : decide (l[j] :: l.drop (j + 1) = m[j] :: m.drop (j + 1)) = decide (l.drop (j + 1) = m.drop (j + 1)) := decide_eq_decide.2 ⟨fun h => (List.cons.inj h).2, fun h2 => by rw [h, h2]⟩
      rwa [e] at hk
    · refine cT (by simp [h]) ?_
      have : decide (l[j] :: l.drop (j + 1) = m[j] :: m.drop (j + 1)) = false := decide_eq_false fun h2 => h (List.cons.inj h2).1
      rwa [this] at hk
def t14 : PT := fun args H k => ∃ (v w : AV) (l m : List Int), args = [v, w] ∧ Slot H v l ∧ Slot H w m ∧ l.length ≤ 1000 ∧ k (.bool (decide (l = m))) H true
theorem ints14 (N : Nat) (args : List AV) (H : Heap) (k : AV → Heap → Bool → Prop) : t14 args H k → runP (S F) T0 N 30 (S F).fu 14 args H k := by
  rintro ⟨v, w, l, m, rfl, h1, h2, hl, hk⟩
  rcases h1 with ⟨rfl, rfl⟩ | ⟨k1, tl, rfl, hb⟩
  · rcases h2 with ⟨rfl, rfl⟩ | ⟨k2, tm, rfl, hb2⟩
    · rw [S_fu, show F + 5000 = (F + 4998) + 2 by omega, start14o]
      exact hk
    · rw [start14n]
      by_cases h0 : m = []
      · subst h0
        refine cF rfl ?_
        rw [S_fu, show F + 5000 = (F + 4999) + 1 by omega]
        have := step14n (F := F) N (F + 4999 + 1) (F + 4999) H.length ⟨k2, 0, [], ([] : List Int).length + tm.length⟩ (([] : List Int).length + tm.length) 0 ([] : List Int).length H k
        exact this ▸ hk
      · refine cT ?_ ?_
        · have : 0 < m.length := List.length_pos_iff.2 h0
          have : ¬ (0 : Int) = (m.length : Int) := by omega
          simpa using this
        · have : decide ([] = m) = false := by simp [Ne.symm h0]
          rwa [this] at hk
  · rcases h2 with ⟨rfl, rfl⟩ | ⟨k2, tm, rfl, hb2⟩
    · rw [start14m]
      by_cases h0 : l = []
      · subst h0
        refine cF rfl ?_
        rw [S_fu, show F + 5000 = (F + 4999) + 1 by omega]
        have := step14m (F := F) N (F + 4999 + 1) (F + 4999) H.length ⟨k1, 0, [], ([] : List Int).length + tl.length⟩ (([] : List Int).length + tl.length) 0 H k
        exact this ▸ hk
      · refine cT ?_ ?_
        · have : 0 < l.length := List.length_pos_iff.2 h0
          have : ¬ (l.length : Int) = 0 := by omega
          simpa using this
        · have : decide (l = []) = false := by simp [h0]
          rwa [this] at hk
    · rw [start14, nat_beq]
      by_cases h0 : l.length = m.length
      · refine cF (by simp [h0]) ?_
        exact loop14 N _ H.length k1 _ k2 _ l tl m tm H k hb rfl hb2 rfl hl h0 l.length 0 (S F).fu (by omega) (by rw [S_fu]; omega) hk
      · refine cT (by simp [h0]) ?_
        have : decide (l = m) = false := by
          rw [decide_eq_false_iff_not]
          rintro rfl
          exact h0 rfl
        rwa [this] at hk
/-! ### How many pins a page has -/
theorem loop17i (N fuel m n0 : Nat) (p : Pl) (n off len : Nat) (k2 g2 : Nat) (l tl : List Int) (H : Heap) (pg : Int) (i : Nat) (k : AV → Heap → Bool → Prop) (hb : H.blk k2 = some ⟨.arr 1 (row encZ (l ++ tl)), true, true⟩) (hg : l.length + tl.length = g2) (hl : l.length ≤ 1000) (hi : i ≤ 1000) :
    ∀ (d j f c : Nat), j + d = l.length → d < f → c + d ≤ 10000 → resPS (S F) T0 N 30 fuel 17 2 n0 [] [true, true, true, false, true] m ⟨L17 p n off len pg ((c + (l.drop j).count pg : Nat) : Int) ((i + 1 : Nat) : Int), [], H, true⟩ k →
      resPS (S F) T0 N 30 fuel 17 2 n0 [([true, true, false, true, true], f)] [true, true, true, false, true] m ⟨L17i p n off len pg c i (.sl ⟨k2, 0, [], g2⟩ 1 g2 0 l.length) l.length j, [], H, true⟩ k
  | _, _, 0, _, _, h, _, _ => by omega
  | 0, j, f + 1, c, hd, _, _, hk => by
    have hw : IntKind.i64.wrap ((i : Int) + 1) = ((i + 1 : Nat) : Int) := wrapS (by omega)
    rw [step17i]
    refine cN (by omega) ?_
    rw [List.drop_of_length_le (by omega)] at hk
    rw [hw]
    exact hk
  | d + 1, j, f + 1, c, hd, hm, hc, hk => by
    have hj : j < l.length := by omega
    have hjt : j < (l ++ tl).length := by simp; omega
    have hdr : l.drop j = l[j] :: l.drop (j + 1) := by simp
    have hw : IntKind.i64.wrap ((j : Int) + 1) = ((j + 1 : Nat) : Int) := wrapS (by omega)
    have hwc : IntKind.i64.wrap ((c : Int) + 1) = ((c + 1 : Nat) : Int) := wrapS (by omega)
    rw [step17i]
    refine cD (by omega) (cD (by omega) (cD (by simpa using hj) (ldg hb ?_ ?_)))
    · rw [Int.toNat_natCast]; exact okZ hjt (by simpa using hg)
    rw [Int.toNat_natCast, prZ hjt]
    refine cT rfl ?_
    have he : (l ++ tl)[j] = l[j] := by simp [hj]
    simp only [AV.toInt, he, hw, hwc]
    rw [hdr, List.count_cons] at hk
    by_cases h : l[j] = pg
    · refine cT (by simp [h]) ?_
      refine loop17i N fuel m n0 p n off len k2 g2 l tl H pg i k hb hg hl hi d (j + 1) f (c + 1) (by omega) (by omega) (by omega) ?_
      rw [if_pos (by simp [h])] at hk
      rwa [show c + 1 + (l.drop (j + 1)).count pg = c + ((l.drop (j + 1)).count pg + 1) by omega]
    · refine cF (by simp [h]) ?_
      refine loop17i N fuel m n0 p n off len k2 g2 l tl H pg i k hb hg hl hi d (j + 1) f c (by omega) (by omega) (by omega) ?_
      rw [if_neg (by simp [h])] at hk
      exact hk
/-- How many pins of a page there are. -/
def cntL (pg : Int) (ls : List (List Int)) : Nat := (ls.map (List.count pg)).sum
theorem loop17 (N n0 : Nat) (i0 j0 : Nat) (vs : List AV) (ls : List (List Int)) (H : Heap) (pg : Int) (k : AV → Heap → Bool → Prop) (hR : PinsR H i0 j0 vs ls) :
    ∀ (d i f c : Nat), i + d = ls.length → d < f → c + 16 * d ≤ 1000 → k (.int .i64 ((c + cntL pg (ls.drop i) : Nat) : Int)) H true →
      resPS (S F) T0 N 30 (S F).fu 17 2 n0 [] [true, true, true, false, true] f ⟨L17 ⟨j0, 0, [], ls.length⟩ ls.length 0 ls.length pg c i, [], H, true⟩ k
  | _, _, 0, _, _, h, _, _ => by omega
  | 0, i, f + 1, c, hd, _, _, hk => by
    rw [step17]
    refine cN (by omega) ?_
    rw [List.drop_of_length_le (by omega)] at hk
    exact hk
  | d + 1, i, f + 1, c, hd, hm, hc, hk => by
    have hi : i < ls.length := by omega
    have hle := hR.le
    have hdr : ls.drop i = ls[i] :: ls.drop (i + 1) := by simp
    have hs : OkS ls i := ⟨by omega, by omega⟩
    obtain ⟨hv, hn, hg, hsl, hcap, hok, hpr⟩ := hR.slot hs
    obtain ⟨fl, ha⟩ := hR.arr
    rw [step17]
    refine cD (by omega) (cD (by omega) (cD (by simpa using hi) (ldg ha hok ?_)))
    rw [hpr]
    simp only [Int.toNat_natCast] at hsl hcap ⊢
    have hk' : k (.int .i64 ((c + (ls[i].count pg) + cntL pg (ls.drop (i + 1)) : Nat) : Int)) H true := by
      rw [hdr] at hk
      have e : cntL pg (ls[i] :: ls.drop (i + 1)) = ls[i].count pg + cntL pg (ls.drop (i + 1)) := rfl
      rwa [e, ← Nat.add_assoc] at hk
    have hcl : ls[i].count pg ≤ 16 := Nat.le_trans List.count_le_length hcap
    refine ⟨fun he => ?_, fun p n off len he => ?_, ?_⟩
    · have h0 : ls[i] = [] := by
        rcases hsl with ⟨_, h⟩ | ⟨_, _, hv', _⟩
        · exact h
        · rw [hv'] at he; cases he
      rw [S_fu, show F + 5000 = (F + 4999) + 1 by omega]
      have hst := step17n (F := F) N (F + 4999 + 1) f (F + 4999) n0 ⟨j0, 0, [], ls.length⟩ ls.length 0 ls.length H pg c i k
      refine hst.symm ▸ ?_
      have hw : IntKind.i64.wrap ((i : Int) + 1) = ((i + 1 : Nat) : Int) := wrapS (by omega)
      rw [hw]
      have := loop17 N n0 i0 j0 vs ls H pg k hR d (i + 1) f c (by omega) (by omega) (by omega) (by simpa [h0] using hk')
      exact this
    · rcases hsl with ⟨hv', _⟩ | ⟨k0, tl, hv', hb⟩
      · rw [hv'] at he; cases he
      have he' := he
      rw [hv'] at he'
      injection he' with e1 e2 e3 e4 e5
      subst e1 e3 e4 e5
      refine loop17i N _ f n0 _ _ _ _ k0 _ ls[i] tl H pg i k hb rfl (by omega) (by omega) ls[i].length 0 (S F).fu c (by omega) (by rw [S_fu]; omega) (by omega) ?_
      exact loop17 N n0 i0 j0 vs ls H pg k hR d (i + 1) f _ (by omega) (by omega) (by simp only [List.drop_zero]; omega) (by simpa using hk')
    · rcases hsl with ⟨hv', _⟩ | ⟨k0, tl, hv', _⟩
      · exact .inl hv'
      · exact .inr ⟨_, _, _, _, hv'⟩
def t17 : PT := fun args H k => ∃ (i j : Nat) (vs : List AV) (ls : List (List Int)) (pg : Int), args = [.ptr ⟨i, 0, [], 1⟩, .int .i64 pg] ∧ PinsR H i j vs ls ∧ k (.int .i64 (cntL pg ls : Nat)) H true
theorem cnt17 (N : Nat) (args : List AV) (H : Heap) (k : AV → Heap → Bool → Prop) : t17 args H k → runP (S F) T0 N 30 (S F).fu 17 args H k := by
  rintro ⟨i, j, vs, ls, pg, rfl, hR, hk⟩
  have hle := hR.le
  rw [start17]
  refine ldg hR.top okTop ⟨_, _, _, _, rfl, ?_⟩
  exact loop17 N H.length i j vs ls H pg k hR ls.length 0 (S F).fu 0 (by omega) (by rw [S_fu]; omega) (by omega) (by simpa using hk)
end Go.Proofs.Ytclmndonaljppaa
/- The reference's pins: trees.
-/
namespace Go.Proofs.Ytclmndonaljppaa
open Go Go.X
variable {F : Nat}
abbrev T24a : FuncId → Option PT := fun f => if f = 24 then some t24 else none
abbrev T24 : FuncId → Option PT := fun f => if f = 24 then some t24 else if f = 16 then some t16 else none
abbrev L16i (i : Nat) (s : Int) (o : AV) (j c : Int) : List (Nat × AV) := [(0, .ptr ⟨i, 0, [], 1⟩), (1, .int .i64 s), (4, .bad), (5, o), (6, .int .i64 j), (7, .int .i64 c), (14, .bad), (27, .bad)]
theorem start16t (N fuel : Nat) (i : Nat) (H : Heap) (s : Int) (k : AV → Heap → Bool → Prop) :
 (runP (S F) T24a N 30 fuel 16 [.ptr ⟨i, 0, [], 1⟩, .int .i64 s] H k) =
 ((resPS (S F) T24a N 30 fuel 16 2 H.length [] [true, true, false, true] fuel (St.mk [(0, AV.ptr (Pl.mk i 0 [] 1)), (1, AV.int IntKind.i64 s), (4, AV.bad), (5, AV.nils), (6, AV.int IntKind.i64 0), (7, AV.bad), (14, AV.bad), (27, AV.bad)] [] H true) k) : Prop) := by kernel_rfl
theorem step16 (N fuel m n0 i : Nat) (H : Heap) (s j : Int) (k : AV → Heap → Bool → Prop) :
 (resPS (S F) T24a N 30 fuel 16 2 n0 [] [true, true, false, true] (m + 1) ⟨L16 i s .nils j, [], H, true⟩ k) =
 ((cond (decide (j < 64))
 (∃ (i0 : Nat),
 ∃ (j1 : Nat),
 ∃ (ns2 : List (Ar 64)),
 ∃ (s3 : Int),
 And ([AV.ptr (Pl.mk i 0 [] 1), AV.int IntKind.i64 s] = [AV.ptr (Pl.mk i0 0 [] 1), AV.int IntKind.i64 s3])
 (And (RefR H i0 j1 ns2)
 (cond (decide (OkR ns2 s3))
 (resPS (S F) T24a N 30 fuel 16 2 n0 [([true, false, true], fuel)] [true, true, false, true] m (St.mk [(0, AV.ptr (Pl.mk i 0 [] 1)), (1, AV.int IntKind.i64 s), (4, AV.bad), (5, AV.nils), (6, AV.int IntKind.i64 j), (7, AV.int IntKind.i64 0), (14, AV.bad), (27, AV.bad)] [] H true) k)
 (k AV.nils H true))))
 (k AV.nils H true)) : Prop) := by kernel_rfl
theorem step16s (N fuel m n0 i : Nat) (H : Heap) (s j : Int) (p : Pl) (n off len : Nat) (k : AV → Heap → Bool → Prop) :
 (resPS (S F) T24a N 30 fuel 16 2 n0 [] [true, true, false, true] (m + 1) ⟨L16 i s (.sl p 1 n off len) j, [], H, true⟩ k) =
 ((cond (decide (j < 64))
 (∃ (i0 : Nat),
 ∃ (j1 : Nat),
 ∃ (ns2 : List (Ar 64)),
 ∃ (s3 : Int),
 And ([AV.ptr (Pl.mk i 0 [] 1), AV.int IntKind.i64 s] = [AV.ptr (Pl.mk i0 0 [] 1), AV.int IntKind.i64 s3])
 (And (RefR H i0 j1 ns2)
 (cond (decide (OkR ns2 s3))
 (resPS (S F) T24a N 30 fuel 16 2 n0 [([true, false, true], fuel)] [true, true, false, true] m (St.mk [(0, AV.ptr (Pl.mk i 0 [] 1)), (1, AV.int IntKind.i64 s), (4, AV.bad), (5, AV.sl p 1 n off len), (6, AV.int IntKind.i64 j), (7, AV.int IntKind.i64 0), (14, AV.bad), (27, AV.bad)] [] H true) k)
 (k (AV.sl p 1 n off len) H true))))
 (k (AV.sl p 1 n off len) H true)) : Prop) := by kernel_rfl
theorem step16i (N fuel m m2 n0 i : Nat) (H : Heap) (s j c : Int) (k : AV → Heap → Bool → Prop) :
 (resPS (S F) T24a N 30 fuel 16 2 n0 [([true, false, true], m2 + 1)] [true, true, false, true] m ⟨L16i i s .nils j c, [], H, true⟩ k) =
 ((∃ (b0 : Blk),
 And (Heap.blk H i = some b0)
 (cond (okAt b0.1 [0] 0 1 false 1)
 (∃ (p1 : Pl),
 ∃ (n2 : Nat),
 ∃ (off3 : Nat),
 ∃ (len4 : Nat),
 And (projT [0] b0.1 = AV.sl p1 64 n2 off3 len4)
 (cond (decide (0 ≤ s))
 (cond (decide (Int.toNat s < len4))
 (cond (decide (0 ≤ j))
 (cond (decide (Int.toNat j < 64))
 (∃ (b5 : Blk),
 And (Heap.blk H p1.1 = some b5)
 (cond (okAt b5.1 (p1.3 ++ [off3 + Int.toNat s] ++ [Int.toNat j]) (p1.2 + (off3 + Int.toNat s) * 64 + Int.toNat j * 1) p1.4 false 1)
 (cond (AV.isIntK (projT (p1.3 ++ [off3 + Int.toNat s] ++ [Int.toNat j]) b5.1) IntKind.i64)
 (cond (decide (c < AV.toInt (projT (p1.3 ++ [off3 + Int.toNat s] ++ [Int.toNat j]) b5.1)))
 (∃ (b6 : Blk),
 ∃ (ys7 : List AV),
 And (Heap.blk (H ++ [some (Blk.mk (AV.arr 1 [AV.int IntKind.i64 j]) true true)]) (List.length H) = some b6)
 (And (b6.1 = AV.arr 1 ys7)
 (And (([] : List Nat) = [])
 (And (0 = 0)
 (And (1 = 1)
 (cond (decide (1 * List.length ys7 = 1))
 (cond (decide (List.length ys7 = 1))
 (cond (reflessL (List.take 1 ys7) && List.all (List.take 1 ys7) fun (u : AV) => AV.flatLen u == 1)
 (cond (List.isEmpty (List.take 1 ys7))
 (resPS (S F) T24a N 30 fuel 16 2 n0 [([true, false, true], m2)] [true, true, false, true] m (St.mk [(0, AV.ptr (Pl.mk i 0 [] 1)), (1, AV.int IntKind.i64 s), (4, AV.bad), (5, AV.nils), (6, AV.int IntKind.i64 j), (7, AV.int IntKind.i64 (IntKind.wrap IntKind.i64 (c + 1))), (14, AV.bad), (27, AV.bad)] [] (H ++ [some (Blk.mk (AV.arr 1 [AV.int IntKind.i64 j]) true true)]) true) k)
 (cond (decide (List.length (List.take 1 ys7) * 8 ≤ 70368744177664) && decide (List.length (List.take 1 ys7) ≤ 70368744177664))
 (resPS (S F) T24a N 30 fuel 16 2 n0 [([true, false, true], m2)] [true, true, false, true] m (St.mk [(0, AV.ptr (Pl.mk i 0 [] 1)), (1, AV.int IntKind.i64 s), (4, AV.bad), (5, AV.sl (Pl.mk (List.length (H ++ [some (Blk.mk (AV.arr 1 [AV.int IntKind.i64 j]) true true)])) 0 [] (1 * List.length (List.take 1 ys7))) 1 (List.length (List.take 1 ys7)) 0 (List.length (List.take 1 ys7))), (6, AV.int IntKind.i64 j), (7, AV.int IntKind.i64 (IntKind.wrap IntKind.i64 (c + 1))), (14, AV.bad), (27, AV.bad)] [] (H ++ [some (Blk.mk (AV.arr 1 [AV.int IntKind.i64 j]) true true)] ++ [some (Blk.mk (AV.arr 1 (List.take 1 ys7)) true true)]) true) k)
 (False)))
 (False))
 (False))
 (False)))))))
 (resPS (S F) T24a N 30 fuel 16 2 n0 [] [true, true, false, true] m (St.mk [(0, AV.ptr (Pl.mk i 0 [] 1)), (1, AV.int IntKind.i64 s), (4, AV.bad), (5, AV.nils), (6, AV.int IntKind.i64 (IntKind.wrap IntKind.i64 (j + 1))), (7, AV.bad), (14, AV.bad), (27, AV.bad)] [] H true) k))
 (False))
 (False)))
 (False))
 (False))
 (False))
 (False)))
 (False))) : Prop) := by kernel_rfl
theorem step16j (N fuel m m2 n0 i : Nat) (H : Heap) (s j c : Int) (p : Pl) (n off len : Nat) (k : AV → Heap → Bool → Prop) :
 (resPS (S F) T24a N 30 fuel 16 2 n0 [([true, false, true], m2 + 1)] [true, true, false, true] m ⟨L16i i s (.sl p 1 n off len) j c, [], H, true⟩ k) =
 ((∃ (b0 : Blk),
 And (Heap.blk H i = some b0)
 (cond (okAt b0.1 [0] 0 1 false 1)
 (∃ (p1 : Pl),
 ∃ (n2 : Nat),
 ∃ (off3 : Nat),
 ∃ (len4 : Nat),
 And (projT [0] b0.1 = AV.sl p1 64 n2 off3 len4)
 (cond (decide (0 ≤ s))
 (cond (decide (Int.toNat s < len4))
 (cond (decide (0 ≤ j))
 (cond (decide (Int.toNat j < 64))
 (∃ (b5 : Blk),
 And (Heap.blk H p1.1 = some b5)
 (cond (okAt b5.1 (p1.3 ++ [off3 + Int.toNat s] ++ [Int.toNat j]) (p1.2 + (off3 + Int.toNat s) * 64 + Int.toNat j * 1) p1.4 false 1)
 (cond (AV.isIntK (projT (p1.3 ++ [off3 + Int.toNat s] ++ [Int.toNat j]) b5.1) IntKind.i64)
 (cond (decide (c < AV.toInt (projT (p1.3 ++ [off3 + Int.toNat s] ++ [Int.toNat j]) b5.1)))
 (∃ (b6 : Blk),
 ∃ (ys7 : List AV),
 And (Heap.blk (H ++ [some (Blk.mk (AV.arr 1 [AV.int IntKind.i64 j]) true true)]) (List.length H) = some b6)
 (And (b6.1 = AV.arr 1 ys7)
 (And (([] : List Nat) = [])
 (And (0 = 0)
 (And (1 = 1)
 (cond (decide (1 * List.length ys7 = 1))
 (cond (decide (List.length ys7 = 1))
 (cond (reflessL (List.take 1 ys7) && List.all (List.take 1 ys7) fun (u : AV) => AV.flatLen u == 1)
 (∃ (b8 : Blk),
 ∃ (ys9 : List AV),
 And (Heap.blk (H ++ [some (Blk.mk (AV.arr 1 [AV.int IntKind.i64 j]) true true)]) p.1 = some b8)
 (And (b8.1 = AV.arr 1 ys9)
 (And (p.3 = [])
 (And (p.2 = 0)
 (And (1 = 1)
 (cond (decide (1 * List.length ys9 = p.4) && decide (List.length ys9 = n) && decide (off + len ≤ n))
 (cond (decide (off + len + List.length (List.take 1 ys7) ≤ n))
 (∀ (H'10 : Heap),
 (H'10 = List.set (H ++ [some (Blk.mk (AV.arr 1 [AV.int IntKind.i64 j]) true true)]) p.1 (some (Blk.mk (AV.arr 1 (setMany ys9 (off + len) (List.take 1 ys7))) b8.2 b8.3))) →
 resPS (S F) T24a N 30 fuel 16 2 n0 [([true, false, true], m2)] [true, true, false, true] m (St.mk [(0, AV.ptr (Pl.mk i 0 [] 1)), (1, AV.int IntKind.i64 s), (4, AV.bad), (5, AV.sl p 1 n off (len + List.length (List.take 1 ys7))), (6, AV.int IntKind.i64 j), (7, AV.int IntKind.i64 (IntKind.wrap IntKind.i64 (c + 1))), (14, AV.bad), (27, AV.bad)] [] H'10 true) k)
 (cond (decide (off = 0) && decide (len = n) && b8.2 && decide ((n + List.length (List.take 1 ys7)) * 8 ≤ 70368744177664) && decide (n + List.length (List.take 1 ys7) ≤ 70368744177664))
 (∀ (H'11 : Heap),
 (H'11 = List.set (H ++ [some (Blk.mk (AV.arr 1 [AV.int IntKind.i64 j]) true true)]) p.1 (some (Blk.mk (AV.arr 1 (ys9 ++ List.take 1 ys7)) true b8.3))) →
 resPS (S F) T24a N 30 fuel 16 2 n0 [([true, false, true], m2)] [true, true, false, true] m (St.mk [(0, AV.ptr (Pl.mk i 0 [] 1)), (1, AV.int IntKind.i64 s), (4, AV.bad), (5, AV.sl (Pl.mk p.1 0 [] (1 * (n + List.length (List.take 1 ys7)))) 1 (n + List.length (List.take 1 ys7)) 0 (n + List.length (List.take 1 ys7))), (6, AV.int IntKind.i64 j), (7, AV.int IntKind.i64 (IntKind.wrap IntKind.i64 (c + 1))), (14, AV.bad), (27, AV.bad)] [] H'11 true) k)
 (False)))
 (False)))))))
 (False))
 (False))
 (False)))))))
 (resPS (S F) T24a N 30 fuel 16 2 n0 [] [true, true, false, true] m (St.mk [(0, AV.ptr (Pl.mk i 0 [] 1)), (1, AV.int IntKind.i64 s), (4, AV.bad), (5, AV.sl p 1 n off len), (6, AV.int IntKind.i64 (IntKind.wrap IntKind.i64 (j + 1))), (7, AV.bad), (14, AV.bad), (27, AV.bad)] [] H true) k))
 (False))
 (False)))
 (False))
 (False))
 (False))
 (False)))
 (False))) : Prop) := by kernel_rfl
theorem tree11 (N fuel : Nat) (i : Nat) (H : Heap) (s pg : Int) (k : AV → Heap → Bool → Prop) :
 (runP (S F) T24 N 30 fuel 11 [.ptr ⟨i, 0, [], 1⟩, .int .i64 s, .int .i64 pg] H k) =
 ((∃ (i0 : Nat),
 ∃ (j1 : Nat),
 ∃ (ns2 : List (Ar 64)),
 ∃ (s3 : Int),
 And ([AV.ptr (Pl.mk i 0 [] 1), AV.int IntKind.i64 s] = [AV.ptr (Pl.mk i0 0 [] 1), AV.int IntKind.i64 s3])
 (And (RefR H i0 j1 ns2)
 (cond (!decide (OkR ns2 s3))
 (k (AV.int IntKind.i64 20) H true)
 (cond (decide (pg < 0))
 (k (AV.int IntKind.i64 19) H true)
 (cond (decide (pg ≥ 64))
 (k (AV.int IntKind.i64 19) H true)
 (∃ (b4 : Blk),
 And (Heap.blk H i = some b4)
 (cond (okAt b4.1 [0] 0 1 false 1)
 (∃ (p5 : Pl),
 ∃ (n6 : Nat),
 ∃ (off7 : Nat),
 ∃ (len8 : Nat),
 And (projT [0] b4.1 = AV.sl p5 64 n6 off7 len8)
 (cond (decide (0 ≤ s))
 (cond (decide (Int.toNat s < len8))
 (cond (decide (0 ≤ pg))
 (cond (decide (Int.toNat pg < 64))
 (∃ (b9 : Blk),
 And (Heap.blk H p5.1 = some b9)
 (cond (okAt b9.1 (p5.3 ++ [off7 + Int.toNat s] ++ [Int.toNat pg]) (p5.2 + (off7 + Int.toNat s) * 64 + Int.toNat pg * 1) p5.4 false 1)
 (cond (AV.isIntK (projT (p5.3 ++ [off7 + Int.toNat s] ++ [Int.toNat pg]) b9.1) IntKind.i64)
 (cond (AV.toInt (projT (p5.3 ++ [off7 + Int.toNat s] ++ [Int.toNat pg]) b9.1) == 0)
 (k (AV.int IntKind.i64 19) H true)
 (∃ (b10 : Blk),
 And (Heap.blk H i = some b10)
 (cond (okAt b10.1 [0] 0 1 false 1)
 (∃ (p11 : Pl),
 ∃ (n12 : Nat),
 ∃ (off13 : Nat),
 ∃ (len14 : Nat),
 And (projT [0] b10.1 = AV.sl p11 64 n12 off13 len14)
 (cond (decide (0 ≤ s))
 (cond (decide (Int.toNat s < len14))
 (cond (decide (0 ≤ pg))
 (cond (decide (Int.toNat pg < 64))
 (∃ (b15 : Blk),
 And (Heap.blk H p11.1 = some b15)
 (cond (okAt b15.1 (p11.3 ++ [off13 + Int.toNat s] ++ [Int.toNat pg]) (p11.2 + (off13 + Int.toNat s) * 64 + Int.toNat pg * 1) p11.4 false 1)
 (cond (AV.isIntK (projT (p11.3 ++ [off13 + Int.toNat s] ++ [Int.toNat pg]) b15.1) IntKind.i64)
 (cond (decide (0 ≤ s))
 (cond (decide (Int.toNat s < len14))
 (cond (decide (0 ≤ pg))
 (cond (decide (Int.toNat pg < 64))
 (∃ (b16 : Blk),
 And (Heap.blk H p11.1 = some b16)
 (cond (okPl b16.1 (p11.3 ++ [off13 + Int.toNat s] ++ [Int.toNat pg]) (p11.2 + (off13 + Int.toNat s) * 64 + Int.toNat pg * 1) p11.4 1)
 (∀ (H'17 : Heap),
 (H'17 = List.set H p11.1 (some (Blk.mk (putT (p11.3 ++ [off13 + Int.toNat s] ++ [Int.toNat pg]) b16.1 (AV.int IntKind.i64 (IntKind.wrap IntKind.i64 (AV.toInt (projT (p11.3 ++ [off13 + Int.toNat s] ++ [Int.toNat pg]) b15.1) - 1)))) b16.2 b16.3))) →
 k (AV.int IntKind.i64 0) H'17 true)
 (False)))
 (False))
 (False))
 (False))
 (False))
 (False))
 (False)))
 (False))
 (False))
 (False))
 (False)))
 (False))))
 (False))
 (False)))
 (False))
 (False))
 (False))
 (False)))
 (False)))))))) : Prop) := by kernel_rfl
theorem tree13 (N fuel : Nat) (i : Nat) (H : Heap) (s pg : Int) (k : AV → Heap → Bool → Prop) :
 (runP (S F) T24 N 30 fuel 13 [.ptr ⟨i, 0, [], 1⟩, .int .i64 s, .int .i64 pg] H k) =
 ((∃ (i0 : Nat),
 ∃ (j1 : Nat),
 ∃ (ns2 : List (Ar 64)),
 ∃ (s3 : Int),
 And ([AV.ptr (Pl.mk i 0 [] 1), AV.int IntKind.i64 s] = [AV.ptr (Pl.mk i0 0 [] 1), AV.int IntKind.i64 s3])
 (And (RefR H i0 j1 ns2)
 (cond (!decide (OkR ns2 s3))
 (k (AV.int IntKind.i64 20) H true)
 (cond (decide (pg < 0))
 (k (AV.int IntKind.i64 16) H true)
 (cond (decide (pg ≥ 64))
 (k (AV.int IntKind.i64 16) H true)
 (∃ (i4 : Nat),
 ∃ (j5 : Nat),
 ∃ (ns6 : List (Ar 64)),
 ∃ (s7 : Int),
 And ([AV.ptr (Pl.mk i 0 [] 1), AV.int IntKind.i64 s] = [AV.ptr (Pl.mk i4 0 [] 1), AV.int IntKind.i64 s7])
 (And (RefR H i4 j5 ns6)
 (And (SmallN ns6)
 (And ((¬OkR ns6 s7 ∨ expand (List.getD ns6 (Int.toNat s7) (Ar.zero 64)) = []) →
 ∀ (H'8 : Heap),
 (Keep [] H H'8) →
 ∃ (b9 : Blk),
 And (Heap.blk H'8 i = some b9)
 (cond (okAt b9.1 [0] 0 1 false 1)
 (∃ (p10 : Pl),
 ∃ (n11 : Nat),
 ∃ (off12 : Nat),
 ∃ (len13 : Nat),
 And (projT [0] b9.1 = AV.sl p10 64 n11 off12 len13)
 (cond (decide (0 ≤ s))
 (cond (decide (Int.toNat s < len13))
 (cond (decide (0 ≤ pg))
 (cond (decide (Int.toNat pg < 64))
 (∃ (b14 : Blk),
 And (Heap.blk H'8 p10.1 = some b14)
 (cond (okAt b14.1 (p10.3 ++ [off12 + Int.toNat s] ++ [Int.toNat pg]) (p10.2 + (off12 + Int.toNat s) * 64 + Int.toNat pg * 1) p10.4 false 1)
 (cond (AV.isIntK (projT (p10.3 ++ [off12 + Int.toNat s] ++ [Int.toNat pg]) b14.1) IntKind.i64)
 (cond (decide (0 ≤ s))
 (cond (decide (Int.toNat s < len13))
 (cond (decide (0 ≤ pg))
 (cond (decide (Int.toNat pg < 64))
 (∃ (b15 : Blk),
 And (Heap.blk H'8 p10.1 = some b15)
 (cond (okPl b15.1 (p10.3 ++ [off12 + Int.toNat s] ++ [Int.toNat pg]) (p10.2 + (off12 + Int.toNat s) * 64 + Int.toNat pg * 1) p10.4 1)
 (∀ (H'16 : Heap),
 (H'16 = List.set H'8 p10.1 (some (Blk.mk (putT (p10.3 ++ [off12 + Int.toNat s] ++ [Int.toNat pg]) b15.1 (AV.int IntKind.i64 (IntKind.wrap IntKind.i64 (AV.toInt (projT (p10.3 ++ [off12 + Int.toNat s] ++ [Int.toNat pg]) b14.1) + 1)))) b15.2 b15.3))) →
 k (AV.int IntKind.i64 0) H'16 true)
 (False)))
 (False))
 (False))
 (False))
 (False))
 (False))
 (False)))
 (False))
 (False))
 (False))
 (False)))
 (False)))
 ((OkR ns6 s7) →
 ∀ (k017 : Nat),
 ∀ (H'18 : Heap),
 (List.length H ≤ k017) →
 (Heap.blk H'18 k017 = some (Blk.mk (AV.arr 1 (row encZ (expand (List.getD ns6 (Int.toNat s7) (Ar.zero 64))))) true true)) →
 (Keep [] H H'18) →
 cond (decide ((↑(List.length (expand (List.getD ns6 (Int.toNat s7) (Ar.zero 64)))) : Int) ≥ 16))
 (k (AV.int IntKind.i64 19) H'18 true)
 (∃ (b19 : Blk),
 And (Heap.blk H'18 i = some b19)
 (cond (okAt b19.1 [0] 0 1 false 1)
 (∃ (p20 : Pl),
 ∃ (n21 : Nat),
 ∃ (off22 : Nat),
 ∃ (len23 : Nat),
 And (projT [0] b19.1 = AV.sl p20 64 n21 off22 len23)
 (cond (decide (0 ≤ s))
 (cond (decide (Int.toNat s < len23))
 (cond (decide (0 ≤ pg))
 (cond (decide (Int.toNat pg < 64))
 (∃ (b24 : Blk),
 And (Heap.blk H'18 p20.1 = some b24)
 (cond (okAt b24.1 (p20.3 ++ [off22 + Int.toNat s] ++ [Int.toNat pg]) (p20.2 + (off22 + Int.toNat s) * 64 + Int.toNat pg * 1) p20.4 false 1)
 (cond (AV.isIntK (projT (p20.3 ++ [off22 + Int.toNat s] ++ [Int.toNat pg]) b24.1) IntKind.i64)
 (cond (decide (0 ≤ s))
 (cond (decide (Int.toNat s < len23))
 (cond (decide (0 ≤ pg))
 (cond (decide (Int.toNat pg < 64))
 (∃ (b25 : Blk),
 And (Heap.blk H'18 p20.1 = some b25)
 (cond (okPl b25.1 (p20.3 ++ [off22 + Int.toNat s] ++ [Int.toNat pg]) (p20.2 + (off22 + Int.toNat s) * 64 + Int.toNat pg * 1) p20.4 1)
 (∀ (H'26 : Heap),
 (H'26 = List.set H'18 p20.1 (some (Blk.mk (putT (p20.3 ++ [off22 + Int.toNat s] ++ [Int.toNat pg]) b25.1 (AV.int IntKind.i64 (IntKind.wrap IntKind.i64 (AV.toInt (projT (p20.3 ++ [off22 + Int.toNat s] ++ [Int.toNat pg]) b24.1) + 1)))) b25.2 b25.3))) →
 k (AV.int IntKind.i64 0) H'26 true)
 (False)))
 (False))
 (False))
 (False))
 (False))
 (False))
 (False)))
 (False))
 (False))
 (False))
 (False)))
 (False))))))))))))) : Prop) := by kernel_rfl
end Go.Proofs.Ytclmndonaljppaa
/-
  The reference's pages and counts; lists without an element; new pins.
-/
namespace Go.Proofs.Ytclmndonaljppaa
open Go Go.X
variable {F : Nat}
set_option maxRecDepth 100000
/-! ### How many pins a page has -/
def sumN (m : Nat) (ns : List (Ar 64)) : Int := (ns.map fun a => a.get m).sum
def rcnt (ns : List (Ar 64)) (pg : Int) : Int := if OkP pg then sumN pg.toNat ns else 0
theorem loop18 (N n0 i0 j0 : Nat) (ns : List (Ar 64)) (H : Heap) (pg : Int) (k : AV → Heap → Bool → Prop) (hR : RefR H i0 j0 ns) (hS : SmallN ns) (hp : OkP pg) :
    ∀ (d j f : Nat) (c : Int), j + d = ns.length → d < f → 0 ≤ c → c + 16 * d ≤ 1000 → k (.int .i64 (c + sumN pg.toNat (ns.drop j))) H true →
      resPS (S F) T0 N 30 (S F).fu 18 2 n0 [] [true, true, false, true] f ⟨L18 i0 pg c j, [], H, true⟩ k
  | _, _, 0, _, _, h, _, _, _ => by omega
  | 0, j, f + 1, c, hd, _, _, _, hk => by
    rw [step18]
    refine ldg hR.top okTopR ⟨_, _, _, _, rfl, cN (by omega) ?_⟩
    rw [List.drop_of_length_le (by omega)] at hk
    simpa [sumN] using hk
  | d + 1, j, f + 1, c, hd, hm, hc0, hc, hk => by
    have hj : j < ns.length := by omega
    have hle := hR.le
    have hdr : ns.drop j = ns[j] :: ns.drop (j + 1) := by simp
    have hw : IntKind.i64.wrap ((j : Int) + 1) = ((j + 1 : Nat) : Int) := wrapS (by omega)
    obtain ⟨hp1, hp2⟩ := hp
    have hpt : pg.toNat < 64 := by omega
    obtain ⟨hs1, hs2⟩ := hS ns[j] (List.getElem_mem hj) pg.toNat hpt
    rw [step18]
    refine ldg hR.top okTopR ⟨_, _, _, _, rfl, cD (by omega) (cD (by omega) (cD (by omega) (ldg hR.top okTopR ⟨_, _, _, _, rfl, cD (by omega) (cD (by simpa using hj) (cD (by omega) (cD hpt (ldg hR.arr ?_ ?_))))⟩)))⟩
    · rw [Int.toNat_natCast]
      exact okN hj hpt rfl
    rw [Int.toNat_natCast, prN hj hpt]
    refine cT rfl ?_
    simp only [AV.toInt, hw]
    rw [wrapI (by omega) (by omega)]
    refine loop18 N n0 i0 j0 ns H pg k hR hS ⟨hp1, hp2⟩ d (j + 1) f _ (by omega) (by omega) (by omega) (by omega) ?_
    rw [hdr] at hk
    have e : sumN pg.toNat (ns[j] :: ns.drop (j + 1)) = ns[j].get pg.toNat + sumN pg.toNat (ns.drop (j + 1)) := rfl
    rwa [e, ← Int.add_assoc] at hk
def t18 : PT := fun args H k => ∃ (i j : Nat) (ns : List (Ar 64)) (pg : Int), args = [.ptr ⟨i, 0, [], 1⟩, .int .i64 pg] ∧ RefR H i j ns ∧ SmallN ns ∧ k (.int .i64 (rcnt ns pg)) H true
theorem cnt18 (N : Nat) (args : List AV) (H : Heap) (k : AV → Heap → Bool → Prop) : t18 args H k → runP (S F) T0 N 30 (S F).fu 18 args H k := by
  rintro ⟨i, j, ns, pg, rfl, hR, hS, hk⟩
  have hle := hR.le
  rw [start18]
  unfold rcnt at hk
  by_cases hp : OkP pg
  · rw [if_pos hp] at hk
    exact loop18 N H.length i j ns H pg k hR hS hp ns.length 0 (S F).fu 0 (by omega) (by rw [S_fu]; omega) (by omega) (by omega) (by simpa using hk)
  · rw [if_neg hp] at hk
    have hst := step18 (F := F) N (S F).fu (F + 4999) H.length i H pg 0 0 k
    rw [show (F + 4999) + 1 = (S F).fu from rfl] at hst
    refine hst.symm ▸ ?_
    refine ldg hR.top okTopR ⟨_, _, _, _, rfl, ?_⟩
    by_cases h0 : (0 : Int) < ns.length
    · refine cD h0 ?_
      by_cases h1 : pg ≥ 0
      · refine cD h1 (cN (fun h2 => hp ⟨h1, h2⟩) hk)
      · exact cN h1 hk
    · exact cN h0 hk
/-! ### Without an element -/
theorem setMany_row' {xs ys : List Int} {off : Nat} : setMany (row encZ xs) off (row encZ ys) = row encZ (xs.take off ++ ys ++ xs.drop (off + ys.length)) := by simp [setMany, row]
theorem take_row {xs : List Int} {n : Nat} : (row encZ xs).take n = row encZ (xs.take n) := by simp [row]
theorem drop_row {xs : List Int} {n : Nat} : (row encZ xs).drop n = row encZ (xs.drop n) := by simp [row]
theorem erase_eq {u w tl : List Int} {x : Int} : ∃ z : Int, (u ++ x :: w ++ tl).take u.length ++ ((u ++ x :: w ++ tl).drop (u.length + 1)).take w.length ++ (u ++ x :: w ++ tl).drop (u.length + w.length) = u ++ w ++ z :: tl := by
  obtain ⟨w', z, hw⟩ : ∃ w' z, x :: w = w' ++ [z] := ⟨(x :: w).dropLast, (x :: w).getLast (by simp), (List.dropLast_concat_getLast (by simp)).symm⟩
  have hl : w'.length = w.length := by
    have := congrArg List.length hw
    simpa using this.symm
  refine ⟨z, ?_⟩
  have e1 : (u ++ x :: w ++ tl).take u.length = u := by simp
  have e2 : ((u ++ x :: w ++ tl).drop (u.length + 1)).take w.length = w := by
    rw [← List.drop_drop]
    simp
  have e3 : (u ++ x :: w ++ tl).drop (u.length + w.length) = z :: tl := by
    rw [hw, ← hl, ← List.drop_drop]
    simp
  rw [e1, e2, e3]
theorem del23 (N : Nat) (args : List AV) (H : Heap) (k : AV → Heap → Bool → Prop) : t23 args H k → runP (S F) T0 N 30 (S F).fu 23 args H k := by
  rintro ⟨k0, u, w, tl, x, rfl, hb, hu, hk⟩
  have hw : IntKind.i64.wrap ((u.length : Int) + 1) = ((u.length + 1 : Nat) : Int) := wrapS (by omega)
  have hlt := blk_lt hb
  have e1 : (u ++ x :: w).length = u.length + (w.length + 1) := by simp
  have e2 : (row encZ (u ++ x :: w ++ tl)).length = u.length + (w.length + 1) + tl.length := by simp [row]; omega
  have e3 : u.length + (w.length + 1) - (u.length + 1) = w.length := by omega
  rw [hw, tree23]
  simp only [e1, Int.toNat_natCast, Nat.sub_zero, Nat.zero_add, e3] at hk ⊢
  refine cD (by omega) (cD (by omega) (cT (by simp only [Bool.and_eq_true, decide_eq_true_eq]; omega) (cF (by simp; omega) (cD (by omega) (cT (by rw [Bool.and_eq_true, Bool.or_eq_true]; exact ⟨by simp; omega, .inl (decide_eq_true (by omega))⟩) (cD (by omega) (cT (by rw [Bool.and_eq_true, Bool.or_eq_true]; exact ⟨by simp only [Bool.and_eq_true, decide_eq_true_eq]; omega, .inl (decide_eq_true (by omega))⟩) ?_)))))))
  refine ⟨_, _, hb, rfl, trivial, trivial, trivial, ?_⟩
  have e4 : ((row encZ (u ++ x :: w ++ tl)).drop (u.length + 1)).take w.length = row encZ w := by
    rw [drop_row, take_row, ← List.drop_drop]
    simp
  rw [e4]
  refine cD (by omega) (cD (by omega) (cD (by omega) (cT ?_ ?_)))
  · rw [Bool.and_eq_true]
    exact ⟨reflessL_row (fun x => rfl) w, all_row (fun x => rfl) w⟩
  refine ⟨_, _, hb, rfl, trivial, trivial, trivial, cT (by simp only [Bool.and_eq_true, decide_eq_true_eq]; omega) (cD (by rw [row_length]; omega) ?_)⟩
  rintro H1 rfl
  obtain ⟨z, hz⟩ := erase_eq (u := u) (w := w) (tl := tl) (x := x)
  have e5 : setMany (row encZ (u ++ x :: w ++ tl)) u.length (row encZ w) = row encZ (u ++ w ++ z :: tl) := by
    rw [setMany_row', ← hz]
    have : ((u ++ x :: w ++ tl).drop (u.length + 1)).take w.length = w := by
      rw [← List.drop_drop]
      simp
    rw [this]
  have e6 : (row encZ w).length = w.length := row_length
  have e7 : u.length + (w.length + 1) - (u.length + w.length) = 1 := by omega
  simp only [e5, e6, e7]
  refine cT (by simp only [Bool.and_eq_true, Bool.or_eq_true, decide_eq_true_eq, blk_set hlt (b := ⟨.arr 1 (row encZ (u ++ w ++ z :: tl)), true, true⟩) rfl, Option.map_some, Option.some.injEq]; refine ⟨⟨by omega, by omega⟩, .inr ?_⟩; simp [AV.flatLen, row]; omega) ?_
  refine ⟨_, _, blk_set hlt rfl, rfl, trivial, trivial, cT ?_ ?_⟩
  · have : (row encZ (u ++ w ++ z :: tl)).length = u.length + w.length + (tl.length + 1) := by simp [row]; omega
    simp only [Bool.and_eq_true, decide_eq_true_eq, this]
    omega
  rintro H2 rfl
  have e8 : setMany (row encZ (u ++ w ++ z :: tl)) (u.length + w.length) (List.replicate 1 (AV.int .i64 0)) = row encZ (u ++ w ++ 0 :: tl) := by
    show setMany _ _ (row encZ [0]) = _
    rw [setMany_row']
    have h1 : (u ++ w ++ z :: tl).take (u.length + w.length) = u ++ w := by
      rw [← List.length_append]
      exact List.take_left
    have h2 : (u ++ w ++ z :: tl).drop (u.length + w.length + 1) = tl := by
      rw [← List.length_append, ← List.drop_drop]
      simp
    simp only [List.length_cons, List.length_nil, Nat.zero_add, h1, h2]
    simp
  refine hk _ ?_
  rw [List.set_set, e8]
/-! ### New pins -/
def t8 : PT := fun args H k => ∃ (n : Int), args = [.int .i64 n] ∧ (¬ (1 ≤ n ∧ n ≤ 4) → k (.tuple [.nilp, .int .i64 1]) H true) ∧
  (1 ≤ n → n ≤ 4 → ∀ (i j : Nat) (vs : List AV) (H' : Heap), PinsR H' i j vs (List.replicate n.toNat []) → Keep [] H H' → Fresh H (i :: j :: refsL vs) → k (.tuple [.ptr ⟨i, 0, [], 1⟩, .int .i64 0]) H' true)
theorem refsL_nils : ∀ n, refsL (List.replicate n AV.nils) = []
  | 0 => rfl
  | n + 1 => by simp [List.replicate_succ, refsL, AV.refs, refsL_nils n]
theorem new8' (N : Nat) (args : List AV) (H : Heap) (k : AV → Heap → Bool → Prop) : t8 args H k → runP (S F) T0 N 30 (S F).fu 8 args H k := by
  rintro ⟨n, rfl, h1, h2⟩
  rw [new8]
  by_cases p1 : n < 1
  · exact cD p1 (h1 (by omega))
  refine cN p1 ?_
  by_cases p2 : n > 4
  · exact cD p2 (h1 (by omega))
  refine cN p2 (cD (by omega) (cD (by omega) (cT ?_ ?_)))
  · simp only [Bool.and_eq_true, decide_eq_true_eq]
    omega
  · refine h2 (by omega) (by omega) _ H.length (List.replicate n.toNat .nils) _ ?_ (Keep.refl _ H).appIn.appIn ?_
    · have hl : (H ++ [some (Blk.mk (AV.arr 1 (List.replicate n.toNat AV.nils)) true true)]).length = H.length + 1 := by simp
      refine ⟨?_, ⟨true, ?_⟩, by simp, fun m hm => ?_, ?_, by simp; omega, fun l hl => ?_⟩
      · rw [blk_new rfl]
        simp
      · rw [blk_app (by rw [hl]; omega), blk_new rfl]
      · refine .inl ⟨by simp, ?_⟩
        simp only [List.length_replicate] at hm
        simp [List.getD, hm]
      · rw [refsL_nils]
        simp
      · simp only [List.mem_replicate] at hl
        simp [hl.2]
    · intro x hx
      rw [refsL_nils] at hx
      simp only [List.mem_cons, List.not_mem_nil, or_false] at hx
      rcases hx with rfl | rfl
      · simp
      · omega
def t9 : PT := fun args H k => ∃ (n : Int), args = [.int .i64 n] ∧ (¬ (1 ≤ n ∧ n ≤ 4) → k (.tuple [.nilp, .int .i64 1]) H true) ∧
  (1 ≤ n → n ≤ 4 → ∀ (i j : Nat) (H' : Heap), RefR H' i j (List.replicate n.toNat (Ar.zero 64)) → Keep [] H H' → H.length ≤ i → H.length ≤ j → k (.tuple [.ptr ⟨i, 0, [], 1⟩, .int .i64 0]) H' true)
theorem new9' (N : Nat) (args : List AV) (H : Heap) (k : AV → Heap → Bool → Prop) : t9 args H k → runP (S F) T0 N 30 (S F).fu 9 args H k := by
  rintro ⟨n, rfl, h1, h2⟩
  rw [new9]
  by_cases p1 : n < 1
  · exact cD p1 (h1 (by omega))
  refine cN p1 ?_
  by_cases p2 : n > 4
  · exact cD p2 (h1 (by omega))
  refine cN p2 (cD (by omega) (cD (by omega) (cT ?_ ?_)))
  · simp only [Bool.and_eq_true, decide_eq_true_eq]
    omega
  · refine h2 (by omega) (by omega) _ H.length _ ?_ (Keep.refl _ H).appIn.appIn (by simp) (by omega)
    refine ⟨?_, ?_, by simp, by simp; omega⟩
    · rw [blk_new rfl]
      simp
    · rw [blk_app (by simp), blk_new rfl]
      have : row encN (List.replicate n.toNat (Ar.zero 64)) = List.replicate n.toNat (encN (Ar.zero 64)) := by simp [row]
      rw [this]
      rfl
end Go.Proofs.Ytclmndonaljppaa
/-
  The reference's pages; its pins, one more and one fewer.
-/
namespace Go.Proofs.Ytclmndonaljppaa
open Go Go.X
variable {F : Nat}
set_option maxRecDepth 100000
/-! ### Pages -/
def pre (a : Ar 64) (j : Nat) : List Int := (List.range j).flatMap fun k => List.replicate (a.get k).toNat (k : Int)
theorem pre_succ (a : Ar 64) (j : Nat) : pre a (j + 1) = pre a j ++ List.replicate (a.get j).toNat (j : Int) := by
  unfold pre
  rw [List.range_succ, List.flatMap_append]
  simp
theorem pre_length {a : Ar 64} (h : ∀ k, k < 64 → 0 ≤ a.get k ∧ a.get k ≤ 16) : ∀ j, j ≤ 64 → (pre a j).length ≤ 16 * j
  | 0, _ => by simp [pre]
  | j + 1, hj => by
    have := pre_length h j (by omega)
    have h2 := h j (by omega)
    rw [pre_succ, List.length_append, List.length_replicate]
    omega
/-- What is handed back: a list of one's own. -/
def OutOk (H0 H : Heap) (v : AV) (m : List Int) : Prop := (v = .nils ∧ m = []) ∨ ∃ k0, v = .sl ⟨k0, 0, [], m.length⟩ 1 m.length 0 m.length ∧ H.blk k0 = some ⟨.arr 1 (row encZ m), true, true⟩ ∧ H0.length ≤ k0
theorem loop16i (N m n0 i0 j0 : Nat) (ns : List (Ar 64)) (H0 : Heap) (s : Int) (j : Nat) (k : AV → Heap → Bool → Prop) (hR : RefR H0 i0 j0 ns) (hS : SmallN ns) (hs : OkR ns s) (hj : j < 64)
    (hk : ∀ H v, OutOk H0 H v (pre (ns.getD s.toNat (Ar.zero 64)) (j + 1)) → Keep [] H0 H → resPS (S F) T24a N 30 (S F).fu 16 2 n0 [] [true, true, false, true] m ⟨L16 i0 s v ((j + 1 : Nat) : Int), [], H, true⟩ k) :
    ∀ (d c f : Nat) (H : Heap) (v : AV), c + d = ((ns.getD s.toNat (Ar.zero 64)).get j).toNat → d < f → OutOk H0 H v (pre (ns.getD s.toNat (Ar.zero 64)) j ++ List.replicate c (j : Int)) → Keep [] H0 H →
      resPS (S F) T24a N 30 (S F).fu 16 2 n0 [([true, false, true], f)] [true, true, false, true] m ⟨L16i i0 s v j c, [], H, true⟩ k := by
  have hn : s.toNat < ns.length := by have h1 := hs.1; have h2 := hs.2; omega
  have hg : ns.getD s.toNat (Ar.zero 64) = ns[s.toNat] := by simp [List.getD, hn]
  rw [hg] at hk ⊢
  have hsm := hS _ (List.getElem_mem hn)
  have hpl := pre_length hsm j (by omega)
  have hjs := hsm j hj
  have hw : IntKind.i64.wrap ((j : Int) + 1) = ((j + 1 : Nat) : Int) := wrapS (by omega)
  intro d
  induction d with
  | zero =>
    intro c f H v hd hf ho hK
    obtain ⟨f, rfl⟩ : ∃ f', f = f' + 1 := ⟨f - 1, by omega⟩
    have hR' := hR.keep hK (by simp) (by simp)
    have ho' : OutOk H0 H v (pre ns[s.toNat] (j + 1)) := by
      rw [pre_succ, ← hd]
      simpa using ho
    have hfin := hk H v ho' hK
    rcases ho with ⟨rfl, _⟩ | ⟨k0, rfl, _, _⟩
    · rw [step16i]
      refine ldg hR'.top okTopR ⟨_, _, _, _, rfl, cD hs.1 (cD hn (cD (by omega) (cD (by simpa using hj) (ldg hR'.arr ?_ ?_))))⟩
      · rw [Int.toNat_natCast]; exact okN hn hj rfl
      rw [Int.toNat_natCast, prN hn hj]
      refine cT rfl (cN (by simp only [AV.toInt]; omega) ?_)
      rw [hw]
      exact hfin
    · rw [step16j]
      refine ldg hR'.top okTopR ⟨_, _, _, _, rfl, cD hs.1 (cD hn (cD (by omega) (cD (by simpa using hj) (ldg hR'.arr ?_ ?_))))⟩
      · rw [Int.toNat_natCast]; exact okN hn hj rfl
      rw [Int.toNat_natCast, prN hn hj]
      refine cT rfl (cN (by simp only [AV.toInt]; omega) ?_)
      rw [hw]
      exact hfin
  | succ d ih =>
    intro c f H v hd hf ho hK
    obtain ⟨f, rfl⟩ : ∃ f', f = f' + 1 := ⟨f - 1, by omega⟩
    have hR' := hR.keep hK (by simp) (by simp)
    have hwc : IntKind.i64.wrap ((c : Int) + 1) = ((c + 1 : Nat) : Int) := wrapS (by omega)
    have e10 : (List.take 1 [AV.int IntKind.i64 (j : Int)]).length = 1 := rfl
    have hrep : ∀ l : List Int, l ++ List.replicate (c + 1) (j : Int) = (l ++ List.replicate c (j : Int)) ++ [(j : Int)] := fun l => by rw [List.replicate_succ', List.append_assoc]
    have hle := hK.le
    rcases ho with ⟨rfl, hm⟩ | ⟨k0, rfl, hb, hk0⟩
    · rw [step16i]
      refine ldg hR'.top okTopR ⟨_, _, _, _, rfl, cD hs.1 (cD hn (cD (by omega) (cD (by simpa using hj) (ldg hR'.arr ?_ ?_))))⟩
      · rw [Int.toNat_natCast]; exact okN hn hj rfl
      rw [Int.toNat_natCast, prN hn hj]
      refine cT rfl (cD (by simp only [AV.toInt]; omega) ?_)
      refine ⟨_, _, blk_new rfl, rfl, rfl, rfl, rfl, cT rfl (cT rfl (cT rfl (cF rfl (cT rfl ?_))))⟩
      rw [hwc]
      refine ih (c + 1) f _ _ (by omega) (by omega) (.inr ⟨List.length (H ++ [some (Blk.mk (AV.arr 1 [AV.int .i64 (j : Int)]) true true)]), ?_, ?_, ?_⟩) (hK.appIn.appIn)
      · rw [hrep, hm]
        rfl
      · rw [blk_new rfl, hrep, hm]
        rfl
      · simp; omega
    · rw [step16j]
      refine ldg hR'.top okTopR ⟨_, _, _, _, rfl, cD hs.1 (cD hn (cD (by omega) (cD (by simpa using hj) (ldg hR'.arr ?_ ?_))))⟩
      · rw [Int.toNat_natCast]; exact okN hn hj rfl
      rw [Int.toNat_natCast, prN hn hj]
      refine cT rfl (cD (by simp only [AV.toInt]; omega) ?_)
      have hkl := blk_lt hb
      have e8 := row_length (enc := encZ) (l := pre ns[s.toNat] j ++ List.replicate c (j : Int))
      refine ⟨_, _, blk_new rfl, rfl, rfl, rfl, rfl, cT rfl (cT rfl (cT rfl ⟨_, _, (blk_app hkl).trans hb, rfl, rfl, rfl, rfl, cT ?_ ?_⟩))⟩
      · simp only [e8, Nat.one_mul, Nat.zero_add, Nat.le_refl, decide_true, Bool.and_self]
      rw [e10]
      refine cN (by omega) (cT ?_ ?_)
      · have h1 : ((pre ns[s.toNat] j ++ List.replicate c (j : Int)).length + 1) * 8 ≤ 70368744177664 := by
          rw [List.length_append, List.length_replicate]; omega
        have h2 : (pre ns[s.toNat] j ++ List.replicate c (j : Int)).length + 1 ≤ 70368744177664 := by omega
        simp only [h1, h2, decide_true, Bool.and_self]
      rintro H2 rfl
      rw [hwc]
      refine ih (c + 1) f _ _ (by omega) (by omega) (.inr ⟨k0, ?_, ?_, hk0⟩) (hK.appIn.setIn (.inr hk0))
      · rw [hrep]
        simp [Nat.add_assoc]
      · rw [blk_set (by simp; omega) (by rfl), hrep]
        simp [row, encK]
theorem loop16 (N n0 i0 j0 : Nat) (ns : List (Ar 64)) (H0 : Heap) (s : Int) (k : AV → Heap → Bool → Prop) (hR : RefR H0 i0 j0 ns) (hS : SmallN ns) (hs : OkR ns s)
    (hk : ∀ H v, OutOk H0 H v (expand (ns.getD s.toNat (Ar.zero 64))) → Keep [] H0 H → k v H true) :
    ∀ (d j f : Nat) (H : Heap) (v : AV), j + d = 64 → d < f → OutOk H0 H v (pre (ns.getD s.toNat (Ar.zero 64)) j) → Keep [] H0 H →
      resPS (S F) T24a N 30 (S F).fu 16 2 n0 [] [true, true, false, true] f ⟨L16 i0 s v j, [], H, true⟩ k
  | _, _, 0, _, _, _, h, _, _ => by omega
  | 0, j, f + 1, H, v, hd, _, ho, hK => by
    obtain rfl : j = 64 := by omega
    have hfin := hk H v ho hK
    rcases ho with ⟨rfl, _⟩ | ⟨k0, rfl, _, _⟩
    · rw [step16]
      exact cN (by simp) hfin
    · rw [step16s]
      exact cN (by simp) hfin
  | d + 1, j, f + 1, H, v, hd, hf, ho, hK => by
    have hR' := hR.keep hK (by simp) (by simp)
    have hn : s.toNat < ns.length := by have h1 := hs.1; have h2 := hs.2; omega
    have hg : ns.getD s.toNat (Ar.zero 64) = ns[s.toNat] := by simp [List.getD, hn]
    have hsm := hS _ (List.getElem_mem hn) j (by omega)
    have hin := loop16i (F := F) N f n0 i0 j0 ns H0 s j k hR hS hs (by omega) (fun H' v' h1 h2 => loop16 N n0 i0 j0 ns H0 s k hR hS hs hk d (j + 1) f H' v' (by omega) (by omega) h1 h2)
      ((ns.getD s.toNat (Ar.zero 64)).get j).toNat 0 (S F).fu H v (by omega) (by rw [S_fu, hg]; omega) (by simpa using ho) hK
    rcases ho with ⟨rfl, _⟩ | ⟨k0, rfl, _, _⟩
    · rw [step16]
      exact cD (by omega) ⟨i0, j0, ns, s, rfl, hR', cD hs hin⟩
    · rw [step16s]
      exact cD (by omega) ⟨i0, j0, ns, s, rfl, hR', cD hs hin⟩
theorem of16 (N : Nat) (args : List AV) (H : Heap) (k : AV → Heap → Bool → Prop) : t16 args H k → runP (S F) T24a N 30 (S F).fu 16 args H k := by
  rintro ⟨i, j, ns, s, rfl, hR, hS, h1, h2⟩
  rw [start16t]
  by_cases hs : OkR ns s
  · refine loop16 N H.length i j ns H s k hR hS hs (fun H' v ho hK => ?_) 64 0 (S F).fu H .nils (by omega) (by rw [S_fu]; omega) (.inl ⟨rfl, rfl⟩) (Keep.refl _ _)
    rcases ho with ⟨rfl, h0⟩ | ⟨k0, rfl, hb, hk0⟩
    · exact h1 (.inr h0) H' hK
    · exact h2 hs k0 H' hk0 hb hK
  · have hst := step16 (F := F) N (S F).fu (F + 4999) H.length i H s 0 k
    rw [show (F + 4999) + 1 = (S F).fu from rfl] at hst
    refine hst.symm ▸ ?_
    exact cD (by omega) ⟨i, j, ns, s, rfl, hR, cN hs (h1 (.inl hs) H (Keep.refl _ _))⟩
/-! ### One more, one fewer -/
def raddErr (ns : List (Ar 64)) (s pg : Int) : Int := if OkR ns s then if OkP pg then if 16 ≤ (expand (ns.getD s.toNat (Ar.zero 64))).length then 19 else 0 else 16 else 20
def incN (ns : List (Ar 64)) (s pg z : Int) : List (Ar 64) := ns.set s.toNat ((ns.getD s.toNat (Ar.zero 64)).set pg.toNat ((ns.getD s.toNat (Ar.zero 64)).get pg.toNat + z))
def raddS (ns : List (Ar 64)) (s pg : Int) : List (Ar 64) := if raddErr ns s pg = 0 then incN ns s pg 1 else ns
def rdropErr (ns : List (Ar 64)) (s pg : Int) : Int := if OkR ns s then if OkP pg then if (ns.getD s.toNat (Ar.zero 64)).get pg.toNat = 0 then 19 else 0 else 19 else 20
def rdropS (ns : List (Ar 64)) (s pg : Int) : List (Ar 64) := if rdropErr ns s pg = 0 then incN ns s pg (-1) else ns
theorem RefR.upd {H : Heap} {i j : Nat} {ns : List (Ar 64)} (hR : RefR H i j ns) {ms : List (Ar 64)} (hl : ms.length = ns.length) {g f : Bool} (hg : g = true) (hf : f = true) : RefR (H.set j (some ⟨.arr 64 (row encN ms), g, f⟩)) i j ms := by
  subst hg hf
  refine ⟨?_, blk_set (blk_lt hR.arr) rfl, hR.ne, hl ▸ hR.le⟩
  rw [blk_set_ne hR.ne, hl]
  exact hR.top
def t11 : PT := fun args H k => ∃ (i j : Nat) (ns : List (Ar 64)) (s pg : Int), args = [.ptr ⟨i, 0, [], 1⟩, .int .i64 s, .int .i64 pg] ∧ RefR H i j ns ∧ SmallN ns ∧
  ∀ H', RefR H' i j (rdropS ns s pg) → Keep [i, j] H H' → k (.int .i64 (rdropErr ns s pg)) H' true
theorem drop11 (N : Nat) (args : List AV) (H : Heap) (k : AV → Heap → Bool → Prop) : t11 args H k → runP (S F) T24 N 30 (S F).fu 11 args H k := by
  rintro ⟨i, j, ns, s, pg, rfl, hR, hS, hk⟩
  rw [tree11]
  have herr : ∀ c : Int, c ≠ 0 → rdropErr ns s pg = c → k (.int .i64 c) H true := by
    rintro c hc he
    have e : rdropS ns s pg = ns := by unfold rdropS; rw [if_neg (by rw [he]; exact hc)]
    have := hk H (by rw [e]; exact hR) (Keep.refl _ _)
    rwa [he] at this
  refine ⟨i, j, ns, s, rfl, hR, ?_⟩
  by_cases hs : OkR ns s
  · refine cF (by simp [hs]) ?_
    have hn : s.toNat < ns.length := by have h1 := hs.1; have h2 := hs.2; omega
    have hg : ns.getD s.toNat (Ar.zero 64) = ns[s.toNat] := by simp [List.getD, hn]
    by_cases p1 : pg < 0
    · exact cD p1 (herr 19 (by decide) (by unfold rdropErr; rw [if_pos hs, if_neg (fun h => by have := h.1; omega)]))
    refine cN p1 ?_
    by_cases p2 : pg ≥ 64
    · exact cD p2 (herr 19 (by decide) (by unfold rdropErr; rw [if_pos hs, if_neg (fun h => by have := h.2; omega)]))
    have hp : OkP pg := ⟨by omega, by omega⟩
    have hpt : pg.toNat < 64 := by omega
    have hsm := hS _ (List.getElem_mem hn) pg.toNat hpt
    refine cN p2 (ldg hR.top okTopR ⟨_, _, _, _, rfl, cD hs.1 (cD hn (cD hp.1 (cD hpt (ldg hR.arr (okN hn hpt rfl) ?_))))⟩)
    rw [prN hn hpt]
    refine cT rfl ?_
    simp only [AV.toInt]
    by_cases h0 : ns[s.toNat].get pg.toNat = 0
    · exact cT (by simp [h0]) (herr 19 (by decide) (by unfold rdropErr; rw [if_pos hs, if_pos hp, hg, if_pos h0]))
    refine cF (by simp [h0]) (ldg hR.top okTopR ⟨_, _, _, _, rfl, cD hs.1 (cD hn (cD hp.1 (cD hpt (ldg hR.arr (okN hn hpt rfl) ?_))))⟩)
    rw [prN hn hpt]
    refine cT rfl (cD hs.1 (cD hn (cD hp.1 (cD hpt (ldg hR.arr (plN hn hpt rfl) ?_)))))
    rintro H' rfl
    have e0 : rdropErr ns s pg = 0 := by unfold rdropErr; rw [if_pos hs, if_pos hp, hg, if_neg h0]
    have e1 : rdropS ns s pg = ns.set s.toNat (ns[s.toNat].set pg.toNat (ns[s.toNat].get pg.toNat - 1)) := by
      unfold rdropS incN
      rw [if_pos e0, hg]
      rfl
    simp only [AV.toInt]
    rw [puN hn, wrapI (by omega) (by omega)]
    have := hk _ (by rw [e1]; exact hR.upd (by simp) rfl rfl) ((Keep.refl _ H).setIn (.inl (by simp)))
    rwa [e0] at this
  · exact cT (by simp [hs]) (herr 20 (by decide) (if_neg hs))
def t13 : PT := fun args H k => ∃ (i j : Nat) (ns : List (Ar 64)) (s pg : Int), args = [.ptr ⟨i, 0, [], 1⟩, .int .i64 s, .int .i64 pg] ∧ RefR H i j ns ∧ SmallN ns ∧
  ∀ H', RefR H' i j (raddS ns s pg) → Keep [i, j] H H' → k (.int .i64 (raddErr ns s pg)) H' true
theorem add13 (N : Nat) (args : List AV) (H : Heap) (k : AV → Heap → Bool → Prop) : t13 args H k → runP (S F) T24 N 30 (S F).fu 13 args H k := by
  rintro ⟨i, j, ns, s, pg, rfl, hR, hS, hk⟩
  rw [tree13]
  have herr : ∀ c : Int, c ≠ 0 → raddErr ns s pg = c → ∀ H', Keep [] H H' → k (.int .i64 c) H' true := by
    rintro c hc he H' hK
    have e : raddS ns s pg = ns := by unfold raddS; rw [if_neg (by rw [he]; exact hc)]
    have := hk H' (by rw [e]; exact hR.keep hK (by simp) (by simp)) (hK.sub (by simp))
    rwa [he] at this
  refine ⟨i, j, ns, s, rfl, hR, ?_⟩
  by_cases hs : OkR ns s
  · refine cF (by simp [hs]) ?_
    have hn : s.toNat < ns.length := by have h1 := hs.1; have h2 := hs.2; omega
    have hg : ns.getD s.toNat (Ar.zero 64) = ns[s.toNat] := by simp [List.getD, hn]
    by_cases p1 : pg < 0
    · exact cD p1 (herr 16 (by decide) (by unfold raddErr; rw [if_pos hs, if_neg (fun h => by have := h.1; omega)]) H (Keep.refl _ _))
    refine cN p1 ?_
    by_cases p2 : pg ≥ 64
    · exact cD p2 (herr 16 (by decide) (by unfold raddErr; rw [if_pos hs, if_neg (fun h => by have := h.2; omega)]) H (Keep.refl _ _))
    have hp : OkP pg := ⟨by omega, by omega⟩
    have hpt : pg.toNat < 64 := by omega
    have hsm := hS _ (List.getElem_mem hn) pg.toNat hpt
    have fin : ∀ H1, Keep [] H H1 → ¬ 16 ≤ (expand (ns.getD s.toNat (Ar.zero 64))).length → k (.int .i64 0) (H1.set j (some ⟨.arr 64 (row encN (ns.set s.toNat (ns[s.toNat].set pg.toNat (ns[s.toNat].get pg.toNat + 1)))), true, true⟩)) true := by
      intro H1 hK h16
      have e0 : raddErr ns s pg = 0 := by unfold raddErr; rw [if_pos hs, if_pos hp, if_neg h16]
      have e1 : raddS ns s pg = ns.set s.toNat (ns[s.toNat].set pg.toNat (ns[s.toNat].get pg.toNat + 1)) := by
        unfold raddS incN
        rw [if_pos e0, hg]
      have := hk _ (by rw [e1]; exact (hR.keep hK (by simp) (by simp)).upd (by simp) rfl rfl) ((hK.sub (by simp)).setIn (.inl (by simp)))
      rwa [e0] at this
    refine cN p2 ⟨i, j, ns, s, rfl, hR, hS, fun ho H1 hK => ?_, fun _ k0 H1 hk0 hb hK => ?_⟩
    · have h16 : ¬ 16 ≤ (expand (ns.getD s.toNat (Ar.zero 64))).length := by
        rcases ho with h | h
        · exact absurd hs h
        · rw [h]; simp
      have hR1 := hR.keep hK (by simp) (by simp)
      refine ldg hR1.top okTopR ⟨_, _, _, _, rfl, cD hs.1 (cD hn (cD hp.1 (cD hpt (ldg hR1.arr (okN hn hpt rfl) ?_))))⟩
      rw [prN hn hpt]
      refine cT rfl (cD hs.1 (cD hn (cD hp.1 (cD hpt (ldg hR1.arr (plN hn hpt rfl) ?_)))))
      rintro H' rfl
      simp only [AV.toInt]
      rw [puN hn, wrapI (by omega) (by omega)]
      exact fin H1 hK h16
    · by_cases h16 : 16 ≤ (expand (ns.getD s.toNat (Ar.zero 64))).length
      · exact cD (by omega) (herr 19 (by decide) (by unfold raddErr; rw [if_pos hs, if_pos hp, if_pos h16]) H1 hK)
      refine cN (by omega) ?_
      have hR1 := hR.keep hK (by simp) (by simp)
      refine ldg hR1.top okTopR ⟨_, _, _, _, rfl, cD hs.1 (cD hn (cD hp.1 (cD hpt (ldg hR1.arr (okN hn hpt rfl) ?_))))⟩
      rw [prN hn hpt]
      refine cT rfl (cD hs.1 (cD hn (cD hp.1 (cD hpt (ldg hR1.arr (plN hn hpt rfl) ?_)))))
      rintro H' rfl
      simp only [AV.toInt]
      rw [puN hn, wrapI (by omega) (by omega)]
      exact fin H1 hK h16
  · exact cT (by simp [hs]) (herr 20 (by decide) (if_neg hs) H (Keep.refl _ _))
end Go.Proofs.Ytclmndonaljppaa
/-
  Pins: the laws' table.
-/
namespace Go.Proofs.Ytclmndonaljppaa
open Go Go.X
variable {F : Nat}
/-- One call. -/
structure Stp where
  drop : Bool
  s : Int
  pg : Int
  deriving Inhabited
abbrev encSt (x : Stp) : AV := .agg 3 [.bool x.drop, .int .i64 x.s, .int .i64 x.pg]
def t7 : PT := fun args H k => args = [] ∧ k (.bool true) H false
theorem wakes7' (args : List AV) (H : Heap) (k : AV → Heap → Bool → Prop) (h : t7 args H k) : ((S F).K0 7 args H).elim False fun r => k r.1 r.2.1 r.2.2 := by
  obtain ⟨rfl, hk⟩ := h
  exact hk
def modR (k n : Int) : Int := k % n
def t19 : PT := fun args H k => ∃ (x n : Int), args = [.int .i64 x, .int .i64 n] ∧ (n = 4 ∨ n = 64) ∧ H = [] ∧ k (.int .i64 (modR x n)) [] false
def TL : FuncId → Option PT := fun f => if f = 7 then some t7 else if f = 8 then some t8 else if f = 9 then some t9 else if f = 10 then some t10 else if f = 11 then some t11 else if f = 12 then some t12 else if f = 13 then some t13 else
  if f = 14 then some t14 else if f = 15 then some t15 else if f = 16 then some t16 else if f = 17 then some t17 else if f = 18 then some t18 else if f = 19 then some t19 else none
end Go.Proofs.Ytclmndonaljppaa
/- A number from 0 on: trees.
-/
namespace Go.Proofs.Ytclmndonaljppaa
open Go Go.X
variable {F : Nat}
theorem tree19a (N fuel : Nat) (a : Int) (k : AV → Heap → Bool → Prop) :
 (runP (S F) T0 N 9 fuel 19 [.int .i64 a, .int .i64 4] [] k) =
 ((k (AV.int IntKind.i64 (Int.tmod (IntKind.wrap IntKind.i64 (Int.tmod a 4 + 4)) 4)) [] false) : Prop) := by kernel_rfl
theorem tree19b (N fuel : Nat) (a : Int) (k : AV → Heap → Bool → Prop) :
 (runP (S F) T0 N 9 fuel 19 [.int .i64 a, .int .i64 64] [] k) =
 ((k (AV.int IntKind.i64 (Int.tmod (IntKind.wrap IntKind.i64 (Int.tmod a 64 + 64)) 64)) [] false) : Prop) := by kernel_rfl
end Go.Proofs.Ytclmndonaljppaa
/-
  What is given holds; the tables hold.
-/
namespace Go.Proofs.Ytclmndonaljppaa
open Go Go.X
variable {F : Nat}
set_option maxRecDepth 100000
theorem pick_one (x : Bool × AV × Heap × Bool) : pickO [x] = match x with | (true, r) => some r | _ => none := by
  obtain ⟨b, r⟩ := x
  cases b <;> rfl
theorem sortS (B : Nat) : OracleSound Try.prog B U.G (fun f args H => if f = 26 then (sortE args H).bind pickO else none) := by
  intro f args H v H' e h
  simp only at h
  split at h
  · rename_i hf
    subst hf
    unfold sortE at h
    split at h
    · rename_i p e' n off len
      refine sort_sound (P := Try.prog) (G := U.G) (f := 26) Try.slices_Sort_int B 26 [.sl p e' n off len] H v H' e ?_
      simp only [if_true]
      cases ht : sortT [.sl p e' n off len] H with
      | none => rw [ht] at h; cases h
      | some x =>
        rw [ht] at h
        simp only [Option.map_some, Option.bind_some, pick_one] at h
        obtain ⟨b, r⟩ := x
        cases b
        · cases h
        · exact h
    · cases h
  · cases h
theorem given (B : Nat) : OracleSound Try.prog B U.G K0 := by
  intro f args H v H' e h
  unfold K0 at h
  split at h
  · rename_i hf
    subst hf
    exact sortS B 26 args H v H' e (by simpa using h)
  · exact Fw.ok B f args H v H' e h
theorem okS : (S F).Ok := ⟨extU, mixed, hA, given⟩
theorem isInts (l : List Int) : (row encZ l).all (fun x => x.isIntK .i64) = true := all_row (fun x => rfl) l
theorem toInts_row (l : List Int) : toInts (row encZ l) = l := toInts_ints l
theorem sort26 (args : List AV) (H : Heap) (k : AV → Heap → Bool → Prop) (h : t26 args H k) : ((S F).K0 26 args H).elim False fun r => k r.1 r.2.1 r.2.2 := by
  obtain ⟨p, n, l, xs, rfl, hb, hx, h0, hl, h1000, hk⟩ := h
  have e1 : ((row encZ xs).drop 0).take l = row encZ (xs.take l) := by simp [row]
  have e2 : setMany (row encZ xs) 0 (intsL (sortZ (xs.take l))) = row encZ (sortI (xs.take l) ++ xs.drop l) := by
    have hs : (sortZ (xs.take l)).length = l := by rw [sortZ_length, List.length_take]; omega
    have e3 : intsL (sortZ (xs.take l)) = row encZ (sortI (xs.take l)) := rfl
    have hs2 : (sortI (xs.take l)).length = l := hs
    rw [e3]
    unfold setMany
    simp [row, hs2]
  have hs : sortT [.sl ⟨p, 0, [], n⟩ 1 n 0 l] H = some (true, .tuple [], H.set p (some ⟨.arr 1 (row encZ (sortI (xs.take l) ++ xs.drop l)), true, true⟩), false) := by
    unfold sortT
    simp only [hb, e1, toInts_row, isInts, e2, Bool.and_true]
    rw [decide_eq_true ⟨trivial, trivial, trivial, trivial, trivial, by rw [row_length, hx], by rw [row_length, hx], h0, by omega, by omega⟩]
  show (((sortE [.sl ⟨p, 0, [], n⟩ 1 n 0 l] H).bind pickO).elim False fun r => k r.1 r.2.1 r.2.2)
  unfold sortE
  simp only [hs, Option.map_some, Option.bind_some, pickO, cond_true, Option.elim_some]
  exact hk _ rfl
theorem modE (a b : Int) (hb : b = 4 ∨ b = 64) : Int.tmod (IntKind.wrap IntKind.i64 (Int.tmod a b + b)) b = a % b := by
  have h0 : 0 < b := by omega
  have h1 := Int.lt_tmod_of_pos a h0
  have h2 := Int.tmod_lt_of_pos a h0
  have hw : IntKind.wrap IntKind.i64 (Int.tmod a b + b) = Int.tmod a b + b := by rw [IntKind.wrap_i64]; omega
  have h3 := Int.mul_tdiv_add_tmod a b
  rw [hw, Int.tmod_eq_emod_of_nonneg (by omega)]
  rw [← Int.add_mul_emod_self_left (Int.tmod a b + b) b (Int.tdiv a b - 1)]
  congr 1
  rw [Int.mul_sub, Int.mul_one]
  omega
theorem mod19 (N : Nat) (args : List AV) (H : Heap) (k : AV → Heap → Bool → Prop) : t19 args H k → runP (S F) T0 N 9 (S F).fu 19 args H k := by
  rintro ⟨a, b, rfl, hb, rfl, hk⟩
  unfold modR at hk
  rw [← modE a b hb] at hk
  rcases hb with rfl | rfl
  · rw [tree19a]; exact hk
  · rw [tree19b]; exact hk
/-! ### The tables -/
theorem P0 : PTab (S F) T0 0 := PTab.none
theorem told21 : Tells (S F) 21 t21 30 := P0.told 30 rfl fun N => ses21 N
theorem told22 : Tells (S F) 22 t22 30 := P0.told 30 rfl fun N => ix22 N
theorem told27 : Tells (S F) 27 t27 30 := P0.told 30 rfl fun N => cl27 N
theorem told20 : Tells (S F) 20 t20 90 := P0.told 90 rfl fun N => num20 N
theorem told14 : Tells (S F) 14 t14 30 := P0.told 30 rfl fun N => ints14 N
theorem told17 : Tells (S F) 17 t17 30 := P0.told 30 rfl fun N => cnt17 N
theorem told18 : Tells (S F) 18 t18 30 := P0.told 30 rfl fun N => cnt18 N
theorem told23 : Tells (S F) 23 t23 30 := P0.told 30 rfl fun N => del23 N
theorem told24 : Tells (S F) 24 t24 30 := P0.told 30 rfl fun N => has24 N
theorem told8 : Tells (S F) 8 t8 30 := P0.told 30 rfl fun N => new8' N
theorem told9 : Tells (S F) 9 t9 30 := P0.told 30 rfl fun N => new9' N
theorem told19 : Tells (S F) 19 t19 9 := P0.told 9 rfl fun N => mod19 N
theorem told26 (N : Nat) : Tells (S F) 26 t26 N := Tells.given rfl sort26 N
theorem told7 (N : Nat) : Tells (S F) 7 t7 N := Tells.given rfl wakes7' N
theorem P21 : PTab (S F) T21 30 := ((P0.mono (by omega)).cons told27).cons told21
theorem told25 : Tells (S F) 25 t25 60 := P21.told 30 rfl fun N => add25 N
theorem told15 : Tells (S F) 15 t15 60 := P21.told 30 rfl fun N => of15 N
theorem P25 : PTab (S F) T25 90 := ((((((P0.mono (by omega)).cons (told23.mono (by omega))).cons (told22.mono (by omega))).cons (told21.mono (by omega))).cons (told26 90)).cons told20).cons (told25.mono (by omega))
theorem told12 : Tells (S F) 12 t12 120 := P25.told 30 rfl fun N => add12 N
theorem told10 : Tells (S F) 10 t10 120 := P25.told 30 rfl fun N => drop10 N
theorem P24a : PTab (S F) T24a 30 := (P0.mono (by omega)).cons told24
theorem told16 : Tells (S F) 16 t16 60 := P24a.told 30 rfl fun N => of16 N
theorem P24 : PTab (S F) T24 60 := ((P0.mono (by omega)).cons told16).cons (told24.mono (by omega))
theorem told11 : Tells (S F) 11 t11 90 := P24.told 30 rfl fun N => drop11 N
theorem told13 : Tells (S F) 13 t13 90 := P24.told 30 rfl fun N => add13 N
theorem PL : PTab (S F) TL 120 := ((((((((((((P0.mono (by omega)).cons (told19.mono (by omega))).cons (told18.mono (by omega))).cons (told17.mono (by omega))).cons (told16.mono (by omega))).cons (told15.mono (by omega))).cons (told14.mono (by omega))).cons (told13.mono (by omega))).cons told12).cons (told11.mono (by omega))).cons told10).cons (told9.mono (by omega))).cons (told8.mono (by omega)) |>.cons (told7 120)
end Go.Proofs.Ytclmndonaljppaa
/-
  Pins: the plain laws.
-/
namespace Go.Proofs.Ytclmndonaljppaa
open Go Go.X
/-- As a session's pages stand. -/
structure Good (l : List Int) : Prop where
  sorted : l.Pairwise (· ≤ ·)
  range : ∀ x ∈ l, 0 ≤ x ∧ x < 64
  len : l.length ≤ 16
def cntA (l : List Int) : Ar 64 := Ar.of 64 fun k => ((l.count (k : Int) : Nat) : Int)
theorem cntA_get {l : List Int} {k : Nat} (h : k < 64) : (cntA l).get k = ((l.count (k : Int) : Nat) : Int) := Ar.of_get h
theorem pre_count (a : Ar 64) (x : Nat) : ∀ j, (pre a j).count (x : Int) = if x < j then (a.get x).toNat else 0
  | 0 => by simp [pre]
  | j + 1 => by
    rw [pre_succ, List.count_append, pre_count a x j, List.count_replicate]
    by_cases h1 : x < j
    · have h2 : ¬ (j : Int) = (x : Int) := by omega
      simp only [beq_iff_eq, h2, if_false, h1, if_true, show x < j + 1 by omega]
      rfl
    · by_cases h2 : x = j
      · subst h2
        simp
      · have h3 : ¬ (j : Int) = (x : Int) := by omega
        simp only [beq_iff_eq, h3, if_false, h1, show ¬ x < j + 1 by omega]
theorem pre_range {a : Ar 64} {x : Int} : ∀ {j : Nat}, x ∈ pre a j → 0 ≤ x ∧ x < j
  | 0, h => by simp [pre] at h
  | j + 1, h => by
    rw [pre_succ, List.mem_append] at h
    rcases h with h | h
    · have := pre_range h
      omega
    · have := (List.mem_replicate.1 h).2
      omega
theorem pre_sorted (a : Ar 64) : ∀ j, (pre a j).Pairwise (· ≤ ·)
  | 0 => by simp [pre]
  | j + 1 => by
    rw [pre_succ, List.pairwise_append]
    refine ⟨pre_sorted a j, ?_, fun x hx y hy => ?_⟩
    · rw [List.pairwise_replicate]
      exact .inr (Int.le_refl _)
    · have h1 := pre_range hx
      have h2 := (List.mem_replicate.1 hy).2
      omega
/-- The pages that the numbers tell of are they. -/
theorem expand_cntA {l : List Int} (h : Good l) : expand (cntA l) = l := by
  have hp : (pre (cntA l) 64).Perm l := by
    rw [List.perm_iff_count]
    intro x
    by_cases hx : 0 ≤ x ∧ x < 64
    · obtain ⟨n, rfl⟩ : ∃ n : Nat, x = (n : Int) := ⟨x.toNat, by omega⟩
      have hn : n < 64 := by omega
      rw [pre_count, if_pos hn, cntA_get hn]
      simp
    · have h1 : x ∉ l := fun hm => hx (h.range x hm)
      have h2 : x ∉ pre (cntA l) 64 := fun hm => hx (pre_range hm)
      rw [List.count_eq_zero.2 h1, List.count_eq_zero.2 h2]
  exact hp.eq_of_pairwise (fun a b _ _ h1 h2 => Int.le_antisymm h1 h2) (pre_sorted _ 64) h.sorted
theorem cntA_small {l : List Int} (h : Good l) {k : Nat} (hk : k < 64) : 0 ≤ (cntA l).get k ∧ (cntA l).get k ≤ 16 := by
  rw [cntA_get hk]
  have := h.len
  have := List.count_le_length (a := (k : Int)) (l := l)
  omega
def AllGood (ls : List (List Int)) : Prop := ∀ l ∈ ls, Good l
theorem good_nil : Good [] := ⟨.nil, by simp, by simp⟩
theorem smallN {ls : List (List Int)} (h : AllGood ls) : SmallN (ls.map cntA) := by
  intro a ha k hk
  obtain ⟨l, hl, rfl⟩ := List.mem_map.1 ha
  exact cntA_small (h l hl) hk
theorem sortI_perm (l : List Int) : (sortI l).Perm l := List.mergeSort_perm l _
theorem sortI_sorted (l : List Int) : (sortI l).Pairwise (· ≤ ·) := by
  have := List.pairwise_mergeSort (le := fun x y : Int => decide (x ≤ y)) (fun a b c h1 h2 => by simp at *; omega) (fun a b => by simp; omega) l
  exact this.imp fun h => by simpa using h
theorem okR_map {ls : List (List Int)} {s : Int} : OkR (ls.map cntA) s ↔ OkS ls s := by simp [OkR, OkS]
theorem getD_map {ls : List (List Int)} {s : Int} (h : OkS ls s) : (ls.map cntA).getD s.toNat (Ar.zero 64) = cntA (ls.getD s.toNat []) := by
  have hn : s.toNat < ls.length := by have h1 := h.1; have h2 := h.2; omega
  simp [List.getD, hn]
theorem getD_good {ls : List (List Int)} (hg : AllGood ls) {s : Int} (h : OkS ls s) : Good (ls.getD s.toNat []) := by
  have hn : s.toNat < ls.length := by have h1 := h.1; have h2 := h.2; omega
  have : ls.getD s.toNat [] = ls[s.toNat] := by simp [List.getD, hn]
  rw [this]
  exact hg _ (List.getElem_mem hn)
theorem addErr_eq {ls : List (List Int)} (hg : AllGood ls) (s pg : Int) : raddErr (ls.map cntA) s pg = addErr ls s pg := by
  unfold raddErr addErr
  by_cases hs : OkS ls s
  · rw [if_pos hs, if_pos (okR_map.2 hs), getD_map hs, expand_cntA (getD_good hg hs)]
  · rw [if_neg hs, if_neg (fun h => hs (okR_map.1 h))]
theorem addErr_zero {ls : List (List Int)} {s pg : Int} (h : addErr ls s pg = 0) : OkS ls s ∧ OkP pg ∧ (ls.getD s.toNat []).length < 16 := by
  unfold addErr at h
  split at h
  · split at h
    · split at h
      · cases h
      · exact ⟨‹_›, ‹_›, by omega⟩
    · cases h
  · cases h
theorem good_add {l : List Int} (h : Good l) {pg : Int} (hp : OkP pg) (hl : l.length < 16) : Good (sortI (l ++ [pg])) := by
  refine ⟨sortI_sorted _, fun x hx => ?_, ?_⟩
  · rcases List.mem_append.1 ((sortI_perm _).mem_iff.1 hx) with hx | hx
    · exact h.range x hx
    · simp only [List.mem_singleton] at hx
      subst hx
      exact hp
  · rw [(sortI_perm _).length_eq, List.length_append]
    exact hl
theorem allGood_set {ls : List (List Int)} (hg : AllGood ls) {n : Nat} {l : List Int} (h : Good l) : AllGood (ls.set n l) := by
  intro m hm
  rcases List.mem_or_eq_of_mem_set hm with hm | rfl
  · exact hg m hm
  · exact h
theorem addS_good {ls : List (List Int)} (hg : AllGood ls) (s pg : Int) : AllGood (addS ls s pg) := by
  unfold addS
  split
  · rename_i h
    obtain ⟨h1, h2, h3⟩ := addErr_zero h
    exact allGood_set hg (good_add (getD_good hg h1) h2 h3)
  · exact hg
theorem Ar.set_of {f : Nat → Int} {j : Nat} {v : Int} : (Ar.of 64 f).set j v = Ar.of 64 fun i => if i = j then v else f i := by
  refine Ar.ext fun i hi => ?_
  rw [Ar.set_get _ _ hi, Ar.of_get hi, Ar.of_get hi]
theorem cntA_add {l : List Int} {pg : Int} (hp : OkP pg) : (cntA l).set pg.toNat ((cntA l).get pg.toNat + 1) = cntA (sortI (l ++ [pg])) := by
  obtain ⟨n, rfl⟩ : ∃ n : Nat, pg = (n : Int) := ⟨pg.toNat, by have := hp.1; omega⟩
  have hn : n < 64 := by have := hp.2; omega
  rw [Int.toNat_natCast, cntA_get hn]
  unfold cntA
  rw [Ar.set_of]
  refine Ar.of_congr fun i hi => ?_
  rw [(sortI_perm _).count_eq, List.count_append]
  by_cases h : i = n
  · subst h
    simp
  · have h2 : ¬ (n : Int) = (i : Int) := by omega
    simp [h, h2]
theorem addS_eq {ls : List (List Int)} (hg : AllGood ls) (s pg : Int) : raddS (ls.map cntA) s pg = (addS ls s pg).map cntA := by
  unfold raddS addS
  rw [addErr_eq hg]
  split
  · rename_i h
    obtain ⟨h1, h2, h3⟩ := addErr_zero h
    unfold incN
    rw [getD_map h1, cntA_add h2, List.map_set]
  · rfl
theorem dropErr_eq {ls : List (List Int)} (hg : AllGood ls) (s pg : Int) : rdropErr (ls.map cntA) s pg = dropErr ls s pg := by
  unfold rdropErr dropErr
  by_cases hs : OkS ls s
  · rw [if_pos hs, if_pos (okR_map.2 hs), getD_map hs]
    have hgd := getD_good hg hs
    by_cases hp : OkP pg
    · rw [if_pos hp]
      obtain ⟨n, rfl⟩ : ∃ n : Nat, pg = (n : Int) := ⟨pg.toNat, by have := hp.1; omega⟩
      have hn : n < 64 := by have := hp.2; omega
      rw [Int.toNat_natCast, cntA_get hn]
      by_cases hm : (n : Int) ∈ ls.getD s.toNat []
      · have := List.count_pos_iff.2 hm
        rw [if_pos hm, if_neg (by omega)]
      · rw [if_neg hm, if_pos (by rw [List.count_eq_zero.2 hm]; rfl)]
    · have hm : pg ∉ ls.getD s.toNat [] := fun hm => hp (hgd.range pg hm)
      rw [if_neg hp, if_neg hm]
  · rw [if_neg hs, if_neg (fun h => hs (okR_map.1 h))]
theorem dropErr_zero {ls : List (List Int)} {s pg : Int} (h : dropErr ls s pg = 0) : OkS ls s ∧ pg ∈ ls.getD s.toNat [] := by
  unfold dropErr at h
  split at h
  · split at h
    · exact ⟨‹_›, ‹_›⟩
    · cases h
  · cases h
theorem good_drop {l : List Int} (h : Good l) {pg : Int} : Good (l.erase pg) :=
  ⟨h.sorted.sublist List.erase_sublist, fun x hx => h.range x (List.mem_of_mem_erase hx), Nat.le_trans List.length_erase_le h.len⟩
theorem dropS_good {ls : List (List Int)} (hg : AllGood ls) (s pg : Int) : AllGood (dropS ls s pg) := by
  unfold dropS
  split
  · rename_i h
    obtain ⟨h1, h2⟩ := dropErr_zero h
    exact allGood_set hg (good_drop (getD_good hg h1))
  · exact hg
theorem cntA_drop {l : List Int} {pg : Int} (hp : OkP pg) (hm : pg ∈ l) : (cntA l).set pg.toNat ((cntA l).get pg.toNat + -1) = cntA (l.erase pg) := by
  obtain ⟨n, rfl⟩ : ∃ n : Nat, pg = (n : Int) := ⟨pg.toNat, by have := hp.1; omega⟩
  have hn : n < 64 := by have := hp.2; omega
  rw [Int.toNat_natCast, cntA_get hn]
  unfold cntA
  rw [Ar.set_of]
  refine Ar.of_congr fun i hi => ?_
  rw [List.count_erase]
  by_cases h : i = n
  · subst h
    have := List.count_pos_iff.2 hm
    simp
    omega
  · have h2 : ¬ (n : Int) = (i : Int) := by omega
    simp [h, h2]
theorem dropS_eq {ls : List (List Int)} (hg : AllGood ls) (s pg : Int) : rdropS (ls.map cntA) s pg = (dropS ls s pg).map cntA := by
  unfold rdropS dropS
  rw [dropErr_eq hg]
  split
  · rename_i h
    obtain ⟨h1, h2⟩ := dropErr_zero h
    unfold incN
    rw [getD_map h1, cntA_drop ((getD_good hg h1).range pg h2) h2, List.map_set]
  · rfl
theorem cnt_eq {ls : List (List Int)} (hg : AllGood ls) (pg : Int) : rcnt (ls.map cntA) pg = ((cntL pg ls : Nat) : Int) := by
  unfold rcnt
  by_cases hp : OkP pg
  · rw [if_pos hp]
    obtain ⟨n, rfl⟩ : ∃ n : Nat, pg = (n : Int) := ⟨pg.toNat, by have := hp.1; omega⟩
    have hn : n < 64 := by have := hp.2; omega
    rw [Int.toNat_natCast]
    clear hg
    induction ls with
    | nil => rfl
    | cons l ls ih =>
      have e1 : sumN n ((l :: ls).map cntA) = (cntA l).get n + sumN n (ls.map cntA) := rfl
      have e2 : cntL (n : Int) (l :: ls) = l.count (n : Int) + cntL (n : Int) ls := rfl
      rw [e1, e2, ih, cntA_get hn]
      omega
  · rw [if_neg hp]
    have : cntL pg ls = 0 := by
      induction ls with
      | nil => rfl
      | cons l ls ih =>
        have e2 : cntL pg (l :: ls) = l.count pg + cntL pg ls := rfl
        rw [e2, ih (fun m hm => hg m (List.mem_cons_of_mem _ hm)), List.count_eq_zero.2 (fun hm => hp ((hg l List.mem_cons_self).range pg hm))]
    rw [this]
    rfl
end Go.Proofs.Ytclmndonaljppaa
