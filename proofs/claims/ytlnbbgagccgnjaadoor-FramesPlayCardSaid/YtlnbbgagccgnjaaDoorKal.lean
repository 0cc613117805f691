/-
  FramesKeep: the rounds that look.
-/
import Derived.Test.YtlnbbgagccgnjaaDoorKak
import Derived.Test.YtlnbbgagccgnjaaDoorKaj
import Derived.Test.YtlnbbgagccgnjaaDoorKai
import Derived.Test.YtlnbbgagccgnjaaDoorKah
import Derived.Test.YtlnbbgagccgnjaaDoorKag
import Derived.Test.YtlnbbgagccgnjaaDoorKae

namespace Go.Proofs.YtlnbbgagccgnjaaDoor
open Go Go.X
variable {F : Nat}
structure Inv (s : FS) (B C : List (Ar 32)) (D : List Bool) : Prop where
  ok : OkS s
  uk : UK s.fs
  n4 : s.fs.length = 4
  bl : B.length = 8
  cl : C.length = 8
  dl : D.length = 8
  key : ∀ j (hj : j < s.fs.length), s.fs[j].key < 8
  look : ∀ k (h1 : k < B.length) (h2 : k < C.length) (h3 : k < D.length), (pgR s (k : Int)).isSome = D[k] ∧ ∀ p, pgR s (k : Int) = some p → p.base = B[k] ∧ p.now = C[k]
theorem okD {D : List Bool} {k : Nat} (h : k < D.length) (hl : D.length = 8) : okAt (.arr 1 (row AV.bool D)) [k] k 8 false 1 = true := okAt_row h (by rw [hl]) (by simp [coffOf]) rfl rfl rfl
theorem opD {D : List Bool} {k : Nat} (h : k < D.length) (hl : D.length = 8) : okPl (.arr 1 (row AV.bool D)) [k] k 8 1 = true := okPl_row h (by rw [hl]) (by simp [coffOf]) rfl rfl
theorem prD {D : List Bool} {k : Nat} (h : k < D.length) : projT [k] (.arr 1 (row AV.bool D)) = .bool D[k] := projT_row h
theorem okB {B : List (Ar 32)} {k : Nat} (h : k < B.length) (hl : B.length = 8) : okAt (.arr 32 (row (encA .u8) B)) [k] (k * 32) 256 true 32 = true := okAt_row h (by rw [hl]) (by rw [Nat.mul_comm]; rfl) rfl flatLen_encA isAgg_encA
theorem opB {B : List (Ar 32)} {k : Nat} (h : k < B.length) (hl : B.length = 8) : okPl (.arr 32 (row (encA .u8) B)) [k] (k * 32) 256 32 = true := okPl_row h (by rw [hl]) (by rw [Nat.mul_comm]; rfl) rfl flatLen_encA
theorem prB {B : List (Ar 32)} {k : Nat} (h : k < B.length) : projT [k] (.arr 32 (row (encA .u8) B)) = encA .u8 B[k] := projT_row h
theorem okZ {d : List Int} {k : Nat} (h : k < d.length) : okAt (.arr 1 (row encZ d)) [k] k d.length false 1 = true := okAt_row h (by simp) (by simp [coffOf]) rfl rfl rfl
theorem prZ {d : List Int} {k : Nat} (h : k < d.length) : projT [k] (.arr 1 (row encZ d)) = .int .i64 d[k] := projT_row h
noncomputable def dN (s : FS) (n : Nat) : List Int := (nums n).filter (dk s)
theorem dN_succ (s : FS) (n : Nat) : dN s (n + 1) = dN s n ++ if dk s n then [(n : Int)] else [] := by
  unfold dN nums
  rw [List.range_succ, List.map_append, List.filter_append]
  congr 1
  simp only [List.map_cons, List.map_nil, List.filter_cons, List.filter_nil]
theorem dN_more (s : FS) (n : Nat) : ∀ d, (∀ x : Nat, n ≤ x → x < n + d → dk s x = false) → dN s (n + d) = dN s n
  | 0, _ => rfl
  | d + 1, h => by
    rw [show n + (d + 1) = (n + d) + 1 by omega, dN_succ, h (n + d) (by omega) (by omega), dN_more s n d fun x h1 h2 => h x h1 (by omega)]
    simp
theorem dN_pre (s : FS) (n : Nat) : ∀ d, ∃ r, dN s (n + d) = dN s n ++ r
  | 0 => ⟨[], by simp⟩
  | d + 1 => by
    obtain ⟨r, hr⟩ := dN_pre s n d
    exact ⟨r ++ if dk s (n + d : Nat) then [((n + d : Nat) : Int)] else [], by rw [show n + (d + 1) = (n + d) + 1 by omega, dN_succ, hr, List.append_assoc]⟩
theorem dN_at {s : FS} {n m : Nat} (h : dk s n = true) (hm : n < m) : ∃ hl : (dN s n).length < (dN s m).length, (dN s m)[(dN s n).length] = n := by
  obtain ⟨r, hr⟩ := dN_pre s (n + 1) (m - (n + 1))
  rw [show n + 1 + (m - (n + 1)) = m by omega, dN_succ, if_pos h, List.append_assoc] at hr
  refine ⟨by rw [hr]; simp, ?_⟩
  simp only [hr]
  rw [List.getElem_append_right (Nat.le_refl _)]
  simp
theorem Inv.none8 {s : FS} {B C : List (Ar 32)} {D : List Bool} (h : Inv s B C D) {x : Int} (h8 : 8 ≤ x) (h64 : x < 64) : pgR s x = none := by
  rw [pgR_eq (by omega) h64]
  cases hf : fR x s.fs with
  | none => rfl
  | some j =>
    have hj := fR_lt hf
    have := h.key j hj
    have := fR_key hf hj
    omega
theorem Inv.dirt {s : FS} {B C : List (Ar 32)} {D : List Bool} (h : Inv s B C D) : sortZ (dirties s) = dN s 8 := by
  rw [dirties_eq h.ok h.uk]
  exact dN_more s 8 56 fun x h1 h2 => by
    unfold dk
    rw [h.none8 (by omega) (by omega)]
open Classical in
theorem Inv.dkE {s : FS} {B C : List (Ar 32)} {D : List Bool} (h : Inv s B C D) {k : Nat} (h1 : k < B.length) (h2 : k < C.length) (h3 : k < D.length) : dk s k = (D[k] && !decide (B[k] = C[k])) := by
  obtain ⟨a, b⟩ := h.look k h1 h2 h3
  unfold dk
  cases hp : pgR s k with
  | none => rw [hp] at a; rw [← a]; rfl
  | some p =>
    rw [hp] at a
    obtain ⟨b1, b2⟩ := b p hp
    rw [← a, ← b1, ← b2]
    rfl
abbrev LMr (s : FS) (B C : List (Ar 32)) (D : List Bool) : Heap := LM s (row (encA .u8) B) (row (encA .u8) C) (row AV.bool D)
theorem wrapN {i : Nat} (h : i < 2 ^ 62) : IntKind.wrap IntKind.i64 ((i : Int) + 1) = ((i + 1 : Nat) : Int) := wrapS h
theorem loopC (N fuel n : Nat) (l : List Stp) (i : Int) (s : FS) (B C : List (Ar 32)) (D : List Bool) (k : AV → Heap → Bool → Prop) (h : Inv s B C D)
    (hk : resPS (S F) (T4 F) N 9 fuel 3 1 0 [] pO n ⟨LT (row encSt l) (IntKind.wrap IntKind.i64 (i + 1)), [], LMr s B C D, false⟩ k) : ∀ (e kk m : Nat), kk + e = 8 → e < m →
    resPS (S F) (T4 F) N 9 fuel 3 1 0 [(p2, m)] pO n ⟨LJ (row encSt l) i (.sl ⟨9, 0, [], (dN s 8).length⟩ 1 (dN s 8).length 0 (dN s 8).length) ((dN s kk).length : Nat) kk, [], LD s (row (encA .u8) B) (row (encA .u8) C) (row AV.bool D) (row encZ (dN s 8)), false⟩ k
  | e, kk, 0, _, hm => by omega
  | 0, kk, m + 1, he, _ => by
    obtain rfl : kk = 8 := by omega
    rw [stepC]
    simpa using hk
  | e + 1, kk, m + 1, he, hm => by
    have ih := loopC N fuel n l i s B C D k h hk e (kk + 1) m (by omega) (by omega)
    have h1 : kk < B.length := by rw [h.bl]; omega
    have h2 : kk < C.length := by rw [h.cl]; omega
    have h3 : kk < D.length := by rw [h.dl]; omega
    have e1 : ((kk : Int) < 8) := by omega
    have e2 : kk < 8 := by omega
    have hd := h.dkE h1 h2 h3
    have hw : IntKind.wrap IntKind.i64 ((kk : Int) + 1) = ((kk + 1 : Nat) : Int) := wrapN (by omega)
    rw [dN_succ s kk] at ih
    rw [stepC]
    simp only [e1, e2, Int.natCast_nonneg, Int.toNat_natCast, decide_true, cond_true, Nat.zero_add, Nat.mul_one, okD h3 h.dl, prD h3, AV.isBoolV, AV.toBool, okB h1 h.bl, prB h1, okB h2 h.cl, prB h2, isArrI_encA, arI_encA, eqPg, Option.isSome_some, Option.getD_some, hw]
    cases hD : D[kk] with
    | false =>
      rw [hd, hD] at ih
      simpa using ih
    | true =>
      by_cases hB : B[kk] = C[kk]
      · rw [hd, hD] at ih
        simp only [hB, decide_true, Bool.not_true, Bool.and_false, Bool.false_eq_true, if_false, List.append_nil] at ih
        simpa [hB] using ih
      · have hdk : YtlnbbgagccgnjaaDoor.dk s kk = true := by rw [hd, hD]; simp [hB]
        obtain ⟨hl, ha⟩ := dN_at (m := 8) hdk e2
        rw [hdk, if_pos rfl] at ih
        have e3 : ¬ (((dN s kk).length : Int) ≥ ((dN s 8).length : Int)) := by omega
        have hbig : (dN s kk).length ≤ 8 := by
          unfold dN
          refine Nat.le_trans (List.length_filter_le _ _) ?_
          simp [nums]; omega
        have hw2 : IntKind.wrap IntKind.i64 (((dN s kk).length : Int) + 1) = (((dN s kk).length + 1 : Nat) : Int) := wrapN (by omega)
        simp only [hB, decide_false, Bool.not_false, cond_true, e3, cond_false, hl, decide_true, okZ hl, prZ hl, AV.isIntK, AV.toInt, ha, beq_self_eq_true, Bool.not_true, hw2]
        simpa using ih
theorem loopD (N fuel n : Nat) (l : List Stp) (i : Int) (s : FS) (B C : List (Ar 32)) (D : List Bool) (k : AV → Heap → Bool → Prop) (h : Inv s B C D) (hn : dN s 8 = [])
    (hk : resPS (S F) (T4 F) N 9 fuel 3 1 0 [] pO n ⟨LT (row encSt l) (IntKind.wrap IntKind.i64 (i + 1)), [], LMr s B C D, false⟩ k) : ∀ (e kk m : Nat), kk + e = 8 → e < m →
    resPS (S F) (T4 F) N 9 fuel 3 1 0 [(p2, m)] pO n ⟨LJ (row encSt l) i .nils 0 kk, [], LMr s B C D, false⟩ k
  | e, kk, 0, _, hm => by omega
  | 0, kk, m + 1, he, _ => by
    obtain rfl : kk = 8 := by omega
    rw [stepD]
    simpa using hk
  | e + 1, kk, m + 1, he, hm => by
    have ih := loopD N fuel n l i s B C D k h hn hk e (kk + 1) m (by omega) (by omega)
    have h1 : kk < B.length := by rw [h.bl]; omega
    have h2 : kk < C.length := by rw [h.cl]; omega
    have h3 : kk < D.length := by rw [h.dl]; omega
    have e1 : ((kk : Int) < 8) := by omega
    have e2 : kk < 8 := by omega
    have hd := h.dkE h1 h2 h3
    have hw : IntKind.wrap IntKind.i64 ((kk : Int) + 1) = ((kk + 1 : Nat) : Int) := wrapN (by omega)
    have hf : YtlnbbgagccgnjaaDoor.dk s kk = false := by
      cases hc : YtlnbbgagccgnjaaDoor.dk s kk with
      | false => rfl
      | true =>
        obtain ⟨hl, _⟩ := dN_at (m := 8) hc e2
        rw [hn] at hl
        simp at hl
    rw [hf] at hd
    rw [stepD]
    simp only [e1, e2, Int.natCast_nonneg, Int.toNat_natCast, decide_true, cond_true, Nat.mul_one, Nat.zero_add, okD h3 h.dl, prD h3, AV.isBoolV, AV.toBool, okB h1 h.bl, prB h1, okB h2 h.cl, prB h2, isArrI_encA, arI_encA, eqPg, Option.isSome_some, Option.getD_some, hw]
    cases hD : D[kk] with
    | false => simpa using ih
    | true =>
      rw [hD] at hd
      have hB : B[kk] = C[kk] := by simpa using hd.symm
      simpa [hB] using ih
theorem loopBB (N fuel n : Nat) (l : List Stp) (i : Int) (s : FS) (B C : List (Ar 32)) (D : List Bool) (k : AV → Heap → Bool → Prop) (h : Inv s B C D) (hf : 8 < fuel)
    (hk : resPS (S F) (T4 F) N 9 fuel 3 1 0 [] pO n ⟨LT (row encSt l) (IntKind.wrap IntKind.i64 (i + 1)), [], LMr s B C D, false⟩ k) : ∀ (e kk m : Nat), kk + e = 8 → e < m →
    resPS (S F) (T4 F) N 9 fuel 3 1 0 [(p1, m)] pO n ⟨LI (row encSt l) i kk, [], LMr s B C D, false⟩ k
  | e, kk, 0, _, hm => by omega
  | 0, kk, m + 1, he, _ => by
    obtain rfl : kk = 8 := by omega
    rw [stepB]
    have e1 : ¬ (((8 : Nat) : Int) < 8) := by omega
    simp only [e1, decide_false, cond_false]
    refine ⟨s, by simp [F0], by simp, h.ok, fun hn => ?_, fun d hd hn => ?_⟩
    · rw [h.dirt] at hn
      exact loopD (F := F) N fuel n l i s B C D k h hn hk 8 0 fuel (by omega) hf
    · rw [h.dirt] at hd
      subst hd
      exact loopC (F := F) N fuel n l i s B C D k h hk 8 0 fuel (by omega) hf
  | e + 1, kk, m + 1, he, hm => by
    have ih := loopBB N fuel n l i s B C D k h hf hk e (kk + 1) m (by omega) (by omega)
    have h1 : kk < B.length := by rw [h.bl]; omega
    have h2 : kk < C.length := by rw [h.cl]; omega
    have h3 : kk < D.length := by rw [h.dl]; omega
    have e1 : ((kk : Int) < 8) := by omega
    have e2 : kk < 8 := by omega
    obtain ⟨a, b⟩ := h.look kk h1 h2 h3
    have hw : IntKind.wrap IntKind.i64 ((kk : Int) + 1) = ((kk + 1 : Nat) : Int) := wrapN (by omega)
    rw [stepB]
    simp only [e1, decide_true, cond_true]
    refine ⟨s, kk, rfl, rfl, h.ok, ?_⟩
    simp only [e2, Int.natCast_nonneg, Int.toNat_natCast, decide_true, cond_true, Nat.mul_one, Nat.zero_add, okD h3 h.dl, prD h3, AV.isBoolV, AV.toBool, okB h1 h.bl, prB h1, okB h2 h.cl, prB h2, isArrI_encA, arI_encA, arr_get, eqPg, Option.isSome_some, Option.getD_some, hw]
    cases hp : pgR s kk with
    | none =>
      rw [hp] at a
      rw [← a]
      simpa using ih
    | some p =>
      rw [hp] at a
      obtain ⟨b1, b2⟩ := b p hp
      rw [← a]
      simpa [b1, b2] using ih
end Go.Proofs.YtlnbbgagccgnjaaDoor
/-
  FramesPlay: a page of a step.
-/
namespace Go.Proofs.YtlnbbgagccgnjaaDoor
open Go Go.X
variable {F : Nat}
theorem eqMp {x y : Operand} (a b : Ar 8) : eqNil Tryd.prog 49 x y (encA .i64 a) (encA .i64 b) = some (@decide (a = b) (Classical.propDecidable _)) := by
  have h := eqNil_encA (P := Tryd.prog) (t := 49) (e := 3) (x := x) (y := y) (k := .i64) (n := 8) (by kernel_rfl) (by kernel_rfl) (by kernel_rfl) a b
  exact h
theorem okM0 {hs : List Hd} {j : Nat} (h : j < hs.length) : okAt (.arr 72 (row encHd hs)) [j, 0] (j * 72 + 0) (72 * hs.length) true 32 = true := okAt_row h rfl (by rw [Nat.mul_comm]; rfl) rfl flatLen_encA isAgg_encA
theorem okM1 {hs : List Hd} {j : Nat} (h : j < hs.length) : okAt (.arr 72 (row encHd hs)) [j, 1] (j * 72 + 32) (72 * hs.length) true 32 = true := okAt_row h rfl (by rw [Nat.mul_comm]; rfl) rfl flatLen_encA isAgg_encA
theorem okM2 {hs : List Hd} {j : Nat} (h : j < hs.length) : okAt (.arr 72 (row encHd hs)) [j, 2] (j * 72 + 64) (72 * hs.length) true 8 = true := okAt_row h rfl (by rw [Nat.mul_comm]; rfl) rfl flatLen_encA isAgg_encA
theorem prM0 {hs : List Hd} {j : Nat} (h : j < hs.length) : projT [j, 0] (.arr 72 (row encHd hs)) = encA .u8 hs[j].base := projT_row h
theorem prM1 {hs : List Hd} {j : Nat} (h : j < hs.length) : projT [j, 1] (.arr 72 (row encHd hs)) = encA .u8 hs[j].now := projT_row h
theorem prM2 {hs : List Hd} {j : Nat} (h : j < hs.length) : projT [j, 2] (.arr 72 (row encHd hs)) = encA .i64 hs[j].heads := projT_row h
theorem zero32 : (AV.arr 1 (encL IntKind.u8 32 fun (_i : Nat) => 0)) = encA .u8 (Ar.zero 32) := rfl
theorem zero8 : (AV.arr 1 (encL IntKind.i64 8 fun (_i : Nat) => 0)) = encA .i64 (Ar.zero 8) := rfl
theorem arZ8 (a : Ar 8) : (AV.arr 1 (encL IntKind.i64 8 a.1)) = encA .i64 a := rfl
theorem arZ32 (a : Ar 32) : (AV.arr 1 (encL IntKind.u8 32 a.1)) = encA .u8 a := rfl
theorem fV_none : fV none = -1 := rfl
theorem loopI (N fuel n : Nat) (l : List Stp) (i : Int) (s : FS) (r : RS) (b : Int) (k : AV → Heap → Bool → Prop) (h : Rel s r b)
    (hk : resPS (S F) (T6 F) N 9 fuel 6 2 0 [] p6 n ⟨L6 FP QP (row encSt l) (IntKind.wrap IntKind.i64 (i + 1)), [], PH s r, false⟩ k) : ∀ (e p m : Nat), p + e = 12 → e < m →
    resPS (S F) (T6 F) N 9 fuel 6 2 0 [(p7, m)] p6 n ⟨L7 (row encSt l) i p, [], PH s r, false⟩ k
  | e, p, 0, _, hm => by omega
  | 0, p, m + 1, he, _ => by
    obtain rfl : p = 12 := by omega
    rw [inner6]
    exact condF (by decide) hk
  | e + 1, p, m + 1, he, hm => by
    have ih := loopI N fuel n l i s r b k h hk e (p + 1) m (by omega) (by omega)
    have hw : IntKind.wrap IntKind.i64 ((p : Int) + 1) = ((p + 1 : Nat) : Int) := wrapN (by omega)
    have hw64 : IntKind.wrap IntKind.i64 (64 + (p : Int)) = 64 + (p : Int) := by rw [IntKind.wrap_i64]; omega
    have hfl : r.fs.length < 1000 := h.og.hl
    rw [inner6]
    refine condT (by simp; omega) ?_
    refine ⟨s, p, rfl, rfl, h.ok, r, p, rfl, rfl, h.og, ?_⟩
    obtain ⟨g1, g2⟩ := h.page p
    simp only [hw]
    rw [hw64]
    cases ho : ofG r p with
    | none =>
      have hp : pgR s p = none := by rw [ho] at g1; simpa using g1
      simp only [hp, fV_none, Option.isSome_none, Option.map_none, Option.getD_none, zero32, isArrI_encA, arI_encA, arZ32, eqPg, Option.isSome_some, Option.getD_some, decide_true, cond_true, cond_false, Bool.not_true, Bool.not_false]
      refine condF (by decide) ?_
      refine ⟨s, p, rfl, rfl, h.ok, ?_⟩
      by_cases hp8 : p < 8
      · refine condT (by simp; omega) ⟨r.fs, 64 + (p : Int), rfl, rfl, hfl, ?_⟩
        obtain ⟨m1, m2⟩ := h.map (a := p) (by omega) (by omega)
        cases hf : fR (64 + (p : Int)) r.fs with
        | none =>
          have hq : mapR s p = none := by rw [hf] at m1; simpa using m1
          simpa [hq, fV_none, zero8, arZ8, eqMp] using ih
        | some j =>
          obtain ⟨j1, j2, j3, j4⟩ := m2 j hf
          simpa [j3, j2, fV_some, okM2 j2, prM2 j2, eqMp, arZ8, j4] using ih
      · have hq : mapR s p = none := by
          have : ¬ ((p : Int) < 0) := by omega
          have : ¬ ((p : Int) < 8) := by omega
          unfold mapR; simp [*]
        refine condF (by simp; omega) ?_
        simpa [hq, fV_none, zero8, arZ8, eqMp] using ih
    | some j =>
      obtain ⟨q1, q2, q3, q4, q5⟩ := g2 j ho
      have e0 : (0 : Int) ≤ (j : Int) := by omega
      have e1 : ((j : Int) ≥ 0) := by omega
      simp only [q3, fV_some, Option.isSome_some, Option.map_some, Option.getD_some, e0, e1, Int.toNat_natCast, q2, Nat.zero_add, okM0 q2, okM1 q2, prM0 q2, prM1 q2, isArrI_encA, arI_encA, arZ32, eqPg, q4, q5, decide_true, cond_true, cond_false, Bool.not_true, Bool.not_false]
      refine condF (by decide) ?_
      refine ⟨s, p, rfl, rfl, h.ok, ?_⟩
      by_cases hp8 : p < 8
      · refine condT (by simp; omega) ⟨r.fs, 64 + (p : Int), rfl, rfl, hfl, ?_⟩
        obtain ⟨m1, m2⟩ := h.map (a := p) (by omega) (by omega)
        cases hf : fR (64 + (p : Int)) r.fs with
        | none =>
          have hq : mapR s p = none := by rw [hf] at m1; simpa using m1
          simpa [hq, fV_none, zero8, arZ8, eqMp] using ih
        | some j =>
          obtain ⟨j1, j2, j3, j4⟩ := m2 j hf
          simpa [j3, j2, fV_some, okM2 j2, prM2 j2, eqMp, arZ8, j4] using ih
      · have hq : mapR s p = none := by
          have : ¬ ((p : Int) < 0) := by omega
          have : ¬ ((p : Int) < 8) := by omega
          unfold mapR; simp [*]
        refine condF (by simp; omega) ?_
        simpa [hq, fV_none, zero8, arZ8, eqMp] using ih
end Go.Proofs.YtlnbbgagccgnjaaDoor
/-
  FramesPlay: a step.
-/
namespace Go.Proofs.YtlnbbgagccgnjaaDoor
open Go Go.X
variable {F : Nat}
theorem beqI {k : IntKind} {z : Int} : AV.beq (.int k z) (.int k z) = true := by simp [AV.beq]
def hdsA (a b : Int) : Ar 8 := Ar.of 8 fun i => if i = 0 then a else if i = 1 then b else 0
theorem hds_eq (a b : Int) : AV.arr 1 (AV.int IntKind.i64 a :: AV.int IntKind.i64 b :: encL IntKind.i64 6 fun (_i : Nat) => 0) = encA .i64 (hdsA a b) := by kernel_rfl
theorem hds_eqI (a b : Int) : AV.arr 1 (arI IntKind.i64 8 (AV.arr 1 (AV.int IntKind.i64 a :: AV.int IntKind.i64 b :: encL IntKind.i64 6 fun (_i : Nat) => 0))) = encA .i64 (hdsA a b) := by kernel_rfl
theorem hds_beq (a b : Int) : AV.beq (AV.arr 1 (AV.int IntKind.i64 a :: AV.int IntKind.i64 b :: encL IntKind.i64 6 fun (_i : Nat) => 0)) (AV.arr 1 (arI IntKind.i64 8 (AV.arr 1 (AV.int IntKind.i64 a :: AV.int IntKind.i64 b :: encL IntKind.i64 6 fun (_i : Nat) => 0)))) = true := by
  rw [hds_eqI, hds_eq]; exact beq_encA
theorem kindT {z c : Int} (h : z = c) : (z == c) = true := by simpa using h
theorem kindF {z c : Int} (h : ¬ z = c) : (z == c) = false := by simpa using h
theorem eqB {a b : Bool} (h : a = b) : (!(a == b)) = false := by subst h; simp
theorem eqZ {a b : Int} (h : a = b) : (!(a == b)) = false := by subst h; simp
theorem Rel.holdP' {s : FS} {r : RS} {b : Int} (h : Rel s r b) (fr a : Int) (p : Ar 32) : (holdR s fr a p).isSome = (holdPG r fr a p).isSome ∧ Rel ((holdR s fr a p).getD s) ((holdPG r fr a p).getD r) b := by
  rcases h.holdP fr a p with ⟨e1, e2⟩ | ⟨s', r', e1, e2, h'⟩ <;> rw [e1, e2]
  · exact ⟨rfl, h⟩
  · exact ⟨rfl, h'⟩
theorem Rel.holdM' {s : FS} {r : RS} {b : Int} (h : Rel s r b) (fr a : Int) (p : Ar 8) : (holdMapR s fr a p).isSome = (holdMG r fr a p).isSome ∧ Rel ((holdMapR s fr a p).getD s) ((holdMG r fr a p).getD r) b := by
  rcases h.holdM fr a p with ⟨e1, e2⟩ | ⟨s', r', e1, e2, h'⟩ <;> rw [e1, e2]
  · exact ⟨rfl, h⟩
  · exact ⟨rfl, h'⟩
theorem Rel.forget' {s : FS} {r : RS} {b : Int} (h : Rel s r b) (a : Int) : (forgetR s a).isSome = (forgetG r a).isSome ∧ Rel ((forgetR s a).getD s) ((forgetG r a).getD r) b := by
  rcases h.forget a with ⟨e1, e2⟩ | ⟨s', r', e1, e2, h'⟩ <;> rw [e1, e2]
  · exact ⟨rfl, h⟩
  · exact ⟨rfl, h'⟩
theorem Rel.pins' {s : FS} {r : RS} {b : Int} (h : Rel s r b) (hb : 0 ≤ b ∧ b < 1000) (a : Int) (up : Bool) : (pinF s.fs a up).isSome = (pinG r.fs a up).isSome ∧ Rel ⟨(pinF s.fs a up).getD s.fs, s.hand, s.ps, s.hs⟩ ⟨(pinG r.fs a up).getD r.fs, r.hs⟩ (b + 1) := by
  rcases h.pins hb a up with ⟨e1, e2⟩ | ⟨fs, e1, e2, h'⟩ <;> rw [e1, e2]
  · exact ⟨rfl, h.wide (by omega)⟩
  · exact ⟨rfl, h'⟩
theorem nilsT {x : Stp} (h : x.data = none) : AV.isNils (AV.part (encSt x) 5) = true := by show AV.isNils (dataAV x.data) = true; rw [h]; rfl
theorem nilsF {x : Stp} {ds : List Int} (h : x.data = some ds) : AV.isNils (AV.part (encSt x) 5) = false := by show AV.isNils (dataAV x.data) = false; rw [h]; rfl
theorem islT {x : Stp} {ds : List Int} (h : x.data = some ds) : AV.isIslN (AV.part (encSt x) 5) 1 = true := by show AV.isIslN (dataAV x.data) 1 = true; rw [h]; rfl
theorem dataL {x : Stp} {ds : List Int} (h : x.data = some ds) : AV.toList (AV.part (encSt x) 5) = row encU ds := by show AV.toList (dataAV x.data) = _; rw [h]; rfl
theorem beqU {ds : List Int} : AV.beq (.isl 1 (row encU ds)) (.isl 1 (row encU ds)) = true := by
  have : row encU ds = ds.map fun z => AV.int .u8 z := rfl
  rw [this]
  simp only [AV.beq, beqL_ints, beq_self_eq_true, Bool.and_self]
theorem dataU {ds : List Int} : (reflessL (row encU ds) && List.all (row encU ds) fun (u : AV) => AV.flatLen u == 1) = true := by
  have e1 : reflessL (row encU ds) = true := reflessL_row (fun x => rfl) ds
  rw [e1]
  simp only [row, Bool.true_and, List.all_map, List.all_eq_true]
  intro x _
  rfl
theorem stepK6 (N fuel n ii : Nat) (l : List Stp) (s : FS) (r : RS) (b : Int) (k : AV → Heap → Bool → Prop) (h : Rel s r b) (hb : 0 ≤ b ∧ b < 1000) (hf : 12 < fuel) (hi : ii < l.length)
    (hds : ∀ ds, l[ii].data = some ds → ds.length ≤ 100)
    (hk : ∀ s' r', Rel s' r' (b + 1) → resPS (S F) (T6 F) N 9 fuel 6 2 0 [] p6 n ⟨L6 FP QP (row encSt l) (IntKind.wrap IntKind.i64 (ii + 1)), [], PH s' r', false⟩ k) :
    resPS (S F) (T6 F) N 9 fuel 6 2 0 [] p6 (n + 1) ⟨L6 FP QP (row encSt l) ii, [], PH s r, false⟩ k := by
  have hI : ∀ s' r' c, Rel s' r' c → c ≤ b + 1 → resPS (S F) (T6 F) N 9 fuel 6 2 0 [(p7, fuel)] p6 n ⟨L7 (row encSt l) ii 0, [], PH s' r', false⟩ k :=
    fun s' r' c h' hc => loopI N fuel n l ii s' r' c k h' (hk s' r' (h'.wide hc)) 12 0 fuel (by omega) hf
  have hx : (row encSt l)[Int.toNat (ii : Int)]?.getD .bad = encSt l[ii] := by simp [row, hi]
  rw [step6]
  refine condT (by simp; omega) (condT (by simp) ?_)
  rw [hx]
  generalize l[ii] = x at hds ⊢
  refine condT rfl (condT rfl (condT rfl (condT rfl (condT rfl (condT rfl ?_)))))
  by_cases k0 : x.kind = 0
  · obtain ⟨e, h'⟩ := h.holdP' x.frame x.key (leafA x.v)
    have hI' := hI _ _ _ h' (by omega)
    cases hd : x.data
    all_goals first
      | refine condT (nilsT hd) ?_
      | refine condF (nilsF hd) (condT (islT hd) ?_)
    all_goals
      refine condT (kindT k0) ⟨x.v, rfl, rfl, s, x.frame, x.key, leafA x.v, rfl, rfl, h.ok, x.v, rfl, rfl, r, x.frame, x.key, leafA x.v, rfl, rfl, h.og, ?_⟩
      refine condT beqI (condT beqI (condT beqI (condT beqI (condT beqI (condT beqI (condT beqI (condT beqI (condT beqI (condT beqI ?_)))))))))
      exact condF (eqB e) (tailD (I := fun s r => resPS (S F) (T6 F) N 9 fuel 6 2 0 [(p7, fuel)] p6 n ⟨L7 (row encSt l) ii 0, [], PH s r, false⟩ k) h' hI')
  by_cases k1 : x.kind = 1
  · obtain ⟨e, h'⟩ := h.holdM' x.frame x.key (hdsA (IntKind.wrap .i64 x.v) x.off)
    have hI' := hI _ _ _ h' (by omega)
    cases hd : x.data
    all_goals first
      | refine condT (nilsT hd) ?_
      | refine condF (nilsF hd) (condT (islT hd) ?_)
    all_goals
      refine condF (kindF k0) (condT (kindT k1) ⟨s, x.frame, x.key, hdsA (IntKind.wrap .i64 x.v) x.off, congrArg (fun v => [F0, .int .i64 x.frame, .int .i64 x.key, v]) (hds_eqI (IntKind.wrap .i64 x.v) x.off), rfl, h.ok, r, x.frame, x.key, hdsA (IntKind.wrap .i64 x.v) x.off, congrArg (fun v => [C0, .int .i64 x.frame, .int .i64 x.key, v]) (hds_eqI (IntKind.wrap .i64 x.v) x.off), rfl, h.og, ?_⟩)
      refine condT beqI (condT beqI ?_)
      exact condT (hds_beq _ _) (condF (eqB e) (tailD (I := fun s r => resPS (S F) (T6 F) N 9 fuel 6 2 0 [(p7, fuel)] p6 n ⟨L7 (row encSt l) ii 0, [], PH s r, false⟩ k) h' hI'))
  by_cases k2 : x.kind = 2
  · cases hd : x.data with
    | none =>
      obtain ⟨e, h'⟩ := h.write x.key x.off []
      have hI' := hI _ _ _ h' (by omega)
      refine condT (nilsT hd) ?_
      refine condF (kindF k0) (condF (kindF k1) (condT (kindT k2) ⟨s, x.key, x.off, [], rfl, WR_at _ _ _ _ [] rfl rfl rfl, h.ok, by simp, r, x.key, x.off, none, rfl, rfl, h.og, by simp, ?_⟩))
      refine condT beqI (condT beqI (condT beqI (condT beqI (condT beqI (condT beqI (condT beqI (condT beqI (condT beqI (condT beqI ?_)))))))))
      exact condF (eqZ e) (tailD (I := fun s r => resPS (S F) (T6 F) N 9 fuel 6 2 0 [(p7, fuel)] p6 n ⟨L7 (row encSt l) ii 0, [], PH s r, false⟩ k) h' hI')
    | some ds =>
      obtain ⟨e, h'⟩ := h.write x.key x.off ds
      have hI' := hI _ _ _ h' (by omega)
      have hl := hds ds hd
      refine condF (nilsF hd) (condT (islT hd) ?_)
      refine condF (kindF k0) (condF (kindF k1) (condT (kindT k2) ?_))
      rw [dataL hd]
      refine condT dataU ?_
      by_cases hz : ds.length = 0
      · obtain rfl : ds = [] := List.eq_nil_of_length_eq_zero hz
        refine condT rfl ⟨s, x.key, x.off, [], rfl, WR_at _ _ _ _ [] rfl rfl rfl, h.ok, by simp, r, x.key, x.off, some [], rfl, rfl, h.og, by simp, ?_⟩
        refine condT beqI (condT beqI (condT beqI (condT beqI (condT beqU (condT beqI (condT beqI (condT beqI (condT beqI (condT beqI (condT beqI (condT beqU (condT beqU (condT beqU ?_)))))))))))))
        exact condF (eqZ e) (tailD (I := fun s r => resPS (S F) (T6 F) N 9 fuel 6 2 0 [(p7, fuel)] p6 n ⟨L7 (row encSt l) ii 0, [], PH s r, false⟩ k) h' hI')
      · refine condF (decide_eq_false (by rw [row_length]; omega)) (condT (by simp; omega) ⟨s, x.key, x.off, ds, by rw [Nat.zero_add, Nat.one_mul, row_length]; rfl, WR_at _ _ _ _ ds rfl rfl rfl, h.ok, by omega, r, x.key, x.off, some ds, rfl, rfl, h.og, (show ds.length < 1000 by omega), ?_⟩)
        refine condT beqI (condT beqI (condT beqI (condT beqI (condT beqU (condT beqI (condT beqI (condT beqI (condT beqI (condT beqI (condT beqI (condT beqU (condT beqU (condT beqU ?_)))))))))))))
        exact condF (eqZ e) (tailD (I := fun s r => resPS (S F) (T6 F) N 9 fuel 6 2 0 [(p7, fuel)] p6 n ⟨L7 (row encSt l) ii 0, [], PH s r, false⟩ k) h' hI')
  by_cases k3 : x.kind = 3
  · have h' := h.clean x.key
    have hI' := hI _ _ _ h' (by omega)
    cases hd : x.data
    all_goals first
      | refine condT (nilsT hd) ?_
      | refine condF (nilsF hd) (condT (islT hd) ?_)
    all_goals
      refine condF (kindF k0) (condF (kindF k1) (condF (kindF k2) (condT (kindT k3) ⟨s, x.key, rfl, rfl, h.ok, r, x.key, rfl, rfl, h.og, ?_⟩)))
      exact (tailD (I := fun s r => resPS (S F) (T6 F) N 9 fuel 6 2 0 [(p7, fuel)] p6 n ⟨L7 (row encSt l) ii 0, [], PH s r, false⟩ k) h' hI')
  by_cases k4 : x.kind = 4
  · obtain ⟨e, h'⟩ := h.forget' x.key
    have hI' := hI _ _ _ h' (by omega)
    cases hd : x.data
    all_goals first
      | refine condT (nilsT hd) ?_
      | refine condF (nilsF hd) (condT (islT hd) ?_)
    all_goals
      refine condF (kindF k0) (condF (kindF k1) (condF (kindF k2) (condF (kindF k3) (condT (kindT k4) ⟨s, x.key, rfl, rfl, h.ok, r, x.key, rfl, rfl, h.og, ?_⟩))))
      refine condT beqI ?_
      exact condF (eqB e) (tailD (I := fun s r => resPS (S F) (T6 F) N 9 fuel 6 2 0 [(p7, fuel)] p6 n ⟨L7 (row encSt l) ii 0, [], PH s r, false⟩ k) h' hI')
  by_cases k5 : x.kind = 5
  · cases hd : x.data
    all_goals first
      | refine condT (nilsT hd) ?_
      | refine condF (nilsF hd) (condT (islT hd) ?_)
    all_goals
      refine condF (kindF k0) (condF (kindF k1) (condF (kindF k2) (condF (kindF k3) (condF (kindF k4) (condT (kindT k5) ⟨s.fs, s.hand, x.frame, rfl, rfl, r.fs, x.frame, rfl, rfl, ?_⟩)))))
      refine condT beqI (condT beqI (condT beqI ?_))
      rcases h.pins hb x.frame true with ⟨e1, e2⟩ | ⟨fs, e1, e2, h'⟩
      · rw [e1, e2]
        have h' := h
        have hI' := hI _ _ _ h' (by omega)
        exact condF rfl (tailD (I := fun s r => resPS (S F) (T6 F) N 9 fuel 6 2 0 [(p7, fuel)] p6 n ⟨L7 (row encSt l) ii 0, [], PH s r, false⟩ k) h' hI')
      · rw [e1, e2]
        have hI' := hI _ _ _ h' (by omega)
        exact condF rfl (tailD (I := fun s r => resPS (S F) (T6 F) N 9 fuel 6 2 0 [(p7, fuel)] p6 n ⟨L7 (row encSt l) ii 0, [], PH s r, false⟩ k) h' hI')
  by_cases k6 : x.kind = 6
  · cases hd : x.data
    all_goals first
      | refine condT (nilsT hd) ?_
      | refine condF (nilsF hd) (condT (islT hd) ?_)
    all_goals
      refine condF (kindF k0) (condF (kindF k1) (condF (kindF k2) (condF (kindF k3) (condF (kindF k4) (condF (kindF k5) (condT (kindT k6) ⟨s.fs, s.hand, x.frame, rfl, rfl, r.fs, x.frame, rfl, rfl, ?_⟩))))))
      refine condT beqI (condT beqI (condT beqI ?_))
      rcases h.pins hb x.frame false with ⟨e1, e2⟩ | ⟨fs, e1, e2, h'⟩
      · rw [e1, e2]
        have h' := h
        have hI' := hI _ _ _ h' (by omega)
        exact condF rfl (tailD (I := fun s r => resPS (S F) (T6 F) N 9 fuel 6 2 0 [(p7, fuel)] p6 n ⟨L7 (row encSt l) ii 0, [], PH s r, false⟩ k) h' hI')
      · rw [e1, e2]
        have hI' := hI _ _ _ h' (by omega)
        exact condF rfl (tailD (I := fun s r => resPS (S F) (T6 F) N 9 fuel 6 2 0 [(p7, fuel)] p6 n ⟨L7 (row encSt l) ii 0, [], PH s r, false⟩ k) h' hI')
  have h' := h
  have hI' := hI _ _ _ h' (by omega)
  cases hd : x.data
  all_goals first
    | refine condT (nilsT hd) ?_
    | refine condF (nilsF hd) (condT (islT hd) ?_)
  all_goals
    refine condF (kindF k0) (condF (kindF k1) (condF (kindF k2) (condF (kindF k3) (condF (kindF k4) (condF (kindF k5) (condF (kindF k6) (?_)))))))
    exact (tailD (I := fun s r => resPS (S F) (T6 F) N 9 fuel 6 2 0 [(p7, fuel)] p6 n ⟨L7 (row encSt l) ii 0, [], PH s r, false⟩ k) h' hI')
end Go.Proofs.YtlnbbgagccgnjaaDoor
/- FramesPlay: the law's own trees.
-/
namespace Go.Proofs.YtlnbbgagccgnjaaDoor
open Go Go.X
variable {F : Nat}
theorem start6 (N fuel : Nat) (n : Int) (l : List Stp) (k : AV → Heap → Bool → Prop) :
 (runP (S F) (T6 F) N 9 fuel 6 [.int .i64 n, .isl 6 (row encSt l)] [] k) =
 ((∃ (a0 : AV),
 ∃ (l1 : List Stp),
 And (a0 = AV.nils ∧ l1 = [] ∨ a0 = AV.isl 6 (row encSt l1))
 (And ([AV.isl 6 (row encSt l)] = [a0])
 (And (([] : Heap) = [])
 (And (List.length l1 ≤ F)
 (And (List.length l1 < 9223372036854775808)
 (∀ (b2 : Bool),
 (b2 = true → List.length l1 ≤ 150 ∧ ∀ (x : Stp), x ∈ l1 → ∀ (ds : List Int), Stp.data x = some ds → List.length ds ≤ 100) →
 cond (!b2)
 (And (([] : List AV) = [])
 (k (AV.bool true) [] false))
 (∃ (n3 : Int),
 And ([AV.int IntKind.i64 n] = [AV.int IntKind.i64 n3])
 (And (([] : Heap) = [])
 (And ((n3 < 1 ∨ n3 > 16) →
 ∃ (n4 : Int),
 And ([AV.int IntKind.i64 n] = [AV.int IntKind.i64 n4])
 (And (([] : Heap) = [])
 (And ((n4 < 1 ∨ n4 > 16) →
 resPS (S F) (T6 F) N 9 fuel 6 2 0 [] p6 fuel (St.mk (L6 AV.nilp AV.nilp (row encSt l) 0) [] [] false) k)
 ((1 ≤ n4 ∧ n4 ≤ 16) →
 k (AV.bool false) [] false))))
 ((1 ≤ n3 ∧ n3 ≤ 16) →
 ∃ (n5 : Int),
 And ([AV.int IntKind.i64 n] = [AV.int IntKind.i64 n5])
 (And (([] : Heap) = [])
 (And ((n5 < 1 ∨ n5 > 16) →
 k (AV.bool false) [] false)
 ((1 ≤ n5 ∧ n5 ≤ 16) →
 resPS (S F) (T6 F) N 9 fuel 6 2 0 [] p6 fuel (St.mk (L6 (AV.ptr (Pl.mk 4 0 [] 3)) (AV.ptr (Pl.mk 9 0 [] 2)) (row encSt l) 0) [] (PH (FS.mk (List.replicate (Int.toNat n3) fr0) 0 (List.replicate (Int.toNat n3) pg0) (List.replicate (Int.toNat n3) (Ar.zero 8))) (RS.mk (List.replicate (Int.toNat n5) fr0) (List.replicate (Int.toNat n5) hd0))) false) k))))))))))))) : Prop) := by kernel_rfl
theorem nil6 (N fuel : Nat) (n : Int) (k : AV → Heap → Bool → Prop) :
 (runP (S F) (T6 F) N 9 (fuel + 1) 6 [.int .i64 n, .nils] [] k) =
 ((∃ (a0 : AV),
 ∃ (l1 : List Stp),
 And (a0 = AV.nils ∧ l1 = [] ∨ a0 = AV.isl 6 (row encSt l1))
 (And ([AV.nils] = [a0])
 (And (([] : Heap) = [])
 (And (List.length l1 ≤ F)
 (And (List.length l1 < 9223372036854775808)
 (∀ (b2 : Bool),
 (b2 = true → List.length l1 ≤ 150 ∧ ∀ (x : Stp), x ∈ l1 → ∀ (ds : List Int), Stp.data x = some ds → List.length ds ≤ 100) →
 cond (!b2)
 (And (([] : List AV) = [])
 (k (AV.bool true) [] false))
 (∃ (n3 : Int),
 And ([AV.int IntKind.i64 n] = [AV.int IntKind.i64 n3])
 (And (([] : Heap) = [])
 (And ((n3 < 1 ∨ n3 > 16) →
 ∃ (n4 : Int),
 And ([AV.int IntKind.i64 n] = [AV.int IntKind.i64 n4])
 (And (([] : Heap) = [])
 (And ((n4 < 1 ∨ n4 > 16) →
 And (([] : List AV) = [])
 (k (AV.bool true) [] false))
 ((1 ≤ n4 ∧ n4 ≤ 16) →
 k (AV.bool false) [] false))))
 ((1 ≤ n3 ∧ n3 ≤ 16) →
 ∃ (n5 : Int),
 And ([AV.int IntKind.i64 n] = [AV.int IntKind.i64 n5])
 (And (([] : Heap) = [])
 (And ((n5 < 1 ∨ n5 > 16) →
 k (AV.bool false) [] false)
 ((1 ≤ n5 ∧ n5 ≤ 16) →
 And (([] : List AV) = [])
 (k (AV.bool true) [] false)))))))))))))) : Prop) := by kernel_rfl
theorem none6 (N fuel n : Nat) (l : List Stp) (i : Int) (k : AV → Heap → Bool → Prop) :
 (resPS (S F) (T6 F) N 9 fuel 6 2 0 [] p6 (n + 1) ⟨L6 .nilp .nilp (row encSt l) i, [], [], false⟩ k) =
 ((cond (decide (i < (↑(List.length (row encSt l)) : Int)))
 (And (([] : List AV) = [])
 (k (AV.bool true) [] false))
 (And (([] : List AV) = [])
 (k (AV.bool true) [] false))) : Prop) := by kernel_rfl
end Go.Proofs.YtlnbbgagccgnjaaDoor
/-
  FramesKeep: a round.
-/
namespace Go.Proofs.YtlnbbgagccgnjaaDoor
open Go Go.X
variable {F : Nat}
theorem data_cond {d : Option (List Int)} {A : Prop} (h : A) : cond (AV.isNils (dataAV d)) A (cond (AV.isIslN (dataAV d) 1) A False) := by
  cases d <;> exact h
theorem emod_nat (a : Int) (m : Nat) (h : 0 < m) : ∃ j : Nat, a % m = j ∧ j < m := ⟨(a % m).toNat, by have := Int.emod_nonneg a (show (m : Int) ≠ 0 by omega); omega, by have := Int.emod_lt_of_pos a (show (0 : Int) < m by omega); have := Int.emod_nonneg a (show (m : Int) ≠ 0 by omega); omega⟩
theorem Inv.was {s : FS} {B C : List (Ar 32)} {D : List Bool} (h : Inv s B C D) {fr key : Int} (hk : keyR s.fs fr = some key) : ∃ w : Nat, key = w ∧ w < 8 := by
  obtain ⟨j, hj, rfl, rfl, hne⟩ := keyR_some hk
  have := h.key j hj
  have := h.uk.low j hj
  exact ⟨s.fs[j].key.toNat, by omega, by omega⟩
/-- The page that a frame had is held no longer. -/
def heldD (D : List Bool) : Option Int → List Bool
  | some w => D.set w.toNat false
  | none => D
theorem heldD_length (D : List Bool) (x : Option Int) : (heldD D x).length = D.length := by cases x <;> simp [heldD]
theorem heldD_get {D : List Bool} {x : Option Int} {k : Nat} (hx : ∀ w, x = some w → 0 ≤ w) (h : k < (heldD D x).length) : (heldD D x)[k] = if x = some (k : Int) then false else D[k]'(by rwa [heldD_length] at h) := by
  cases x with
  | none => simp [heldD]
  | some w =>
    have := hx w rfl
    simp only [heldD, List.getElem_set, Option.some.injEq]
    by_cases hw : w = k
    · subst hw; simp
    · have : ¬ (w.toNat = k) := by omega
      simp [hw, this]
theorem Inv.hold {s s' : FS} {B C : List (Ar 32)} {D : List Bool} (h : Inv s B C D) {fn pn : Nat} {p : Ar 32} (hp : pn < 8) (hh : holdR s fn pn p = some s') :
    Inv s' (B.set pn p) (C.set pn p) ((heldD D (keyR s.fs fn)).set pn true) := by
  obtain ⟨h1, h2, h3, _, _, _, h4, h5⟩ := hold_look h.ok h.uk hh
  have hx : ∀ w, keyR s.fs fn = some w → 0 ≤ w := fun w hw => by obtain ⟨w, rfl, _⟩ := h.was hw; omega
  refine ⟨h1, h2, by rw [h3, h.n4], by simp [h.bl], by simp [h.cl], by simp [heldD_length, h.dl], fun j hj => ?_, fun k k1 k2 k3 => ?_⟩
  · rcases h5 j hj with h | ⟨h6, h7⟩
    · omega
    · rw [h7]; exact h.key j h6
  · have hk8 : k < 8 := by simpa [h.bl] using k1
    have e := h4 k (by omega) (by omega)
    rw [e]
    by_cases hkp : k = pn
    · subst hkp
      simp
    · have hne : ¬ ((k : Int) = (pn : Int)) := by omega
      have hne' : ¬ (pn = k) := by omega
      obtain ⟨a, b⟩ := h.look k (by rw [h.bl]; omega) (by rw [h.cl]; omega) (by rw [h.dl]; omega)
      rw [if_neg hne]
      simp only [List.getElem_set, hne', if_false, heldD_get hx]
      by_cases hkey : keyR s.fs fn = some (k : Int)
      · simp [hkey]
      · simp only [hkey, if_false]
        exact ⟨a, b⟩
theorem lay_one (a : Ar 32) (v : Int) : a.lay 3 [v] = a.set 3 v := by
  refine Ar.ext fun i hi => ?_
  unfold Ar.lay
  rw [Ar.of_get hi, Ar.set_get _ _ hi]
  by_cases h : i = 3
  · subst h; simp
  · have : ¬ (3 ≤ i ∧ i < 3 + [v].length) := by simp; omega
    rw [if_neg this, if_neg h]
theorem apply_one (a : Ar 32) (v : Int) : applyA a 3 [v] = some (a.set 3 v) := by
  unfold applyA
  rw [if_neg (by simp)]
  rw [← lay_one]
  rfl
theorem Inv.write {s s' : FS} {B C : List (Ar 32)} {D : List Bool} (h : Inv s B C D) {pn : Nat} {v : Int} (hp : pn < 8) (hC : pn < C.length) {p : Pg} (hpg : pgR s pn = some p)
    (h1 : OkS s') (h2 : UK s'.fs) (h3 : s'.fs.length = s.fs.length) (h5 : ∀ j (hj : j < s'.fs.length), ∃ hj' : j < s.fs.length, s'.fs[j].key = s.fs[j].key)
    (h4 : ∀ b, 0 ≤ b → b < 64 → pgR s' b = if b = (pn : Int) then some ⟨p.base, p.now.set 3 v⟩ else pgR s b) : Inv s' B (C.set pn (C[pn].set 3 v)) D := by
  refine ⟨h1, h2, by rw [h3, h.n4], h.bl, by simp [h.cl], h.dl, fun j hj => ?_, fun k k1 k2 k3 => ?_⟩
  · obtain ⟨h6, h7⟩ := h5 j hj
    rw [h7]; exact h.key j h6
  · have hk8 : k < 8 := by simpa [h.bl] using k1
    obtain ⟨a, b⟩ := h.look k k1 (by rw [h.cl]; omega) k3
    rw [h4 k (by omega) (by omega)]
    by_cases hkp : k = pn
    · subst hkp
      rw [hpg] at a
      obtain ⟨b1, b2⟩ := b p hpg
      simp [← a, b1, b2]
    · have hne : ¬ ((k : Int) = (pn : Int)) := by omega
      have hne' : ¬ (pn = k) := by omega
      rw [if_neg hne]
      simp only [List.getElem_set, hne', if_false]
      exact ⟨a, b⟩
theorem Inv.clean {s : FS} {B C : List (Ar 32)} {D : List Bool} (h : Inv s B C D) {pn : Nat} (hp : pn < 8) (hC : pn < C.length) : Inv (cleanS s pn) (B.set pn C[pn]) C D := by
  obtain ⟨h1, h2, h4⟩ := clean_look h.ok h.uk (a := (pn : Int)) (by omega) (by omega)
  refine ⟨h1, by rw [h2]; exact h.uk, by rw [h2, h.n4], by simp [h.bl], h.cl, h.dl, fun j hj => ?_, fun k k1 k2 k3 => ?_⟩
  · simp only [h2] at hj ⊢
    exact h.key j hj
  · have hk8 : k < 8 := by simpa [h.bl] using k1
    obtain ⟨a, b⟩ := h.look k (by rw [h.bl]; omega) k2 k3
    rw [h4 k (by omega) (by omega)]
    by_cases hkp : k = pn
    · subst hkp
      simp only [if_true]
      cases hpg : pgR s k with
      | none => rw [hpg] at a; simp [← a]
      | some p =>
        rw [hpg] at a
        obtain ⟨b1, b2⟩ := b p hpg
        simp [← a, b2]
    · have hne : ¬ ((k : Int) = (pn : Int)) := by omega
      have hne' : ¬ (pn = k) := by omega
      rw [if_neg hne]
      simp only [List.getElem_set, hne', if_false]
      exact ⟨a, b⟩
theorem opB3 {B : List (Ar 32)} {k : Nat} (h : k < B.length) (hl : B.length = 8) : okPl (.arr 32 (row (encA .u8) B)) [k, 3] (k * 32 + 3) 256 1 = true := okPl_row h (by rw [hl]) (by rw [Nat.mul_comm]; rfl) rfl rfl
theorem Inv.holdClean {s s' : FS} {B C : List (Ar 32)} {D : List Bool} (h : Inv s B C D) {fn pn w : Nat} {p : Ar 32} (hk : keyR s.fs fn = some (w : Int)) (hw : w < 8) (hh : holdR s fn pn p = some s') (hB : w < B.length) (hC : w < C.length) : B[w] = C[w] := by
  obtain ⟨_, _, _, _, _, hd, _⟩ := hold_look h.ok h.uk hh
  obtain ⟨q, hq, hq'⟩ := dirty_key h.ok h.uk hk (by omega) (by omega)
  obtain ⟨_, b⟩ := h.look w hB hC (by rw [h.dl]; exact hw)
  obtain ⟨b1, b2⟩ := b q hq
  rw [← b1, ← b2]
  by_cases hc : q.base = q.now
  · exact hc
  · rw [hq'.2 hc] at hd; cases hd
theorem stepK0 (N fuel n ii : Nat) (l : List Stp) (s : FS) (B C : List (Ar 32)) (D : List Bool) (k : AV → Heap → Bool → Prop) (h : Inv s B C D) (hf : 8 < fuel) (hi : ii < l.length) (hb : l.length < 2 ^ 63)
    (hk : ∀ s' B' C' D', Inv s' B' C' D' → resPS (S F) (T4 F) N 9 fuel 3 1 0 [] pO n ⟨LT (row encSt l) (IntKind.wrap IntKind.i64 (ii + 1)), [], LMr s' B' C' D', false⟩ k) :
    resPS (S F) (T4 F) N 9 fuel 3 1 0 [] pO (n + 1) ⟨LT (row encSt l) ii, [], LMr s B C D, false⟩ k := by
  have hend : ∀ s' B' C' D', Inv s' B' C' D' → resPS (S F) (T4 F) N 9 fuel 3 1 0 [(p1, fuel)] pO n ⟨LI (row encSt l) ii 0, [], LMr s' B' C' D', false⟩ k :=
    fun s' B' C' D' hv => loopBB (F := F) N fuel n l ii s' B' C' D' k hv hf (hk s' B' C' D' hv) 8 0 fuel (by omega) hf
  have e1 : ((ii : Int) < (l.length : Int)) := by omega
  obtain ⟨pn, hpn, hp8⟩ := emod_nat l[ii].key 8 (by omega)
  obtain ⟨fn, hfn, hf4⟩ := emod_nat l[ii].frame 4 (by omega)
  have hpn' : l[ii].key % 8 = pn := hpn
  have hfn' : l[ii].frame % 4 = fn := hfn
  have hB : pn < B.length := by rw [h.bl]; exact hp8
  have hC : pn < C.length := by rw [h.cl]; exact hp8
  have hD : pn < D.length := by rw [h.dl]; exact hp8
  rw [stepA]
  simp only [row_length, e1, decide_true, cond_true, Int.natCast_nonneg, Int.toNat_natCast, row_get hi, Option.getD_some, encSt, AV.isAggN, AV.part, AV.isIntK, AV.toInt, List.length_cons, List.length_nil, List.getElem?_cons_succ, List.getElem?_cons_zero, beq_self_eq_true, Bool.and_self]
  refine data_cond ?_
  refine ⟨l[ii].key, 8, rfl, by simp, .inl rfl, l[ii].frame, 4, rfl, by simp, .inr rfl, ?_⟩
  rw [hpn', hfn']
  by_cases k0 : l[ii].kind = 0
  · simp only [k0, beq_self_eq_true, cond_true]
    refine ⟨s.fs, s.hand, fn, rfl, rfl, ?_⟩
    cases hkey : keyR s.fs fn with
    | none =>
      simp only [Option.isSome_none, cond_false]
      refine ⟨l[ii].v, rfl, by simp, s, fn, pn, leafA l[ii].v, rfl, rfl, h.ok, ?_⟩
      cases hh : holdR s fn pn (leafA l[ii].v) with
      | none => exact hend _ _ _ _ h
      | some s' =>
        have hv := h.hold hp8 hh
        rw [hkey] at hv
        have hr := hend _ _ _ _ hv
        simp only [heldD, Int.toNat_natCast] at hr
        simpa [hp8, opD hD h.dl, opB hB h.bl, opB hC h.cl, AV.beq, arr_get, row_set] using hr
    | some was =>
      obtain ⟨w, rfl, hw8⟩ := h.was hkey
      have hwB : w < B.length := by rw [h.bl]; exact hw8
      have hwC : w < C.length := by rw [h.cl]; exact hw8
      have hwD : w < D.length := by rw [h.dl]; exact hw8
      have g1 : ¬ ((w : Int) < 0) := by omega
      have g2 : ¬ ((w : Int) ≥ 8) := by omega
      simp only [Option.isSome_some, Option.getD_some, cond_true, g1, g2, decide_false, cond_false]
      refine ⟨l[ii].v, rfl, by simp, s, fn, pn, leafA l[ii].v, rfl, rfl, h.ok, ?_⟩
      simp only [Int.natCast_nonneg, Int.toNat_natCast, decide_true, cond_true, hw8, Nat.zero_add, okB hwB h.bl, prB hwB, okB hwC h.cl, prB hwC, isArrI_encA, arI_encA, eqPg, Option.isSome_some, Option.getD_some]
      cases hh : holdR s fn pn (leafA l[ii].v) with
      | none => by_cases hbc : B[w] = C[w] <;> simpa [hbc] using hend _ _ _ _ h
      | some s' =>
        have hbc := h.holdClean hkey hw8 hh hwB hwC
        have hv := h.hold hp8 hh
        rw [hkey] at hv
        have hr := hend _ _ _ _ hv
        simp only [heldD, Int.toNat_natCast] at hr
        have hD' : pn < (D.set w false).length := by simpa using hD
        simpa [hbc, hp8, opD hwD h.dl, opD hD' (by simp [h.dl]), opB hB h.bl, opB hC h.cl, AV.beq, arr_get, row_set] using hr
  have n0 : (l[ii].kind == 0) = false := by simpa using k0
  simp only [n0, cond_false]
  by_cases k2 : l[ii].kind = 2
  · simp only [k2, beq_self_eq_true, cond_true]
    refine ⟨s, pn, 3, [l[ii].v], rfl, rfl, h.ok, by simp, ?_⟩
    simp only [Int.natCast_nonneg, Int.toNat_natCast, decide_true, cond_true, hp8, Nat.zero_add, Nat.mul_one, okD hD h.dl, prD hD, AV.isBoolV, AV.toBool, opB3 hC h.cl, row_elem hC, setElem_encA, row_set]
    obtain ⟨a, b⟩ := h.look pn hB hC hD
    cases hpg : pgR s pn with
    | none =>
      rw [hpg] at a
      have hw := write_none (off := 3) (ds := [l[ii].v]) h.ok (a := (pn : Int)) (by omega) (by omega) hpg
      rw [hw, ← a]
      exact hend _ _ _ _ h
    | some p =>
      rw [hpg] at a
      obtain ⟨s', hw, w1, w2, w3, w4, w5⟩ := write_look h.ok h.uk (a := (pn : Int)) (off := 3) (ds := [l[ii].v]) (by omega) (by omega) hpg (apply_one p.now l[ii].v)
      rw [hw, ← a]
      exact hend _ _ _ _ (h.write hp8 hC hpg w1 w2 w3 w4 w5)
  have n2 : (l[ii].kind == 2) = false := by simpa using k2
  simp only [n2, cond_false]
  by_cases k3 : l[ii].kind = 3
  · simp only [k3, beq_self_eq_true, cond_true]
    have hr := hend _ _ _ _ (h.clean hp8 hC)
    refine ⟨s, pn, rfl, rfl, h.ok, ?_⟩
    simpa [hp8, okB hC h.cl, prB hC, opB hB h.bl, arr_get, row_set] using hr
  have n3 : (l[ii].kind == 3) = false := by simpa using k3
  simp only [n3, cond_false]
  exact hend _ _ _ _ h
end Go.Proofs.YtlnbbgagccgnjaaDoor
/-
  Tells functions, one by one; a law whose rounds hang on what comes in.
-/
namespace Go.X
open Classical
/-- A function is told so, from a depth on. -/
def Tells (S : Setg) (f : FuncId) (t : PT) (N : Nat) : Prop := ∀ n, N ≤ n → ∀ args H k, t args H k → match S.mode f with
  | 3 => (S.K0 f args H).elim False fun r => k r.1 r.2.1 r.2.2
  | _ => (evalF S.P S.U S.ann S.fu (evalL S n) f args H).elim False fun r => k r.1 r.2.1 r.2.2
theorem Tells.mono {S : Setg} {f : FuncId} {t : PT} {N M : Nat} (h : Tells S f t N) (hN : N ≤ M) : Tells S f t M := fun n hn => h n (by omega)
theorem PTab.cons {S : Setg} {T : FuncId → Option PT} {N : Nat} (hT : PTab S T N) {g : FuncId} {t : PT} (hg : Tells S g t N) : PTab S (fun f => if f = g then some t else T f) N := by
  intro f u hu
  by_cases hf : f = g
  · subst hf
    simp only [if_true, Option.some.injEq] at hu
    subst hu
    exact hg
  · simp only [if_neg hf] at hu
    exact hT f u hu
/-- By its text, with a table. -/
theorem PTab.told {S : Setg} {T : FuncId → Option PT} {N : Nat} (hT : PTab S T N) {g : FuncId} {t : PT} (D : Nat) (hm : (S.mode g == 3) = false)
    (h : ∀ N' args H k, t args H k → runP S T N' D S.fu g args H k) : Tells S g t (D + N) := by
  have h1 := hT.add D hm (fun N' _ => h N')
  exact h1 g t (by simp)
theorem Tells.given {S : Setg} {g : FuncId} {t : PT} (hm : S.mode g = 3) (h : ∀ args H k, t args H k → (S.K0 g args H).elim False fun r => k r.1 r.2.1 r.2.2) (N : Nat) : Tells S g t N := by
  intro n _ args H k hk
  rw [hm]
  exact h args H k hk
/-- What some sound oracle finds true. -/
noncomputable def Ktrue (P : Program) (G : Nat → Option AV) : Oracle := fun f args H =>
  if h : ∃ (K : Oracle) (H' : Heap) (e : Bool), (∀ B, OracleSound P B G K) ∧ K f args H = some (.bool true, H', e) then
    some (.bool true, h.choose_spec.choose, h.choose_spec.choose_spec.choose) else none
theorem Ktrue_sound (P : Program) (G : Nat → Option AV) (B : Nat) : OracleSound P B G (Ktrue P G) := by
  intro f args H v H' e h
  unfold Ktrue at h
  split at h
  · rename_i hx
    simp only [Option.some.injEq, Prod.mk.injEq] at h
    obtain ⟨rfl, rfl, rfl⟩ := h
    have hs := hx.choose_spec.choose_spec.choose_spec
    exact hs.1 B f args H _ _ _ hs.2
  · cases h
theorem Ktrue_of {P : Program} {G : Nat → Option AV} {K : Oracle} (hK : ∀ B, OracleSound P B G K) {f : FuncId} {args : List AV} {H H' : Heap} {e : Bool} (h : K f args H = some (.bool true, H', e)) :
    ∃ H' e, Ktrue P G f args H = some (.bool true, H', e) := by
  have hx : ∃ (K : Oracle) (H' : Heap) (e : Bool), (∀ B, OracleSound P B G K) ∧ K f args H = some (.bool true, H', e) := ⟨K, H', e, hK, h⟩
  unfold Ktrue
  rw [dif_pos hx]
  exact ⟨_, _, rfl⟩
/-- The law's run, in some setting. -/
theorem PTab.law' {S : Setg} (hS : S.Ok) {T : FuncId → Option PT} {N : Nat} (hT : PTab S T N) {f : FuncId} (D : Nat) (hm : S.mode f = 0) {vs : List AV}
    (h : runP S T N D S.fu f vs [] fun v _ _ => v = .bool true) : ∃ H' e, Ktrue S.P S.U.G f vs [] = some (.bool true, H', e) := by
  obtain ⟨H', e, he⟩ := hT.law D hm h
  exact Ktrue_of (fun B => evalL_ok hS _ B) he
end Go.X
/-
  FramesKeep: the law's run is true, for all steps.
-/
namespace Go.Proofs.YtlnbbgagccgnjaaDoor
open Go Go.X
variable {F : Nat}
set_option maxRecDepth 100000
/-! The tables hold. -/
theorem P1 : PTab (S F) T1 0 := PTab.none
theorem told45 : Tells (S F) 45 t45 9 := P1.told 9 rfl fun N => find45 N
theorem told12 : Tells (S F) 12 t12 9 := P1.told 9 rfl fun N => key12 N
theorem told41 : Tells (S F) 41 t41 30 := P1.told 30 rfl fun N => apply41 N
theorem told14 : Tells (S F) 14 t14 9 := P1.told 9 rfl fun N => leaf14 N
theorem told9 : Tells (S F) 9 (t9 F) 9 := P1.told 9 rfl fun N => fair9 N
theorem told11 : Tells (S F) 11 t11 9 := P1.told 9 rfl fun N => mod11 N
theorem told36 : Tells (S F) 36 t36 9 := P1.told 9 rfl fun N => new36 N
theorem told44 (N : Nat) : Tells (S F) 44 t44 N := Tells.given rfl sort44 N
theorem told10 (N : Nat) : Tells (S F) 10 t10 N := Tells.given rfl wakes10' N
theorem P2 : PTab (S F) T2 9 := ((P1.mono (by omega)).cons told45).cons told12
theorem told43 : Tells (S F) 43 t43 18 := P2.told 9 rfl fun N => dirty43 N
theorem told16 : Tells (S F) 16 t16 18 := P2.told 9 rfl fun N => clean16 N
theorem told17 : Tells (S F) 17 t17 18 := P2.told 9 rfl fun N => page17 N
theorem P36 : PTab (S F) T36 9 := (P1.mono (by omega)).cons told36
theorem told7 : Tells (S F) 7 t7 18 := P36.told 9 rfl fun N => new7 N
theorem P3 : PTab (S F) T3 30 := (((((((P1.mono (by omega)).cons (told10 30)).cons (told44 30)).cons (told14.mono (by omega))).cons told41).cons (told43.mono (by omega))).cons (told45.mono (by omega))).cons (told12.mono (by omega))
theorem told13 : Tells (S F) 13 t13 39 := P3.told 9 rfl fun N => hold13 N
theorem told15 : Tells (S F) 15 t15 39 := P3.told 9 rfl fun N => write15 N
theorem told18 : Tells (S F) 18 t18 39 := P3.told 9 rfl fun N => dirty18 N
theorem P4 : PTab (S F) (T4 F) 39 := (((((((P3.mono (by omega)).cons told18).cons (told17.mono (by omega))).cons (told16.mono (by omega))).cons told15).cons told13).cons (told7.mono (by omega))).cons (told11.mono (by omega)) |>.cons (told9.mono (by omega))
/-! The law. -/
theorem Inv0 : Inv (fs0 4) (List.replicate 8 (Ar.zero 32)) (List.replicate 8 (Ar.zero 32)) (List.replicate 8 false) := by
  have hk : ∀ j (hj : j < (fs0 4).fs.length), (fs0 4).fs[j].key = -1 := fun j hj => by
    have : (fs0 4).fs[j] = fr0 := List.getElem_replicate ..
    rw [this]; rfl
  have hn : ∀ x : Int, 0 ≤ x → x < 64 → pgR (fs0 4) x = none := fun x h0 h1 => by
    rw [pgR_eq h0 h1]
    cases hf : fR x (fs0 4).fs with
    | none => rfl
    | some j =>
      have h2 := fR_key hf (fR_lt hf)
      rw [hk] at h2
      omega
  refine ⟨⟨by simp [fs0], by simp [fs0], by simp [fs0]⟩, ⟨fun i j hi hj h1 h2 => absurd (hk i hi) h2, fun i hi => by rw [hk i hi]; omega⟩, by simp [fs0], by simp, by simp, by simp, fun j hj => by rw [hk j hj]; omega, fun k h1 h2 h3 => ?_⟩
  have : k < 8 := by simpa using h1
  rw [hn k (by omega) (by omega), List.getElem_replicate]
  exact ⟨rfl, fun p hp => by cases hp⟩
theorem rounds (N : Nat) (l : List Stp) (k : AV → Heap → Bool → Prop) (hb : l.length < 2 ^ 63) (hk : ∀ H, k (.bool true) H false) : ∀ (d ii n : Nat) (s : FS) (B C : List (Ar 32)) (D : List Bool), ii + d = l.length → d < n → Inv s B C D →
    resPS (S F) (T4 F) N 9 (S F).fu 3 1 0 [] pO n ⟨LT (row encSt l) ii, [], LMr s B C D, false⟩ k
  | d, ii, 0, s, B, C, D, _, hn, _ => by omega
  | 0, ii, n + 1, s, B, C, D, hd, _, h => by
    rw [stepA]
    have e1 : ¬ ((ii : Int) < (l.length : Int)) := by omega
    simp only [row_length, e1, decide_false, cond_false]
    exact ⟨by simp, hk _⟩
  | d + 1, ii, n + 1, s, B, C, D, hd, hn, h => by
    have hw : IntKind.wrap IntKind.i64 ((ii : Int) + 1) = ((ii + 1 : Nat) : Int) := wrapB (by omega)
    refine stepK0 (F := F) N (S F).fu n ii l s B C D k h (by rw [S_fu]; omega) (by omega) hb fun s' B' C' D' hv => ?_
    rw [hw]
    exact rounds N l k hb hk d (ii + 1) n s' B' C' D' (by omega) (by omega) hv
theorem keep3 (N : Nat) (l : List Stp) (hF : l.length ≤ F) (hb : l.length < 2 ^ 63) : runP (S F) (T4 F) N 9 (S F).fu 3 [.isl 6 (row encSt l)] [] fun v _ _ => v = .bool true := by
  rw [start3]
  refine ⟨4, rfl, rfl, fun h => by omega, fun _ => ⟨_, l, .inr rfl, rfl, rfl, hF, hb, fun b hl => ?_⟩⟩
  cases b with
  | false => exact ⟨rfl, rfl⟩
  | true =>
    have h1 := rounds (F := F) N l (fun v _ _ => v = .bool true) hb (fun _ => rfl) l.length 0 (S F).fu _ _ _ _ (by omega) (by have := (hl rfl).1; rw [S_fu]; omega) Inv0
    exact h1
theorem keep3n (N : Nat) : runP (S F) (T4 F) N 9 (S F).fu 3 [.nils] [] fun v _ _ => v = .bool true := by
  rw [S_fu, start3n]
  refine ⟨4, rfl, rfl, fun h => by omega, fun _ => ⟨_, [], .inl ⟨rfl, rfl⟩, rfl, rfl, by simp, by simp, fun b hl => ?_⟩⟩
  cases b <;> exact ⟨rfl, rfl⟩
theorem runKeep (l : List Stp) (hb : l.length < 2 ^ 63) : ∃ H' e, Ktrue Tryd.prog U.G 3 [.isl 6 (row encSt l)] [] = some (.bool true, H', e) :=
  (P4 (F := l.length)).law' okS 9 rfl (keep3 39 l (Nat.le_refl _) hb)
theorem runKeepN : ∃ H' e, Ktrue Tryd.prog U.G 3 [.nils] [] = some (.bool true, H', e) :=
  (P4 (F := 0)).law' okS 9 rfl (keep3n 39)
end Go.Proofs.YtlnbbgagccgnjaaDoor
/-
  FramesPlay: the law's run is true, for all steps.
-/
namespace Go.Proofs.YtlnbbgagccgnjaaDoor
open Go Go.X
variable {F : Nat}
set_option maxRecDepth 100000
/-! The tables hold. -/
theorem told19 : Tells (S F) 19 t19 18 := P2.told 9 rfl fun N => map19 N
theorem told21 : Tells (S F) 21 t21 18 := P2.told 9 rfl fun N => forget21 N
theorem told22 : Tells (S F) 22 t22 18 := P2.told 9 rfl fun N => pin22 N
theorem told30 : Tells (S F) 30 t30 18 := P2.told 9 rfl fun N => unpin30 N
theorem told20 : Tells (S F) 20 t20 39 := P3.told 9 rfl fun N => holdMap20 N
theorem told35 : Tells (S F) 35 t35 9 := P1.told 9 rfl fun N => find35 N
theorem told51 : Tells (S F) 51 t51 9 := P1.told 9 rfl fun N => drop51 N
theorem told50 : Tells (S F) 50 t50 9 := P1.told 9 rfl fun N => touch50 N
theorem told29 : Tells (S F) 29 t29 9 := P1.told 9 rfl fun N => pin29 N
theorem told31 : Tells (S F) 31 t31 9 := P1.told 9 rfl fun N => unpin31 N
theorem told49 : Tells (S F) 49 t49 30 := P1.told 30 rfl fun N => apply49 N
theorem told32 : Tells (S F) 32 t32 9 := P1.told 9 rfl fun N => ints32 N
theorem told47 : Tells (S F) 47 t47 9 := P1.told 9 rfl fun N => new47 N
theorem P47 : PTab (S F) T47 9 := (P1.mono (by omega)).cons told47
theorem told23 : Tells (S F) 23 t23 18 := P47.told 9 rfl fun N => new23 N
theorem PR0 : PTab (S F) TR0 30 := ((((P1.mono (by omega)).cons (told51.mono (by omega))).cons (told50.mono (by omega))).cons told49).cons (told35.mono (by omega))
theorem told34 : Tells (S F) 34 t34 39 := PR0.told 9 rfl fun N => of34 N
theorem told53 : Tells (S F) 53 t53 39 := PR0.told 9 rfl fun N => dirty53 N
theorem told59 : Tells (S F) 59 t59 39 := PR0.told 9 rfl fun N => put59 N
theorem PR1 : PTab (S F) TR1 39 := ((P1.mono (by omega)).cons told59).cons told53
theorem told48 : Tells (S F) 48 t48 48 := PR1.told 9 rfl fun N => hold48 N
theorem PRR : PTab (S F) TR 48 := ((((((((P1.mono (by omega)).cons told48).cons (told59.mono (by omega))).cons (told53.mono (by omega))).cons (told34.mono (by omega))).cons (told51.mono (by omega))).cons (told50.mono (by omega))).cons (told49.mono (by omega))).cons (told35.mono (by omega))
theorem told33 : Tells (S F) 33 t33 57 := PRR.told 9 rfl fun N => dirty33 N
theorem told27 : Tells (S F) 27 t27 57 := PRR.told 9 rfl fun N => clean27 N
theorem told28 : Tells (S F) 28 t28 57 := PRR.told 9 rfl fun N => forget28 N
theorem told24 : Tells (S F) 24 t24 57 := PRR.told 9 rfl fun N => holdP24 N
theorem told25 : Tells (S F) 25 t25 57 := PRR.told 9 rfl fun N => holdM25 N
theorem told26 : Tells (S F) 26 t26 57 := PRR.told 9 rfl fun N => write26 N
theorem P6 : PTab (S F) (T6 F) 57 :=
  (P3.mono (by omega)).cons (told32.mono (by omega)) |>.cons (told35.mono (by omega)) |>.cons (told34.mono (by omega)) |>.cons told33 |>.cons (told31.mono (by omega)) |>.cons (told29.mono (by omega))
    |>.cons told28 |>.cons told27 |>.cons told26 |>.cons told25 |>.cons told24 |>.cons (told23.mono (by omega))
    |>.cons (told30.mono (by omega)) |>.cons (told22.mono (by omega)) |>.cons (told21.mono (by omega)) |>.cons (told20.mono (by omega)) |>.cons (told19.mono (by omega)) |>.cons (told18.mono (by omega)) |>.cons (told17.mono (by omega)) |>.cons (told16.mono (by omega)) |>.cons (told15.mono (by omega)) |>.cons (told13.mono (by omega)) |>.cons (told7.mono (by omega)) |>.cons (told9.mono (by omega))
/-! The law. -/
theorem rounds6 (N : Nat) (l : List Stp) (k : AV → Heap → Bool → Prop) (hb : l.length ≤ 150) (hds : ∀ x, x ∈ l → ∀ ds, x.data = some ds → ds.length ≤ 100) (hk : ∀ H, k (.bool true) H false) : ∀ (d ii n : Nat) (s : FS) (r : RS), ii + d = l.length → d < n → Rel s r ii →
    resPS (S F) (T6 F) N 9 (S F).fu 6 2 0 [] p6 n ⟨L6 FP QP (row encSt l) ii, [], PH s r, false⟩ k
  | d, ii, 0, s, r, _, hn, _ => by omega
  | 0, ii, n + 1, s, r, hd, _, h => by
    rw [step6]
    exact condF (by rw [row_length]; exact decide_eq_false (by omega)) ⟨rfl, hk _⟩
  | d + 1, ii, n + 1, s, r, hd, hn, h => by
    have hw : IntKind.wrap IntKind.i64 ((ii : Int) + 1) = ((ii + 1 : Nat) : Int) := wrapB (by omega)
    refine stepK6 N (S F).fu n ii l s r ii k h (by omega) (by rw [S_fu]; omega) (by omega) (fun ds h => hds _ (List.getElem_mem _) ds h) fun s' r' hv => ?_
    rw [hw]
    exact rounds6 N l k hb hds hk d (ii + 1) n s' r' (by omega) (by omega) hv
theorem play6 (N : Nat) (m : Int) (l : List Stp) (hF : l.length ≤ F) (hb : l.length < 2 ^ 63) : runP (S F) (T6 F) N 9 (S F).fu 6 [.int .i64 m, .isl 6 (row encSt l)] [] fun v _ _ => v = .bool true := by
  rw [start6]
  refine ⟨_, l, .inr rfl, rfl, rfl, hF, hb, fun b hl => ?_⟩
  cases b with
  | false => exact ⟨rfl, rfl⟩
  | true =>
    refine condF rfl ⟨m, rfl, rfl, fun hm => ⟨m, rfl, rfl, fun _ => ?_, fun hh => by omega⟩, fun hm => ⟨m, rfl, rfl, fun hh => by omega, fun _ => ?_⟩⟩
    · rw [S_fu, none6]
      cases decide ((0 : Int) < ((row encSt l).length : Int))
      · exact condF rfl ⟨rfl, rfl⟩
      · exact condT rfl ⟨rfl, rfl⟩
    · obtain ⟨n, rfl⟩ : ∃ n : Nat, m = n := ⟨m.toNat, by omega⟩
      exact rounds6 N l (fun v _ _ => v = .bool true) (hl rfl).1 (hl rfl).2 (fun _ => rfl) l.length 0 (S F).fu _ _ (by omega) (by rw [S_fu]; omega) (Rel.new (by omega))
theorem play6n (N : Nat) (m : Int) : runP (S F) (T6 F) N 9 (S F).fu 6 [.int .i64 m, .nils] [] fun v _ _ => v = .bool true := by
  rw [S_fu, nil6]
  refine ⟨_, [], .inl ⟨rfl, rfl⟩, rfl, rfl, by simp, by simp, fun b hl => ?_⟩
  cases b with
  | false => exact ⟨rfl, rfl⟩
  | true =>
    exact condF rfl ⟨m, rfl, rfl, fun hm => ⟨m, rfl, rfl, fun _ => ⟨rfl, rfl⟩, fun hh => by omega⟩, fun hm => ⟨m, rfl, rfl, fun hh => by omega, fun _ => ⟨rfl, rfl⟩⟩⟩
theorem runPlay (m : Int) (l : List Stp) (hb : l.length < 2 ^ 63) : ∃ H' e, Ktrue Tryd.prog U.G 6 [.int .i64 m, .isl 6 (row encSt l)] [] = some (.bool true, H', e) :=
  (P6 (F := l.length)).law' okS 9 rfl (play6 57 m l (Nat.le_refl _) hb)
theorem runPlayN (m : Int) : ∃ H' e, Ktrue Tryd.prog U.G 6 [.int .i64 m, .nils] [] = some (.bool true, H', e) :=
  (P6 (F := 0)).law' okS 9 rfl (play6n 57 m)
end Go.Proofs.YtlnbbgagccgnjaaDoor
