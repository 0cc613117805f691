/-
  VictimTwo: two sorted rows merged.
-/
import Derived.Test.YtiiddampachhlaaKag

namespace Go.Proofs.Ytiiddampachhlaa
open Go Go.X
variable {F : Nat}
set_option maxHeartbeats 2000000 in
theorem rotT {P U V Q lv : List Int} {x y z : Int} {K : Heap → Prop} {l : Nat} (hlen : l = (P ++ U ++ V ++ Q).length) (hx : x = P.length) (hy : y = ((P ++ U).length : Nat)) (hz : z = ((P ++ U ++ V).length : Nat)) (hl : (P ++ U ++ V ++ Q).length < 900)
    (hK : K (DH (P ++ V ++ U ++ Q) lv)) {Hx : Heap} (hH : Hx = DH (P ++ U ++ V ++ Q) lv) :
    cond (decide (x < y)) (cond (decide (y < z)) (∃ (P3 : List Int), ∃ (U4 : List Int), ∃ (V5 : List Int), ∃ (Q6 : List Int), ∃ (lv7 : List Int),
      And ([DS l, AV.int IntKind.i64 x, AV.int IntKind.i64 y, AV.int IntKind.i64 z, CMP] = [DS (P3 ++ U4 ++ V5 ++ Q6).length, .int .i64 P3.length, .int .i64 ((P3 ++ U4).length : Nat), .int .i64 ((P3 ++ U4 ++ V5).length : Nat), CMP])
      (And (Hx = DH (P3 ++ U4 ++ V5 ++ Q6) lv7) (And (U4 ≠ []) (And (V5 ≠ []) (And (List.length (P3 ++ U4 ++ V5 ++ Q6) < 1000) (K (DH (P3 ++ V5 ++ U4 ++ Q6) lv7))))))) (K Hx)) (K Hx) := by
  subst hlen hx hy hz hH
  cases U with
  | nil => exact condF (by simp) (by simpa using hK)
  | cons u U =>
    refine condT (by simp; omega) ?_
    cases V with
    | nil => exact condF (by simp) (by simpa using hK)
    | cons v V =>
      refine condT (by simp; omega) ?_
      exact ⟨P, u :: U, v :: V, Q, lv, rfl, rfl, by simp, by simp, by omega, hK⟩
abbrev MG (l d : Nat) (x y z : Int) (K : Heap → Prop) (Hx : Heap) : Prop :=
    cond (decide (x < y)) (cond (decide (y < z)) (∃ (P3 : List Int), ∃ (U4 : List Int), ∃ (V5 : List Int), ∃ (Q6 : List Int), ∃ (lv7 : List Int),
      And ([DS l, AV.int IntKind.i64 x, AV.int IntKind.i64 y, AV.int IntKind.i64 z, CMP] = [DS (P3 ++ U4 ++ V5 ++ Q6).length, .int .i64 P3.length, .int .i64 ((P3 ++ U4).length : Nat), .int .i64 ((P3 ++ U4 ++ V5).length : Nat), CMP])
      (And (Hx = DH (P3 ++ U4 ++ V5 ++ Q6) lv7) (And (U4 ≠ []) (And (V5 ≠ []) (And ((U4 ++ V5).length ≤ d) (And (Srt lv7 U4) (And (Srt lv7 V5) (And (∀ (x : Int), (x ∈ U4 ++ V5) → OkL lv7 x) (And (List.length (P3 ++ U4 ++ V5 ++ Q6) < 900)
        (∀ (W : List Int), (List.Perm W (U4 ++ V5)) → (Srt lv7 W) → K (DH (P3 ++ W ++ Q6) lv7))))))))))) (K Hx)) (K Hx)
set_option maxHeartbeats 2000000 in
theorem mergeT {P U V Q lv : List Int} {x y z : Int} {K : Heap → Prop} {l d : Nat} (hlen : l = (P ++ U ++ V ++ Q).length) (hx : x = P.length) (hy : y = ((P ++ U).length : Nat)) (hz : z = ((P ++ U ++ V).length : Nat)) (hl : (P ++ U ++ V ++ Q).length < 900) (hd : (U ++ V).length ≤ d)
    (sU : Srt lv U) (sV : Srt lv V) (ho : ∀ x, x ∈ U ++ V → OkL lv x) (hK : ∀ W : List Int, W.Perm (U ++ V) → Srt lv W → K (DH (P ++ W ++ Q) lv)) {Hx : Heap} (hH : Hx = DH (P ++ U ++ V ++ Q) lv) :
    MG l d x y z K Hx := by
  subst hlen hx hy hz hH
  cases U with
  | nil => exact condF (by simp) (by have := hK V (by simp) sV; simpa using this)
  | cons u U =>
    refine condT (by simp; omega) ?_
    cases V with
    | nil => exact condF (by simp) (by have := hK (u :: U) (by simp) sU; simpa using this)
    | cons v V =>
      refine condT (by simp; omega) ?_
      exact ⟨P, u :: U, v :: V, Q, lv, rfl, rfl, by simp, by simp, hd, sU, sV, ho, by omega, hK⟩
set_option maxHeartbeats 2000000 in
theorem exit20e (d h : Nat) (lv P U1 U2 V1 V2 Q : List Int) (k : AV → Heap → Bool → Prop) (sU1 : Srt lv U1) (sU2 : Srt lv U2) (sV1 : Srt lv V1) (sV2 : Srt lv V2) (cU : ∀ x, x ∈ U1 → ∀ y, y ∈ U2 → key lv x ≤ key lv y) (cV : ∀ x, x ∈ V1 → ∀ y, y ∈ V2 → key lv x ≤ key lv y)
    (cA : ∀ x, x ∈ U1 → ∀ y, y ∈ V2 → key lv x ≤ key lv y) (cB : ∀ y, y ∈ V1 → ∀ x, x ∈ U2 → key lv y ≤ key lv x) (ho : ∀ x, x ∈ U1 ++ U2 ++ (V1 ++ V2) → OkL lv x) (lh : U1.length + V1.length = h) (hd1 : h ≤ d) (hd2 : U2.length + V2.length ≤ d)
    (hl : P.length + U1.length + U2.length + V1.length + V2.length + Q.length < 900) (hk : ∀ W : List Int, W.Perm (U1 ++ U2 ++ (V1 ++ V2)) → Srt lv W → k (.tuple []) (DH (P ++ W ++ Q) lv) false)
    (a s m mid e b : Int) (ha : a = P.length) (hs : s = (P.length + U1.length : Nat)) (hm : m = (P.length + U1.length + U2.length : Nat)) (hmid : mid = (P.length + h : Nat)) (he : e = (P.length + h + U2.length : Nat)) (hb : b = (P.length + h + U2.length + V2.length : Nat)) :
    cond (decide (s < m)) (cond (decide (m < e)) (∃ (P3 : List Int), ∃ (U4 : List Int), ∃ (V5 : List Int), ∃ (Q6 : List Int), ∃ (lv7 : List Int),
      And ([DS (P ++ (U1 ++ U2) ++ (V1 ++ V2) ++ Q).length, AV.int IntKind.i64 s, AV.int IntKind.i64 m, AV.int IntKind.i64 e, CMP] = [DS (P3 ++ U4 ++ V5 ++ Q6).length, .int .i64 P3.length, .int .i64 ((P3 ++ U4).length : Nat), .int .i64 ((P3 ++ U4 ++ V5).length : Nat), CMP])
      (And (DH (P ++ (U1 ++ U2) ++ (V1 ++ V2) ++ Q) lv = DH (P3 ++ U4 ++ V5 ++ Q6) lv7) (And (U4 ≠ []) (And (V5 ≠ []) (And (List.length (P3 ++ U4 ++ V5 ++ Q6) < 1000) ((MG (P ++ (U1 ++ U2) ++ (V1 ++ V2) ++ Q).length d a s mid (MG (P ++ (U1 ++ U2) ++ (V1 ++ V2) ++ Q).length d mid e b fun H => k (.tuple []) H false)) (DH (P3 ++ V5 ++ U4 ++ Q6) lv7))))))) ((MG (P ++ (U1 ++ U2) ++ (V1 ++ V2) ++ Q).length d a s mid (MG (P ++ (U1 ++ U2) ++ (V1 ++ V2) ++ Q).length d mid e b fun H => k (.tuple []) H false)) (DH (P ++ (U1 ++ U2) ++ (V1 ++ V2) ++ Q) lv)))
      ((MG (P ++ (U1 ++ U2) ++ (V1 ++ V2) ++ Q).length d a s mid (MG (P ++ (U1 ++ U2) ++ (V1 ++ V2) ++ Q).length d mid e b fun H => k (.tuple []) H false)) (DH (P ++ (U1 ++ U2) ++ (V1 ++ V2) ++ Q) lv)) := by
  have e0 : P ++ (U1 ++ U2) ++ (V1 ++ V2) ++ Q = (P ++ U1) ++ U2 ++ V1 ++ (V2 ++ Q) := by simp
  refine rotT (l := (P ++ (U1 ++ U2) ++ (V1 ++ V2) ++ Q).length) (x := s) (y := m) (z := e) (Hx := DH (P ++ (U1 ++ U2) ++ (V1 ++ V2) ++ Q) lv) (P := P ++ U1) (U := U2) (V := V1) (Q := V2 ++ Q) (lv := lv) (K := MG (P ++ (U1 ++ U2) ++ (V1 ++ V2) ++ Q).length d a s mid (MG (P ++ (U1 ++ U2) ++ (V1 ++ V2) ++ Q).length d mid (e) b fun H => k (.tuple []) H false)) (by rw [e0]) (by simp; omega) (by simp; omega) (by simp; omega) (by simp; omega) ?_ (by rw [e0])
  refine mergeT (l := (P ++ (U1 ++ U2) ++ (V1 ++ V2) ++ Q).length) (x := a) (y := s) (z := mid) (d := d) (Hx := DH ((P ++ U1) ++ V1 ++ U2 ++ (V2 ++ Q)) lv) (P := P) (U := U1) (V := V1) (Q := U2 ++ V2 ++ Q) (lv := lv) (K := MG (P ++ (U1 ++ U2) ++ (V1 ++ V2) ++ Q).length d mid (e) b fun H => k (.tuple []) H false) (by simp; omega) ha (by simp; omega) (by simp; omega) (by simp; omega) (by simp; omega) sU1 sV1
    (fun x hx => ho x (by simp at hx ⊢; rcases hx with h | h <;> simp [h])) (fun W1 p1 s1 => ?_) (by simp)
  have lW : W1.length = h := by rw [p1.length_eq, List.length_append, lh]
  refine mergeT (l := (P ++ (U1 ++ U2) ++ (V1 ++ V2) ++ Q).length) (x := mid) (y := e) (z := b) (d := d) (Hx := DH (P ++ W1 ++ (U2 ++ V2 ++ Q)) lv) (P := P ++ W1) (U := U2) (V := V2) (Q := Q) (lv := lv) (K := fun H => k (.tuple []) H false) (by simp; omega) (by simp; omega) (by simp; omega) (by simp; omega) (by simp; omega) (by simp; omega) sU2 sV2
    (fun x hx => ho x (by simp at hx ⊢; rcases hx with h | h <;> simp [h])) (fun W2 p2 s2 => ?_) (by simp)
  have hw := hk (W1 ++ W2) ((List.Perm.append p1 p2).trans (by
    simp only [List.append_assoc]
    refine List.Perm.append_left U1 ?_
    rw [← List.append_assoc, ← List.append_assoc]
    exact List.Perm.append_right V2 List.perm_append_comm)) (List.pairwise_append.2 ⟨s1, s2, fun x hx y hy => by
      have hx' := p1.subset hx
      have hy' := p2.subset hy
      rcases List.mem_append.1 hx' with hx' | hx' <;> rcases List.mem_append.1 hy' with hy' | hy'
      · exact cU x hx' y hy'
      · exact cA x hx' y hy'
      · exact cB x hx' y hy'
      · exact cV x hx' y hy'⟩)
  simpa using hw
set_option maxHeartbeats 2000000 in
theorem loop20e (N fuel d : Nat) (lv P U V Q : List Int) (h : Nat) (k : AV → Heap → Bool → Prop) (hh : h = (U.length + V.length) / 2) (sU : Srt lv U) (sV : Srt lv V) (ho : ∀ x, x ∈ U ++ V → OkL lv x) (hl : P.length + U.length + V.length + Q.length < 900)
    (hd1 : h ≤ d) (hd2 : U.length + V.length - h ≤ d) (hk : ∀ W : List Int, W.Perm (U ++ V) → Srt lv W → k (.tuple []) (DH (P ++ W ++ Q) lv) false) :
    ∀ (n I0 J0 : Nat) (a m b mid nn s r p : Int), J0 - I0 < n → a = P.length → m = ((P ++ U).length : Nat) → b = ((P ++ U ++ V).length : Nat) → mid = (P.length + h : Nat) → nn = (P.length + h + P.length + U.length : Nat) → s = (P.length + I0 : Nat) → r = (P.length + J0 : Nat) → p = nn - 1 →
    h - V.length ≤ I0 → I0 ≤ J0 → J0 ≤ min h U.length → (∀ c (h1 : c < U.length) (h2 : h - 1 - c < V.length), h - V.length ≤ c → c < I0 → key lv U[c] ≤ key lv V[h - 1 - c]) → (∀ c (h1 : c < U.length) (h2 : h - 1 - c < V.length), J0 ≤ c → c < h → key lv V[h - 1 - c] < key lv U[c]) →
    resPS (S F) (T20 d) N 9 fuel 20 5 2 [] p20e n ⟨L20e (P ++ U ++ V ++ Q).length a m b mid nn s r p, [], DH (P ++ U ++ V ++ Q) lv, false⟩ k
  | 0, I0, J0, a, m, b, mid, nn, s, r, p, hn, _, _, _, _, _, _, _, _, _, _, _, _, _ => by omega
  | n + 1, I0, J0, a, m, b, mid, nn, s, r, p, hn, ha, hm, hb, hmid, hnn, hs, hr, hp, hS0, hSR, hR0, h1, h2 => by
    simp only [List.length_append] at hm hb
    rw [step20e]
    by_cases he : I0 = J0
    · subst he
      refine condF (decide_eq_false (by omega)) ?_
      have wE : IntKind.wrap .i64 (nn - s) = nn - s := wrapI (by omega)
      rw [wE]
      have hSu : I0 ≤ U.length := by omega
      have hSv : h - I0 ≤ V.length := by omega
      generalize hU1 : U.take I0 = U1
      generalize hU2 : U.drop I0 = U2
      generalize hV1 : V.take (h - I0) = V1
      generalize hV2 : V.drop (h - I0) = V2
      have eU : U = U1 ++ U2 := by rw [← hU1, ← hU2]; simp
      have eV : V = V1 ++ V2 := by rw [← hV1, ← hV2]; simp
      have lU1 : U1.length = I0 := by rw [← hU1]; simp; omega
      have lV1 : V1.length = h - I0 := by rw [← hV1]; simp; omega
      have cA : ∀ x, x ∈ U1 → ∀ y, y ∈ V2 → key lv x ≤ key lv y := fun x hx y hy => by
        rw [← hU1] at hx
        rw [← hV2] at hy
        obtain ⟨i, hi, rfl⟩ := List.getElem_of_mem hx
        obtain ⟨j, hj, rfl⟩ := List.getElem_of_mem hy
        rw [List.getElem_take, List.getElem_drop]
        simp only [List.length_take, List.length_drop] at hi hj
        have q0 := h1 (I0 - 1) (by omega) (by omega) (by omega) (by omega)
        have q1 := srt_get sU (c := i) (d := I0 - 1) (by omega) (by omega)
        have q2 := srt_get sV (c := h - 1 - (I0 - 1)) (d := h - I0 + j) (by omega) (by omega)
        omega
      have cB : ∀ y, y ∈ V1 → ∀ x, x ∈ U2 → key lv y ≤ key lv x := fun y hy x hx => by
        rw [← hU2] at hx
        rw [← hV1] at hy
        obtain ⟨i, hi, rfl⟩ := List.getElem_of_mem hx
        obtain ⟨j, hj, rfl⟩ := List.getElem_of_mem hy
        rw [List.getElem_take, List.getElem_drop]
        simp only [List.length_take, List.length_drop] at hi hj
        have q0 := h2 I0 (by omega) (by omega) (by omega) (by omega)
        have q1 := srt_get sU (c := I0) (d := I0 + i) (by omega) (by omega)
        have q2 := srt_get sV (c := j) (d := h - 1 - I0) (by omega) (by omega)
        omega
      subst eU eV
      simp only [List.length_append] at hm hb hl hh hd2 hnn hR0 hSu hS0 hSv
      obtain ⟨sU1, sU2, cU⟩ := List.pairwise_append.1 sU
      obtain ⟨sV1, sV2, cV⟩ := List.pairwise_append.1 sV
      clear h1 h2 hU1 hU2 hV1 hV2 sU sV
      exact exit20e d h lv P U1 U2 V1 V2 Q k sU1 sU2 sV1 sV2 cU cV cA cB ho (by omega) hd1 (by omega) (by omega) hk a s m mid (nn - s) b ha (by omega) (by omega) hmid (by omega) (by omega)
    · have w1 : IntKind.wrap .i64 (Int.fdiv (IntKind.wrap .u64 (IntKind.wrap .i64 (s + r))) (Int.ofNat 2)) = (s + r) / 2 := half (by omega)
      have w2 : IntKind.wrap .i64 ((s + r) / 2 + 1) = (s + r) / 2 + 1 := wrapI (by omega)
      refine condT (decide_eq_true (by omega)) ?_
      rw [w1, w2]
      generalize hC : (I0 + J0) / 2 = C
      have hC1 : (s + r) / 2 = (P.length + C : Nat) := by omega
      have w3 : IntKind.wrap .i64 (p - (s + r) / 2) = p - (s + r) / 2 := wrapI (by omega)
      rw [w3]
      have hCu : C < U.length := by omega
      have hCv : h - 1 - C < V.length := by omega
      have hp1 : p - (s + r) / 2 = (P.length + U.length + (h - 1 - C) : Nat) := by omega
      have l1 : P.length + U.length + (h - 1 - C) < (P ++ U ++ V ++ Q).length := by simp; omega
      have l2 : P.length + C < (P ++ U ++ V ++ Q).length := by simp; omega
      have g1 : (P ++ U ++ V ++ Q)[P.length + U.length + (h - 1 - C)] = V[h - 1 - C] := get_seg (by simp) hCv l1
      have g2 : (P ++ U ++ V ++ Q)[P.length + C] = U[C] := by
        have := get_seg (P := P) (V := U) (Q := V ++ Q) (i := P.length + C) rfl hCu (by simpa using l2)
        simpa using this
      refine cmpT (I := P.length + U.length + (h - 1 - C)) (J := P.length + C) (K := fun d => cond (!decide (d < 0)) _ _) hp1 hC1 l1 l2 (by rw [g1]; exact ho _ (by simp)) (by rw [g2]; exact ho _ (by simp)) ?_
      rw [g1, g2]
      by_cases hlt : key lv V[h - 1 - C] - key lv U[C] < 0
      · refine condF (by simp [hlt]) ?_
        exact loop20e N fuel d lv P U V Q h k hh sU sV ho hl hd1 hd2 hk n I0 C a m b mid nn s ((s + r) / 2) p (by omega) ha (by simp; omega) (by simp; omega) hmid hnn hs hC1 hp hS0 (by omega) (by omega) h1 (fun c k1 k2 hc hch => by
          have q1 := srt_get sU k1 hc
          have q2 := srt_get sV (c := h - 1 - c) (d := h - 1 - C) hCv (by omega)
          omega)
      · refine condT (by simp [hlt]) ?_
        exact loop20e N fuel d lv P U V Q h k hh sU sV ho hl hd1 hd2 hk n (C + 1) J0 a m b mid nn ((s + r) / 2 + 1) r p (by omega) ha (by simp; omega) (by simp; omega) hmid hnn (by omega) hr hp (by omega) (by omega) hR0 (fun c k1 k2 hc hcs => by
          have q1 := srt_get sU (c := c) (d := C) hCu (by omega)
          have q2 := srt_get sV (c := h - 1 - C) (d := h - 1 - c) k2 (by omega)
          omega) h2
end Go.Proofs.Ytiiddampachhlaa
/-
  VictimTwo: merging, told.
-/
namespace Go.Proofs.Ytiiddampachhlaa
open Go Go.X
variable {F : Nat}
theorem mid_perm (V : List Int) (I : Nat) (u : Int) : (V.take I ++ u :: V.drop I).Perm (u :: V) := by
  have := List.perm_middle (a := u) (l₁ := V.take I) (l₂ := V.drop I)
  simpa using this
theorem mid_srt {lv V : List Int} {I : Nat} {u : Int} (hs : Srt lv V) (h1 : ∀ c (h : c < V.length), c < I → key lv V[c] ≤ key lv u) (h2 : ∀ c (h : c < V.length), I ≤ c → key lv u ≤ key lv V[c]) : Srt lv (V.take I ++ u :: V.drop I) := by
  have hs' : Srt lv (V.take I ++ V.drop I) := by simpa using hs
  obtain ⟨a, b, c⟩ := List.pairwise_append.1 hs'
  refine List.pairwise_append.2 ⟨a, List.pairwise_cons.2 ⟨fun y hy => ?_, b⟩, fun x hx y hy => ?_⟩
  · obtain ⟨j, hj, rfl⟩ := List.getElem_of_mem hy
    rw [List.getElem_drop]
    simp only [List.length_drop] at hj
    exact h2 (I + j) (by omega) (by omega)
  · rcases List.mem_cons.1 hy with rfl | hy
    · obtain ⟨i, hi, rfl⟩ := List.getElem_of_mem hx
      rw [List.getElem_take]
      simp only [List.length_take] at hi
      exact h1 i (by omega) (by omega)
    · exact c x hx y hy
set_option maxHeartbeats 2000000 in
theorem mrg20 (d N : Nat) (args : List AV) (H : Heap) (k : AV → Heap → Bool → Prop) : t20 (d + 1) args H k → runP (S F) (T20 d) N 9 (S F).fu 20 args H k := by
  rintro ⟨P, U, V, Q, lv, rfl, rfl, hU, hV, hd, sU, sV, ho, hl, hk⟩
  simp only [List.length_append] at hd hl
  have hU' : 0 < U.length := List.length_pos_iff.2 hU
  have hV' : 0 < V.length := List.length_pos_iff.2 hV
  rw [start20]
  have w1 : IntKind.wrap .i64 (((P ++ U).length : Nat) - (P.length : Int)) = U.length := by rw [wrapI (by simp; omega)]; simp; omega
  have w2 : IntKind.wrap .i64 (((P ++ U ++ V).length : Nat) - ((P ++ U).length : Nat) : Int) = V.length := by rw [wrapI (by simp; omega)]; simp; omega
  rw [w1, w2]
  have hfu : 1000 < (S F).fu := by rw [S_fu]; omega
  by_cases h1 : U.length = 1
  · refine condT (by simp; omega) ?_
    obtain ⟨u, rfl⟩ := List.length_eq_one_iff.1 h1
    have ou := ho u (by simp)
    have ov : ∀ y, y ∈ V → OkL lv y := fun y hy => ho y (by simp [hy])
    have := loop20a (F := F) N (S F).fu d lv P V Q u P.length k sV ou ov rfl (by simp at hl; omega) (fun I hI k1 k2 => by
      have h3 := loop20b (F := F) N (S F).fu d lv P (V.drop I) Q u (P.length + 1 + I : Nat) k (S F).fu [] (V.take I) P.length (by simp; omega) (by simp) (by simp; omega) (by simp at hl ⊢; omega)
        (by
          have := hk (V.take I ++ u :: V.drop I) (by simpa using mid_perm V I u) (mid_srt sV (fun c hc hcI => Int.le_of_lt (k1 c hc hcI)) k2)
          simpa using this)
      simpa using h3) (S F).fu 0 V.length ((P ++ [u]).length : Nat) ((P ++ [u] ++ V).length : Nat) (by omega) (by simp) (by simp; omega) (by omega) (Nat.le_refl _) (fun c _ hc => by omega) (fun c h3 hc => by omega)
    have e : P ++ u :: V ++ Q = P ++ [u] ++ V ++ Q := by simp
    rw [e] at this
    exact this
  · refine condF (by simp; omega) ?_
    by_cases h2 : V.length = 1
    · refine condT (by simp; omega) ?_
      obtain ⟨v, rfl⟩ := List.length_eq_one_iff.1 h2
      have ov := ho v (by simp)
      have ou : ∀ y, y ∈ U → OkL lv y := fun y hy => ho y (by simp [hy])
      have := loop20c (F := F) N (S F).fu d lv P U Q v ((P ++ U).length : Nat) k sU ov ou (by simp) (by simp at hl; omega) (fun I hI k1 k2 => by
        have h3 := loop20d (F := F) N (S F).fu d lv P (U.take I) Q v (P.length + I : Nat) k (S F).fu (U.drop I) [] ((P ++ U).length : Nat) (by simp; omega) (by simp; omega) (by simp; omega) (by simp at hl ⊢; omega)
          (by
            have := hk (U.take I ++ v :: U.drop I) ((mid_perm U I v).trans (by
              have := List.perm_append_comm (l₁ := [v]) (l₂ := U)
              simpa using this)) (mid_srt sU k1 (fun c hc hcI => Int.le_of_lt (k2 c hc hcI)))
            simpa using this)
        simpa using h3) (S F).fu 0 U.length P.length ((P ++ U).length : Nat) (by omega) (by simp) (by simp) (by omega) (Nat.le_refl _) (fun c _ hc => by omega) (fun c h3 hc => by omega)
      have e : P ++ U ++ v :: Q = P ++ U ++ [v] ++ Q := by simp
      rw [e] at this
      exact this
    · refine condF (by simp; omega) ?_
      generalize hh : (U.length + V.length) / 2 = h
      have w3 : IntKind.wrap .i64 (Int.fdiv (IntKind.wrap .u64 (IntKind.wrap .i64 ((P.length : Int) + ((P ++ U ++ V).length : Nat)))) (Int.ofNat 2)) = (P.length + h : Nat) := by
        rw [half (by simp; omega)]
        simp only [List.length_append]
        omega
      rw [w3]
      have w4 : IntKind.wrap .i64 (((P.length + h : Nat) : Int) + ((P ++ U).length : Nat)) = (P.length + h + P.length + U.length : Nat) := by rw [wrapI (by simp; omega)]; simp; omega
      rw [w4]
      have w5 : IntKind.wrap .i64 (((P.length + h + P.length + U.length : Nat) : Int) - 1) = ((P.length + h + P.length + U.length : Nat) : Int) - 1 := wrapI (by omega)
      rw [w5]
      have key20 := fun (I0 J0 : Nat) (s r : Int) => loop20e (F := F) N (S F).fu d lv P U V Q h k hh.symm sU sV ho (by omega) (by omega) (by omega) hk (S F).fu I0 J0 P.length ((P ++ U).length : Nat) ((P ++ U ++ V).length : Nat) (P.length + h : Nat) (P.length + h + P.length + U.length : Nat) s r (((P.length + h + P.length + U.length : Nat) : Int) - 1)
      by_cases hm : (((P ++ U).length : Nat) : Int) > ((P.length + h : Nat) : Int)
      · refine condT (decide_eq_true hm) ?_
        simp only [List.length_append] at hm
        have w6 : IntKind.wrap .i64 (((P.length + h + P.length + U.length : Nat) : Int) - ((P ++ U ++ V).length : Nat)) = (P.length + (h - V.length) : Nat) := by
          rw [wrapI (by simp; omega)]; simp only [List.length_append]; omega
        rw [w6]
        exact key20 (h - V.length) h _ _ (by omega) rfl rfl rfl rfl rfl rfl rfl rfl (by omega) (by omega) (by omega) (fun c _ _ _ _ => by omega) (fun c _ _ _ _ => by omega)
      · refine condF (decide_eq_false hm) ?_
        simp only [List.length_append] at hm
        exact key20 0 U.length _ _ (by omega) rfl rfl rfl rfl rfl (by simp) (by simp) rfl (by omega) (by omega) (by omega) (fun c _ _ _ _ => by omega) (fun c _ _ _ _ => by omega)
end Go.Proofs.Ytiiddampachhlaa
/-
  VictimTwo: the stable sort.
-/
namespace Go.Proofs.Ytiiddampachhlaa
open Go Go.X
variable {F : Nat}
/-- Sorted runs of so many. -/
inductive Runs (lv : List Int) (bs : Nat) : List Int → Prop
  | last {U : List Int} : Srt lv U → U.length ≤ bs → Runs lv bs U
  | more {U R : List Int} : Srt lv U → U.length = bs → Runs lv bs R → Runs lv bs (U ++ R)
theorem Runs.srt {lv X : List Int} {bs : Nat} (h : Runs lv bs X) (hl : X.length ≤ bs) : Srt lv X := by
  cases h with
  | last h _ => exact h
  | @more U R h1 h2 h3 =>
    have : R = [] := List.eq_nil_of_length_eq_zero (by simp at hl; omega)
    subst this
    simpa using h1
theorem Runs.cut {lv X : List Int} {bs : Nat} (h : Runs lv bs X) (hl : bs < X.length) : ∃ U R, X = U ++ R ∧ Srt lv U ∧ U.length = bs ∧ Runs lv bs R := by
  cases h with
  | last _ h => omega
  | @more U R h1 h2 h3 => exact ⟨U, R, rfl, h1, h2, h3⟩
def Pre (lv : List Int) (bs : Nat) (D : List Int) : Prop := ∀ R, Runs lv bs R → Runs lv bs (D ++ R)
theorem Pre.nil {lv : List Int} {bs : Nat} : Pre lv bs [] := fun R h => by simpa using h
theorem Pre.add {lv D U : List Int} {bs : Nat} (h : Pre lv bs D) (hs : Srt lv U) (hl : U.length = bs) : Pre lv bs (D ++ U) := fun R hR => by
  have := h _ (Runs.more hs hl hR)
  simpa using this
set_option maxHeartbeats 2000000 in
theorem loop18a (N fuel : Nat) (lv X : List Int) (k : AV → Heap → Bool → Prop) (hl : X.length < 500) (ho : ∀ x, x ∈ X → OkL lv x)
    (hk : ∀ Y : List Int, Y.Perm X → Runs lv 20 Y → resPS (S F) T18 N 9 fuel 18 3 2 [] p18b fuel ⟨L18b X.length X.length 20, [], DH Y lv, false⟩ k) :
    ∀ (n : Nat) (D R : List Int) (a b : Int), R.length < n → (D ++ R).Perm X → Pre lv 20 D → a = D.length → b = a + 20 →
    resPS (S F) T18 N 9 fuel 18 3 2 [] p18a n ⟨L18a (D ++ R).length X.length 20 a b, [], DH (D ++ R) lv, false⟩ k
  | 0, D, R, a, b, hn, _, _, _, _ => by omega
  | n + 1, D, R, a, b, hn, hp, hD, ha, hb => by
    have hlen := hp.length_eq
    simp only [List.length_append] at hlen
    have w1 : IntKind.wrap .i64 (b + 20) = b + 20 := wrapI (by omega)
    rw [step18a, w1]
    by_cases h : b ≤ X.length
    · refine condT (decide_eq_true h) ?_
      obtain ⟨U, R', rfl, hU⟩ : ∃ U R', R = U ++ R' ∧ U.length = 20 := ⟨R.take 20, R.drop 20, by simp, by simp; omega⟩
      simp only [List.length_append] at hlen hn
      refine ⟨D, U, R', lv, ?_, by simp, fun x hx => ho x (hp.subset (by simp [hx])), by simp; omega, fun W hW sW => ?_⟩
      · simp
        omega
      have lW := hW.length_eq
      have := loop18a N fuel lv X k hl ho hk n (D ++ W) R' b (b + 20) (by omega) (by
        refine List.Perm.trans ?_ hp
        simp only [List.append_assoc]
        exact List.Perm.append_left D (List.Perm.append_right R' hW)) (hD.add sW (by omega)) (by simp; omega) rfl
      have e : (D ++ (U ++ R')).length = (D ++ W ++ R').length := by simp; omega
      rw [e]
      exact this
    · refine condF (decide_eq_false h) ?_
      refine ⟨D, R, [], lv, ?_, by simp, fun x hx => ho x (hp.subset (by simp [hx])), by simp; omega, fun W hW sW => ?_⟩
      · simp
        omega
      have lW := hW.length_eq
      have hY : (D ++ W).Perm X := (List.Perm.append_left D hW).trans hp
      have := hk (D ++ W) hY (hD _ (Runs.last sW (by omega)))
      have e : (D ++ R).length = X.length := hp.length_eq
      rw [e]
      simpa using this
set_option maxHeartbeats 2000000 in
theorem inner18L (N fuel nn : Nat) (lv X : List Int) (k : AV → Heap → Bool → Prop) (hl : X.length < 500) (ho : ∀ x, x ∈ X → OkL lv x) (bs : Nat) (hb0 : 20 ≤ bs) (hb1 : bs < 500)
    (hk : ∀ Y : List Int, Y.Perm X → Runs lv (2 * bs) Y → resPS (S F) T18 N 9 fuel 18 3 2 [] p18b nn ⟨L18b X.length X.length (2 * bs : Nat), [], DH Y lv, false⟩ k) :
    ∀ (n : Nat) (D R : List Int) (a b : Int), R.length < n → (D ++ R).Perm X → Pre lv (2 * bs) D → Runs lv bs R → a = D.length → b = a + (2 * bs : Nat) →
    resPS (S F) T18 N 9 fuel 18 3 2 [(q18, n)] p18b nn ⟨L18a (D ++ R).length X.length bs a b, [], DH (D ++ R) lv, false⟩ k
  | 0, D, R, a, b, hn, _, _, _, _, _ => by omega
  | n + 1, D, R, a, b, hn, hp, hD, hR, ha, hb => by
    have hlen := hp.length_eq
    simp only [List.length_append] at hlen
    have w1 : IntKind.wrap .i64 (2 * (bs : Int)) = 2 * bs := wrapI (by omega)
    have w2 : IntKind.wrap .i64 (b + 2 * bs) = b + 2 * bs := wrapI (by omega)
    have w3 : IntKind.wrap .i64 (a + bs) = a + bs := wrapI (by omega)
    have w4 : IntKind.wrap .i64 ((bs : Int) * 2) = (2 * bs : Nat) := by rw [wrapI (by omega)]; omega
    have eX : (D ++ R).length = X.length := hp.length_eq
    rw [inner18, w1, w2, w3, w4]
    by_cases h : b ≤ X.length
    · refine condT (decide_eq_true h) ?_
      obtain ⟨U, R1, rfl, sU, lU, hR1⟩ := hR.cut (by omega)
      simp only [List.length_append] at hlen hn
      obtain ⟨V, R', rfl, sV, lV, hR'⟩ : ∃ V R', R1 = V ++ R' ∧ Srt lv V ∧ V.length = bs ∧ Runs lv bs R' := by
        rcases Nat.lt_or_ge bs R1.length with h | h
        · exact hR1.cut h
        · exact ⟨R1, [], by simp, hR1.srt h, by omega, .last List.Pairwise.nil (by simp)⟩
      simp only [List.length_append] at hlen hn
      refine ⟨D, U, V, R', lv, ?_, by simp, List.ne_nil_of_length_pos (by omega), List.ne_nil_of_length_pos (by omega), by simp; omega, sU, sV, fun x hx => ho x (hp.subset (by simp at hx ⊢; rcases hx with h | h <;> simp [h])), by simp; omega, fun W hW sW => ?_⟩
      · simp
        omega
      have lW := hW.length_eq
      simp only [List.length_append] at lW
      have := inner18L N fuel nn lv X k hl ho bs hb0 hb1 hk n (D ++ W) R' b (b + 2 * bs) (by omega) (by
        refine List.Perm.trans ?_ hp
        simp only [List.append_assoc]
        refine List.Perm.append_left D ?_
        have := List.Perm.append_right R' hW
        simpa using this) (hD.add sW (by omega)) hR' (by simp; omega) (by omega)
      have e : (D ++ (U ++ (V ++ R'))).length = (D ++ W ++ R').length := by simp; omega
      rw [e]
      exact this
    · refine condF (decide_eq_false h) ?_
      by_cases h2 : a + bs < X.length
      · refine condT (decide_eq_true h2) ?_
        obtain ⟨U, V, rfl, sU, lU, hV⟩ := hR.cut (by omega)
        simp only [List.length_append] at hlen hn
        have sV : Srt lv V := hV.srt (by omega)
        refine ⟨D, U, V, [], lv, ?_, by simp, List.ne_nil_of_length_pos (by omega), List.ne_nil_of_length_pos (by omega), by simp; omega, sU, sV, fun x hx => ho x (hp.subset (by simp at hx ⊢; rcases hx with h | h <;> simp [h])), by simp; omega, fun W hW sW => ?_⟩
        · simp
          omega
        have lW := hW.length_eq
        simp only [List.length_append] at lW
        have := hk (D ++ W) ((List.Perm.append_left D hW).trans hp) (hD _ (.last sW (by omega)))
        rw [eX]
        simpa using this
      · refine condF (decide_eq_false h2) ?_
        have := hk (D ++ R) hp (hD _ (.last (hR.srt (by omega)) (by omega)))
        rw [eX]
        exact this
set_option maxHeartbeats 2000000 in
theorem loop18b (N fuel : Nat) (lv X : List Int) (k : AV → Heap → Bool → Prop) (hl : X.length < 500) (hf : 500 < fuel) (ho : ∀ x, x ∈ X → OkL lv x) (hk : ∀ W : List Int, W.Perm X → Srt lv W → k (.tuple []) (DH W lv) false) :
    ∀ (n bs : Nat) (Y : List Int), X.length < n + bs → 0 < n → 20 ≤ bs → Y.Perm X → Runs lv bs Y →
    resPS (S F) T18 N 9 fuel 18 3 2 [] p18b n ⟨L18b X.length X.length bs, [], DH Y lv, false⟩ k
  | 0, bs, Y, _, hn0, _, _, _ => by omega
  | n + 1, bs, Y, hn, _, hb, hp, hY => by
    have hlen := hp.length_eq
    have e0 : L18b X.length X.length bs = L18b Y.length X.length bs := by rw [hlen]
    rw [e0, step18b]
    by_cases h : (bs : Int) < X.length
    · refine condT (decide_eq_true h) ?_
      have w1 : IntKind.wrap .i64 (2 * (bs : Int)) = 0 + (2 * bs : Nat) := by rw [wrapI (by omega)]; omega
      rw [w1]
      have := inner18L (F := F) N fuel n lv X k hl ho bs hb (by omega) (fun Z hZ rZ => loop18b N fuel lv X k hl hf ho hk n (2 * bs) Z (by omega) (by omega) (by omega) hZ rZ) fuel [] Y 0 (0 + (2 * bs : Nat)) (by omega) (by simpa using hp) Pre.nil hY (by simp) rfl
      simpa using this
    · refine condF (decide_eq_false h) ?_
      exact hk Y hp (hY.srt (by omega))
theorem stb18 (N : Nat) (args : List AV) (H : Heap) (k : AV → Heap → Bool → Prop) : t18 args H k → runP (S F) T18 N 9 (S F).fu 18 args H k := by
  rintro ⟨X, lv, rfl, rfl, ho, hl, hk⟩
  rw [start18]
  have := loop18a (F := F) N (S F).fu lv X k hl ho (fun Y hp hY => loop18b (F := F) N (S F).fu lv X k hl (by rw [S_fu]; omega) ho hk (S F).fu 20 Y (by rw [S_fu]; omega) (by rw [S_fu]; omega) (by omega) hp hY)
    (S F).fu [] X 0 20 (by rw [S_fu]; omega) (by simp) Pre.nil (by simp) rfl
  simpa using this
theorem srt13 (N : Nat) (args : List AV) (H : Heap) (k : AV → Heap → Bool → Prop) : t13 args H k → runP (S F) T13 N 9 (S F).fu 13 args H k := by
  rintro ⟨X, lv, rfl, rfl, ho, hl, hk⟩
  rw [tree13]
  exact ⟨X, lv, rfl, rfl, ho, hl, hk⟩
end Go.Proofs.Ytiiddampachhlaa
/-
  VictimTwo: what the lesser functions come to.
-/
namespace Go.Proofs.Ytiiddampachhlaa
open Go Go.X
def dZ : Option (List Int) → AV
  | none => .nils
  | some l => .isl 1 (row encZ l)
def t17 : PT := fun args H k => ∃ (d : Option (List Int)) (v : Int), args = [dZ d, .int .i64 v] ∧ H = [] ∧ (d.getD []).length < 1000 ∧ ∀ r : Int, (0 ≤ r ↔ v ∈ d.getD []) → k (.int .i64 r) [] false
def t12 : PT := fun args H k => ∃ (d : Option (List Int)) (v : Int), args = [dZ d, .int .i64 v] ∧ H = [] ∧ (d.getD []).length < 1000 ∧ k (.bool (decide (v ∈ d.getD []))) [] false
abbrev CMP0 : AV := .func (.func 14) [] [.ptr ⟨0, 0, [], 1⟩]
def CELL (c : AV) : Heap := [some ⟨c, false, true⟩]
abbrev LV (lv : List Int) : AV := .isl 1 (row encZ lv)
def t19n : PT := fun args H k => ∃ (dl : Option (List Int)), args = [.nils, .int .i64 0, .int .i64 0, CMP0] ∧ H = CELL (dZ dl) ∧ (dl = none → k (.tuple []) (CELL .nils) false) ∧ ∀ lv : List Int, dl = some lv → k (.tuple []) (CELL (LV lv)) false
def t18n : PT := fun args H k => ∃ (dl : Option (List Int)), args = [.nils, .int .i64 0, CMP0] ∧ H = CELL (dZ dl) ∧ (dl = none → k (.tuple []) (CELL .nils) false) ∧ ∀ lv : List Int, dl = some lv → k (.tuple []) (CELL (LV lv)) false
def t13n : PT := fun args H k => ∃ (dl : Option (List Int)), args = [.nils, CMP0] ∧ H = CELL (dZ dl) ∧ (dl = none → k (.tuple []) (CELL .nils) false) ∧ ∀ lv : List Int, dl = some lv → k (.tuple []) (CELL (LV lv)) false
def slO : Option (List Int) → AV
  | none => .nils
  | some X => DS X.length
def cmpO : Option (List Int) → AV
  | none => CMP0
  | some _ => CMP
def heapO (c : AV) : Option (List Int) → Heap
  | none => CELL c
  | some X => [some ⟨.arr 1 (row encZ X), true, true⟩, some ⟨c, false, true⟩]
/-- Sorting, of nothing too. -/
def t13o : PT := fun args H k => ∃ (dx dl : Option (List Int)), args = [slO dx, cmpO dx] ∧ H = heapO (dZ dl) dx ∧ (dx.isSome = true → dl.isSome = true) ∧ (∀ x, x ∈ dx.getD [] → OkL (dl.getD []) x) ∧ (dx.getD []).length < 500 ∧
  (dx = none → dl = none → k (.tuple []) (CELL .nils) false) ∧ (∀ lv : List Int, dx = none → dl = some lv → k (.tuple []) (CELL (LV lv)) false) ∧
  ∀ X lv : List Int, dx = some X → dl = some lv → ∀ W : List Int, W.Perm X → Srt lv W → k (.tuple []) (DH W lv) false
/-- A slice's copy. -/
def t15 : PT := fun args H k => ∃ (X : List Int) (len : Nat), args = [.sl ⟨0, 0, [], X.length⟩ 1 X.length 0 len] ∧ H = [some ⟨.arr 1 (row encZ X), true, true⟩] ∧ 0 < len ∧ len ≤ X.length ∧ len < 1000 ∧
  k (.sl ⟨1, 0, [], len⟩ 1 len 0 len) [some ⟨.arr 1 (row encZ X), true, true⟩, some ⟨.arr 1 (row encZ (X.take len)), true, true⟩] false
def t15n : PT := fun args H k => args = [.nils] ∧ H = [] ∧ k .nils [] false
/-- Which copy: of nothing, of some. -/
def t15o : PT := fun args H k => ∃ (dx : Option (List Int × Nat)), (dx = none → args = [.nils] ∧ H = [] ∧ k .nils [] false) ∧ ∀ (X : List Int) (len : Nat), dx = some (X, len) → args = [.sl ⟨0, 0, [], X.length⟩ 1 X.length 0 len] ∧ H = [some ⟨.arr 1 (row encZ X), true, true⟩] ∧ 0 < len ∧ len ≤ X.length ∧ len < 1000 ∧
  k (.sl ⟨1, 0, [], len⟩ 1 len 0 len) [some ⟨.arr 1 (row encZ X), true, true⟩, some ⟨.arr 1 (row encZ (X.take len)), true, true⟩] false
def HL (lv D : List Int) : Heap := [some ⟨LV lv, false, true⟩, none, some ⟨.arr 1 (row encZ D), true, true⟩]
def T12 : FuncId → Option PT := fun f => if f = 17 then some t17 else none
def T18n : FuncId → Option PT := fun f => if f = 19 then some t19n else none
def T13n : FuncId → Option PT := fun f => if f = 18 then some t18n else none
def T6 : FuncId → Option PT := fun f => if f = 13 then some t13o else if f = 15 then some t15o else if f = 12 then some t12 else none
end Go.Proofs.Ytiiddampachhlaa
/- VictimTwo: trees of the lesser functions.
-/
namespace Go.Proofs.Ytiiddampachhlaa
open Go Go.X
variable {F : Nat}
theorem tree12i (N fuel : Nat) (xs : List Int) (v : Int) (k : AV → Heap → Bool → Prop) :
 (runP (S F) T12 N 9 fuel 12 [.isl 1 (row encZ xs), .int .i64 v] [] k) =
 ((∃ (d0 : Option (List Int)),
 ∃ (v1 : Int),
 And ([AV.isl 1 (row encZ xs), AV.int IntKind.i64 v] = [dZ d0, AV.int IntKind.i64 v1])
 (And (([] : Heap) = [])
 (And (List.length (Option.getD d0 []) < 1000)
 (∀ (r2 : Int),
 (0 ≤ r2 ↔ v1 ∈ Option.getD d0 []) →
 k (AV.bool (decide (r2 ≥ 0))) [] false)))) : Prop) := by kernel_rfl
theorem tree12n (N fuel : Nat) (v : Int) (k : AV → Heap → Bool → Prop) :
 (runP (S F) T12 N 9 fuel 12 [.nils, .int .i64 v] [] k) =
 ((∃ (d0 : Option (List Int)),
 ∃ (v1 : Int),
 And ([AV.nils, AV.int IntKind.i64 v] = [dZ d0, AV.int IntKind.i64 v1])
 (And (([] : Heap) = [])
 (And (List.length (Option.getD d0 []) < 1000)
 (∀ (r2 : Int),
 (0 ≤ r2 ↔ v1 ∈ Option.getD d0 []) →
 k (AV.bool (decide (r2 ≥ 0))) [] false)))) : Prop) := by kernel_rfl
theorem tree19n0 (N fuel : Nat) (k : AV → Heap → Bool → Prop) :
 (runP (S F) T0 N 9 (fuel + 1) 19 [.nils, .int .i64 0, .int .i64 0, CMP0] (CELL .nils) k) =
 ((k (AV.tuple []) (CELL AV.nils) false) : Prop) := by kernel_rfl
theorem tree19n1 (N fuel : Nat) (lv : List Int) (k : AV → Heap → Bool → Prop) :
 (runP (S F) T0 N 9 (fuel + 1) 19 [.nils, .int .i64 0, .int .i64 0, CMP0] (CELL (LV lv)) k) =
 ((k (AV.tuple []) (CELL (AV.isl 1 (row encZ lv))) false) : Prop) := by kernel_rfl
theorem tree18n0 (N fuel : Nat) (k : AV → Heap → Bool → Prop) :
 (runP (S F) T18n N 9 (fuel + 1) 18 [.nils, .int .i64 0, CMP0] (CELL .nils) k) =
 ((∃ (dl0 : Option (List Int)),
 And ([AV.nils, AV.int IntKind.i64 0, AV.int IntKind.i64 0, AV.func (Fn.func 14) [] [AV.ptr (Pl.mk 0 0 [] 1)]] = [AV.nils, AV.int IntKind.i64 0, AV.int IntKind.i64 0, AV.func (Fn.func 14) [] [AV.ptr (Pl.mk 0 0 [] 1)]])
 (And (CELL AV.nils = CELL (dZ dl0))
 (And ((dl0 = none) →
 k (AV.tuple []) (CELL AV.nils) false)
 (∀ (lv1 : List Int),
 (dl0 = some lv1) →
 k (AV.tuple []) (CELL (AV.isl 1 (row encZ lv1))) false)))) : Prop) := by kernel_rfl
theorem tree18n1 (N fuel : Nat) (lv : List Int) (k : AV → Heap → Bool → Prop) :
 (runP (S F) T18n N 9 (fuel + 1) 18 [.nils, .int .i64 0, CMP0] (CELL (LV lv)) k) =
 ((∃ (dl0 : Option (List Int)),
 And ([AV.nils, AV.int IntKind.i64 0, AV.int IntKind.i64 0, AV.func (Fn.func 14) [] [AV.ptr (Pl.mk 0 0 [] 1)]] = [AV.nils, AV.int IntKind.i64 0, AV.int IntKind.i64 0, AV.func (Fn.func 14) [] [AV.ptr (Pl.mk 0 0 [] 1)]])
 (And (CELL (AV.isl 1 (row encZ lv)) = CELL (dZ dl0))
 (And ((dl0 = none) →
 k (AV.tuple []) (CELL AV.nils) false)
 (∀ (lv1 : List Int),
 (dl0 = some lv1) →
 k (AV.tuple []) (CELL (AV.isl 1 (row encZ lv1))) false)))) : Prop) := by kernel_rfl
theorem tree13n0 (N fuel : Nat) (k : AV → Heap → Bool → Prop) :
 (runP (S F) T13n N 9 fuel 13 [.nils, CMP0] (CELL .nils) k) =
 ((∃ (dl0 : Option (List Int)),
 And ([AV.nils, AV.int IntKind.i64 (↑0 : Int), AV.func (Fn.func 14) [] [AV.ptr (Pl.mk 0 0 [] 1)]] = [AV.nils, AV.int IntKind.i64 0, AV.func (Fn.func 14) [] [AV.ptr (Pl.mk 0 0 [] 1)]])
 (And (CELL AV.nils = CELL (dZ dl0))
 (And ((dl0 = none) →
 k (AV.tuple []) (CELL AV.nils) false)
 (∀ (lv1 : List Int),
 (dl0 = some lv1) →
 k (AV.tuple []) (CELL (AV.isl 1 (row encZ lv1))) false)))) : Prop) := by kernel_rfl
theorem tree13n1 (N fuel : Nat) (lv : List Int) (k : AV → Heap → Bool → Prop) :
 (runP (S F) T13n N 9 fuel 13 [.nils, CMP0] (CELL (LV lv)) k) =
 ((∃ (dl0 : Option (List Int)),
 And ([AV.nils, AV.int IntKind.i64 (↑0 : Int), AV.func (Fn.func 14) [] [AV.ptr (Pl.mk 0 0 [] 1)]] = [AV.nils, AV.int IntKind.i64 0, AV.func (Fn.func 14) [] [AV.ptr (Pl.mk 0 0 [] 1)]])
 (And (CELL (AV.isl 1 (row encZ lv)) = CELL (dZ dl0))
 (And ((dl0 = none) →
 k (AV.tuple []) (CELL AV.nils) false)
 (∀ (lv1 : List Int),
 (dl0 = some lv1) →
 k (AV.tuple []) (CELL (AV.isl 1 (row encZ lv1))) false)))) : Prop) := by kernel_rfl
abbrev L6 (nt : AV) (l : AV) (lv : List Int) (i : Int) : List (Nat × AV) := [(0, .bad), (1, nt), (2, .ptr ⟨0, 0, [], 1⟩), (4, .bad), (5, l), (6, .bad), (7, .bad), (8, .isl 1 (row encZ lv)), (9, .int .i64 lv.length), (10, .int .i64 i), (11, .bad), (22, .bad)]
abbrev p6 : List Bool := [true, true, false, true]
theorem start6i (N fuel : Nat) (lv nt : List Int) (k : AV → Heap → Bool → Prop) :
 (runP (S F) T6 N 9 fuel 6 [.isl 1 (row encZ lv), .isl 1 (row encZ nt)] [] k) =
 ((resPS (S F) T6 N 9 fuel 6 2 0 [] p6 fuel (St.mk [(0, AV.bad), (1, AV.isl 1 (row encZ nt)), (2, AV.ptr (Pl.mk 0 0 [] 1)), (4, AV.bad), (5, AV.nils), (6, AV.bad), (7, AV.bad), (8, AV.isl 1 (row encZ lv)), (9, AV.int IntKind.i64 (↑(List.length (row encZ lv)) : Int)), (10, AV.int IntKind.i64 0), (11, AV.bad), (22, AV.bad)] [] (CELL (AV.isl 1 (row encZ lv))) false) k) : Prop) := by kernel_rfl
theorem start6j (N fuel : Nat) (lv : List Int) (k : AV → Heap → Bool → Prop) :
 (runP (S F) T6 N 9 fuel 6 [.isl 1 (row encZ lv), .nils] [] k) =
 ((resPS (S F) T6 N 9 fuel 6 2 0 [] p6 fuel (St.mk [(0, AV.bad), (1, AV.nils), (2, AV.ptr (Pl.mk 0 0 [] 1)), (4, AV.bad), (5, AV.nils), (6, AV.bad), (7, AV.bad), (8, AV.isl 1 (row encZ lv)), (9, AV.int IntKind.i64 (↑(List.length (row encZ lv)) : Int)), (10, AV.int IntKind.i64 0), (11, AV.bad), (22, AV.bad)] [] (CELL (AV.isl 1 (row encZ lv))) false) k) : Prop) := by kernel_rfl
theorem step6in (N fuel n : Nat) (lv nt : List Int) (i : Int) (k : AV → Heap → Bool → Prop) :
 (resPS (S F) T6 N 9 fuel 6 2 0 [] p6 (n + 1) ⟨L6 (.isl 1 (row encZ nt)) .nils lv i, [], CELL (LV lv), false⟩ k) =
 ((cond (decide (i < (↑(List.length lv) : Int)))
 (cond (decide (0 ≤ i))
 (cond (AV.isIntK (Option.getD (row encZ lv)[Int.toNat i]? AV.bad) IntKind.i64)
 (cond (decide (AV.toInt (Option.getD (row encZ lv)[Int.toNat i]? AV.bad) ≥ 0))
 (∃ (d0 : Option (List Int)),
 ∃ (v1 : Int),
 And ([AV.isl 1 (row encZ nt), AV.int IntKind.i64 i] = [dZ d0, AV.int IntKind.i64 v1])
 (And (([] : Heap) = [])
 (And (List.length (Option.getD d0 []) < 1000)
 (cond (!decide (v1 ∈ Option.getD d0 []))
 (resPS (S F) T6 N 9 fuel 6 2 0 [] p6 n (St.mk [(0, AV.bad), (1, AV.isl 1 (row encZ nt)), (2, AV.ptr (Pl.mk 0 0 [] 1)), (4, AV.bad), (5, AV.sl (Pl.mk 2 0 [] 1) 1 1 0 1), (6, AV.bad), (7, AV.bad), (8, AV.isl 1 (row encZ lv)), (9, AV.int IntKind.i64 (↑(List.length lv) : Int)), (10, AV.int IntKind.i64 (IntKind.wrap IntKind.i64 (i + 1))), (11, AV.bad), (22, AV.bad)] [] [some (Blk.mk (AV.isl 1 (row encZ lv)) false true), none, some (Blk.mk (AV.arr 1 [AV.int IntKind.i64 i]) true true)] false) k)
 (resPS (S F) T6 N 9 fuel 6 2 0 [] p6 n (St.mk [(0, AV.bad), (1, AV.isl 1 (row encZ nt)), (2, AV.ptr (Pl.mk 0 0 [] 1)), (4, AV.bad), (5, AV.nils), (6, AV.bad), (7, AV.bad), (8, AV.isl 1 (row encZ lv)), (9, AV.int IntKind.i64 (↑(List.length lv) : Int)), (10, AV.int IntKind.i64 (IntKind.wrap IntKind.i64 (i + 1))), (11, AV.bad), (22, AV.bad)] [] (CELL (AV.isl 1 (row encZ lv))) false) k)))))
 (resPS (S F) T6 N 9 fuel 6 2 0 [] p6 n (St.mk [(0, AV.bad), (1, AV.isl 1 (row encZ nt)), (2, AV.ptr (Pl.mk 0 0 [] 1)), (4, AV.bad), (5, AV.nils), (6, AV.bad), (7, AV.bad), (8, AV.isl 1 (row encZ lv)), (9, AV.int IntKind.i64 (↑(List.length lv) : Int)), (10, AV.int IntKind.i64 (IntKind.wrap IntKind.i64 (i + 1))), (11, AV.bad), (22, AV.bad)] [] (CELL (AV.isl 1 (row encZ lv))) false) k))
 (False))
 (False))
 (∃ (dx2 : Option (List Int)),
 ∃ (dl3 : Option (List Int)),
 And ([AV.nils, AV.func (Fn.func 14) [] [AV.ptr (Pl.mk 0 0 [] 1)]] = [slO dx2, cmpO dx2])
 (And (CELL (AV.isl 1 (row encZ lv)) = heapO (dZ dl3) dx2)
 (And ((Option.isSome dx2 = true) →
 Option.isSome dl3 = true)
 (And (∀ (x4 : Int),
 (x4 ∈ Option.getD dx2 []) →
 OkL (Option.getD dl3 []) x4)
 (And (List.length (Option.getD dx2 []) < 500)
 (And ((dx2 = none) →
 (dl3 = none) →
 ∃ (dx5 : Option (List Int × Nat)),
 And ((dx5 = none) →
 And ([AV.nils] = [AV.nils])
 (And (([] : Heap) = [])
 (k AV.nils [] false)))
 (∀ (X6 : List Int),
 ∀ (len7 : Nat),
 (dx5 = some (X6, len7)) →
 And ([AV.nils] = [AV.sl (Pl.mk 0 0 [] (List.length X6)) 1 (List.length X6) 0 len7])
 (And (([] : Heap) = [some (Blk.mk (AV.arr 1 (row encZ X6)) true true)])
 (And (0 < len7)
 (And (len7 ≤ List.length X6)
 (And (len7 < 1000)
 (k (AV.sl (Pl.mk 2 0 [] len7) 1 len7 0 len7) [none, none, some (Blk.mk (AV.arr 1 (row encZ (List.take len7 X6))) true true)] false)))))))
 (And (∀ (lv8 : List Int),
 (dx2 = none) →
 (dl3 = some lv8) →
 ∃ (dx9 : Option (List Int × Nat)),
 And ((dx9 = none) →
 And ([AV.nils] = [AV.nils])
 (And (([] : Heap) = [])
 (k AV.nils [] false)))
 (∀ (X10 : List Int),
 ∀ (len11 : Nat),
 (dx9 = some (X10, len11)) →
 And ([AV.nils] = [AV.sl (Pl.mk 0 0 [] (List.length X10)) 1 (List.length X10) 0 len11])
 (And (([] : Heap) = [some (Blk.mk (AV.arr 1 (row encZ X10)) true true)])
 (And (0 < len11)
 (And (len11 ≤ List.length X10)
 (And (len11 < 1000)
 (k (AV.sl (Pl.mk 2 0 [] len11) 1 len11 0 len11) [none, none, some (Blk.mk (AV.arr 1 (row encZ (List.take len11 X10))) true true)] false)))))))
 (∀ (X12 : List Int),
 ∀ (lv13 : List Int),
 (dx2 = some X12) →
 (dl3 = some lv13) →
 ∀ (W14 : List Int),
 (List.Perm W14 X12) →
 (Srt lv13 W14) →
 ∃ (dx15 : Option (List Int × Nat)),
 And ((dx15 = none) →
 And ([AV.nils] = [AV.nils])
 (And (([] : Heap) = [])
 (k AV.nils [] false)))
 (∀ (X16 : List Int),
 ∀ (len17 : Nat),
 (dx15 = some (X16, len17)) →
 And ([AV.nils] = [AV.sl (Pl.mk 0 0 [] (List.length X16)) 1 (List.length X16) 0 len17])
 (And (([] : Heap) = [some (Blk.mk (AV.arr 1 (row encZ X16)) true true)])
 (And (0 < len17)
 (And (len17 ≤ List.length X16)
 (And (len17 < 1000)
 (k (AV.sl (Pl.mk 3 0 [] len17) 1 len17 0 len17) [none, none, none, some (Blk.mk (AV.arr 1 (row encZ (List.take len17 X16))) true true)] false))))))))))))))) : Prop) := by kernel_rfl
theorem step6jn (N fuel n : Nat) (lv : List Int) (i : Int) (k : AV → Heap → Bool → Prop) :
 (resPS (S F) T6 N 9 fuel 6 2 0 [] p6 (n + 1) ⟨L6 .nils .nils lv i, [], CELL (LV lv), false⟩ k) =
 ((cond (decide (i < (↑(List.length lv) : Int)))
 (cond (decide (0 ≤ i))
 (cond (AV.isIntK (Option.getD (row encZ lv)[Int.toNat i]? AV.bad) IntKind.i64)
 (cond (decide (AV.toInt (Option.getD (row encZ lv)[Int.toNat i]? AV.bad) ≥ 0))
 (∃ (d0 : Option (List Int)),
 ∃ (v1 : Int),
 And ([AV.nils, AV.int IntKind.i64 i] = [dZ d0, AV.int IntKind.i64 v1])
 (And (([] : Heap) = [])
 (And (List.length (Option.getD d0 []) < 1000)
 (cond (!decide (v1 ∈ Option.getD d0 []))
 (resPS (S F) T6 N 9 fuel 6 2 0 [] p6 n (St.mk [(0, AV.bad), (1, AV.nils), (2, AV.ptr (Pl.mk 0 0 [] 1)), (4, AV.bad), (5, AV.sl (Pl.mk 2 0 [] 1) 1 1 0 1), (6, AV.bad), (7, AV.bad), (8, AV.isl 1 (row encZ lv)), (9, AV.int IntKind.i64 (↑(List.length lv) : Int)), (10, AV.int IntKind.i64 (IntKind.wrap IntKind.i64 (i + 1))), (11, AV.bad), (22, AV.bad)] [] [some (Blk.mk (AV.isl 1 (row encZ lv)) false true), none, some (Blk.mk (AV.arr 1 [AV.int IntKind.i64 i]) true true)] false) k)
 (resPS (S F) T6 N 9 fuel 6 2 0 [] p6 n (St.mk [(0, AV.bad), (1, AV.nils), (2, AV.ptr (Pl.mk 0 0 [] 1)), (4, AV.bad), (5, AV.nils), (6, AV.bad), (7, AV.bad), (8, AV.isl 1 (row encZ lv)), (9, AV.int IntKind.i64 (↑(List.length lv) : Int)), (10, AV.int IntKind.i64 (IntKind.wrap IntKind.i64 (i + 1))), (11, AV.bad), (22, AV.bad)] [] (CELL (AV.isl 1 (row encZ lv))) false) k)))))
 (resPS (S F) T6 N 9 fuel 6 2 0 [] p6 n (St.mk [(0, AV.bad), (1, AV.nils), (2, AV.ptr (Pl.mk 0 0 [] 1)), (4, AV.bad), (5, AV.nils), (6, AV.bad), (7, AV.bad), (8, AV.isl 1 (row encZ lv)), (9, AV.int IntKind.i64 (↑(List.length lv) : Int)), (10, AV.int IntKind.i64 (IntKind.wrap IntKind.i64 (i + 1))), (11, AV.bad), (22, AV.bad)] [] (CELL (AV.isl 1 (row encZ lv))) false) k))
 (False))
 (False))
 (∃ (dx2 : Option (List Int)),
 ∃ (dl3 : Option (List Int)),
 And ([AV.nils, AV.func (Fn.func 14) [] [AV.ptr (Pl.mk 0 0 [] 1)]] = [slO dx2, cmpO dx2])
 (And (CELL (AV.isl 1 (row encZ lv)) = heapO (dZ dl3) dx2)
 (And ((Option.isSome dx2 = true) →
 Option.isSome dl3 = true)
 (And (∀ (x4 : Int),
 (x4 ∈ Option.getD dx2 []) →
 OkL (Option.getD dl3 []) x4)
 (And (List.length (Option.getD dx2 []) < 500)
 (And ((dx2 = none) →
 (dl3 = none) →
 ∃ (dx5 : Option (List Int × Nat)),
 And ((dx5 = none) →
 And ([AV.nils] = [AV.nils])
 (And (([] : Heap) = [])
 (k AV.nils [] false)))
 (∀ (X6 : List Int),
 ∀ (len7 : Nat),
 (dx5 = some (X6, len7)) →
 And ([AV.nils] = [AV.sl (Pl.mk 0 0 [] (List.length X6)) 1 (List.length X6) 0 len7])
 (And (([] : Heap) = [some (Blk.mk (AV.arr 1 (row encZ X6)) true true)])
 (And (0 < len7)
 (And (len7 ≤ List.length X6)
 (And (len7 < 1000)
 (k (AV.sl (Pl.mk 2 0 [] len7) 1 len7 0 len7) [none, none, some (Blk.mk (AV.arr 1 (row encZ (List.take len7 X6))) true true)] false)))))))
 (And (∀ (lv8 : List Int),
 (dx2 = none) →
 (dl3 = some lv8) →
 ∃ (dx9 : Option (List Int × Nat)),
 And ((dx9 = none) →
 And ([AV.nils] = [AV.nils])
 (And (([] : Heap) = [])
 (k AV.nils [] false)))
 (∀ (X10 : List Int),
 ∀ (len11 : Nat),
 (dx9 = some (X10, len11)) →
 And ([AV.nils] = [AV.sl (Pl.mk 0 0 [] (List.length X10)) 1 (List.length X10) 0 len11])
 (And (([] : Heap) = [some (Blk.mk (AV.arr 1 (row encZ X10)) true true)])
 (And (0 < len11)
 (And (len11 ≤ List.length X10)
 (And (len11 < 1000)
 (k (AV.sl (Pl.mk 2 0 [] len11) 1 len11 0 len11) [none, none, some (Blk.mk (AV.arr 1 (row encZ (List.take len11 X10))) true true)] false)))))))
 (∀ (X12 : List Int),
 ∀ (lv13 : List Int),
 (dx2 = some X12) →
 (dl3 = some lv13) →
 ∀ (W14 : List Int),
 (List.Perm W14 X12) →
 (Srt lv13 W14) →
 ∃ (dx15 : Option (List Int × Nat)),
 And ((dx15 = none) →
 And ([AV.nils] = [AV.nils])
 (And (([] : Heap) = [])
 (k AV.nils [] false)))
 (∀ (X16 : List Int),
 ∀ (len17 : Nat),
 (dx15 = some (X16, len17)) →
 And ([AV.nils] = [AV.sl (Pl.mk 0 0 [] (List.length X16)) 1 (List.length X16) 0 len17])
 (And (([] : Heap) = [some (Blk.mk (AV.arr 1 (row encZ X16)) true true)])
 (And (0 < len17)
 (And (len17 ≤ List.length X16)
 (And (len17 < 1000)
 (k (AV.sl (Pl.mk 3 0 [] len17) 1 len17 0 len17) [none, none, none, some (Blk.mk (AV.arr 1 (row encZ (List.take len17 X16))) true true)] false))))))))))))))) : Prop) := by kernel_rfl
theorem step6is (N fuel n : Nat) (lv nt D : List Int) (i : Int) (k : AV → Heap → Bool → Prop) :
 (resPS (S F) T6 N 9 fuel 6 2 0 [] p6 (n + 1) ⟨L6 (.isl 1 (row encZ nt)) (.sl ⟨2, 0, [], D.length⟩ 1 D.length 0 D.length) lv i, [], HL lv D, false⟩ k) =
 ((cond (decide (i < (↑(List.length lv) : Int)))
 (cond (decide (0 ≤ i))
 (cond (AV.isIntK (Option.getD (row encZ lv)[Int.toNat i]? AV.bad) IntKind.i64)
 (cond (decide (AV.toInt (Option.getD (row encZ lv)[Int.toNat i]? AV.bad) ≥ 0))
 (∃ (d0 : Option (List Int)),
 ∃ (v1 : Int),
 And ([AV.isl 1 (row encZ nt), AV.int IntKind.i64 i] = [dZ d0, AV.int IntKind.i64 v1])
 (And (([] : Heap) = [])
 (And (List.length (Option.getD d0 []) < 1000)
 (cond (!decide (v1 ∈ Option.getD d0 []))
 (cond (decide (1 * List.length (row encZ D) = List.length D) && decide (List.length (row encZ D) = List.length D) && decide (0 + List.length D ≤ List.length D))
 (cond (decide (0 + List.length D + 1 ≤ List.length D))
 (resPS (S F) T6 N 9 fuel 6 2 0 [] p6 n (St.mk [(0, AV.bad), (1, AV.isl 1 (row encZ nt)), (2, AV.ptr (Pl.mk 0 0 [] 1)), (4, AV.bad), (5, AV.sl (Pl.mk 2 0 [] (List.length D)) 1 (List.length D) 0 (List.length D + 1)), (6, AV.bad), (7, AV.bad), (8, AV.isl 1 (row encZ lv)), (9, AV.int IntKind.i64 (↑(List.length lv) : Int)), (10, AV.int IntKind.i64 (IntKind.wrap IntKind.i64 (i + 1))), (11, AV.bad), (22, AV.bad)] [] [some (Blk.mk (AV.isl 1 (row encZ lv)) false true), none, some (Blk.mk (AV.arr 1 (setMany (row encZ D) (0 + List.length D) [AV.int IntKind.i64 i])) true true)] false) k)
 (cond (true && decide (List.length D = List.length D) && true && decide ((List.length D + 1) * 8 ≤ 70368744177664) && decide (List.length D + 1 ≤ 70368744177664))
 (resPS (S F) T6 N 9 fuel 6 2 0 [] p6 n (St.mk [(0, AV.bad), (1, AV.isl 1 (row encZ nt)), (2, AV.ptr (Pl.mk 0 0 [] 1)), (4, AV.bad), (5, AV.sl (Pl.mk 2 0 [] (1 * (List.length D + 1))) 1 (List.length D + 1) 0 (List.length D + 1)), (6, AV.bad), (7, AV.bad), (8, AV.isl 1 (row encZ lv)), (9, AV.int IntKind.i64 (↑(List.length lv) : Int)), (10, AV.int IntKind.i64 (IntKind.wrap IntKind.i64 (i + 1))), (11, AV.bad), (22, AV.bad)] [] [some (Blk.mk (AV.isl 1 (row encZ lv)) false true), none, some (Blk.mk (AV.arr 1 (row encZ D ++ [AV.int IntKind.i64 i])) true true)] false) k)
 (False)))
 (False))
 (resPS (S F) T6 N 9 fuel 6 2 0 [] p6 n (St.mk [(0, AV.bad), (1, AV.isl 1 (row encZ nt)), (2, AV.ptr (Pl.mk 0 0 [] 1)), (4, AV.bad), (5, AV.sl (Pl.mk 2 0 [] (List.length D)) 1 (List.length D) 0 (List.length D)), (6, AV.bad), (7, AV.bad), (8, AV.isl 1 (row encZ lv)), (9, AV.int IntKind.i64 (↑(List.length lv) : Int)), (10, AV.int IntKind.i64 (IntKind.wrap IntKind.i64 (i + 1))), (11, AV.bad), (22, AV.bad)] [] (HL lv D) false) k)))))
 (resPS (S F) T6 N 9 fuel 6 2 0 [] p6 n (St.mk [(0, AV.bad), (1, AV.isl 1 (row encZ nt)), (2, AV.ptr (Pl.mk 0 0 [] 1)), (4, AV.bad), (5, AV.sl (Pl.mk 2 0 [] (List.length D)) 1 (List.length D) 0 (List.length D)), (6, AV.bad), (7, AV.bad), (8, AV.isl 1 (row encZ lv)), (9, AV.int IntKind.i64 (↑(List.length lv) : Int)), (10, AV.int IntKind.i64 (IntKind.wrap IntKind.i64 (i + 1))), (11, AV.bad), (22, AV.bad)] [] (HL lv D) false) k))
 (False))
 (False))
 (∃ (dx2 : Option (List Int)),
 ∃ (dl3 : Option (List Int)),
 And ([AV.sl (Pl.mk 0 0 [] (List.length D)) 1 (List.length D) 0 (List.length D), AV.func (Fn.func 14) [] [AV.ptr (Pl.mk 1 0 [] 1)]] = [slO dx2, cmpO dx2])
 (And (DH D lv = heapO (dZ dl3) dx2)
 (And ((Option.isSome dx2 = true) →
 Option.isSome dl3 = true)
 (And (∀ (x4 : Int),
 (x4 ∈ Option.getD dx2 []) →
 OkL (Option.getD dl3 []) x4)
 (And (List.length (Option.getD dx2 []) < 500)
 (And ((dx2 = none) →
 (dl3 = none) →
 cond (decide (0 ≤ if 2 < (↑(List.length D) : Int) then (2 : Int) else (↑(List.length D) : Int)))
 (cond (true && decide (0 + Int.toNat (if 2 < (↑(List.length D) : Int) then (2 : Int) else (↑(List.length D) : Int)) ≤ List.length D) && (decide (Int.toNat (if 2 < (↑(List.length D) : Int) then (2 : Int) else (↑(List.length D) : Int)) ≤ List.length D) || decide (some 1 = some (List.length D))))
 (∃ (dx5 : Option (List Int × Nat)),
 And ((dx5 = none) →
 And ([AV.sl (Pl.mk 0 0 [] (List.length D)) 1 (List.length D) 0 (Int.toNat (if 2 < (↑(List.length D) : Int) then (2 : Int) else (↑(List.length D) : Int)) - 0)] = [AV.nils])
 (And (CELL AV.nils = [])
 (k AV.nils [] false)))
 (∀ (X6 : List Int),
 ∀ (len7 : Nat),
 (dx5 = some (X6, len7)) →
 And ([AV.sl (Pl.mk 0 0 [] (List.length D)) 1 (List.length D) 0 (Int.toNat (if 2 < (↑(List.length D) : Int) then (2 : Int) else (↑(List.length D) : Int)) - 0)] = [AV.sl (Pl.mk 0 0 [] (List.length X6)) 1 (List.length X6) 0 len7])
 (And (CELL AV.nils = [some (Blk.mk (AV.arr 1 (row encZ X6)) true true)])
 (And (0 < len7)
 (And (len7 ≤ List.length X6)
 (And (len7 < 1000)
 (k (AV.sl (Pl.mk 3 0 [] len7) 1 len7 0 len7) [none, none, none, some (Blk.mk (AV.arr 1 (row encZ (List.take len7 X6))) true true)] false)))))))
 (False))
 (False))
 (And (∀ (lv8 : List Int),
 (dx2 = none) →
 (dl3 = some lv8) →
 cond (decide (0 ≤ if 2 < (↑(List.length D) : Int) then (2 : Int) else (↑(List.length D) : Int)))
 (cond (true && decide (0 + Int.toNat (if 2 < (↑(List.length D) : Int) then (2 : Int) else (↑(List.length D) : Int)) ≤ List.length D) && (decide (Int.toNat (if 2 < (↑(List.length D) : Int) then (2 : Int) else (↑(List.length D) : Int)) ≤ List.length D) || decide (some 1 = some (List.length D))))
 (∃ (dx9 : Option (List Int × Nat)),
 And ((dx9 = none) →
 And ([AV.sl (Pl.mk 0 0 [] (List.length D)) 1 (List.length D) 0 (Int.toNat (if 2 < (↑(List.length D) : Int) then (2 : Int) else (↑(List.length D) : Int)) - 0)] = [AV.nils])
 (And (CELL (AV.isl 1 (row encZ lv8)) = [])
 (k AV.nils [] false)))
 (∀ (X10 : List Int),
 ∀ (len11 : Nat),
 (dx9 = some (X10, len11)) →
 And ([AV.sl (Pl.mk 0 0 [] (List.length D)) 1 (List.length D) 0 (Int.toNat (if 2 < (↑(List.length D) : Int) then (2 : Int) else (↑(List.length D) : Int)) - 0)] = [AV.sl (Pl.mk 0 0 [] (List.length X10)) 1 (List.length X10) 0 len11])
 (And (CELL (AV.isl 1 (row encZ lv8)) = [some (Blk.mk (AV.arr 1 (row encZ X10)) true true)])
 (And (0 < len11)
 (And (len11 ≤ List.length X10)
 (And (len11 < 1000)
 (k (AV.sl (Pl.mk 3 0 [] len11) 1 len11 0 len11) [none, none, none, some (Blk.mk (AV.arr 1 (row encZ (List.take len11 X10))) true true)] false)))))))
 (False))
 (False))
 (∀ (X12 : List Int),
 ∀ (lv13 : List Int),
 (dx2 = some X12) →
 (dl3 = some lv13) →
 ∀ (W14 : List Int),
 (List.Perm W14 X12) →
 (Srt lv13 W14) →
 cond (decide (0 ≤ if 2 < (↑(List.length D) : Int) then (2 : Int) else (↑(List.length D) : Int)))
 (cond (true && decide (0 + Int.toNat (if 2 < (↑(List.length D) : Int) then (2 : Int) else (↑(List.length D) : Int)) ≤ List.length D) && (decide (Int.toNat (if 2 < (↑(List.length D) : Int) then (2 : Int) else (↑(List.length D) : Int)) ≤ List.length D) || decide (some (AV.flatLen (AV.arr 1 (row encZ W14))) = some (List.length D))))
 (∃ (dx15 : Option (List Int × Nat)),
 And ((dx15 = none) →
 And ([AV.sl (Pl.mk 0 0 [] (List.length D)) 1 (List.length D) 0 (Int.toNat (if 2 < (↑(List.length D) : Int) then (2 : Int) else (↑(List.length D) : Int)) - 0)] = [AV.nils])
 (And ([some (Blk.mk (AV.arr 1 (row encZ W14)) true true)] = [])
 (k AV.nils [] false)))
 (∀ (X16 : List Int),
 ∀ (len17 : Nat),
 (dx15 = some (X16, len17)) →
 And ([AV.sl (Pl.mk 0 0 [] (List.length D)) 1 (List.length D) 0 (Int.toNat (if 2 < (↑(List.length D) : Int) then (2 : Int) else (↑(List.length D) : Int)) - 0)] = [AV.sl (Pl.mk 0 0 [] (List.length X16)) 1 (List.length X16) 0 len17])
 (And ([some (Blk.mk (AV.arr 1 (row encZ W14)) true true)] = [some (Blk.mk (AV.arr 1 (row encZ X16)) true true)])
 (And (0 < len17)
 (And (len17 ≤ List.length X16)
 (And (len17 < 1000)
 (k (AV.sl (Pl.mk 3 0 [] len17) 1 len17 0 len17) [none, none, none, some (Blk.mk (AV.arr 1 (row encZ (List.take len17 X16))) true true)] false)))))))
 (False))
 (False)))))))))) : Prop) := by kernel_rfl
theorem step6js (N fuel n : Nat) (lv D : List Int) (i : Int) (k : AV → Heap → Bool → Prop) :
 (resPS (S F) T6 N 9 fuel 6 2 0 [] p6 (n + 1) ⟨L6 .nils (.sl ⟨2, 0, [], D.length⟩ 1 D.length 0 D.length) lv i, [], HL lv D, false⟩ k) =
 ((cond (decide (i < (↑(List.length lv) : Int)))
 (cond (decide (0 ≤ i))
 (cond (AV.isIntK (Option.getD (row encZ lv)[Int.toNat i]? AV.bad) IntKind.i64)
 (cond (decide (AV.toInt (Option.getD (row encZ lv)[Int.toNat i]? AV.bad) ≥ 0))
 (∃ (d0 : Option (List Int)),
 ∃ (v1 : Int),
 And ([AV.nils, AV.int IntKind.i64 i] = [dZ d0, AV.int IntKind.i64 v1])
 (And (([] : Heap) = [])
 (And (List.length (Option.getD d0 []) < 1000)
 (cond (!decide (v1 ∈ Option.getD d0 []))
 (cond (decide (1 * List.length (row encZ D) = List.length D) && decide (List.length (row encZ D) = List.length D) && decide (0 + List.length D ≤ List.length D))
 (cond (decide (0 + List.length D + 1 ≤ List.length D))
 (resPS (S F) T6 N 9 fuel 6 2 0 [] p6 n (St.mk [(0, AV.bad), (1, AV.nils), (2, AV.ptr (Pl.mk 0 0 [] 1)), (4, AV.bad), (5, AV.sl (Pl.mk 2 0 [] (List.length D)) 1 (List.length D) 0 (List.length D + 1)), (6, AV.bad), (7, AV.bad), (8, AV.isl 1 (row encZ lv)), (9, AV.int IntKind.i64 (↑(List.length lv) : Int)), (10, AV.int IntKind.i64 (IntKind.wrap IntKind.i64 (i + 1))), (11, AV.bad), (22, AV.bad)] [] [some (Blk.mk (AV.isl 1 (row encZ lv)) false true), none, some (Blk.mk (AV.arr 1 (setMany (row encZ D) (0 + List.length D) [AV.int IntKind.i64 i])) true true)] false) k)
 (cond (true && decide (List.length D = List.length D) && true && decide ((List.length D + 1) * 8 ≤ 70368744177664) && decide (List.length D + 1 ≤ 70368744177664))
 (resPS (S F) T6 N 9 fuel 6 2 0 [] p6 n (St.mk [(0, AV.bad), (1, AV.nils), (2, AV.ptr (Pl.mk 0 0 [] 1)), (4, AV.bad), (5, AV.sl (Pl.mk 2 0 [] (1 * (List.length D + 1))) 1 (List.length D + 1) 0 (List.length D + 1)), (6, AV.bad), (7, AV.bad), (8, AV.isl 1 (row encZ lv)), (9, AV.int IntKind.i64 (↑(List.length lv) : Int)), (10, AV.int IntKind.i64 (IntKind.wrap IntKind.i64 (i + 1))), (11, AV.bad), (22, AV.bad)] [] [some (Blk.mk (AV.isl 1 (row encZ lv)) false true), none, some (Blk.mk (AV.arr 1 (row encZ D ++ [AV.int IntKind.i64 i])) true true)] false) k)
 (False)))
 (False))
 (resPS (S F) T6 N 9 fuel 6 2 0 [] p6 n (St.mk [(0, AV.bad), (1, AV.nils), (2, AV.ptr (Pl.mk 0 0 [] 1)), (4, AV.bad), (5, AV.sl (Pl.mk 2 0 [] (List.length D)) 1 (List.length D) 0 (List.length D)), (6, AV.bad), (7, AV.bad), (8, AV.isl 1 (row encZ lv)), (9, AV.int IntKind.i64 (↑(List.length lv) : Int)), (10, AV.int IntKind.i64 (IntKind.wrap IntKind.i64 (i + 1))), (11, AV.bad), (22, AV.bad)] [] (HL lv D) false) k)))))
 (resPS (S F) T6 N 9 fuel 6 2 0 [] p6 n (St.mk [(0, AV.bad), (1, AV.nils), (2, AV.ptr (Pl.mk 0 0 [] 1)), (4, AV.bad), (5, AV.sl (Pl.mk 2 0 [] (List.length D)) 1 (List.length D) 0 (List.length D)), (6, AV.bad), (7, AV.bad), (8, AV.isl 1 (row encZ lv)), (9, AV.int IntKind.i64 (↑(List.length lv) : Int)), (10, AV.int IntKind.i64 (IntKind.wrap IntKind.i64 (i + 1))), (11, AV.bad), (22, AV.bad)] [] (HL lv D) false) k))
 (False))
 (False))
 (∃ (dx2 : Option (List Int)),
 ∃ (dl3 : Option (List Int)),
 And ([AV.sl (Pl.mk 0 0 [] (List.length D)) 1 (List.length D) 0 (List.length D), AV.func (Fn.func 14) [] [AV.ptr (Pl.mk 1 0 [] 1)]] = [slO dx2, cmpO dx2])
 (And (DH D lv = heapO (dZ dl3) dx2)
 (And ((Option.isSome dx2 = true) →
 Option.isSome dl3 = true)
 (And (∀ (x4 : Int),
 (x4 ∈ Option.getD dx2 []) →
 OkL (Option.getD dl3 []) x4)
 (And (List.length (Option.getD dx2 []) < 500)
 (And ((dx2 = none) →
 (dl3 = none) →
 cond (decide (0 ≤ if 2 < (↑(List.length D) : Int) then (2 : Int) else (↑(List.length D) : Int)))
 (cond (true && decide (0 + Int.toNat (if 2 < (↑(List.length D) : Int) then (2 : Int) else (↑(List.length D) : Int)) ≤ List.length D) && (decide (Int.toNat (if 2 < (↑(List.length D) : Int) then (2 : Int) else (↑(List.length D) : Int)) ≤ List.length D) || decide (some 1 = some (List.length D))))
 (∃ (dx5 : Option (List Int × Nat)),
 And ((dx5 = none) →
 And ([AV.sl (Pl.mk 0 0 [] (List.length D)) 1 (List.length D) 0 (Int.toNat (if 2 < (↑(List.length D) : Int) then (2 : Int) else (↑(List.length D) : Int)) - 0)] = [AV.nils])
 (And (CELL AV.nils = [])
 (k AV.nils [] false)))
 (∀ (X6 : List Int),
 ∀ (len7 : Nat),
 (dx5 = some (X6, len7)) →
 And ([AV.sl (Pl.mk 0 0 [] (List.length D)) 1 (List.length D) 0 (Int.toNat (if 2 < (↑(List.length D) : Int) then (2 : Int) else (↑(List.length D) : Int)) - 0)] = [AV.sl (Pl.mk 0 0 [] (List.length X6)) 1 (List.length X6) 0 len7])
 (And (CELL AV.nils = [some (Blk.mk (AV.arr 1 (row encZ X6)) true true)])
 (And (0 < len7)
 (And (len7 ≤ List.length X6)
 (And (len7 < 1000)
 (k (AV.sl (Pl.mk 3 0 [] len7) 1 len7 0 len7) [none, none, none, some (Blk.mk (AV.arr 1 (row encZ (List.take len7 X6))) true true)] false)))))))
 (False))
 (False))
 (And (∀ (lv8 : List Int),
 (dx2 = none) →
 (dl3 = some lv8) →
 cond (decide (0 ≤ if 2 < (↑(List.length D) : Int) then (2 : Int) else (↑(List.length D) : Int)))
 (cond (true && decide (0 + Int.toNat (if 2 < (↑(List.length D) : Int) then (2 : Int) else (↑(List.length D) : Int)) ≤ List.length D) && (decide (Int.toNat (if 2 < (↑(List.length D) : Int) then (2 : Int) else (↑(List.length D) : Int)) ≤ List.length D) || decide (some 1 = some (List.length D))))
 (∃ (dx9 : Option (List Int × Nat)),
 And ((dx9 = none) →
 And ([AV.sl (Pl.mk 0 0 [] (List.length D)) 1 (List.length D) 0 (Int.toNat (if 2 < (↑(List.length D) : Int) then (2 : Int) else (↑(List.length D) : Int)) - 0)] = [AV.nils])
 (And (CELL (AV.isl 1 (row encZ lv8)) = [])
 (k AV.nils [] false)))
 (∀ (X10 : List Int),
 ∀ (len11 : Nat),
 (dx9 = some (X10, len11)) →
 And ([AV.sl (Pl.mk 0 0 [] (List.length D)) 1 (List.length D) 0 (Int.toNat (if 2 < (↑(List.length D) : Int) then (2 : Int) else (↑(List.length D) : Int)) - 0)] = [AV.sl (Pl.mk 0 0 [] (List.length X10)) 1 (List.length X10) 0 len11])
 (And (CELL (AV.isl 1 (row encZ lv8)) = [some (Blk.mk (AV.arr 1 (row encZ X10)) true true)])
 (And (0 < len11)
 (And (len11 ≤ List.length X10)
 (And (len11 < 1000)
 (k (AV.sl (Pl.mk 3 0 [] len11) 1 len11 0 len11) [none, none, none, some (Blk.mk (AV.arr 1 (row encZ (List.take len11 X10))) true true)] false)))))))
 (False))
 (False))
 (∀ (X12 : List Int),
 ∀ (lv13 : List Int),
 (dx2 = some X12) →
 (dl3 = some lv13) →
 ∀ (W14 : List Int),
 (List.Perm W14 X12) →
 (Srt lv13 W14) →
 cond (decide (0 ≤ if 2 < (↑(List.length D) : Int) then (2 : Int) else (↑(List.length D) : Int)))
 (cond (true && decide (0 + Int.toNat (if 2 < (↑(List.length D) : Int) then (2 : Int) else (↑(List.length D) : Int)) ≤ List.length D) && (decide (Int.toNat (if 2 < (↑(List.length D) : Int) then (2 : Int) else (↑(List.length D) : Int)) ≤ List.length D) || decide (some (AV.flatLen (AV.arr 1 (row encZ W14))) = some (List.length D))))
 (∃ (dx15 : Option (List Int × Nat)),
 And ((dx15 = none) →
 And ([AV.sl (Pl.mk 0 0 [] (List.length D)) 1 (List.length D) 0 (Int.toNat (if 2 < (↑(List.length D) : Int) then (2 : Int) else (↑(List.length D) : Int)) - 0)] = [AV.nils])
 (And ([some (Blk.mk (AV.arr 1 (row encZ W14)) true true)] = [])
 (k AV.nils [] false)))
 (∀ (X16 : List Int),
 ∀ (len17 : Nat),
 (dx15 = some (X16, len17)) →
 And ([AV.sl (Pl.mk 0 0 [] (List.length D)) 1 (List.length D) 0 (Int.toNat (if 2 < (↑(List.length D) : Int) then (2 : Int) else (↑(List.length D) : Int)) - 0)] = [AV.sl (Pl.mk 0 0 [] (List.length X16)) 1 (List.length X16) 0 len17])
 (And ([some (Blk.mk (AV.arr 1 (row encZ W14)) true true)] = [some (Blk.mk (AV.arr 1 (row encZ X16)) true true)])
 (And (0 < len17)
 (And (len17 ≤ List.length X16)
 (And (len17 < 1000)
 (k (AV.sl (Pl.mk 3 0 [] len17) 1 len17 0 len17) [none, none, none, some (Blk.mk (AV.arr 1 (row encZ (List.take len17 X16))) true true)] false)))))))
 (False))
 (False)))))))))) : Prop) := by kernel_rfl
theorem start6n (N fuel : Nat) (nt : List Int) (k : AV → Heap → Bool → Prop) :
 (runP (S F) T6 N 9 (fuel + 1) 6 [.nils, .isl 1 (row encZ nt)] [] k) =
 ((∃ (dx0 : Option (List Int)),
 ∃ (dl1 : Option (List Int)),
 And ([AV.nils, AV.func (Fn.func 14) [] [AV.ptr (Pl.mk 0 0 [] 1)]] = [slO dx0, cmpO dx0])
 (And (CELL AV.nils = heapO (dZ dl1) dx0)
 (And ((Option.isSome dx0 = true) →
 Option.isSome dl1 = true)
 (And (∀ (x2 : Int),
 (x2 ∈ Option.getD dx0 []) →
 OkL (Option.getD dl1 []) x2)
 (And (List.length (Option.getD dx0 []) < 500)
 (And ((dx0 = none) →
 (dl1 = none) →
 ∃ (dx3 : Option (List Int × Nat)),
 And ((dx3 = none) →
 And ([AV.nils] = [AV.nils])
 (And (([] : Heap) = [])
 (k AV.nils [] false)))
 (∀ (X4 : List Int),
 ∀ (len5 : Nat),
 (dx3 = some (X4, len5)) →
 And ([AV.nils] = [AV.sl (Pl.mk 0 0 [] (List.length X4)) 1 (List.length X4) 0 len5])
 (And (([] : Heap) = [some (Blk.mk (AV.arr 1 (row encZ X4)) true true)])
 (And (0 < len5)
 (And (len5 ≤ List.length X4)
 (And (len5 < 1000)
 (k (AV.sl (Pl.mk 2 0 [] len5) 1 len5 0 len5) [none, none, some (Blk.mk (AV.arr 1 (row encZ (List.take len5 X4))) true true)] false)))))))
 (And (∀ (lv6 : List Int),
 (dx0 = none) →
 (dl1 = some lv6) →
 ∃ (dx7 : Option (List Int × Nat)),
 And ((dx7 = none) →
 And ([AV.nils] = [AV.nils])
 (And (([] : Heap) = [])
 (k AV.nils [] false)))
 (∀ (X8 : List Int),
 ∀ (len9 : Nat),
 (dx7 = some (X8, len9)) →
 And ([AV.nils] = [AV.sl (Pl.mk 0 0 [] (List.length X8)) 1 (List.length X8) 0 len9])
 (And (([] : Heap) = [some (Blk.mk (AV.arr 1 (row encZ X8)) true true)])
 (And (0 < len9)
 (And (len9 ≤ List.length X8)
 (And (len9 < 1000)
 (k (AV.sl (Pl.mk 2 0 [] len9) 1 len9 0 len9) [none, none, some (Blk.mk (AV.arr 1 (row encZ (List.take len9 X8))) true true)] false)))))))
 (∀ (X10 : List Int),
 ∀ (lv11 : List Int),
 (dx0 = some X10) →
 (dl1 = some lv11) →
 ∀ (W12 : List Int),
 (List.Perm W12 X10) →
 (Srt lv11 W12) →
 ∃ (dx13 : Option (List Int × Nat)),
 And ((dx13 = none) →
 And ([AV.nils] = [AV.nils])
 (And (([] : Heap) = [])
 (k AV.nils [] false)))
 (∀ (X14 : List Int),
 ∀ (len15 : Nat),
 (dx13 = some (X14, len15)) →
 And ([AV.nils] = [AV.sl (Pl.mk 0 0 [] (List.length X14)) 1 (List.length X14) 0 len15])
 (And (([] : Heap) = [some (Blk.mk (AV.arr 1 (row encZ X14)) true true)])
 (And (0 < len15)
 (And (len15 ≤ List.length X14)
 (And (len15 < 1000)
 (k (AV.sl (Pl.mk 3 0 [] len15) 1 len15 0 len15) [none, none, none, some (Blk.mk (AV.arr 1 (row encZ (List.take len15 X14))) true true)] false)))))))))))))) : Prop) := by kernel_rfl
theorem start6m (N fuel : Nat) (k : AV → Heap → Bool → Prop) :
 (runP (S F) T6 N 9 (fuel + 1) 6 [.nils, .nils] [] k) =
 ((∃ (dx0 : Option (List Int)),
 ∃ (dl1 : Option (List Int)),
 And ([AV.nils, AV.func (Fn.func 14) [] [AV.ptr (Pl.mk 0 0 [] 1)]] = [slO dx0, cmpO dx0])
 (And (CELL AV.nils = heapO (dZ dl1) dx0)
 (And ((Option.isSome dx0 = true) →
 Option.isSome dl1 = true)
 (And (∀ (x2 : Int),
 (x2 ∈ Option.getD dx0 []) →
 OkL (Option.getD dl1 []) x2)
 (And (List.length (Option.getD dx0 []) < 500)
 (And ((dx0 = none) →
 (dl1 = none) →
 ∃ (dx3 : Option (List Int × Nat)),
 And ((dx3 = none) →
 And ([AV.nils] = [AV.nils])
 (And (([] : Heap) = [])
 (k AV.nils [] false)))
 (∀ (X4 : List Int),
 ∀ (len5 : Nat),
 (dx3 = some (X4, len5)) →
 And ([AV.nils] = [AV.sl (Pl.mk 0 0 [] (List.length X4)) 1 (List.length X4) 0 len5])
 (And (([] : Heap) = [some (Blk.mk (AV.arr 1 (row encZ X4)) true true)])
 (And (0 < len5)
 (And (len5 ≤ List.length X4)
 (And (len5 < 1000)
 (k (AV.sl (Pl.mk 2 0 [] len5) 1 len5 0 len5) [none, none, some (Blk.mk (AV.arr 1 (row encZ (List.take len5 X4))) true true)] false)))))))
 (And (∀ (lv6 : List Int),
 (dx0 = none) →
 (dl1 = some lv6) →
 ∃ (dx7 : Option (List Int × Nat)),
 And ((dx7 = none) →
 And ([AV.nils] = [AV.nils])
 (And (([] : Heap) = [])
 (k AV.nils [] false)))
 (∀ (X8 : List Int),
 ∀ (len9 : Nat),
 (dx7 = some (X8, len9)) →
 And ([AV.nils] = [AV.sl (Pl.mk 0 0 [] (List.length X8)) 1 (List.length X8) 0 len9])
 (And (([] : Heap) = [some (Blk.mk (AV.arr 1 (row encZ X8)) true true)])
 (And (0 < len9)
 (And (len9 ≤ List.length X8)
 (And (len9 < 1000)
 (k (AV.sl (Pl.mk 2 0 [] len9) 1 len9 0 len9) [none, none, some (Blk.mk (AV.arr 1 (row encZ (List.take len9 X8))) true true)] false)))))))
 (∀ (X10 : List Int),
 ∀ (lv11 : List Int),
 (dx0 = some X10) →
 (dl1 = some lv11) →
 ∀ (W12 : List Int),
 (List.Perm W12 X10) →
 (Srt lv11 W12) →
 ∃ (dx13 : Option (List Int × Nat)),
 And ((dx13 = none) →
 And ([AV.nils] = [AV.nils])
 (And (([] : Heap) = [])
 (k AV.nils [] false)))
 (∀ (X14 : List Int),
 ∀ (len15 : Nat),
 (dx13 = some (X14, len15)) →
 And ([AV.nils] = [AV.sl (Pl.mk 0 0 [] (List.length X14)) 1 (List.length X14) 0 len15])
 (And (([] : Heap) = [some (Blk.mk (AV.arr 1 (row encZ X14)) true true)])
 (And (0 < len15)
 (And (len15 ≤ List.length X14)
 (And (len15 < 1000)
 (k (AV.sl (Pl.mk 3 0 [] len15) 1 len15 0 len15) [none, none, none, some (Blk.mk (AV.arr 1 (row encZ (List.take len15 X14))) true true)] false)))))))))))))) : Prop) := by kernel_rfl
end Go.Proofs.Ytiiddampachhlaa
/-
  VictimTwo: the two of least live, told.
-/
namespace Go.Proofs.Ytiiddampachhlaa
open Go Go.X
variable {F : Nat}
theorem loop17 (N fuel : Nat) (xs : List Int) (v : Int) (k : AV → Heap → Bool → Prop) (hl : xs.length < 1000) (hk : ∀ r : Int, (0 ≤ r ↔ v ∈ xs) → k (.int .i64 r) [] false) : ∀ (d j n : Nat), j + d = xs.length → d < n → (∀ c (h : c < xs.length), c < j → xs[c] ≠ v) →
    resPS (S F) T0 N 9 fuel 17 2 0 [] [true, false, true] n ⟨L17 xs v j, [], [], false⟩ k
  | d, j, 0, _, hn, _ => by omega
  | 0, j, n + 1, hd, _, hq => by
    rw [step17]
    refine condF (decide_eq_false (by omega)) (hk _ ⟨fun h => by omega, fun h => ?_⟩)
    obtain ⟨c, hc, rfl⟩ := List.getElem_of_mem h
    exact absurd rfl (hq c hc (by omega))
  | d + 1, j, n + 1, hd, hn, hq => by
    have hj : j < xs.length := by omega
    have hw : IntKind.wrap .i64 ((j : Int) + 1) = ((j + 1 : Nat) : Int) := by rw [wrapI (by omega)]; omega
    have hg : (row encZ xs)[Int.toNat (j : Int)]?.getD .bad = .int .i64 xs[j] := by simp [row, hj]; rfl
    rw [step17]
    refine condT (decide_eq_true (by omega)) (condT (by simp) ?_)
    rw [hg]
    refine condT rfl ?_
    by_cases he : v = xs[j]
    · refine condT (by simpa using he) (hk _ ⟨fun _ => by rw [he]; exact List.getElem_mem _, fun _ => by omega⟩)
    · refine condF (by simpa using he) ?_
      rw [hw]
      exact loop17 N fuel xs v k hl hk d (j + 1) n (by omega) (by omega) (fun c hc hcj => by
        rcases Nat.lt_or_eq_of_le (Nat.lt_succ_iff.1 hcj) with h | rfl
        · exact hq c hc h
        · exact fun h => he h.symm)
theorem idx17 (N : Nat) (args : List AV) (H : Heap) (k : AV → Heap → Bool → Prop) : t17 args H k → runP (S F) T0 N 9 (S F).fu 17 args H k := by
  rintro ⟨d, v, rfl, rfl, hl, hk⟩
  cases d with
  | none =>
    show runP (S F) T0 N 9 (F + 4999 + 1) 17 [.nils, .int .i64 v] [] k
    rw [nil17]
    exact hk _ (by simp)
  | some xs =>
    show runP (S F) T0 N 9 (S F).fu 17 [.isl 1 (row encZ xs), .int .i64 v] [] k
    rw [start17]
    have := loop17 (F := F) N (S F).fu xs v k hl hk xs.length 0 (S F).fu (by omega) (by have : xs.length < 1000 := hl; rw [S_fu]; omega) (fun c _ h => by omega)
    simpa using this
theorem has12 (N : Nat) (args : List AV) (H : Heap) (k : AV → Heap → Bool → Prop) : t12 args H k → runP (S F) T12 N 9 (S F).fu 12 args H k := by
  rintro ⟨d, v, rfl, rfl, hl, hk⟩
  have key : ∀ r : Int, (0 ≤ r ↔ v ∈ d.getD []) → k (.bool (decide (r ≥ 0))) [] false := fun r hr => by
    have : decide (r ≥ 0) = decide (v ∈ d.getD []) := by simp only [ge_iff_le, hr]
    rw [this]
    exact hk
  cases d with
  | none =>
    show runP (S F) T12 N 9 (S F).fu 12 [.nils, .int .i64 v] [] k
    rw [tree12n]
    exact ⟨none, v, rfl, rfl, hl, key⟩
  | some xs =>
    show runP (S F) T12 N 9 (S F).fu 12 [.isl 1 (row encZ xs), .int .i64 v] [] k
    rw [tree12i]
    exact ⟨some xs, v, rfl, rfl, hl, key⟩
theorem ins19n (N : Nat) (args : List AV) (H : Heap) (k : AV → Heap → Bool → Prop) : t19n args H k → runP (S F) T0 N 9 (S F).fu 19 args H k := by
  rintro ⟨dl, rfl, rfl, h0, h1⟩
  cases dl with
  | none => exact (tree19n0 (F := F) N (F + 4999) k).symm ▸ h0 rfl
  | some lv => exact (tree19n1 (F := F) N (F + 4999) lv k).symm ▸ h1 lv rfl
theorem stb18n (N : Nat) (args : List AV) (H : Heap) (k : AV → Heap → Bool → Prop) : t18n args H k → runP (S F) T18n N 9 (S F).fu 18 args H k := by
  rintro ⟨dl, rfl, rfl, h0, h1⟩
  cases dl with
  | none =>
    refine (tree18n0 (F := F) N (F + 4999) k).symm ▸ ?_
    exact ⟨none, rfl, rfl, (fun _ => h0 rfl), (fun lv h => by cases h)⟩
  | some lv =>
    refine (tree18n1 (F := F) N (F + 4999) lv k).symm ▸ ?_
    exact ⟨some lv, rfl, rfl, (fun h => by cases h), (fun lv' h => by cases h; exact h1 lv rfl)⟩
theorem srt13n (N : Nat) (args : List AV) (H : Heap) (k : AV → Heap → Bool → Prop) : t13n args H k → runP (S F) T13n N 9 (S F).fu 13 args H k := by
  rintro ⟨dl, rfl, rfl, h0, h1⟩
  cases dl with
  | none =>
    refine (tree13n0 (F := F) N (S F).fu k).symm ▸ ?_
    exact ⟨none, rfl, rfl, (fun _ => h0 rfl), (fun lv h => by cases h)⟩
  | some lv =>
    refine (tree13n1 (F := F) N (S F).fu lv k).symm ▸ ?_
    exact ⟨some lv, rfl, rfl, (fun h => by cases h), (fun lv' h => by cases h; exact h1 lv rfl)⟩
theorem cln15 (N : Nat) (args : List AV) (H : Heap) (k : AV → Heap → Bool → Prop) : t15o args H k → runP (S F) T0 N 9 (S F).fu 15 args H k := by
  rintro ⟨dx, h0, h1⟩
  cases dx with
  | none =>
    obtain ⟨rfl, rfl, hk⟩ := h0 rfl
    rw [tree15n]
    exact hk
  | some p =>
    obtain ⟨X, len⟩ := p
    obtain ⟨rfl, rfl, hp, hl, hs, hk⟩ := h1 X len rfl
    rw [tree15]
    have e : List.take len (List.drop 0 (row encZ X)) = row encZ (X.take len) := by simp [row]
    have le : (row encZ (X.take len)).length = len := by simp; omega
    refine condT (by rw [row_flatLen]; simp) (condT (by simp) (condT (decide_eq_true (by omega)) ?_))
    rw [e, le]
    have e1 : reflessL (row encZ (X.take len)) = true := reflessL_row (fun x => rfl) _
    refine condT ?_ (condF (decide_eq_false (by omega)) (condT (by simp; omega) ?_))
    · rw [e1]
      simp only [row, Bool.true_and, List.all_map, List.all_eq_true]
      intro x _
      rfl
    · simpa using hk
/-- Those that may be chosen. -/
def selF (lv nt : List Int) : Nat → Nat → List Int
  | 0, _ => []
  | d + 1, i => if 0 ≤ key lv i ∧ ¬ (i : Int) ∈ nt then (i : Int) :: selF lv nt d (i + 1) else selF lv nt d (i + 1)
theorem selF_mem {lv nt : List Int} : ∀ (d i : Nat) (x : Int), x ∈ selF lv nt d i ↔ ∃ s : Nat, x = s ∧ i ≤ s ∧ s < i + d ∧ 0 ≤ key lv s ∧ ¬ (s : Int) ∈ nt
  | 0, i, x => by simp [selF]; omega
  | d + 1, i, x => by
    unfold selF
    split
    · rename_i h
      rw [List.mem_cons, selF_mem d (i + 1) x]
      constructor
      · rintro (rfl | ⟨s, rfl, h1, h2, h3, h4⟩)
        · exact ⟨i, rfl, Nat.le_refl _, by omega, h⟩
        · exact ⟨s, rfl, by omega, by omega, h3, h4⟩
      · rintro ⟨s, rfl, h1, h2, h3, h4⟩
        by_cases hs : s = i
        · subst hs; exact .inl rfl
        · exact .inr ⟨s, rfl, by omega, by omega, h3, h4⟩
    · rename_i h
      rw [selF_mem d (i + 1) x]
      constructor
      · rintro ⟨s, rfl, h1, h2, h3, h4⟩
        exact ⟨s, rfl, by omega, by omega, h3, h4⟩
      · rintro ⟨s, rfl, h1, h2, h3, h4⟩
        by_cases hs : s = i
        · subst hs; exact absurd ⟨h3, h4⟩ h
        · exact ⟨s, rfl, by omega, by omega, h3, h4⟩
theorem selF_nodup {lv nt : List Int} : ∀ (d i : Nat), (selF lv nt d i).Nodup
  | 0, i => by simp [selF]
  | d + 1, i => by
    unfold selF
    split
    · refine List.nodup_cons.2 ⟨fun h => ?_, selF_nodup d (i + 1)⟩
      obtain ⟨s, h1, h2, _⟩ := (selF_mem d (i + 1) _).1 h
      omega
    · exact selF_nodup d (i + 1)
theorem selF_len {lv nt : List Int} : ∀ (d i : Nat), (selF lv nt d i).length ≤ d
  | 0, i => by simp [selF]
  | d + 1, i => by
    have := selF_len (lv := lv) (nt := nt) d (i + 1)
    unfold selF
    split
    · simp; omega
    · omega
abbrev R6 (l2 : List Int) (k : AV → Heap → Bool → Prop) : Prop := (l2 = [] → k .nils [] false) ∧ (l2 ≠ [] → k (.sl ⟨3, 0, [], l2.length⟩ 1 l2.length 0 l2.length) [none, none, none, some ⟨.arr 1 (row encZ l2), true, true⟩] false)
set_option maxHeartbeats 2000000 in
theorem loop6s (N fuel : Nat) (lv : List Int) (dn : Option (List Int)) (T : List Int) (k : AV → Heap → Bool → Prop) (hl : lv.length < 400) (hn : (dn.getD []).length < 400) (hT : T = selF lv (dn.getD []) lv.length 0) (hb : ∀ x, x ∈ lv → x < 2 ^ 63)
    (hk : ∀ l2 W : List Int, W.Perm T → Srt lv W → l2 = W.take 2 → R6 l2 k) : ∀ (d i n : Nat) (D : List Int), i + d = lv.length → d < n → D ≠ [] → D ++ selF lv (dn.getD []) d i = T →
    resPS (S F) T6 N 9 fuel 6 2 0 [] p6 n ⟨L6 (dZ dn) (.sl ⟨2, 0, [], D.length⟩ 1 D.length 0 D.length) lv i, [], HL lv D, false⟩ k
  | d, i, 0, D, _, hn', _, _ => by omega
  | 0, i, n + 1, D, hd, _, hD, hDT => by
    have hTD : D = T := by simpa [selF] using hDT
    have hlen : T.length ≤ lv.length := by rw [hT]; exact selF_len _ _
    have ho : ∀ x, x ∈ D → OkL lv x := fun x hx => by
      rw [hTD, hT] at hx
      obtain ⟨s, rfl, h1, h2, h3, h4⟩ := (selF_mem _ _ _).1 hx
      refine ⟨by omega, by omega, h3, ?_⟩
      have hs : s < lv.length := by omega
      have : key lv s = lv[s] := by simp [key, hs]
      rw [this]
      exact hb _ (List.getElem_mem _)
    have hDp : 0 < D.length := List.length_pos_iff.2 hD
    have hDl : D.length ≤ lv.length := by rw [hTD]; exact hlen
    rcases dn with _ | nt
    all_goals
      simp only [dZ]
      first | rw [step6js] | rw [step6is]
      refine condF (decide_eq_false (by omega)) ⟨some D, some lv, rfl, rfl, fun _ => rfl, ho, by simp; omega, (fun h => by cases h), (fun _ h => by cases h), ?_⟩
      intro X lv' hX hlv W hp hs
      cases hX
      cases hlv
      have hm : Int.toNat (if 2 < (D.length : Int) then (2 : Int) else (D.length : Int)) = min 2 D.length := by split <;> omega
      have hW := hp.length_eq
      refine condT (by split <;> simp) (condT (by rw [hm]; simp; omega) ?_)
      rw [hm]
      refine ⟨some (W, min 2 D.length), (fun h => by cases h), ?_⟩
      intro X' len hX'
      cases hX'
      refine ⟨by rw [hW]; rfl, rfl, by omega, by omega, by omega, ?_⟩
      have := (hk (W.take 2) W (hTD ▸ hp) hs rfl).2 (List.ne_nil_of_length_pos (by rw [List.length_take]; omega))
      have e : W.take (min 2 D.length) = W.take 2 := by rw [← hW, ← List.take_take, List.take_length]
      have e2 : (W.take 2).length = min 2 D.length := by rw [List.length_take, hW]
      rw [e]
      rw [e2] at this
      exact this
  | d + 1, i, n + 1, D, hd, hn', hD, hDT => by
    have hi : i < lv.length := by omega
    have hw : IntKind.wrap .i64 ((i : Int) + 1) = ((i + 1 : Nat) : Int) := by rw [wrapI (by omega)]; omega
    have hg : (row encZ lv)[Int.toNat (i : Int)]?.getD .bad = .int .i64 lv[i] := by simp [row, hi]; rfl
    have hkey : key lv i = lv[i] := by simp [key, hi]
    have hlen : T.length ≤ lv.length := by rw [hT]; exact selF_len _ _
    have hDl : D.length ≤ T.length := by rw [← hDT]; simp
    have ih := loop6s N fuel lv dn T k hl hn hT hb hk d (i + 1) n
    unfold selF at hDT
    have hskip : ¬ (0 ≤ key lv i ∧ ¬ (i : Int) ∈ dn.getD []) → resPS (S F) T6 N 9 fuel 6 2 0 [] p6 n ⟨L6 (dZ dn) (.sl ⟨2, 0, [], D.length⟩ 1 D.length 0 D.length) lv ((i + 1 : Nat) : Int), [], HL lv D, false⟩ k := fun h => by
      rw [if_neg h] at hDT
      exact ih D (by omega) (by omega) hD hDT
    have hadd : (0 ≤ key lv i ∧ ¬ (i : Int) ∈ dn.getD []) → resPS (S F) T6 N 9 fuel 6 2 0 [] p6 n ⟨L6 (dZ dn) (.sl ⟨2, 0, [], (D ++ [(i : Int)]).length⟩ 1 (D ++ [(i : Int)]).length 0 (D ++ [(i : Int)]).length) lv ((i + 1 : Nat) : Int), [], HL lv (D ++ [(i : Int)]), false⟩ k := fun h => by
      rw [if_pos h] at hDT
      exact ih (D ++ [(i : Int)]) (by omega) (by omega) (by simp) (by simpa using hDT)
    clear ih hDT
    have hdec := Decidable.em ((i : Int) ∈ dn.getD [])
    rcases dn with _ | nt
    all_goals
      simp only [dZ] at hskip hadd ⊢
      first | rw [step6js] | rw [step6is]
      refine condT (decide_eq_true (by omega)) (condT (by simp) ?_)
      rw [hg, hw]
      refine condT rfl ?_
      by_cases h0 : lv[i] ≥ 0
      · refine condT (decide_eq_true h0) ?_
        first | refine ⟨none, (i : Int), rfl, rfl, by omega, ?_⟩ | refine ⟨some nt, (i : Int), rfl, rfl, by omega, ?_⟩
        rcases hdec with h1 | h1
        · refine condF (by rw [decide_eq_true h1]; rfl) (hskip (fun h => h.2 h1))
        · refine condT (by rw [decide_eq_false h1]; rfl) ?_
          have := hadd ⟨by rw [hkey]; exact h0, h1⟩
          refine condT (by simp) (condF (by simp) (condT (by simp; omega) ?_))
          have e1 : (D ++ [(i : Int)]).length = D.length + 1 := by simp
          have e2 : row encZ (D ++ [(i : Int)]) = row encZ D ++ [AV.int IntKind.i64 i] := by simp [row]; rfl
          rw [e1] at this
          unfold HL at this
          rw [e2] at this
          rw [Nat.one_mul]
          exact this
      · refine condF (decide_eq_false h0) (hskip (fun h => h0 (by rw [← hkey]; exact h.1)))
end Go.Proofs.Ytiiddampachhlaa
/-
  VictimTwo: the law's table.
-/
namespace Go.Proofs.Ytiiddampachhlaa
open Go Go.X
variable {F : Nat}
def HR (l2 : List Int) : Heap := [none, none, none, some ⟨.arr 1 (row encZ l2), true, true⟩]
def t6 : PT := fun args H k => ∃ (lv : List Int) (dn : Option (List Int)), args = [LV lv, dZ dn] ∧ H = [] ∧ lv.length < 400 ∧ (dn.getD []).length < 400 ∧ (∀ x, x ∈ lv → x < 2 ^ 63) ∧
  ∀ l2 W : List Int, W.Perm (selF lv (dn.getD []) lv.length 0) → Srt lv W → l2 = W.take 2 → R6 l2 k
def t6n : PT := fun args H k => ∃ (dn : Option (List Int)), args = [.nils, dZ dn] ∧ H = [] ∧ k .nils [] false
def T3 : FuncId → Option PT := fun f => if f = 6 then some t6 else if f = 5 then some t5 else none
def T3n : FuncId → Option PT := fun f => if f = 6 then some t6n else if f = 5 then some t5 else none
theorem loop6n (N fuel : Nat) (lv : List Int) (dn : Option (List Int)) (T : List Int) (k : AV → Heap → Bool → Prop) (hl : lv.length < 400) (hn : (dn.getD []).length < 400) (hT : T = selF lv (dn.getD []) lv.length 0) (hb : ∀ x, x ∈ lv → x < 2 ^ 63)
    (hk : ∀ l2 W : List Int, W.Perm T → Srt lv W → l2 = W.take 2 → R6 l2 k) : ∀ (d i n : Nat), i + d = lv.length → d < n → selF lv (dn.getD []) d i = T →
    resPS (S F) T6 N 9 fuel 6 2 0 [] p6 n ⟨L6 (dZ dn) .nils lv i, [], CELL (LV lv), false⟩ k
  | d, i, 0, _, hn', _ => by omega
  | 0, i, n + 1, hd, _, hDT => by
    have hTD : T = [] := by simpa [selF] using hDT.symm
    have hres := (hk [] [] (by rw [hTD]) List.Pairwise.nil rfl).1 rfl
    rcases dn with _ | nt
    all_goals
      simp only [dZ]
      first | rw [step6jn] | rw [step6in]
      refine condF (decide_eq_false (by omega)) ⟨none, some lv, rfl, rfl, (fun h => by cases h), (by simp), (by simp), (fun _ h => by cases h), (fun _ _ _ => ⟨none, (fun _ => ⟨rfl, rfl, hres⟩), (fun _ _ h => by cases h)⟩), (fun _ _ h => by cases h)⟩
  | d + 1, i, n + 1, hd, hn', hDT => by
    have hi : i < lv.length := by omega
    have hw : IntKind.wrap .i64 ((i : Int) + 1) = ((i + 1 : Nat) : Int) := by rw [wrapI (by omega)]; omega
    have hg : (row encZ lv)[Int.toNat (i : Int)]?.getD .bad = .int .i64 lv[i] := by simp [row, hi]; rfl
    have hkey : key lv i = lv[i] := by simp [key, hi]
    have ih := loop6n N fuel lv dn T k hl hn hT hb hk d (i + 1) n
    unfold selF at hDT
    have hskip : ¬ (0 ≤ key lv i ∧ ¬ (i : Int) ∈ dn.getD []) → resPS (S F) T6 N 9 fuel 6 2 0 [] p6 n ⟨L6 (dZ dn) .nils lv ((i + 1 : Nat) : Int), [], CELL (LV lv), false⟩ k := fun h => by
      rw [if_neg h] at hDT
      exact ih (by omega) (by omega) hDT
    have hadd : (0 ≤ key lv i ∧ ¬ (i : Int) ∈ dn.getD []) → resPS (S F) T6 N 9 fuel 6 2 0 [] p6 n ⟨L6 (dZ dn) (.sl ⟨2, 0, [], 1⟩ 1 1 0 1) lv ((i + 1 : Nat) : Int), [], HL lv [(i : Int)], false⟩ k := fun h => by
      rw [if_pos h] at hDT
      exact loop6s N fuel lv dn T k hl hn hT hb hk d (i + 1) n [(i : Int)] (by omega) (by omega) (by simp) (by simpa using hDT)
    clear ih hDT
    have hdec := Decidable.em ((i : Int) ∈ dn.getD [])
    rcases dn with _ | nt
    all_goals
      simp only [dZ] at hskip hadd ⊢
      first | rw [step6jn] | rw [step6in]
      refine condT (decide_eq_true (by omega)) (condT (by simp) ?_)
      rw [hg, hw]
      refine condT rfl ?_
      by_cases h0 : lv[i] ≥ 0
      · refine condT (decide_eq_true h0) ?_
        first | refine ⟨none, (i : Int), rfl, rfl, by omega, ?_⟩ | refine ⟨some nt, (i : Int), rfl, rfl, by omega, ?_⟩
        rcases hdec with h1 | h1
        · refine condF (by rw [decide_eq_true h1]; rfl) (hskip (fun h => h.2 h1))
        · refine condT (by rw [decide_eq_false h1]; rfl) ?_
          exact hadd ⟨by rw [hkey]; exact h0, h1⟩
      · refine condF (decide_eq_false h0) (hskip (fun h => h0 (by rw [← hkey]; exact h.1)))
theorem two6 (N : Nat) (args : List AV) (H : Heap) (k : AV → Heap → Bool → Prop) : t6 args H k → runP (S F) T6 N 9 (S F).fu 6 args H k := by
  rintro ⟨lv, dn, rfl, rfl, hl, hn, hb, hk⟩
  have := loop6n (F := F) N (S F).fu lv dn _ k hl hn rfl hb hk lv.length 0 (S F).fu (by omega) (by rw [S_fu]; omega) rfl
  rcases dn with _ | nt
  · show runP (S F) T6 N 9 (S F).fu 6 [LV lv, .nils] [] k
    rw [start6j]
    simp only [row_length]
    exact this
  · show runP (S F) T6 N 9 (S F).fu 6 [LV lv, LV nt] [] k
    rw [start6i]
    simp only [row_length]
    exact this
theorem two6n (N : Nat) (args : List AV) (H : Heap) (k : AV → Heap → Bool → Prop) : t6n args H k → runP (S F) T6 N 9 (S F).fu 6 args H k := by
  rintro ⟨dn, rfl, rfl, hk⟩
  rcases dn with _ | nt
  · refine (start6m (F := F) N (F + 4999) k).symm ▸ ?_
    exact ⟨none, none, rfl, rfl, (fun h => by cases h), (by simp), (by simp), (fun _ _ => ⟨none, (fun _ => ⟨rfl, rfl, hk⟩), (fun _ _ h => by cases h)⟩), (fun _ _ h => by cases h), (fun _ _ h => by cases h)⟩
  · refine (start6n (F := F) N (F + 4999) nt k).symm ▸ ?_
    exact ⟨none, none, rfl, rfl, (fun h => by cases h), (by simp), (by simp), (fun _ _ => ⟨none, (fun _ => ⟨rfl, rfl, hk⟩), (fun _ _ h => by cases h)⟩), (fun _ _ h => by cases h), (fun _ _ h => by cases h)⟩
end Go.Proofs.Ytiiddampachhlaa
