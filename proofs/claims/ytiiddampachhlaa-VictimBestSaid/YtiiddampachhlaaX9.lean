/-
  Comparisons.
-/
import Derived.Test.YtiiddampachhlaaX8
import Derived.ChangeKeysEq
import Derived.Laws.StructEq
namespace Go.X
open Go.RowKit (Below)

section
variable {P : Program} {B : Nat} {E E' : Env} {H : Heap} {w w' : World}

theorem eqMany_ok {d : Nat} {f : TypeId → AV → AV → Option Bool}
    (hf : ∀ t x y cx cy r, PR E x cx → PR E y cy → f t x y = some r → (Op.equalIn d t cx cy).run P w = .ok r w) :
    ∀ (fs : List Field) (o : Nat) (xs ys : List AV) (cx cy px py : List Value) (r : Bool), FR E xs cx → FR E ys cy → px.length = o → py.length = o →
      eqMany P f fs o xs ys = some r → (Op.eqFields d (px ++ cx).toArray (py ++ cy).toArray fs).run P w = .ok r w
  | [], o, xs, ys, cx, cy, px, py, r, hx, hy, _, _, h => by
    cases xs <;> cases ys <;> simp only [eqMany, Option.some.injEq, reduceCtorEq] at h
    subst h
    rfl
  | fl :: fs, o, xs, ys, cx, cy, px, py, r, hx, hy, hpx, hpy, h => by
    cases xs <;> cases ys <;> simp only [eqMany, reduceCtorEq] at h
    rename_i x xs y ys
    split at h
    · rename_i hc
      obtain ⟨ho, hsz, hyl, hag, hya⟩ := hc
      obtain ⟨c1, c2, rfl, h1, h2⟩ := hx.cons_inv
      obtain ⟨d1, d2, rfl, k1, k2⟩ := hy.cons_inv
      have l1 : c1.length = x.flatLen := by rw [h1.length]; simp [sumLen]
      have l2 : d1.length = x.flatLen := by rw [k1.length, ← hyl]; simp [sumLen]
      have next := fun r h => eqMany_ok hf fs (o + x.flatLen) xs ys c2 d2 (px ++ c1) (py ++ d1) r h2 k2 (by simp; omega) (by simp; omega) h
      simp only [List.append_assoc] at next
      split at h
      · rename_i hn
        simp only [Option.bind_eq_some_iff] at h
        obtain ⟨b, hb, h⟩ := h
        have e1 := run_part' (P := P) (w := w) (pre := px) (post := c2) h1 (hpx.trans ho.symm) hag hsz
        have e2 := run_part' (P := P) (w := w) (pre := py) (post := d2) k1 (hpy.trans ho.symm) (by rw [hya]; exact hag) (by rw [hyl]; exact hsz)
        simp only [List.append_assoc] at e1 e2
        have e3 := hf _ _ _ _ _ _ (PR.of_cells h1) (PR.of_cells k1) hb
        rw [Op.eqFields, if_pos hn]
        simp only [Sem.run_bind, e1, e2, e3, Result.andThen_ok]
        cases b
        · simp only [Bool.false_eq_true, if_false, Option.some.injEq] at h
          subst h
          simp
        · simp only [if_true] at h
          simpa using next r h
      · rename_i hn
        rw [Op.eqFields, if_neg hn]
        exact next r h
    · simp at h

theorem eqRep_ok {d : Nat} {e : TypeId} {c : Nat} {f : TypeId → AV → AV → Option Bool} (hc : tsize P e = some c)
    (hf : ∀ t x y cx cy r, PR E x cx → PR E y cy → f t x y = some r → (Op.equalIn d t cx cy).run P w = .ok r w) :
    ∀ (xs ys : List AV) (cx cy px py : List Value) (k n : Nat) (r : Bool), FR E xs cx → FR E ys cy → (∀ x ∈ xs, x.flatLen = c) → (∀ y ∈ ys, y.flatLen = c) → px.length = k * c → py.length = k * c → xs.length = n →
      eqRep P f e xs ys = some r → (Op.eqItems d e c (px ++ cx).toArray (py ++ cy).toArray (List.range' k n)).run P w = .ok r w
  | [], ys, cx, cy, px, py, k, n, r, hx, hy, _, _, _, _, hn, h => by
    cases ys <;> simp only [eqRep, Option.some.injEq, reduceCtorEq] at h
    subst h
    subst hn
    rfl
  | x :: xs, ys, cx, cy, px, py, k, n, r, hx, hy, hlx, hly, hpx, hpy, hn, h => by
    cases ys <;> simp only [eqRep, reduceCtorEq] at h
    rename_i y ys
    split at h
    · rename_i hag
      obtain ⟨hag, hya⟩ := hag
      obtain ⟨c1, c2, rfl, h1, h2⟩ := hx.cons_inv
      obtain ⟨d1, d2, rfl, k1, k2⟩ := hy.cons_inv
      have fx : x.flatLen = c := hlx x (List.mem_cons_self)
      have fy : y.flatLen = c := hly y (List.mem_cons_self)
      have l1 : c1.length = c := by rw [h1.length]; simp [sumLen, fx]
      have l2 : d1.length = c := by rw [k1.length]; simp [sumLen, fy]
      obtain ⟨n', rfl⟩ : ∃ n', n = n' + 1 := ⟨n - 1, by simp at hn; omega⟩
      have next := fun r h => eqRep_ok hc hf xs ys c2 d2 (px ++ c1) (py ++ d1) (k + 1) n' r h2 k2 (fun x hx => hlx x (List.mem_cons_of_mem _ hx)) (fun x hx => hly x (List.mem_cons_of_mem _ hx))
        (by simp [Nat.add_mul]; omega) (by simp [Nat.add_mul]; omega) (by simpa using hn) h
      simp only [List.append_assoc] at next
      simp only [Option.bind_eq_some_iff] at h
      obtain ⟨b, hb, h⟩ := h
      have e1 := run_part' (P := P) (w := w) (pre := px) (post := c2) h1 hpx hag (by rw [fx]; exact hc)
      have e2 := run_part' (P := P) (w := w) (pre := py) (post := d2) k1 hpy (by rw [hya]; exact hag) (by rw [fy]; exact hc)
      simp only [List.append_assoc] at e1 e2
      have e3 := hf _ _ _ _ _ _ (PR.of_cells h1) (PR.of_cells k1) hb
      rw [List.range'_succ, Op.eqItems]
      simp only [Sem.run_bind, e1, e2, e3, Result.andThen_ok]
      cases b
      · simp only [Bool.false_eq_true, if_false, Option.some.injEq] at h
        subst h
        simp
      · simp only [if_true] at h
        simpa using next r h
    · simp at h

theorem PR.leaf {v : AV} {c : Value} (h : PR E v c) (hv : v.isAgg = false) : FR E [v] [c] := by
  obtain ⟨cs, h1, rfl⟩ := h
  obtain ⟨c, rfl, hp⟩ := h1.one_leaf hv
  rwa [hp]

set_option maxHeartbeats 2000000 in
theorem eqAV_ok : ∀ (d k : Nat) (t : TypeId) (x y : AV) (cx cy : Value) (r : Bool), PR E x cx → PR E y cy → eqAV P d t x y = some r → (Op.equalIn (k + d) t cx cy).run P w = .ok r w
  | 0, k, t, x, y, cx, cy, r, hx, hy, h => by simp [eqAV] at h
  | d + 1, k, t, x, y, cx, cy, r, hx, hy, h => by
    have ih := fun t x y cx cy r => eqAV_ok d k t x y cx cy r
    unfold eqAV at h
    split at h
    case h_13 =>
      rename_i fs n xs m ys hu
      split at h
      · simp at h
      · rename_i hst
        obtain ⟨cs, rfl, hf, _⟩ := PR.agg_inv hx
        obtain ⟨ds, rfl, hg, _⟩ := PR.agg_inv hy
        have hfs : P.fieldsOf t = fs := by simp [Program.fieldsOf, hu]
        have := eqMany_ok (d := k + d) ih fs.toList 0 xs ys cs ds [] [] r hf hg rfl rfl h
        rw [← Nat.add_assoc, run_equalIn_struct w (k + d) t _ _ (by rw [hfs]; exact hu) (by simpa using hst), hfs]
        simpa using this
    case h_14 =>
      rename_i n e a xs b ys hu
      split at h
      · rename_i hc
        obtain ⟨hc, rfl, hn⟩ := hc
        obtain ⟨cs, rfl, hf, hfe⟩ := PR.arr_inv hx
        obtain ⟨ds, rfl, hg, hge⟩ := PR.arr_inv hy
        have := eqRep_ok (d := k + d) hc ih xs ys cs ds [] [] 0 n r hf hg hfe hge (by simp) (by simp) hn h
        obtain ⟨i, hi, hsz⟩ : ∃ i, P.info? e = some i ∧ i.size = a := by simpa [tsize] using hc
        have hce : P.cellsOf e = a := by simp [Program.cellsOf, hi, hsz]
        rw [← Nat.add_assoc, run_equalIn_array w (k + d) _ _ hu hi, hce, List.range_eq_range']
        simpa using this
      · simp at h
    case h_12 =>
      rename_i ms tx vx ty vy hu
      have h1 := hx.leaf rfl
      have h2 := hy.leaf rfl
      cases h1 with
      | iface h1 h1' =>
      cases h2 with
      | iface h2 h2' =>
      rw [← Nat.add_assoc]
      split at h
      · rename_i hne
        obtain rfl := Option.some.inj h
        simp [Op.equalIn, run_underlying hu, hne]
      · rename_i hne
        have hne : tx = ty := Decidable.not_not.1 hne
        subst hne
        split at h
        · rename_i hcomp
          simp only [Option.map_eq_some_iff] at hcomp
          obtain ⟨i, hi, hcomp⟩ := hcomp
          have := ih _ _ _ _ _ _ (PR.of_cells h1) (PR.of_cells h2) h
          simp [Op.equalIn, run_underlying hu, typeInfo, hi, hcomp, this]
        · simp at h
    case h_1 =>
      rename_i a b hu
      obtain rfl := (VR.of_PR hx).bool_inv
      obtain rfl := (VR.of_PR hy).bool_inv
      obtain rfl := Option.some.inj h
      simp [Op.equalIn, run_underlying hu]
    case h_2 =>
      rename_i k1 k2 a k3 b hu
      split at h
      · rename_i hk
        obtain rfl := (VR.of_PR hx).int_inv
        obtain rfl := (VR.of_PR hy).int_inv
        obtain rfl := Option.some.inj h
        simp [Op.equalIn, run_underlying hu, hk]
      · simp at h
    case h_3 =>
      rename_i a b hu
      obtain rfl := (VR.of_PR hx).str_inv
      obtain rfl := (VR.of_PR hy).str_inv
      obtain rfl := Option.some.inj h
      simp [Op.equalIn, run_underlying hu]
    case h_26 => simp at h
    all_goals
      first | (rename_i hu; obtain rfl := Option.some.inj h) | (simp at h; done)
      have h1 := hx.leaf rfl
      have h2 := hy.leaf rfl
      cases h1 <;> cases h2 <;> simp [Op.equalIn, run_underlying hu]

end
end Go.X
