/-
  Comparisons.
-/
import Derived.Test.YtclmndonaljppaaKaa
import Derived.ChangeKeysEq
import Derived.Laws.StructEq
import Derived.Laws.Tables
import Derived.Great.FillDense
import Derived.Great.BuildSlice
import Derived.Laws.Append
import Derived.Laws.IdiomStrings
import Derived.Laws.BytesArg
import Derived.MapKept
import Derived.RangeFuncLeaves
import Derived.RangeFuncOwn
import Derived.OrdersIn

namespace Go.X
open Go.RowKit (Below)

section
variable {P : Program} {B : Nat} {E E' : Env} {H : Heap} {w w' : World}

theorem eqMany_ok {d : Nat} {f : TypeId → AV → AV → Option Bool}
    (hf : ∀ t x y cx cy r, PR E x cx → PR E y cy → f t x y = some r → (Op.equalIn d t cx cy).run P w = .ok r w) :
    ∀ (fs : List Field) (o : Nat) (xs ys : List AV) (cx cy px py : List Value) (r : Bool), FR E xs cx → FR E ys cy → px.length = o → py.length = o →
      eqMany P f fs o xs ys = some r → (Op.eqFields d (px ++ cx).toArray (py ++ cy).toArray fs).run P w = .ok r w
  | [], o, xs, ys, cx, cy, px, py, r, hx, hy, _, _, h => by
    cases xs <;> cases ys <;> simp only [eqMany, Option.some.injEq, reduceCtorEq] at h
    subst h
    rfl
  | fl :: fs, o, xs, ys, cx, cy, px, py, r, hx, hy, hpx, hpy, h => by
    cases xs <;> cases ys <;> simp only [eqMany, reduceCtorEq] at h
    rename_i x xs y ys
    split at h
    · rename_i hc
      obtain ⟨ho, hsz, hyl, hag, hya⟩ := hc
      obtain ⟨c1, c2, rfl, h1, h2⟩ := hx.cons_inv
      obtain ⟨d1, d2, rfl, k1, k2⟩ := hy.cons_inv
      have l1 : c1.length = x.flatLen := by rw [h1.length]; simp [sumLen]
      have l2 : d1.length = x.flatLen := by rw [k1.length, ← hyl]; simp [sumLen]
      have next := fun r h => eqMany_ok hf fs (o + x.flatLen) xs ys c2 d2 (px ++ c1) (py ++ d1) r h2 k2 (by simp; omega) (by simp; omega) h
      simp only [List.append_assoc] at next
      split at h
      · rename_i hn
        simp only [Option.bind_eq_some_iff] at h
        obtain ⟨b, hb, h⟩ := h
        have e1 := run_part' (P := P) (w := w) (pre := px) (post := c2) h1 (hpx.trans ho.symm) hag hsz
        have e2 := run_part' (P := P) (w := w) (pre := py) (post := d2) k1 (hpy.trans ho.symm) (by rw [hya]; exact hag) (by rw [hyl]; exact hsz)
        simp only [List.append_assoc] at e1 e2
        have e3 := hf _ _ _ _ _ _ (PR.of_cells h1) (PR.of_cells k1) hb
        rw [Op.eqFields, if_pos hn]
        simp only [Sem.run_bind, e1, e2, e3, Result.andThen_ok]
        cases b
        · simp only [Bool.false_eq_true, if_false, Option.some.injEq] at h
          subst h
          simp
        · simp only [if_true] at h
          simpa using next r h
      · rename_i hn
        rw [Op.eqFields, if_neg hn]
        exact next r h
    · simp at h

theorem eqRep_ok {d : Nat} {e : TypeId} {c : Nat} {f : TypeId → AV → AV → Option Bool} (hc : tsize P e = some c)
    (hf : ∀ t x y cx cy r, PR E x cx → PR E y cy → f t x y = some r → (Op.equalIn d t cx cy).run P w = .ok r w) :
    ∀ (xs ys : List AV) (cx cy px py : List Value) (k n : Nat) (r : Bool), FR E xs cx → FR E ys cy → (∀ x ∈ xs, x.flatLen = c) → (∀ y ∈ ys, y.flatLen = c) → px.length = k * c → py.length = k * c → xs.length = n →
      eqRep P f e xs ys = some r → (Op.eqItems d e c (px ++ cx).toArray (py ++ cy).toArray (List.range' k n)).run P w = .ok r w
  | [], ys, cx, cy, px, py, k, n, r, hx, hy, _, _, _, _, hn, h => by
    cases ys <;> simp only [eqRep, Option.some.injEq, reduceCtorEq] at h
    subst h
    subst hn
    rfl
  | x :: xs, ys, cx, cy, px, py, k, n, r, hx, hy, hlx, hly, hpx, hpy, hn, h => by
    cases ys <;> simp only [eqRep, reduceCtorEq] at h
    rename_i y ys
    split at h
    · rename_i hag
      obtain ⟨hag, hya⟩ := hag
      obtain ⟨c1, c2, rfl, h1, h2⟩ := hx.cons_inv
      obtain ⟨d1, d2, rfl, k1, k2⟩ := hy.cons_inv
      have fx : x.flatLen = c := hlx x (List.mem_cons_self)
      have fy : y.flatLen = c := hly y (List.mem_cons_self)
      have l1 : c1.length = c := by rw [h1.length]; simp [sumLen, fx]
      have l2 : d1.length = c := by rw [k1.length]; simp [sumLen, fy]
      obtain ⟨n', rfl⟩ : ∃ n', n = n' + 1 := ⟨n - 1, by simp at hn; omega⟩
      have next := fun r h => eqRep_ok hc hf xs ys c2 d2 (px ++ c1) (py ++ d1) (k + 1) n' r h2 k2 (fun x hx => hlx x (List.mem_cons_of_mem _ hx)) (fun x hx => hly x (List.mem_cons_of_mem _ hx))
        (by simp [Nat.add_mul]; omega) (by simp [Nat.add_mul]; omega) (by simpa using hn) h
      simp only [List.append_assoc] at next
      simp only [Option.bind_eq_some_iff] at h
      obtain ⟨b, hb, h⟩ := h
      have e1 := run_part' (P := P) (w := w) (pre := px) (post := c2) h1 hpx hag (by rw [fx]; exact hc)
      have e2 := run_part' (P := P) (w := w) (pre := py) (post := d2) k1 hpy (by rw [hya]; exact hag) (by rw [fy]; exact hc)
      simp only [List.append_assoc] at e1 e2
      have e3 := hf _ _ _ _ _ _ (PR.of_cells h1) (PR.of_cells k1) hb
      rw [List.range'_succ, Op.eqItems]
      simp only [Sem.run_bind, e1, e2, e3, Result.andThen_ok]
      cases b
      · simp only [Bool.false_eq_true, if_false, Option.some.injEq] at h
        subst h
        simp
      · simp only [if_true] at h
        simpa using next r h
    · simp at h

theorem PR.leaf {v : AV} {c : Value} (h : PR E v c) (hv : v.isAgg = false) : FR E [v] [c] := by
  obtain ⟨cs, h1, rfl⟩ := h
  obtain ⟨c, rfl, hp⟩ := h1.one_leaf hv
  rwa [hp]

set_option maxHeartbeats 2000000 in
theorem eqAV_ok : ∀ (d k : Nat) (t : TypeId) (x y : AV) (cx cy : Value) (r : Bool), PR E x cx → PR E y cy → eqAV P d t x y = some r → (Op.equalIn (k + d) t cx cy).run P w = .ok r w
  | 0, k, t, x, y, cx, cy, r, hx, hy, h => by simp [eqAV] at h
  | d + 1, k, t, x, y, cx, cy, r, hx, hy, h => by
    have ih := fun t x y cx cy r => eqAV_ok d k t x y cx cy r
    unfold eqAV at h
    split at h
    case h_13 =>
      rename_i fs n xs m ys hu
      split at h
      · simp at h
      · rename_i hst
        obtain ⟨cs, rfl, hf, _⟩ := PR.agg_inv hx
        obtain ⟨ds, rfl, hg, _⟩ := PR.agg_inv hy
        have hfs : P.fieldsOf t = fs := by simp [Program.fieldsOf, hu]
        have := eqMany_ok (d := k + d) ih fs.toList 0 xs ys cs ds [] [] r hf hg rfl rfl h
        rw [← Nat.add_assoc, run_equalIn_struct w (k + d) t _ _ (by rw [hfs]; exact hu) (by simpa using hst), hfs]
        simpa using this
    case h_14 =>
      rename_i n e a xs b ys hu
      split at h
      · rename_i hc
        obtain ⟨hc, rfl, hn⟩ := hc
        obtain ⟨cs, rfl, hf, hfe⟩ := PR.arr_inv hx
        obtain ⟨ds, rfl, hg, hge⟩ := PR.arr_inv hy
        have := eqRep_ok (d := k + d) hc ih xs ys cs ds [] [] 0 n r hf hg hfe hge (by simp) (by simp) hn h
        obtain ⟨i, hi, hsz⟩ : ∃ i, P.info? e = some i ∧ i.size = a := by simpa [tsize] using hc
        have hce : P.cellsOf e = a := by simp [Program.cellsOf, hi, hsz]
        rw [← Nat.add_assoc, run_equalIn_array w (k + d) _ _ hu hi, hce, List.range_eq_range']
        simpa using this
      · simp at h
    case h_12 =>
      rename_i ms tx vx ty vy hu
      have h1 := hx.leaf rfl
      have h2 := hy.leaf rfl
      cases h1 with
      | iface h1 h1' =>
      cases h2 with
      | iface h2 h2' =>
      rw [← Nat.add_assoc]
      split at h
      · rename_i hne
        obtain rfl := Option.some.inj h
        simp [Op.equalIn, run_underlying hu, hne]
      · rename_i hne
        have hne : tx = ty := Decidable.not_not.1 hne
        subst hne
        split at h
        · rename_i hcomp
          simp only [Option.map_eq_some_iff] at hcomp
          obtain ⟨i, hi, hcomp⟩ := hcomp
          have := ih _ _ _ _ _ _ (PR.of_cells h1) (PR.of_cells h2) h
          simp [Op.equalIn, run_underlying hu, typeInfo, hi, hcomp, this]
        · simp at h
    case h_1 =>
      rename_i a b hu
      obtain rfl := (VR.of_PR hx).bool_inv
      obtain rfl := (VR.of_PR hy).bool_inv
      obtain rfl := Option.some.inj h
      simp [Op.equalIn, run_underlying hu]
    case h_2 =>
      rename_i k1 k2 a k3 b hu
      split at h
      · rename_i hk
        obtain rfl := (VR.of_PR hx).int_inv
        obtain rfl := (VR.of_PR hy).int_inv
        obtain rfl := Option.some.inj h
        simp [Op.equalIn, run_underlying hu, hk]
      · simp at h
    case h_3 =>
      rename_i a b hu
      obtain rfl := (VR.of_PR hx).str_inv
      obtain rfl := (VR.of_PR hy).str_inv
      obtain rfl := Option.some.inj h
      simp [Op.equalIn, run_underlying hu]
    case h_26 => simp at h
    all_goals
      first | (rename_i hu; obtain rfl := Option.some.inj h) | (simp at h; done)
      have h1 := hx.leaf rfl
      have h2 := hy.leaf rfl
      cases h1 <;> cases h2 <;> simp [Op.equalIn, run_underlying hu]

end
end Go.X
/-
  Structs and arrays built of their parts; type assertions; lengths.
-/
namespace Go.X
open Go.RowKit (Below)

section
variable {P : Program} {B : Nat} {E E' : Env} {H : Heap} {w w' : World}

/-- Parts, related one by one. -/
inductive Parts (E : Env) : List (Nat × AV) → List (Nat × Value) → Prop
  | nil : Parts E [] []
  | cons {i : Nat} {v : AV} {c : Value} {ps : List (Nat × AV)} {cs : List (Nat × Value)} : VR E v c → Parts E ps cs → Parts E ((i, v) :: ps) ((i, c) :: cs)

theorem fill_step {pre mid post mid' : List Value} (hl : mid'.length = mid.length) :
    (mid'.toArray.zipIdx.foldl (fun cs (x : Value × Nat) => cs.setIfInBounds (pre.length + x.2) x.1) (pre ++ mid ++ post).toArray) = (pre ++ mid' ++ post).toArray := by
  obtain ⟨h1, h2⟩ := Go.Great.foldl_set pre.length mid' 0 (pre ++ mid ++ post).toArray
  have : mid'.toArray.zipIdx.foldl (fun cs (x : Value × Nat) => cs.setIfInBounds (pre.length + x.2) x.1) (pre ++ mid ++ post).toArray =
      (mid'.zipIdx 0).foldl (fun cs (x : Value × Nat) => cs.setIfInBounds (pre.length + x.2) x.1) (pre ++ mid ++ post).toArray := by
    rw [← Array.foldl_toList]
    simp
  rw [this]
  apply Array.ext_getElem?
  intro k
  rw [h2 k]
  simp only [List.size_toArray, List.getElem?_toArray, List.length_append, Nat.add_zero]
  by_cases hk : pre.length ≤ k ∧ k < pre.length + mid'.length ∧ k < pre.length + mid.length + post.length
  · rw [if_pos hk, List.append_assoc, List.getElem?_append_right hk.1, List.getElem?_append_left (by omega)]
  · rw [if_neg hk, List.append_assoc, List.append_assoc]
    rcases Nat.lt_or_ge k pre.length with h | h
    · rw [List.getElem?_append_left h, List.getElem?_append_left h]
    · rw [List.getElem?_append_right h, List.getElem?_append_right h]
      rcases Nat.lt_or_ge (k - pre.length) mid.length with h3 | h3
      · omega
      · rw [List.getElem?_append_right h3, List.getElem?_append_right (by omega), hl]

theorem fill_ok {place place' : Nat → Option (Nat × Nat)} (hpl : ∀ i x, place i = some x → place' i = some x) :
    ∀ (ps : List (Nat × AV)) (cps : List (Nat × Value)) (acc acc' : AV) (cells : List Value), Parts E ps cps → FR E [acc] cells → fillAV place acc ps = some acc' →
      ∃ cells', Instr.fill place' cells.toArray cps = some cells'.toArray ∧ FR E [acc'] cells' ∧ acc'.flatLen = acc.flatLen ∧ (acc.isAgg = true → acc'.isAgg = true)
  | [], _, acc, acc', cells, hp, hf, h => by
    cases hp
    simp only [fillAV, Option.some.injEq] at h
    subst h
    exact ⟨cells, rfl, hf, rfl, id⟩
  | (i, v) :: ps, _, acc, acc', cells, hp, hf, h => by
    cases hp with
    | cons hv hp =>
    rename_i c cps
    simp only [fillAV, Option.bind_eq_some_iff] at h
    obtain ⟨⟨off, sz⟩, hx, ⟨o, u⟩, hat, h⟩ := h
    split at h
    · rename_i hc
      obtain ⟨rfl, hvl, hvp⟩ := hc
      simp only [Option.bind_eq_some_iff] at h
      obtain ⟨acc1, hput, h⟩ := h
      have hvc := (hv.toPR hvp).cells
      obtain ⟨pre, mid, post, rfl, hpre, hm, hlen, hf1, hfl⟩ := put_spec _ _ _ _ _ _ _ _ hf hat hput hvc
      obtain ⟨cells', h1, h2, h3, h4⟩ := fill_ok hpl ps cps acc1 acc' _ hp hf1 h
      refine ⟨cells', ?_, h2, h3.trans hfl, fun ha => h4 (put_agg hput ha)⟩
      unfold Instr.fill
      rw [hpl i _ hx]
      have hcl : c.cells.size = v.flatLen := by
        have := hvc.length
        simpa [sumLen] using this
      simp only [hcl, hvl]
      have hms : mid.length = sz := by
        have : c.cells.toList.length = sz := by simp [hcl, hvl]
        omega
      rw [if_neg (by simp; omega)]
      rw [← h1]
      have := fill_step (pre := pre) (mid := mid) (post := post) (mid' := c.cells.toList) hlen
      simp only [hpre] at this
      rw [← this]
    · simp at h
where
  put_agg : ∀ {acc acc1 v : AV} {i : Nat}, acc.put? [i] v = some acc1 → acc.isAgg = true → acc1.isAgg = true := by
    intro acc acc1 v i h ha
    cases acc <;> simp only [AV.put?, Option.bind_eq_some_iff, Option.map_eq_some_iff, reduceCtorEq] at h
    · obtain ⟨_, _, _, _, rfl⟩ := h; rfl
    · obtain ⟨_, _, _, _, rfl⟩ := h; rfl

theorem places_ok : ∀ (fs : List Field), fs.all (fun f => (tsize P f.type).isSome) = true → ∃ places, fs.mapM (fun f => (P.info? f.type).map fun i => (f.offset, i.size)) = some places ∧ ∀ i x, structPlace P fs i = some x → places[i]? = some x
  | [], _ => ⟨[], rfl, fun i x h => by simp [structPlace] at h⟩
  | f :: fs, h => by
    simp only [List.all_cons, Bool.and_eq_true] at h
    obtain ⟨places, h1, h2⟩ := places_ok fs h.2
    obtain ⟨sz, hsz⟩ := Option.isSome_iff_exists.1 h.1
    obtain ⟨inf, hi, hs⟩ : ∃ i, P.info? f.type = some i ∧ i.size = sz := by simpa [tsize] using hsz
    refine ⟨(f.offset, sz) :: places, by simp [List.mapM_cons, hi, h1, hs], fun i x hx => ?_⟩
    cases i with
    | zero => simpa [structPlace, hsz] using hx
    | succ i => simpa [structPlace] using h2 i x (by simpa [structPlace] using hx)

theorem build_ok {t : TypeId} {ps : List (Nat × AV)} {cps : List (Nat × Value)} {v : AV} (hp : Parts E ps cps) (h : buildAV P t ps = some v) :
    ∃ c, (Instr.build t cps.toArray).run P w = .ok c w ∧ VR E v c := by
  simp only [buildAV, Option.bind_eq_some_iff] at h
  obtain ⟨z, hz, h⟩ := h
  obtain ⟨i, zv, hi, hiz, hf, _, hpk⟩ := zero_spec (E := E) hz
  split at h
  · simp at h
  rename_i hzag
  have hzag : z.isAgg = true := by simpa using hzag
  split at h
  · rename_i fs hu
    split at h
    · rename_i hall
      obtain ⟨places, hpl, hpl2⟩ := places_ok fs.toList hall
      obtain ⟨cells', h1, h2, h3, h4⟩ := fill_ok (place' := (places.toArray[·]?)) (fun i x hx => by simpa using hpl2 i x hx) ps cps z v _ hp hf h
      refine ⟨.agg cells'.toArray, run_build w t _ _ ?_, .of_PR ⟨cells', h2, by simp [pack, h4 hzag]⟩⟩
      simp only [Program.built, hi, hu, hiz, hpl]
      simpa using h1
    · simp at h
  · rename_i n e hu
    simp only [Option.bind_eq_some_iff] at h
    obtain ⟨s, hs, h⟩ := h
    obtain ⟨inf, hie, hs'⟩ : ∃ i, P.info? e = some i ∧ i.size = s := by simpa [tsize] using hs
    obtain ⟨cells', h1, h2, h3, h4⟩ := fill_ok (place' := fun i => some (i * s, s)) (fun i x hx => hx) ps cps z v _ hp hf h
    refine ⟨.agg cells'.toArray, run_build w t _ _ ?_, .of_PR ⟨cells', h2, by simp [pack, h4 hzag]⟩⟩
    simp only [Program.built, hi, hu, hiz, hie, hs']
    simpa using h1
  · simp at h

theorem PR.iface_inv {t : TypeId} {v : AV} {c : Value} (h : PR E (.iface t v) c) : ∃ cv, c = .iface t cv ∧ PR E v cv := by
  have h1 := h.leaf rfl
  cases h1 with
  | iface h1 h2 => exact ⟨_, rfl, _, h1, rfl⟩

theorem PR.nili_inv {c : Value} (h : PR E .nili c) : c = .nilIface := by
  have h1 := h.leaf rfl
  cases h1
  rfl

theorem VR.pair {a : AV} {ca : Value} {b : Bool} (h : PR E a ca) : VR E (.tuple [a, .bool b]) (.tuple #[ca, .bool b]) := by
  refine ⟨[ca, .bool b], rfl, rfl, fun i v c hv hc => ?_⟩
  match i with
  | 0 => simp at hv hc; subst hv hc; exact .inr h
  | 1 => simp at hv hc; subst hv hc; exact .inr .bool
  | i + 2 => simp at hv

theorem typeAssert_ok {x v : AV} {cx : Value} {xt asl : TypeId} {ok : Bool} (hx : VR E x cx) (h : typeAssertAV P x asl ok = some v) :
    ∃ c, (Instr.typeAssert cx xt asl ok).run P w = .ok c w ∧ VR E v c := by
  have hfail : (if ok then (zeroAV P asl).map fun z => AV.tuple [z, .bool false] else none) = some v → ok = true ∧ ∃ z cz, (∀ w, (zeroValue asl).run P w = .ok cz w) ∧ PR E z cz ∧ v = .tuple [z, .bool false] := by
    intro h
    split at h
    · rename_i hok
      simp only [Option.map_eq_some_iff] at h
      obtain ⟨z, hz, rfl⟩ := h
      obtain ⟨i, zv, hi, hiz, hf, _, hpk⟩ := zero_spec (E := E) hz
      exact ⟨hok, z, zv, fun w => run_zeroValue' hi hiz w, ⟨_, hf, hpk.symm⟩, rfl⟩
    · simp at h
  have hhold : ∀ {u cu}, PR E u cu → (if ok then AV.tuple [u, .bool true] else u) = v → VR E v (if ok then .tuple #[cu, .bool true] else cu) := by
    intro u cu hu hv
    subst hv
    cases ok
    · exact VR.of_PR hu
    · exact VR.pair hu
  simp only [typeAssertAV] at h
  split at h
  · rename_i ms hu
    obtain ⟨rfl, z, cz, h1, h2, rfl⟩ := hfail h
    obtain rfl := PR.nili_inv (show PR E .nili cx from hx)
    exact ⟨_, by simp [Instr.typeAssert, run_underlying hu, h1], VR.pair h2⟩
  · rename_i want t u hu
    simp only [Option.bind_eq_some_iff] at h
    obtain ⟨i, hi, h⟩ := h
    obtain ⟨cu, rfl, hcu⟩ := PR.iface_inv (show PR E (.iface t u) cx from hx)
    split at h
    · rename_i hm
      obtain ⟨rfl, z, cz, h1, h2, rfl⟩ := hfail h
      obtain ⟨m, hm⟩ := missingMethod_some (want := want) (got := i.methods) (by simpa [missingB] using hm)
      exact ⟨_, by simp [Instr.typeAssert, run_underlying hu, typeInfo, hi, hm, h1], VR.pair h2⟩
    · rename_i hm
      have hm : Instr.missingMethod want i.methods = none := missingMethod_none (by simpa [missingB] using hm)
      exact ⟨_, by simp only [Instr.typeAssert, Sem.run_bind, run_underlying hu, typeInfo, run_program, hi, Result.andThen_ok, Sem.run_pure, hm], hhold (show PR E (.iface t u) _ from hx) (by simpa using h)⟩
  · rename_i d hx' hu
    obtain ⟨rfl, z, cz, h1, h2, rfl⟩ := hfail h
    obtain rfl := PR.nili_inv (show PR E .nili cx from hx)
    refine ⟨_, ?_, VR.pair h2⟩
    cases d <;> first | (simp [Instr.typeAssert, run_underlying hu, h1]; done) | (exfalso; exact hx' _ rfl)
  · rename_i d t u hx' hu
    obtain ⟨cu, rfl, hcu⟩ := PR.iface_inv (show PR E (.iface t u) cx from hx)
    split at h
    · rename_i hta
      refine ⟨_, ?_, hhold hcu (by simpa using h)⟩
      cases d <;> first | (simp [Instr.typeAssert, run_underlying hu, hta]; done) | (exfalso; exact hx' _ rfl)
    · rename_i hta
      obtain ⟨rfl, z, cz, h1, h2, rfl⟩ := hfail h
      refine ⟨_, ?_, VR.pair h2⟩
      cases d <;> first | (simp [Instr.typeAssert, run_underlying hu, hta, h1]; done) | (exfalso; exact hx' _ rfl)
  · simp at h

end
end Go.X
/-
  Operations that write memory or make it: stores, new variables, slices made.
-/
namespace Go.X
open Go.RowKit (Below)

section
variable {P : Program} {B : Nat} {E E' : Env} {H : Heap} {w w' : World}

theorem below_setCells (b : Nat) (hb : B ≤ b) : ∀ (vs : List Value) (o : Nat) (w : World), Bel B w (w.setCells b o vs)
  | [], _, w => Bel.refl _ _
  | v :: vs, o, w => by
    rw [World.setCells]
    exact ((Bel.refl B w).setCell (p := ⟨b, o, none⟩) hb v).trans (below_setCells b hb vs (o + 1) _)

theorem setCells_some (b : Nat) : ∀ (vs : List Value) (o : Nat) (w : World) (x : Addr), (w.cell? x).isSome = true → ((w.setCells b o vs).cell? x).isSome = true
  | [], _, _, _, h => h
  | v :: vs, o, w, x, h => by
    rw [World.setCells]
    refine setCells_some b vs (o + 1) _ x ?_
    obtain ⟨u, hu⟩ := Option.isSome_iff_exists.1 h
    obtain ⟨v', hv⟩ := Go.RowKit.cell?_setCell_some (w := w) (p := ⟨b, o, none⟩) (x := v) (q := x) (v := u) hu
    rw [hv]; rfl

/-- A part of a live block is written over by a value of the same size. -/
theorem Sim.part (hs : Sim B E H w) {i : Nat} {bk : Blk} {L : Loc} {path : List Nat} {o : Nat} {u u' r : AV} {g fl : Bool} {mid' : List Value} (hb : H.blk i = some bk) (hL : E.loc i = some L)
    (hat : bk.root.at? path = some (o, u)) (hput : bk.root.put? path u' = some r) (hm' : FR E [u'] mid') (hfl : fl = true → r.refs = []) :
    (storeCells ⟨L.b, L.base + o, none⟩ mid').run P w = .ok () (w.setCells L.b (L.base + o) mid') ∧
    Sim B E (H.set i (some ⟨r, g, fl⟩)) (w.setCells L.b (L.base + o) mid') ∧ ∀ k, Tr B k E w E (w.setCells L.b (L.base + o) mid') := by
  obtain ⟨L', hL', hB, hBL⟩ := hs.live _ _ hb
  obtain rfl : L = L' := by rw [hL] at hL'; exact Option.some.inj hL'
  obtain ⟨cs, hf, hlen, hcells⟩ := hB.cs
  obtain ⟨pre, mid, post, rfl, hpre, hm, hml, hr, _⟩ := put_spec _ _ _ _ _ _ _ _ hf hat hput hm'
  have hfit := hB.fits
  have hlen' : pre.length + mid.length + post.length = L.gen := by rw [← hlen]; simp; omega
  have hroom : ∀ j, j < mid'.length → o + j < L.ext := fun j hj => by omega
  have hin := World.cell?_setCells_in L.b mid' (L.base + o) w (fun j hj => by
    rw [Nat.add_assoc]; exact (hB.room (o + j) (hroom j hj)).1)
  have hout : ∀ b q, ¬ (b = L.b ∧ L.base + o ≤ q ∧ q < L.base + o + mid'.length) → (w.setCells L.b (L.base + o) mid').cell? ⟨b, q, none⟩ = w.cell? ⟨b, q, none⟩ := fun b q hq =>
    World.cell?_setCells_out L.b mid' (L.base + o) w ⟨b, q, none⟩ (fun h1 _ => by simp only at h1 ⊢; omega)
  refine ⟨?_, ?_⟩
  · have := run_storeCells_cells (P := P) L.b (L.base + o) mid' 0 w (fun j hj => by
      rw [Nat.add_zero, Nat.add_assoc]; exact (hB.room (o + j) (hroom j hj)).1) (fun j hj => by
      rw [Nat.add_zero, Nat.add_assoc]; exact (hB.room (o + j) (hroom j hj)).2) (fun v hv => hm'.oneCell v hv)
    simpa using this
  · refine hs.write hb hL hr (by simp; omega) hfl (fun j c hj => ?_) (fun j hj => setCells_some _ _ _ _ _ (hB.room j hj).1) (fun b q hq => hout b q (fun hh => hq ?_)) (fun b q => World.frozen?_setCells _ _ _ _ _) (below_setCells _ hBL _ _ _)
    · by_cases h1 : o ≤ j ∧ j < o + mid'.length
      · have h2 := hin (j - o) (by omega)
        rw [show L.base + o + (j - o) = L.base + j by omega] at h2
        rw [h2, ← hj, List.append_assoc, List.getElem?_append_right (by omega), List.getElem?_append_left (by omega), hpre, List.getElem?_eq_getElem (by omega)]
      · rw [hout _ _ (by omega)]
        refine hcells j c ?_
        rw [List.append_assoc] at hj ⊢
        rcases Nat.lt_or_ge j pre.length with h | h
        · rw [List.getElem?_append_left h] at hj ⊢; exact hj
        · rw [List.getElem?_append_right h] at hj ⊢
          rw [List.getElem?_append_right (by omega)] at hj ⊢
          rw [hml] at hj
          exact hj
    · have := hroom (mid'.length - 1)
      unfold Loc.has
      omega

theorem put_refs : ∀ (path : List Nat) (v u r : AV), v.put? path u = some r → ∀ x ∈ r.refs, x ∈ v.refs ∨ x ∈ u.refs
  | [], v, u, r, h, x, hx => by
    have h2 : v.flatLen = u.flatLen ∧ u = r := by cases v <;> simpa [AV.put?] using h
    exact .inr (h2.2 ▸ hx)
  | i :: p, v, u, r, h, x, hx => by
    cases v with
    | agg n ps =>
      simp only [AV.put?, Option.bind_eq_some_iff, Option.map_eq_some_iff] at h
      obtain ⟨q, hq, q', hq', rfl⟩ := h
      simp only [AV.refs] at hx ⊢
      exact refsL_set hq (fun y hy => put_refs p q u q' hq' y hy) hx
    | arr n ps =>
      simp only [AV.put?, Option.bind_eq_some_iff, Option.map_eq_some_iff] at h
      obtain ⟨q, hq, q', hq', rfl⟩ := h
      simp only [AV.refs] at hx ⊢
      exact refsL_set hq (fun y hy => put_refs p q u q' hq' y hy) hx
    | _ => simp [AV.put?] at h
where
  refsL_set : ∀ {ps : List AV} {i : Nat} {q q' u : AV} {x : Nat}, ps[i]? = some q → (∀ y ∈ q'.refs, y ∈ q.refs ∨ y ∈ u.refs) → x ∈ refsL (ps.set i q') → x ∈ refsL ps ∨ x ∈ u.refs
    | p :: ps, 0, q, q', u, x, hq, h, hx => by
      simp only [List.getElem?_cons_zero, Option.some.injEq] at hq
      subst hq
      simp only [List.set_cons_zero, refsL, List.mem_append] at hx ⊢
      rcases hx with hx | hx
      · rcases h x hx with h | h
        · exact .inl (.inl h)
        · exact .inr h
      · exact .inl (.inr hx)
    | p :: ps, i + 1, q, q', u, x, hq, h, hx => by
      simp only [List.set_cons_succ, refsL, List.mem_append] at hx ⊢
      rcases hx with hx | hx
      · exact .inl (.inl hx)
      · rcases refsL_set (by simpa using hq) h hx with h | h
        · exact .inl (.inr h)
        · exact .inr h

theorem put_notup {r v q : AV} {path : List Nat} (h : r.put? path v = some q) (hv : v.isTup = false) : q.isTup = false := by
  cases path with
  | nil =>
    have : q = v := by
      cases r <;> simp only [AV.put?] at h <;> split at h <;> first | exact (Option.some.inj h).symm | cases h
    rw [this]
    exact hv
  | cons i p =>
    cases r <;> simp only [AV.put?, reduceCtorEq, Option.bind_eq_some_iff, Option.map_eq_some_iff] at h
    · obtain ⟨_, _, _, _, rfl⟩ := h; rfl
    · obtain ⟨_, _, _, _, rfl⟩ := h; rfl

/-- Old blocks' references only get fewer. -/
def Sub (n0 : Nat) (H H' : Heap) : Prop := ∀ i, i < n0 → ∀ b', H'.blk i = some b' → ∃ b, H.blk i = some b ∧ ∀ x ∈ b'.root.refs, x ∈ b.root.refs

theorem Sub.refl (n0 : Nat) (H : Heap) : Sub n0 H H := fun _ _ b h => ⟨b, h, fun _ h => h⟩
theorem Sub.trans {n0 : Nat} {H H1 H2 : Heap} (h : Sub n0 H H1) (g : Sub n0 H1 H2) : Sub n0 H H2 := fun i hi b h2 => by
  obtain ⟨b1, h1, k1⟩ := g i hi b h2
  obtain ⟨b0, h0, k0⟩ := h i hi b1 h1
  exact ⟨b0, h0, fun x hx => k0 x (k1 x hx)⟩
theorem Sub.mono {n0 n1 : Nat} {H H' : Heap} (h : Sub n0 H H') (hn : n1 ≤ n0) : Sub n1 H H' := fun i hi => h i (by omega)

theorem Sub.set {n0 i : Nat} {H : Heap} {bk : Blk} {x : Option Blk} (hb : H.blk i = some bk) (h : i < n0 → ∀ b, x = some b → ∀ y ∈ b.root.refs, y ∈ bk.root.refs) : Sub n0 H (H.set i x) := fun j hj b' hb' => by
  rw [Heap.blk_set' (Heap.blk_some hb)] at hb'
  split at hb'
  · rename_i hij
    subst hij
    exact ⟨bk, hb, h hj b' (blkOf_some hb')⟩
  · exact ⟨b', hb', fun _ h => h⟩

theorem Sub.append {n0 : Nat} {H : Heap} {x : Option Blk} (hn : n0 ≤ H.length) : Sub n0 H (H ++ [x]) := fun j hj b' hb' => by
  rw [Heap.blk_append', if_neg (by omega)] at hb'
  exact ⟨b', hb', fun _ h => h⟩

/-- What an operation comes to. -/
structure Res (B n0 : Nat) (E : Env) (H : Heap) (w : World) (v : AV) (H' : Heap) (e : Bool) (E' : Env) (w' : World) (c : Value) : Prop where
  sim : Sim B E' H' w'
  val : VR E' v c
  tr : Tr B H.length E w E' w'
  len : H.length ≤ H'.length
  sub : e = false → Sub n0 H H'

theorem Res.same {n0 : Nat} {e : Bool} (hs : Sim B E H w) {v : AV} {c : Value} (hv : VR E v c) : Res B n0 E H w v H e E w c :=
  ⟨hs, hv, Tr.refl _ _ _ _, Nat.le_refl _, fun _ => Sub.refl _ _⟩

theorem store_ok {n0 : Nat} (hs : Sim B E H w) {t : TypeId} {a v : AV} {ca cv : Value} {H' : Heap} (ha : VR E a ca) (hv : VR E v cv) (h : storeAV P H t a v = some H') :
    ∃ w', (Instr.storeAt t ca cv).run P w = .ok () w' ∧ Res B n0 E H w .bad H' (storeFlag n0 a v) E w' undef := by
  cases a <;> simp only [storeAV, reduceCtorEq] at h
  rename_i p
  simp only [Option.bind_eq_some_iff] at h
  obtain ⟨bk, hb, ⟨o, u⟩, hat, r, hput, h⟩ := h
  split at h
  · rename_i hc
    obtain ⟨hg, ho, hsz, hp⟩ := hc
    obtain rfl := Option.some.inj h
    obtain ⟨ad, rfl, _, had⟩ := PR.ptr_inv (show PR E (.ptr p) ca from ha)
    obtain ⟨L, hL, hB, _, hgen⟩ := hs.at hb hg
    have had' : ad = ⟨L.b, L.base + o, none⟩ := by
      simp only at ho
      rcases had L hL with h | h
      · omega
      · rw [ho]; exact h.2
    subst had'
    have hcv := (hv.toPR hp).cells
    have hfl : (bk.flat && v.refless) = true → r.refs = [] := fun hfl => by
      simp only [Bool.and_eq_true] at hfl
      have h1 := hs.flat _ _ hb hfl.1
      have h2 := FR.evol0.refs_of_refless hfl.2
      refine List.eq_nil_iff_forall_not_mem.2 (fun x hx => ?_)
      rcases put_refs _ _ _ _ hput x hx with h | h
      · simp [h1] at h
      · simp [h2] at h
    obtain ⟨k1, k2, k3⟩ := hs.part (P := P) (g := bk.grow) hb hL hat hput hcv hfl
    have hcs : cv.cells.size = v.flatLen := by
      have := hcv.length
      simpa [sumLen] using this
    refine ⟨_, ?_, k2, trivial, k3 _, by simp, fun he => ?_⟩
    · simp only [Instr.storeAt, Instr.sureAddr, Sem.run_bind, Sem.run_pure, Result.andThen_ok, storeVar, run_sizeOf' hsz, hcs]
      simpa using k1
    · refine Sub.set hb (fun hi b hb' y hy => ?_)
      obtain rfl := Option.some.inj hb'
      simp only [storeFlag, escapes, Bool.and_eq_false_iff, Bool.not_eq_false'] at he
      rcases he with he | he
      · simp at he; omega
      · rcases put_refs _ _ _ _ hput y hy with h | h
        · exact h
        · simp [FR.evol0.refs_of_refless he] at h
  · simp at h

theorem alloc_at (w' : World) (c : Array Value) (t : TypeId) (fr : Nat × Nat) (j : Nat) : (w'.alloc (.cells c t fr)).cell? ⟨w'.heap.size, j, none⟩ = c[j]? ∧ (w'.alloc (.cells c t fr)).frozen? ⟨w'.heap.size, j, none⟩ = (decide (fr.1 ≤ j) && decide (j < fr.2)) := by
  have h : (w'.alloc (.cells c t fr)).heap[w'.heap.size]? = some (.cells c t fr) := by
    show (w'.heap.push (.cells c t fr))[w'.heap.size]? = some (.cells c t fr)
    simp
  constructor
  · unfold World.cell?
    rw [h]
    rfl
  · unfold World.frozen?
    rw [h]

/-- A new row of cells. -/
theorem row_ok (hs : Sim B E H w) {r : AV} {cs rest : List Value} {t : TypeId} {g fl : Bool} {fr : Nat × Nat} (hf : FR E [r] cs) (hfl : fl = true → r.refs = []) {n : Nat} (hw : w'.heap = w.heap) (hwo : Bel B w w')
    (hfr : fr = (0, 0) ∨ cs.length + rest.length ≤ fr.1) :
    n = cs.length →
    Sim B (E.new ⟨w.heap.size, 0, n + rest.length, n⟩) (H ++ [some ⟨r, g, fl⟩]) (w'.alloc (.cells (cs ++ rest).toArray t fr)) ∧ ∀ k, k ≤ H.length → Tr B k E w (E.new ⟨w.heap.size, 0, n + rest.length, n⟩) (w'.alloc (.cells (cs ++ rest).toArray t fr)) := by
  intro hnl
  have hsz : w'.heap.size = w.heap.size := by rw [hw]
  have hat := alloc_at w' (cs ++ rest).toArray t fr
  rw [hsz] at hat
  refine hs.new hf hnl.symm (Nat.le_add_right _ _) hfl (Nat.le_refl _) (fun j c hj => ?_) (fun j hj => ⟨?_, ?_⟩) (fun b o hb => ⟨?_, ?_⟩) (hwo.trans ((Bel.refl B w').alloc (by rw [hsz]; exact hs.old) _))
  · have hjl : j < cs.length := by
      rcases Nat.lt_or_ge j cs.length with h | h
      · exact h
      · simp [List.getElem?_eq_none h] at hj
    simp only [Nat.zero_add]
    rw [(hat j).1, List.getElem?_toArray, List.getElem?_append_left hjl]
    exact hj
  · simp only at hj
    simp only [Nat.zero_add]
    rw [(hat j).1, List.getElem?_toArray, List.getElem?_eq_getElem (by simp; omega)]
    rfl
  · simp only at hj
    simp only [Nat.zero_add]
    rw [(hat j).2]
    rcases hfr with rfl | h
    · simp
    · simp; omega
  · have : (w'.alloc (.cells (cs ++ rest).toArray t fr)).cell? ⟨b, o, none⟩ = w'.cell? ⟨b, o, none⟩ := by
      refine World.cell?_of_block (Below.heap_alloc w' _ b ?_)
      rw [hsz]; exact hb
    rw [this]
    simp [World.cell?, hw]
  · have : (w'.alloc (.cells (cs ++ rest).toArray t fr)).frozen? ⟨b, o, none⟩ = w'.frozen? ⟨b, o, none⟩ := by
      refine World.frozen?_of_block (Below.heap_alloc w' _ b ?_)
      rw [hsz]; exact hb
    rw [this]
    simp [World.frozen?, hw]

theorem ptr_new {E : Env} {L : Loc} {v : AV} (hg : v.flatLen = L.gen) (hb : L.base = 0) : VR (E.new L) (.ptr ⟨E.top, 0, [], v.flatLen⟩) (.pointer (some ⟨L.b, 0, none⟩)) := by
  refine .of_PR (v := .ptr _) ⟨[_], .ptr (Nat.lt_succ_self _) (fun L' hL' => .inr ?_) .nil, rfl⟩
  simp only [Env.new, if_pos] at hL'
  obtain rfl := Option.some.inj hL'
  exact ⟨hg, by simp [hb]⟩

theorem newVar_ok {n0 : Nat} (hs : Sim B E H w) (hn : n0 ≤ H.length) {v : AV} {cv : Value} {t : TypeId} (hv : FR E [v] cv.cells.toList) :
    (newVar t cv).run P w = .ok ⟨w.heap.size, 0, none⟩ (w.alloc (.cells cv.cells t)) ∧
    Res B n0 E H w (newVarAV H v).1 (newVarAV H v).2 false (E.new ⟨w.heap.size, 0, v.flatLen, v.flatLen⟩) (w.alloc (.cells cv.cells t)) (.pointer (some ⟨w.heap.size, 0, none⟩)) := by
  have hl := hv.length
  simp only [sumLen, Nat.add_zero] at hl
  have := row_ok (w' := w) (g := false) (fl := v.refless) (rest := []) (t := t) (fr := (0, 0)) hs hv (fun h => FR.evol0.refs_of_refless h) rfl (Bel.refl _ _) (.inl rfl) hl.symm
  simp only [List.append_nil, List.length_nil, Nat.add_zero, Array.toArray_toList] at this
  refine ⟨by simp [newVar, newRow], this.1, ?_, this.2 _ (Nat.le_refl _), by simp [newVarAV, newBlk], fun _ => Sub.append hn⟩
  rw [newVarAV, ← hs.top]
  exact ptr_new rfl rfl

theorem alloc_ok {n0 : Nat} (hs : Sim B E H w) (hn : n0 ≤ H.length) {z : AV} {t : TypeId} (hz : zeroAV P t = some z) :
    ∃ c w' E', (Instr.alloc t true (.tuple #[])).run P w = .ok c w' ∧ Res B n0 E H w (newVarAV H z).1 (newVarAV H z).2 false E' w' c := by
  obtain ⟨i, zv, hi, hiz, hf, _, _⟩ := zero_spec (E := E) hz
  obtain ⟨h1, h2⟩ := newVar_ok (P := P) hs hn (t := t) hf
  exact ⟨_, _, _, by simp [Instr.alloc, run_zeroValue' hi hiz, h1], h2⟩

theorem box_ok {n0 : Nat} (hs : Sim B E H w) (hn : n0 ≤ H.length) {v : AV} {cv : Value} {t : TypeId} (hv : VR E v cv) (hp : v.plain = true) :
    ∃ c w' E', (Instr.box t cv).run P w = .ok c w' ∧ Res B n0 E H w (newVarAV H v).1 (newVarAV H v).2 false E' w' c := by
  obtain ⟨h1, h2⟩ := newVar_ok (P := P) hs hn (t := t) (hv.toPR hp).cells
  exact ⟨_, _, _, by simp [Instr.box, h1], h2⟩

end
end Go.X
/-
  Slices: read, made, appended to, copied into.
-/
namespace Go.X
open Go.RowKit (Below)

section
variable {P : Program} {B : Nat} {E E' : Env} {H : Heap} {w w' : World}

/-- A slice or a string as a source: its elements and their cells. -/
structure Src (P : Program) (E : Env) (w : World) (sz : Nat) (xs : List AV) (cx : Value) (cells : List Value) : Prop where
  fr : FR E xs cells
  each : ∀ u ∈ xs, u.flatLen = sz
  len : ∀ w' : World, (Builtin.lenOf cx).run P w' = .ok xs.length w'
  first : ∀ w' : World, w'.heap = w.heap → ∀ k, k ≤ xs.length → (Builtin.firstCells sz k cx).run P w' = .ok (cells.take (k * sz)).toArray w'

theorem cell_heap (h : w'.heap = w.heap) (a : Addr) : w'.cell? a = w.cell? a := by simp [World.cell?, h]

theorem run_take {b o sz k : Nat} {cells : List Value} (hk : k * sz ≤ cells.length) (hc : ∀ j c, cells[j]? = some c → w.cell? ⟨b, o + j, none⟩ = some c) (h : w'.heap = w.heap) :
    (loadCells ⟨b, o, none⟩ (k * sz)).run P w' = .ok (cells.take (k * sz)).toArray w' := by
  refine run_loadCells' (by simp; omega) (fun j c hj => ?_)
  rw [List.getElem?_take] at hj
  split at hj
  · rw [cell_heap h]; exact hc j c hj
  · simp at hj

theorem src_ok (hs : Sim B E H w) {sz : Nat} {x : AV} {xs : List AV} {cx : Value} (hx : VR E x cx) (h : elemsAV H sz x = some xs) : ∃ cells, Src P E w sz xs cx cells := by
  cases x <;> simp only [elemsAV, reduceCtorEq] at h
  · obtain rfl := Option.some.inj h
    have h1 := (show PR E .nils cx from hx).leaf rfl
    cases h1
    refine ⟨[], .nil, by simp, fun w' => rfl, fun w' _ k hk => ?_⟩
    obtain rfl : k = 0 := by simpa using hk
    simp [Builtin.firstCells]
  · rename_i p e n off len
    simp only [Option.bind_eq_some_iff] at h
    obtain ⟨bk, hb, ⟨o, y⟩, hat, h⟩ := h
    split at h
    · rename_i e' ys hy
      simp only at hy
      subst hy
      split at h
      · rename_i hc
        obtain ⟨hg, ho, rfl, rfl, hn, hle⟩ := hc
        obtain rfl := Option.some.inj h
        obtain ⟨ad, cap, rfl, h1, hcap, h2⟩ := PR.sl_inv (show PR E (.sl p e' n off len) cx from hx)
        obtain ⟨L, hL, hB, _, hgen⟩ := hs.at hb hg
        obtain ⟨cs, hf, hlen, hcells⟩ := hB.cs
        obtain ⟨pre, mid, post, rfl, hpre, hm⟩ := at_spec p.path _ _ _ _ hf hat
        obtain ⟨hys, hye⟩ := hm.arr_inv
        have hsplit : ys = ys.take off ++ ((ys.drop off).take len ++ (ys.drop off).drop len) := by rw [List.take_append_drop, List.take_append_drop]
        rw [hsplit] at hys
        obtain ⟨c0, c2, rfl, k0, k1⟩ := hys.append_inv
        obtain ⟨c3, c4, rfl, k2, k3⟩ := k1.append_inv
        have hl0 : c0.length = off * e' := by
          rw [k0.length, sumLen_same (fun x hx => hye x (List.mem_of_mem_take hx))]
          simp [Nat.min_eq_left (show off ≤ ys.length by omega), Nat.mul_comm]
        have hll : ((ys.drop off).take len).length = len := by simp; omega
        have hsame : ∀ u ∈ (ys.drop off).take len, u.flatLen = e' := fun u hu => hye u (List.mem_of_mem_drop (List.mem_of_mem_take hu))
        have hl3 : c3.length = len * e' := by rw [k2.length, sumLen_same hsame, hll, Nat.mul_comm]
        refine ⟨c3, k2, hsame, fun w' => by simp [Builtin.lenOf, hll], fun w' hw k hk => ?_⟩
        rw [hll] at hk
        rcases h2 L hL with h3 | ⟨h3, _, _, h4⟩
        · omega
        · rcases h4 with h4 | rfl
          · obtain rfl : k = 0 := by omega
            simp [Builtin.firstCells, loadCells, loadCellsFrom]
          · simp only [Builtin.firstCells]
            refine run_take (w := w) (by rw [hl3]; exact Nat.mul_le_mul_right _ hk) (fun j c hj => ?_) hw
            have hjl : j < c3.length := by
              rcases Nat.lt_or_ge j c3.length with h | h
              · exact h
              · simp [List.getElem?_eq_none h] at hj
            have := hcells (p.coff + off * e' + j) c (by
              simp only at ho
              rw [← ho, ← hpre, ← hl0]
              rw [List.append_assoc, List.getElem?_append_right (by omega), List.getElem?_append_left (by simp; omega), List.getElem?_append_right (by omega), List.getElem?_append_left (by omega)]
              rw [show pre.length + c0.length + j - pre.length - c0.length = j by omega]
              exact hj)
            rw [show L.base + p.coff + off * e' + j = L.base + (p.coff + off * e' + j) by omega]
            exact this
      · simp at h
    · simp at h
  · rename_i e ys
    split at h
    · rename_i he
      subst he
      obtain rfl := Option.some.inj h
      obtain ⟨b, o, sp, c1, cap, rfl, hsp, hr, hf, hye, hcap, hm⟩ := PR.isl_inv (show PR E (.isl e ys) cx from hx)
      have hl : c1.length = ys.length * e := by rw [hf.length, sumLen_same hye, Nat.mul_comm]
      refine ⟨c1, hf, hye, fun w' => rfl, fun w' hw k hk => ?_⟩
      rcases hsp with rfl | rfl
      rotate_left
      · obtain rfl : k = 0 := by simpa using hk
        simp [Builtin.firstCells, loadCells, loadCellsFrom]
      simp only [Builtin.firstCells]
      exact run_take (w := w) (by rw [hl]; exact Nat.mul_le_mul_right _ hk) (fun j c hj => hs.imm _ _ _ (hm j c hj)) hw
    · simp at h

theorem FR_bytes : ∀ (l : List UInt8), FR E (l.map fun b => AV.int .u8 b.toNat) (l.map fun b => Value.int .u8 b.toNat)
  | [] => .nil
  | _ :: l => .int (FR_bytes l)

theorem src_str {s : ByteArray} {cx : Value} (hx : VR E (.str s) cx) : ∃ cells, Src P E w 1 (strAV s) cx cells := by
  obtain rfl := hx.str_inv
  refine ⟨s.data.toList.map fun b => Value.int .u8 b.toNat, FR_bytes _, by simp [strAV, AV.flatLen], fun w' => ?_, fun w' _ k hk => ?_⟩
  · simp [Builtin.lenOf, strAV]
  · simp only [Builtin.firstCells, Sem.run_pure]
    congr 1
    apply Array.ext'
    simp [ByteArray.extract, ByteArray.copySlice]

/-- append, where there is nothing to append. -/
theorem run_append_none {argTypes : Array TypeId} {t u e ty : TypeId} {d : TypeDesc} {i : TypeInfo} {base : Option Addr} {sLen sCap : Nat} {x : Value} {cells : List Value} (h0 : argTypes[0]? = some t) (h1 : argTypes[1]? = some u)
    (ht : P.underlying t = some (.slice e)) (hd : P.underlying u = some d) (hnd : srcKind d = true) (hi : P.info? e = some i) (hsrc : Src P E w i.size [] x cells) (hle : sLen ≤ sCap) :
    (Builtin.append_ argTypes ty #[.slice base sLen sCap, x]).run P w = .ok (.slice base sLen sCap) w := by
  have hf := hsrc.first w rfl 0 (by simp)
  have hl := hsrc.len w
  simp only [Nat.zero_mul, List.take_zero] at hf
  simp only [List.length_nil] at hl
  cases d <;> first | (simp [srcKind] at hnd; done) | skip
  all_goals
    simp [Builtin.append_, h0, h1, run_underlying ht, run_underlying hd, sizeOf, typeInfo, hi, hl, hf, hle]
    cases base <;> simp [storeCells]

/-- append, where there is room. -/
theorem run_append_in {argTypes : Array TypeId} {t u e ty : TypeId} {d : TypeDesc} {i : TypeInfo} {a : Addr} {sLen sCap : Nat} {x : Value} {xs : List AV} {cells : List Value} (h0 : argTypes[0]? = some t) (h1 : argTypes[1]? = some u)
    (ht : P.underlying t = some (.slice e)) (hd : P.underlying u = some d) (hnd : srcKind d = true) (hi : P.info? e = some i) (hsrc : Src P E w i.size xs x cells) (hcl : cells.length = xs.length * i.size) (hle : sLen + xs.length ≤ sCap)
    (hst : (storeCells (a.add (sLen * i.size)) cells).run P w = .ok () w') :
    (Builtin.append_ argTypes ty #[.slice (some a) sLen sCap, x]).run P w = .ok (.slice (some a) (sLen + xs.length) sCap) w' := by
  have hf := hsrc.first w rfl xs.length (Nat.le_refl _)
  have hl := hsrc.len w
  rw [← hcl, List.take_length] at hf
  cases d <;> first | (simp [srcKind] at hnd; done) | skip
  all_goals simp [Builtin.append_, h0, h1, run_underlying ht, run_underlying hd, sizeOf, typeInfo, hi, hl, hf, hle, hst]

/-- append, where there is no room. -/
theorem run_append_out {argTypes : Array TypeId} {t u e ty : TypeId} {d : TypeDesc} {i : TypeInfo} {z s : Value} {base : Option Addr} {sLen sCap : Nat} {x : Value} {xs : List AV} {olds cells : List Value} (h0 : argTypes[0]? = some t) (h1 : argTypes[1]? = some u)
    (ht : P.underlying t = some (.slice e)) (hd : P.underlying u = some d) (hnd : srcKind d = true) (hi : P.info? e = some i) (hz : i.zero = some z) (hs : s = .slice base sLen sCap)
    (hsrc : Src P E w i.size xs x cells) (hcl : cells.length = xs.length * i.size) (hlt : sCap < sLen + xs.length)
    (hold : ∀ w' : World, w'.heap = w.heap → (Builtin.firstCells i.size sLen s).run P w' = .ok olds.toArray w')
    (hmax : sLen + xs.length ≤ maxBytes) (hby : (sLen + xs.length) * i.bytes ≤ maxBytes) :
    (Builtin.append_ argTypes ty #[s, x]).run P w = .ok (.slice (some ⟨w.heap.size, 0, none⟩) (sLen + xs.length) (grownCap w (sLen + xs.length) sCap e))
      (w.drew.alloc (.cells ((olds ++ cells) ++ (Builtin.zeroCells z.cells (grownCap w (sLen + xs.length) sCap e - (sLen + xs.length))).toList).toArray e)) := by
  have hf := hsrc.first w.drew rfl xs.length (Nat.le_refl _)
  have hl := hsrc.len w
  have ho := hold w.drew rfl
  rw [← hcl, List.take_length] at hf
  subst hs
  have hn : ¬ (sLen + xs.length ≤ sCap) := by omega
  have hm : maxBytes = 70368744177664 := rfl
  have h63 : ¬ (9223372036854775807 < ((sLen : Int) + (xs.length : Int))) := by omega
  have h48 := growslice_fits (bytes := i.bytes) hlt (by omega)
  have h48' : ¬ (281474976710656 < Builtin.nextslicecap (sLen + xs.length) sCap * i.bytes) := by omega
  cases d <;> first | (simp [srcKind] at hnd; done) | skip
  all_goals
    simp [Builtin.append_, h0, h1, run_underlying ht, run_underlying hd, sizeOf, typeInfo, zeroValue, hi, hz, hl, hf, ho, hn, h63, h48', Question.forced, newRow, grownCap]
    congr 2
    apply Array.ext'
    simp

end
end Go.X
/-
  append, copy, clear; slices made.
-/
namespace Go.X
open Go.RowKit (Below)

section
variable {P : Program} {B : Nat} {E E' : Env} {H : Heap} {w w' : World}

theorem setMany_refs {ys xs : List AV} {k : Nat} : ∀ x ∈ refsL (setMany ys k xs), x ∈ refsL ys ∨ x ∈ refsL xs := by
  intro x hx
  unfold setMany at hx
  rw [refsL_append, refsL_append] at hx
  simp only [List.mem_append] at hx
  rcases hx with (hx | hx) | hx
  · exact .inl (refsL_sub (fun y hy => List.mem_of_mem_take hy) x hx)
  · exact .inr hx
  · exact .inl (refsL_sub (fun y hy => List.mem_of_mem_drop hy) x hx)
where
  refsL_append : ∀ (a b : List AV), refsL (a ++ b) = refsL a ++ refsL b
    | [], b => by simp [refsL]
    | x :: a, b => by simp [refsL, refsL_append a b]
  refsL_sub : ∀ {a b : List AV}, (∀ y ∈ a, y ∈ b) → ∀ x ∈ refsL a, x ∈ refsL b
    | [], b, h, x, hx => by simp [refsL] at hx
    | y :: a, b, h, x, hx => by
      simp only [refsL, List.mem_append] at hx
      rcases hx with hx | hx
      · exact load_ok.refsL_of_mem (h y List.mem_cons_self) hx
      · exact refsL_sub (fun z hz => h z (List.mem_cons_of_mem _ hz)) x hx

/-- Some elements of an array or a slice are written over. -/
theorem Sim.splice (hs : Sim B E H w) {i : Nat} {bk : Blk} {L : Loc} {path : List Nat} {o sz k : Nat} {ys xs : List AV} {r : AV} {g fl : Bool} {cells : List Value} (hb : H.blk i = some bk) (hL : E.loc i = some L)
    (hat : bk.root.at? path = some (o, .arr sz ys)) (hput : bk.root.put? path (.arr sz (setMany ys k xs)) = some r) (hf : FR E xs cells) (hx : ∀ u ∈ xs, u.flatLen = sz) (hk : k + xs.length ≤ ys.length) (hfl : fl = true → r.refs = []) :
    (storeCells ⟨L.b, L.base + o + k * sz, none⟩ cells).run P w = .ok () (w.setCells L.b (L.base + o + k * sz) cells) ∧
    Sim B E (H.set i (some ⟨r, g, fl⟩)) (w.setCells L.b (L.base + o + k * sz) cells) ∧ ∀ q, Tr B q E w E (w.setCells L.b (L.base + o + k * sz) cells) := by
  obtain ⟨L', hL', hB, hBL⟩ := hs.live _ _ hb
  obtain rfl : L = L' := by rw [hL] at hL'; exact Option.some.inj hL'
  obtain ⟨cs, hfr, hlen, hcells⟩ := hB.cs
  obtain ⟨pre0, mid0, post0, hcs0, hpre0, hm0⟩ := at_spec _ _ _ _ _ hfr hat
  obtain ⟨hys, hye⟩ := hm0.arr_inv
  have hsplit : ys = ys.take k ++ ((ys.drop k).take xs.length ++ (ys.drop k).drop xs.length) := by rw [List.take_append_drop, List.take_append_drop]
  have hys' := hys
  rw [hsplit] at hys'
  obtain ⟨c0, c2, hc02, k0, k1⟩ := hys'.append_inv
  obtain ⟨c3, c4, rfl, k2, k3⟩ := k1.append_inv
  subst hc02
  have hl0 : c0.length = k * sz := by
    rw [k0.length, sumLen_same (fun x hx => hye x (List.mem_of_mem_take hx))]
    simp [Nat.min_eq_left (show k ≤ ys.length by omega), Nat.mul_comm]
  have hl3 : c3.length = cells.length := by
    rw [k2.length, hf.length, sumLen_same (fun x hx => hye x (List.mem_of_mem_drop (List.mem_of_mem_take hx))), sumLen_same hx]
    congr 1
    simp; omega
  have hnew : FR E [.arr sz (setMany ys k xs)] (c0 ++ cells ++ c4) := by
    have h1 : FR E (setMany ys k xs) (c0 ++ cells ++ c4) := by
      unfold setMany
      rw [List.drop_drop] at k3
      exact FR.append (FR.append k0 hf) k3
    have := FR.arr (e := sz) (vs := []) (cs := []) h1 (fun x hx' => by
      unfold setMany at hx'
      simp only [List.mem_append] at hx'
      rcases hx' with (h | h) | h
      · exact hye x (List.mem_of_mem_take h)
      · exact hx x h
      · exact hye x (List.mem_of_mem_drop h)) .nil
    simpa using this
  obtain ⟨pre, mid, post, hcs, hpre, hm, hml, hr, _⟩ := put_spec _ _ _ _ _ _ _ _ hfr hat hput hnew
  have hpp : pre = pre0 ∧ mid ++ post = (c0 ++ (c3 ++ c4)) ++ post0 := by
    rw [hcs, List.append_assoc, List.append_assoc] at hcs0
    exact List.append_inj hcs0 (by omega)
  obtain ⟨rfl, hmp⟩ := hpp
  have hmid : mid = c0 ++ (c3 ++ c4) ∧ post = post0 := List.append_inj hmp (by rw [← hml]; simp; omega)
  obtain ⟨rfl, rfl⟩ := hmid
  subst hcs
  have hfit := hB.fits
  have hlen' : pre.length + (c0.length + (c3.length + c4.length)) + post.length = L.gen := by rw [← hlen]; simp; omega
  have hroom : ∀ j, j < cells.length → o + k * sz + j < L.ext := fun j hj => by omega
  have hin := World.cell?_setCells_in L.b cells (L.base + o + k * sz) w (fun j hj => by
    have := (hB.room (o + k * sz + j) (hroom j hj)).1
    rwa [show L.base + (o + k * sz + j) = L.base + o + k * sz + j by omega] at this)
  have hout : ∀ b q, ¬ (b = L.b ∧ L.base + o + k * sz ≤ q ∧ q < L.base + o + k * sz + cells.length) → (w.setCells L.b (L.base + o + k * sz) cells).cell? ⟨b, q, none⟩ = w.cell? ⟨b, q, none⟩ := fun b q hq =>
    World.cell?_setCells_out L.b cells (L.base + o + k * sz) w ⟨b, q, none⟩ (fun h1 _ => by simp only at h1 ⊢; omega)
  refine ⟨?_, ?_⟩
  · have := run_storeCells_cells (P := P) L.b (L.base + o + k * sz) cells 0 w (fun j hj => by
      have := (hB.room (o + k * sz + j) (hroom j hj)).1
      rwa [show L.base + (o + k * sz + j) = L.base + o + k * sz + 0 + j by omega] at this) (fun j hj => by
      have := (hB.room (o + k * sz + j) (hroom j hj)).2
      rwa [show L.base + (o + k * sz + j) = L.base + o + k * sz + 0 + j by omega] at this) (fun v hv => hf.oneCell v hv)
    simpa using this
  · refine hs.write hb hL hr (by simp; omega) hfl (fun j c hj => ?_) (fun j hj => setCells_some _ _ _ _ _ (hB.room j hj).1) (fun b q hq => hout b q (fun hh => hq ?_)) (fun b q => World.frozen?_setCells _ _ _ _ _) (below_setCells _ hBL _ _ _)
    · by_cases h1 : o + k * sz ≤ j ∧ j < o + k * sz + cells.length
      · have h2 := hin (j - (o + k * sz)) (by omega)
        rw [show L.base + o + k * sz + (j - (o + k * sz)) = L.base + j by omega] at h2
        rw [h2, ← hj]
        simp only [List.append_assoc]
        rw [List.getElem?_append_right (by omega), List.getElem?_append_right (by omega), List.getElem?_append_left (by omega), List.getElem?_eq_getElem (by omega)]
        congr 2
        omega
      · rw [hout _ _ (by omega)]
        refine hcells j c ?_
        simp only [List.append_assoc] at hj ⊢
        rcases Nat.lt_or_ge j pre.length with h | h
        · rw [List.getElem?_append_left h] at hj ⊢; exact hj
        · rw [List.getElem?_append_right h] at hj ⊢
          rcases Nat.lt_or_ge (j - pre.length) c0.length with h' | h'
          · rw [List.getElem?_append_left h'] at hj ⊢; exact hj
          · rw [List.getElem?_append_right h'] at hj ⊢
            rw [List.getElem?_append_right (by omega)] at hj ⊢
            rw [hl3]
            exact hj
    · have := hroom (cells.length - 1)
      unfold Loc.has
      omega

theorem sl_new {E : Env} {L : Loc} {sz n cap : Nat} (hg : sz * n = L.gen) (hb : L.base = 0) (hcap : n ≤ cap) (hext : cap * sz ≤ L.ext) :
    VR (E.new L) (.sl ⟨E.top, 0, [], sz * n⟩ sz n 0 n) (.slice (some ⟨L.b, 0, none⟩) n cap) := by
  refine .of_PR (v := .sl _ _ _ _ _) ⟨[_], .sl (Nat.lt_succ_self _) hcap (fun L' hL' => .inr ?_) rfl .nil, rfl⟩
  simp only [Env.new, if_pos] at hL'
  obtain rfl := Option.some.inj hL'
  exact ⟨hg, by omega, by simpa using hext, .inr (by simp [hb])⟩

/-- A row of new elements, with room behind. -/
theorem rowSl_ok {n0 : Nat} (hs : Sim B E H w) (hn : n0 ≤ H.length) {sz : Nat} {xs : List AV} {cells rest : List Value} {t : TypeId} {cap : Nat} {fl : Bool} {fr : Nat × Nat} (hf : FR E xs cells) (hx : ∀ u ∈ xs, u.flatLen = sz) (hfl : fl = true → refsL xs = [])
    (hw : w'.heap = w.heap) (hwo : Bel B w w') (hcap : xs.length ≤ cap) (hrest : cells.length + rest.length = cap * sz) (hfr : fr = (0, 0) ∨ cap * sz ≤ fr.1 := by exact .inl rfl) :
    Res B n0 E H w (.sl ⟨H.length, 0, [], sz * xs.length⟩ sz xs.length 0 xs.length) (newBlk H (.arr sz xs) true fl) false (E.new ⟨w.heap.size, 0, sz * xs.length + rest.length, sz * xs.length⟩)
      (w'.alloc (.cells (cells ++ rest).toArray t fr)) (.slice (some ⟨w.heap.size, 0, none⟩) xs.length cap) := by
  have hl : cells.length = sz * xs.length := by rw [hf.length, sumLen_same hx]
  have hfa : FR E [.arr sz xs] cells := by
    have := FR.arr (e := sz) (vs := []) (cs := []) hf hx .nil
    simpa using this
  obtain ⟨k1, k2⟩ := row_ok (g := true) (rest := rest) (t := t) hs hfa (fl := fl) (fr := fr) (by simpa [AV.refs] using hfl) hw hwo (by rw [hrest]; exact hfr) hl.symm
  refine ⟨k1, ?_, k2 _ (Nat.le_refl _), by simp [newBlk], fun _ => Sub.append hn⟩
  rw [← hs.top]
  exact sl_new rfl rfl hcap (by simp only; omega)

end
end Go.X
/-
  append, copy, clear; slices made: what the evaluator tells is what the model does.
-/
namespace Go.X
open Go.RowKit (Below)

section
variable {P : Program} {B : Nat} {E E' : Env} {H : Heap} {w w' : World}

theorem tinfo {t : TypeId} {n m : Nat} (h : tsize P t = some n) (h' : tbytes P t = some m) : ∃ i, P.info? t = some i ∧ i.size = n ∧ i.bytes = m := by
  unfold tsize at h
  unfold tbytes at h'
  cases hi : P.info? t with
  | none => simp [hi] at h
  | some i => exact ⟨i, rfl, by simpa [hi] using h, by simpa [hi] using h'⟩

theorem zero_size {t : TypeId} {n : Nat} {i : TypeInfo} (h : (zeroAV P t).map AV.flatLen = some n) (hi : P.info? t = some i) : ∃ z, i.zero = some z ∧ z.cells.size = n := by
  simp only [Option.map_eq_some_iff] at h
  obtain ⟨v, hv, rfl⟩ := h
  obtain ⟨i', z, hi', hz, hf, _⟩ := zero_spec (E := ⟨fun _ => none, fun _ _ => none, 0, fun _ => none, 0⟩) hv
  rw [hi] at hi'
  obtain rfl := Option.some.inj hi'
  have := hf.length
  exact ⟨z, hz, by simpa [sumLen] using this⟩

theorem below_drew {B : Nat} (w : World) : Bel B w w.drew := (Bel.refl B w).drew

theorem size_zeroCells' {z : Value} {n sz : Nat} (h : z.cells.size = sz) : (Builtin.zeroCells z.cells n).toList.length = n * sz := by
  have := size_zeroCells z.cells n
  simp [this, h]

theorem at_nil (v : AV) : v.at? [] = some (0, v) := by cases v <;> rfl

theorem append_ok {n0 : Nat} (hs : Sim B E H w) (hn : n0 ≤ H.length) {argTypes : Array TypeId} {t u e ty : TypeId} {d : TypeDesc} {s v : AV} {cs cx : Value} {xs : List AV} {cells : List Value} {sz : Nat} {H' : Heap}
    (h0 : argTypes[0]? = some t) (h1 : argTypes[1]? = some u) (ht : P.underlying t = some (.slice e)) (hd : P.underlying u = some d) (hnd : srcKind d = true) (hsz : tsize P e = some sz)
    (hv : VR E s cs) (hsrc : Src P E w sz xs cx cells) (h : appendAV P H e s xs = some (v, H')) :
    ∃ c w' E', (Builtin.append_ argTypes ty #[cs, cx]).run P w = .ok c w' ∧ Res B n0 E H w v H' (appendFlag n0 s xs) E' w' c := by
  simp only [appendAV, Option.bind_eq_some_iff] at h
  obtain ⟨sz', hsz', by_, hby, h⟩ := h
  obtain rfl : sz = sz' := by rw [hsz] at hsz'; exact Option.some.inj hsz'
  obtain ⟨i, hi, his, hib⟩ := tinfo hsz hby
  subst his hib
  have hcl : cells.length = xs.length * i.size := by rw [hsrc.fr.length, sumLen_same hsrc.each, Nat.mul_comm]
  split at h
  · -- nothing
    split at h
    · obtain ⟨rfl, rfl⟩ := by simpa using h
      have k := (show PR E .nils cs from hv).leaf rfl
      cases k
      exact ⟨_, _, E, run_append_none h0 h1 ht hd hnd hi hsrc (Nat.le_refl _), Res.same hs (.of_PR (v := .nils) ⟨[_], .nils .nil, rfl⟩)⟩
    · obtain ⟨rfl, rfl⟩ := by simpa using h
      obtain ⟨a, cap, rfl, _, hcap, _⟩ := PR.sl_inv (show PR E (.sl _ _ _ _ _) cs from hv)
      exact ⟨_, _, E, run_append_none h0 h1 ht hd hnd hi hsrc hcap, Res.same hs hv⟩
    · obtain ⟨rfl, rfl⟩ := by simpa using h
      obtain ⟨b, o, sp, c1, cap, rfl, _, _, _, _, hcap, _⟩ := PR.isl_inv (show PR E (.isl _ _) cs from hv)
      exact ⟨_, _, E, run_append_none h0 h1 ht hd hnd hi hsrc hcap, Res.same hs hv⟩
    · simp at h
  · rename_i x r
    generalize hxs : x :: r = xs at *
    have hpos : 0 < xs.length := by subst hxs; simp
    split at h
    · rename_i hc
      obtain ⟨hz, _, hsz0⟩ := hc
      obtain ⟨z, hiz, hzs⟩ := zero_size hz hi
      split at h
      · -- nil
        split at h
        · rename_i hb
          obtain ⟨rfl, rfl⟩ := by simpa using h
          have k := (show PR E .nils cs from hv).leaf rfl
          cases k
          have hr := run_append_out (P := P) (w := w) (z := z) (base := none) (sLen := 0) (sCap := 0) (olds := []) (ty := ty) h0 h1 ht hd hnd hi hiz rfl hsrc hcl (by omega) (fun w' _ => by simp [Builtin.firstCells]) (by simpa using hb.2) (by simpa using hb.1)
          simp only [Nat.zero_add, List.nil_append] at hr
          have hge := grownCap_ge w xs.length 0 e
          have hres := rowSl_ok (w' := w.drew) (t := e) hs hn hsrc.fr hsrc.each (fl := reflessL xs) (fun hf => setMany_refs_nil hf) rfl (below_drew w) hge (rest := (Builtin.zeroCells z.cells (grownCap w xs.length 0 e - xs.length)).toList) (by
            rw [hcl, size_zeroCells' hzs, ← Nat.add_mul]; congr 1; omega)
          exact ⟨_, _, _, hr, hres⟩
        · simp at h
      · rename_i p e1 n off len
        simp only [Option.bind_eq_some_iff] at h
        obtain ⟨bk, hb, ⟨o, y⟩, hat, h⟩ := h
        split at h
        · rename_i e' ys hy
          simp only at hy
          subst hy
          split at h
          · rename_i hc
            obtain ⟨hg, ho, rfl, rfl, hyn, hle⟩ := hc
            obtain ⟨ad, cap, rfl, hid, hcap, h2⟩ := PR.sl_inv (show PR E (.sl p i.size n off len) cs from hv)
            obtain ⟨L, hL, hB, hBL, hgen⟩ := hs.at hb hg
            simp only at ho
            have h3 : n ≤ off + cap ∧ p.coff + (off + cap) * i.size ≤ L.ext ∧ (cap = 0 ∨ ad = ⟨L.b, L.base + p.coff + off * i.size, none⟩) := by
              rcases h2 L hL with h3 | ⟨_, h3⟩
              · omega
              · exact h3
            obtain ⟨h3, h4, h5⟩ := h3
            have hflat : ∀ {q : AV}, (∀ x ∈ q.refs, x ∈ bk.root.refs ∨ x ∈ refsL xs) → (bk.flat && reflessL xs) = true → q.refs = [] := fun {q} hq hf => by
              simp only [Bool.and_eq_true] at hf
              refine List.eq_nil_iff_forall_not_mem.2 (fun x hx => ?_)
              rcases hq x hx with h | h
              · simp [hs.flat _ _ hb hf.1] at h
              · simp [FR.evol0.refsL_of_refless hf.2] at h
            have hsub : ∀ {q : AV} {g fl : Bool}, (∀ x ∈ q.refs, x ∈ bk.root.refs ∨ x ∈ refsL xs) → (decide (p.id < n0) && !reflessL xs) = false → Sub n0 H (H.set p.id (some ⟨q, g, fl⟩)) := fun {q g fl} hq he => by
              refine Sub.set hb (fun hlt b hb' y hy => ?_)
              obtain rfl := Option.some.inj hb'
              have hr : reflessL xs = true := by simpa [hlt] using he
              rcases hq y hy with h | h
              · exact h
              · simp [FR.evol0.refsL_of_refless hr] at h
            split at h
            · -- room, and known
              rename_i hroom
              simp only [Option.map_eq_some_iff, Prod.mk.injEq] at h
              obtain ⟨q, hput, rfl, rfl⟩ := h
              have hq : ∀ x ∈ q.refs, x ∈ bk.root.refs ∨ x ∈ refsL xs := fun x hx => by
                rcases put_refs _ _ _ _ hput x hx with h | h
                · exact .inl h
                · simp only [AV.refs] at h
                  rcases setMany_refs x h with h | h
                  · exact .inl (load_ok.at_refs _ _ _ _ hat (by simpa [AV.refs] using h))
                  · exact .inr h
              obtain ⟨k1, k2, k3⟩ := hs.splice (P := P) (g := bk.grow) hb hL hat hput hsrc.fr hsrc.each (by omega) (hflat hq)
              have had : ad = ⟨L.b, L.base + p.coff + off * i.size, none⟩ := by
                rcases h5 with h5 | h5
                · omega
                · exact h5
              subst had
              refine ⟨_, _, E, run_append_in h0 h1 ht hd hnd hi hsrc hcl (by omega) ?_, k2, ?_, k3 _, by simp, fun he => hsub hq he⟩
              · rw [Addr.add_mk, show L.base + p.coff + off * i.size + len * i.size = L.base + o + (off + len) * i.size by rw [ho, Nat.add_mul]; omega]
                exact k1
              · refine .of_PR (v := .sl p i.size n off (len + xs.length)) ⟨[_], .sl hid (by omega) (fun L' hL' => .inr ?_) rfl .nil, rfl⟩
                obtain rfl : L = L' := by rw [hL] at hL'; exact Option.some.inj hL'
                exact ⟨hgen, h3, h4, h5⟩
            · split at h
              · -- at the end
                rename_i hroom hc
                obtain ⟨rfl, rfl, hpath, hgrow, hbm, hlm⟩ := hc
                obtain ⟨rfl, rfl⟩ := by simpa using h
                rw [hpath] at hat
                rw [at_nil] at hat
                have hoo : 0 = o := congrArg Prod.fst (Option.some.inj hat)
                have hroot : bk.root = AV.arr i.size ys := congrArg Prod.snd (Option.some.inj hat)
                subst hoo
                obtain ⟨cs0, hfr, hlen, hcells⟩ := hB.cs
                have hfr' := hfr
                rw [hroot] at hfr'
                obtain ⟨hys, hye⟩ := hfr'.arr_inv
                have hl0 : cs0.length = len * i.size := by rw [hys.length, sumLen_same hye, hyn, Nat.mul_comm]
                have hnewf : FR E [.arr i.size (ys ++ xs)] (cs0 ++ cells) := by
                  have := FR.arr (e := i.size) (vs := []) (cs := []) (FR.append hys hsrc.fr) (fun x hx => by
                    rcases List.mem_append.1 hx with h | h
                    · exact hye x h
                    · exact hsrc.each x h) .nil
                  simpa using this
                have hq : ∀ x ∈ (AV.arr i.size (ys ++ xs)).refs, x ∈ bk.root.refs ∨ x ∈ refsL xs := fun x hx => by
                  simp only [AV.refs, setMany_refs.refsL_append, List.mem_append] at hx
                  rw [hroot]
                  exact hx
                have hfit := hB.fits
                have hg1 : L.gen = len * i.size := by omega
                have hnl : (cs0 ++ cells).length = i.size * (len + xs.length) := by simp [hl0, hcl, Nat.mul_add, Nat.mul_comm]
                have hsz1 : i.size * (len + xs.length) = len * i.size + xs.length * i.size := by rw [Nat.mul_add, Nat.mul_comm, Nat.mul_comm i.size xs.length]
                have hxl : i.size ≤ xs.length * i.size := Nat.le_mul_of_pos_left _ hpos
                simp only [Nat.zero_mul, Nat.zero_add, Nat.add_zero] at h3 h4 h5
                rw [← ho] at h4 h5
                simp only [Nat.zero_add, Nat.add_zero] at h4 h5
                by_cases hin : len + xs.length ≤ cap
                · -- at its place
                  have hce : (len + xs.length) * i.size ≤ cap * i.size := Nat.mul_le_mul_right _ hin
                  rw [Nat.add_mul] at hce
                  have had : ad = ⟨L.b, L.base, none⟩ := by
                    rcases h5 with h5 | h5
                    · omega
                    · exact h5
                  subst had
                  have hcr : ∀ j, j < cells.length → len * i.size + j < L.ext := fun j hj => by omega
                  have hin' := World.cell?_setCells_in L.b cells (L.base + len * i.size) w (fun j hj => by
                    rw [Nat.add_assoc]; exact (hB.room _ (hcr j hj)).1)
                  have hout : ∀ b q, ¬ (b = L.b ∧ L.base + len * i.size ≤ q ∧ q < L.base + len * i.size + cells.length) → (w.setCells L.b (L.base + len * i.size) cells).cell? ⟨b, q, none⟩ = w.cell? ⟨b, q, none⟩ := fun b q hq =>
                    World.cell?_setCells_out L.b cells (L.base + len * i.size) w ⟨b, q, none⟩ (fun h1 _ => by simp only at h1 ⊢; omega)
                  have hst := run_storeCells_cells (P := P) L.b (L.base + len * i.size) cells 0 w (fun j hj => by
                    rw [Nat.add_zero, Nat.add_assoc]; exact (hB.room _ (hcr j hj)).1) (fun j hj => by
                    rw [Nat.add_zero, Nat.add_assoc]; exact (hB.room _ (hcr j hj)).2) (fun v hv => hsrc.fr.oneCell v hv)
                  simp only [Nat.add_zero] at hst
                  have hgr := hs.grow (w' := w.setCells L.b (L.base + len * i.size) cells) (L' := ⟨L.b, L.base, L.ext, i.size * (len + xs.length)⟩) (g := true) hb hL (by simp only; omega) hnewf hnl (by simp only; omega) (hflat hq) (.inl ⟨rfl, rfl, rfl⟩)
                    (fun j c hj => by
                      rcases Nat.lt_or_ge j cs0.length with h | h
                      · rw [hout _ _ (by simp only; omega)]
                        rw [List.getElem?_append_left h] at hj
                        exact hcells j c hj
                      · rw [List.getElem?_append_right h] at hj
                        have hjl : j - cs0.length < cells.length := by
                          rcases Nat.lt_or_ge (j - cs0.length) cells.length with h | h
                          · exact h
                          · simp [List.getElem?_eq_none h] at hj
                        have := hin' (j - cs0.length) hjl
                        simp only
                        rw [show L.base + len * i.size + (j - cs0.length) = L.base + j by omega] at this
                        rw [this, ← hj, List.getElem?_eq_getElem hjl])
                    (fun j hj => ⟨setCells_some _ _ _ _ _ (hB.room j hj).1, by rw [World.frozen?_setCells]; exact (hB.room j hj).2⟩)
                    (fun b q _ hq => ⟨hout b q (fun hh => hq (by unfold Loc.has; have := hcr (cells.length - 1); omega)), World.frozen?_setCells _ _ _ _ _⟩) (below_setCells _ hBL _ _ _)
                  refine ⟨_, _, _, run_append_in h0 h1 ht hd hnd hi hsrc hcl hin (by rw [Addr.add_mk]; exact hst), hgr.1, ?_, hgr.2 _, by simp, fun he => hsub hq he⟩
                  refine .of_PR (v := .sl _ _ _ _ _) ⟨[_], .sl (show _ < E.top from hid) hin (fun L' hL' => .inr ?_) rfl .nil, rfl⟩
                  simp only [Env.put, if_pos] at hL'
                  obtain rfl := Option.some.inj hL'
                  exact ⟨rfl, by omega, by simp only [Nat.zero_add]; omega, .inr (by simp)⟩
                · -- at a new place
                  have hold : ∀ w' : World, w'.heap = w.heap → (Builtin.firstCells i.size len (.slice (some ad) len cap)).run P w' = .ok cs0.toArray w' := fun w' hw => by
                    rcases Nat.eq_zero_or_pos len with rfl | hlp
                    · have hc0 : cs0 = [] := List.eq_nil_of_length_eq_zero (by omega)
                      simp [Builtin.firstCells, loadCells, loadCellsFrom, hc0]
                    · have had : ad = ⟨L.b, L.base, none⟩ := by
                        rcases h5 with h5 | h5
                        · omega
                        · exact h5
                      subst had
                      simp only [Builtin.firstCells]
                      exact run_loadCells' hl0 (fun j c hj => by rw [cell_heap hw]; exact hcells j c hj)
                  have hr := run_append_out (P := P) (w := w) (z := z) (ty := ty) h0 h1 ht hd hnd hi hiz rfl hsrc hcl (by omega) hold hlm hbm
                  have hge := grownCap_ge w (len + xs.length) cap e
                  generalize hgc : grownCap w (len + xs.length) cap e = gc at *
                  have hzl := size_zeroCells' (n := gc - (len + xs.length)) hzs
                  generalize (Builtin.zeroCells z.cells (gc - (len + xs.length))).toList = rest at *
                  have hge' : (len + xs.length) * i.size ≤ gc * i.size := Nat.mul_le_mul_right _ hge
                  have hrl : rest.length = gc * i.size - (len + xs.length) * i.size := by rw [hzl, Nat.sub_mul]
                  have hsz2 : w.drew.heap.size = w.heap.size := rfl
                  have hgr := hs.grow (w' := w.drew.alloc (.cells ((cs0 ++ cells) ++ rest).toArray e)) (L' := ⟨w.heap.size, 0, i.size * (len + xs.length) + rest.length, i.size * (len + xs.length)⟩) (g := true) hb hL (by simp only; omega) hnewf hnl (Nat.le_add_right _ _) (hflat hq) (.inr (Nat.le_refl _))
                    (fun j c hj => by
                      rw [World.cell?_alloc_at _ _ _ _ hsz2.symm]
                      simp only [Nat.zero_add, List.getElem?_toArray]
                      rw [List.getElem?_append_left (by
                        rcases Nat.lt_or_ge j (cs0 ++ cells).length with h | h
                        · exact h
                        · simp [List.getElem?_eq_none h] at hj)]
                      exact hj)
                    (fun j hj => by
                      simp only at hj
                      refine ⟨?_, World.frozen?_alloc_at _ _ _ _ hsz2.symm⟩
                      rw [World.cell?_alloc_at _ _ _ _ hsz2.symm]
                      simp only [Nat.zero_add, List.getElem?_toArray]
                      rw [List.getElem?_eq_getElem (by rw [List.length_append, hnl]; exact hj)]
                      rfl)
                    (fun b q hbq _ => ⟨by rw [World.cell?_alloc_past _ _ _ (by rw [hsz2]; exact hbq)]; rfl, World.frozen?_of_block (Below.heap_alloc w.drew _ b (by rw [hsz2]; exact hbq))⟩)
                    ((below_drew w).trans ((Bel.refl B w.drew).alloc (by rw [hsz2]; exact hs.old) _))
                  refine ⟨_, _, _, hr, hgr.1, ?_, hgr.2 _, by simp, fun he => hsub hq he⟩
                  refine .of_PR (v := .sl _ _ _ _ _) ⟨[_], .sl (show _ < E.top from hid) hge (fun L' hL' => .inr ?_) rfl .nil, rfl⟩
                  simp only [Env.put, if_pos] at hL'
                  obtain rfl := Option.some.inj hL'
                  refine ⟨rfl, by omega, ?_, .inr (by simp)⟩
                  simp only [Nat.zero_add]
                  rw [hrl, hsz1]
                  rw [Nat.add_mul] at *
                  omega
              · simp at h
          · simp at h
        · simp at h
      · simp at h
    · simp at h
where
  setMany_refs_nil {xs : List AV} (h : reflessL xs = true) : refsL xs = [] := FR.evol0.refsL_of_refless h

end
end Go.X
/-
  copy, clear, slices made, conversions; values frozen.
-/
namespace Go.X
open Go.RowKit (Below)

section
variable {P : Program} {B : Nat} {E E' : Env} {H : Heap} {w w' : World}

theorem FR.take_each {sz k : Nat} {xs : List AV} {cells : List Value} (hf : FR E xs cells) (hx : ∀ u ∈ xs, u.flatLen = sz) (hk : k ≤ xs.length) : FR E (xs.take k) (cells.take (k * sz)) := by
  have h1 : xs = xs.take k ++ xs.drop k := (List.take_append_drop k xs).symm
  rw [h1] at hf
  obtain ⟨c0, c1, rfl, k0, k1⟩ := hf.append_inv
  have hl : c0.length = k * sz := by
    rw [k0.length, sumLen_same (fun x hx' => hx x (List.mem_of_mem_take hx'))]
    simp [Nat.min_eq_left hk, Nat.mul_comm]
  rw [← hl, List.take_left]
  exact k0

theorem srcAV_ok (hs : Sim B E H w) {sz : Nat} {x : AV} {xs : List AV} {cx : Value} (hx : VR E x cx) (h : srcAV H sz x = some xs) : ∃ cells, Src P E w sz xs cx cells := by
  unfold srcAV at h
  split at h
  · split at h
    · rename_i h1
      subst h1
      obtain rfl := Option.some.inj h
      exact src_str hx
    · simp at h
  · exact src_ok hs hx h

theorem copy_ok {n0 : Nat} (hs : Sim B E H w) {argTypes : Array TypeId} {t ty : TypeId} {d s v : AV} {cd cx : Value} {H' : Heap} (h0 : argTypes[0]? = some t) (hd : VR E d cd) (hx : VR E s cx)
    (h : copyAV P H t d s = some (v, H')) :
    ∃ c w' E', (Builtin.copy_ argTypes ty #[cd, cx]).run P w = .ok c w' ∧ Res B n0 E H w v H' (copyFlag n0 H' d) E' w' c := by
  unfold copyAV at h
  split at h
  · rename_i e hu
    simp only [Option.bind_eq_some_iff] at h
    obtain ⟨sz, hsz, xs, hxs, h⟩ := h
    obtain ⟨cells, hsrc⟩ := srcAV_ok (P := P) hs hx hxs
    split at h
    · obtain ⟨rfl, rfl⟩ := by simpa using h
      have k := (show PR E .nils cd from hd).leaf rfl
      cases k
      refine ⟨.int .i64 0, w, E, ?_, Res.same hs VR.int⟩
      have hf := hsrc.first w rfl 0 (Nat.zero_le _)
      simp [Builtin.copy_, h0, run_underlying hu, hsrc.len w, run_sizeOf' hsz, hf, goInt]
    · rename_i p e1 n off len
      simp only [Option.bind_eq_some_iff] at h
      obtain ⟨bk, hb, ⟨o, y⟩, hat, h⟩ := h
      split at h
      · rename_i e' ys hy
        simp only at hy
        subst hy
        split at h
        · rename_i hc
          obtain ⟨hg, ho, rfl, rfl, hyn, hle, hall⟩ := hc
          simp only [Option.map_eq_some_iff, Prod.mk.injEq] at h
          obtain ⟨q, hput, rfl, rfl⟩ := h
          obtain ⟨ad, cap, rfl, hid, hcap, h2⟩ := PR.sl_inv (show PR E (.sl p e' n off len) cd from hd)
          obtain ⟨L, hL, hB, hBL, hgen⟩ := hs.at hb hg
          have hk : min xs.length len ≤ xs.length := Nat.min_le_left _ _
          have hk2 : min xs.length len ≤ len := Nat.min_le_right _ _
          have hfk := hsrc.fr.take_each hsrc.each hk
          have hq : ∀ x ∈ q.refs, x ∈ bk.root.refs ∨ x ∈ refsL xs := fun x hx => by
            rcases put_refs _ _ _ _ hput x hx with h | h
            · exact .inl h
            · simp only [AV.refs] at h
              rcases setMany_refs x h with h | h
              · exact .inl (load_ok.at_refs _ _ _ _ hat (by simpa [AV.refs] using h))
              · exact .inr (setMany_refs.refsL_sub (fun y hy => List.mem_of_mem_take hy) x h)
          have hfl : (bk.flat && reflessL xs) = true → q.refs = [] := fun hf => by
            simp only [Bool.and_eq_true] at hf
            refine List.eq_nil_iff_forall_not_mem.2 (fun x hx => ?_)
            rcases hq x hx with h | h
            · simp [hs.flat _ _ hb hf.1] at h
            · simp [FR.evol0.refsL_of_refless hf.2] at h
          obtain ⟨k1, k2, k3⟩ := hs.splice (P := P) (g := bk.grow) hb hL hat hput hfk (fun u hu => hsrc.each u (List.mem_of_mem_take hu)) (by simp; omega) hfl
          simp only at ho
          have hfirst := hsrc.first w rfl (min xs.length len) hk
          have hst : (storeCells ad (cells.take (min xs.length len * e'))).run P w = .ok () (w.setCells L.b (L.base + o + off * e') (cells.take (min xs.length len * e'))) := by
            rcases h2 L hL with h3 | ⟨_, _, _, h3⟩
            · omega
            · rcases h3 with h3 | rfl
              · have : min xs.length len = 0 := by omega
                simp [this, storeCells, World.setCells]
              · rw [ho] at k1 ⊢
                exact k1
          refine ⟨.int .i64 (min xs.length len : Nat), _, E, ?_, k2, VR.int, k3 _, by simp, fun he => ?_⟩
          · simp only [Nat.min_def] at hfirst hst ⊢
            simp [Builtin.copy_, h0, run_underlying hu, hsrc.len w, run_sizeOf' hsz, Nat.min_def, hfirst, hst, goInt]
          · refine Sub.set hb (fun hlt b hb' y hy => ?_)
            obtain rfl := Option.some.inj hb'
            have hnm : noMap (some ⟨q, bk.grow, bk.flat && reflessL xs⟩) := fun b hb' => by
              obtain rfl := Option.some.inj hb'
              exact put_notup (v := .arr e' _) hput rfl
            simp only [copyFlag, Heap.blk_set (Heap.blk_some hb) hnm, if_true, hlt, decide_true, Bool.true_and, Bool.not_eq_false', Bool.and_eq_true] at he
            rcases hq y hy with h | h
            · exact h
            · simp [FR.evol0.refsL_of_refless he.2] at h
        · simp at h
      · simp at h
    · simp at h
  · simp at h

theorem range_zero (n s : Nat) (hs : 0 < s) (z : Array Value) (hz : z.size = s) : ((Array.range (n * s)).map (z[· % z.size]!)).toList = (List.replicate n z.toList).flatten := by
  subst hz
  apply List.ext_getElem?
  intro j
  have hlen : (List.replicate n z.toList).flatten.length = n * z.size := by simp
  by_cases hj : j < n * z.size
  · have h1 : ((Array.range (n * z.size)).map (z[· % z.size]!)).toList[j]? = some z[j % z.size]! := by
      simp [hj]
    rw [h1]
    have hm : j % z.size < z.size := Nat.mod_lt _ hs
    rw [getElem!_pos z _ hm]
    induction n generalizing j with
    | zero => simp at hj
    | succ n ih =>
      rw [List.replicate_succ, List.flatten_cons]
      rcases Nat.lt_or_ge j z.size with h | h
      · rw [List.getElem?_append_left (by simpa using h)]
        have e : j % z.size = j := Nat.mod_eq_of_lt h
        simp [e, h]
      · rw [List.getElem?_append_right (by simpa using h)]
        have e : (j - z.size) % z.size = j % z.size := by
          conv => rhs; rw [show j = (j - z.size) + z.size by omega, Nat.add_mod_right]
        have := ih (j - z.toList.length) (by simp) (by simp [Nat.add_mul] at hj ⊢; omega) (by
          have : j - z.size < n * z.size := by rw [Nat.add_mul] at hj; omega
          simp [this]) (by simpa [e] using hm)
        simp only [Array.length_toList] at this
        simp only [e] at this
        simpa using this
  · rw [List.getElem?_eq_none (by simp; omega), List.getElem?_eq_none (by simp; omega)]

theorem FR_replicate {z : AV} {cs : List Value} (h : FR E [z] cs) : ∀ n, FR E (List.replicate n z) (List.replicate n cs).flatten
  | 0 => .nil
  | n + 1 => by
    rw [List.replicate_succ, List.replicate_succ, List.flatten_cons]
    exact FR.cons h (FR_replicate h n)

theorem refsL_replicate {z : AV} (h : z.refs = []) : ∀ n, refsL (List.replicate n z) = []
  | 0 => rfl
  | n + 1 => by rw [List.replicate_succ]; simp [refsL, h, refsL_replicate h n]

theorem makeSlice_ok {n0 : Nat} (hs : Sim B E H w) (hn : n0 ≤ H.length) {t e : TypeId} {l c sz by_ : Nat} {al ac z : AV} {cl cc : Value} (hu : P.underlying t = some (.slice e)) (hsz : tsize P e = some sz) (hby : tbytes P e = some by_)
    (hl : VR E al cl) (hl' : al.idx = some l) (hc : VR E ac cc) (hc' : ac.idx = some c) (hz : zeroAV P e = some z) (hle : l ≤ c) (hm1 : c * by_ ≤ maxBytes) (hm2 : c ≤ maxBytes) (hzl : z.flatLen = sz) (hsz0 : 0 < sz) :
    ∃ cv w' E', (Instr.makeSlice t cl cc).run P w = .ok cv w' ∧ Res B n0 E H w (.sl ⟨H.length, 0, [], sz * l⟩ sz l 0 l) (newBlk H (.arr sz (List.replicate l z)) true true) false E' w' cv := by
  obtain ⟨kl, nl, rfl, hl0, rfl⟩ := idx_ok hl hl'
  obtain ⟨kc, nc, rfl, hc0, rfl⟩ := idx_ok hc hc'
  obtain ⟨i, hi, his, hib⟩ := tinfo hsz hby
  subst his hib
  obtain ⟨i', zv, hi', hiz, hf, hrl, _⟩ := zero_spec (E := E) hz
  rw [hi] at hi'
  obtain rfl := Option.some.inj hi'
  have hzs : zv.cells.size = i.size := by
    have := hf.length
    simp only [sumLen, hzl, Nat.add_zero, Array.length_toList] at this
    exact this
  have hmb : maxBytes = 70368744177664 := rfl
  have e1 : IntKind.i64.wrap nl = nl := by simp only [IntKind.wrap, IntKind.bits, IntKind.signed]; simp; omega
  have e2 : IntKind.i64.wrap nc = nc := by simp only [IntKind.wrap, IntKind.bits, IntKind.signed]; simp; omega
  have hb1 : ¬ (281474976710656 < (i.bytes : Int) * nc) := by
    have : (i.bytes : Int) * nc = ((nc.toNat * i.bytes : Nat) : Int) := by rw [Int.natCast_mul, Int.toNat_of_nonneg hc0, Int.mul_comm]
    rw [this]; omega
  have hr : (Instr.makeSlice t (.int kl nl) (.int kc nc)).run P w = .ok (.slice (some ⟨w.heap.size, 0, none⟩) nl.toNat nc.toNat)
      (w.alloc (.cells ((Array.range (nc.toNat * i.size)).map (zv.cells[· % zv.cells.size]!)) e)) := by
    have h3 : ¬ (nc < 0) := by omega
    have h4 : ¬ (nl < 0) := by omega
    have h5 : ¬ (nl > nc) := by omega
    by_cases h0 : nc.toNat * i.size = 0
    · simp [Instr.makeSlice, run_underlying hu, asInt, asIntOf, typeInfo, sizeOf, hi, e1, e2, hb1, h3, h4, h5, h0, newRow]
      have hr0 : Array.range 0 = #[] := by apply Array.ext'; simp
      simp [hr0]
    · simp [Instr.makeSlice, run_underlying hu, asInt, asIntOf, typeInfo, sizeOf, zeroValue, hi, hiz, e1, e2, hb1, h3, h4, h5, h0, newRow]
  have hcells : ((Array.range (nc.toNat * i.size)).map (zv.cells[· % zv.cells.size]!)) = ((List.replicate nl.toNat zv.cells.toList).flatten ++ (List.replicate (nc.toNat - nl.toNat) zv.cells.toList).flatten).toArray := by
    apply Array.ext'
    rw [range_zero _ _ hsz0 _ hzs, ← List.flatten_append, List.replicate_append_replicate]
    congr 2
    omega
  rw [hcells] at hr
  have hres := rowSl_ok (w' := w) (t := e) (sz := i.size) (cap := nc.toNat) (fl := true) hs hn (FR_replicate hf nl.toNat) (fun u hu => by rw [List.eq_of_mem_replicate hu]; exact hzl) (fun _ => refsL_replicate (FR.evol0.refs_of_refless hrl) _) rfl (Bel.refl _ _) (by simpa using hle)
    (rest := (List.replicate (nc.toNat - nl.toNat) zv.cells.toList).flatten) (by simp [hzs, ← Nat.add_mul]; congr 1; omega)
  simp only [List.length_replicate] at hres
  exact ⟨_, _, _, hr, hres⟩

theorem fill_arr {place : Nat → Option (Nat × Nat)} {e : Nat} : ∀ (ps : List (Nat × AV)) (xs : List AV) (r : AV) (_ : True), fillAV place (.arr e xs) ps = some r → ∃ ys, r = .arr e ys ∧ ys.length = xs.length
  | [], xs, r, _, h => by
    simp only [fillAV, Option.some.injEq] at h
    exact ⟨xs, h.symm, rfl⟩
  | (i, v) :: ps, xs, r, _, h => by
    simp only [fillAV, Option.bind_eq_some_iff] at h
    obtain ⟨x, _, y, _, h⟩ := h
    split at h
    · simp only [Option.bind_eq_some_iff] at h
      obtain ⟨acc, hput, h⟩ := h
      simp only [AV.put?, Option.bind_eq_some_iff, Option.map_eq_some_iff] at hput
      obtain ⟨_, _, q, _, rfl⟩ := hput
      obtain ⟨ys, h1, h2⟩ := fill_arr ps _ r trivial h
      exact ⟨ys, h1, by simpa using h2⟩
    · simp at h

theorem buildSlice_ok {n0 : Nat} (hs : Sim B E H w) (hn : n0 ≤ H.length) {t e : TypeId} {len sz : Nat} {z r : AV} {ps : List (Nat × AV)} {cps : List (Nat × Value)} (hu : P.underlying t = some (.slice e)) (hsz : tsize P e = some sz)
    (hz : zeroAV P e = some z) (hzl : z.flatLen = sz) (hsz0 : 0 < sz) (hlen : 0 < len) (hsmall : len * sz ≤ 2 ^ 20) (hp : Parts E ps cps) (hr : fillAV (fun i => some (i * sz, sz)) (.arr sz (List.replicate len z)) ps = some r) :
    ∃ cv w' E', (Instr.buildSlice t len cps.toArray).run P w = .ok cv w' ∧ Res B n0 E H w (.sl ⟨H.length, 0, [], sz * len⟩ sz len 0 len) (newBlk H r true r.refless) false E' w' cv := by
  obtain ⟨i, hi, his⟩ : ∃ i, P.info? e = some i ∧ i.size = sz := by simpa [tsize] using hsz
  subst his
  obtain ⟨i', zv, hi', hiz, hf, hrl, _⟩ := zero_spec (E := E) hz
  rw [hi] at hi'
  obtain rfl := Option.some.inj hi'
  have hzs : zv.cells.size = i.size := by
    have := hf.length
    simp only [sumLen, hzl, Nat.add_zero, Array.length_toList] at this
    exact this
  have hfa : FR E [.arr i.size (List.replicate len z)] (List.replicate len zv.cells.toList).flatten := by
    have := FR.arr (e := i.size) (vs := []) (cs := []) (FR_replicate hf len) (fun u hu => by rw [List.eq_of_mem_replicate hu]; exact hzl) .nil
    simpa using this
  obtain ⟨cells', h1, h2, h3, _⟩ := fill_ok (place' := fun j => some (j * i.size, i.size)) (fun _ _ h => h) ps cps _ r _ hp hfa hr
  have harr : ∃ xs, r = .arr i.size xs ∧ xs.length = len := by
    obtain ⟨xs, hx1, hx2⟩ := fill_arr _ _ _ trivial hr
    exact ⟨xs, hx1, by simpa using hx2⟩
  obtain ⟨xs, rfl, hxl⟩ := harr
  obtain ⟨hxs, hxe⟩ := h2.arr_inv
  have hpos : ¬ len * i.size = 0 := by
    have := Nat.mul_pos hlen hsz0
    omega
  have hrun := run_buildSlice (P := P) w t e len cps.toArray cells'.toArray i zv hu hi hiz (by omega) hpos (by
    have : (Array.range (len * i.size)).map (zv.cells[· % zv.cells.size]!) = (List.replicate len zv.cells.toList).flatten.toArray := by
      apply Array.ext'
      rw [range_zero _ _ hsz0 _ hzs]
    rw [this]
    simpa using h1)
  have hcl : cells'.length = i.size * len := by rw [hxs.length, sumLen_same hxe, hxl]
  have hres := rowSl_ok (w' := w) (t := e) (cap := len) (fl := (AV.arr i.size xs).refless) (rest := []) hs hn hxs hxe (fun h => by
    have := FR.evol0.refs_of_refless h
    simpa [AV.refs] using this) rfl (Bel.refl _ _) (by omega) (by simp [hcl, Nat.mul_comm])
  simp only [hxl, List.append_nil] at hres
  exact ⟨_, _, _, hrun, hres⟩

theorem buildSlice0_ok {n0 : Nat} (hs : Sim B E H w) (hn : n0 ≤ H.length) {t e : TypeId} {sz : Nat} (hu : P.underlying t = some (.slice e)) (hsz : tsize P e = some sz) :
    ∃ cv w' E', (Instr.buildSlice t 0 #[]).run P w = .ok cv w' ∧ Res B n0 E H w (.sl ⟨H.length, 0, [], sz * 0⟩ sz 0 0 0) (newBlk H (.arr sz []) true true) false E' w' cv := by
  have hr0 : Array.range 0 = #[] := by apply Array.ext'; simp
  have hrun : (Instr.buildSlice t 0 #[]).run P w = .ok (.slice (some ⟨w.heap.size, 0, none⟩) 0 0) (w.alloc (.cells #[] e)) := by
    simp [Instr.buildSlice, run_underlying hu, run_sizeOf' hsz, hr0, Instr.fill, newRow]
  have hres := rowSl_ok (w' := w) (t := e) (sz := sz) (cap := 0) (fl := true) (rest := []) hs hn (FR.nil) (by simp) (fun _ => rfl) rfl (Bel.refl _ _) (Nat.le_refl _) (by simp)
  exact ⟨_, _, _, hrun, hres⟩

theorem clear_ok {n0 : Nat} (hs : Sim B E H w) {argTypes : Array TypeId} {t ty : TypeId} {d v : AV} {cd : Value} {H' : Heap} (h0 : argTypes[0]? = some t) (hd : VR E d cd)
    (h : clearAV P H t d = some (v, H')) :
    ∃ c w' E', (Builtin.clear_ argTypes ty #[cd]).run P w = .ok c w' ∧ Res B n0 E H w v H' false E' w' c := by
  have hvt : ∀ E, VR E (.tuple []) (.tuple #[]) := fun E => ⟨[], rfl, rfl, fun i v c hv => by simp at hv⟩
  unfold clearAV at h
  split at h
  · rename_i d' hu
    obtain ⟨rfl, rfl⟩ := by simpa using h
    have k := (show PR E .nils cd from hd).leaf rfl
    cases k
    have hd : ∃ dd, P.underlying t = some dd := ⟨_, hu⟩
    refine ⟨.tuple #[], w, E, ?_, Res.same hs (hvt E)⟩
    obtain ⟨dd, hdd⟩ := hd
    simp [Builtin.clear_, h0, run_underlying hdd]
  · rename_i e p sz n off len hu
    simp only [Option.bind_eq_some_iff] at h
    obtain ⟨z, hz, sz', hsz, bk, hb, ⟨o, y⟩, hat, h⟩ := h
    split at h
    · rename_i e' ys hy
      simp only at hy
      subst hy
      split at h
      · rename_i hc
        obtain ⟨hg, ho, rfl, rfl, hyn, hle, hzl, hlen⟩ := hc
        simp only [Option.map_eq_some_iff, Prod.mk.injEq] at h
        obtain ⟨q, hput, rfl, rfl⟩ := h
        obtain ⟨ad, cap, rfl, hid, hcap, h2⟩ := PR.sl_inv (show PR E (.sl p _ n off len) cd from hd)
        obtain ⟨L, hL, hB, hBL, hgen⟩ := hs.at hb hg
        obtain ⟨i, zv, hi, hiz, hf, hrl, _⟩ := zero_spec (E := E) hz
        have hr0 := FR.evol0.refs_of_refless hrl
        have hzs : zv.cells.size = e' := by
          have := hf.length
          simp only [sumLen, hzl, Nat.add_zero, Array.length_toList] at this
          exact this
        have hq : ∀ x ∈ q.refs, x ∈ bk.root.refs := fun x hx => by
          rcases put_refs _ _ _ _ hput x hx with h | h
          · exact h
          · simp only [AV.refs] at h
            rcases setMany_refs x h with h | h
            · exact load_ok.at_refs _ _ _ _ hat (by simpa [AV.refs] using h)
            · simp [refsL_replicate hr0] at h
        obtain ⟨k1, k2, k3⟩ := hs.splice (P := P) (g := bk.grow) (fl := bk.flat) hb hL hat hput (FR_replicate hf len) (fun u hu => by rw [List.eq_of_mem_replicate hu]; exact hzl) (by simp; omega)
          (fun hfl => List.eq_nil_iff_forall_not_mem.2 (fun x hx => by simpa [hs.flat _ _ hb hfl] using hq x hx))
        have had : ad = ⟨L.b, L.base + p.coff + off * e', none⟩ := by
          rcases h2 L hL with h3 | ⟨_, _, _, h3⟩
          · omega
          · rcases h3 with h3 | h3
            · omega
            · exact h3
        subst had
        simp only at ho
        have hzc : (Builtin.zeroCells zv.cells len).toList = (List.replicate len zv.cells.toList).flatten := by
          unfold Builtin.zeroCells
          rcases Nat.eq_zero_or_pos e' with h0 | h0
          · subst h0
            have h1 : zv.cells = #[] := Array.eq_empty_of_size_eq_zero hzs
            rw [h1]
            simp
          · rw [← range_zero len _ (by rw [hzs]; exact h0) zv.cells rfl]
        rw [← hzc] at k1 k2 k3
        rw [ho] at k1 k2 k3
        refine ⟨.tuple #[], w.setCells L.b (L.base + p.coff + off * e') (Builtin.zeroCells zv.cells len).toList, E, ?_, k2, hvt E, k3 _, by simp, fun _ => Sub.set hb (fun _ b hb' y hy => by obtain rfl := Option.some.inj hb'; exact hq y hy)⟩
        obtain ⟨m, rfl⟩ : ∃ m, len = m + 1 := ⟨len - 1, by omega⟩
        simp [Builtin.clear_, h0, run_underlying hu, run_zeroValue' hi hiz, k1]
      · simp at h
    · simp at h
  · simp at h

theorem bytes_cells : ∀ {xs : List AV} {cells : List Value} {l : List UInt8}, FR E xs cells → bytesOf xs = some l → ∃ ns : List Int, cells = ns.map (Value.int .u8) ∧ l = ns.map fun n => UInt8.ofNat n.toNat
  | [], cells, l, hf, h => by
    cases hf
    simp only [bytesOf, Option.some.injEq] at h
    exact ⟨[], rfl, h.symm⟩
  | x :: xs, cells, l, hf, h => by
    unfold bytesOf at h
    split at h
    · simp at *
    · rename_i n r heq
      obtain ⟨rfl, rfl⟩ := by simpa using heq
      simp only [Option.map_eq_some_iff] at h
      obtain ⟨l', hl, rfl⟩ := h
      cases hf with
      | int hf =>
      obtain ⟨ns, rfl, rfl⟩ := bytes_cells hf hl
      exact ⟨n :: ns, rfl, rfl⟩
    · simp at h

theorem bytes_back {n0 : Nat} (hs : Sim B E H w) {src dst e : TypeId} {x : AV} {cx : Value} {xs : List AV} {l : List UInt8} (hx : VR E x cx) (hxs : elemsAV H 1 x = some xs) (hl : bytesOf xs = some l)
    (hsl : P.underlying src = some (.slice e)) (hd : P.underlying dst = some .string) (hu8 : P.underlying e = some (.int .u8)) :
    ∃ c w' E', (convert src dst cx).run P w = .ok c w' ∧ Res B n0 E H w (.str ⟨l.toArray⟩) H false E' w' c := by
  obtain ⟨cells, hsrc⟩ := src_ok (P := P) hs hx hxs
  obtain ⟨ns, hns, hln⟩ := bytes_cells hsrc.fr hl
  have hstr : (⟨l.toArray⟩ : ByteArray) = ns.foldl (fun r n => r.push (UInt8.ofNat n.toNat)) ByteArray.empty := by
    rw [foldl_push_bytes, hln]
    simp [ByteArray.empty, ByteArray.emptyWithCapacity]
    rfl
  have hlen : ns.length = xs.length := by
    have := hsrc.fr.length
    rw [hns, sumLen_same hsrc.each] at this
    simpa using this
  have hfirst := hsrc.first w rfl xs.length (Nat.le_refl _)
  have hct : cells.take (xs.length * 1) = cells := by
    rw [List.take_of_length_le]
    rw [hns]; simp [hlen]
  rw [hct] at hfirst
  refine ⟨.string ⟨l.toArray⟩, w, E, ?_, Res.same hs VR.str⟩
  rw [hstr]
  cases x <;> simp only [elemsAV, reduceCtorEq] at hxs
  · have k := (show PR E .nils cx from hx).leaf rfl
    cases k
    obtain rfl := Option.some.inj hxs
    have : ns = [] := List.eq_nil_of_length_eq_zero (by simpa using hlen)
    subst this
    exact run_convert_bytes_nil w src e hsl hu8 0 0 dst hd
  · obtain ⟨a, cap, rfl, _, _, _⟩ := PR.sl_inv (show PR E (.sl _ _ _ _ _) cx from hx)
    have hl' := hsrc.len w
    simp only [Builtin.lenOf, Sem.run_pure, Result.ok.injEq, and_true] at hl'
    subst hl'
    rw [run_convert_bytes_string w src dst e _ _ cap hsl hu8 hd]
    refine run_bytesToString w a _ cap ns ?_
    rw [← hns]
    simpa [Builtin.firstCells] using hfirst
  · obtain ⟨b, o, sp, c1, cap, rfl, _⟩ := PR.isl_inv (show PR E (.isl _ _) cx from hx)
    have hl' := hsrc.len w
    simp only [Builtin.lenOf, Sem.run_pure, Result.ok.injEq, and_true] at hl'
    rw [run_convert_bytes_string w src dst e _ _ cap hsl hu8 hd]
    refine run_bytesToString w _ _ cap ns ?_
    rw [← hns, hl']
    simpa [Builtin.firstCells] using hfirst

theorem convert_ok {n0 : Nat} (hs : Sim B E H w) (hn : n0 ≤ H.length) {src dst : TypeId} {x v : AV} {cx : Value} {H' : Heap} (hx : VR E x cx) (h : convertAV P H src dst x = some (v, H')) :
    ∃ c w' E', (convert src dst cx).run P w = .ok c w' ∧ Res B n0 E H w v H' false E' w' c := by
  unfold convertAV at h
  split at h
  · rename_i d k k' n hs' hd
    obtain ⟨rfl, rfl⟩ := by simpa using h
    obtain rfl := hx.int_inv
    exact ⟨_, w, E, by simp [convert, run_underlying hs', run_underlying hd, Conv.intToInt], Res.same hs VR.int⟩
  · rename_i s hs' hd
    obtain ⟨rfl, rfl⟩ := by simpa using h
    obtain rfl := hx.str_inv
    exact ⟨_, w, E, by simp [convert, run_underlying hs', run_underlying hd], Res.same hs VR.str⟩
  · rename_i e s hs' hd
    split at h
    · rename_i hu8
      split at h
      · rename_i hsz
        obtain ⟨rfl, rfl⟩ := by simpa using h
        obtain rfl := hx.str_inv
        have hr := run_bytes_of_string (P := P) w src dst e s hs' hd hu8
        have hge := grownCap_ge w s.size 0 e
        generalize grownCap w s.size 0 e = gc at *
        have hbl : (strAV s).length = s.size := by
          simp only [strAV, List.length_map, Array.length_toList]
          rfl
        have hbr : bytesRow s gc = ((s.data.toList.map fun (b : UInt8) => Value.int .u8 b.toNat) ++ List.replicate (gc - s.size) (Value.int .u8 0)).toArray := by
          unfold bytesRow
          apply Array.ext'
          simp
        rw [hbr] at hr
        have hcl : (s.data.toList.map fun (b : UInt8) => Value.int .u8 b.toNat).length = s.size := by
          simp only [List.length_map, Array.length_toList]
          rfl
        have hres := rowSl_ok (w' := w.drew) (t := e) (sz := 1) (cap := gc) (fl := true) (fr := (((s.data.toList.map fun (b : UInt8) => Value.int .u8 b.toNat) ++ List.replicate (gc - s.size) (Value.int .u8 0)).toArray.size, ((s.data.toList.map fun (b : UInt8) => Value.int .u8 b.toNat) ++ List.replicate (gc - s.size) (Value.int .u8 0)).toArray.size + 1))
          hs hn (show FR E (strAV s) _ from FR_bytes s.data.toList) (fun u hu => by simp only [strAV, List.mem_map] at hu; obtain ⟨b, _, rfl⟩ := hu; rfl) (fun _ => refsL_str s.data.toList) rfl (below_drew w) (by rw [hbl]; exact hge)
          (rest := List.replicate (gc - s.size) (Value.int .u8 0)) (by rw [hcl]; simp; omega) (.inr (by simp only [List.size_toArray, List.length_append, hcl, List.length_replicate]; omega))
        rw [hbl] at hres
        simp only [Nat.one_mul] at hres
        exact ⟨_, _, _, hr, hres⟩
      · simp at h
    · simp at h
  · rename_i hsl hd
    split at h
    · rename_i hu8
      simp only [Option.bind_eq_some_iff, Option.map_eq_some_iff, Prod.mk.injEq] at h
      obtain ⟨xs, hxs, l, hl, rfl, rfl⟩ := h
      exact bytes_back hs hx hxs hl hsl hd hu8
    · simp at h
  · simp at h
where
  refsL_str : ∀ (l : List UInt8), refsL (l.map fun (b : UInt8) => AV.int .u8 b.toNat) = []
    | [] => rfl
    | b :: l => by simp [refsL, AV.refs, refsL_str l]
end
end Go.X
/-
  Values frozen: a block that nobody writes any more becomes a value.
-/
namespace Go.X
open Go.RowKit (Below)

section
variable {P : Program} {B : Nat} {E E' : Env} {H : Heap} {w w' : World}

/-- Where a slice's elements lie. -/
theorem sl_where (hs : Sim B E H w) {p : Pl} {e n off len sz : Nat} {xs : List AV} {cx : Value} (hx : PR E (.sl p e n off len) cx) (h : elemsAV H sz (.sl p e n off len) = some xs) :
    ∃ a cap L cells, cx = .slice (some a) len cap ∧ a.spot = none ∧ len ≤ cap ∧ E.loc p.id = some L ∧ FR E xs cells ∧ (∀ u ∈ xs, u.flatLen = sz) ∧ xs.length = len ∧ e = sz ∧
      ∀ j c, cells[j]? = some c → a.block = L.b ∧ L.base ≤ a.off + j ∧ a.off + j < L.base + L.gen ∧ w.cell? ⟨a.block, a.off + j, none⟩ = some c := by
  simp only [elemsAV, Option.bind_eq_some_iff] at h
  obtain ⟨bk, hb, ⟨o, y⟩, hat, h⟩ := h
  split at h
  · rename_i e' ys hy
    simp only at hy
    subst hy
    split at h
    · rename_i hc
      obtain ⟨hg, ho, rfl, rfl, hn, hle⟩ := hc
      obtain rfl := Option.some.inj h
      obtain ⟨ad, cap, rfl, h1, hcap, h2⟩ := PR.sl_inv hx
      have hsp := PR.sl_spot hx
      obtain ⟨L, hL, hB, _, hgen⟩ := hs.at hb hg
      obtain ⟨cs, hf, hlen, hcells⟩ := hB.cs
      obtain ⟨pre, mid, post, rfl, hpre, hm⟩ := at_spec p.path _ _ _ _ hf hat
      obtain ⟨hys, hye⟩ := hm.arr_inv
      have hsplit : ys = ys.take off ++ ((ys.drop off).take len ++ (ys.drop off).drop len) := by rw [List.take_append_drop, List.take_append_drop]
      rw [hsplit] at hys
      obtain ⟨c0, c2, rfl, k0, k1⟩ := hys.append_inv
      obtain ⟨c3, c4, rfl, k2, k3⟩ := k1.append_inv
      have hl0 : c0.length = off * e' := by
        rw [k0.length, sumLen_same (fun x hx => hye x (List.mem_of_mem_take hx))]
        simp [Nat.min_eq_left (show off ≤ ys.length by omega), Nat.mul_comm]
      have hll : ((ys.drop off).take len).length = len := by simp; omega
      have hsame : ∀ u ∈ (ys.drop off).take len, u.flatLen = e' := fun u hu => hye u (List.mem_of_mem_drop (List.mem_of_mem_take hu))
      have hl3 : c3.length = len * e' := by rw [k2.length, sumLen_same hsame, hll, Nat.mul_comm]
      refine ⟨ad, cap, L, c3, rfl, hsp, hcap, hL, k2, hsame, hll, rfl, fun j c hj => ?_⟩
      have hjl : j < c3.length := by
        rcases Nat.lt_or_ge j c3.length with h | h
        · exact h
        · simp [List.getElem?_eq_none h] at hj
      rcases h2 L hL with h3 | ⟨h3, _, _, h4⟩
      · omega
      · rcases h4 with h4 | rfl
        · have h0 : len = 0 := by omega
          rw [h0, Nat.zero_mul] at hl3
          omega
        · simp only at ho
          have htot : pre.length + (c0.length + (c3.length + c4.length)) + post.length = L.gen := by rw [← hlen]; simp; omega
          have := hcells (p.coff + off * e' + j) c (by
            rw [← ho, ← hpre, ← hl0]
            rw [List.append_assoc, List.getElem?_append_right (by omega), List.getElem?_append_left (by simp; omega), List.getElem?_append_right (by omega), List.getElem?_append_left (by omega)]
            rw [show pre.length + c0.length + j - pre.length - c0.length = j by omega]
            exact hj)
          refine ⟨rfl, by simp only; omega, by simp only; omega, ?_⟩
          simp only
          rw [show L.base + p.coff + off * e' + j = L.base + (p.coff + off * e' + j) by omega]
          exact this
    · simp at h
  · simp at h

/-- What a freezing comes to. -/
structure Frz (B n0 : Nat) (E : Env) (H : Heap) (w : World) (E' : Env) (H' : Heap) : Prop where
  sim : Sim B E' H' w
  tr : Tr B H.length E w E' w
  len : H'.length = H.length
  sub : Sub n0 H H'
  fr : ∀ us ds, FR E us ds → FR E' us ds

theorem Frz.refl {n0 : Nat} (hs : Sim B E H w) : Frz B n0 E H w E H := ⟨hs, Tr.refl _ _ _ _, rfl, Sub.refl _ _, fun _ _ h => h⟩
theorem Frz.trans {n0 : Nat} {E1 E2 : Env} {H1 H2 : Heap} (h : Frz B n0 E H w E1 H1) (g : Frz B n0 E1 H1 w E2 H2) : Frz B n0 E H w E2 H2 :=
  ⟨g.sim, h.tr.trans (h.len ▸ g.tr), g.len.trans h.len, h.sub.trans g.sub, fun us ds k => g.fr us ds (h.fr us ds k)⟩

def Env.kill (E : Env) (w : World) (i : Nat) (L : Loc) : Env :=
  ⟨fun j => if j = i then none else E.loc j, fun b o => match E.m b o with | some c => some c | none => if L.b = b ∧ L.base ≤ o ∧ o < L.base + L.gen then w.cell? ⟨b, o, none⟩ else none, E.top, E.mloc, E.yl⟩

theorem kill_ok {n0 : Nat} (hs : Sim B E H w) {i : Nat} {L : Loc} (hL : E.loc i = some L) (hi : n0 ≤ i) : Frz B n0 E H w (E.kill w i L) (H.set i none) := by
  have hlt := hs.lt hL
  obtain ⟨bk, hb⟩ := hs.dead i L hL
  obtain ⟨L', hL', hB, _⟩ := hs.live i bk hb
  obtain rfl : L = L' := by rw [hL] at hL'; exact Option.some.inj hL'
  have hfit := hB.fits
  have hblk : ∀ j, Heap.blk (H.set i none) j = if i = j then none else H.blk j := fun j => Heap.blk_set hlt noMap_none
  have hless := hs.less (E' := E.kill w i L) (H' := H.set i none) (by simp [Env.kill, hs.top]) (fun j bk' hj => by
      rw [hblk] at hj
      split at hj
      · simp at hj
      · obtain ⟨Lj, _, hBj, _⟩ := hs.live j bk' hj
        exact ⟨hj, hBj.refs_lt⟩) (fun j => by
      rw [hblk]
      simp only [Env.kill]
      by_cases hij : j = i
      · simp [hij]
      · have hji : ¬ i = j := fun e => hij e.symm
        simp only [if_neg hij, if_neg hji]
        cases hj : H.blk j with
        | some b => simp
        | none =>
          simp only [Option.isSome_none, Bool.false_eq_true, if_false]
          cases hl : E.loc j with
          | none => rfl
          | some Lj =>
            obtain ⟨b, hb'⟩ := hs.dead j Lj hl
            rw [hj] at hb'
            simp at hb') (fun j es he => by
      rw [Heap.mp_set hlt noMap_none] at he
      split at he
      · cases he
      · exact he) (fun j => by
      rw [Heap.mp_set hlt noMap_none]
      simp only [Env.kill]
      cases hj : E.mloc j with
      | none => simp
      | some b =>
        obtain ⟨es, he⟩ := hs.mdead j b hj
        have hij : ¬ i = j := fun e => by
          subst e
          rw [Heap.mp_blk hb] at he
          cases he
        simp [hij, he]) (fun b o c hc => by simp [Env.kill, hc]) (fun b o c hc => by
      have hnin : ∀ {P : Prop}, (InE E b o → P) → InE (E.kill w i L) b o → P := fun f ⟨j, Lj, hj, hh⟩ => by
        simp only [Env.kill] at hj
        split at hj
        · simp at hj
        · exact f ⟨j, Lj, hj, hh⟩
      simp only [Env.kill] at hc
      split at hc
      · rename_i c' hm
        obtain rfl := Option.some.inj hc
        exact ⟨hs.imm b o _ hm, fun hin => hnin (hs.immApart b o _ hm) hin⟩
      · split at hc
        · rename_i hr
          refine ⟨hc, fun ⟨j, Lj, hj, hh⟩ => ?_⟩
          simp only [Env.kill] at hj
          split at hj
          · simp at hj
          · rename_i hji
            exact hs.apart i j L Lj hL hj (fun e => hji e.symm) b o ⟨hr.1, hr.2.1, by omega⟩ hh
        · simp at hc) (fun b o c hc => by
      simp only [Env.kill] at hc
      split at hc
      · rename_i c' hm
        obtain rfl := Option.some.inj hc
        exact .inl hm
      · split at hc
        · rename_i hr
          exact .inr ⟨i, L, hL, hr.1, hr.2.1, by omega⟩
        · simp at hc)
  refine ⟨hless.1, hless.2 _, by simp, Sub.set hb (fun h _ _ => by omega), fun us ds h => ?_⟩
  exact h.later (hless.2 E.top).evol (Nat.le_refl _)

mutual
theorem freezeAV_ok {n0 : Nat} : ∀ (v : AV) (E : Env) (H : Heap) (v' : AV) (H' : Heap) (cs : List Value), Sim B E H w → FR E [v] cs → freezeAV n0 v H = some (v', H') →
    ∃ E', Frz B n0 E H w E' H' ∧ FR E' [v'] cs ∧ v'.flatLen = v.flatLen
  | .sl p e n off len, E, H, v', H', cs, hs, hf, h => by
    simp only [freezeAV] at h
    split at h
    · simp at h
    · rename_i hid
      simp only [Option.bind_eq_some_iff] at h
      obtain ⟨xs, hxs, h⟩ := h
      split at h
      · rename_i hr
        obtain ⟨rfl, rfl⟩ := by simpa using h
        simp only [Bool.and_eq_true, decide_eq_true_eq] at hr
        obtain ⟨c, rfl, hp⟩ := hf.one_leaf rfl
        obtain ⟨a, cap, L, cells, rfl, hsp, hcap, hL, hfx, hex, hlx, _, hwh⟩ := sl_where hs (show PR E (.sl p e n off len) c from ⟨[c], hf, hp.symm⟩) hxs
        have hk := kill_ok (n0 := n0) hs hL (by omega)
        refine ⟨_, hk, ?_, rfl⟩
        obtain ⟨ab, ao, asl⟩ := a
        simp only at hsp
        subst hsp
        rw [← hlx]
        refine .isl hr.1 (hk.fr _ _ hfx) hex (by omega) (fun j c hj => ?_) (.inl rfl) .nil
        obtain ⟨h1, h2, h3, h4⟩ := hwh j c hj
        simp only at h1 h2 h3 h4
        simp only [Env.kill]
        split
        · rename_i c' hm
          rw [← hs.imm _ _ _ hm]
          exact h4
        · rw [if_pos ⟨h1.symm, h2, h3⟩]
          exact h4
      · simp at h
  | .agg n ps, E, H, v', H', cs, hs, hf, h => by
    simp only [freezeAV, Option.map_eq_some_iff, Prod.exists, Prod.mk.injEq] at h
    obtain ⟨ps', H1, h1, rfl, rfl⟩ := h
    obtain ⟨hps, hn⟩ := hf.agg_inv
    obtain ⟨E', k1, k2, k3⟩ := freezeL_ok ps E H ps' H1 cs hs hps h1
    refine ⟨E', k1, ?_, rfl⟩
    have := FR.agg (n := n) (vs := []) (cs := []) k2 hn .nil
    simpa using this
  | .arr e xs, E, H, v', H', cs, hs, hf, h => by
    simp only [freezeAV] at h
    split at h
    · obtain ⟨rfl, rfl⟩ := by simpa using h
      exact ⟨E, Frz.refl hs, hf, rfl⟩
    · simp only [Option.map_eq_some_iff, Prod.exists, Prod.mk.injEq] at h
      obtain ⟨xs', H1, h1, rfl, rfl⟩ := h
      obtain ⟨hxs, he⟩ := hf.arr_inv
      obtain ⟨E', k1, k2, k3⟩ := freezeL_ok xs E H xs' H1 cs hs hxs h1
      have hl : xs'.length = xs.length := by rw [← List.length_map (f := AV.flatLen), k3, List.length_map]
      refine ⟨E', k1, ?_, by simp [AV.flatLen, hl]⟩
      have := FR.arr (e := e) (vs := []) (cs := []) k2 (fun x hx => by
        have : x.flatLen ∈ xs'.map AV.flatLen := List.mem_map_of_mem hx
        rw [k3] at this
        obtain ⟨y, hy, hyx⟩ := List.mem_map.1 this
        rw [← hyx]
        exact he y hy) .nil
      simpa using this
  | .bad, E, H, v', H', cs, hs, hf, h | .int _ _, E, H, v', H', cs, hs, hf, h | .bool _, E, H, v', H', cs, hs, hf, h | .str _, E, H, v', H', cs, hs, hf, h | .nilp, E, H, v', H', cs, hs, hf, h
  | .sptr _ _ _ _ _, E, H, v', H', cs, hs, hf, h | .ptr _, E, H, v', H', cs, hs, hf, h | .iptr _, E, H, v', H', cs, hs, hf, h | .nils, E, H, v', H', cs, hs, hf, h | .isl _ _, E, H, v', H', cs, hs, hf, h | .nilm, E, H, v', H', cs, hs, hf, h
  | .map _, E, H, v', H', cs, hs, hf, h | .func _ _ _, E, H, v', H', cs, hs, hf, h | .nilf, E, H, v', H', cs, hs, hf, h | .hnd _ _, E, H, v', H', cs, hs, hf, h | .iface _ _, E, H, v', H', cs, hs, hf, h | .nili, E, H, v', H', cs, hs, hf, h
  | .tuple _, E, H, v', H', cs, hs, hf, h => by
    obtain ⟨rfl, rfl⟩ := by simpa [freezeAV] using h
    exact ⟨E, Frz.refl hs, hf, rfl⟩
theorem freezeL_ok {n0 : Nat} : ∀ (vs : List AV) (E : Env) (H : Heap) (vs' : List AV) (H' : Heap) (cs : List Value), Sim B E H w → FR E vs cs → freezeL n0 vs H = some (vs', H') →
    ∃ E', Frz B n0 E H w E' H' ∧ FR E' vs' cs ∧ vs'.map AV.flatLen = vs.map AV.flatLen
  | [], E, H, vs', H', cs, hs, hf, h => by
    obtain ⟨rfl, rfl⟩ := by simpa [freezeL] using h
    exact ⟨E, Frz.refl hs, hf, rfl⟩
  | v :: vs, E, H, vs', H', cs, hs, hf, h => by
    simp only [freezeL, Option.bind_eq_some_iff, Option.map_eq_some_iff, Prod.exists, Prod.mk.injEq] at h
    obtain ⟨v1, H1, h1, vs2, H2, h2, rfl, rfl⟩ := h
    obtain ⟨c1, c2, rfl, k1, k2⟩ := hf.cons_inv
    obtain ⟨E1, g1, g2, g3⟩ := freezeAV_ok v E H v1 H1 c1 hs k1 h1
    obtain ⟨E2, g4, g5, g6⟩ := freezeL_ok vs E1 H1 vs2 H2 c2 g1.sim (g1.fr _ _ k2) h2
    exact ⟨E2, g1.trans g4, FR.cons (g4.fr _ _ g2) g5, by simp [g3, g6]⟩
end

end
end Go.X
/-
  Maps with integer keys.
-/
namespace Go.X
open Go.RowKit (Below)

section
variable {P : Program} {B : Nat} {E E' : Env} {H : Heap} {w w' : World}

theorem scalar_pr {v : AV} {c : Value} (h : v.scalar = some c) : PR E v c := by
  cases v <;> simp only [AV.scalar, reduceCtorEq, Option.some.injEq] at h <;> subst h
  · exact .int
  · exact .bool
  · exact .str

theorem scalar_int {k : IntKind} {n : Int} : (AV.int k n).scalar = some (.int k n) := rfl

theorem find_spec {k : IntKind} {n : Int} : ∀ {es : List AV} {l : List MapEntry} {r : Option AV} (i : Nat), entsAV es = some (l.map fun (e : MapEntry) => (e.key, e.val)) → mapFind k n es = some r →
    (r = none ∧ Instr.findNow (.int k) (.int k n) l i = some none) ∨ ∃ v c j, r = some v ∧ v.scalar = some c ∧ Instr.findNow (.int k) (.int k n) l i = some (some (i + j, c)) ∧ (l[j]?).map (·.key) = some (.int k n)
  | [], l, r, i, he, hf => by
    simp only [entsAV, Option.some.injEq] at he
    obtain rfl : l = [] := by simpa using he.symm
    simp only [mapFind, Option.some.injEq] at hf
    exact .inl ⟨hf.symm, rfl⟩
  | a :: es, l, r, i, he, hf => by
    unfold mapFind at hf
    split at hf
    · rename_i heq; cases heq
    · rename_i k' m u r' heq
      obtain ⟨rfl, rfl⟩ := by simpa using heq
      split at hf
      · rename_i hk
        subst hk
        simp only [entsAV, scalar_int] at he
        split at he
        · rename_i a b ha hb
          obtain rfl := Option.some.inj ha
          simp only [Option.map_eq_some_iff] at he
          obtain ⟨l', hl', he⟩ := he
          cases l with
          | nil => simp at he
          | cons e l =>
            simp only [List.map_cons, List.cons.injEq, Prod.mk.injEq] at he
            obtain ⟨⟨hek, hev⟩, rfl⟩ := he
            split at hf
            · rename_i hnm
              have hnm' : n = m := by simpa using hnm
              subst hnm'
              obtain rfl := Option.some.inj hf
              refine .inr ⟨u, b, 0, rfl, hb, ?_, by simp [hek]⟩
              simp [Instr.findNow, Instr.sameNow, ← hek, ← hev]
            · rename_i hnm
              have hnm' : (n == m) = false := by simpa using hnm
              rcases find_spec (i + 1) hl' hf with ⟨h1, h2⟩ | ⟨v, c, j, h1, h2, h3, h4⟩
              · left
                refine ⟨h1, ?_⟩
                simp [Instr.findNow, Instr.sameNow, ← hek, hnm', h2]
              · right
                refine ⟨v, c, j + 1, h1, h2, ?_, by simpa using h4⟩
                simp only [Instr.findNow, Instr.sameNow, ← hek, if_true, hnm', h3]
                simp; omega
        · cases he
      · cases hf
    · cases hf

theorem put_new {k : IntKind} {n : Int} {v : AV} {c : Value} (hv : v.scalar = some c) {clock : Nat} : ∀ {es : List AV} {l : List MapEntry}, entsAV es = some (l.map fun (e : MapEntry) => (e.key, e.val)) →
    mapFind k n es = some none → entsAV (mapPut k n v es) = some ((l ++ [(⟨.int k n, c, clock⟩ : MapEntry)]).map fun (e : MapEntry) => (e.key, e.val))
  | [], l, he, hf => by
    simp only [entsAV, Option.some.injEq] at he
    obtain rfl : l = [] := by simpa using he.symm
    simp [mapPut, entsAV, scalar_int, hv]
  | a :: es, l, he, hf => by
    unfold mapFind at hf
    split at hf
    · simp at *
    · rename_i k' m u r' heq
      obtain ⟨rfl, rfl⟩ := by simpa using heq
      split at hf
      · rename_i hk
        subst hk
        simp only [entsAV, scalar_int] at he
        split at he
        · rename_i a b ha hb
          obtain rfl := Option.some.inj ha
          simp only [Option.map_eq_some_iff] at he
          obtain ⟨l', hl', he⟩ := he
          cases l with
          | nil => simp at he
          | cons e l =>
            simp only [List.map_cons, List.cons.injEq, Prod.mk.injEq] at he
            obtain ⟨⟨hek, hev⟩, rfl⟩ := he
            split at hf
            · cases hf
            · rename_i hnm
              have ih := put_new hv (clock := clock) hl' hf
              have : ¬ (k' = k' ∧ (n == m) = true) := fun h => hnm h.2
              rw [show mapPut k' n v (.tuple [.int k' m, u] :: es) = .tuple [.int k' m, u] :: mapPut k' n v es from if_neg this]
              simp only [entsAV, scalar_int, hb, ih]
              simp [← hek, ← hev]
        · cases he
      · cases hf
    · cases hf

theorem put_old {k : IntKind} {n : Int} {v u : AV} {c : Value} (hv : v.scalar = some c) : ∀ {es : List AV} {l : List MapEntry} {j i : Nat} {x : Value}, entsAV es = some (l.map fun (e : MapEntry) => (e.key, e.val)) →
    mapFind k n es = some (some u) → Instr.findNow (.int k) (.int k n) l i = some (some (i + j, x)) → entsAV (mapPut k n v es) = some ((l.modify j fun (e : MapEntry) => { e with key := .int k n, val := c }).map fun (e : MapEntry) => (e.key, e.val))
  | [], l, j, i, x, he, hf, hn => by simp [mapFind] at hf
  | a :: es, l, j, i, x, he, hf, hn => by
    unfold mapFind at hf
    split at hf
    · simp at *
    · rename_i k' m u' r' heq
      obtain ⟨rfl, rfl⟩ := by simpa using heq
      split at hf
      · rename_i hk
        subst hk
        simp only [entsAV, scalar_int] at he
        split at he
        · rename_i a b ha hb
          obtain rfl := Option.some.inj ha
          simp only [Option.map_eq_some_iff] at he
          obtain ⟨l', hl', he⟩ := he
          cases l with
          | nil => simp at he
          | cons e l =>
            simp only [List.map_cons, List.cons.injEq, Prod.mk.injEq] at he
            obtain ⟨⟨hek, hev⟩, rfl⟩ := he
            split at hf
            · rename_i hnm
              have hj : j = 0 := by
                simp only [Instr.findNow, Instr.sameNow, ← hek, if_true, hnm, Option.some.injEq, Prod.mk.injEq] at hn
                omega
              subst hj
              simp [mapPut, hnm, entsAV, scalar_int, hv, hl']
            · rename_i hnm
              have hnm' : (n == m) = false := by simpa using hnm
              simp only [Instr.findNow, Instr.sameNow, ← hek, if_true, hnm'] at hn
              have hj : ∃ j', j = j' + 1 := by
                cases j with
                | succ j' => exact ⟨j', rfl⟩
                | zero =>
                  exfalso
                  rcases find_spec (i + 1) hl' hf with ⟨h1, _⟩ | ⟨_, _, j2, _, _, h3, _⟩
                  · cases h1
                  · rw [hn] at h3
                    simp at h3
                    omega
              obtain ⟨j', rfl⟩ := hj
              have ih := put_old hv (i := i + 1) (j := j') (x := x) hl' hf (by rw [hn]; simp; omega)
              have : ¬ (k' = k' ∧ (n == m) = true) := fun h => hnm h.2
              rw [show mapPut k' n v (.tuple [.int k' m, u'] :: es) = .tuple [.int k' m, u'] :: mapPut k' n v es from if_neg this]
              simp only [entsAV, scalar_int, hb, ih]
              simp [← hek, ← hev]
        · cases he
      · cases hf
    · cases hf

/-- An empty map. -/
theorem makeMap_ok {n0 : Nat} (hs : Sim B E H w) (hn : n0 ≤ H.length) : Res B n0 E H w (.map H.length) (H ++ [some ⟨.tuple [], false, true⟩]) false
    ⟨E.loc, E.m, E.top + 1, fun i => if i = E.top then some w.heap.size else E.mloc i, E.yl⟩ (w.alloc (.map #[] 0)) (.map (some w.heap.size)) := by
  have hbel : Bel B w (w.alloc (.map #[] 0)) := (Bel.refl B w).alloc hs.old _
  have htop := hs.top
  have hblk : ∀ j, Heap.blk (H ++ [some ⟨.tuple [], false, true⟩]) j = if j = H.length then none else H.blk j := fun j => by rw [Heap.blk_append']; rfl
  have hmp : ∀ j, Heap.mp (H ++ [some ⟨.tuple [], false, true⟩]) j = if j = H.length then some [] else H.mp j := fun j => by
    unfold Heap.mp
    rw [get_append]
    by_cases hj : j = H.length
    · rw [if_pos hj, if_pos hj]; rfl
    · rw [if_neg hj, if_neg hj]
  have hev : Evol E.top E ⟨E.loc, E.m, E.top + 1, fun i => if i = E.top then some w.heap.size else E.mloc i, E.yl⟩ := ⟨fun i _ L h => ⟨L, h, .inl rfl⟩, fun _ _ _ h => h, fun i hi b hb => by
    simp only at hb
    rw [if_neg (by omega)] at hb
    exact hb, rfl⟩
  have hold : ∀ b o, b < w.heap.size → (w.alloc (.map #[] 0)).cell? ⟨b, o, none⟩ = w.cell? ⟨b, o, none⟩ ∧ (w.alloc (.map #[] 0)).frozen? ⟨b, o, none⟩ = w.frozen? ⟨b, o, none⟩ := fun b o hb =>
    ⟨World.cell?_of_block (Below.heap_alloc w _ b hb), World.frozen?_of_block (Below.heap_alloc w _ b hb)⟩
  have hold_lt : ∀ i b, E.mloc i = some b → b < w.heap.size := fun i b hb => by
    obtain ⟨es, he⟩ := hs.mdead i b hb
    obtain ⟨b', h1, ⟨vs, cl, h2, _⟩, _⟩ := hs.mlive i es he
    obtain rfl : b = b' := by rw [hb] at h1; exact Option.some.inj h1
    exact (Array.getElem?_eq_some_iff.1 h2).1
  refine ⟨⟨by simp [htop], fun j bk hj => ?_, fun j L hj => ?_, hs.apart, fun b o c hc => ?_, hs.immApart, fun j bk hj hf => ?_, Nat.le_trans hs.old hbel.size, fun j es hj => ?_, fun j b hj => ?_, fun i j b hi hj => ?_⟩,
    VR.of_PR (v := .map _) ⟨[_], .map (by show H.length < E.top + 1; omega) (fun b' hb' => ?_) .nil, rfl⟩,
    ⟨hbel.toBelow, by rw [← htop]; exact hev, fun b o hb _ => hold b o hb, fun _ _ _ h => h, fun _ _ _ _ h => .inl h, fun j o ho hn' _ => hbel.objs j o ho hn', fun j hj hm => ?_⟩, by simp, fun _ => Sub.append hn⟩
  · rw [hblk] at hj
    split at hj
    · cases hj
    · obtain ⟨L, h1, h2, h3⟩ := hs.live j bk hj
      exact ⟨L, h1, h2.later (k := E.top) hev (Nat.le_succ _) h2.refs_lt (fun q hq => hold _ _ (hs.loc_lt h1 hq)), h3⟩
  · obtain ⟨bk, hb⟩ := hs.dead j L hj
    exact ⟨bk, by rw [hblk, if_neg (by have := Heap.blk_some hb; omega)]; exact hb⟩
  · have := hs.imm b o c hc
    rw [(hold b o (World.block_lt_of_cell? w _ this)).1]
    exact this
  · rw [hblk] at hj
    split at hj
    · cases hj
    · exact hs.flat j bk hj hf
  · rw [hmp] at hj
    split at hj
    · rename_i hjl
      obtain rfl := Option.some.inj hj
      refine ⟨w.heap.size, by simp [hjl, htop], ⟨#[], 0, (MapKept.heap_alloc w _).1, rfl⟩, hs.old⟩
    · rename_i hjl
      obtain ⟨b, h1, h2, h3⟩ := hs.mlive j es hj
      exact ⟨b, by simp only; rw [if_neg (by omega)]; exact h1, h2.keeps hbel, h3⟩
  · simp only at hj
    split at hj
    · rename_i hjt
      exact ⟨[], by rw [hmp, if_pos (by omega)]⟩
    · obtain ⟨es, he⟩ := hs.mdead j b hj
      exact ⟨es, by rw [hmp, if_neg (by omega)]; exact he⟩
  · simp only at hi hj
    split at hi <;> split at hj
    · omega
    · obtain rfl := Option.some.inj hi
      have := hold_lt j _ hj
      omega
    · obtain rfl := Option.some.inj hj
      have := hold_lt i _ hi
      omega
    · exact hs.mapart i j b hi hj
  · simp only at hb'
    rw [if_pos htop.symm] at hb'
    exact (Option.some.inj hb').symm
  · obtain ⟨i, hi⟩ := hm
    simp only at hi
    split at hi
    · obtain rfl := Option.some.inj hi
      omega
    · exact ⟨i, hi⟩

theorem map_at (hs : Sim B E H w) {id : Nat} {es : List AV} {c : Value} (hv : VR E (.map id) c) (he : H.mp id = some es) : ∃ b vs clock, c = .map (some b) ∧ E.mloc id = some b ∧ w.heap[b]? = some (.map vs clock) ∧ entsAV es = some (vs.toList.map fun (e : MapEntry) => (e.key, e.val)) ∧ B ≤ b := by
  obtain ⟨b, h1, ⟨vs, clock, h2, h3⟩, h4⟩ := hs.mlive id es he
  have h5 := (show PR E (.map id) c from hv).leaf rfl
  cases h5 with
  | map k1 k2 k3 =>
    obtain rfl := k2 b h1
    exact ⟨_, vs, clock, rfl, h1, h2, h3, h4⟩

theorem lookup_ok (hs : Sim B E H w) {t : TypeId} {x i v : AV} {cx ci : Value} {ok : Bool} (hx : VR E x cx) (hi : VR E i ci) (h : lookupAV P H t x i ok = some v) : ∃ c, (Instr.lookup t cx ci ok).run P w = .ok c w ∧ VR E v c := by
  unfold lookupAV at h
  split at h
  · rename_i kt et hu
    split at h
    · rename_i k id k' n hk
      split at h
      · rename_i hkk
        subst hkk
        simp only [Option.bind_eq_some_iff] at h
        obtain ⟨es, hes, r, hr, h⟩ := h
        obtain ⟨b, vs, clock, rfl, _, hb, hents, _⟩ := map_at hs hx hes
        obtain rfl := hi.int_inv
        have hck := MapKept.run_checkKey (P := P) (w := w) (k := .int k' n) hk rfl vs.isEmpty 9999
        split at h
        · rename_i u
          rcases find_spec 0 hents hr with ⟨h1, _⟩ | ⟨u', c, j, h1, h2, h3, _⟩
          · cases h1
          · obtain rfl := Option.some.inj h1
            split at h
            · obtain rfl := Option.some.inj h
              have hfk := MapKept.run_findKey (P := P) (w := w) hk h3
              cases ok
              · exact ⟨c, by simp [Instr.lookup, run_underlying hu, MapKept.run_getObj_map hb, hck, hfk, Sem.run_bind, Result.andThen], VR.of_PR (scalar_pr h2)⟩
              · refine ⟨.tuple #[c, .bool true], by simp [Instr.lookup, run_underlying hu, MapKept.run_getObj_map hb, hck, hfk, Sem.run_bind, Result.andThen], [c, .bool true], rfl, rfl, fun i v cc hv hc => ?_⟩
                match i with
                | 0 => simp at hv hc; subst hv hc; exact .inr (scalar_pr h2)
                | 1 => simp at hv hc; subst hv hc; exact .inr .bool
                | i + 2 => simp at hv
            · cases h
        · rcases find_spec 0 hents hr with ⟨_, h2⟩ | ⟨_, _, _, h1, _⟩
          · simp only [Option.bind_eq_some_iff] at h
            obtain ⟨z, hz, h⟩ := h
            split at h
            · rename_i hsc
              obtain rfl := Option.some.inj h
              have hfk := MapKept.run_findKey (P := P) (w := w) hk h2
              obtain ⟨i', z', hi', hz', hf, _, hpk⟩ := zero_spec (E := E) hz
              have hzv : (zeroValue et).run P w = .ok z' w := by simp [zeroValue, typeInfo, hi', hz']
              have hpz : PR E z z' := ⟨z'.cells.toList, hf, hpk.symm⟩
              cases ok
              · exact ⟨z', by simp [Instr.lookup, run_underlying hu, MapKept.run_getObj_map hb, hck, hfk, Sem.run_bind, Result.andThen, hzv], VR.of_PR hpz⟩
              · refine ⟨.tuple #[z', .bool false], by simp [Instr.lookup, run_underlying hu, MapKept.run_getObj_map hb, hck, hfk, Sem.run_bind, Result.andThen, hzv], [z', .bool false], rfl, rfl, fun i v cc hv hc => ?_⟩
                match i with
                | 0 => simp at hv hc; subst hv hc; exact .inr hpz
                | 1 => simp at hv hc; subst hv hc; exact .inr .bool
                | i + 2 => simp at hv
            · cases h
          · cases h1
      · cases h
    · cases h
  · cases h

/-- A map's object is turned, and nothing else. -/
theorem Sim.mapset (hs : Sim B E H w) {id b : Nat} {es es' : List AV} {vs vs' : Array MapEntry} {clock clock' : Nat} (he : H.mp id = some es) (hloc : E.mloc id = some b) (hb : w.heap[b]? = some (.map vs clock)) (hB : B ≤ b)
    (hents : entsAV es' = some (vs'.toList.map fun (e : MapEntry) => (e.key, e.val))) {n0 : Nat} :
    Res B n0 E H w .bad (H.set id (some ⟨.tuple es', false, true⟩)) false E { w with heap := w.heap.setIfInBounds b (.map vs' clock') } undef := by
  have hbl : b < w.heap.size := (Array.getElem?_eq_some_iff.1 hb).1
  have hlt : id < H.length := by
    rcases Nat.lt_or_ge id H.length with h | h
    · exact h
    · simp [Heap.mp, List.getElem?_eq_none h, mpOf] at he
  have hnoblk : H.blk id = none := by
    cases hx : H.blk id with
    | none => rfl
    | some bk => rw [Heap.mp_blk hx] at he; cases he
  have hblk : ∀ j, Heap.blk (H.set id (some ⟨.tuple es', false, true⟩)) j = H.blk j := fun j => by
    rw [Heap.blk_set' hlt]
    split
    · rename_i hj; subst hj; rw [hnoblk]; rfl
    · rfl
  have hmp : ∀ j, Heap.mp (H.set id (some ⟨.tuple es', false, true⟩)) j = if id = j then some es' else H.mp j := fun j => by
    unfold Heap.mp
    rw [get_set hlt]
    by_cases hj : id = j
    · rw [if_pos hj, if_pos hj]; rfl
    · rw [if_neg hj, if_neg hj]
  obtain ⟨hh1, hh2⟩ := MapKept.heap_set (w := w) (o' := .map vs' clock') hb
  have hcell : ∀ p : Addr, World.cell? { w with heap := w.heap.setIfInBounds b (.map vs' clock') } p = w.cell? p := fun p => by
    by_cases hp : p.block = b
    · unfold World.cell?
      simp only [hp]
      rw [hh1, hb]
    · exact World.cell?_of_block (hh2 _ hp)
  have hfrz : ∀ p : Addr, World.frozen? { w with heap := w.heap.setIfInBounds b (.map vs' clock') } p = w.frozen? p := fun p => by
    by_cases hp : p.block = b
    · unfold World.frozen?
      simp only [hp]
      rw [hh1, hb]
    · exact World.frozen?_of_block (hh2 _ hp)
  have hsize : (w.heap.setIfInBounds b (.map vs' clock')).size = w.heap.size := by simp
  have hbel : Below B w { w with heap := w.heap.setIfInBounds b (.map vs' clock') } := ⟨rfl, rfl, rfl, by simp, fun k hk => hh2 k (by omega)⟩
  refine ⟨⟨by simp [hs.top], fun j bk hj => ?_, fun j L hj => ?_, hs.apart, fun b o c hc => by rw [hcell]; exact hs.imm b o c hc, hs.immApart, fun j bk hj hf => ?_, by simp; exact hs.old, fun j es1 hj => ?_, fun j b1 hj => ?_, hs.mapart⟩, trivial,
    ⟨hbel, Evol.refl _ _, fun b o _ _ => ⟨hcell _, hfrz _⟩, fun _ _ _ h => h, fun _ _ _ _ h => .inl h, fun j o ho hn hm => ?_, fun _ _ h => h⟩, by simp, fun _ => fun j hj bk hb' => ?_⟩
  · rw [hblk] at hj
    obtain ⟨L, h1, ⟨⟨cs, c1, c2, c3⟩, h3, h4⟩, h5⟩ := hs.live j bk hj
    exact ⟨L, h1, ⟨⟨cs, c1, c2, fun q c hq => by rw [hcell]; exact c3 q c hq⟩, h3, fun q hq => by rw [hcell, hfrz]; exact h4 q hq⟩, h5⟩
  · rw [hblk]
    exact hs.dead j L hj
  · rw [hblk] at hj
    exact hs.flat j bk hj hf
  · rw [hmp] at hj
    split at hj
    · rename_i hij
      subst hij
      obtain rfl := Option.some.inj hj
      exact ⟨b, hloc, ⟨vs', clock', hh1, hents⟩, hB⟩
    · rename_i hij
      obtain ⟨b1, h1, ⟨vs1, cl1, h2, h3⟩, h4⟩ := hs.mlive j es1 hj
      have hne : b1 ≠ b := fun e => hij (hs.mapart id j b hloc (by rw [← e]; exact h1))
      exact ⟨b1, h1, ⟨vs1, cl1, (hh2 b1 hne).trans h2, h3⟩, h4⟩
  · obtain ⟨es1, h1⟩ := hs.mdead j b1 hj
    rw [hmp]
    split
    · exact ⟨_, rfl⟩
    · exact ⟨es1, h1⟩
  · have hne : j ≠ b := fun e => hm ⟨id, by rw [e]; exact hloc⟩
    exact (hh2 j hne).trans ho
  · rw [hblk] at hb'
    exact ⟨bk, hb', fun _ h => h⟩

theorem mapUpdate_ok {n0 : Nat} (hs : Sim B E H w) {t : TypeId} {m i v : AV} {cm ci cv : Value} {H' : Heap} (hm : VR E m cm) (hi : VR E i ci) (hv : VR E v cv) (h : mapUpdateAV P H t m i v = some H') :
    ∃ w', (Instr.mapUpdate t cm ci cv).run P w = .ok () w' ∧ Res B n0 E H w .bad H' false E w' undef := by
  unfold mapUpdateAV at h
  split at h
  · rename_i kt et hu
    split at h
    · rename_i k id k' n hk
      split at h
      · rename_i hc
        obtain ⟨rfl, hsc⟩ := hc
        obtain ⟨cv', hcv⟩ := Option.isSome_iff_exists.1 hsc
        obtain rfl : cv = cv' := scalar_ok hv hcv
        simp only [Option.bind_eq_some_iff, Option.map_eq_some_iff] at h
        obtain ⟨es, hes, r, hr, rfl⟩ := h
        obtain ⟨b, vs, clock, rfl, hml, hb, hents, hB⟩ := map_at hs hm hes
        obtain rfl := hi.int_inv
        have hck := MapKept.run_checkKey (P := P) (w := w) (k := .int k' n) hk rfl false 9999
        rcases find_spec 0 hents hr with ⟨rfl, h2⟩ | ⟨u, c, j, rfl, h2, h3, h4⟩
        · have hfk := MapKept.run_findKey (P := P) (w := w) hk h2
          refine ⟨_, ?_, hs.mapset (vs' := vs.push ⟨.int k' n, cv, clock⟩) (clock' := clock + 1) hes hml hb hB ?_⟩
          · simp [Instr.mapUpdate, run_underlying hu, MapKept.run_getObj_map hb, hck, hfk, Sem.run_bind, Result.andThen, MapKept.run_setObj_map _ hb]
          · rw [Array.toList_push]
            exact put_new hcv hents hr
        · have hfk := MapKept.run_findKey (P := P) (w := w) hk h3
          simp only [Nat.zero_add] at h3 hfk
          have hkey : ((vs[j]?).map (·.key)).getD (.int k' n) = .int k' n := by
            have : (vs[j]?).map (·.key) = some (.int k' n) := by simpa using h4
            rw [this]; rfl
          have hsame : Instr.sameBits 10000 (.int k' n) (.int k' n) = true := by simp [Instr.sameBits]
          refine ⟨_, ?_, hs.mapset (vs' := vs.modify j fun (e : MapEntry) => { e with key := .int k' n, val := cv }) (clock' := clock) hes hml hb hB ?_⟩
          · simp [Instr.mapUpdate, run_underlying hu, MapKept.run_getObj_map hb, hck, hfk, Sem.run_bind, Result.andThen, MapKept.run_setObj_map _ hb, Instr.keyThatStays, hkey, hsame]
          · rw [Array.toList_modify]
            exact put_old hcv (i := 0) (x := c) hents hr (by simpa using h3)
      · cases h
    · cases h
  · cases h
end
end Go.X
/-
  One operation: what the evaluator tells is what the model does.
-/
namespace Go.X
open Go.RowKit (Below)

/-- Package-level variables, and what they hold. -/
def GlobOk (G : Nat → Option AV) (E : Env) : Prop := ∀ g v, G g = some v → VR E (.iptr v) (.pointer (some ⟨g, 0, none⟩))

theorem GlobOk.evol {G : Nat → Option AV} {E E' : Env} {k : Nat} (h : GlobOk G E) (he : Evol k E E') : GlobOk G E' := fun g v hg => by
  obtain ⟨cs, h1, h2⟩ := (show PR E (.iptr v) _ from h g v hg)
  exact VR.of_PR ⟨cs, h1.evol (he.mono (Nat.zero_le _)) (Nat.zero_le _) (by simp [refsL, AV.refs]), h2⟩

/-- What is asked of an oracle. -/
def OracleSound (P : Program) (B : Nat) (G : Nat → Option AV) (K : Oracle) : Prop :=
  ∀ f args H v H' e, K f args H = some (v, H', e) → ∀ (E : Env) (w : World) (cargs : List Value), Sim B E H w → GlobOk G E → args.length = cargs.length →
    (∀ (i : Nat) (v : AV) (c : Value), args[i]? = some v → cargs[i]? = some c → VR E v c) →
    Calls P f cargs.toArray w fun en w' => ∃ c E', en = .returned c ∧ Res B H.length E H w v H' e E' w' c

/-- What is asked of what is told of functions without a body here. -/
def ExtSound (P : Program) (B : Nat) (X : Oracle) : Prop :=
  ∀ f args H v H' e, X f args H = some (v, H', e) → ∀ (n0 : Nat) (E : Env) (w : World) (cargs : List Value), Sim B E H w → n0 ≤ H.length → args.length = cargs.length →
    (∀ (i : Nat) (v : AV) (c : Value), args[i]? = some v → cargs[i]? = some c → VR E v c) →
    ∃ c w' E', (callFunc f cargs.toArray).run P w = .ok (.value c) w' ∧ Res B n0 E H w v H' e E' w' c

/-- What is asked of what is told of yield, from a place on. -/
def YOk (P : Program) (B : Nat) (Y : Yld) (n0 : Nat) (E0 : Env) (w0 : World) : Prop :=
  ∀ args H H' e, Y args H = some (H', e) → ∀ (E : Env) (w : World) (cargs : List Value), Tr B n0 E0 w0 E w → Sim B E H w → n0 ≤ H.length → args.length = cargs.length →
    (∀ (i : Nat) (v : AV) (c : Value), args[i]? = some v → cargs[i]? = some c → VR E v c) →
    ∃ fn tmps assign body, (Instr.yield E.yl cargs.toArray).run P w = .ok (.round E.yl fn tmps assign body) w ∧
      RoundIn Fence.wide 0 P E.yl fn tmps assign body w fun en w' => en = .returned (.bool true) ∧ ∃ E', Res B H.length E H w (.bool true) H' e E' w' (.bool true)

/-- What is asked of what is told of iterators. -/
def RgSound (P : Program) (B : Nat) (G : Nat → Option AV) (Rg : Yld → Oracle) : Prop :=
  ∀ Y f args H v H' e, Rg Y f args H = some (v, H', e) → ∀ (E : Env) (w : World) (cargs : List Value), Sim B E H w → GlobOk G E → YOk P B Y H.length E w → args.length = cargs.length →
    (∀ (i : Nat) (v : AV) (c : Value), args[i]? = some v → cargs[i]? = some c → VR E v c) →
    Calls P f cargs.toArray w fun en w' => ∃ c E', en = .returned c ∧ Res B H.length E H w v H' e E' w' c

theorem YOk.no {P : Program} {B n0 : Nat} {E0 : Env} {w0 : World} : YOk P B noY n0 E0 w0 := fun _ _ _ _ h => by cases h
theorem RgSound.no {P : Program} {B : Nat} {G : Nat → Option AV} : RgSound P B G noR := fun _ _ _ _ _ _ _ h => by cases h

structure Snd (C : Ctx) (B : Nat) (E0 : Env) (w0 : World) : Prop where
  k : OracleSound C.P B C.U.G C.K
  x : ExtSound C.P B C.U.X
  g : GlobOk C.U.G E0
  y : YOk C.P B C.Y C.n0 E0 w0
  r : RgSound C.P B C.U.G C.Rg

structure SR (C : Ctx) (B : Nat) (E : Env) (s : St) (a : Act) (w : World) : Prop where
  sim : Sim B E s.H w
  vals : ∀ t, VR E (s.get C.A t) (a.tmps.getD t undef)
  size : a.tmps.size = C.N
  len : C.n0 ≤ s.H.length

section
variable {C : Ctx} {B : Nat} {E : Env} {s : St} {a : Act} {w : World}

theorem SR.eval (h : SR C B E s a w) (x : Operand) : VR E (s.eval C.A x) (a.eval x) := by
  cases x with
  | tmp t => exact h.vals t
  | const c => exact const_ok c
  | global g => trivial
  | func f => exact VR.of_PR (v := .func (.func f) [] []) ⟨[_], .func (cx := []) (cy := []) (by simp) .nil .nil .nil, rfl⟩

theorem look_upd (l : List (Nat × AV)) (d t : Nat) (v : AV) : look (upd l d v) t = if t = d then (look (upd l d v) d) else look l t := by
  induction l with
  | nil => simp [upd, look]
  | cons x l ih =>
    obtain ⟨k, u⟩ := x
    unfold upd
    split
    · rename_i hk
      subst hk
      by_cases ht : t = k
      · simp [ht]
      · have : ¬ k = t := fun e => ht e.symm
        simp [look, ht, this]
    · rename_i hk
      by_cases ht : t = d
      · simp [ht]
      · simp only [look, if_neg ht] at ih ⊢
        split
        · rfl
        · exact ih

theorem look_upd_self (l : List (Nat × AV)) (d : Nat) (v : AV) : look (upd l d v) d = v ∨ look (upd l d v) d = .bad := by
  induction l with
  | nil => right; rfl
  | cons x l ih =>
    obtain ⟨k, u⟩ := x
    unfold upd
    split
    · rename_i hk
      subst hk
      left
      simp [look]
    · rename_i hk
      simp only [look, if_neg hk]
      exact ih

theorem SR.set (h : SR C B E s a w) {d : Nat} {v : AV} {c : Value} (hv : VR E v c) (hd : d < C.N ∨ v = .bad ∨ c = undef) : SR C B E (s.set C.A d v) (a.put (some d) c) w := by
  refine ⟨?_, fun t => ?_, by simp [Act.put, h.size], ?_⟩
  · unfold St.set; split <;> exact h.sim
  · have hput : (a.put (some d) c).tmps.getD t undef = if d = t ∧ d < a.tmps.size then c else a.tmps.getD t undef := by
      simp only [Act.put]
      by_cases hdt : d = t
      · subst hdt
        by_cases hlt : d < a.tmps.size
        · simp [hlt]
        · simp [hlt]
      · simp [hdt, Array.getElem?_setIfInBounds_ne hdt]
    rw [hput]
    have hself : (s.set C.A d v).get C.A d = v ∨ (s.set C.A d v).get C.A d = .bad := by
      unfold St.set St.get
      split
      · simp only; exact look_upd_self _ _ _
      · simp [look]
    by_cases hdt : d = t
    · subst hdt
      rcases hself with h1 | h1
      · rw [h1]
        rcases hd with hd | rfl | rfl
        · rw [if_pos ⟨rfl, by rw [h.size]; exact hd⟩]; exact hv
        · trivial
        · by_cases hlt : d < a.tmps.size
          · rw [if_pos ⟨rfl, hlt⟩]; exact hv
          · rw [if_neg (fun hh => hlt hh.2), Array.getD_eq_getD_getElem?, Array.getElem?_eq_none (by omega)]
            exact hv
      · rw [h1]; trivial
    · rw [if_neg (fun hh => hdt hh.1)]
      have : (s.set C.A d v).get C.A t = s.get C.A t := by
        unfold St.set St.get
        split
        · split
          · simp only
            rw [look_upd, if_neg (fun e => hdt e.symm)]
          · rfl
        · split
          · rfl
          · simp [look, hdt]
      rw [this]
      exact h.vals t
  · unfold St.set; split <;> exact h.len

/-- The state goes on in a later memory. -/
theorem SR.later {E' : Env} {w' : World} {H' : Heap} {e : Bool} (h : SR C B E s a w) {n0 : Nat} {v : AV} {c : Value} (hr : Res B n0 E s.H w v H' e E' w' c) : SR C B E' { s with H := H', esc := s.esc || e } a w' := by
  have htop : E.top ≤ E'.top := by rw [h.sim.top, hr.sim.top]; exact hr.len
  refine ⟨hr.sim, fun t => (h.vals t).later ?_ htop, h.size, Nat.le_trans h.len hr.len⟩
  rw [h.sim.top]
  exact hr.tr.evol

end
end Go.X
/-
  Each operation: what the evaluator tells is what the model does.
-/
namespace Go.X
open Go.RowKit (Below)

section
variable {C : Ctx} {B : Nat} {E : Env} {s : St} {a : Act} {w : World}

theorem q_inv {r : Option AV} {v : AV} {H H' : Heap} {e : Bool} (h : (r.map fun v => (v, H, false)) = some (v, H', e)) : r = some v ∧ H' = H ∧ e = false := by
  simp only [Option.map_eq_some_iff, Prod.mk.injEq] at h
  obtain ⟨u, h1, rfl, rfl, rfl⟩ := h
  exact ⟨h1, rfl, rfl⟩

theorem value_wp {P : Program} {o : Oper} {next : Act → World → Prop} {Q : Exit → Act → World → Prop} {c : Value} {w' : World}
    (h : (execOp a.eval o).run P w = .ok (.value c) w') (hn : next (a.put o.dst c) w') : o.wp P a w next Q := by
  unfold Oper.wp
  rw [h]
  exact hn

theorem skip_wp {P : Program} {o : Oper} {next : Act → World → Prop} {Q : Exit → Act → World → Prop} {w' : World}
    (h : (execOp a.eval o).run P w = .ok .skip w') (hn : next (a.put o.dst undef) w') : o.wp P a w next Q := by
  unfold Oper.wp
  rw [h]
  exact hn

theorem value_run {P : Program} {e : Sem Value} {c : Value} {w w' : World} (h : e.run P w = .ok c w') : ((do pure (Next.value (← e))) : Sem Next).run P w = .ok (.value c) w' := by
  simp [h]

theorem parts_ok (hR : SR C B E s a w) : ∀ (ps : List (Nat × Operand)), Parts E (ps.map fun x => (x.1, s.eval C.A x.2)) (ps.map fun (i, x) => (i, a.eval x))
  | [] => .nil
  | (_, x) :: ps => .cons (hR.eval x) (parts_ok hR ps)

theorem leaves_ok (hR : SR C B E s a w) : ∀ (xs : List Operand), (xs.map (s.eval C.A)).all (fun v => v.plain && !v.isAgg) = true → FR E (xs.map (s.eval C.A)) (xs.map a.eval)
  | [], _ => .nil
  | x :: xs, h => by
    simp only [List.map_cons, List.all_cons, Bool.and_eq_true, Bool.not_eq_true'] at h
    have h1 := ((hR.eval x).toPR h.1.1).leaf h.1.2
    exact FR.cons h1 (leaves_ok hR xs (by simpa using h.2))

theorem scal_pure {P : Program} {op : BinOp} {x y : Operand} {t : TypeId} {cx cy : Value} {va vb : AV} (ha : va.scalar = some cx) (hb : vb.scalar = some cy) (w : World) :
    (eqGuard op t x y cx cy).run P w = .ok () w := by
  cases va <;> simp only [AV.scalar, Option.some.injEq, reduceCtorEq] at ha <;> cases vb <;> simp only [AV.scalar, Option.some.injEq, reduceCtorEq] at hb <;> subst ha hb <;>
    (unfold eqGuard; split <;> simp)

/-- A function's call. -/
theorem enter_ok (hk : OracleSound C.P B C.U.G C.K) (hx : ExtSound C.P B C.U.X) (hG : GlobOk C.U.G E) (hR : SR C B E s a w) {o : Oper} {v : AV} {H' : Heap} {e : Bool} {f : FuncId} {args : List AV} {cargs : List Value} (h : enterAV C f args s = some (v, H', e))
    (hlen : args.length = cargs.length) (hv : ∀ (i : Nat) (v : AV) (c : Value), args[i]? = some v → cargs[i]? = some c → VR E v c)
    (hrun : (execOp a.eval o).run C.P w = (callFunc f cargs.toArray).run C.P w)
    {next : Act → World → Prop} {Q : Exit → Act → World → Prop} (hn : ∀ E' w' c, Res B C.n0 E s.H w v H' e E' w' c → next (a.put o.dst c) w') : o.wp C.P a w next Q := by
  unfold enterAV at h
  split at h
  · rename_i fn hf
    split at h
    · rename_i body hb
      split at h
      · rename_i hnm
        have hcall : (callFunc f cargs.toArray).run C.P w = .ok (.enter f cargs.toArray) w := by
          have h2 : ¬ fn.body = none := fun e => by simp [e] at hb
          simp [callFunc, hf, hnm, h2]
        unfold Oper.wp
        rw [hrun, hcall]
        refine (hk f args s.H v H' e h E w cargs hR.sim hG hlen hv).mono ?_
        rintro en w' ⟨c, E', rfl, hr⟩
        exact hn E' w' c ⟨hr.sim, hr.val, hr.tr, hr.len, fun he => (hr.sub he).mono hR.len⟩
      · simp at h
    · obtain ⟨c, w', E', h1, h2⟩ := hx f args s.H v H' e h C.n0 E w cargs hR.sim hR.len hlen hv
      exact value_wp (by rw [hrun]; exact h1) (hn E' w' c h2)
  · simp at h

theorem args_ok (hR : SR C B E s a w) (xs : List Operand) : ∀ (i : Nat) (v : AV) (c : Value), (xs.map (s.eval C.A))[i]? = some v → (xs.map a.eval)[i]? = some c → VR E v c := by
  intro i v c h1 h2
  simp only [List.getElem?_map, Option.map_eq_some_iff] at h1 h2
  obtain ⟨x, hx, rfl⟩ := h1
  obtain ⟨y, hy, rfl⟩ := h2
  obtain rfl : x = y := by rw [hx] at hy; exact Option.some.inj hy
  exact hR.eval x

theorem leaf_list {E : Env} : ∀ {vs : List AV} {cs : List Value}, FR E vs cs → (∀ x ∈ vs, x.isAgg = false) → vs.length = cs.length ∧ ∀ (i : Nat) (v : AV) (c : Value), vs[i]? = some v → cs[i]? = some c → VR E v c
  | [], cs, h, _ => by
    cases h
    exact ⟨rfl, fun i v c hv => by simp at hv⟩
  | x :: vs, cs, h, ha => by
    obtain ⟨c1, c2, rfl, h1, h2⟩ := h.cons_inv
    obtain ⟨c, rfl, hp⟩ := h1.one_leaf (ha x List.mem_cons_self)
    obtain ⟨k1, k2⟩ := leaf_list h2 (fun y hy => ha y (List.mem_cons_of_mem _ hy))
    refine ⟨by simp [k1], fun i v d hv hd => ?_⟩
    cases i with
    | zero =>
      simp only [List.getElem?_cons_zero, Option.some.injEq, List.singleton_append] at hv hd
      subst hv hd
      exact VR.of_PR ⟨[_], h1, hp.symm⟩
    | succ i =>
      simp only [List.getElem?_cons_succ, List.singleton_append] at hv hd
      exact k2 i v d hv hd

theorem append_vals {E : Env} {xs ys : List AV} {cx cy : List Value} (hl : xs.length = cx.length) (hx : ∀ (i : Nat) (v : AV) (c : Value), xs[i]? = some v → cx[i]? = some c → VR E v c)
    (hy : ∀ (i : Nat) (v : AV) (c : Value), ys[i]? = some v → cy[i]? = some c → VR E v c) : ∀ (i : Nat) (v : AV) (c : Value), (xs ++ ys)[i]? = some v → (cx ++ cy)[i]? = some c → VR E v c := by
  intro i v c h1 h2
  rcases Nat.lt_or_ge i xs.length with h | h
  · rw [List.getElem?_append_left h] at h1
    rw [List.getElem?_append_left (by omega)] at h2
    exact hx i v c h1 h2
  · rw [List.getElem?_append_right h] at h1
    rw [List.getElem?_append_right (by omega)] at h2
    exact hy _ v c h1 (by rw [hl]; exact h2)

theorem callee_ok {fv : AV} {cf : Value} {args : List AV} {cargs : List Value} {f : FuncId} {all : List AV} (hf : VR E fv cf) (h : calleeAV C.P fv args = some (f, all)) (hl : args.length = cargs.length)
    (hv : ∀ (i : Nat) (v : AV) (c : Value), args[i]? = some v → cargs[i]? = some c → VR E v c) :
    ∃ first captured : List Value, cf = .func (.func f) first.toArray captured.toArray ∧ all.length = (first ++ (cargs ++ captured)).length ∧
      ∀ (i : Nat) (v : AV) (c : Value), all[i]? = some v → (first ++ (cargs ++ captured))[i]? = some c → VR E v c := by
  unfold calleeAV at h
  split at h
  · rename_i g first captured
    obtain ⟨rfl, rfl⟩ := by simpa using h
    have h1 := (show PR E (.func _ first captured) cf from hf).leaf rfl
    cases h1 with
    | func ha hx hy hnil =>
    rename_i cx cy
    obtain ⟨l1, v1⟩ := leaf_list hx (fun x hx => ha x (List.mem_append.2 (.inl hx)))
    obtain ⟨l2, v2⟩ := leaf_list hy (fun x hx => ha x (List.mem_append.2 (.inr hx)))
    exact ⟨cx, cy, rfl, by simp [l1, l2, hl], append_vals l1 v1 (append_vals hl hv v2)⟩
  · simp at h
  · simp at h

theorem method_ok {P : Program} {E : Env} {w : World} {r rv : AV} {cr : Value} {m : String} {f : FuncId} (hr : VR E r cr) (h : methodAV P r m = some (f, rv)) (args : List Value) :
    ∃ crv, (callMethod cr m args.toArray).run P w = (callFunc f (crv :: args).toArray).run P w ∧ VR E rv crv := by
  unfold methodAV at h
  split at h
  · rename_i t v
    simp only [Option.bind_eq_some_iff] at h
    obtain ⟨i, hi, mt, hm, h⟩ := h
    split at h
    · rename_i hp
      simp only [Option.bind_eq_some_iff, Prod.exists] at h
      obtain ⟨g, pr, hfn, h⟩ := h
      obtain ⟨cv, rfl, hcv⟩ := PR.iface_inv (show PR E (.iface t v) cr from hr)
      have hpath : mt.path = #[] := Array.isEmpty_iff.1 hp
      have hd : ∃ k, P.types.size + Made.depth = k + 1 := ⟨P.types.size + 99, rfl⟩
      obtain ⟨k, hk⟩ := hd
      have key : (method (P.types.size + Made.depth) t cv m).run P w = .ok (f, cv) w ∧ rv = v := by
        rw [hk]
        split at h
        · rename_i e hu
          obtain ⟨rfl, rfl⟩ := by simpa using h
          exact ⟨by simp [method, typeInfo, hi, hm, hpath, follow, hfn, receiverAt, run_underlying hu, Place.get], rfl⟩
        · simp at h
        · rename_i d hnp hu
          obtain ⟨rfl, rfl⟩ := by simpa using h
          refine ⟨?_, rfl⟩
          cases d <;> first | (simp [method, typeInfo, hi, hm, hpath, follow, hfn, receiverAt, run_underlying hu, Place.get]; done) | (exfalso; exact hnp _ rfl)
        · simp at h
      obtain ⟨key, rfl⟩ := key
      refine ⟨cv, ?_, VR.of_PR hcv⟩
      simp [callMethod, key]
    · rename_i hnp
      split at h
      · rename_i st hst
        split at h
        · simp at h
        · rename_i hder
          simp only [Option.bind_eq_some_iff, Prod.exists] at h
          obtain ⟨g, pr, hfn, h⟩ := h
          split at h
          · rename_i fs hu
            simp only [Option.bind_eq_some_iff] at h
            obtain ⟨fl, hfl, q, hq, h⟩ := h
            split at h
            · rename_i e hue
              obtain ⟨rfl, rfl⟩ := by simpa using h
              obtain ⟨cv, rfl, hcv⟩ := PR.iface_inv (show PR E (.iface t v) cr from hr)
              obtain ⟨k, hk⟩ : ∃ k, P.types.size + Made.depth = k + 1 := ⟨P.types.size + 99, rfl⟩
              have hd0 : st.deref = false := by simpa using hder
              cases v <;> simp only [fieldAV, reduceCtorEq] at hq
              rename_i n ps
              simp only [Option.bind_eq_some_iff] at hq
              obtain ⟨fl', hfl', p, hp, hq⟩ := hq
              split at hq
              · rename_i hc
                obtain rfl := Option.some.inj hq
                have hff : fl' = fl := by
                  unfold fieldOf at hfl'
                  rw [hu] at hfl'
                  exact Option.some.inj (hfl'.symm.trans hfl)
                subst hff
                obtain ⟨cs, rfl, hf, _⟩ := PR.agg_inv (show PR E (.agg n ps) cv from hcv)
                obtain ⟨pre, mid, post, rfl, hpre, hm', _⟩ := hf.nth hp
                have hpart := run_part' (P := P) (w := w) (post := post) hm' (hpre.trans hc.1) hc.2.1 hc.2.2
                refine ⟨pack p mid, ?_, .of_PR (.of_cells hm')⟩
                rw [List.append_assoc] at hpart
                have key : (method (P.types.size + Made.depth) t (.agg (pre ++ mid ++ post).toArray) m).run P w = .ok (g, pack p mid) w := by
                  rw [hk, List.append_assoc]
                  simp [method, typeInfo, hi, hm, hst, follow, Sem.run_bind, run_underlying hu, hfl, hd0, hpart, hfn, receiverAt, run_underlying hue, Place.get]
                rw [List.append_assoc] at key
                simp [callMethod, key]
              · simp at hq
            · simp at h
          · simp at h
      · simp at h
  · simp at h
end
end Go.X
