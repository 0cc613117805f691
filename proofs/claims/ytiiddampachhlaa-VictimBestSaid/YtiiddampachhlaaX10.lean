/-
  Structs and arrays built of their parts; type assertions; lengths.
-/
import Derived.Test.YtiiddampachhlaaX9
import Derived.Laws.Tables
import Derived.Great.FillDense
import Derived.Great.BuildSlice
namespace Go.X
open Go.RowKit (Below)

section
variable {P : Program} {B : Nat} {E E' : Env} {H : Heap} {w w' : World}

/-- Parts, related one by one. -/
inductive Parts (E : Env) : List (Nat × AV) → List (Nat × Value) → Prop
  | nil : Parts E [] []
  | cons {i : Nat} {v : AV} {c : Value} {ps : List (Nat × AV)} {cs : List (Nat × Value)} : VR E v c → Parts E ps cs → Parts E ((i, v) :: ps) ((i, c) :: cs)

theorem fill_step {pre mid post mid' : List Value} (hl : mid'.length = mid.length) :
    (mid'.toArray.zipIdx.foldl (fun cs (x : Value × Nat) => cs.setIfInBounds (pre.length + x.2) x.1) (pre ++ mid ++ post).toArray) = (pre ++ mid' ++ post).toArray := by
  obtain ⟨h1, h2⟩ := Go.Great.foldl_set pre.length mid' 0 (pre ++ mid ++ post).toArray
  have : mid'.toArray.zipIdx.foldl (fun cs (x : Value × Nat) => cs.setIfInBounds (pre.length + x.2) x.1) (pre ++ mid ++ post).toArray =
      (mid'.zipIdx 0).foldl (fun cs (x : Value × Nat) => cs.setIfInBounds (pre.length + x.2) x.1) (pre ++ mid ++ post).toArray := by
    rw [← Array.foldl_toList]
    simp
  rw [this]
  apply Array.ext_getElem?
  intro k
  rw [h2 k]
  simp only [List.size_toArray, List.getElem?_toArray, List.length_append, Nat.add_zero]
  by_cases hk : pre.length ≤ k ∧ k < pre.length + mid'.length ∧ k < pre.length + mid.length + post.length
  · rw [if_pos hk, List.append_assoc, List.getElem?_append_right hk.1, List.getElem?_append_left (by omega)]
  · rw [if_neg hk, List.append_assoc, List.append_assoc]
    rcases Nat.lt_or_ge k pre.length with h | h
    · rw [List.getElem?_append_left h, List.getElem?_append_left h]
    · rw [List.getElem?_append_right h, List.getElem?_append_right h]
      rcases Nat.lt_or_ge (k - pre.length) mid.length with h3 | h3
      · omega
      · rw [List.getElem?_append_right h3, List.getElem?_append_right (by omega), hl]

theorem fill_ok {place place' : Nat → Option (Nat × Nat)} (hpl : ∀ i x, place i = some x → place' i = some x) :
    ∀ (ps : List (Nat × AV)) (cps : List (Nat × Value)) (acc acc' : AV) (cells : List Value), Parts E ps cps → FR E [acc] cells → fillAV place acc ps = some acc' →
      ∃ cells', Instr.fill place' cells.toArray cps = some cells'.toArray ∧ FR E [acc'] cells' ∧ acc'.flatLen = acc.flatLen ∧ (acc.isAgg = true → acc'.isAgg = true)
  | [], _, acc, acc', cells, hp, hf, h => by
    cases hp
    simp only [fillAV, Option.some.injEq] at h
    subst h
    exact ⟨cells, rfl, hf, rfl, id⟩
  | (i, v) :: ps, _, acc, acc', cells, hp, hf, h => by
    cases hp with
    | cons hv hp =>
    rename_i c cps
    simp only [fillAV, Option.bind_eq_some_iff] at h
    obtain ⟨⟨off, sz⟩, hx, ⟨o, u⟩, hat, h⟩ := h
    split at h
    · rename_i hc
      obtain ⟨rfl, hvl, hvp⟩ := hc
      simp only [Option.bind_eq_some_iff] at h
      obtain ⟨acc1, hput, h⟩ := h
      have hvc := (hv.toPR hvp).cells
      obtain ⟨pre, mid, post, rfl, hpre, hm, hlen, hf1, hfl⟩ := put_spec _ _ _ _ _ _ _ _ hf hat hput hvc
      obtain ⟨cells', h1, h2, h3, h4⟩ := fill_ok hpl ps cps acc1 acc' _ hp hf1 h
      refine ⟨cells', ?_, h2, h3.trans hfl, fun ha => h4 (put_agg hput ha)⟩
      unfold Instr.fill
      rw [hpl i _ hx]
      have hcl : c.cells.size = v.flatLen := by
        have := hvc.length
        simpa [sumLen] using this
      simp only [hcl, hvl]
      have hms : mid.length = sz := by
        have : c.cells.toList.length = sz := by simp [hcl, hvl]
        omega
      rw [if_neg (by simp; omega)]
      rw [← h1]
      have := fill_step (pre := pre) (mid := mid) (post := post) (mid' := c.cells.toList) hlen
      simp only [hpre] at this
      rw [← this]
    · simp at h
where
  put_agg : ∀ {acc acc1 v : AV} {i : Nat}, acc.put? [i] v = some acc1 → acc.isAgg = true → acc1.isAgg = true := by
    intro acc acc1 v i h ha
    cases acc <;> simp only [AV.put?, Option.bind_eq_some_iff, Option.map_eq_some_iff, reduceCtorEq] at h
    · obtain ⟨_, _, _, _, rfl⟩ := h; rfl
    · obtain ⟨_, _, _, _, rfl⟩ := h; rfl

theorem places_ok : ∀ (fs : List Field), fs.all (fun f => (tsize P f.type).isSome) = true → ∃ places, fs.mapM (fun f => (P.info? f.type).map fun i => (f.offset, i.size)) = some places ∧ ∀ i x, structPlace P fs i = some x → places[i]? = some x
  | [], _ => ⟨[], rfl, fun i x h => by simp [structPlace] at h⟩
  | f :: fs, h => by
    simp only [List.all_cons, Bool.and_eq_true] at h
    obtain ⟨places, h1, h2⟩ := places_ok fs h.2
    obtain ⟨sz, hsz⟩ := Option.isSome_iff_exists.1 h.1
    obtain ⟨inf, hi, hs⟩ : ∃ i, P.info? f.type = some i ∧ i.size = sz := by simpa [tsize] using hsz
    refine ⟨(f.offset, sz) :: places, by simp [List.mapM_cons, hi, h1, hs], fun i x hx => ?_⟩
    cases i with
    | zero => simpa [structPlace, hsz] using hx
    | succ i => simpa [structPlace] using h2 i x (by simpa [structPlace] using hx)

theorem build_ok {t : TypeId} {ps : List (Nat × AV)} {cps : List (Nat × Value)} {v : AV} (hp : Parts E ps cps) (h : buildAV P t ps = some v) :
    ∃ c, (Instr.build t cps.toArray).run P w = .ok c w ∧ VR E v c := by
  simp only [buildAV, Option.bind_eq_some_iff] at h
  obtain ⟨z, hz, h⟩ := h
  obtain ⟨i, zv, hi, hiz, hf, _, hpk⟩ := zero_spec (E := E) hz
  split at h
  · simp at h
  rename_i hzag
  have hzag : z.isAgg = true := by simpa using hzag
  split at h
  · rename_i fs hu
    split at h
    · rename_i hall
      obtain ⟨places, hpl, hpl2⟩ := places_ok fs.toList hall
      obtain ⟨cells', h1, h2, h3, h4⟩ := fill_ok (place' := (places.toArray[·]?)) (fun i x hx => by simpa using hpl2 i x hx) ps cps z v _ hp hf h
      refine ⟨.agg cells'.toArray, run_build w t _ _ ?_, .of_PR ⟨cells', h2, by simp [pack, h4 hzag]⟩⟩
      simp only [Program.built, hi, hu, hiz, hpl]
      simpa using h1
    · simp at h
  · rename_i n e hu
    simp only [Option.bind_eq_some_iff] at h
    obtain ⟨s, hs, h⟩ := h
    obtain ⟨inf, hie, hs'⟩ : ∃ i, P.info? e = some i ∧ i.size = s := by simpa [tsize] using hs
    obtain ⟨cells', h1, h2, h3, h4⟩ := fill_ok (place' := fun i => some (i * s, s)) (fun i x hx => hx) ps cps z v _ hp hf h
    refine ⟨.agg cells'.toArray, run_build w t _ _ ?_, .of_PR ⟨cells', h2, by simp [pack, h4 hzag]⟩⟩
    simp only [Program.built, hi, hu, hiz, hie, hs']
    simpa using h1
  · simp at h

theorem PR.iface_inv {t : TypeId} {v : AV} {c : Value} (h : PR E (.iface t v) c) : ∃ cv, c = .iface t cv ∧ PR E v cv := by
  have h1 := h.leaf rfl
  cases h1 with
  | iface h1 h2 => exact ⟨_, rfl, _, h1, rfl⟩

theorem PR.nili_inv {c : Value} (h : PR E .nili c) : c = .nilIface := by
  have h1 := h.leaf rfl
  cases h1
  rfl

theorem VR.pair {a : AV} {ca : Value} {b : Bool} (h : PR E a ca) : VR E (.tuple [a, .bool b]) (.tuple #[ca, .bool b]) := by
  refine ⟨[ca, .bool b], rfl, rfl, fun i v c hv hc => ?_⟩
  match i with
  | 0 => simp at hv hc; subst hv hc; exact .inr h
  | 1 => simp at hv hc; subst hv hc; exact .inr .bool
  | i + 2 => simp at hv

theorem typeAssert_ok {x v : AV} {cx : Value} {xt as : TypeId} {ok : Bool} (hx : VR E x cx) (h : typeAssertAV P x as ok = some v) :
    ∃ c, (Instr.typeAssert cx xt as ok).run P w = .ok c w ∧ VR E v c := by
  have hfail : (if ok then (zeroAV P as).map fun z => AV.tuple [z, .bool false] else none) = some v → ok = true ∧ ∃ z cz, (∀ w, (zeroValue as).run P w = .ok cz w) ∧ PR E z cz ∧ v = .tuple [z, .bool false] := by
    intro h
    split at h
    · rename_i hok
      simp only [Option.map_eq_some_iff] at h
      obtain ⟨z, hz, rfl⟩ := h
      obtain ⟨i, zv, hi, hiz, hf, _, hpk⟩ := zero_spec (E := E) hz
      exact ⟨hok, z, zv, fun w => run_zeroValue' hi hiz w, ⟨_, hf, hpk.symm⟩, rfl⟩
    · simp at h
  have hhold : ∀ {u cu}, PR E u cu → (if ok then AV.tuple [u, .bool true] else u) = v → VR E v (if ok then .tuple #[cu, .bool true] else cu) := by
    intro u cu hu hv
    subst hv
    cases ok
    · exact VR.of_PR hu
    · exact VR.pair hu
  simp only [typeAssertAV] at h
  split at h
  · rename_i ms hu
    obtain ⟨rfl, z, cz, h1, h2, rfl⟩ := hfail h
    obtain rfl := PR.nili_inv (show PR E .nili cx from hx)
    exact ⟨_, by simp [Instr.typeAssert, run_underlying hu, h1], VR.pair h2⟩
  · rename_i want t u hu
    simp only [Option.bind_eq_some_iff] at h
    obtain ⟨i, hi, h⟩ := h
    obtain ⟨cu, rfl, hcu⟩ := PR.iface_inv (show PR E (.iface t u) cx from hx)
    split at h
    · rename_i hm
      obtain ⟨rfl, z, cz, h1, h2, rfl⟩ := hfail h
      obtain ⟨m, hm⟩ := missingMethod_some (want := want) (got := i.methods) (by simpa [missingB] using hm)
      exact ⟨_, by simp [Instr.typeAssert, run_underlying hu, typeInfo, hi, hm, h1], VR.pair h2⟩
    · rename_i hm
      have hm : Instr.missingMethod want i.methods = none := missingMethod_none (by simpa [missingB] using hm)
      exact ⟨_, by simp only [Instr.typeAssert, Sem.run_bind, run_underlying hu, typeInfo, run_program, hi, Result.andThen_ok, Sem.run_pure, hm], hhold (show PR E (.iface t u) _ from hx) (by simpa using h)⟩
  · rename_i d hx' hu
    obtain ⟨rfl, z, cz, h1, h2, rfl⟩ := hfail h
    obtain rfl := PR.nili_inv (show PR E .nili cx from hx)
    refine ⟨_, ?_, VR.pair h2⟩
    cases d <;> first | (simp [Instr.typeAssert, run_underlying hu, h1]; done) | (exfalso; exact hx' _ rfl)
  · rename_i d t u hx' hu
    obtain ⟨cu, rfl, hcu⟩ := PR.iface_inv (show PR E (.iface t u) cx from hx)
    split at h
    · rename_i hta
      refine ⟨_, ?_, hhold hcu (by simpa using h)⟩
      cases d <;> first | (simp [Instr.typeAssert, run_underlying hu, hta]; done) | (exfalso; exact hx' _ rfl)
    · rename_i hta
      obtain ⟨rfl, z, cz, h1, h2, rfl⟩ := hfail h
      refine ⟨_, ?_, VR.pair h2⟩
      cases d <;> first | (simp [Instr.typeAssert, run_underlying hu, hta, h1]; done) | (exfalso; exact hx' _ rfl)
  · simp at h

end
end Go.X
