/-
  Blocks that nothing leads to are given up.
-/
import Derived.Test.YtiiddampachhlaaX25b
namespace Go.X
open Go.RowKit (Below)

/-- What is kept is closed. -/
def Closed (H : Heap) (n0 : Nat) (seen todo : List Nat) : Prop :=
  ∀ i ∈ seen, ∀ bk, H.blk i = some bk → bk.flat = false → ∀ r ∈ bk.root.refs, r < n0 ∨ r ∈ seen ∨ r ∈ todo

theorem reach_ok {H : Heap} {n0 : Nat} : ∀ (k : Nat) (todo seen keep : List Nat), reach H n0 k todo seen = some keep → Closed H n0 seen todo →
    Closed H n0 keep [] ∧ (∀ i ∈ seen, i ∈ keep) ∧ ∀ i ∈ todo, i < n0 ∨ i ∈ keep
  | 0, [], seen, keep, h, hc => by
    obtain rfl : seen = keep := by simpa [reach] using h
    exact ⟨hc, fun _ h => h, by simp⟩
  | k + 1, [], seen, keep, h, hc => by
    obtain rfl : seen = keep := by simpa [reach] using h
    exact ⟨hc, fun _ h => h, by simp⟩
  | 0, i :: todo, seen, keep, h, hc => by simp [reach] at h
  | k + 1, i :: todo, seen, keep, h, hc => by
    unfold reach at h
    split at h
    · rename_i hi
      obtain ⟨h1, h2, h3⟩ := reach_ok k todo seen keep h (fun j hj bk hb hf r hr => by
        rcases hc j hj bk hb hf r hr with h | h | h
        · exact .inl h
        · exact .inr (.inl h)
        · rcases List.mem_cons.1 h with rfl | h
          · exact .inl hi
          · exact .inr (.inr h))
      exact ⟨h1, h2, fun j hj => (List.mem_cons.1 hj).elim (fun e => .inl (e ▸ hi)) (h3 j)⟩
    · split at h
      · rename_i hs
        have hs' : i ∈ seen := by simpa using hs
        obtain ⟨h1, h2, h3⟩ := reach_ok k todo seen keep h (fun j hj bk hb hf r hr => by
          rcases hc j hj bk hb hf r hr with h | h | h
          · exact .inl h
          · exact .inr (.inl h)
          · rcases List.mem_cons.1 h with rfl | h
            · exact .inr (.inl hs')
            · exact .inr (.inr h))
        exact ⟨h1, h2, fun j hj => (List.mem_cons.1 hj).elim (fun e => .inr (e ▸ h2 i hs')) (h3 j)⟩
      · split at h
        · rename_i b hb
          obtain ⟨h1, h2, h3⟩ := reach_ok k _ (i :: seen) keep h (fun j hj bk hbk hf r hr => by
            rcases List.mem_cons.1 hj with rfl | hj
            · rw [hb] at hbk
              obtain rfl := Option.some.inj hbk
              right; right
              rw [if_neg (by simp [hf])]
              exact List.mem_append.2 (.inl hr)
            · rcases hc j hj bk hbk hf r hr with h | h | h
              · exact .inl h
              · exact .inr (.inl (List.mem_cons_of_mem _ h))
              · rcases List.mem_cons.1 h with rfl | h
                · exact .inr (.inl List.mem_cons_self)
                · right; right
                  split
                  · exact h
                  · exact List.mem_append.2 (.inr h))
          refine ⟨h1, fun j hj => h2 j (List.mem_cons_of_mem _ hj), fun j hj => ?_⟩
          rcases List.mem_cons.1 hj with rfl | hj
          · exact .inr (h2 j List.mem_cons_self)
          · refine h3 j ?_
            split
            · exact hj
            · exact List.mem_append.2 (.inr hj)
        · rename_i hb
          obtain ⟨h1, h2, h3⟩ := reach_ok k todo (i :: seen) keep h (fun j hj bk hbk hf r hr => by
            rcases List.mem_cons.1 hj with rfl | hj
            · rw [hb] at hbk; simp at hbk
            · rcases hc j hj bk hbk hf r hr with h | h | h
              · exact .inl h
              · exact .inr (.inl (List.mem_cons_of_mem _ h))
              · rcases List.mem_cons.1 h with rfl | h
                · exact .inr (.inl List.mem_cons_self)
                · exact .inr (.inr h))
          refine ⟨h1, fun j hj => h2 j (List.mem_cons_of_mem _ hj), fun j hj => ?_⟩
          rcases List.mem_cons.1 hj with rfl | hj
          · exact .inr (h2 j List.mem_cons_self)
          · exact h3 j hj

theorem prune_ok {keep : List Nat} : ∀ (H : Heap) (i : Nat), (prune keep i H).length ≤ H.length ∧ (∀ j bk, (prune keep i H).blk j = some bk → H.blk j = some bk ∧ i + j ∈ keep) ∧ ∀ j, i + j ∈ keep → j < H.length → j < (prune keep i H).length
  | [], i => by simp [prune, Heap.blk]
  | b :: r, i => by
    obtain ⟨h1, h2, h3⟩ := prune_ok r (i + 1)
    unfold prune
    split
    · rename_i hnil
      split
      · rename_i hk
        have hk' : i ∈ keep := by simpa using hk
        refine ⟨by simp, fun j bk hj => ?_, fun j hj hlt => ?_⟩
        · cases j with
          | zero => exact ⟨hj, hk'⟩
          | succ j => simp [Heap.blk] at hj
        · cases j with
          | zero => simp
          | succ j =>
            have := h3 j (by rw [show i + 1 + j = i + (j + 1) by omega]; exact hj) (by simpa using hlt)
            rw [hnil] at this
            simp at this
      · rename_i hk
        refine ⟨by simp, fun j bk hj => by simp [Heap.blk] at hj, fun j hj hlt => ?_⟩
        cases j with
        | zero => exact absurd (by simpa using hj) (by simpa using hk)
        | succ j =>
          have := h3 j (by rw [show i + 1 + j = i + (j + 1) by omega]; exact hj) (by simpa using hlt)
          rw [hnil] at this
          simp at this
    · refine ⟨by simpa using h1, fun j bk hj => ?_, fun j hj hlt => ?_⟩
      · cases j with
        | zero =>
          simp only [Heap.blk, List.getElem?_cons_zero] at hj ⊢
          split at hj
          · rename_i hk
            exact ⟨hj, by simpa using hk⟩
          · simp at hj
        | succ j =>
          have := h2 j bk (by simpa [Heap.blk] using hj)
          exact ⟨by simpa [Heap.blk] using this.1, by rw [show i + (j + 1) = i + 1 + j by omega]; exact this.2⟩
      · cases j with
        | zero => simp
        | succ j =>
          have := h3 j (by rw [show i + 1 + j = i + (j + 1) by omega]; exact hj) (by simpa using hlt)
          simpa using this

/-- What a sweep gives. -/
structure Swept (H : Heap) (n0 : Nat) (roots : List Nat) (esc : Bool) (H' : Heap) : Prop where
  low : n0 ≤ H'.length
  high : H'.length ≤ H.length
  blk : ∀ i bk, H'.blk i = some bk → H.blk i = some bk
  root : ∀ r ∈ roots, r < H.length → r < H'.length
  young : ∀ i bk, n0 ≤ i → H'.blk i = some bk → bk.flat = false → ∀ r ∈ bk.root.refs, r < H.length → r < H'.length
  oldies : esc = true → ∀ i bk, i < n0 → H'.blk i = some bk → bk.flat = false → ∀ r ∈ bk.root.refs, r < H.length → r < H'.length

theorem sweep_ok {H : Heap} {n0 : Nat} {roots : List Nat} {esc : Bool} {H' : Heap} (hn : n0 ≤ H.length) (h : sweep H n0 roots esc = some H') : Swept H n0 roots esc H' := by
  unfold sweep at h
  split at h
  · rename_i he
    obtain rfl := Option.some.inj h
    exact ⟨by omega, Nat.le_refl _, fun _ _ h => h, fun _ _ h => h, fun _ _ _ _ _ _ _ h => h, fun _ _ _ _ _ _ _ _ h => h⟩
  · simp only [Option.map_eq_some_iff] at h
    obtain ⟨keep, hk, rfl⟩ := h
    obtain ⟨hcl, _, hto⟩ := reach_ok _ _ _ _ hk (fun i hi => by simp at hi)
    obtain ⟨p1, p2, p3⟩ := prune_ok (keep := keep) (H.drop n0) n0
    have hlen : (H.take n0).length = n0 := by rw [List.length_take]; omega
    have hin : ∀ r, (r < n0 ∨ r ∈ keep) → r < H.length → r < (H.take n0 ++ prune keep n0 (H.drop n0)).length := fun r hr hlt => by
      rw [List.length_append, hlen]
      rcases hr with hr | hr
      · omega
      · rcases Nat.lt_or_ge r n0 with h | h
        · omega
        · have := p3 (r - n0) (by rw [show n0 + (r - n0) = r by omega]; exact hr) (by rw [List.length_drop]; omega)
          omega
    have hblk : ∀ i, Heap.blk (H.take n0 ++ prune keep n0 (H.drop n0)) i = if i < n0 then H.blk i else (prune keep n0 (H.drop n0)).blk (i - n0) := fun i => by
      unfold Heap.blk
      rw [List.getElem?_append, hlen]
      split
      · rename_i hi; rw [List.getElem?_take, if_pos hi]
      · rfl
    refine ⟨by rw [List.length_append, hlen]; omega, by rw [List.length_append, hlen]; rw [List.length_drop] at p1; omega, fun i bk hi => ?_, fun r hr hlt => ?_, fun i bk hni hi hf r hr hlt => ?_, fun hesc i bk hni hi hf r hr hlt => ?_⟩
    · rw [hblk] at hi
      split at hi
      · exact hi
      · rename_i hni
        have := (p2 _ bk hi).1
        unfold Heap.blk at this ⊢
        rwa [List.getElem?_drop, show n0 + (i - n0) = i by omega] at this
    · exact hin r (hto r (List.mem_append.2 (.inl hr))) hlt
    · rw [hblk, if_neg (by omega)] at hi
      obtain ⟨q1, q2⟩ := p2 _ bk hi
      rw [show n0 + (i - n0) = i by omega] at q2
      have hb : H.blk i = some bk := by
        unfold Heap.blk at q1 ⊢
        rwa [List.getElem?_drop, show n0 + (i - n0) = i by omega] at q1
      rcases hcl i q2 bk hb hf r hr with h | h | h
      · exact hin r (.inl h) hlt
      · exact hin r (.inr h) hlt
      · simp at h
    · rw [hblk, if_pos hni] at hi
      refine hin r (hto r (List.mem_append.2 (.inr ?_))) hlt
      rw [if_pos hesc]
      unfold oldRefs
      refine List.mem_flatMap.2 ⟨some bk, ?_, by simp [hf, hr]⟩
      unfold Heap.blk at hi
      have hlt' : i < H.length := by omega
      rw [List.getElem?_eq_getElem hlt'] at hi
      have hi : H[i] = some bk := hi
      rw [← hi]
      refine List.mem_iff_getElem?.2 ⟨i, ?_⟩
      rw [List.getElem?_take, if_pos hni, List.getElem?_eq_getElem hlt']

section
variable {C : Ctx} {B : Nat} {E0 E : Env} {H0 : Heap} {w0 : World} {s : St} {a : Act} {w : World}

def Env.cut (E : Env) (H : Heap) : Env := ⟨fun i => if (H.blk i).isSome then E.loc i else none, E.m, H.length⟩

/-- A sweep's memory stands for the same world. -/
theorem swept_sim {n0 : Nat} {H H' : Heap} {roots : List Nat} {esc : Bool} (hs : Sim B E H w) (hsw : Swept H n0 roots esc H') (h0 : ∀ i bk r, H0.blk i = some bk → r ∈ bk.root.refs → r < n0) (hsub : esc = false → Sub n0 H0 H) :
    Sim B (E.cut H') H' w ∧ ∀ k, Tr B k E w (E.cut H') w := by
  refine hs.less rfl (fun i bk hi => ⟨hsw.blk i bk hi, fun r hr => ?_⟩) (fun i => rfl) (fun _ _ _ h => h) (fun b o c hc => ⟨hs.imm b o c hc, fun hin => hs.immApart b o c hc ?_⟩) (fun _ _ _ h => .inl h)
  · have hb := hsw.blk i bk hi
    have hflat : bk.flat = false := by
      cases hf : bk.flat
      · rfl
      · rw [hs.flat i bk hb hf] at hr; simp at hr
    have hlt : r < H.length := by
      obtain ⟨L, h1, h2, h3⟩ := hs.live i bk hb
      rw [← hs.top]
      exact h2.refs_lt r hr
    show r < H'.length
    rcases Nat.lt_or_ge i n0 with hin | hin
    · cases he : esc
      · obtain ⟨b0, g1, g2⟩ := hsub he i hin bk hb
        have := h0 i b0 r g1 (g2 r hr)
        have := hsw.low
        omega
      · exact hsw.oldies he i bk hin hi hflat r hr hlt
    · exact hsw.young i bk hin hi hflat r hr hlt
  · obtain ⟨i, L, hi, hh⟩ := hin
    simp only [Env.cut] at hi
    split at hi
    · exact ⟨i, L, hi, hh⟩
    · simp at hi

theorem mem_refsL : ∀ {vs : List AV} {v : AV} {r : Nat}, v ∈ vs → r ∈ v.refs → r ∈ refsL vs
  | x :: vs, v, r, hv, hr => by
    simp only [refsL, List.mem_append]
    rcases List.mem_cons.1 hv with rfl | hv
    · exact .inl hr
    · exact .inr (mem_refsL hv hr)

theorem VR.evol {E E' : Env} {k : Nat} (he : Evol k E E') (hk : k ≤ E'.top) {v : AV} {c : Value} (h : VR E v c) (hr : ∀ r ∈ v.refs, r < k) : VR E' v c := by
  have key : ∀ {v : AV} {c : Value}, PR E v c → (∀ r ∈ v.refs, r < k) → PR E' v c := fun {v c} h hr => by
    obtain ⟨cs, h1, h2⟩ := h
    exact ⟨cs, h1.evol he hk (by simpa [refsL] using hr), h2⟩
  cases v with
  | bad => trivial
  | undf => exact h
  | tuple vs =>
    obtain ⟨cvs, h1, h2, h3⟩ := h
    refine ⟨cvs, h1, h2, fun i v c hv hc => (h3 i v c hv hc).imp id (fun hp => key hp (fun r hr' => hr r ?_))⟩
    simp only [AV.refs]
    exact mem_refsL (List.mem_of_getElem? hv) hr'
  | _ => exact key (show PR E _ c from h) hr

theorem VR.refs_lt {E : Env} {v : AV} {c : Value} (h : VR E v c) : ∀ r ∈ v.refs, r < E.top := by
  have key : ∀ {v : AV} {c : Value}, PR E v c → ∀ r ∈ v.refs, r < E.top := fun {v c} h r hr => by
    obtain ⟨cs, h1, _⟩ := h
    exact h1.refs_lt r (by simpa [refsL] using hr)
  cases v with
  | bad => intro r hr; simp [AV.refs] at hr
  | undf => intro r hr; simp [AV.refs] at hr
  | tuple vs =>
    obtain ⟨cvs, h1, h2, h3⟩ := h
    intro r hr
    simp only [AV.refs] at hr
    have : ∃ v ∈ vs, r ∈ v.refs := by
      clear h3 h2
      induction vs with
      | nil => simp [refsL] at hr
      | cons x vs ih =>
        simp only [refsL, List.mem_append] at hr
        rcases hr with hr | hr
        · exact ⟨x, List.mem_cons_self, hr⟩
        · obtain ⟨v, hv, hr⟩ := ih hr
          exact ⟨v, List.mem_cons_of_mem _ hv, hr⟩
    obtain ⟨v, hv, hr⟩ := this
    obtain ⟨i, hi, hvi⟩ := List.getElem_of_mem hv
    have hci : cvs[i]? = some cvs[i] := List.getElem?_eq_getElem (by omega)
    rcases h3 i v _ (by rw [List.getElem?_eq_getElem hi, hvi]) hci with rfl | hp
    · simp [AV.refs] at hr
    · exact key hp r hr
  | _ => exact key (show PR E _ c from h)

theorem look_mask (m : Nat) (t : Nat) : ∀ (l : List (Nat × AV)), look (maskL m l) t = if m.testBit t then look l t else .bad
  | [] => by simp [maskL, look]
  | (k, v) :: l => by
    have ih := look_mask m t l
    unfold maskL at ih ⊢
    simp only [List.map_cons]
    by_cases hk : k = t
    · subst hk
      by_cases hm : m.testBit k <;> simp [look, hm]
    · by_cases hm : m.testBit k <;> simp [look, hm, hk, ih]

theorem look_roots (t : Nat) : ∀ (l : List (Nat × AV)), ∀ r ∈ (look l t).refs, r ∈ rootsL l
  | [], r, hr => by simp [look, AV.refs] at hr
  | (k, v) :: l, r, hr => by
    simp only [look] at hr
    split at hr
    · exact List.mem_flatMap.2 ⟨_, List.mem_cons_self, hr⟩
    · have := look_roots t l r hr
      obtain ⟨x, hx, hr⟩ := List.mem_flatMap.1 this
      exact List.mem_flatMap.2 ⟨x, List.mem_cons_of_mem _ hx, hr⟩

theorem head_ok {m : Nat} {s1 : St} (hI : IV C B E0 H0 w0 E s a w) (h0 : ∀ i bk r, H0.blk i = some bk → r ∈ bk.root.refs → r < C.n0) (h : headSt C m s = some s1) : ∃ E1, IV C B E0 H0 w0 E1 s1 a w := by
  unfold headSt at h
  simp only [Option.map_eq_some_iff] at h
  obtain ⟨H', hsw, rfl⟩ := h
  have hS := sweep_ok hI.sr.len hsw
  have hs := hI.sr.sim
  obtain ⟨k1, k2⟩ := swept_sim hs hS h0 hI.sub
  refine ⟨E.cut H', ⟨k1, fun t => ?_, hI.sr.size, hI.sr.defers, hS.low⟩, hI.tr.trans (k2 _), fun he i hi bk hb => hI.sub he i hi bk (hS.blk i bk hb)⟩
  have hv := hI.sr.vals t
  unfold St.get at hv ⊢
  split
  · rename_i hexp
    simp only [hexp, if_true] at hv
    have hr : ∀ r ∈ (look (maskL m s.L) t).refs, r < H'.length := fun r hr => by
      refine hS.root r (look_roots t _ r hr) ?_
      rw [look_mask] at hr
      split at hr
      · rw [← hs.top]; exact hv.refs_lt r hr
      · simp [AV.refs] at hr
    have hv' : VR E (look (maskL m s.L) t) (a.tmps.getD t undef) := by
      rw [look_mask]
      split
      · exact hv
      · trivial
    exact hv'.evol (k2 _).evol (Nat.le_refl _) hr
  · trivial

end
end Go.X
