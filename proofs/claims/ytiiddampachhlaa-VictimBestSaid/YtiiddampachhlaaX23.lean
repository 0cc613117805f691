/-
  Regions that draw their order.
-/
import Derived.Test.YtiiddampachhlaaX22
import Derived.Orders
namespace Go.X
open Go.RowKit (Below)

section
variable {P : Program} {ops : List Oper}

/-- A set of operations that goes down. -/
def Down (ops : List Oper) (S : Nat → Prop) : Prop := ∀ i o, S i → ops[i]? = some o → ∀ j ∈ precs o, S j

/-- What a mask says of those who come before. -/
def Says (ops : List Oper) (js : List Nat) (x : Nat) : Prop :=
  ∀ S, Down ops S → (∀ j ∈ js, S j) → ∀ j, x.testBit j = true → S j

def TabOk (ops : List Oper) (tab : List (Nat × Nat)) : Prop := ∀ i x, tab.lookup i = some x → ∃ o, ops[i]? = some o ∧ Says ops (precs o) x

theorem ancOf_ok {tab : List (Nat × Nat)} (ht : TabOk ops tab) : ∀ (js : List Nat) (x : Nat), ancOf tab js = some x → Says ops js x ∧ ∀ j ∈ js, (tab.lookup j).isSome = true
  | [], x, h => by
    obtain rfl := Option.some.inj h
    exact ⟨fun S hS hj j h => by simp at h, fun j hj => by simp at hj⟩
  | j :: r, x, h => by
    simp only [ancOf, Option.bind_eq_some_iff, Option.map_eq_some_iff] at h
    obtain ⟨y, hy, z, hz, rfl⟩ := h
    obtain ⟨ih1, ih2⟩ := ancOf_ok ht r z hz
    obtain ⟨o, ho, hsay⟩ := ht j y hy
    refine ⟨fun S hS hj k hk => ?_, fun k hk => ?_⟩
    · have hSj := hj j List.mem_cons_self
      simp only [Nat.testBit_or, Bool.or_eq_true, Nat.testBit_two_pow, decide_eq_true_eq] at hk
      rcases hk with (rfl | hk) | hk
      · exact hSj
      · exact hsay S hS (hS j o hSj ho) k hk
      · exact ih1 S hS (fun k hk => hj k (List.mem_cons_of_mem _ hk)) k hk
    · rcases List.mem_cons.1 hk with rfl | hk
      · rw [hy]; rfl
      · exact ih2 k hk

theorem dstsMask_bit : ∀ (l : List Oper) (t : Nat), (dstsMask l).testBit t = true ↔ ∃ o ∈ l, o.dst = some t
  | [], t => by simp [dstsMask]
  | o :: l, t => by
    have ih := dstsMask_bit l t
    have hc : dstsMask (o :: l) = (match o.dst with | some d => 2 ^ d | none => 0) ||| dstsMask l := rfl
    rw [hc, Nat.testBit_or, Bool.or_eq_true, ih]
    constructor
    · rintro (h | ⟨o', ho', hd⟩)
      · split at h
        · rename_i d hd
          simp only [Nat.testBit_two_pow, decide_eq_true_eq] at h
          exact ⟨o, List.mem_cons_self, by rw [hd, h]⟩
        · simp at h
      · exact ⟨o', List.mem_cons_of_mem _ ho', hd⟩
    · rintro ⟨o', ho', hd⟩
      rcases List.mem_cons.1 ho' with rfl | ho'
      · left; rw [hd]; simp
      · exact .inr ⟨o', ho', hd⟩

theorem dstsOk_ok : ∀ (l : List Oper), dstsOk l = true → ∀ (i j : Nat) (o o' : Oper) (d : Nat), l[i]? = some o → l[j]? = some o' → o.dst = some d → o'.dst = some d → i = j
  | [], _, i, j, o, o', d, hi, _, _, _ => by simp at hi
  | x :: l, h, i, j, o, o', d, hi, hj, ho, ho' => by
    simp only [dstsOk, Bool.and_eq_true] at h
    have hno : ∀ {k : Nat} {u : Oper}, l[k]? = some u → u.dst = some d → x.dst ≠ some d := fun {k u} hk hu hx => by
      have h1 := h.1
      rw [hx] at h1
      simp only [Bool.not_eq_true'] at h1
      have := (dstsMask_bit l d).2 ⟨u, List.mem_of_getElem? hk, hu⟩
      rw [this] at h1
      simp at h1
    cases i <;> cases j
    · rfl
    · simp only [List.getElem?_cons_zero, Option.some.injEq, List.getElem?_cons_succ] at hi hj
      subst hi
      exact absurd ho (hno hj ho')
    · simp only [List.getElem?_cons_zero, Option.some.injEq, List.getElem?_cons_succ] at hi hj
      subst hj
      exact absurd ho' (hno hi ho)
    · simp only [List.getElem?_cons_succ] at hi hj
      rw [dstsOk_ok l h.2 _ _ o o' d hi hj ho ho']

/-- What is known of each operation of the order. -/
structure Place (ops : List Oper) (seen : Nat → Prop) (i : Nat) : Prop where
  op : ∃ o, ops[i]? = some o ∧ ∀ j ∈ precs o, seen j
  new : ¬ seen i

theorem ancTab_ok : ∀ (order : List Nat) (tab tab' : List (Nat × Nat)), TabOk ops tab → ancTab ops order tab = some tab' → TabOk ops tab' ∧
    ∀ pre i post, order = pre ++ i :: post → Place ops (fun j => j ∈ pre ∨ (tab.lookup j).isSome = true) i
  | [], tab, tab', ht, h => by
    obtain rfl := Option.some.inj h
    exact ⟨ht, fun pre i post h => by simp at h⟩
  | i :: r, tab, tab', ht, h => by
    simp only [ancTab, Option.bind_eq_some_iff] at h
    obtain ⟨o, ho, x, hx, h⟩ := h
    split at h
    · rename_i hnew
      simp only [Option.isNone_iff_eq_none] at hnew
      obtain ⟨hsay, hin⟩ := ancOf_ok ht _ _ hx
      have ht2 : TabOk ops ((i, x) :: tab) := fun j y hj => by
        rw [List.lookup_cons] at hj
        split at hj
        · rename_i hji
          have hji' : j = i := by simpa using hji
          subst hji'
          obtain rfl := Option.some.inj hj
          exact ⟨o, ho, hsay⟩
        · exact ht j y hj
      obtain ⟨ih1, ih2⟩ := ancTab_ok r _ tab' ht2 h
      refine ⟨ih1, fun pre k post hk => ?_⟩
      cases pre with
      | nil =>
        simp only [List.nil_append, List.cons.injEq] at hk
        obtain ⟨rfl, rfl⟩ := hk
        refine ⟨⟨o, ho, fun j hj => .inr (hin j hj)⟩, ?_⟩
        rintro (hh | hh)
        · simp at hh
        · rw [hnew] at hh; simp at hh
      | cons q pre =>
        simp only [List.cons_append, List.cons.injEq] at hk
        obtain ⟨rfl, rfl⟩ := hk
        obtain ⟨⟨o2, h1, h2⟩, h4⟩ := ih2 pre k post rfl
        have hconv : ∀ j, (j ∈ pre ∨ (List.lookup j ((i, x) :: tab)).isSome = true) ↔ (j ∈ i :: pre ∨ (tab.lookup j).isSome = true) := fun j => by
          rw [List.lookup_cons]
          by_cases hj : j = i
          · subst hj; simp
          · have hb : (j == i) = false := by simpa using hj
            rw [hb]
            simp [hj]
        exact ⟨⟨o2, h1, fun j hj => (hconv j).1 (h2 j hj)⟩, fun hh => h4 ((hconv k).2 hh)⟩
    · simp at h

/-- i comes before j, whatever the order. -/
def Bef (ops : List Oper) (i j : Nat) : Prop := ∀ S o, Down ops S → ops[j]? = some o → (∀ k ∈ precs o, S k) → S i

theorem bef_ok {tab : List (Nat × Nat)} (ht : TabOk ops tab) {i j : Nat} (h : bef tab i j = true) : Bef ops i j := by
  unfold bef at h
  split at h
  · rename_i x hx
    obtain ⟨o, ho, hsay⟩ := ht j x hx
    intro S o' hS ho' hp
    obtain rfl : o = o' := by rw [ho] at ho'; exact Option.some.inj ho'
    exact hsay S hS hp i h
  · simp at h

theorem avail_ok {tab : List (Nat × Nat)} (ht : TabOk ops tab) (h : availOk ops tab = true) {i j t : Nat} {oi oj : Oper} (hj : ops[j]? = some oj) (hd : oj.dst = some t) (hi : ops[i]? = some oi) (hr : t ∈ readsOf ops oi) : Bef ops j i ∨ (Bef ops i j ∧ isRead oi.op = false) := by
  simp only [availOk, List.all_eq_true, List.mem_range] at h
  have h1 := h j (List.getElem?_eq_some_iff.1 hj).1
  simp only [hj, Option.bind_some, hd, List.all_eq_true, List.mem_range] at h1
  have h2 := h1 i (List.getElem?_eq_some_iff.1 hi).1
  simp only [hi, Bool.or_eq_true, Bool.and_eq_true, Bool.not_eq_true', List.contains_eq_mem, decide_eq_false_iff_not] at h2
  rcases h2 with (h2 | h2) | h2
  · exact absurd hr h2
  · exact .inl (bef_ok ht h2)
  · exact .inr ⟨bef_ok ht h2.1, h2.2⟩

/-- x, then y; or y only makes a block, and who reads of it comes behind x. -/
def Pair (ops : List Oper) (flo : List Nat) (x y : Nat) : Prop :=
  Bef ops x y ∨ (y ∈ flo ∧ ∃ o t, ops[y]? = some o ∧ isAllocOp o.op = true ∧ o.guard = none ∧ o.dst = some t ∧ ∀ d od, ops[d]? = some od → t ∈ readsOf ops od → Bef ops x d ∨ Bef ops d y)

theorem pair_ok {tab : List (Nat × Nat)} (ht : TabOk ops tab) {flo : List Nat} {x y : Nat} (h : pairOk ops tab flo x y = true) : Pair ops flo x y := by
  simp only [pairOk, Bool.or_eq_true, Bool.and_eq_true] at h
  rcases h with h | ⟨h1, h2⟩
  · exact .inl (bef_ok ht h)
  · refine .inr ⟨by simpa using h1, ?_⟩
    split at h2
    · rename_i o ho
      simp only [Bool.and_eq_true, Option.isNone_iff_eq_none] at h2
      obtain ⟨⟨g1, g2⟩, g3⟩ := h2
      split at g3
      · rename_i t hd
        refine ⟨o, t, ho, g1, g2, hd, fun d od hod hr => ?_⟩
        simp only [List.all_eq_true, List.mem_range] at g3
        have := g3 d (List.getElem?_eq_some_iff.1 hod).1
        simp only [hod, Bool.or_eq_true, Bool.not_eq_true', List.contains_eq_mem, decide_eq_false_iff_not] at this
        rcases this with (k | k) | k
        · exact absurd hr k
        · exact .inl (bef_ok ht k)
        · exact .inr (bef_ok ht k)
      · simp at g3
    · simp at h2

theorem pairs_ok {tab : List (Nat × Nat)} (ht : TabOk ops tab) {flo : List Nat} : ∀ (l : List Nat), pairsOk ops tab flo l = true → l.Pairwise (Pair ops flo)
  | [], _ => .nil
  | x :: r, h => by
    simp only [pairsOk, Bool.and_eq_true, List.all_eq_true] at h
    exact List.pairwise_cons.2 ⟨fun y hy => pair_ok ht (h.1 y hy), pairs_ok ht r h.2⟩

theorem readsOk_ok {tab : List (Nat × Nat)} {louds : List Nat} {chk : List (Nat × List Nat)} : ∀ (order : List Nat) (k : Nat), readsOk P ops tab louds chk order k = true →
    ∀ pre i post o, order = pre ++ i :: post → ops[i]? = some o → isLoud P o.op = false → isRead o.op = true → ∀ p, p ≤ louds.length →
      p = k + (pre.filter (loudAt P ops)).length ∨ p ∈ (chk.lookup i).getD [] ∨ possible tab louds i p = false
  | [], k, _, pre, i, post, o, hord, _, _, _, p, _ => by simp at hord
  | x :: r, k, h, pre, i, post, o, hord, ho, hl, hr, p, hp => by
    simp only [readsOk] at h
    cases pre with
    | nil =>
      simp only [List.nil_append, List.cons.injEq] at hord
      obtain ⟨rfl, rfl⟩ := hord
      rw [ho] at h
      simp only [hl, hr, Bool.not_true, Bool.false_or, Bool.and_eq_true, List.all_eq_true, List.mem_range, Bool.or_eq_true, beq_iff_eq, Bool.not_eq_true'] at h
      have := h.1 p (by omega)
      simp only [List.filter_nil, List.length_nil, Nat.add_zero]
      rcases this with (h1 | h1) | h1
      · exact .inl h1
      · exact .inr (.inl (by simpa using h1))
      · exact .inr (.inr h1)
    | cons q pre =>
      simp only [List.cons_append, List.cons.injEq] at hord
      obtain ⟨rfl, rfl⟩ := hord
      split at h
      · rename_i o2 ho2
        simp only [Bool.and_eq_true] at h
        have hlo : loudAt P ops x = isLoud P o2.op := by unfold loudAt; rw [ho2]
        have := readsOk_ok _ _ h.2 pre i post o rfl ho hl hr p hp
        rw [List.filter_cons, hlo]
        cases hq : isLoud P o2.op
        · simpa [hq] using this
        · rw [hq] at this
          simp only [if_true, List.length_cons] at this ⊢
          rw [show k + ((pre.filter (loudAt P ops)).length + 1) = k + 1 + (pre.filter (loudAt P ops)).length by omega]
          exact this
      · simp at h

end

section
variable {C : Ctx} {B : Nat} {E0 E : Env} {H0 : Heap} {w0 : World} {s s' sf : St} {a : Act} {w : World} {Q : Exit → Act → World → Prop} {ops : List Oper}

theorem runOrd_split {flo : List Nat} : ∀ (pre : List Nat) (i : Nat) (post : List Nat) (s sf : St) (hs : List (Heap × Bool)), runOrd C ops flo (pre ++ i :: post) s = some (sf, hs) →
    ∃ o si hpre si' hpost, ops[i]? = some o ∧ runOrd C ops flo pre s = some (si, hpre) ∧ stepOp C ops si o = some si' ∧ (i ∈ flo → lastBare si'.H = true) ∧ runOrd C ops flo post si' = some (sf, hpost) ∧
      hs = hpre ++ ((if isLoud C.P o.op then [(si'.H, si'.esc)] else []) ++ hpost)
  | [], i, post, s, sf, hs, h => by
    simp only [List.nil_append, runOrd, Option.bind_eq_some_iff] at h
    obtain ⟨o, ho, s', h1, h⟩ := h
    split at h
    · simp at h
    · rename_i hc
      simp only [Option.map_eq_some_iff, Prod.exists, Prod.mk.injEq] at h
      obtain ⟨sf', hpost, h2, rfl, rfl⟩ := h
      exact ⟨o, s, [], s', hpost, ho, rfl, h1, by simpa using hc, h2, by split <;> simp⟩
  | q :: pre, i, post, s, sf, hs, h => by
    simp only [List.cons_append, runOrd, Option.bind_eq_some_iff] at h
    obtain ⟨o, ho, s', h1, h⟩ := h
    split at h
    · simp at h
    · rename_i hc
      simp only [Option.map_eq_some_iff, Prod.exists, Prod.mk.injEq] at h
      obtain ⟨sf', hs', h2, rfl, rfl⟩ := h
      obtain ⟨o2, si, hpre, si', hpost, g1, g2, g3, g3', g4, rfl⟩ := runOrd_split pre i post s' _ hs' h2
      refine ⟨o2, si, if isLoud C.P o.op then (s'.H, s'.esc) :: hpre else hpre, si', hpost, g1, ?_, g3, g3', g4, ?_⟩
      · simp only [runOrd, ho, Option.bind_some, h1]
        rw [if_neg hc]
        simp only [g2, Option.map_some]
      · split <;> simp

theorem runOrd_len {flo : List Nat} : ∀ (pre : List Nat) (s si : St) (hpre : List (Heap × Bool)), runOrd C ops flo pre s = some (si, hpre) →
    hpre.length = (pre.filter (loudAt C.P ops)).length ∧ ((s.H, s.esc) :: hpre)[hpre.length]? = some (si.H, si.esc)
  | [], s, si, hpre, h => by
    simp only [runOrd, Option.some.injEq, Prod.mk.injEq] at h
    obtain ⟨rfl, rfl⟩ := h
    exact ⟨rfl, rfl⟩
  | q :: pre, s, si, hpre, h => by
    simp only [runOrd, Option.bind_eq_some_iff] at h
    obtain ⟨o, ho, s', h1, h⟩ := h
    split at h
    · simp at h
    · simp only [Option.map_eq_some_iff, Prod.exists, Prod.mk.injEq] at h
      obtain ⟨sf', hs', h2, rfl, rfl⟩ := h
      obtain ⟨ih1, ih2⟩ := runOrd_len pre s' sf' hs' h2
      have hlo : loudAt C.P ops q = isLoud C.P o.op := by unfold loudAt; rw [ho]
      rw [List.filter_cons, hlo]
      cases hq : isLoud C.P o.op
      · obtain ⟨k1, k2⟩ := quiet_step h1 hq
        simp only [Bool.false_eq_true, if_false]
        refine ⟨ih1, ?_⟩
        rw [← ih2, k1, k2]
      · simp only [if_true, List.length_cons]
        exact ⟨by rw [ih1], by simpa using ih2⟩

theorem runOrd_get {flo : List Nat} : ∀ (l : List Nat) (s sf : St) (hs : List (Heap × Bool)), runOrd C ops flo l s = some (sf, hs) → ∀ t, (∀ i ∈ l, ∀ o, ops[i]? = some o → o.dst ≠ some t) → sf.get C.A t = s.get C.A t
  | [], s, sf, hs, h, t, ht => by
    simp only [runOrd, Option.some.injEq, Prod.mk.injEq] at h
    rw [h.1]
  | q :: l, s, sf, hs, h, t, ht => by
    simp only [runOrd, Option.bind_eq_some_iff] at h
    obtain ⟨o, ho, s', h1, h⟩ := h
    split at h
    · simp at h
    · simp only [Option.map_eq_some_iff, Prod.exists, Prod.mk.injEq] at h
      obtain ⟨sf', hs', h2, rfl, rfl⟩ := h
      rw [runOrd_get l s' _ hs' h2 t (fun i hi => ht i (List.mem_cons_of_mem _ hi)), stepOp_get h1 (ht q List.mem_cons_self o ho)]

end
end Go.X
