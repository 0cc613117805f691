/-
  Frames, as pages are looked up in them: what each call changes.
-/
import Derived.Test.YtlnbbgagccgnjaaDoorKag
import Derived.Test.YtlnbbgagccgnjaaDoorKah
import Derived.Test.YtlnbbgagccgnjaaDoorKae

namespace Go.Proofs.YtlnbbgagccgnjaaDoor
open Go Go.X
/-- No key is in two frames; keys are pages' or mapping pages'. -/
structure UK (fs : List Fr) : Prop where
  uniq : ∀ i j (hi : i < fs.length) (hj : j < fs.length), fs[i].key = fs[j].key → fs[i].key ≠ -1 → i = j
  low : ∀ i (hi : i < fs.length), -1 ≤ fs[i].key
theorem fnd_none {key : Int} : ∀ {fs : List Fr} {j : Nat}, fnd key fs j = none → ∀ f ∈ fs, f.key ≠ key
  | [], _, _ => by simp
  | f :: r, j, h => by
    unfold fnd at h
    split at h
    · cases h
    · rename_i hk
      intro g hg
      rcases List.mem_cons.1 hg with rfl | hg
      · exact hk
      · exact fnd_none h g hg
theorem fR_iff {fs : List Fr} (hu : UK fs) {key : Int} (hk : 0 ≤ key) {j : Nat} : fR key fs = some j ↔ ∃ h : j < fs.length, fs[j].key = key := by
  constructor
  · intro h
    exact ⟨fR_lt h, fR_key h (fR_lt h)⟩
  · rintro ⟨hj, hkey⟩
    cases hf : fR key fs with
    | none =>
      unfold fR at hf
      rw [if_neg (by omega)] at hf
      exact absurd hkey (fnd_none hf _ (List.getElem_mem hj))
    | some i =>
      have hi := fR_lt hf
      have := fR_key hf hi
      rw [hu.uniq i j hi hj (by rw [this, hkey]) (by omega)]
theorem fR_none {fs : List Fr} {key : Int} (hk : 0 ≤ key) : fR key fs = none ↔ ∀ j (h : j < fs.length), fs[j].key ≠ key := by
  constructor
  · intro h j hj
    unfold fR at h
    rw [if_neg (by omega)] at h
    exact fnd_none h _ (List.getElem_mem hj)
  · intro h
    cases hf : fR key fs with
    | none => rfl
    | some i => exact absurd (fR_key hf (fR_lt hf)) (h i (fR_lt hf))
theorem fR_ext {fs gs : List Fr} (hu : UK fs) (hv : UK gs) {key : Int} (hk : 0 ≤ key) (h : ∀ j, (∃ hj : j < fs.length, fs[j].key = key) ↔ ∃ hj : j < gs.length, gs[j].key = key) : fR key fs = fR key gs := by
  cases hf : fR key fs with
  | some j => exact ((fR_iff hv hk).2 ((h j).1 ((fR_iff hu hk).1 hf))).symm
  | none =>
    symm
    rw [fR_none hk]
    intro j hj hkey
    obtain ⟨hj', hkey'⟩ := (h j).2 ⟨hj, hkey⟩
    exact (fR_none hk).1 hf j hj' hkey'
/-- Setting a frame that keeps its key. -/
theorem UK_set {fs : List Fr} (hu : UK fs) {j : Nat} (hj : j < fs.length) {f : Fr} (hf : f.key = fs[j].key) : UK (fs.set j f) ∧ ∀ key, 0 ≤ key → fR key (fs.set j f) = fR key fs := by
  have hkey : ∀ i (hi : i < (fs.set j f).length), (fs.set j f)[i].key = (fs[i]'(by simpa using hi)).key := by
    intro i hi
    rw [List.getElem_set]
    split
    · rename_i h; subst h; exact hf
    · rfl
  have hu' : UK (fs.set j f) := ⟨fun i k hi hk h h' => by
    rw [hkey i hi, hkey k hk] at h
    rw [hkey i hi] at h'
    exact hu.uniq i k _ _ h h', fun i hi => by rw [hkey i hi]; exact hu.low i _⟩
  refine ⟨hu', fun key hk => fR_ext hu' hu hk fun i => ?_⟩
  constructor
  · rintro ⟨hi, h⟩
    rw [hkey i hi] at h
    exact ⟨by simpa using hi, h⟩
  · rintro ⟨hi, h⟩
    exact ⟨by simpa using hi, by rw [hkey i (by simpa using hi)]; exact h⟩
/-- A frame takes a key that no other one has. -/
theorem UK_put {fs : List Fr} (hu : UK fs) {j : Nat} (hj : j < fs.length) {f : Fr} (h0 : 0 ≤ f.key) (hn : ∀ i (hi : i < fs.length), fs[i].key = f.key → i = j) :
    UK (fs.set j f) ∧ ∀ key, 0 ≤ key → fR key (fs.set j f) = if key = f.key then some j else if fs[j].key = key then none else fR key fs := by
  have hget : ∀ i (hi : i < (fs.set j f).length), (fs.set j f)[i] = if j = i then f else fs[i]'(by simpa using hi) := fun i hi => List.getElem_set hi
  have hu' : UK (fs.set j f) := ⟨fun i k hi hk h h' => by
    rw [hget i hi, hget k hk] at h
    rw [hget i hi] at h'
    by_cases h1 : j = i
    · rw [if_pos h1] at h h'
      by_cases h2 : j = k
      · omega
      · rw [if_neg h2] at h
        have := hn k (by simpa using hk) h.symm
        omega
    · rw [if_neg h1] at h h'
      by_cases h2 : j = k
      · rw [if_pos h2] at h
        have := hn i (by simpa using hi) h
        omega
      · rw [if_neg h2] at h
        exact hu.uniq i k _ _ h h', fun i hi => by
    rw [hget i hi]
    split
    · omega
    · exact hu.low i _⟩
  refine ⟨hu', fun key hk => ?_⟩
  by_cases h1 : key = f.key
  · rw [if_pos h1, fR_iff hu' hk]
    exact ⟨by simpa using hj, by simp [h1]⟩
  · rw [if_neg h1]
    by_cases h2 : fs[j].key = key
    · rw [if_pos h2, fR_none hk]
      intro i hi
      rw [hget i hi]
      split
      · exact fun h => h1 h.symm
      · rename_i h3
        exact fun h => h3 (hu.uniq j i hj (by simpa using hi) (by rw [h2, h]) (by omega))
    · rw [if_neg h2]
      refine fR_ext hu' hu hk fun i => ?_
      constructor
      · rintro ⟨hi, h⟩
        rw [hget i hi] at h
        split at h
        · exact absurd h.symm h1
        · exact ⟨by simpa using hi, h⟩
      · rintro ⟨hi, h⟩
        refine ⟨by simpa using hi, ?_⟩
        rw [hget i (by simpa using hi)]
        split
        · rename_i h3; subst h3; exact absurd h h2
        · exact h
theorem ofR_eq {s : FS} {a : Int} (h0 : 0 ≤ a) (h1 : a < 64) : ofR s a = fR a s.fs := by
  unfold ofR
  rw [if_neg (by omega), if_pos h1]
theorem pgR_eq {s : FS} {a : Int} (h0 : 0 ≤ a) (h1 : a < 64) : pgR s a = (fR a s.fs).bind (s.ps[·]?) := by
  unfold pgR
  rw [ofR_eq h0 h1]
/-- A frame that holds a dirty page. -/
theorem dirty_key {s : FS} (hs : OkS s) (hu : UK s.fs) {fr key : Int} (hk : keyR s.fs fr = some key) (h0 : 0 ≤ key) (h1 : key < 64) : ∃ p, pgR s key = some p ∧ (dirtyB s fr = true ↔ p.base ≠ p.now) := by
  obtain ⟨j, hj, rfl, hjk, hne⟩ := keyR_some hk
  have hp : j < s.ps.length := by rw [hs.hp]; exact hj
  have hf : fR key s.fs = some j := (fR_iff hu h0).2 ⟨hj, hjk⟩
  refine ⟨s.ps[j], by rw [pgR_eq h0 h1, hf]; simp [hp], ?_⟩
  unfold dirtyB
  simp [hk, hp, h0, h1]
theorem keyR_iff {fs : List Fr} {j : Nat} (hj : j < fs.length) {key : Int} (hne : key ≠ -1) : keyR fs j = some key ↔ fs[j].key = key := by
  unfold keyR
  rw [if_neg (by omega)]
  simp only [Int.toNat_natCast, List.getElem?_eq_getElem hj]
  split
  · rename_i h
    constructor
    · intro h'; cases h'
    · intro h'; omega
  · simp
theorem keyR_none {fs : List Fr} {j : Nat} (hj : j < fs.length) : keyR fs j = none ↔ fs[j].key = -1 := by
  unfold keyR
  rw [if_neg (by omega)]
  simp only [Int.toNat_natCast, List.getElem?_eq_getElem hj]
  split
  · rename_i h; simp [h]
  · rename_i h; simp [h]
/-- What holding a page comes to. -/
theorem hold_look {s s' : FS} (hs : OkS s) (hu : UK s.fs) {fr a : Int} {p : Ar 32} (h : holdR s fr a p = some s') : OkS s' ∧ UK s'.fs ∧ s'.fs.length = s.fs.length ∧ 0 ≤ a ∧ a < 64 ∧ dirtyB s fr = false ∧
    (∀ b, 0 ≤ b → b < 64 → pgR s' b = if b = a then some ⟨p, p⟩ else if keyR s.fs fr = some b then none else pgR s b) ∧
    (∀ j (hj : j < s'.fs.length), s'.fs[j].key = a ∨ ∃ hj' : j < s.fs.length, s'.fs[j].key = s.fs[j].key) := by
  unfold holdR at h
  split at h
  · cases h
  · rename_i hc
    have hd : dirtyB s fr = false := by
      cases hd : dirtyB s fr with
      | true => exact absurd (Or.inr (Or.inr (Or.inl hd))) hc
      | false => rfl
    have ha : 0 ≤ a ∧ a < 64 ∧ 0 ≤ fr := ⟨by omega, by omega, by omega⟩
    obtain ⟨j, rfl⟩ : ∃ j : Nat, fr = j := ⟨fr.toNat, by omega⟩
    simp only [Int.toNat_natCast, Option.map_eq_some_iff] at h
    obtain ⟨fs, hf, rfl⟩ := h
    unfold putF at hf
    split at hf
    · rename_i f hfj
      obtain ⟨hj, rfl⟩ := List.getElem?_eq_some_iff.1 hfj
      split at hf
      · rename_i hp
        obtain rfl := Option.some.inj hf
        have hn : ∀ i (hi : i < s.fs.length), s.fs[i].key = a → i = j := fun i hi hk => by
          have := (fR_iff hu ha.1).2 ⟨hi, hk⟩
          rcases hp.1 with h | h
          · rw [h] at this; cases this
          · rw [h] at this; exact (Option.some.inj this).symm
        obtain ⟨hu', hfr⟩ := UK_put hu hj (f := ⟨a, true, s.fs[j].pins⟩) ha.1 hn
        have hpl : j < s.ps.length := by rw [hs.hp]; exact hj
        refine ⟨⟨by simp [hs.hp], by simp [hs.hh], by simp [hs.hl]⟩, hu', by simp, ha.1, ha.2.1, hd, fun b h0 h1 => ?_, fun i hi => ?_⟩
        · rw [pgR_eq h0 h1, pgR_eq h0 h1]
          simp only
          rw [hfr b h0]
          by_cases hb : b = a
          · simp [hb, hpl]
          · simp only [hb, if_false]
            by_cases hk : s.fs[j].key = b
            · have : keyR s.fs j = some b := (keyR_iff hj (by omega)).2 hk
              simp [hk, this]
            · have : keyR s.fs j ≠ some b := fun h => hk ((keyR_iff hj (by omega)).1 h)
              simp only [hk, if_false, this]
              cases hfb : fR b s.fs with
              | none => rfl
              | some i =>
                have hij : i ≠ j := fun h => hk (by subst h; exact fR_key hfb hj)
                simp only [Option.bind_some]
                rw [List.getElem?_set_ne (by omega)]
        · simp only [List.length_set] at hi
          by_cases hij : j = i
          · left; subst hij; simp
          · right
            refine ⟨by simpa using hi, ?_⟩
            simp [List.getElem_set, hij]
      · cases hf
    · cases hf
/-- What cleaning comes to. -/
theorem clean_look {s : FS} (hs : OkS s) (hu : UK s.fs) {a : Int} (h0 : 0 ≤ a) (h1 : a < 64) : OkS (cleanS s a) ∧ (cleanS s a).fs = s.fs ∧
    ∀ b, 0 ≤ b → b < 64 → pgR (cleanS s a) b = if b = a then (pgR s a).map (fun p => ⟨p.now, p.now⟩) else pgR s b := by
  unfold cleanS
  rw [ofR_eq h0 h1]
  cases hf : fR a s.fs with
  | none =>
    refine ⟨hs, rfl, fun b h0' h1' => ?_⟩
    show pgR s b = _
    by_cases h : b = a
    · subst h; simp [pgR_eq h0 h1, hf]
    · simp [h]
  | some j =>
    have hj := fR_lt hf
    have hp : j < s.ps.length := by rw [hs.hp]; exact hj
    simp only [List.getElem?_eq_getElem hp]
    refine ⟨⟨by simp [hs.hp], hs.hh, hs.hl⟩, by trivial, fun b h0' h1' => ?_⟩
    rw [pgR_eq h0' h1', pgR_eq h0' h1', pgR_eq h0 h1]
    by_cases hb : b = a
    · subst hb
      simp [hf, hp]
    · simp only [hb, if_false]
      cases hfb : fR b s.fs with
      | none => rfl
      | some i =>
        have hij : i ≠ j := fun h => by
          subst h
          have := fR_key hf hj
          have := fR_key hfb hj
          omega
        simp only [Option.bind_some]
        rw [List.getElem?_set_ne (by omega)]
/-- What writing comes to. -/
theorem write_none {s : FS} {a off : Int} {ds : List Int} (hs : OkS s) (h0 : 0 ≤ a) (h1 : a < 64) (h : pgR s a = none) : writeR s a off ds = (17, s) := by
  rw [pgR_eq h0 h1] at h
  unfold writeR
  rw [ofR_eq h0 h1]
  cases hf : fR a s.fs with
  | none => rfl
  | some j =>
    have hp : j < s.ps.length := by rw [hs.hp]; exact fR_lt hf
    rw [hf] at h
    simp [hp] at h
theorem write_bad {s : FS} {a off : Int} {ds : List Int} (hs : OkS s) (h0 : 0 ≤ a) (h1 : a < 64) {p : Pg} (h : pgR s a = some p) (hq : applyA p.now off ds = none) : writeR s a off ds = (18, s) := by
  rw [pgR_eq h0 h1] at h
  unfold writeR
  rw [ofR_eq h0 h1]
  cases hf : fR a s.fs with
  | none => rw [hf] at h; cases h
  | some j =>
    have hj := fR_lt hf
    have hp : j < s.ps.length := by rw [hs.hp]; exact hj
    rw [hf] at h
    simp only [Option.bind_some, List.getElem?_eq_getElem hp, Option.some.injEq] at h
    simp only [List.getElem?_eq_getElem hp, List.getElem?_eq_getElem hj, h, hq]
theorem write_look {s : FS} {a off : Int} {ds : List Int} (hs : OkS s) (hu : UK s.fs) (h0 : 0 ≤ a) (h1 : a < 64) {p : Pg} {q : Ar 32} (h : pgR s a = some p) (hq : applyA p.now off ds = some q) :
    ∃ s', writeR s a off ds = (0, s') ∧ OkS s' ∧ UK s'.fs ∧ s'.fs.length = s.fs.length ∧ (∀ j (hj : j < s'.fs.length), ∃ hj' : j < s.fs.length, s'.fs[j].key = s.fs[j].key) ∧
      ∀ b, 0 ≤ b → b < 64 → pgR s' b = if b = a then some ⟨p.base, q⟩ else pgR s b := by
  rw [pgR_eq h0 h1] at h
  unfold writeR
  rw [ofR_eq h0 h1]
  cases hf : fR a s.fs with
  | none => rw [hf] at h; cases h
  | some j =>
    have hj := fR_lt hf
    have hp : j < s.ps.length := by rw [hs.hp]; exact hj
    rw [hf] at h
    simp only [Option.bind_some, List.getElem?_eq_getElem hp, Option.some.injEq] at h
    simp only [List.getElem?_eq_getElem hp, List.getElem?_eq_getElem hj, h, hq]
    obtain ⟨hu', hfr⟩ := UK_set hu hj (f := ⟨s.fs[j].key, true, s.fs[j].pins⟩) rfl
    refine ⟨_, rfl, ⟨by simp [hs.hp], by simp [hs.hh], by simp [hs.hl]⟩, hu', by simp, fun i hi => ⟨by simpa using hi, ?_⟩, fun b h0' h1' => ?_⟩
    · simp only [List.getElem_set]
      split
      · rename_i h; subst h; rfl
      · rfl
    · rw [pgR_eq h0' h1', pgR_eq h0' h1']
      simp only
      rw [hfr b h0']
      by_cases hb : b = a
      · subst hb
        simp [hf, hp]
      · simp only [hb, if_false]
        cases hfb : fR b s.fs with
        | none => rfl
        | some i =>
          have hij : i ≠ j := fun h => by
            subst h
            have := fR_key hf hj
            have := fR_key hfb hj
            omega
          simp only [Option.bind_some]
          rw [List.getElem?_set_ne (by omega)]
end Go.Proofs.YtlnbbgagccgnjaaDoor
/-
  The dirty ones, in order: those pages of 0 to 63 that are held and differ.
-/
namespace Go.Proofs.YtlnbbgagccgnjaaDoor
open Go Go.X
theorem eq_of_lt : ∀ {l m : List Int}, l.Pairwise (· < ·) → m.Pairwise (· < ·) → (∀ x, x ∈ l ↔ x ∈ m) → l = m
  | [], [], _, _, _ => rfl
  | [], b :: m, _, _, h => by simpa using (h b)
  | a :: l, [], _, _, h => by simpa using (h a)
  | a :: l, b :: m, hl, hm, h => by
    rw [List.pairwise_cons] at hl hm
    have hab : a = b := by
      have h1 := (h a).1 (by simp)
      have h2 := (h b).2 (by simp)
      rcases List.mem_cons.1 h1 with h1 | h1
      · exact h1
      · rcases List.mem_cons.1 h2 with h2 | h2
        · exact h2.symm
        · have := hl.1 b h2
          have := hm.1 a h1
          omega
    subst hab
    rw [eq_of_lt hl.2 hm.2 fun x => ⟨fun hx => ?_, fun hx => ?_⟩]
    · rcases List.mem_cons.1 ((h x).1 (List.mem_cons_of_mem _ hx)) with h1 | h1
      · have := hl.1 x hx; omega
      · exact h1
    · rcases List.mem_cons.1 ((h x).2 (List.mem_cons_of_mem _ hx)) with h1 | h1
      · have := hm.1 x hx; omega
      · exact h1
theorem mem_dFrom (s : FS) : ∀ (d j : Nat) (x : Int), x ∈ dFrom s d j ↔ ∃ i : Nat, j ≤ i ∧ i < j + d ∧ dirtyB s i = true ∧ (keyR s.fs i).getD 0 = x
  | 0, j, x => by
    simp only [dFrom, List.not_mem_nil, false_iff]
    rintro ⟨i, h1, h2, _⟩
    omega
  | d + 1, j, x => by
    unfold dFrom
    rw [List.mem_append, mem_dFrom s d (j + 1)]
    constructor
    · rintro (h | ⟨i, h1, h2, h3⟩)
      · split at h
        · rename_i hd
          exact ⟨j, Nat.le_refl _, by omega, hd, (List.mem_singleton.1 h).symm⟩
        · cases h
      · exact ⟨i, by omega, by omega, h3⟩
    · rintro ⟨i, h1, h2, h3, h4⟩
      by_cases hi : i = j
      · subst hi
        left
        rw [if_pos h3]
        simp [h4]
      · exact .inr ⟨i, by omega, by omega, h3, h4⟩
open Classical in
/-- Is a page held, and other than it was? -/
noncomputable def dk (s : FS) (x : Int) : Bool := match pgR s x with
  | some p => !decide (p.base = p.now)
  | none => false
theorem dirty_mem {s : FS} (hs : OkS s) (hu : UK s.fs) {i : Nat} (h : dirtyB s i = true) : ∃ hi : i < s.fs.length, ∃ x : Int, 0 ≤ x ∧ x < 64 ∧ s.fs[i].key = x ∧ (keyR s.fs i).getD 0 = x ∧ dk s x = true := by
  have h' := h
  unfold dirtyB at h
  cases hk : keyR s.fs i with
  | none => rw [hk] at h; simp at h
  | some key =>
    rw [hk] at h
    simp only [Bool.and_eq_true, decide_eq_true_eq] at h
    obtain ⟨j, hj, hij, hjk, hne⟩ := keyR_some hk
    obtain rfl : i = j := by omega
    obtain ⟨p, hp, hd⟩ := dirty_key hs hu hk h.1.1 h.1.2
    refine ⟨hj, key, h.1.1, h.1.2, hjk, rfl, ?_⟩
    unfold dk
    rw [hp]
    simpa using hd.1 h'
theorem dFrom_nodup {s : FS} (hs : OkS s) (hu : UK s.fs) : ∀ (d j : Nat), (dFrom s d j).Pairwise (· ≠ ·)
  | 0, j => by simp [dFrom]
  | d + 1, j => by
    unfold dFrom
    rw [List.pairwise_append]
    refine ⟨by split <;> simp, dFrom_nodup hs hu d (j + 1), fun x hx y hy => ?_⟩
    split at hx
    · rename_i hd
      obtain rfl := List.mem_singleton.1 hx
      obtain ⟨i, h1, h2, h3, h4⟩ := (mem_dFrom s d (j + 1) y).1 hy
      obtain ⟨hi, a, ha0, _, hak, hag, _⟩ := dirty_mem hs hu hd
      obtain ⟨hi', b, hb0, _, hbk, hbg, _⟩ := dirty_mem hs hu h3
      rw [hag, ← h4, hbg]
      intro hab
      have := hu.uniq j i hi hi' (by rw [hak, hbk, hab]) (by omega)
      omega
    · cases hx
theorem sortZ_lt {l : List Int} (h : l.Pairwise (· ≠ ·)) : (sortZ l).Pairwise (· < ·) := by
  have h1 : (sortZ l).Pairwise (fun a b => decide (a ≤ b) = true) := List.pairwise_mergeSort (le := fun x y => decide (x ≤ y)) (fun a b c h1 h2 => by simp only [decide_eq_true_eq] at *; omega) (fun a b => by simp only [Bool.or_eq_true, decide_eq_true_eq]; omega) l
  have h2 : (sortZ l).Pairwise (· ≠ ·) := (List.Perm.pairwise_iff (fun {a b} (h : a ≠ b) => h.symm) (List.mergeSort_perm l _)).2 h
  exact (List.Pairwise.and h1 h2).imp fun {a b} hab => by
    have := of_decide_eq_true hab.1
    have := hab.2
    omega
theorem mem_sortZ {l : List Int} {x : Int} : x ∈ sortZ l ↔ x ∈ l := List.mem_mergeSort
def nums (n : Nat) : List Int := (List.range n).map fun (i : Nat) => (i : Int)
theorem mem_nums {n : Nat} {x : Int} : x ∈ nums n ↔ 0 ≤ x ∧ x < n := by
  simp only [nums, List.mem_map, List.mem_range]
  constructor
  · rintro ⟨i, hi, rfl⟩; omega
  · rintro ⟨h1, h2⟩; exact ⟨x.toNat, by omega, by omega⟩
theorem nums_lt (n : Nat) : (nums n).Pairwise (· < ·) := by
  unfold nums
  rw [List.pairwise_map]
  exact List.pairwise_lt_range.imp fun h => by omega
theorem dirties_eq {s : FS} (hs : OkS s) (hu : UK s.fs) : sortZ (dirties s) = (nums 64).filter (dk s) := by
  refine eq_of_lt (sortZ_lt (dFrom_nodup hs hu _ _)) ((nums_lt 64).filter _) fun x => ?_
  rw [mem_sortZ, List.mem_filter, mem_nums]
  unfold dirties
  rw [mem_dFrom]
  constructor
  · rintro ⟨i, _, h2, h3, h4⟩
    obtain ⟨hi, a, ha0, ha1, _, hag, hdk⟩ := dirty_mem hs hu h3
    obtain rfl : a = x := hag.symm.trans h4
    exact ⟨⟨ha0, ha1⟩, hdk⟩
  · rintro ⟨⟨h0, h1⟩, h2⟩
    have h1 : x < 64 := h1
    unfold dk at h2
    cases hp : pgR s x with
    | none => rw [hp] at h2; cases h2
    | some p =>
      rw [pgR_eq h0 h1] at hp
      cases hf : fR x s.fs with
      | none => rw [hf] at hp; cases hp
      | some j =>
        have hj := fR_lt hf
        have hk := (keyR_iff hj (show x ≠ -1 by omega)).2 (fR_key hf hj)
        obtain ⟨p', hp', hd⟩ := dirty_key hs hu hk h0 h1
        rw [pgR_eq h0 h1, hp] at hp'
        obtain rfl := Option.some.inj hp'
        refine ⟨j, Nat.zero_le _, by omega, hd.2 ?_, by rw [hk]; rfl⟩
        rw [pgR_eq h0 h1, hp] at h2
        simpa using h2
end Go.Proofs.YtlnbbgagccgnjaaDoor
/-
  FramesKeep: the rounds that look.
-/
namespace Go.Proofs.YtlnbbgagccgnjaaDoor
open Go Go.X
variable {F : Nat}
structure Inv (s : FS) (B C : List (Ar 32)) (D : List Bool) : Prop where
  ok : OkS s
  uk : UK s.fs
  n4 : s.fs.length = 4
  bl : B.length = 8
  cl : C.length = 8
  dl : D.length = 8
  key : ∀ j (hj : j < s.fs.length), s.fs[j].key < 8
  look : ∀ k (h1 : k < B.length) (h2 : k < C.length) (h3 : k < D.length), (pgR s (k : Int)).isSome = D[k] ∧ ∀ p, pgR s (k : Int) = some p → p.base = B[k] ∧ p.now = C[k]
theorem okD {D : List Bool} {k : Nat} (h : k < D.length) (hl : D.length = 8) : okAt (.arr 1 (row AV.bool D)) [k] k 8 false 1 = true := okAt_row h (by rw [hl]) (by simp [coffOf]) rfl rfl rfl
theorem opD {D : List Bool} {k : Nat} (h : k < D.length) (hl : D.length = 8) : okPl (.arr 1 (row AV.bool D)) [k] k 8 1 = true := okPl_row h (by rw [hl]) (by simp [coffOf]) rfl rfl
theorem prD {D : List Bool} {k : Nat} (h : k < D.length) : projT [k] (.arr 1 (row AV.bool D)) = .bool D[k] := projT_row h
theorem okB {B : List (Ar 32)} {k : Nat} (h : k < B.length) (hl : B.length = 8) : okAt (.arr 32 (row (encA .u8) B)) [k] (k * 32) 256 true 32 = true := okAt_row h (by rw [hl]) (by rw [Nat.mul_comm]; rfl) rfl flatLen_encA isAgg_encA
theorem opB {B : List (Ar 32)} {k : Nat} (h : k < B.length) (hl : B.length = 8) : okPl (.arr 32 (row (encA .u8) B)) [k] (k * 32) 256 32 = true := okPl_row h (by rw [hl]) (by rw [Nat.mul_comm]; rfl) rfl flatLen_encA
theorem prB {B : List (Ar 32)} {k : Nat} (h : k < B.length) : projT [k] (.arr 32 (row (encA .u8) B)) = encA .u8 B[k] := projT_row h
theorem okZ {d : List Int} {k : Nat} (h : k < d.length) : okAt (.arr 1 (row encZ d)) [k] k d.length false 1 = true := okAt_row h (by simp) (by simp [coffOf]) rfl rfl rfl
theorem prZ {d : List Int} {k : Nat} (h : k < d.length) : projT [k] (.arr 1 (row encZ d)) = .int .i64 d[k] := projT_row h
noncomputable def dN (s : FS) (n : Nat) : List Int := (nums n).filter (dk s)
theorem dN_succ (s : FS) (n : Nat) : dN s (n + 1) = dN s n ++ if dk s n then [(n : Int)] else [] := by
  unfold dN nums
  rw [List.range_succ, List.map_append, List.filter_append]
  congr 1
  simp only [List.map_cons, List.map_nil, List.filter_cons, List.filter_nil]
theorem dN_more (s : FS) (n : Nat) : ∀ d, (∀ x : Nat, n ≤ x → x < n + d → dk s x = false) → dN s (n + d) = dN s n
  | 0, _ => rfl
  | d + 1, h => by
    rw [show n + (d + 1) = (n + d) + 1 by omega, dN_succ, h (n + d) (by omega) (by omega), dN_more s n d fun x h1 h2 => h x h1 (by omega)]
    simp
theorem dN_pre (s : FS) (n : Nat) : ∀ d, ∃ r, dN s (n + d) = dN s n ++ r
  | 0 => ⟨[], by simp⟩
  | d + 1 => by
    obtain ⟨r, hr⟩ := dN_pre s n d
    exact ⟨r ++ if dk s (n + d : Nat) then [((n + d : Nat) : Int)] else [], by rw [show n + (d + 1) = (n + d) + 1 by omega, dN_succ, hr, List.append_assoc]⟩
theorem dN_at {s : FS} {n m : Nat} (h : dk s n = true) (hm : n < m) : ∃ hl : (dN s n).length < (dN s m).length, (dN s m)[(dN s n).length] = n := by
  obtain ⟨r, hr⟩ := dN_pre s (n + 1) (m - (n + 1))
  rw [show n + 1 + (m - (n + 1)) = m by omega, dN_succ, if_pos h, List.append_assoc] at hr
  refine ⟨by rw [hr]; simp, ?_⟩
  simp only [hr]
  rw [List.getElem_append_right (Nat.le_refl _)]
  simp
theorem Inv.none8 {s : FS} {B C : List (Ar 32)} {D : List Bool} (h : Inv s B C D) {x : Int} (h8 : 8 ≤ x) (h64 : x < 64) : pgR s x = none := by
  rw [pgR_eq (by omega) h64]
  cases hf : fR x s.fs with
  | none => rfl
  | some j =>
    have hj := fR_lt hf
    have := h.key j hj
    have := fR_key hf hj
    omega
theorem Inv.dirt {s : FS} {B C : List (Ar 32)} {D : List Bool} (h : Inv s B C D) : sortZ (dirties s) = dN s 8 := by
  rw [dirties_eq h.ok h.uk]
  exact dN_more s 8 56 fun x h1 h2 => by
    unfold dk
    rw [h.none8 (by omega) (by omega)]
open Classical in
theorem Inv.dkE {s : FS} {B C : List (Ar 32)} {D : List Bool} (h : Inv s B C D) {k : Nat} (h1 : k < B.length) (h2 : k < C.length) (h3 : k < D.length) : dk s k = (D[k] && !decide (B[k] = C[k])) := by
  obtain ⟨a, b⟩ := h.look k h1 h2 h3
  unfold dk
  cases hp : pgR s k with
  | none => rw [hp] at a; rw [← a]; rfl
  | some p =>
    rw [hp] at a
    obtain ⟨b1, b2⟩ := b p hp
    rw [← a, ← b1, ← b2]
    rfl
abbrev LMr (s : FS) (B C : List (Ar 32)) (D : List Bool) : Heap := LM s (row (encA .u8) B) (row (encA .u8) C) (row AV.bool D)
theorem wrapN {i : Nat} (h : i < 2 ^ 62) : IntKind.wrap IntKind.i64 ((i : Int) + 1) = ((i + 1 : Nat) : Int) := wrapS h
theorem loopC (N fuel n : Nat) (l : List Stp) (i : Int) (s : FS) (B C : List (Ar 32)) (D : List Bool) (k : AV → Heap → Bool → Prop) (h : Inv s B C D)
    (hk : resPS (S F) (T4 F) N 9 fuel 3 1 0 [] pO n ⟨LT (row encSt l) (IntKind.wrap IntKind.i64 (i + 1)), [], LMr s B C D, false⟩ k) : ∀ (e kk m : Nat), kk + e = 8 → e < m →
    resPS (S F) (T4 F) N 9 fuel 3 1 0 [(p2, m)] pO n ⟨LJ (row encSt l) i (.sl ⟨9, 0, [], (dN s 8).length⟩ 1 (dN s 8).length 0 (dN s 8).length) ((dN s kk).length : Nat) kk, [], LD s (row (encA .u8) B) (row (encA .u8) C) (row AV.bool D) (row encZ (dN s 8)), false⟩ k
  | e, kk, 0, _, hm => by omega
  | 0, kk, m + 1, he, _ => by
    obtain rfl : kk = 8 := by omega
    rw [stepC]
    simpa using hk
  | e + 1, kk, m + 1, he, hm => by
    have ih := loopC N fuel n l i s B C D k h hk e (kk + 1) m (by omega) (by omega)
    have h1 : kk < B.length := by rw [h.bl]; omega
    have h2 : kk < C.length := by rw [h.cl]; omega
    have h3 : kk < D.length := by rw [h.dl]; omega
    have e1 : ((kk : Int) < 8) := by omega
    have e2 : kk < 8 := by omega
    have hd := h.dkE h1 h2 h3
    have hw : IntKind.wrap IntKind.i64 ((kk : Int) + 1) = ((kk + 1 : Nat) : Int) := wrapN (by omega)
    rw [dN_succ s kk] at ih
    rw [stepC]
    simp only [e1, e2, Int.natCast_nonneg, Int.toNat_natCast, decide_true, cond_true, Nat.zero_add, Nat.mul_one, okD h3 h.dl, prD h3, AV.isBoolV, AV.toBool, okB h1 h.bl, prB h1, okB h2 h.cl, prB h2, isArrI_encA, arI_encA, eqPg, Option.isSome_some, Option.getD_some, hw]
    cases hD : D[kk] with
    | false =>
      rw [hd, hD] at ih
      simpa using ih
    | true =>
      by_cases hB : B[kk] = C[kk]
      · rw [hd, hD] at ih
        simp only [hB, decide_true, Bool.not_true, Bool.and_false, Bool.false_eq_true, if_false, List.append_nil] at ih
        simpa [hB] using ih
      · have hdk : YtlnbbgagccgnjaaDoor.dk s kk = true := by rw [hd, hD]; simp [hB]
        obtain ⟨hl, ha⟩ := dN_at (m := 8) hdk e2
        rw [hdk, if_pos rfl] at ih
        have e3 : ¬ (((dN s kk).length : Int) ≥ ((dN s 8).length : Int)) := by omega
        have hbig : (dN s kk).length ≤ 8 := by
          unfold dN
          refine Nat.le_trans (List.length_filter_le _ _) ?_
          simp [nums]; omega
        have hw2 : IntKind.wrap IntKind.i64 (((dN s kk).length : Int) + 1) = (((dN s kk).length + 1 : Nat) : Int) := wrapN (by omega)
        simp only [hB, decide_false, Bool.not_false, cond_true, e3, cond_false, hl, decide_true, okZ hl, prZ hl, AV.isIntK, AV.toInt, ha, beq_self_eq_true, Bool.not_true, hw2]
        simpa using ih
theorem loopD (N fuel n : Nat) (l : List Stp) (i : Int) (s : FS) (B C : List (Ar 32)) (D : List Bool) (k : AV → Heap → Bool → Prop) (h : Inv s B C D) (hn : dN s 8 = [])
    (hk : resPS (S F) (T4 F) N 9 fuel 3 1 0 [] pO n ⟨LT (row encSt l) (IntKind.wrap IntKind.i64 (i + 1)), [], LMr s B C D, false⟩ k) : ∀ (e kk m : Nat), kk + e = 8 → e < m →
    resPS (S F) (T4 F) N 9 fuel 3 1 0 [(p2, m)] pO n ⟨LJ (row encSt l) i .nils 0 kk, [], LMr s B C D, false⟩ k
  | e, kk, 0, _, hm => by omega
  | 0, kk, m + 1, he, _ => by
    obtain rfl : kk = 8 := by omega
    rw [stepD]
    simpa using hk
  | e + 1, kk, m + 1, he, hm => by
    have ih := loopD N fuel n l i s B C D k h hn hk e (kk + 1) m (by omega) (by omega)
    have h1 : kk < B.length := by rw [h.bl]; omega
    have h2 : kk < C.length := by rw [h.cl]; omega
    have h3 : kk < D.length := by rw [h.dl]; omega
    have e1 : ((kk : Int) < 8) := by omega
    have e2 : kk < 8 := by omega
    have hd := h.dkE h1 h2 h3
    have hw : IntKind.wrap IntKind.i64 ((kk : Int) + 1) = ((kk + 1 : Nat) : Int) := wrapN (by omega)
    have hf : YtlnbbgagccgnjaaDoor.dk s kk = false := by
      cases hc : YtlnbbgagccgnjaaDoor.dk s kk with
      | false => rfl
      | true =>
        obtain ⟨hl, _⟩ := dN_at (m := 8) hc e2
        rw [hn] at hl
        simp at hl
    rw [hf] at hd
    rw [stepD]
    simp only [e1, e2, Int.natCast_nonneg, Int.toNat_natCast, decide_true, cond_true, Nat.mul_one, Nat.zero_add, okD h3 h.dl, prD h3, AV.isBoolV, AV.toBool, okB h1 h.bl, prB h1, okB h2 h.cl, prB h2, isArrI_encA, arI_encA, eqPg, Option.isSome_some, Option.getD_some, hw]
    cases hD : D[kk] with
    | false => simpa using ih
    | true =>
      rw [hD] at hd
      have hB : B[kk] = C[kk] := by simpa using hd.symm
      simpa [hB] using ih
theorem loopBB (N fuel n : Nat) (l : List Stp) (i : Int) (s : FS) (B C : List (Ar 32)) (D : List Bool) (k : AV → Heap → Bool → Prop) (h : Inv s B C D) (hf : 8 < fuel)
    (hk : resPS (S F) (T4 F) N 9 fuel 3 1 0 [] pO n ⟨LT (row encSt l) (IntKind.wrap IntKind.i64 (i + 1)), [], LMr s B C D, false⟩ k) : ∀ (e kk m : Nat), kk + e = 8 → e < m →
    resPS (S F) (T4 F) N 9 fuel 3 1 0 [(p1, m)] pO n ⟨LI (row encSt l) i kk, [], LMr s B C D, false⟩ k
  | e, kk, 0, _, hm => by omega
  | 0, kk, m + 1, he, _ => by
    obtain rfl : kk = 8 := by omega
    rw [stepB]
    have e1 : ¬ (((8 : Nat) : Int) < 8) := by omega
    simp only [e1, decide_false, cond_false]
    refine ⟨s, by simp [F0], by simp, h.ok, fun hn => ?_, fun d hd hn => ?_⟩
    · rw [h.dirt] at hn
      exact loopD (F := F) N fuel n l i s B C D k h hn hk 8 0 fuel (by omega) hf
    · rw [h.dirt] at hd
      subst hd
      exact loopC (F := F) N fuel n l i s B C D k h hk 8 0 fuel (by omega) hf
  | e + 1, kk, m + 1, he, hm => by
    have ih := loopBB N fuel n l i s B C D k h hf hk e (kk + 1) m (by omega) (by omega)
    have h1 : kk < B.length := by rw [h.bl]; omega
    have h2 : kk < C.length := by rw [h.cl]; omega
    have h3 : kk < D.length := by rw [h.dl]; omega
    have e1 : ((kk : Int) < 8) := by omega
    have e2 : kk < 8 := by omega
    obtain ⟨a, b⟩ := h.look kk h1 h2 h3
    have hw : IntKind.wrap IntKind.i64 ((kk : Int) + 1) = ((kk + 1 : Nat) : Int) := wrapN (by omega)
    rw [stepB]
    simp only [e1, decide_true, cond_true]
    refine ⟨s, kk, rfl, rfl, h.ok, ?_⟩
    simp only [e2, Int.natCast_nonneg, Int.toNat_natCast, decide_true, cond_true, Nat.mul_one, Nat.zero_add, okD h3 h.dl, prD h3, AV.isBoolV, AV.toBool, okB h1 h.bl, prB h1, okB h2 h.cl, prB h2, isArrI_encA, arI_encA, arr_get, eqPg, Option.isSome_some, Option.getD_some, hw]
    cases hp : pgR s kk with
    | none =>
      rw [hp] at a
      rw [← a]
      simpa using ih
    | some p =>
      rw [hp] at a
      obtain ⟨b1, b2⟩ := b p hp
      rw [← a]
      simpa [b1, b2] using ih
end Go.Proofs.YtlnbbgagccgnjaaDoor
/-
  FramesKeep: a round.
-/
namespace Go.Proofs.YtlnbbgagccgnjaaDoor
open Go Go.X
variable {F : Nat}
theorem data_cond {d : Option (List Int)} {A : Prop} (h : A) : cond (AV.isNils (dataAV d)) A (cond (AV.isIslN (dataAV d) 1) A False) := by
  cases d <;> exact h
theorem emod_nat (a : Int) (m : Nat) (h : 0 < m) : ∃ j : Nat, a % m = j ∧ j < m := ⟨(a % m).toNat, by have := Int.emod_nonneg a (show (m : Int) ≠ 0 by omega); omega, by have := Int.emod_lt_of_pos a (show (0 : Int) < m by omega); have := Int.emod_nonneg a (show (m : Int) ≠ 0 by omega); omega⟩
theorem Inv.was {s : FS} {B C : List (Ar 32)} {D : List Bool} (h : Inv s B C D) {fr key : Int} (hk : keyR s.fs fr = some key) : ∃ w : Nat, key = w ∧ w < 8 := by
  obtain ⟨j, hj, rfl, rfl, hne⟩ := keyR_some hk
  have := h.key j hj
  have := h.uk.low j hj
  exact ⟨s.fs[j].key.toNat, by omega, by omega⟩
/-- The page that a frame had is held no longer. -/
def heldD (D : List Bool) : Option Int → List Bool
  | some w => D.set w.toNat false
  | none => D
theorem heldD_length (D : List Bool) (x : Option Int) : (heldD D x).length = D.length := by cases x <;> simp [heldD]
theorem heldD_get {D : List Bool} {x : Option Int} {k : Nat} (hx : ∀ w, x = some w → 0 ≤ w) (h : k < (heldD D x).length) : (heldD D x)[k] = if x = some (k : Int) then false else D[k]'(by rwa [heldD_length] at h) := by
  cases x with
  | none => simp [heldD]
  | some w =>
    have := hx w rfl
    simp only [heldD, List.getElem_set, Option.some.injEq]
    by_cases hw : w = k
    · subst hw; simp
    · have : ¬ (w.toNat = k) := by omega
      simp [hw, this]
theorem Inv.hold {s s' : FS} {B C : List (Ar 32)} {D : List Bool} (h : Inv s B C D) {fn pn : Nat} {p : Ar 32} (hp : pn < 8) (hh : holdR s fn pn p = some s') :
    Inv s' (B.set pn p) (C.set pn p) ((heldD D (keyR s.fs fn)).set pn true) := by
  obtain ⟨h1, h2, h3, _, _, _, h4, h5⟩ := hold_look h.ok h.uk hh
  have hx : ∀ w, keyR s.fs fn = some w → 0 ≤ w := fun w hw => by obtain ⟨w, rfl, _⟩ := h.was hw; omega
  refine ⟨h1, h2, by rw [h3, h.n4], by simp [h.bl], by simp [h.cl], by simp [heldD_length, h.dl], fun j hj => ?_, fun k k1 k2 k3 => ?_⟩
  · rcases h5 j hj with h | ⟨h6, h7⟩
    · omega
    · rw [h7]; exact h.key j h6
  · have hk8 : k < 8 := by simpa [h.bl] using k1
    have e := h4 k (by omega) (by omega)
    rw [e]
    by_cases hkp : k = pn
    · subst hkp
      simp
    · have hne : ¬ ((k : Int) = (pn : Int)) := by omega
      have hne' : ¬ (pn = k) := by omega
      obtain ⟨a, b⟩ := h.look k (by rw [h.bl]; omega) (by rw [h.cl]; omega) (by rw [h.dl]; omega)
      rw [if_neg hne]
      simp only [List.getElem_set, hne', if_false, heldD_get hx]
      by_cases hkey : keyR s.fs fn = some (k : Int)
      · simp [hkey]
      · simp only [hkey, if_false]
        exact ⟨a, b⟩
theorem lay_one (a : Ar 32) (v : Int) : a.lay 3 [v] = a.set 3 v := by
  refine Ar.ext fun i hi => ?_
  unfold Ar.lay
  rw [Ar.of_get hi, Ar.set_get _ _ hi]
  by_cases h : i = 3
  · subst h; simp
  · have : ¬ (3 ≤ i ∧ i < 3 + [v].length) := by simp; omega
    rw [if_neg this, if_neg h]
theorem apply_one (a : Ar 32) (v : Int) : applyA a 3 [v] = some (a.set 3 v) := by
  unfold applyA
  rw [if_neg (by simp)]
  rw [← lay_one]
  rfl
theorem Inv.write {s s' : FS} {B C : List (Ar 32)} {D : List Bool} (h : Inv s B C D) {pn : Nat} {v : Int} (hp : pn < 8) (hC : pn < C.length) {p : Pg} (hpg : pgR s pn = some p)
    (h1 : OkS s') (h2 : UK s'.fs) (h3 : s'.fs.length = s.fs.length) (h5 : ∀ j (hj : j < s'.fs.length), ∃ hj' : j < s.fs.length, s'.fs[j].key = s.fs[j].key)
    (h4 : ∀ b, 0 ≤ b → b < 64 → pgR s' b = if b = (pn : Int) then some ⟨p.base, p.now.set 3 v⟩ else pgR s b) : Inv s' B (C.set pn (C[pn].set 3 v)) D := by
  refine ⟨h1, h2, by rw [h3, h.n4], h.bl, by simp [h.cl], h.dl, fun j hj => ?_, fun k k1 k2 k3 => ?_⟩
  · obtain ⟨h6, h7⟩ := h5 j hj
    rw [h7]; exact h.key j h6
  · have hk8 : k < 8 := by simpa [h.bl] using k1
    obtain ⟨a, b⟩ := h.look k k1 (by rw [h.cl]; omega) k3
    rw [h4 k (by omega) (by omega)]
    by_cases hkp : k = pn
    · subst hkp
      rw [hpg] at a
      obtain ⟨b1, b2⟩ := b p hpg
      simp [← a, b1, b2]
    · have hne : ¬ ((k : Int) = (pn : Int)) := by omega
      have hne' : ¬ (pn = k) := by omega
      rw [if_neg hne]
      simp only [List.getElem_set, hne', if_false]
      exact ⟨a, b⟩
theorem Inv.clean {s : FS} {B C : List (Ar 32)} {D : List Bool} (h : Inv s B C D) {pn : Nat} (hp : pn < 8) (hC : pn < C.length) : Inv (cleanS s pn) (B.set pn C[pn]) C D := by
  obtain ⟨h1, h2, h4⟩ := clean_look h.ok h.uk (a := (pn : Int)) (by omega) (by omega)
  refine ⟨h1, by rw [h2]; exact h.uk, by rw [h2, h.n4], by simp [h.bl], h.cl, h.dl, fun j hj => ?_, fun k k1 k2 k3 => ?_⟩
  · simp only [h2] at hj ⊢
    exact h.key j hj
  · have hk8 : k < 8 := by simpa [h.bl] using k1
    obtain ⟨a, b⟩ := h.look k (by rw [h.bl]; omega) k2 k3
    rw [h4 k (by omega) (by omega)]
    by_cases hkp : k = pn
    · subst hkp
      simp only [if_true]
      cases hpg : pgR s k with
      | none => rw [hpg] at a; simp [← a]
      | some p =>
        rw [hpg] at a
        obtain ⟨b1, b2⟩ := b p hpg
        simp [← a, b2]
    · have hne : ¬ ((k : Int) = (pn : Int)) := by omega
      have hne' : ¬ (pn = k) := by omega
      rw [if_neg hne]
      simp only [List.getElem_set, hne', if_false]
      exact ⟨a, b⟩
theorem opB3 {B : List (Ar 32)} {k : Nat} (h : k < B.length) (hl : B.length = 8) : okPl (.arr 32 (row (encA .u8) B)) [k, 3] (k * 32 + 3) 256 1 = true := okPl_row h (by rw [hl]) (by rw [Nat.mul_comm]; rfl) rfl rfl
theorem Inv.holdClean {s s' : FS} {B C : List (Ar 32)} {D : List Bool} (h : Inv s B C D) {fn pn w : Nat} {p : Ar 32} (hk : keyR s.fs fn = some (w : Int)) (hw : w < 8) (hh : holdR s fn pn p = some s') (hB : w < B.length) (hC : w < C.length) : B[w] = C[w] := by
  obtain ⟨_, _, _, _, _, hd, _⟩ := hold_look h.ok h.uk hh
  obtain ⟨q, hq, hq'⟩ := dirty_key h.ok h.uk hk (by omega) (by omega)
  obtain ⟨_, b⟩ := h.look w hB hC (by rw [h.dl]; exact hw)
  obtain ⟨b1, b2⟩ := b q hq
  rw [← b1, ← b2]
  by_cases hc : q.base = q.now
  · exact hc
  · rw [hq'.2 hc] at hd; cases hd
theorem stepK0 (N fuel n ii : Nat) (l : List Stp) (s : FS) (B C : List (Ar 32)) (D : List Bool) (k : AV → Heap → Bool → Prop) (h : Inv s B C D) (hf : 8 < fuel) (hi : ii < l.length) (hb : l.length < 2 ^ 63)
    (hk : ∀ s' B' C' D', Inv s' B' C' D' → resPS (S F) (T4 F) N 9 fuel 3 1 0 [] pO n ⟨LT (row encSt l) (IntKind.wrap IntKind.i64 (ii + 1)), [], LMr s' B' C' D', false⟩ k) :
    resPS (S F) (T4 F) N 9 fuel 3 1 0 [] pO (n + 1) ⟨LT (row encSt l) ii, [], LMr s B C D, false⟩ k := by
  have hend : ∀ s' B' C' D', Inv s' B' C' D' → resPS (S F) (T4 F) N 9 fuel 3 1 0 [(p1, fuel)] pO n ⟨LI (row encSt l) ii 0, [], LMr s' B' C' D', false⟩ k :=
    fun s' B' C' D' hv => loopBB (F := F) N fuel n l ii s' B' C' D' k hv hf (hk s' B' C' D' hv) 8 0 fuel (by omega) hf
  have e1 : ((ii : Int) < (l.length : Int)) := by omega
  obtain ⟨pn, hpn, hp8⟩ := emod_nat l[ii].key 8 (by omega)
  obtain ⟨fn, hfn, hf4⟩ := emod_nat l[ii].frame 4 (by omega)
  have hpn' : l[ii].key % 8 = pn := hpn
  have hfn' : l[ii].frame % 4 = fn := hfn
  have hB : pn < B.length := by rw [h.bl]; exact hp8
  have hC : pn < C.length := by rw [h.cl]; exact hp8
  have hD : pn < D.length := by rw [h.dl]; exact hp8
  rw [stepA]
  simp only [row_length, e1, decide_true, cond_true, Int.natCast_nonneg, Int.toNat_natCast, row_get hi, Option.getD_some, encSt, AV.isAggN, AV.part, AV.isIntK, AV.toInt, List.length_cons, List.length_nil, List.getElem?_cons_succ, List.getElem?_cons_zero, beq_self_eq_true, Bool.and_self]
  refine data_cond ?_
  refine ⟨l[ii].key, 8, rfl, by simp, .inl rfl, l[ii].frame, 4, rfl, by simp, .inr rfl, ?_⟩
  rw [hpn', hfn']
  by_cases k0 : l[ii].kind = 0
  · simp only [k0, beq_self_eq_true, cond_true]
    refine ⟨s.fs, s.hand, fn, rfl, rfl, ?_⟩
    cases hkey : keyR s.fs fn with
    | none =>
      simp only [Option.isSome_none, cond_false]
      refine ⟨l[ii].v, rfl, by simp, s, fn, pn, leafA l[ii].v, rfl, rfl, h.ok, ?_⟩
      cases hh : holdR s fn pn (leafA l[ii].v) with
      | none => exact hend _ _ _ _ h
      | some s' =>
        have hv := h.hold hp8 hh
        rw [hkey] at hv
        have hr := hend _ _ _ _ hv
        simp only [heldD, Int.toNat_natCast] at hr
        simpa [hp8, opD hD h.dl, opB hB h.bl, opB hC h.cl, AV.beq, arr_get, row_set] using hr
    | some was =>
      obtain ⟨w, rfl, hw8⟩ := h.was hkey
      have hwB : w < B.length := by rw [h.bl]; exact hw8
      have hwC : w < C.length := by rw [h.cl]; exact hw8
      have hwD : w < D.length := by rw [h.dl]; exact hw8
      have g1 : ¬ ((w : Int) < 0) := by omega
      have g2 : ¬ ((w : Int) ≥ 8) := by omega
      simp only [Option.isSome_some, Option.getD_some, cond_true, g1, g2, decide_false, cond_false]
      refine ⟨l[ii].v, rfl, by simp, s, fn, pn, leafA l[ii].v, rfl, rfl, h.ok, ?_⟩
      simp only [Int.natCast_nonneg, Int.toNat_natCast, decide_true, cond_true, hw8, Nat.zero_add, okB hwB h.bl, prB hwB, okB hwC h.cl, prB hwC, isArrI_encA, arI_encA, eqPg, Option.isSome_some, Option.getD_some]
      cases hh : holdR s fn pn (leafA l[ii].v) with
      | none => by_cases hbc : B[w] = C[w] <;> simpa [hbc] using hend _ _ _ _ h
      | some s' =>
        have hbc := h.holdClean hkey hw8 hh hwB hwC
        have hv := h.hold hp8 hh
        rw [hkey] at hv
        have hr := hend _ _ _ _ hv
        simp only [heldD, Int.toNat_natCast] at hr
        have hD' : pn < (D.set w false).length := by simpa using hD
        simpa [hbc, hp8, opD hwD h.dl, opD hD' (by simp [h.dl]), opB hB h.bl, opB hC h.cl, AV.beq, arr_get, row_set] using hr
  have n0 : (l[ii].kind == 0) = false := by simpa using k0
  simp only [n0, cond_false]
  by_cases k2 : l[ii].kind = 2
  · simp only [k2, beq_self_eq_true, cond_true]
    refine ⟨s, pn, 3, [l[ii].v], rfl, rfl, h.ok, by simp, ?_⟩
    simp only [Int.natCast_nonneg, Int.toNat_natCast, decide_true, cond_true, hp8, Nat.zero_add, Nat.mul_one, okD hD h.dl, prD hD, AV.isBoolV, AV.toBool, opB3 hC h.cl, row_elem hC, setElem_encA, row_set]
    obtain ⟨a, b⟩ := h.look pn hB hC hD
    cases hpg : pgR s pn with
    | none =>
      rw [hpg] at a
      have hw := write_none (off := 3) (ds := [l[ii].v]) h.ok (a := (pn : Int)) (by omega) (by omega) hpg
      rw [hw, ← a]
      exact hend _ _ _ _ h
    | some p =>
      rw [hpg] at a
      obtain ⟨s', hw, w1, w2, w3, w4, w5⟩ := write_look h.ok h.uk (a := (pn : Int)) (off := 3) (ds := [l[ii].v]) (by omega) (by omega) hpg (apply_one p.now l[ii].v)
      rw [hw, ← a]
      exact hend _ _ _ _ (h.write hp8 hC hpg w1 w2 w3 w4 w5)
  have n2 : (l[ii].kind == 2) = false := by simpa using k2
  simp only [n2, cond_false]
  by_cases k3 : l[ii].kind = 3
  · simp only [k3, beq_self_eq_true, cond_true]
    have hr := hend _ _ _ _ (h.clean hp8 hC)
    refine ⟨s, pn, rfl, rfl, h.ok, ?_⟩
    simpa [hp8, okB hC h.cl, prB hC, opB hB h.bl, arr_get, row_set] using hr
  have n3 : (l[ii].kind == 3) = false := by simpa using k3
  simp only [n3, cond_false]
  exact hend _ _ _ _ h
end Go.Proofs.YtlnbbgagccgnjaaDoor
/-
  Tells functions, one by one; a law whose rounds hang on what comes in.
-/
namespace Go.X
open Classical
/-- A function is told so, from a depth on. -/
def Tells (S : Setg) (f : FuncId) (t : PT) (N : Nat) : Prop := ∀ n, N ≤ n → ∀ args H k, t args H k → match S.mode f with
  | 3 => (S.K0 f args H).elim False fun r => k r.1 r.2.1 r.2.2
  | _ => (evalF S.P S.U S.ann S.fu (evalL S n) f args H).elim False fun r => k r.1 r.2.1 r.2.2
theorem Tells.mono {S : Setg} {f : FuncId} {t : PT} {N M : Nat} (h : Tells S f t N) (hN : N ≤ M) : Tells S f t M := fun n hn => h n (by omega)
theorem PTab.cons {S : Setg} {T : FuncId → Option PT} {N : Nat} (hT : PTab S T N) {g : FuncId} {t : PT} (hg : Tells S g t N) : PTab S (fun f => if f = g then some t else T f) N := by
  intro f u hu
  by_cases hf : f = g
  · subst hf
    simp only [if_true, Option.some.injEq] at hu
    subst hu
    exact hg
  · simp only [if_neg hf] at hu
    exact hT f u hu
/-- By its text, with a table. -/
theorem PTab.told {S : Setg} {T : FuncId → Option PT} {N : Nat} (hT : PTab S T N) {g : FuncId} {t : PT} (D : Nat) (hm : (S.mode g == 3) = false)
    (h : ∀ N' args H k, t args H k → runP S T N' D S.fu g args H k) : Tells S g t (D + N) := by
  have h1 := hT.add D hm (fun N' _ => h N')
  exact h1 g t (by simp)
theorem Tells.given {S : Setg} {g : FuncId} {t : PT} (hm : S.mode g = 3) (h : ∀ args H k, t args H k → (S.K0 g args H).elim False fun r => k r.1 r.2.1 r.2.2) (N : Nat) : Tells S g t N := by
  intro n _ args H k hk
  rw [hm]
  exact h args H k hk
/-- What some sound oracle finds true. -/
noncomputable def Ktrue (P : Program) (G : Nat → Option AV) : Oracle := fun f args H =>
  if h : ∃ (K : Oracle) (H' : Heap) (e : Bool), (∀ B, OracleSound P B G K) ∧ K f args H = some (.bool true, H', e) then
    some (.bool true, h.choose_spec.choose, h.choose_spec.choose_spec.choose) else none
theorem Ktrue_sound (P : Program) (G : Nat → Option AV) (B : Nat) : OracleSound P B G (Ktrue P G) := by
  intro f args H v H' e h
  unfold Ktrue at h
  split at h
  · rename_i hx
    simp only [Option.some.injEq, Prod.mk.injEq] at h
    obtain ⟨rfl, rfl, rfl⟩ := h
    have hs := hx.choose_spec.choose_spec.choose_spec
    exact hs.1 B f args H _ _ _ hs.2
  · cases h
theorem Ktrue_of {P : Program} {G : Nat → Option AV} {K : Oracle} (hK : ∀ B, OracleSound P B G K) {f : FuncId} {args : List AV} {H H' : Heap} {e : Bool} (h : K f args H = some (.bool true, H', e)) :
    ∃ H' e, Ktrue P G f args H = some (.bool true, H', e) := by
  have hx : ∃ (K : Oracle) (H' : Heap) (e : Bool), (∀ B, OracleSound P B G K) ∧ K f args H = some (.bool true, H', e) := ⟨K, H', e, hK, h⟩
  unfold Ktrue
  rw [dif_pos hx]
  exact ⟨_, _, rfl⟩
/-- The law's run, in some setting. -/
theorem PTab.law' {S : Setg} (hS : S.Ok) {T : FuncId → Option PT} {N : Nat} (hT : PTab S T N) {f : FuncId} (D : Nat) (hm : S.mode f = 0) {vs : List AV}
    (h : runP S T N D S.fu f vs [] fun v _ _ => v = .bool true) : ∃ H' e, Ktrue S.P S.U.G f vs [] = some (.bool true, H', e) := by
  obtain ⟨H', e, he⟩ := hT.law D hm h
  exact Ktrue_of (fun B => evalL_ok hS _ B) he
end Go.X
/-
  FramesKeep: the law's run is true, for all steps.
-/
namespace Go.Proofs.YtlnbbgagccgnjaaDoor
open Go Go.X
variable {F : Nat}
set_option maxRecDepth 100000
/-! The tables hold. -/
theorem P1 : PTab (S F) T1 0 := PTab.none
theorem told45 : Tells (S F) 45 t45 9 := P1.told 9 rfl fun N => find45 N
theorem told12 : Tells (S F) 12 t12 9 := P1.told 9 rfl fun N => key12 N
theorem told41 : Tells (S F) 41 t41 30 := P1.told 30 rfl fun N => apply41 N
theorem told14 : Tells (S F) 14 t14 9 := P1.told 9 rfl fun N => leaf14 N
theorem told9 : Tells (S F) 9 (t9 F) 9 := P1.told 9 rfl fun N => fair9 N
theorem told11 : Tells (S F) 11 t11 9 := P1.told 9 rfl fun N => mod11 N
theorem told36 : Tells (S F) 36 t36 9 := P1.told 9 rfl fun N => new36 N
theorem told44 (N : Nat) : Tells (S F) 44 t44 N := Tells.given rfl sort44 N
theorem told10 (N : Nat) : Tells (S F) 10 t10 N := Tells.given rfl wakes10' N
theorem P2 : PTab (S F) T2 9 := ((P1.mono (by omega)).cons told45).cons told12
theorem told43 : Tells (S F) 43 t43 18 := P2.told 9 rfl fun N => dirty43 N
theorem told16 : Tells (S F) 16 t16 18 := P2.told 9 rfl fun N => clean16 N
theorem told17 : Tells (S F) 17 t17 18 := P2.told 9 rfl fun N => page17 N
theorem P36 : PTab (S F) T36 9 := (P1.mono (by omega)).cons told36
theorem told7 : Tells (S F) 7 t7 18 := P36.told 9 rfl fun N => new7 N
theorem P3 : PTab (S F) T3 30 := (((((((P1.mono (by omega)).cons (told10 30)).cons (told44 30)).cons (told14.mono (by omega))).cons told41).cons (told43.mono (by omega))).cons (told45.mono (by omega))).cons (told12.mono (by omega))
theorem told13 : Tells (S F) 13 t13 39 := P3.told 9 rfl fun N => hold13 N
theorem told15 : Tells (S F) 15 t15 39 := P3.told 9 rfl fun N => write15 N
theorem told18 : Tells (S F) 18 t18 39 := P3.told 9 rfl fun N => dirty18 N
theorem P4 : PTab (S F) (T4 F) 39 := (((((((P3.mono (by omega)).cons told18).cons (told17.mono (by omega))).cons (told16.mono (by omega))).cons told15).cons told13).cons (told7.mono (by omega))).cons (told11.mono (by omega)) |>.cons (told9.mono (by omega))
/-! The law. -/
theorem Inv0 : Inv (fs0 4) (List.replicate 8 (Ar.zero 32)) (List.replicate 8 (Ar.zero 32)) (List.replicate 8 false) := by
  have hk : ∀ j (hj : j < (fs0 4).fs.length), (fs0 4).fs[j].key = -1 := fun j hj => by
    have : (fs0 4).fs[j] = fr0 := List.getElem_replicate ..
    rw [this]; rfl
  have hn : ∀ x : Int, 0 ≤ x → x < 64 → pgR (fs0 4) x = none := fun x h0 h1 => by
    rw [pgR_eq h0 h1]
    cases hf : fR x (fs0 4).fs with
    | none => rfl
    | some j =>
      have h2 := fR_key hf (fR_lt hf)
      rw [hk] at h2
      omega
  refine ⟨⟨by simp [fs0], by simp [fs0], by simp [fs0]⟩, ⟨fun i j hi hj h1 h2 => absurd (hk i hi) h2, fun i hi => by rw [hk i hi]; omega⟩, by simp [fs0], by simp, by simp, by simp, fun j hj => by rw [hk j hj]; omega, fun k h1 h2 h3 => ?_⟩
  have : k < 8 := by simpa using h1
  rw [hn k (by omega) (by omega), List.getElem_replicate]
  exact ⟨rfl, fun p hp => by cases hp⟩
theorem rounds (N : Nat) (l : List Stp) (k : AV → Heap → Bool → Prop) (hb : l.length < 2 ^ 63) (hk : ∀ H, k (.bool true) H false) : ∀ (d ii n : Nat) (s : FS) (B C : List (Ar 32)) (D : List Bool), ii + d = l.length → d < n → Inv s B C D →
    resPS (S F) (T4 F) N 9 (S F).fu 3 1 0 [] pO n ⟨LT (row encSt l) ii, [], LMr s B C D, false⟩ k
  | d, ii, 0, s, B, C, D, _, hn, _ => by omega
  | 0, ii, n + 1, s, B, C, D, hd, _, h => by
    rw [stepA]
    have e1 : ¬ ((ii : Int) < (l.length : Int)) := by omega
    simp only [row_length, e1, decide_false, cond_false]
    exact ⟨by simp, hk _⟩
  | d + 1, ii, n + 1, s, B, C, D, hd, hn, h => by
    have hw : IntKind.wrap IntKind.i64 ((ii : Int) + 1) = ((ii + 1 : Nat) : Int) := wrapB (by omega)
    refine stepK0 (F := F) N (S F).fu n ii l s B C D k h (by rw [S_fu]; omega) (by omega) hb fun s' B' C' D' hv => ?_
    rw [hw]
    exact rounds N l k hb hk d (ii + 1) n s' B' C' D' (by omega) (by omega) hv
theorem keep3 (N : Nat) (l : List Stp) (hF : l.length ≤ F) (hb : l.length < 2 ^ 63) : runP (S F) (T4 F) N 9 (S F).fu 3 [.isl 6 (row encSt l)] [] fun v _ _ => v = .bool true := by
  rw [start3]
  refine ⟨4, rfl, rfl, fun h => by omega, fun _ => ⟨_, l, .inr rfl, rfl, rfl, hF, hb, fun b hl => ?_⟩⟩
  cases b with
  | false => exact ⟨rfl, rfl⟩
  | true =>
    have h1 := rounds (F := F) N l (fun v _ _ => v = .bool true) hb (fun _ => rfl) l.length 0 (S F).fu _ _ _ _ (by omega) (by have := (hl rfl).1; rw [S_fu]; omega) Inv0
    exact h1
theorem keep3n (N : Nat) : runP (S F) (T4 F) N 9 (S F).fu 3 [.nils] [] fun v _ _ => v = .bool true := by
  rw [S_fu, start3n]
  refine ⟨4, rfl, rfl, fun h => by omega, fun _ => ⟨_, [], .inl ⟨rfl, rfl⟩, rfl, rfl, by simp, by simp, fun b hl => ?_⟩⟩
  cases b <;> exact ⟨rfl, rfl⟩
theorem runKeep (l : List Stp) (hb : l.length < 2 ^ 63) : ∃ H' e, Ktrue Tryd.prog U.G 3 [.isl 6 (row encSt l)] [] = some (.bool true, H', e) :=
  (P4 (F := l.length)).law' okS 9 rfl (keep3 39 l (Nat.le_refl _) hb)
theorem runKeepN : ∃ H' e, Ktrue Tryd.prog U.G 3 [.nils] [] = some (.bool true, H', e) :=
  (P4 (F := 0)).law' okS 9 rfl (keep3n 39)
end Go.Proofs.YtlnbbgagccgnjaaDoor
