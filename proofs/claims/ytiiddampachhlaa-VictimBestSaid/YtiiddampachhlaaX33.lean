/-
  Loops of the evaluator, by an invariant; and calls, by what is known of them.
-/
import Derived.Test.YtiiddampachhlaaX32
namespace Go.X

theorem loopN_normal {hd : St → Option St} {body : St → Option (Ex × St)} {k : Nat} {s s1 s2 : St} (h1 : hd s = some s1) (h2 : body s1 = some (.normal, s2)) : loopN hd body (k + 1) s = loopN hd body k s2 := by
  simp [loopN, h1, h2]

theorem loopN_leave {hd : St → Option St} {body : St → Option (Ex × St)} {k : Nat} {s s1 s2 : St} {e : Ex} (h1 : hd s = some s1) (h2 : body s1 = some (e, s2)) (he : e ≠ .normal) : loopN hd body (k + 1) s = some (e, s2) := by
  cases e <;> simp_all [loopN]

/-- A loop that counts up to n: at every head the invariant holds; it goes round, or leaves. -/
theorem loop_count {hd : St → Option St} {body : St → Option (Ex × St)} {Inv : Nat → St → Prop} {Post : Ex → St → Prop} {n : Nat}
    (step : ∀ i s, i < n → Inv i s → ∃ s1 e s2, hd s = some s1 ∧ body s1 = some (e, s2) ∧ if e = .normal then Inv (i + 1) s2 else Post e s2)
    (stop : ∀ s, Inv n s → ∃ s1 e s2, hd s = some s1 ∧ body s1 = some (e, s2) ∧ e ≠ .normal ∧ Post e s2) :
    ∀ (m i : Nat) (s : St) (k : Nat), n - i = m → i ≤ n → m < k → Inv i s → ∃ e s', loopN hd body k s = some (e, s') ∧ Post e s'
  | m, i, s, 0, hm, hi, hk, h => by omega
  | 0, i, s, k + 1, hm, hi, hk, h => by
    obtain rfl : i = n := by omega
    obtain ⟨s1, e, s2, h1, h2, h3, h4⟩ := stop s h
    exact ⟨e, s2, loopN_leave h1 h2 h3, h4⟩
  | m + 1, i, s, k + 1, hm, hi, hk, h => by
    obtain ⟨s1, e, s2, h1, h2, h3⟩ := step i s (by omega) h
    by_cases he : e = .normal
    · subst he
      rw [if_pos rfl] at h3
      obtain ⟨e', s', h4, h5⟩ := loop_count step stop m (i + 1) s2 k (by omega) (by omega) (by omega) h3
      exact ⟨e', s', (loopN_normal h1 h2).trans h4, h5⟩
    · rw [if_neg he] at h3
      exact ⟨e, s2, loopN_leave h1 h2 he, h3⟩

end Go.X
