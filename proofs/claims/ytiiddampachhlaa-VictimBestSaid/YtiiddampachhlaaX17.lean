/-
  One operation: what the evaluator tells is what the model does.
-/
import Derived.Test.YtiiddampachhlaaX16
namespace Go.X
open Go.RowKit (Below)

/-- Package-level variables, and what they hold. -/
def GlobOk (G : Nat → Option AV) (E : Env) : Prop := ∀ g v, G g = some v → VR E (.iptr v) (.pointer (some ⟨g, 0, none⟩))

theorem GlobOk.evol {G : Nat → Option AV} {E E' : Env} {k : Nat} (h : GlobOk G E) (he : Evol k E E') : GlobOk G E' := fun g v hg => by
  obtain ⟨cs, h1, h2⟩ := (show PR E (.iptr v) _ from h g v hg)
  exact VR.of_PR ⟨cs, h1.evol (he.mono (Nat.zero_le _)) (Nat.zero_le _) (by simp [refsL, AV.refs]), h2⟩

/-- What is asked of an oracle. -/
def OracleSound (P : Program) (B : Nat) (G : Nat → Option AV) (K : Oracle) : Prop :=
  ∀ f args H v H' e, K f args H = some (v, H', e) → ∀ (E : Env) (w : World) (cargs : List Value), Sim B E H w → GlobOk G E → args.length = cargs.length →
    (∀ (i : Nat) (v : AV) (c : Value), args[i]? = some v → cargs[i]? = some c → VR E v c) →
    Calls P f cargs.toArray w fun en w' => ∃ c E', en = .returned c ∧ Res B H.length E H w v H' e E' w' c

/-- What is asked of what is told of functions without a body here. -/
def ExtSound (P : Program) (B : Nat) (X : Oracle) : Prop :=
  ∀ f args H v H' e, X f args H = some (v, H', e) → ∀ (n0 : Nat) (E : Env) (w : World) (cargs : List Value), Sim B E H w → n0 ≤ H.length → args.length = cargs.length →
    (∀ (i : Nat) (v : AV) (c : Value), args[i]? = some v → cargs[i]? = some c → VR E v c) →
    ∃ c w' E', (callFunc f cargs.toArray).run P w = .ok (.value c) w' ∧ Res B n0 E H w v H' e E' w' c

structure Snd (C : Ctx) (B : Nat) (E0 : Env) : Prop where
  k : OracleSound C.P B C.U.G C.K
  x : ExtSound C.P B C.U.X
  g : GlobOk C.U.G E0

structure SR (C : Ctx) (B : Nat) (E : Env) (s : St) (a : Act) (w : World) : Prop where
  sim : Sim B E s.H w
  vals : ∀ t, VR E (s.get C.A t) (a.tmps.getD t undef)
  size : a.tmps.size = C.N
  defers : a.defers = []
  len : C.n0 ≤ s.H.length

section
variable {C : Ctx} {B : Nat} {E : Env} {s : St} {a : Act} {w : World}

theorem SR.eval (h : SR C B E s a w) (x : Operand) : VR E (s.eval C.A x) (a.eval x) := by
  cases x with
  | tmp t => exact h.vals t
  | const c => exact const_ok c
  | global g => trivial
  | func f => exact VR.of_PR (v := .func (.func f) [] []) ⟨[_], .func (cx := []) (cy := []) (by simp) .nil .nil .nil, rfl⟩

theorem look_upd (l : List (Nat × AV)) (d t : Nat) (v : AV) : look (upd l d v) t = if t = d then (look (upd l d v) d) else look l t := by
  induction l with
  | nil => simp [upd, look]
  | cons x l ih =>
    obtain ⟨k, u⟩ := x
    unfold upd
    split
    · rename_i hk
      subst hk
      by_cases ht : t = k
      · simp [ht]
      · have : ¬ k = t := fun e => ht e.symm
        simp [look, ht, this]
    · rename_i hk
      by_cases ht : t = d
      · simp [ht]
      · simp only [look, if_neg ht] at ih ⊢
        split
        · rfl
        · exact ih

theorem look_upd_self (l : List (Nat × AV)) (d : Nat) (v : AV) : look (upd l d v) d = v ∨ look (upd l d v) d = .bad := by
  induction l with
  | nil => right; rfl
  | cons x l ih =>
    obtain ⟨k, u⟩ := x
    unfold upd
    split
    · rename_i hk
      subst hk
      left
      simp [look]
    · rename_i hk
      simp only [look, if_neg hk]
      exact ih

theorem SR.set (h : SR C B E s a w) {d : Nat} {v : AV} {c : Value} (hv : VR E v c) (hd : d < C.N ∨ v = .bad ∨ c = undef) : SR C B E (s.set C.A d v) (a.put (some d) c) w := by
  refine ⟨?_, fun t => ?_, by simp [Act.put, h.size], h.defers, ?_⟩
  · unfold St.set; split <;> exact h.sim
  · have hput : (a.put (some d) c).tmps.getD t undef = if d = t ∧ d < a.tmps.size then c else a.tmps.getD t undef := by
      simp only [Act.put]
      by_cases hdt : d = t
      · subst hdt
        by_cases hlt : d < a.tmps.size
        · simp [hlt]
        · simp [hlt]
      · simp [hdt, Array.getElem?_setIfInBounds_ne hdt]
    rw [hput]
    have hself : (s.set C.A d v).get C.A d = v ∨ (s.set C.A d v).get C.A d = .bad := by
      unfold St.set St.get
      split
      · simp only; exact look_upd_self _ _ _
      · simp [look]
    by_cases hdt : d = t
    · subst hdt
      rcases hself with h1 | h1
      · rw [h1]
        rcases hd with hd | rfl | rfl
        · rw [if_pos ⟨rfl, by rw [h.size]; exact hd⟩]; exact hv
        · trivial
        · by_cases hlt : d < a.tmps.size
          · rw [if_pos ⟨rfl, hlt⟩]; exact hv
          · rw [if_neg (fun hh => hlt hh.2), Array.getD_eq_getD_getElem?, Array.getElem?_eq_none (by omega)]
            exact hv
      · rw [h1]; trivial
    · rw [if_neg (fun hh => hdt hh.1)]
      have : (s.set C.A d v).get C.A t = s.get C.A t := by
        unfold St.set St.get
        split
        · split
          · simp only
            rw [look_upd, if_neg (fun e => hdt e.symm)]
          · rfl
        · split
          · rfl
          · simp [look, hdt]
      rw [this]
      exact h.vals t
  · unfold St.set; split <;> exact h.len

/-- The state goes on in a later memory. -/
theorem SR.later {E' : Env} {w' : World} {H' : Heap} {e : Bool} (h : SR C B E s a w) {n0 : Nat} {v : AV} {c : Value} (hr : Res B n0 E s.H w v H' e E' w' c) : SR C B E' { s with H := H', esc := s.esc || e } a w' := by
  have htop : E.top ≤ E'.top := by rw [h.sim.top, hr.sim.top]; exact hr.len
  refine ⟨hr.sim, fun t => (h.vals t).later ?_ htop, h.size, h.defers, Nat.le_trans h.len hr.len⟩
  rw [h.sim.top]
  exact hr.tr.evol

end
end Go.X
