/-
  Regions, in the order of the text.
-/
import Derived.Test.YtiiddampachhlaaX20
namespace Go.X
open Go.RowKit (Below)

/-- What holds on the way through a function's text. -/
structure IV (C : Ctx) (B : Nat) (E0 : Env) (H0 : Heap) (w0 : World) (E : Env) (s : St) (a : Act) (w : World) : Prop where
  sr : SR C B E s a w
  tr : Tr B C.n0 E0 w0 E w
  sub : s.esc = false → Sub C.n0 H0 s.H

section
variable {C : Ctx} {B : Nat} {E0 E : Env} {H0 : Heap} {w0 : World} {s s' : St} {a : Act} {w : World} {K : Act → World → Prop} {Q : Exit → Act → World → Prop}

theorem put_none (a : Act) (c : Value) : a.put none c = a := rfl

def St.res (C : Ctx) (s : St) (dst : Option Nat) (v : AV) (H : Heap) (e : Bool) : St :=
  let s' : St := { s with H, esc := s.esc || e }
  match dst with
  | some d => s'.set C.A d (if d < C.N then v else .bad)
  | none => s'

theorem St.set_H (A : FAnn) (s : St) (d : Nat) (v : AV) : (s.set A d v).H = s.H := by unfold St.set; split <;> rfl
theorem St.set_esc (A : FAnn) (s : St) (d : Nat) (v : AV) : (s.set A d v).esc = s.esc := by unfold St.set; split <;> rfl
theorem St.res_H (dst : Option Nat) (v : AV) (H : Heap) (e : Bool) : (St.res C s dst v H e).H = H := by unfold St.res; split <;> simp [St.set_H]
theorem St.res_esc (dst : Option Nat) (v : AV) (H : Heap) (e : Bool) : (St.res C s dst v H e).esc = (s.esc || e) := by unfold St.res; split <;> simp [St.set_esc]

theorem IV.step {E' : Env} {w' : World} {v : AV} {c : Value} {H' : Heap} {e : Bool} (h : IV C B E0 H0 w0 E s a w) (hr : Res B C.n0 E s.H w v H' e E' w' c) (dst : Option Nat) :
    IV C B E0 H0 w0 E' (s.res C dst v H' e) (a.put dst c) w' := by
  have h1 := h.sr.later hr
  refine ⟨?_, h.tr.trans (hr.tr.mono h.sr.len), fun he => ?_⟩
  · unfold St.res
    split
    · rename_i d
      by_cases hd : d < C.N
      · rw [if_pos hd]; exact h1.set hr.val (.inl hd)
      · rw [if_neg hd]; exact h1.set (v := .bad) trivial (.inr (.inl rfl))
    · exact h1
  · rw [St.res_esc, Bool.or_eq_false_iff] at he
    rw [St.res_H]
    exact (h.sub he.1).trans (hr.sub he.2)

theorem IV.skip (h : IV C B E0 H0 w0 E s a w) (dst : Option Nat) : IV C B E0 H0 w0 E (match dst with | some d => s.set C.A d .undf | none => s) (a.put dst undef) w := by
  cases dst with
  | none => exact h
  | some d => exact ⟨h.sr.set (v := .undf) rfl (.inr (.inr rfl)), h.tr, by simpa [St.set_H, St.set_esc] using h.sub⟩

theorem wanted_ok (h : SR C B E s a w) {ops : Array Oper} {o : Oper} {b : Bool} (hw : wantedAV C.A ops.toList s o = some b) : Region.wanted o (yielded ops a.tmps) = b := by
  unfold wantedAV at hw
  unfold Region.wanted
  split at hw
  · rename_i hg
    rw [hg]
    simpa using hw
  · rename_i j want hg
    rw [hg]
    split at hw
    · rename_i d hd
      split at hw
      · rename_i x hx
        have hv := h.vals d
        rw [hx] at hv
        have hb := hv.bool_inv
        have : a.tmps[d]? = some (.bool x) := by
          rw [Array.getD_eq_getD_getElem?] at hb
          cases hq : a.tmps[d]? with
          | none => rw [hq] at hb; simp [undef] at hb
          | some u => rw [hq] at hb; simpa using hb
        have hd' : (ops[j]?).bind (·.dst) = some d := by simpa using hd
        have hy : yielded ops a.tmps j = some x := by
          unfold yielded
          rw [hd']
          simp [this]
        simp only [hy]
        obtain rfl := Option.some.inj hw
        cases x <;> cases want <;> rfl
      · rename_i hx
        have hv := h.vals d
        rw [hx] at hv
        have hb : a.tmps.getD d undef = undef := hv
        have hd' : (ops[j]?).bind (·.dst) = some d := by simpa using hd
        have hy : yielded ops a.tmps j = none := by
          unfold yielded
          rw [hd']
          rw [Array.getD_eq_getD_getElem?] at hb
          cases hq : a.tmps[d]? with
          | none => simp [hq]
          | some u =>
            rw [hq] at hb
            simp only [Option.getD_some] at hb
            subst hb
            simp [hq, undef]
        simp only [hy]
        obtain rfl := Option.some.inj hw
        rfl
      · simp at hw
    · simp at hw

theorem stepOp_res {ops : List Oper} {o : Oper} (h : stepOp C ops s o = some s') : ∃ b, wantedAV C.A ops s o = some b ∧
    ((b = true ∧ ∃ v H' e, evalOp C s o.op o.type = some (v, H', e) ∧ s' = s.res C o.dst v H' e) ∨ (b = false ∧ s' = match o.dst with | some d => s.set C.A d .undf | none => s)) := by
  unfold stepOp at h
  simp only [Option.bind_eq_some_iff] at h
  obtain ⟨b, hb, h⟩ := h
  refine ⟨b, hb, ?_⟩
  split at h
  · rename_i hbt
    simp only [Option.map_eq_some_iff, Prod.exists] at h
    obtain ⟨v, H', e, h1, h2⟩ := h
    exact .inl ⟨hbt, v, H', e, h1, h2.symm⟩
  · rename_i hbf
    exact .inr ⟨by simpa using hbf, (Option.some.inj h).symm⟩

theorem step_wp (hK : Snd C B E0) (hI : IV C B E0 H0 w0 E s a w) {ops : Array Oper} {o : Oper} (h : stepOp C ops.toList s o = some s') (hn : ∀ E' a' w', IV C B E0 H0 w0 E' s' a' w' → K a' w') :
    if Region.wanted o (yielded ops a.tmps) then o.wp C.P a w K Q ∨ (o.asks C.P a w ∧ LetsOut Q) else K (a.put o.dst undef) w := by
  obtain ⟨b, hb, h⟩ := stepOp_res h
  rw [wanted_ok hI.sr hb]
  rcases h with ⟨rfl, v, H', e, he, rfl⟩ | ⟨rfl, rfl⟩
  · simp only [if_true]
    refine .inl (op_ok hK.k hK.x (hK.g.evol hI.tr.evol) hI.sr he (fun E' w' c hr => hn E' _ w' (hI.step hr o.dst)))
  · simp only [Bool.false_eq_true, if_false]
    exact hn E _ w (hI.skip o.dst)

theorem runOps_wp (hK : Snd C B E0) {ops : Array Oper} {s1 : St} : ∀ (l : List Oper) (k : Nat) (s : St) (E : Env) (a : Act) (w : World), (∀ j, l[j]? = ops[k + j]?) → IV C B E0 H0 w0 E s a w →
    runOps C ops.toList l s = some s1 → (∀ E' a' w', IV C B E0 H0 w0 E' s1 a' w' → Q .normal a' w') → wpOps C.P ops Q (List.range' k l.length) a w
  | [], k, s, E, a, w, _, hI, h, hn => by
    obtain rfl := Option.some.inj h
    exact hn E a w hI
  | o :: l, k, s, E, a, w, hl, hI, h, hn => by
    simp only [runOps, Option.bind_eq_some_iff] at h
    obtain ⟨s', h1, h2⟩ := h
    have ho : ops[k]? = some o := by have := hl 0; simpa using this.symm
    simp only [List.length_cons, List.range'_succ, wpOps, ho]
    exact step_wp hK hI h1 (fun E' a' w' hI' => runOps_wp hK l (k + 1) s' E' a' w' (fun j => by have := hl (j + 1); simpa [Nat.add_assoc, Nat.add_comm 1 j] using this) hI' h2 hn)

theorem IV.forget (h : IV C B E0 H0 w0 E s a w) : IV C B E0 H0 w0 E { s with T := [] } a w := by
  refine ⟨⟨h.sr.sim, fun t => ?_, h.sr.size, h.sr.defers, h.sr.len⟩, h.tr, h.sub⟩
  have := h.sr.vals t
  unfold St.get at this ⊢
  split
  · rename_i hb; simpa [hb] using this
  · trivial

end
end Go.X
