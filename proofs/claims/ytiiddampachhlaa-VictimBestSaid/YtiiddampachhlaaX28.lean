/-
  Functions without a body here: Go's reflectlite, as errors.Is and errors.As need it.
-/
import Derived.Test.YtiiddampachhlaaX27
import Derived.Laws.Externs
namespace Go.X
open Go.RowKit (Below)
open Go.Extern

/-- What asks of the program alone. -/
def peel (P : Program) {α : Type} : Sem α → Option α
  | .pure a => some a
  | .program k => peel P (k P)
  | .mark _ k => peel P k
  | _ => none

theorem peel_run {P : Program} {α : Type} : ∀ (e : Sem α) (a : α), peel P e = some a → ∀ w, e.run P w = .ok a w := by
  intro e
  induction e with
  | pure b => intro a h w; obtain rfl := Option.some.inj h; rfl
  | program k ih => intro a h w; exact ih P a h w
  | mark m k ih => intro a h w; exact ih a h w
  | _ => intro a h; simp [peel] at h

/-! Values that are what they are, in whatever memory. -/
mutual
def AV.conc : AV → Option Value
  | .int k n => some (.int k n)
  | .bool b => some (.bool b)
  | .str s => some (.string s)
  | .nilp => some (.pointer none)
  | .hnd b t => some (.pointer (some ⟨b, t, none⟩))
  | .nili => some .nilIface
  | .iface t v => (v.conc).map fun c => .iface t c
  | .agg _ ps => (concL ps).map fun l => .agg l.toArray
  | _ => none
def concL : List AV → Option (List Value)
  | [] => some []
  | v :: r => (v.conc).bind fun c => (concL r).map fun l => c.cells.toList ++ l
end

def leafAbs : Value → AV
  | .int k n => .int k n
  | .bool b => .bool b
  | .string s => .str s
  | .pointer none => .nilp
  | .pointer (some ⟨b, o, none⟩) => .hnd b o
  | .nilIface => .nili
  | _ => .bad

def aggAbs : Value → AV
  | .agg cs => let ps := cs.toList.map leafAbs; if ps.all AV.plain then .agg ps.length ps else .bad
  | c => leafAbs c

def reabs : Value → AV
  | .iface t c => if (aggAbs c).plain then .iface t (aggAbs c) else .bad
  | c => aggAbs c

section
variable {P : Program} {B : Nat} {E E' : Env} {H : Heap} {w w' : World}

theorem leafAbs_ok (c : Value) : leafAbs c = .bad ∨ (FR E [leafAbs c] [c] ∧ (leafAbs c).isAgg = false) := by
  unfold leafAbs
  split
  · exact .inr ⟨.int .nil, rfl⟩
  · exact .inr ⟨.bool .nil, rfl⟩
  · exact .inr ⟨.str .nil, rfl⟩
  · exact .inr ⟨.nilp .nil, rfl⟩
  · exact .inr ⟨.hnd .nil, rfl⟩
  · exact .inr ⟨.nili .nil, rfl⟩
  · exact .inl rfl

theorem leaves_abs : ∀ (cs : List Value), (cs.map leafAbs).all AV.plain = true → FR E (cs.map leafAbs) cs
  | [], _ => .nil
  | c :: cs, h => by
    simp only [List.map_cons, List.all_cons, Bool.and_eq_true] at h
    have h1 : FR E [leafAbs c] [c] := by
      rcases leafAbs_ok (E := E) c with h2 | h2
      · rw [h2] at h; simp [AV.plain] at h
      · exact h2.1
    exact FR.append h1 (leaves_abs cs h.2)

theorem aggAbs_ok (c : Value) : aggAbs c = .bad ∨ PR E (aggAbs c) c := by
  unfold aggAbs
  split
  · rename_i cs
    simp only
    split
    · rename_i h
      right
      have h1 := FR.agg (E := E) (n := (cs.toList.map leafAbs).length) (leaves_abs (E := E) cs.toList h) (by simp) .nil
      exact ⟨_, h1, by simp [pack, AV.isAgg]⟩
    · exact .inl rfl
  · rename_i hn
    rcases leafAbs_ok (E := E) c with h | ⟨h1, h2⟩
    · exact .inl h
    · exact .inr ⟨_, h1, by simp [pack, h2]⟩

theorem reabs_ok (c : Value) : VR E (reabs c) c := by
  unfold reabs
  split
  · rename_i t c
    split
    · rename_i h
      rcases aggAbs_ok (E := E) c with h2 | ⟨cs, h2, h3⟩
      · rw [h2] at h; simp [AV.plain] at h
      · exact VR.of_PR (v := .iface t _) ⟨[.iface t (pack (aggAbs c) cs)], .iface h2 .nil, by simp [pack, AV.isAgg] at h3 ⊢; exact h3⟩
    · trivial
  · rcases aggAbs_ok (E := E) c with h2 | h2
    · rw [h2]; trivial
    · exact VR.of_PR h2

theorem FR.conc {vs : List AV} {cs : List Value} (h : FR E vs cs) : ∀ l, concL vs = some l → cs = l := by
  have one : ∀ {c : Value} {v : AV} {vs : List AV} {cs l : List Value}, v.conc = some c → c.cells = #[c] → (∀ l, concL vs = some l → cs = l) → concL (v :: vs) = some l → c :: cs = l := fun {c v vs cs l} h1 h2 ih hl => by
    simp only [concL, h1, Option.bind_some, Option.map_eq_some_iff] at hl
    obtain ⟨l', h3, rfl⟩ := hl
    rw [h2, ih l' h3]
    rfl
  induction h with
  | nil => intro l hl; simpa [concL] using hl
  | int h ih => intro l hl; exact one rfl rfl ih hl
  | bool h ih => intro l hl; exact one rfl rfl ih hl
  | str h ih => intro l hl; exact one rfl rfl ih hl
  | nilp h ih => intro l hl; exact one rfl rfl ih hl
  | hnd h ih => intro l hl; exact one rfl rfl ih hl
  | nili h ih => intro l hl; exact one rfl rfl ih hl
  | iface h1 h ih1 ih =>
    rename_i t v c1 vs cs
    intro l hl
    simp only [concL, AV.conc] at hl
    cases hc : v.conc with
    | none => simp [hc] at hl
    | some c =>
      have h2 := ih1 c.cells.toList (by simp [concL, hc])
      have h3 : pack v c1 = c := by
        subst h2
        have hl1 := h1.length
        unfold pack
        cases v <;> simp only [AV.conc, Option.some.injEq, reduceCtorEq, Option.map_eq_some_iff] at hc <;> first | (subst hc; rfl) | skip
        · obtain ⟨u, _, rfl⟩ := hc; rfl
        · obtain ⟨u, _, rfl⟩ := hc
          simp [AV.isAgg, Value.cells]
      exact one (c := .iface t (pack v c1)) (v := .iface t v) (by simp [AV.conc, hc, h3]) rfl ih (by simpa [concL, AV.conc] using hl)
  | agg h1 hn h ih1 ih =>
    rename_i n ps c1 vs cs
    intro l hl
    simp only [concL, AV.conc] at hl
    cases hc : concL ps with
    | none => simp [hc] at hl
    | some l1 =>
      simp only [hc, Option.map_some, Option.bind_some, Option.map_eq_some_iff] at hl
      obtain ⟨l', h3, rfl⟩ := hl
      rw [ih1 l1 hc, ih l' h3]
      rfl
  | _ => intro l hl; simp [concL, AV.conc] at hl

theorem conc_ok {v : AV} {c d : Value} (h : VR E v c) (hc : v.conc = some d) : c = d := by
  have hp : v.plain = true := by cases v <;> first | rfl | simp [AV.conc] at hc
  obtain ⟨cs, h1, rfl⟩ := h.toPR hp
  have h2 := h1.conc d.cells.toList (by simp [concL, hc])
  subst h2
  unfold pack
  cases v <;> simp only [AV.conc, Option.some.injEq, reduceCtorEq, Option.map_eq_some_iff] at hc <;> first | (subst hc; rfl) | skip
  · obtain ⟨u, _, rfl⟩ := hc; rfl
  · obtain ⟨u, _, rfl⟩ := hc
    simp [AV.isAgg, Value.cells]

theorem concs_ok : ∀ {vs : List AV} {cs ds : List Value}, vs.length = cs.length → (∀ (i : Nat) (v : AV) (c : Value), vs[i]? = some v → cs[i]? = some c → VR E v c) → vs.mapM AV.conc = some ds → cs = ds
  | [], cs, ds, hl, _, h => by
    simp at h
    subst h
    exact List.eq_nil_of_length_eq_zero hl.symm
  | x :: xs, cs, ds, hl, hv, h => by
    cases cs with
    | nil => simp at hl
    | cons c cs =>
      simp only [List.mapM_cons, Option.bind_eq_bind, Option.pure_def, Option.bind_eq_some_iff] at h
      obtain ⟨d, hd, ds', hds, h⟩ := h
      obtain rfl := Option.some.inj h
      have e1 := conc_ok (hv 0 x c rfl rfl) hd
      have e2 := concs_ok (cs := cs) (ds := ds') (by simpa using hl) (fun i v c h1 h2 => hv (i + 1) v c (by simpa using h1) (by simpa using h2)) hds
      rw [e1, e2]

end
end Go.X
