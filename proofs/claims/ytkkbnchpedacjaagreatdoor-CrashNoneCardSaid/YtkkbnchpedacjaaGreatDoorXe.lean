/-
  Iterators and the rounds of those that range over them: what the relations say of them.
-/
import Derived.Test.YtkkbnchpedacjaaGreatDoorXd
import Derived.Orders

namespace Go.X
open Go.RowKit (Below)

/-! ### Inside a round and outside -/

/-- The widest fence, for a round of l's or for none. -/
def FW (ro : Option Nat) : Fence := { Fence.wide with round := ro }

theorem about_wide (ro : Option Nat) (P : Program) (o : Oper) (w : World) (ρ : Operand → Value) : ∀ f, o.about P w ρ = some f → (FW ro).fn f := fun _ _ => trivial

theorem callsW {ro : Option Nat} {n : Nat} {P : Program} {f : FuncId} {args : Array Value} {w : World} {R : Ending → World → Prop} (h : Calls P f args w R) : CallsIn (FW ro) n P f args w R := by
  have h1 : CallsIn Fence.wide n P f args w R := callsIn_wide.2 h
  exact h1

theorem rowsW {ro : Option Nat} {n : Nat} {P : Program} {row : String} {args : Array Value} {w : World} {R : Value → World → Prop} (h : Rows P row args w R) : RowsIn (FW ro) n P row args w R := by
  have h1 : RowsIn Fence.wide n P row args w R := fun c cs _ => by
    obtain ⟨v, w', hr, hs⟩ := h c cs
    exact ⟨v, w', hr, stepsIn_wide.2 hs⟩
  exact h1

theorem wp_in {ro : Option Nat} {P : Program} {o : Oper} {a : Act} {w : World} {next : Act → World → Prop} {Q : Exit → Act → World → Prop} (hd : ∀ c, o.op ≠ .defer c) (h : o.wp P a w next Q) : o.wpIn (FW ro) 0 P a w next Q := by
  refine ⟨about_wide ro P o w _, ?_⟩
  rw [Oper.semAt_eq _ _ _ hd]
  unfold Oper.wp at h
  generalize (execOp a.eval o).run P w = r at h ⊢
  cases r with
  | ok x w' =>
    cases x <;> simp only [Oper.upon, Oper.uponIn] at h ⊢ <;> first
      | exact h
      | exact ⟨fun hh => absurd hh (by simp [FW, Fence.wide]), callsW h⟩
      | exact ⟨fun hh => absurd hh (by simp [FW, Fence.wide]), rowsW h⟩
  | halt x w' => cases x <;> simp only [Oper.upon, Oper.uponIn] at h ⊢ <;> exact h

theorem noDefer {C : Ctx} {s : St} {op : Op} {t : TypeId} {r : AV × Heap × Bool} (h : evalOp C s op t = some r) : ∀ c, op ≠ .defer c := by
  rintro c rfl
  cases h

/-! ### Another yield -/
def Env.as (E : Env) (l : Nat) : Env := ⟨E.loc, E.m, E.top, E.mloc, l⟩

theorem FR.as {E : Env} {l : Nat} {vs : List AV} {cs : List Value} (h : FR E vs cs) : FR (E.as l) vs cs :=
  FR.evol0 (E := E) (E' := E.as l) (k := E.top) ⟨fun _ _ L h => ⟨L, h, .inl rfl⟩, fun _ _ _ h => h, fun _ _ _ h => h⟩ (Nat.le_refl _) h h.refs_lt

theorem PR.as {E : Env} {l : Nat} {v : AV} {c : Value} (h : PR E v c) : PR (E.as l) v c := by
  obtain ⟨cs, h1, h2⟩ := h
  exact ⟨cs, h1.as, h2⟩

theorem VR.as {E : Env} {l : Nat} {v : AV} {c : Value} (h : VR E v c) (hv : v ≠ .yld) : VR (E.as l) v c := by
  cases v with
  | bad => trivial
  | undf => exact h
  | yld => exact absurd rfl hv
  | tuple vs =>
    obtain ⟨cvs, h1, h2, h3⟩ := h
    exact ⟨cvs, h1, h2, fun i v c hv hc => (h3 i v c hv hc).imp id PR.as⟩
  | _ => exact PR.as (show PR E _ c from h)

theorem GlobOk.as {G : Nat → Option AV} {E : Env} {l : Nat} (h : GlobOk G E) : GlobOk G (E.as l) := fun g v hg => (h g v hg).as (by simp)

theorem Tr.as {B k : Nat} {E E' : Env} {w w' : World} (h : Tr B k E w E' w') (l : Nat) : Tr B k (E.as l) w (E'.as l) w' :=
  ⟨h.below, ⟨h.evol.loc, h.evol.m, h.evol.mloc, rfl⟩, h.frame, h.ext, h.imm, h.objs, h.extM⟩

/-! ### Worlds that differ in what is no cells and no map -/

structure Other (w w' : World) : Prop where
  size : w.heap.size ≤ w'.heap.size
  cell : ∀ b o c, w.cell? ⟨b, o, none⟩ = some c → w'.cell? ⟨b, o, none⟩ = some c ∧ w'.frozen? ⟨b, o, none⟩ = w.frozen? ⟨b, o, none⟩
  map : ∀ (j : Nat) vs clock, w.heap[j]? = some (.map vs clock) → w'.heap[j]? = some (.map vs clock)

theorem Sim.other {B : Nat} {E : Env} {H : Heap} {w w' : World} (hs : Sim B E H w) (ho : Other w w') : Sim B E H w' := by
  refine ⟨hs.top, fun i bk hb => ?_, hs.dead, hs.apart, fun b o c hc => (ho.cell b o c (hs.imm b o c hc)).1, hs.immApart, hs.flat, Nat.le_trans hs.old ho.size, fun i es hi => ?_, hs.mdead, hs.mapart⟩
  · obtain ⟨L, h1, h2, h3⟩ := hs.live i bk hb
    refine ⟨L, h1, ⟨?_, h2.fits, fun j hj => ?_⟩, h3⟩
    · obtain ⟨cs, k1, k2, k3⟩ := h2.cs
      exact ⟨cs, k1, k2, fun j c hc => (ho.cell _ _ _ (k3 j c hc)).1⟩
    · obtain ⟨k1, k2⟩ := h2.room j hj
      obtain ⟨c, hc⟩ := Option.isSome_iff_exists.1 k1
      obtain ⟨g1, g2⟩ := ho.cell _ _ _ hc
      exact ⟨by rw [g1]; rfl, by rw [g2]; exact k2⟩
  · obtain ⟨b, h1, ⟨vs, clock, h2, h3⟩, h4⟩ := hs.mlive i es hi
    exact ⟨b, h1, ⟨vs, clock, ho.map _ _ _ h2, h3⟩, h4⟩

theorem Sim.as {B : Nat} {E : Env} {H : Heap} {w : World} (hs : Sim B E H w) (l : Nat) : Sim B (E.as l) H w := by
  refine ⟨hs.top, fun i bk hb => ?_, hs.dead, hs.apart, hs.imm, hs.immApart, hs.flat, hs.old, hs.mlive, hs.mdead, hs.mapart⟩
  obtain ⟨L, h1, h2, h3⟩ := hs.live i bk hb
  obtain ⟨cs, k1, k2, k3⟩ := h2.cs
  exact ⟨L, h1, ⟨⟨cs, k1.as, k2, k3⟩, h2.fits, h2.room⟩, h3⟩

theorem cell_none {w : World} {b o : Nat} (h : ∀ ob : Obj, w.heap[b]? = some ob → ob.isCells = false) : w.cell? ⟨b, o, none⟩ = none ∧ w.frozen? ⟨b, o, none⟩ = false := by
  constructor
  · cases hc : w.cell? ⟨b, o, none⟩ with
    | none => rfl
    | some c =>
      obtain ⟨ob, h1, h2⟩ := cells_of_cell hc
      rw [h ob h1] at h2
      cases h2
  · unfold World.frozen?
    cases ho : w.heap[b]? with
    | none => simp
    | some ob =>
      have := h ob ho
      cases ob <;> simp [Obj.isCells] at this <;> simp

/-- What lies at l is no cells, before and after: all cells read as they did. -/
theorem putObj_cell {w : World} {l : Nat} {ob ob' : Obj} (h : w.heap[l]? = some ob) (h1 : ob.isCells = false) (h2 : ob'.isCells = false) (b o : Nat) :
    (w.putObj l ob').cell? ⟨b, o, none⟩ = w.cell? ⟨b, o, none⟩ ∧ (w.putObj l ob').frozen? ⟨b, o, none⟩ = w.frozen? ⟨b, o, none⟩ := by
  by_cases hb : b = l
  · subst hb
    obtain ⟨k1, k2⟩ := cell_none (w := w) (b := b) (o := o) (fun x hx => by rw [h] at hx; cases hx; exact h1)
    obtain ⟨g1, g2⟩ := cell_none (w := w.putObj b ob') (b := b) (o := o) (fun x hx => by
      rw [World.putObj_heap_same (Array.getElem?_eq_some_iff.1 h).1] at hx; cases hx; exact h2)
    rw [k1, k2, g1, g2]
    exact ⟨rfl, rfl⟩
  · have := World.putObj_heap_other (w := w) (o := ob') hb
    exact ⟨World.cell?_of_block this, World.frozen?_of_block this⟩

def notMap : Obj → Bool
  | .map .. => false
  | _ => true

theorem Other.put {w : World} {l : Nat} {ob ob' : Obj} (h : w.heap[l]? = some ob) (h1 : ob.isCells = false) (h2 : ob'.isCells = false) (h3 : notMap ob = true) : Other w (w.putObj l ob') := by
  refine ⟨by simp, fun b o c hc => ?_, fun j vs clock hj => ?_⟩
  · obtain ⟨k1, k2⟩ := putObj_cell h h1 h2 b o
    exact ⟨k1.trans hc, k2⟩
  · have : j ≠ l := by
      rintro rfl
      rw [h] at hj
      cases hj
      cases h3
    exact (World.putObj_heap_other this).trans hj

theorem Other.alloc (w : World) (o : Obj) : Other w (w.alloc o) := by
  have key : ∀ (b : Nat) ob, w.heap[b]? = some ob → (w.alloc o).heap[b]? = w.heap[b]? := fun b ob hb => Below.heap_alloc w o b (Array.getElem?_eq_some_iff.1 hb).1
  refine ⟨by simp, fun b i c hc => ?_, fun j vs clock hj => (key j _ hj).trans hj⟩
  obtain ⟨ob, h1, _⟩ := cells_of_cell hc
  exact ⟨(World.cell?_of_block (a := ⟨b, i, none⟩) (key b ob h1)).trans hc, World.frozen?_of_block (a := ⟨b, i, none⟩) (key b ob h1)⟩

theorem below_put {B : Nat} {w : World} {l : Nat} (o : Obj) (hl : B ≤ l) : Below B w (w.putObj l o) :=
  ⟨rfl, rfl, rfl, by simp, fun k hk => World.putObj_heap_other (by omega)⟩

theorem tr_alloc {B k : Nat} {E : Env} {w : World} (hB : B ≤ w.heap.size) (o : Obj) : Tr B k E w E (w.alloc o) :=
  ⟨(Below.refl B w).alloc hB o, Evol.refl _ _, fun b _ hb _ => ⟨World.cell?_of_block (Below.heap_alloc w o b hb), World.frozen?_of_block (Below.heap_alloc w o b hb)⟩, fun _ _ _ h => h, fun _ _ _ _ h => .inl h,
    fun j _ hj _ _ => (Below.heap_alloc w o j (Array.getElem?_eq_some_iff.1 hj).1).trans hj, fun _ _ h => h⟩

/-- At the end something is turned that was not there at the begin. -/
theorem Tr.put {B k : Nat} {E E' : Env} {w w' : World} (h : Tr B k E w E' w') {l : Nat} {ob ob' : Obj} (hB : B ≤ l) (hl : w.heap.size ≤ l) (ho : w'.heap[l]? = some ob) (h1 : ob.isCells = false) (h2 : ob'.isCells = false) :
    Tr B k E w E' (w'.putObj l ob') := by
  refine ⟨h.below.trans (below_put ob' hB), h.evol, fun b o hb hn => ?_, h.ext, h.imm, fun j o hj hn hm => ?_, h.extM⟩
  · obtain ⟨k1, k2⟩ := h.frame b o hb hn
    obtain ⟨g1, g2⟩ := putObj_cell ho h1 h2 b o
    exact ⟨g1.trans k1, g2.trans k2⟩
  · have hlt := (Array.getElem?_eq_some_iff.1 hj).1
    exact (World.putObj_heap_other (by omega)).trans (h.objs j o hj hn hm)

/-! ### Marks -/

/-- Deferred are marks of ranges over iterators alone, whose blocks are new and hold nothing. -/
def Marks (w0 : World) (a : Act) (w : World) : Prop := a.defers.Nodup ∧ ∀ d ∈ a.defers, ∃ D, d = { target := .collected D, args := #[] } ∧ w0.heap.size ≤ D ∧ w.heap[D]? = some (.deferred (some []))

theorem Marks.nil {w0 w : World} {ts : Array Value} : Marks w0 { tmps := ts, defers := [] } w := ⟨List.nodup_nil, fun d hd => by simp at hd⟩

theorem Marks.keeps {w0 w w' : World} {a a' : Act} (h : Marks w0 a w) (hd : a'.defers = a.defers) (ho : ∀ D : Nat, w.heap[D]? = some (Obj.deferred (some [])) → w'.heap[D]? = some (Obj.deferred (some []))) : Marks w0 a' w' := by
  refine ⟨by rw [hd]; exact h.1, fun d hm => ?_⟩
  rw [hd] at hm
  obtain ⟨D, h1, h2, h3⟩ := h.2 d hm
  exact ⟨D, h1, h2, ho D h3⟩

theorem no_inM {B : Nat} {E : Env} {H : Heap} {w : World} (hs : Sim B E H w) {j : Nat} {o : Obj} (ho : w.heap[j]? = some o) (hm : notMap o = true) : ¬ InM E j := by
  rintro ⟨i, hi⟩
  obtain ⟨es, he⟩ := hs.mdead i j hi
  obtain ⟨b, h1, ⟨vs, clock, h2, _⟩, _⟩ := hs.mlive i es he
  obtain rfl : j = b := by rw [hi] at h1; exact Option.some.inj h1
  rw [ho] at h2
  cases h2
  cases hm

theorem Marks.later {B k : Nat} {E E' : Env} {H : Heap} {w0 w w' : World} {a a' : Act} (h : Marks w0 a w) (hs : Sim B E H w) (ht : Tr B k E w E' w') (hd : a'.defers = a.defers) : Marks w0 a' w' :=
  h.keeps hd (fun D hD => ht.objs D _ hD rfl (no_inM hs hD rfl))

theorem put_defers (a : Act) (dst : Option Nat) (c : Value) : (a.put dst c).defers = a.defers := by cases dst <;> rfl

end Go.X
/-
  Regions, in the order of the text.
-/
namespace Go.X
open Go.RowKit (Below)

/-- What holds on the way through a function's text. -/
structure IV (C : Ctx) (B : Nat) (E0 : Env) (H0 : Heap) (w0 : World) (E : Env) (s : St) (a : Act) (w : World) : Prop where
  sr : SR C B E s a w
  tr : Tr B C.n0 E0 w0 E w
  marks : Marks w0 a w
  sub : s.esc = false → Sub C.n0 H0 s.H

section
variable {C : Ctx} {B : Nat} {E0 E : Env} {H0 : Heap} {w0 : World} {s s' : St} {a : Act} {w : World} {K : Act → World → Prop} {Q : Exit → Act → World → Prop}

theorem put_none (a : Act) (c : Value) : a.put none c = a := rfl

def St.res (C : Ctx) (s : St) (dst : Option Nat) (v : AV) (H : Heap) (e : Bool) : St :=
  let s' : St := { s with H, esc := s.esc || e }
  match dst with
  | some d => s'.set C.A d (if d < C.N then v else .bad)
  | none => s'

theorem St.set_H (A : FAnn) (s : St) (d : Nat) (v : AV) : (s.set A d v).H = s.H := by unfold St.set; split <;> rfl
theorem St.set_esc (A : FAnn) (s : St) (d : Nat) (v : AV) : (s.set A d v).esc = s.esc := by unfold St.set; split <;> rfl
theorem St.res_H (dst : Option Nat) (v : AV) (H : Heap) (e : Bool) : (St.res C s dst v H e).H = H := by unfold St.res; split <;> simp [St.set_H]
theorem St.res_esc (dst : Option Nat) (v : AV) (H : Heap) (e : Bool) : (St.res C s dst v H e).esc = (s.esc || e) := by unfold St.res; split <;> simp [St.set_esc]

theorem IV.step {E' : Env} {w' : World} {v : AV} {c : Value} {H' : Heap} {e : Bool} (h : IV C B E0 H0 w0 E s a w) (hr : Res B C.n0 E s.H w v H' e E' w' c) (dst : Option Nat) :
    IV C B E0 H0 w0 E' (s.res C dst v H' e) (a.put dst c) w' := by
  have h1 := h.sr.later hr
  refine ⟨?_, h.tr.trans (hr.tr.mono h.sr.len), h.marks.later h.sr.sim hr.tr (put_defers _ _ _), fun he => ?_⟩
  · unfold St.res
    split
    · rename_i d
      by_cases hd : d < C.N
      · rw [if_pos hd]; exact h1.set hr.val (.inl hd)
      · rw [if_neg hd]; exact h1.set (v := .bad) trivial (.inr (.inl rfl))
    · exact h1
  · rw [St.res_esc, Bool.or_eq_false_iff] at he
    rw [St.res_H]
    exact (h.sub he.1).trans (hr.sub he.2)

theorem IV.skip (h : IV C B E0 H0 w0 E s a w) (dst : Option Nat) : IV C B E0 H0 w0 E (match dst with | some d => s.set C.A d .undf | none => s) (a.put dst undef) w := by
  cases dst with
  | none => exact h
  | some d => exact ⟨h.sr.set (v := .undf) rfl (.inr (.inr rfl)), h.tr, h.marks.keeps (put_defers _ _ _) (fun _ h => h), by simpa [St.set_H, St.set_esc] using h.sub⟩

theorem wanted_ok (h : SR C B E s a w) {ops : Array Oper} {o : Oper} {b : Bool} (hw : wantedAV C.A ops.toList s o = some b) : Region.wanted o (yielded ops a.tmps) = b := by
  unfold wantedAV at hw
  unfold Region.wanted
  split at hw
  · rename_i hg
    rw [hg]
    simpa using hw
  · rename_i j want hg
    rw [hg]
    split at hw
    · rename_i d hd
      split at hw
      · rename_i x hx
        have hv := h.vals d
        rw [hx] at hv
        have hb := hv.bool_inv
        have : a.tmps[d]? = some (.bool x) := by
          rw [Array.getD_eq_getD_getElem?] at hb
          cases hq : a.tmps[d]? with
          | none => rw [hq] at hb; simp [undef] at hb
          | some u => rw [hq] at hb; simpa using hb
        have hd' : (ops[j]?).bind (·.dst) = some d := by simpa using hd
        have hy : yielded ops a.tmps j = some x := by
          unfold yielded
          rw [hd']
          simp [this]
        simp only [hy]
        obtain rfl := Option.some.inj hw
        cases x <;> cases want <;> rfl
      · rename_i hx
        have hv := h.vals d
        rw [hx] at hv
        have hb : a.tmps.getD d undef = undef := hv
        have hd' : (ops[j]?).bind (·.dst) = some d := by simpa using hd
        have hy : yielded ops a.tmps j = none := by
          unfold yielded
          rw [hd']
          rw [Array.getD_eq_getD_getElem?] at hb
          cases hq : a.tmps[d]? with
          | none => simp [hq]
          | some u =>
            rw [hq] at hb
            simp only [Option.getD_some] at hb
            subst hb
            simp [hq, undef]
        simp only [hy]
        obtain rfl := Option.some.inj hw
        rfl
      · simp at hw
    · simp at hw

theorem stepOp_res {ops : List Oper} {o : Oper} (h : stepOp C ops s o = some s') : ∃ b, wantedAV C.A ops s o = some b ∧
    ((b = true ∧ ∃ v H' e, evalOp C s o.op o.type = some (v, H', e) ∧ s' = s.res C o.dst v H' e) ∨ (b = false ∧ s' = match o.dst with | some d => s.set C.A d .undf | none => s)) := by
  unfold stepOp at h
  simp only [Option.bind_eq_some_iff] at h
  obtain ⟨b, hb, h⟩ := h
  refine ⟨b, hb, ?_⟩
  split at h
  · rename_i hbt
    simp only [Option.map_eq_some_iff, Prod.exists] at h
    obtain ⟨v, H', e, h1, h2⟩ := h
    exact .inl ⟨hbt, v, H', e, h1, h2.symm⟩
  · rename_i hbf
    exact .inr ⟨by simpa using hbf, (Option.some.inj h).symm⟩

theorem step_wp {ro : Option Nat} (hK : Snd C B E0 w0) (hI : IV C B E0 H0 w0 E s a w) {ops : Array Oper} {o : Oper} (h : stepOp C ops.toList s o = some s') (hn : ∀ E' a' w', IV C B E0 H0 w0 E' s' a' w' → K a' w') :
    if Region.wanted o (yielded ops a.tmps) then o.wpIn (FW ro) 0 C.P a w K Q else (∀ f, o.about C.P w a.eval = some f → (FW ro).fn f) ∧ K (a.put o.dst undef) w := by
  obtain ⟨b, hb, h⟩ := stepOp_res h
  rw [wanted_ok hI.sr hb]
  rcases h with ⟨rfl, v, H', e, he, rfl⟩ | ⟨rfl, rfl⟩
  · simp only [if_true]
    exact wp_in (noDefer he) (op_ok hK.k hK.x (hK.g.evol hI.tr.evol) hI.sr he (fun E' w' c hr => hn E' _ w' (hI.step hr o.dst)))
  · simp only [Bool.false_eq_true, if_false]
    exact ⟨about_wide _ _ _ _ _, hn E _ w (hI.skip o.dst)⟩

/-- A call of yield. -/
theorem yield_wp {ro : Option Nat} (hK : Snd C B E0 w0) (hI : IV C B E0 H0 w0 E s a w) {ops : Array Oper} {o : Oper} (h : stepY C ops.toList s o = some s') (hn : ∀ E' a' w', IV C B E0 H0 w0 E' s' a' w' → K a' w') :
    if Region.wanted o (yielded ops a.tmps) then o.wpIn (FW ro) 0 C.P a w K Q else (∀ f, o.about C.P w a.eval = some f → (FW ro).fn f) ∧ K (a.put o.dst undef) w := by
  unfold stepY at h
  split at h
  · rename_i f args argTypes hop
    split at h
    · rename_i hc
      simp only [Bool.and_eq_true, Option.isNone_iff_eq_none] at hc
      have hw : Region.wanted o (yielded ops a.tmps) = true := by unfold Region.wanted; rw [hc.2]
      rw [if_pos hw]
      simp only [Option.map_eq_some_iff, Prod.exists] at h
      obtain ⟨H', e, hY, rfl⟩ := h
      have hf : s.eval C.A f = .yld := by
        have := hc.1
        cases hv : s.eval C.A f <;> rw [hv] at this <;> first | rfl | cases this
      have hcf : a.eval f = .func (.yield E.yl) #[] #[] := by
        have := hI.sr.eval f
        rw [hf] at this
        exact this
      obtain ⟨fn, tmps, asg, body, hy, hR⟩ := hK.y _ _ _ _ hY E w (args.toList.map a.eval) hI.tr hI.sr.sim hI.sr.len (by simp) (args_ok hI.sr args.toList)
      have hrun : (execOp a.eval o).run C.P w = .ok (.round E.yl fn tmps asg body) w := by
        have harr : (args.map a.eval) = (args.toList.map a.eval).toArray := Array.ext' (by simp)
        obtain ⟨dst, op, ty, pos, after, guard⟩ := o
        simp only at hop
        subst hop
        simp only [execOp, resolve, Deferred.ofValue, hcf]
        rw [← harr] at hy
        simpa [invoke] using hy
      refine ⟨about_wide _ _ _ _ _, ?_⟩
      rw [Oper.semAt_eq _ _ _ (fun c hh => by rw [hop] at hh; cases hh), hrun]
      refine ⟨fun hh => absurd hh (by simp [FW, Fence.wide]), ?_⟩
      have hR' : RoundIn Fence.wide 0 C.P E.yl fn tmps asg body w (fun
          | .returned v, w'' => K (a.put o.dst v) w''
          | .panicked chain, w'' => Q (.panic chain) a w''
          | .outgrown, _ => LetsOut Q) := hR.mono (fun en w' ⟨h1, E', h2⟩ => by
        subst h1
        refine hn E' _ w' ?_
        have := hI.step (v := .bool true) (c := .bool true) ⟨h2.sim, h2.val, h2.tr, h2.len, fun he => (h2.sub he).mono hI.sr.len⟩ o.dst
        exact this)
      exact hR'
    · exact step_wp hK hI h hn
  · exact step_wp hK hI h hn

theorem runOps_wp {ro : Option Nat} (hK : Snd C B E0 w0) {ops : Array Oper} {s1 : St} : ∀ (l : List Oper) (k : Nat) (s : St) (E : Env) (a : Act) (w : World), (∀ j, l[j]? = ops[k + j]?) → IV C B E0 H0 w0 E s a w →
    runOps C ops.toList l s = some s1 → (∀ E' a' w', IV C B E0 H0 w0 E' s1 a' w' → Q .normal a' w') → wpOpsIn (FW ro) 0 C.P ops Q (List.range' k l.length) a w
  | [], k, s, E, a, w, _, hI, h, hn => by
    obtain rfl := Option.some.inj h
    exact hn E a w hI
  | o :: l, k, s, E, a, w, hl, hI, h, hn => by
    simp only [runOps, Option.bind_eq_some_iff] at h
    obtain ⟨s', h1, h2⟩ := h
    have ho : ops[k]? = some o := by have := hl 0; simpa using this.symm
    simp only [List.length_cons, List.range'_succ, wpOpsIn, ho]
    exact yield_wp hK hI h1 (fun E' a' w' hI' => runOps_wp hK l (k + 1) s' E' a' w' (fun j => by have := hl (j + 1); simpa [Nat.add_assoc, Nat.add_comm 1 j] using this) hI' h2 hn)

theorem IV.forget (h : IV C B E0 H0 w0 E s a w) : IV C B E0 H0 w0 E { s with T := [] } a w := by
  refine ⟨⟨h.sr.sim, fun t => ?_, h.sr.size, h.sr.len⟩, h.tr, h.marks, h.sub⟩
  have := h.sr.vals t
  unfold St.get at this ⊢
  split
  · rename_i hb; simpa [hb] using this
  · trivial

end
end Go.X
/-
  Operations that change nothing; what an operation hangs on; parts of a state hidden.
-/
namespace Go.X
open Go.RowKit (Below)

section
variable {C : Ctx} {s s' : St}

mutual
theorem AV.beq_eq : ∀ (x y : AV), x.beq y = true → x = y
  | .int j a, y, h => by cases y <;> simp_all [AV.beq]
  | .bool a, y, h => by cases y <;> simp_all [AV.beq]
  | .str a, y, h => by cases y <;> simp_all [AV.beq]
  | .nilp, y, h => by cases y <;> simp_all [AV.beq]
  | .ptr p, y, h => by cases y <;> simp_all [AV.beq]
  | .nils, y, h => by cases y <;> simp_all [AV.beq]
  | .sl p a b c d, y, h => by cases y <;> simp_all [AV.beq]
  | .nilm, y, h => by cases y <;> simp_all [AV.beq]
  | .nilf, y, h => by cases y <;> simp_all [AV.beq]
  | .hnd a b, y, h => by cases y <;> simp_all [AV.beq]
  | .nili, y, h => by cases y <;> simp_all [AV.beq]
  | .iface t v, y, h => by
    cases y <;> simp [AV.beq] at h
    rw [h.1, AV.beq_eq v _ h.2]
  | .agg n xs, y, h => by
    cases y <;> simp [AV.beq] at h
    rw [h.1, beqL_eq xs _ h.2]
  | .arr n xs, y, h => by
    cases y <;> simp [AV.beq] at h
    rw [h.1, beqL_eq xs _ h.2]
  | .isl n xs, y, h => by
    cases y <;> simp [AV.beq] at h
    rw [h.1, beqL_eq xs _ h.2]
  | .iptr v, y, h => by
    cases y <;> simp [AV.beq] at h
    rw [AV.beq_eq v _ h]
  | .map i, y, h => by cases y <;> simp_all [AV.beq]
  | .bad, y, h => by simp [AV.beq] at h
  | .func .., y, h => by simp [AV.beq] at h
  | .tuple _, y, h => by simp [AV.beq] at h
theorem beqL_eq : ∀ (x y : List AV), beqL x y = true → x = y
  | [], y, h => by cases y <;> simp_all [beqL]
  | x :: xs, y, h => by
    cases y <;> simp [beqL] at h
    rw [AV.beq_eq x _ h.1, beqL_eq xs _ h.2]
end

theorem mm (r : Option AV) (H1 H2 : Heap) : (r.map fun v => (v, H2, false)) = (r.map fun v => (v, H1, false)).map fun (r : AV × Heap × Bool) => (r.1, H2, false) := by cases r <;> rfl

theorem quiet_map {op : Op} {ty : TypeId} (hl : isLoud C.P op = false) (hr : isRead op = false) (H2 : Heap) : evalOp C { s with H := H2 } op ty = (evalOp C s op ty).map fun r => (r.1, H2, false) := by
  have hevf : ∀ H2, St.eval C.A { s with H := H2 } = s.eval C.A := fun H2 => funext (fun x => by cases x <;> rfl)
  cases op <;> simp only [isLoud, isRead, reduceCtorEq] at hl hr <;> simp only [evalOp, hevf]
  case move x => exact mm _ _ _
  case assign x => exact mm _ _ _
  case pick c x y =>
    cases s.eval C.A c <;> try rfl
    rename_i b
    cases b <;> rfl
  case build t ps => exact mm _ _ _
  case nilCheck x =>
    cases s.eval C.A x <;> try rfl
    rename_i f _ _
    cases f <;> rfl
  case binOp o t x y yt =>
    cases (s.eval C.A x).scalar <;> cases (s.eval C.A y).scalar <;> try rfl
    · simp only
      split
      · rfl
      · cases o <;> first | rfl | exact mm _ _ _
    · exact mm _ _ _
  case unOp o t x => exact mm _ _ _
  case sliceToArrayPointer t x =>
    cases C.P.underlying t <;> try rfl
    rename_i d
    cases d <;> try rfl
    cases s.eval C.A x <;> try rfl
    · simp only
      split
      · split <;> rfl
      · rfl
    · simp only
      split <;> rfl
  case makeInterface t x =>
    cases C.P.underlying t <;> try rfl
    rename_i d
    cases d <;> first | rfl | (simp only; split <;> rfl)
  case makeFunc fn first captured =>
    cases fn <;> try rfl
    simp only
    split <;> rfl
  case fieldAddr t x f => exact mm _ _ _
  case field t x f => exact mm _ _ _
  case indexAddr t x i => exact mm _ _ _
  case index t x i => exact mm _ _ _
  case typeAssert x xt as ok => exact mm _ _ _
  case extract t i =>
    cases s.eval C.A t <;> first | rfl | exact mm _ _ _
  case call c =>
    obtain ⟨callee, args, argTypes⟩ := c
    cases callee with
    | value f => simp at hl
    | invoke r m => simp at hl
    | builtin b =>
      simp only
      generalize args.toList.map (s.eval C.A) = avs
      cases b <;> simp only [reduceCtorEq] at hl
      case len =>
        match avs with
        | [] => rfl
        | [x] =>
          simp only [evalBuiltin]
          cases argTypes[0]? with
          | none => rfl
          | some t =>
            simp only [Option.bind_some]
            cases C.P.underlying t with
            | none => rfl
            | some d =>
              cases d <;> try rfl
              · cases x <;> rfl
              · rename_i u
                simp only
                cases C.P.underlying u with
                | none => rfl
                | some d => cases d <;> rfl
              · cases x <;> first | rfl | exact mm _ _ _
        | _ :: _ :: _ => rfl
      case min =>
        match avs with
        | [] => rfl
        | x :: xs => exact mm _ _ _
      case max =>
        match avs with
        | [] => rfl
        | x :: xs => exact mm _ _ _

theorem quiet_ok {op : Op} {ty : TypeId} {v : AV} {H' : Heap} {e : Bool} (h : evalOp C s op ty = some (v, H', e)) (hl : isLoud C.P op = false) : H' = s.H ∧ e = false ∧
    (isRead op = false → ∀ H2, evalOp C { s with H := H2 } op ty = some (v, H2, false)) := by
  by_cases hr : isRead op = true
  · refine (fun (k : H' = s.H ∧ e = false) => ⟨k.1, k.2, fun hh => by simp [hr] at hh⟩) ?_
    cases op <;> simp only [isRead, reduceCtorEq] at hr
    case load t x =>
      cases x <;> (simp only [evalOp] at h; exact (q_inv h).2)
    case convert src d x =>
      simp only [evalOp, Option.map_eq_some_iff, Prod.mk.injEq, Prod.exists] at h
      obtain ⟨v1, H1, h1, rfl, rfl, rfl⟩ := h
      refine ⟨?_, rfl⟩
      unfold convertAV at h1
      split at h1
      · exact (Prod.mk.inj (Option.some.inj h1)).2.symm
      · exact (Prod.mk.inj (Option.some.inj h1)).2.symm
      · rename_i hu _; simp [isLoud, hu] at hl
      · split at h1
        · simp only [Option.bind_eq_some_iff, Option.map_eq_some_iff, Prod.mk.injEq] at h1
          obtain ⟨_, _, _, _, _, h2⟩ := h1
          exact h2.symm
        · simp at h1
      · simp at h1
    case slice t x lo hi mx =>
      cases mx with
      | none => simp only [evalOp] at h; exact (q_inv h).2
      | some m =>
        cases hi with
        | none => simp [evalOp] at h
        | some hi => simp only [evalOp] at h; exact (q_inv h).2
  · have hr' : isRead op = false := by simpa using hr
    have k := fun H2 => quiet_map (C := C) (s := s) (ty := ty) hl hr' H2
    have k0 := k s.H
    rw [show ({ s with H := s.H } : St) = s from rfl, h] at k0
    simp only [Option.map_some, Option.some.injEq, Prod.mk.injEq, true_and] at k0
    exact ⟨k0.1, k0.2, fun _ H2 => by rw [k, h]; rfl⟩

theorem evalOp_congr {op : Op} {ty : TypeId} (hH : s.H = s'.H) (h : ∀ x ∈ op.operands.toList, s.eval C.A x = s'.eval C.A x) : evalOp C s op ty = evalOp C s' op ty := by
  cases op <;> try simp only [evalOp]
  case load t x =>
    cases x with
    | global g => simp only; rw [hH]
    | tmp t => simp only; rw [hH, h (.tmp t) (by simp [Op.operands])]
    | const c => simp only; rw [hH]; rfl
    | func f => simp only; rw [hH]; rfl
  case build t ps =>
    have : (ps.toList.map fun x => (x.1, s.eval C.A x.2)) = ps.toList.map fun x => (x.1, s'.eval C.A x.2) := List.map_congr_left (fun x hx => by
      rw [h x.2 (by simp only [Op.operands, List.mem_map]; exact ⟨x, hx, rfl⟩)])
    rw [hH, this]
  case buildSlice t n ps =>
    have : (ps.toList.map fun x => (x.1, s.eval C.A x.2)) = ps.toList.map fun x => (x.1, s'.eval C.A x.2) := List.map_congr_left (fun x hx => by
      rw [h x.2 (by simp only [Op.operands, List.mem_map]; exact ⟨x, hx, rfl⟩)])
    rw [hH, this]
  case makeFunc fn first captured =>
    have h1 : first.toList.map (s.eval C.A) = first.toList.map (s'.eval C.A) := List.map_congr_left (fun x hx => h x (by simp [Op.operands]; left; simpa using hx))
    have h2 : captured.toList.map (s.eval C.A) = captured.toList.map (s'.eval C.A) := List.map_congr_left (fun x hx => h x (by simp [Op.operands]; right; simpa using hx))
    rw [hH, h1, h2]
  case slice t x lo hi mx =>
    cases mx with
    | some m =>
      cases hi with
      | none => rfl
      | some hi =>
        simp only
        have h0 := h x (by simp [Op.operands])
        have h1 : lo.map (s.eval C.A) = lo.map (s'.eval C.A) := by
          cases lo with
          | none => rfl
          | some y => simp only [Option.map_some]; rw [h y (by simp [Op.operands])]
        rw [hH, h0, h1, h hi (by simp [Op.operands]), h m (by simp [Op.operands])]
    | none =>
      simp only
      have h0 := h x (by simp [Op.operands])
      have h1 : lo.map (s.eval C.A) = lo.map (s'.eval C.A) := by
        cases lo with
        | none => rfl
        | some y => simp only [Option.map_some]; rw [h y (by simp [Op.operands])]
      have h2 : hi.map (s.eval C.A) = hi.map (s'.eval C.A) := by
        cases hi with
        | none => rfl
        | some y => simp only [Option.map_some]; rw [h y (by simp [Op.operands])]
      rw [hH, h0, h1, h2]
  case makeMap t r =>
    cases r with
    | none => simp only; rw [hH]
    | some r => rfl
  case lookup t x i ok => rw [hH, h x (by simp [Op.operands]), h i (by simp [Op.operands])]
  case mapUpdate t m k v => rw [hH, h m (by simp [Op.operands]), h k (by simp [Op.operands]), h v (by simp [Op.operands])]
  case call c =>
    have h1 : c.args.toList.map (s.eval C.A) = c.args.toList.map (s'.eval C.A) := List.map_congr_left (fun x hx => h x (by simp [Op.operands, Call.operands]; right; simpa using hx))
    rw [h1]
    cases hc : c.callee with
    | builtin b =>
      simp only
      unfold evalBuiltin
      rw [hH]
    | value f =>
      simp only
      rw [h f (by simp [Op.operands, Call.operands, hc])]
      congr 1
      funext x
      unfold enterAV
      rw [hH]
    | invoke r m =>
      simp only
      rw [h r (by simp [Op.operands, Call.operands, hc])]
      congr 1
      funext x
      unfold enterAV
      rw [hH]
  all_goals first
    | rfl
    | (simp only [hH]; done)
    | (rename_i x; simp only [hH, h x (by simp [Op.operands])]; done)
    | (rename_i x _; simp only [hH, h x (by simp [Op.operands])]; done)
    | (rename_i x y; simp only [hH, h x (by simp [Op.operands]), h y (by simp [Op.operands])]; done)
    | (rename_i x y _; simp only [hH, h x (by simp [Op.operands]), h y (by simp [Op.operands])]; done)
    | (rename_i x _ _; simp only [hH, h x (by simp [Op.operands])]; done)
    | (rename_i x y z; simp only [hH, h x (by simp [Op.operands]), h y (by simp [Op.operands]), h z (by simp [Op.operands])]; done)
    | (rename_i x _ _ _; simp only [hH, h x (by simp [Op.operands])]; done)

/-! Some temporaries hidden. -/
def hide (dead : Nat → Bool) (s : St) : St :=
  { s with L := s.L.map fun x => if dead x.1 then (x.1, .bad) else x, T := s.T.map fun x => if dead x.1 then (x.1, .bad) else x }

theorem look_hide (dead : Nat → Bool) (t : Nat) : ∀ (l : List (Nat × AV)), look (l.map fun x => if dead x.1 then (x.1, .bad) else x) t = if dead t then .bad else look l t
  | [] => by simp [look]
  | (k, v) :: l => by
    have ih := look_hide dead t l
    simp only [List.map_cons]
    by_cases hk : k = t
    · subst hk
      by_cases hd : dead k <;> simp [look, hd]
    · by_cases hd : dead k <;> simp [look, hd, hk, ih]

theorem hide_get (dead : Nat → Bool) (s : St) (A : FAnn) (t : Nat) : (hide dead s).get A t = if dead t then .bad else s.get A t := by
  unfold hide St.get
  split <;> exact look_hide dead t _

theorem set_get_ne {A : FAnn} {s : St} {d t : Nat} {v : AV} (h : d ≠ t) : (s.set A d v).get A t = s.get A t := by
  unfold St.set St.get
  split
  · split
    · simp only; rw [look_upd, if_neg (fun e => h e.symm)]
    · rfl
  · split
    · rfl
    · simp [look, h]

theorem set_get_self {A : FAnn} {s : St} {d : Nat} {v : AV} : (s.set A d v).get A d = v ∨ (s.set A d v).get A d = .bad := by
  unfold St.set St.get
  split
  · simp only; exact look_upd_self _ _ _
  · simp [look]

theorem stepOp_get {ops : List Oper} {o : Oper} (h : stepOp C ops s o = some s') {t : Nat} (ht : o.dst ≠ some t) : s'.get C.A t = s.get C.A t := by
  obtain ⟨b, _, h⟩ := stepOp_res h
  rcases h with ⟨_, v, H', e, _, rfl⟩ | ⟨_, rfl⟩
  · unfold St.res
    split
    · rename_i d hd
      exact set_get_ne (fun e => ht (by rw [hd, e]))
    · rfl
  · split
    · rename_i d hd
      exact set_get_ne (fun e => ht (by rw [hd, e]))
    · rfl

theorem quiet_step {ops : List Oper} {o : Oper} (h : stepOp C ops s o = some s') (hl : isLoud C.P o.op = false) : s'.H = s.H ∧ s'.esc = s.esc := by
  obtain ⟨b, _, h⟩ := stepOp_res h
  rcases h with ⟨_, v, H', e, he, rfl⟩ | ⟨_, rfl⟩
  · obtain ⟨h1, h2, _⟩ := quiet_ok he hl
    exact ⟨by rw [St.res_H, h1], by rw [St.res_esc, h2]; simp⟩
  · split
    · exact ⟨St.set_H _ _ _ _, St.set_esc _ _ _ _⟩
    · exact ⟨rfl, rfl⟩

end
end Go.X
/-
  Regions that draw their order.
-/
namespace Go.X
open Go.RowKit (Below)

section
variable {P : Program} {ops : List Oper}

/-- A set of operations that goes down. -/
def Down (ops : List Oper) (S : Nat → Prop) : Prop := ∀ i o, S i → ops[i]? = some o → ∀ j ∈ precs o, S j

/-- What a mask says of those who come before. -/
def Says (ops : List Oper) (js : List Nat) (x : Nat) : Prop :=
  ∀ S, Down ops S → (∀ j ∈ js, S j) → ∀ j, x.testBit j = true → S j

def TabOk (ops : List Oper) (tab : List (Nat × Nat)) : Prop := ∀ i x, tab.lookup i = some x → ∃ o, ops[i]? = some o ∧ Says ops (precs o) x

theorem ancOf_ok {tab : List (Nat × Nat)} (ht : TabOk ops tab) : ∀ (js : List Nat) (x : Nat), ancOf tab js = some x → Says ops js x ∧ ∀ j ∈ js, (tab.lookup j).isSome = true
  | [], x, h => by
    obtain rfl := Option.some.inj h
    exact ⟨fun S hS hj j h => by simp at h, fun j hj => by simp at hj⟩
  | j :: r, x, h => by
    simp only [ancOf, Option.bind_eq_some_iff, Option.map_eq_some_iff] at h
    obtain ⟨y, hy, z, hz, rfl⟩ := h
    obtain ⟨ih1, ih2⟩ := ancOf_ok ht r z hz
    obtain ⟨o, ho, hsay⟩ := ht j y hy
    refine ⟨fun S hS hj k hk => ?_, fun k hk => ?_⟩
    · have hSj := hj j List.mem_cons_self
      simp only [Nat.testBit_or, Bool.or_eq_true, Nat.testBit_two_pow, decide_eq_true_eq] at hk
      rcases hk with (rfl | hk) | hk
      · exact hSj
      · exact hsay S hS (hS j o hSj ho) k hk
      · exact ih1 S hS (fun k hk => hj k (List.mem_cons_of_mem _ hk)) k hk
    · rcases List.mem_cons.1 hk with rfl | hk
      · rw [hy]; rfl
      · exact ih2 k hk

theorem dstsMask_bit : ∀ (l : List Oper) (t : Nat), (dstsMask l).testBit t = true ↔ ∃ o ∈ l, o.dst = some t
  | [], t => by simp [dstsMask]
  | o :: l, t => by
    have ih := dstsMask_bit l t
    have hc : dstsMask (o :: l) = (match o.dst with | some d => 2 ^ d | none => 0) ||| dstsMask l := rfl
    rw [hc, Nat.testBit_or, Bool.or_eq_true, ih]
    constructor
    · rintro (h | ⟨o', ho', hd⟩)
      · split at h
        · rename_i d hd
          simp only [Nat.testBit_two_pow, decide_eq_true_eq] at h
          exact ⟨o, List.mem_cons_self, by rw [hd, h]⟩
        · simp at h
      · exact ⟨o', List.mem_cons_of_mem _ ho', hd⟩
    · rintro ⟨o', ho', hd⟩
      rcases List.mem_cons.1 ho' with rfl | ho'
      · left; rw [hd]; simp
      · exact .inr ⟨o', ho', hd⟩

theorem dstsOk_ok : ∀ (l : List Oper), dstsOk l = true → ∀ (i j : Nat) (o o' : Oper) (d : Nat), l[i]? = some o → l[j]? = some o' → o.dst = some d → o'.dst = some d → i = j
  | [], _, i, j, o, o', d, hi, _, _, _ => by simp at hi
  | x :: l, h, i, j, o, o', d, hi, hj, ho, ho' => by
    simp only [dstsOk, Bool.and_eq_true] at h
    have hno : ∀ {k : Nat} {u : Oper}, l[k]? = some u → u.dst = some d → x.dst ≠ some d := fun {k u} hk hu hx => by
      have h1 := h.1
      rw [hx] at h1
      simp only [Bool.not_eq_true'] at h1
      have := (dstsMask_bit l d).2 ⟨u, List.mem_of_getElem? hk, hu⟩
      rw [this] at h1
      simp at h1
    cases i <;> cases j
    · rfl
    · simp only [List.getElem?_cons_zero, Option.some.injEq, List.getElem?_cons_succ] at hi hj
      subst hi
      exact absurd ho (hno hj ho')
    · simp only [List.getElem?_cons_zero, Option.some.injEq, List.getElem?_cons_succ] at hi hj
      subst hj
      exact absurd ho' (hno hi ho)
    · simp only [List.getElem?_cons_succ] at hi hj
      rw [dstsOk_ok l h.2 _ _ o o' d hi hj ho ho']

/-- What is known of each operation of the order. -/
structure Place (ops : List Oper) (seen : Nat → Prop) (i : Nat) : Prop where
  op : ∃ o, ops[i]? = some o ∧ ∀ j ∈ precs o, seen j
  new : ¬ seen i

theorem ancTab_ok : ∀ (order : List Nat) (tab tab' : List (Nat × Nat)), TabOk ops tab → ancTab ops order tab = some tab' → TabOk ops tab' ∧
    ∀ pre i post, order = pre ++ i :: post → Place ops (fun j => j ∈ pre ∨ (tab.lookup j).isSome = true) i
  | [], tab, tab', ht, h => by
    obtain rfl := Option.some.inj h
    exact ⟨ht, fun pre i post h => by simp at h⟩
  | i :: r, tab, tab', ht, h => by
    simp only [ancTab, Option.bind_eq_some_iff] at h
    obtain ⟨o, ho, x, hx, h⟩ := h
    split at h
    · rename_i hnew
      simp only [Option.isNone_iff_eq_none] at hnew
      obtain ⟨hsay, hin⟩ := ancOf_ok ht _ _ hx
      have ht2 : TabOk ops ((i, x) :: tab) := fun j y hj => by
        rw [List.lookup_cons] at hj
        split at hj
        · rename_i hji
          have hji' : j = i := by simpa using hji
          subst hji'
          obtain rfl := Option.some.inj hj
          exact ⟨o, ho, hsay⟩
        · exact ht j y hj
      obtain ⟨ih1, ih2⟩ := ancTab_ok r _ tab' ht2 h
      refine ⟨ih1, fun pre k post hk => ?_⟩
      cases pre with
      | nil =>
        simp only [List.nil_append, List.cons.injEq] at hk
        obtain ⟨rfl, rfl⟩ := hk
        refine ⟨⟨o, ho, fun j hj => .inr (hin j hj)⟩, ?_⟩
        rintro (hh | hh)
        · simp at hh
        · rw [hnew] at hh; simp at hh
      | cons q pre =>
        simp only [List.cons_append, List.cons.injEq] at hk
        obtain ⟨rfl, rfl⟩ := hk
        obtain ⟨⟨o2, h1, h2⟩, h4⟩ := ih2 pre k post rfl
        have hconv : ∀ j, (j ∈ pre ∨ (List.lookup j ((i, x) :: tab)).isSome = true) ↔ (j ∈ i :: pre ∨ (tab.lookup j).isSome = true) := fun j => by
          rw [List.lookup_cons]
          by_cases hj : j = i
          · subst hj; simp
          · have hb : (j == i) = false := by simpa using hj
            rw [hb]
            simp [hj]
        exact ⟨⟨o2, h1, fun j hj => (hconv j).1 (h2 j hj)⟩, fun hh => h4 ((hconv k).2 hh)⟩
    · simp at h

/-- i comes before j, whatever the order. -/
def Bef (ops : List Oper) (i j : Nat) : Prop := ∀ S o, Down ops S → ops[j]? = some o → (∀ k ∈ precs o, S k) → S i

theorem bef_ok {tab : List (Nat × Nat)} (ht : TabOk ops tab) {i j : Nat} (h : bef tab i j = true) : Bef ops i j := by
  unfold bef at h
  split at h
  · rename_i x hx
    obtain ⟨o, ho, hsay⟩ := ht j x hx
    intro S o' hS ho' hp
    obtain rfl : o = o' := by rw [ho] at ho'; exact Option.some.inj ho'
    exact hsay S hS hp i h
  · simp at h

theorem avail_ok {tab : List (Nat × Nat)} (ht : TabOk ops tab) (h : availOk ops tab = true) {i j t : Nat} {oi oj : Oper} (hj : ops[j]? = some oj) (hd : oj.dst = some t) (hi : ops[i]? = some oi) (hr : t ∈ readsOf ops oi) : Bef ops j i ∨ (Bef ops i j ∧ isRead oi.op = false) := by
  simp only [availOk, List.all_eq_true, List.mem_range] at h
  have h1 := h j (List.getElem?_eq_some_iff.1 hj).1
  simp only [hj, Option.bind_some, hd, List.all_eq_true, List.mem_range] at h1
  have h2 := h1 i (List.getElem?_eq_some_iff.1 hi).1
  simp only [hi, Bool.or_eq_true, Bool.and_eq_true, Bool.not_eq_true', List.contains_eq_mem, decide_eq_false_iff_not] at h2
  rcases h2 with (h2 | h2) | h2
  · exact absurd hr h2
  · exact .inl (bef_ok ht h2)
  · exact .inr ⟨bef_ok ht h2.1, h2.2⟩

/-- x, then y; or y only makes a block, and who reads of it comes behind x. -/
def Pair (ops : List Oper) (flo : List Nat) (x y : Nat) : Prop :=
  Bef ops x y ∨ (y ∈ flo ∧ ∃ o t, ops[y]? = some o ∧ isAllocOp o.op = true ∧ o.guard = none ∧ o.dst = some t ∧ ∀ d od, ops[d]? = some od → t ∈ readsOf ops od → Bef ops x d ∨ Bef ops d y)

theorem pair_ok {tab : List (Nat × Nat)} (ht : TabOk ops tab) {flo : List Nat} {x y : Nat} (h : pairOk ops tab flo x y = true) : Pair ops flo x y := by
  simp only [pairOk, Bool.or_eq_true, Bool.and_eq_true] at h
  rcases h with h | ⟨h1, h2⟩
  · exact .inl (bef_ok ht h)
  · refine .inr ⟨by simpa using h1, ?_⟩
    split at h2
    · rename_i o ho
      simp only [Bool.and_eq_true, Option.isNone_iff_eq_none] at h2
      obtain ⟨⟨g1, g2⟩, g3⟩ := h2
      split at g3
      · rename_i t hd
        refine ⟨o, t, ho, g1, g2, hd, fun d od hod hr => ?_⟩
        simp only [List.all_eq_true, List.mem_range] at g3
        have := g3 d (List.getElem?_eq_some_iff.1 hod).1
        simp only [hod, Bool.or_eq_true, Bool.not_eq_true', List.contains_eq_mem, decide_eq_false_iff_not] at this
        rcases this with (k | k) | k
        · exact absurd hr k
        · exact .inl (bef_ok ht k)
        · exact .inr (bef_ok ht k)
      · simp at g3
    · simp at h2

theorem pairs_ok {tab : List (Nat × Nat)} (ht : TabOk ops tab) {flo : List Nat} : ∀ (l : List Nat), pairsOk ops tab flo l = true → l.Pairwise (Pair ops flo)
  | [], _ => .nil
  | x :: r, h => by
    simp only [pairsOk, Bool.and_eq_true, List.all_eq_true] at h
    exact List.pairwise_cons.2 ⟨fun y hy => pair_ok ht (h.1 y hy), pairs_ok ht r h.2⟩

theorem readsOk_ok {tab : List (Nat × Nat)} {louds : List Nat} {chk : List (Nat × List Nat)} : ∀ (order : List Nat) (k : Nat), readsOk P ops tab louds chk order k = true →
    ∀ pre i post o, order = pre ++ i :: post → ops[i]? = some o → isLoud P o.op = false → isRead o.op = true → ∀ p, p ≤ louds.length →
      p = k + (pre.filter (loudAt P ops)).length ∨ p ∈ (chk.lookup i).getD [] ∨ possible tab louds i p = false
  | [], k, _, pre, i, post, o, hord, _, _, _, p, _ => by simp at hord
  | x :: r, k, h, pre, i, post, o, hord, ho, hl, hr, p, hp => by
    simp only [readsOk] at h
    cases pre with
    | nil =>
      simp only [List.nil_append, List.cons.injEq] at hord
      obtain ⟨rfl, rfl⟩ := hord
      rw [ho] at h
      simp only [hl, hr, Bool.not_true, Bool.false_or, Bool.and_eq_true, List.all_eq_true, List.mem_range, Bool.or_eq_true, beq_iff_eq, Bool.not_eq_true'] at h
      have := h.1 p (by omega)
      simp only [List.filter_nil, List.length_nil, Nat.add_zero]
      rcases this with (h1 | h1) | h1
      · exact .inl h1
      · exact .inr (.inl (by simpa using h1))
      · exact .inr (.inr h1)
    | cons q pre =>
      simp only [List.cons_append, List.cons.injEq] at hord
      obtain ⟨rfl, rfl⟩ := hord
      split at h
      · rename_i o2 ho2
        simp only [Bool.and_eq_true] at h
        have hlo : loudAt P ops x = isLoud P o2.op := by unfold loudAt; rw [ho2]
        have := readsOk_ok _ _ h.2 pre i post o rfl ho hl hr p hp
        rw [List.filter_cons, hlo]
        cases hq : isLoud P o2.op
        · simpa [hq] using this
        · rw [hq] at this
          simp only [if_true, List.length_cons] at this ⊢
          rw [show k + ((pre.filter (loudAt P ops)).length + 1) = k + 1 + (pre.filter (loudAt P ops)).length by omega]
          exact this
      · simp at h

end

section
variable {C : Ctx} {B : Nat} {E0 E : Env} {H0 : Heap} {w0 : World} {s s' sf : St} {a : Act} {w : World} {Q : Exit → Act → World → Prop} {ops : List Oper}

theorem runOrd_split {flo : List Nat} : ∀ (pre : List Nat) (i : Nat) (post : List Nat) (s sf : St) (hs : List (Heap × Bool)), runOrd C ops flo (pre ++ i :: post) s = some (sf, hs) →
    ∃ o si hpre si' hpost, ops[i]? = some o ∧ runOrd C ops flo pre s = some (si, hpre) ∧ stepOp C ops si o = some si' ∧ (i ∈ flo → lastBare si'.H = true) ∧ runOrd C ops flo post si' = some (sf, hpost) ∧
      hs = hpre ++ ((if isLoud C.P o.op then [(si'.H, si'.esc)] else []) ++ hpost)
  | [], i, post, s, sf, hs, h => by
    simp only [List.nil_append, runOrd, Option.bind_eq_some_iff] at h
    obtain ⟨o, ho, s', h1, h⟩ := h
    split at h
    · simp at h
    · rename_i hc
      simp only [Option.map_eq_some_iff, Prod.exists, Prod.mk.injEq] at h
      obtain ⟨sf', hpost, h2, rfl, rfl⟩ := h
      exact ⟨o, s, [], s', hpost, ho, rfl, h1, by simpa using hc, h2, by split <;> simp⟩
  | q :: pre, i, post, s, sf, hs, h => by
    simp only [List.cons_append, runOrd, Option.bind_eq_some_iff] at h
    obtain ⟨o, ho, s', h1, h⟩ := h
    split at h
    · simp at h
    · rename_i hc
      simp only [Option.map_eq_some_iff, Prod.exists, Prod.mk.injEq] at h
      obtain ⟨sf', hs', h2, rfl, rfl⟩ := h
      obtain ⟨o2, si, hpre, si', hpost, g1, g2, g3, g3', g4, rfl⟩ := runOrd_split pre i post s' _ hs' h2
      refine ⟨o2, si, if isLoud C.P o.op then (s'.H, s'.esc) :: hpre else hpre, si', hpost, g1, ?_, g3, g3', g4, ?_⟩
      · simp only [runOrd, ho, Option.bind_some, h1]
        rw [if_neg hc]
        simp only [g2, Option.map_some]
      · split <;> simp

theorem runOrd_len {flo : List Nat} : ∀ (pre : List Nat) (s si : St) (hpre : List (Heap × Bool)), runOrd C ops flo pre s = some (si, hpre) →
    hpre.length = (pre.filter (loudAt C.P ops)).length ∧ ((s.H, s.esc) :: hpre)[hpre.length]? = some (si.H, si.esc)
  | [], s, si, hpre, h => by
    simp only [runOrd, Option.some.injEq, Prod.mk.injEq] at h
    obtain ⟨rfl, rfl⟩ := h
    exact ⟨rfl, rfl⟩
  | q :: pre, s, si, hpre, h => by
    simp only [runOrd, Option.bind_eq_some_iff] at h
    obtain ⟨o, ho, s', h1, h⟩ := h
    split at h
    · simp at h
    · simp only [Option.map_eq_some_iff, Prod.exists, Prod.mk.injEq] at h
      obtain ⟨sf', hs', h2, rfl, rfl⟩ := h
      obtain ⟨ih1, ih2⟩ := runOrd_len pre s' sf' hs' h2
      have hlo : loudAt C.P ops q = isLoud C.P o.op := by unfold loudAt; rw [ho]
      rw [List.filter_cons, hlo]
      cases hq : isLoud C.P o.op
      · obtain ⟨k1, k2⟩ := quiet_step h1 hq
        simp only [Bool.false_eq_true, if_false]
        refine ⟨ih1, ?_⟩
        rw [← ih2, k1, k2]
      · simp only [if_true, List.length_cons]
        exact ⟨by rw [ih1], by simpa using ih2⟩

theorem runOrd_get {flo : List Nat} : ∀ (l : List Nat) (s sf : St) (hs : List (Heap × Bool)), runOrd C ops flo l s = some (sf, hs) → ∀ t, (∀ i ∈ l, ∀ o, ops[i]? = some o → o.dst ≠ some t) → sf.get C.A t = s.get C.A t
  | [], s, sf, hs, h, t, ht => by
    simp only [runOrd, Option.some.injEq, Prod.mk.injEq] at h
    rw [h.1]
  | q :: l, s, sf, hs, h, t, ht => by
    simp only [runOrd, Option.bind_eq_some_iff] at h
    obtain ⟨o, ho, s', h1, h⟩ := h
    split at h
    · simp at h
    · simp only [Option.map_eq_some_iff, Prod.exists, Prod.mk.injEq] at h
      obtain ⟨sf', hs', h2, rfl, rfl⟩ := h
      rw [runOrd_get l s' _ hs' h2 t (fun i hi => ht i (List.mem_cons_of_mem _ hi)), stepOp_get h1 (ht q List.mem_cons_self o ho)]

end
end Go.X
/-
  Regions that draw their order: whichever is drawn, the end is the notes' one. The states on the way.
-/
namespace Go.X
open Go.RowKit (Below)

section
variable {C : Ctx} {B : Nat} {E0 E E' : Env} {H0 : Heap} {w0 : World} {s s0 sf : St} {a : Act} {w w' : World} {Q : Exit → Act → World → Prop} {ops : Array Oper}

/-- An operation that makes one block, in whatever memory. -/
theorem zero_notup {P : Program} {t : TypeId} {z : AV} (h : zeroAV P t = some z) : z.isTup = false := by
  obtain ⟨i', z', _, _, hf, _⟩ := zero_spec (E := ⟨fun _ => none, fun _ _ => none, 0, fun _ => none, 0⟩) h
  have := (FR.noMap (g := false) (fl := false) hf) _ rfl
  exact this

theorem plain_notup {v : AV} (h : v.plain = true) : v.isTup = false := by
  cases v <;> first | rfl | (simp [AV.plain] at h)

theorem fill_notup {place : Nat → Option (Nat × Nat)} : ∀ {l : List (Nat × AV)} {acc r : AV}, fillAV place acc l = some r → acc.isTup = false → r.isTup = false
  | [], acc, r, h, ha => by
    obtain rfl := Option.some.inj h
    exact ha
  | (i, v) :: l, acc, r, h, ha => by
    simp only [fillAV, Option.bind_eq_some_iff] at h
    obtain ⟨x, hx, y, hy, h⟩ := h
    split at h
    · rename_i hc
      simp only [Option.bind_eq_some_iff] at h
      obtain ⟨acc', hput, h⟩ := h
      exact fill_notup h (put_notup hput (plain_notup hc.2.2))
    · simp at h

theorem alloc_shape {op : Op} {ty : TypeId} {v : AV} {H' : Heap} {e : Bool} (ha : isAllocOp op = true) (h : evalOp C s op ty = some (v, H', e)) :
    ∃ (mk : Nat → AV) (bk : Blk), (∀ H2, evalOp C { s with H := H2 } op ty = some (mk H2.length, H2 ++ [some bk], false)) ∧
      ((∃ g, mk = fun id => .ptr ⟨id, 0, [], g⟩) ∨ ∃ g sz n, mk = fun id => .sl ⟨id, 0, [], g⟩ sz n 0 n) ∧ bk.root.isTup = false := by
  have hevf : ∀ H2, St.eval C.A { s with H := H2 } = s.eval C.A := fun H2 => funext (fun x => by cases x <;> rfl)
  cases op <;> simp only [isAllocOp, reduceCtorEq] at ha <;> simp only [evalOp, hevf] at h ⊢
  case alloc t =>
    simp only [Option.map_eq_some_iff] at h
    obtain ⟨z, hz, _⟩ := h
    exact ⟨fun id => .ptr ⟨id, 0, [], z.flatLen⟩, ⟨z, false, z.refless⟩, fun H2 => by rw [hz]; rfl, .inl ⟨_, rfl⟩, zero_notup hz⟩
  case box t x =>
    split at h
    · rename_i hp
      exact ⟨fun id => .ptr ⟨id, 0, [], (s.eval C.A x).flatLen⟩, ⟨s.eval C.A x, false, (s.eval C.A x).refless⟩, fun H2 => by rw [if_pos hp]; rfl, .inl ⟨_, rfl⟩, plain_notup hp⟩
    · simp at h
  case buildSlice t len ps =>
    split at h
    · rename_i el hu
      simp only [Option.bind_eq_some_iff] at h
      obtain ⟨sz, hsz, h⟩ := h
      split at h
      · rename_i hc
        simp only [Option.map_eq_some_iff] at h
        obtain ⟨r, hr, _⟩ := h
        have hrt : r.isTup = false := by
          split at hr
          · split at hr
            · obtain rfl := Option.some.inj hr; rfl
            · cases hr
          · simp only [Option.bind_eq_some_iff] at hr
            obtain ⟨z, _, hr⟩ := hr
            split at hr
            · exact fill_notup hr rfl
            · cases hr
        exact ⟨fun id => .sl ⟨id, 0, [], sz * len⟩ sz len 0 len, ⟨r, true, r.refless⟩, fun H2 => by
          rw [hsz]
          simp only [Option.bind_some]
          rw [if_pos hc, hr]
          rfl, .inr ⟨_, _, _, rfl⟩, hrt⟩
      · simp at h
    · simp at h
  case makeSlice t l c =>
    split at h
    · rename_i el hu
      simp only [Option.bind_eq_some_iff] at h
      obtain ⟨sz, hsz, by_, hby, nl, hl, nc, hc, z, hz, h⟩ := h
      split at h
      · rename_i hh
        exact ⟨fun id => .sl ⟨id, 0, [], sz * nl⟩ sz nl 0 nl, ⟨.arr sz (List.replicate nl z), true, true⟩, fun H2 => by
          rw [hsz, hby, hl, hc, hz]
          simp only [Option.bind_some]
          rw [if_pos hh]
          rfl, .inr ⟨_, _, _, rfl⟩, rfl⟩
      · simp at h
    · simp at h

theorem mk_move {mk : Nat → AV} (hm : (∃ g, mk = fun id => .ptr ⟨id, 0, [], g⟩) ∨ ∃ g sz n, mk = fun id => .sl ⟨id, 0, [], g⟩ sz n 0 n) {id : Nat} {L : Loc} {c : Value} (hv : VR E (mk id) c) (hL : E.loc id = some L) {E2 : Env} {T : Nat}
    (h2 : E2.loc T = some L) (hT : T < E2.top) : VR E2 (mk T) c := by
  rcases hm with ⟨g, rfl⟩ | ⟨g, sz, n, rfl⟩
  · obtain ⟨cs, h1, rfl⟩ := (show PR E (.ptr ⟨id, 0, [], g⟩) c from hv)
    refine VR.of_PR (v := .ptr ⟨T, 0, [], g⟩) ?_
    cases h1 with
    | ptr k1 k2 k3 => exact ⟨_, .ptr hT (fun L' hL' => by
        obtain rfl : L = L' := by rw [h2] at hL'; exact Option.some.inj hL'
        exact k2 L hL) .nil, rfl⟩
  · obtain ⟨cs, h1, rfl⟩ := (show PR E (.sl ⟨id, 0, [], g⟩ sz n 0 n) c from hv)
    refine VR.of_PR (v := .sl ⟨T, 0, [], g⟩ sz n 0 n) ?_
    cases h1 with
    | sl k1 k2 k3 k4 k5 => exact ⟨_, .sl hT k2 (fun L' hL' => by
        obtain rfl : L = L' := by rw [h2] at hL'; exact Option.some.inj hL'
        exact k3 L hL) k4 .nil, rfl⟩

def dead (ops : Array Oper) (listed : Array Bool) (t : Nat) : Bool :=
  (List.range ops.size).any fun i => !listed.getD i true && ((ops.toList[i]?).bind (·.dst)) == some t

def pendB (ops : Array Oper) (listed : Array Bool) (L2 : List Nat) (t : Nat) : Bool :=
  L2.any fun y => listed.getD y false && ((ops.toList[y]?).bind (·.dst)) == some t

/-- The state on the way: what is written has its last value, what is not its first one; of what was made early nothing is told. -/
def stAt (pend dead : Nat → Bool) (s0 sf : St) (h : Heap × Bool) : St :=
  { L := (s0.L ++ sf.L).map fun x => (x.1, if pend x.1 then .bad else if dead x.1 then look s0.L x.1 else look sf.L x.1)
    T := sf.T.map fun x => (x.1, if pend x.1 || dead x.1 then .bad else look sf.T x.1)
    H := h.1, esc := h.2 }

theorem look_fun (g : Nat → AV) (t : Nat) : ∀ (l : List (Nat × AV)), look (l.map fun x => (x.1, g x.1)) t = g t ∨ (look (l.map fun x => (x.1, g x.1)) t = .bad ∧ ∀ x ∈ l, x.1 ≠ t)
  | [] => .inr ⟨rfl, by simp⟩
  | (k, v) :: l => by
    simp only [List.map_cons, look]
    split
    · rename_i hk
      subst hk
      exact .inl rfl
    · rename_i hk
      rcases look_fun g t l with h | ⟨h1, h2⟩
      · exact .inl h
      · refine .inr ⟨h1, fun x hx => ?_⟩
        rcases List.mem_cons.1 hx with rfl | hx
        · exact hk
        · exact h2 x hx

theorem look_none {t : Nat} : ∀ {l : List (Nat × AV)}, (∀ x ∈ l, x.1 ≠ t) → look l t = .bad
  | [], _ => rfl
  | (k, v) :: l, h => by
    simp only [look]
    rw [if_neg (h (k, v) List.mem_cons_self)]
    exact look_none (fun x hx => h x (List.mem_cons_of_mem _ hx))

theorem stAt_get (pend dead : Nat → Bool) (h0 : s0.T = []) (h : Heap × Bool) (A : FAnn) (t : Nat) : (stAt pend dead s0 sf h).get A t = if pend t then .bad else if dead t then s0.get A t else sf.get A t := by
  unfold St.get stAt
  split
  · simp only
    rcases look_fun (fun k => if pend k then .bad else if dead k then look s0.L k else look sf.L k) t (s0.L ++ sf.L) with h1 | ⟨h1, h2⟩
    · exact h1
    · rw [h1]
      have e1 : look s0.L t = .bad := look_none (fun x hx => h2 x (List.mem_append.2 (.inl hx)))
      have e2 : look sf.L t = .bad := look_none (fun x hx => h2 x (List.mem_append.2 (.inr hx)))
      rw [e1, e2]
      split <;> simp
  · simp only [h0]
    rcases look_fun (fun k => if pend k || dead k then .bad else look sf.T k) t sf.T with h1 | ⟨h1, h2⟩
    · rw [h1]
      cases pend t <;> cases dead t <;> simp [look]
    · rw [h1]
      have e2 : look sf.T t = .bad := look_none h2
      rw [e2]
      simp [look]

theorem dead_true {listed : Array Bool} {t : Nat} : dead ops listed t = true ↔ ∃ i o, i < ops.size ∧ listed.getD i true = false ∧ ops.toList[i]? = some o ∧ o.dst = some t := by
  unfold dead
  simp only [List.any_eq_true, List.mem_range, Bool.and_eq_true, Bool.not_eq_true', beq_iff_eq, Option.bind_eq_some_iff]
  constructor
  · rintro ⟨i, h1, h2, o, h3, h4⟩
    exact ⟨i, o, h1, h2, h3, h4⟩
  · rintro ⟨i, o, h1, h2, h3, h4⟩
    exact ⟨i, h1, h2, o, h3, h4⟩

theorem dead_false {listed : Array Bool} {t : Nat} (h : ¬ ∃ i o, i < ops.size ∧ listed.getD i true = false ∧ ops.toList[i]? = some o ∧ o.dst = some t) : dead ops listed t = false := by
  cases hd : dead ops listed t
  · rfl
  · exact absurd (dead_true.1 hd) h

theorem pend_true {listed : Array Bool} {L2 : List Nat} {t : Nat} : pendB ops listed L2 t = true ↔ ∃ y o, y ∈ L2 ∧ listed.getD y false = true ∧ ops.toList[y]? = some o ∧ o.dst = some t := by
  unfold pendB
  simp only [List.any_eq_true, Bool.and_eq_true, beq_iff_eq, Option.bind_eq_some_iff]
  constructor
  · rintro ⟨i, h1, h2, o, h3, h4⟩
    exact ⟨i, o, h1, h2, h3, h4⟩
  · rintro ⟨i, o, h1, h2, h3, h4⟩
    exact ⟨i, h1, h2, o, h3, h4⟩

theorem pend_false {listed : Array Bool} {L2 : List Nat} {t : Nat} (h : ¬ ∃ y o, y ∈ L2 ∧ listed.getD y false = true ∧ ops.toList[y]? = some o ∧ o.dst = some t) : pendB ops listed L2 t = false := by
  cases hd : pendB ops listed L2 t
  · rfl
  · exact absurd (pend_true.1 hd) h

theorem not_both {listed : Array Bool} {i : Nat} (h : listed.getD i true = false) : ¬ listed.getD i false = true := by
  intro h2
  rcases Nat.lt_or_ge i listed.size with h' | h'
  · simp [h'] at h h2; rw [h] at h2; simp at h2
  · simp [Array.getElem?_eq_none h'] at h2

theorem either {listed : Array Bool} {i : Nat} (hi : i < listed.size) : listed.getD i true = false ∨ listed.getD i false = true := by
  simp [hi]

/-- All that the notes' check gives. -/
structure Facts (C : Ctx) (ops : Array Oper) (an : RAnn) : Prop where
  uniq : ∀ (i j : Nat) (o o' : Oper) (d : Nat), ops.toList[i]? = some o → ops.toList[j]? = some o' → o.dst = some d → o'.dst = some d → i = j
  all : ∀ i, i < ops.size → i ∈ an.order
  place : ∀ pre i post, an.order = pre ++ i :: post → Place ops.toList (fun j => j ∈ pre) i
  avail : ∀ (i j t : Nat) (oi oj : Oper), ops.toList[j]? = some oj → oj.dst = some t → ops.toList[i]? = some oi → t ∈ readsOf ops.toList oi → Bef ops.toList j i ∨ (Bef ops.toList i j ∧ isRead oi.op = false)
  pairs : (an.order.filter (loudAt C.P ops.toList)).Pairwise (Pair ops.toList an.flo)
  reads : ∃ tab, TabOk ops.toList tab ∧ ∀ pre i post o, an.order = pre ++ i :: post → ops.toList[i]? = some o → isLoud C.P o.op = false → isRead o.op = true → ∀ p, p ≤ (an.order.filter (loudAt C.P ops.toList)).length →
      p = (pre.filter (loudAt C.P ops.toList)).length ∨ p ∈ (an.chk.lookup i).getD [] ∨ possible tab (an.order.filter (loudAt C.P ops.toList)) i p = false

theorem facts {an : RAnn} (h : regionOk C.P ops.toList an = true) : Facts C ops an := by
  unfold regionOk at h
  simp only [Bool.and_eq_true, List.all_eq_true, List.mem_range] at h
  obtain ⟨⟨h1, h2⟩, h3⟩ := h
  split at h3
  · rename_i tab htab
    simp only [Bool.and_eq_true] at h3
    obtain ⟨k1, k2⟩ := ancTab_ok an.order [] tab (fun i x h => by simp at h) htab
    have hpl : ∀ pre i post, an.order = pre ++ i :: post → Place ops.toList (fun j => j ∈ pre) i := fun pre i post h => by
      obtain ⟨⟨o, g1, g2⟩, g4⟩ := k2 pre i post h
      exact ⟨⟨o, g1, fun j hj => (g2 j hj).resolve_right (by simp)⟩, fun hh => g4 (.inl hh)⟩
    refine ⟨dstsOk_ok _ h1, fun i hi => ?_, hpl, fun i j t oi oj hj hd hi hr => avail_ok k1 h3.1.1 hj hd hi hr, pairs_ok k1 _ h3.1.2, tab, k1, fun pre i post o ho hi hl hr p hp => ?_⟩
    · have := h2 i (by simpa using hi)
      simpa using this
    · have := readsOk_ok an.order 0 h3.2 pre i post o ho hi hl hr p hp
      simpa using this
  · simp at h3

/-- A block that was made early. -/
structure Pend (C : Ctx) (B : Nat) (w0 : World) (mk : Nat → AV) (bk : Blk) (E : Env) (w : World) (L : Loc) (d : Nat) (c : Value) : Prop where
  blk : BlkAt E bk L w
  low : B ≤ L.b
  out : ∀ b o, L.has b o → w0.heap.size ≤ b ∧ b < w.heap.size ∧ ¬ InE E b o ∧ E.m b o = none
  val : d < C.N → ∀ (E2 : Env) (T : Nat), E2.loc T = some L → T < E2.top → VR E2 (mk T) c

theorem Pend.later {mk : Nat → AV} {bk : Blk} {L : Loc} {d k : Nat} {c : Value} (h : Pend C B w0 mk bk E w L d c) (hr : bk.root.refs = []) (ht : Tr B k E w E' w') : Pend C B w0 mk bk E' w' L d c := by
  refine ⟨h.blk.later (k := 0) (ht.evol.mono (Nat.zero_le _)) (Nat.zero_le _) (by simp [hr]) (fun j hj => ?_), h.low, fun b o hb => ?_, h.val⟩
  · have := h.out L.b (L.base + j) ⟨rfl, by omega, by omega⟩
    exact ht.frame _ _ this.2.1 this.2.2.1
  · obtain ⟨h1, h2, h3, h4⟩ := h.out b o hb
    refine ⟨h1, Nat.lt_of_lt_of_le h2 ht.below.size, fun hin => h3 (ht.ext b o h2 hin), ?_⟩
    cases hm : E'.m b o with
    | none => rfl
    | some c' =>
      rcases ht.imm b o c' h2 hm with k | k
      · rw [h4] at k; simp at k
      · exact absurd k h3

/-- What the notes' order makes of an operation that may come early. -/
structure Canon (C : Ctx) (ops : Array Oper) (an : RAnn) (s0 : St) (y : Nat) (o : Oper) (d : Nat) (mk : Nat → AV) (bk : Blk) : Prop where
  op : ops.toList[y]? = some o
  guard : o.guard = none
  dst : o.dst = some d
  bare : bk.root.refs = []
  run : ∀ pre post si hs', an.order = pre ++ y :: post → runOrd C ops.toList an.flo pre s0 = some (si, hs') → evalOp C si o.op o.type = some (mk si.H.length, si.H ++ [some bk], false)

structure Core (C : Ctx) (B : Nat) (E0 : Env) (H0 : Heap) (w0 : World) (ops : Array Oper) (an : RAnn) (s0 sf : St) (hv : List (Heap × Bool)) (listed : Array Bool) (L1 L2 : List Nat) (h : Heap × Bool) (pl : Nat → Option Loc) (E : Env) (a : Act) (w : World) : Prop where
  louds : an.order.filter (loudAt C.P ops.toList) = L1 ++ L2
  l1 : ∀ x ∈ L1, listed.getD x false = true
  hv : hv[L1.length]? = some h
  iv : IV C B E0 H0 w0 E (stAt (pendB ops listed L2) (dead ops listed) s0 sf h) a w
  pds : ∀ y ∈ L2, listed.getD y false = true → ∃ o d mk bk L, Canon C ops an s0 y o d mk bk ∧ pl y = some L ∧ Pend C B w0 mk bk E w L d (a.tmps.getD d undef)
  apart : ∀ y y' L L', y ≠ y' → pl y = some L → pl y' = some L' → ∀ b o, L.has b o → ¬ L'.has b o
  mem : ∀ y L, pl y = some L → y ∈ L2 ∧ listed.getD y false = true

structure Inv (C : Ctx) (B : Nat) (E0 : Env) (H0 : Heap) (w0 : World) (ops : Array Oper) (an : RAnn) (s0 sf : St) (hv : List (Heap × Bool)) (listed : Array Bool) (E : Env) (a : Act) (w : World) : Prop where
  size : listed.size = ops.size
  down : Down ops.toList (fun i => listed.getD i false = true)
  mid : ∃ L1 L2 h pl, Core C B E0 H0 w0 ops an s0 sf hv listed L1 L2 h pl E a w ∧ ∀ x r, L2 = x :: r → listed.getD x true = false

theorem filter_at {α : Type} {f : α → Bool} : ∀ {l L1 L2 : List α} {x : α}, l.filter f = L1 ++ x :: L2 → ∃ pre post, l = pre ++ x :: post ∧ pre.filter f = L1 ∧ post.filter f = L2 ∧ f x = true
  | [], L1, L2, x, h => by simp at h
  | y :: l, L1, L2, x, h => by
    rw [List.filter_cons] at h
    split at h
    · rename_i hy
      cases L1 with
      | nil =>
        simp only [List.nil_append, List.cons.injEq] at h
        obtain ⟨rfl, rfl⟩ := h
        exact ⟨[], l, rfl, rfl, rfl, hy⟩
      | cons z L1 =>
        simp only [List.cons_append, List.cons.injEq] at h
        obtain ⟨rfl, h⟩ := h
        obtain ⟨pre, post, rfl, h1, h2, h3⟩ := filter_at h
        exact ⟨y :: pre, post, rfl, by rw [List.filter_cons, if_pos hy, h1], h2, h3⟩
    · rename_i hy
      obtain ⟨pre, post, rfl, h1, h2, h3⟩ := filter_at h
      exact ⟨y :: pre, post, rfl, by rw [List.filter_cons, if_neg hy, h1], h2, h3⟩

theorem split_eq {x : Nat} : ∀ {p1 p2 q1 q2 : List Nat}, x ∉ p1 → x ∉ p2 → p1 ++ x :: q1 = p2 ++ x :: q2 → p1 = p2 ∧ q1 = q2
  | [], [], q1, q2, _, _, h => by simpa using h
  | [], y :: p2, q1, q2, _, h2, h => by
    simp only [List.nil_append, List.cons_append, List.cons.injEq] at h
    exact absurd h.1 (fun e => h2 (by rw [e]; exact List.mem_cons_self))
  | y :: p1, [], q1, q2, h1, _, h => by
    simp only [List.nil_append, List.cons_append, List.cons.injEq] at h
    exact absurd h.1.symm (fun e => h1 (by rw [e]; exact List.mem_cons_self))
  | y :: p1, z :: p2, q1, q2, h1, h2, h => by
    simp only [List.cons_append, List.cons.injEq] at h
    obtain ⟨h3, h4⟩ := split_eq (fun hh => h1 (List.mem_cons_of_mem _ hh)) (fun hh => h2 (List.mem_cons_of_mem _ hh)) h.2
    exact ⟨by rw [h.1, h3], h4⟩

theorem Facts.once {an : RAnn} (F : Facts C ops an) {pre post : List Nat} {i : Nat} (h : an.order = pre ++ i :: post) : i ∉ pre ∧ i ∉ post := by
  refine ⟨(F.place pre i post h).new, fun hj => ?_⟩
  obtain ⟨q1, q2, rfl⟩ := List.append_of_mem hj
  exact (F.place (pre ++ i :: q1) i q2 (by rw [h]; simp)).new (by simp)

theorem Facts.loudOnce {an : RAnn} (F : Facts C ops an) {L1 L2 : List Nat} {x : Nat} (h : an.order.filter (loudAt C.P ops.toList) = L1 ++ x :: L2) : x ∉ L1 ∧ x ∉ L2 := by
  obtain ⟨pre, post, hord, h1, h2, _⟩ := filter_at h
  obtain ⟨k1, k2⟩ := F.once hord
  exact ⟨fun hh => k1 (by rw [← h1] at hh; exact (List.mem_filter.1 hh).1), fun hh => k2 (by rw [← h2] at hh; exact (List.mem_filter.1 hh).1)⟩

theorem Facts.loudLt {an : RAnn} {x : Nat} (hx : x ∈ an.order.filter (loudAt C.P ops.toList)) : ∃ o, ops.toList[x]? = some o ∧ x < ops.size := by
  have := (List.mem_filter.1 hx).2
  unfold loudAt at this
  split at this
  · rename_i o ho
    refine ⟨o, ho, ?_⟩
    have := (List.getElem?_eq_some_iff.1 ho).1
    simpa using this
  · simp at this

end
end Go.X
/-
  Regions that draw their order: one operation.
-/
namespace Go.X
open Go.RowKit (Below)

section
variable {C : Ctx} {B : Nat} {E0 E E' : Env} {H0 : Heap} {w0 : World} {s s0 sf : St} {a : Act} {w w' : World} {Q : Exit → Act → World → Prop} {ops : Array Oper}

theorem IV.to {v : AV} {c : Value} {H' : Heap} {e : Bool} (h : IV C B E0 H0 w0 E s a w) (hr : Res B C.n0 E s.H w v H' e E' w' c) {dst : Option Nat} {s2 : St} (hH : s2.H = H') (he : s2.esc = (s.esc || e))
    (hget : ∀ t, dst ≠ some t → s2.get C.A t = .bad ∨ s2.get C.A t = s.get C.A t) (hd : ∀ d, dst = some d → s2.get C.A d = .bad ∨ (s2.get C.A d = v ∧ (d < C.N ∨ c = undef))) : IV C B E0 H0 w0 E' s2 (a.put dst c) w' := by
  have h1 := h.sr.later hr
  refine ⟨⟨by rw [hH]; exact hr.sim, fun t => ?_, ?_, by rw [hH]; exact Nat.le_trans h.sr.len hr.len⟩, h.tr.trans (hr.tr.mono h.sr.len), h.marks.later h.sr.sim hr.tr (put_defers _ _ _), fun hesc => ?_⟩
  · by_cases ht : dst = some t
    · subst ht
      rcases hd t rfl with h2 | ⟨h2, h3⟩
      · rw [h2]; trivial
      · rw [h2]
        have : (a.put (some t) c).tmps.getD t undef = c := by
          have := h.sr.size
          simp only [Act.put]
          rcases h3 with h3 | rfl
          · simp [show t < a.tmps.size by omega]
          · by_cases hlt : t < a.tmps.size
            · simp [hlt]
            · simp [hlt]
        rw [this]
        exact hr.val
    · have hput : (a.put dst c).tmps.getD t undef = a.tmps.getD t undef := by
        cases dst with
        | none => rfl
        | some d =>
          have hdt : d ≠ t := fun e => ht (by rw [e])
          simp [Act.put, Array.getElem?_setIfInBounds_ne hdt]
      rw [hput]
      rcases hget t ht with h2 | h2
      · rw [h2]; trivial
      · rw [h2]; exact h1.vals t
  · cases dst <;> simp [Act.put, h.sr.size]
  · rw [he, Bool.or_eq_false_iff] at hesc
    rw [hH]
    exact (h.sub hesc.1).trans (hr.sub hesc.2)

theorem put_get {t : Nat} {dst : Option Nat} {c : Value} (h : dst ≠ some t) : (a.put dst c).tmps.getD t undef = a.tmps.getD t undef := by
  cases dst with
  | none => rfl
  | some d =>
    have hdt : d ≠ t := fun e => h (by rw [e])
    simp [Act.put, Array.getElem?_setIfInBounds_ne hdt]

/-- A block that was made early is taken up. -/
theorem Core.take {an : RAnn} (F : Facts C ops an) (hT : s0.T = []) {hs : List (Heap × Bool)} (hrun : runOrd C ops.toList an.flo an.order s0 = some (sf, hs)) {listed : Array Bool} {L1 r : List Nat} {y : Nat} {h : Heap × Bool} {pl : Nat → Option Loc}
    (K : Core C B E0 H0 w0 ops an s0 sf ((s0.H, s0.esc) :: hs) listed L1 (y :: r) h pl E a w) (hy : listed.getD y false = true) :
    ∃ h' E', Core C B E0 H0 w0 ops an s0 sf ((s0.H, s0.esc) :: hs) listed (L1 ++ [y]) r h' (fun z => if z = y then none else pl z) E' a w := by
  obtain ⟨hL, hL1, hh, hIV, hpds, hap, hmem⟩ := K
  obtain ⟨o, d, mk, bk, L, hc, hpl, hP⟩ := hpds y List.mem_cons_self hy
  obtain ⟨hn1, hn2⟩ := F.loudOnce hL
  obtain ⟨pre, post, hord, f1, f2, f3⟩ := filter_at hL
  obtain ⟨o2, si, hspre, si', hspost, g1, g2, g3, g3', g4, hhs⟩ := runOrd_split pre y post s0 sf hs (hord ▸ hrun)
  obtain rfl : o = o2 := by rw [hc.op] at g1; exact Option.some.inj g1
  obtain ⟨glen, glast⟩ := runOrd_len pre s0 si hspre g2
  have hlen : L1.length = hspre.length := by rw [glen, f1]
  have hhe : h = (si.H, si.esc) := by
    have : ((s0.H, s0.esc) :: hs)[hspre.length]? = some (si.H, si.esc) := by
      rw [hhs, ← List.cons_append, List.getElem?_append_left (by simp)]
      exact glast
    rw [← hlen, hh] at this
    exact Option.some.inj this
  subst hhe
  have hloud : isLoud C.P o.op = true := by
    unfold loudAt at f3
    rw [hc.op] at f3
    exact f3
  have hnext : ((s0.H, s0.esc) :: hs)[(L1 ++ [y]).length]? = some (si'.H, si'.esc) := by
    rw [hhs, hloud]
    simp [hlen]
  have hev := hc.run pre post si hspre hord g2
  obtain ⟨b, hb, hres⟩ := stepOp_res g3
  have hbt : b = true := by
    unfold wantedAV at hb
    rw [hc.guard] at hb
    exact (Option.some.inj hb).symm
  subst hbt
  have hsi' : si' = si.res C o.dst (mk si.H.length) (si.H ++ [some bk]) false := by
    rcases hres with ⟨_, v, H', e, he, h1⟩ | ⟨hf, _⟩
    · rw [hev] at he
      simp only [Option.some.injEq, Prod.mk.injEq] at he
      obtain ⟨rfl, rfl, rfl⟩ := he
      exact h1
    · simp at hf
  have hH' : si'.H = si.H ++ [some bk] := by rw [hsi', St.res_H]
  have he' : si'.esc = si.esc := by rw [hsi', St.res_esc]; simp
  have hs : Sim B E si.H w := hIV.sr.sim
  have hsim : Sim B (E.new L) (si.H ++ [some bk]) w := by
    obtain ⟨⟨cs, k1, k2, k3⟩, k4, k5⟩ := hP.blk
    exact hs.adopt k1 k2 k4 (fun _ => hc.bare) hP.low k3 k5 (fun b o hb => ⟨(hP.out b o hb).2.2.1, (hP.out b o hb).2.2.2⟩)
  have hevol : Evol E.top E (E.new L) := Env.new_evol L
  have htop : (E.new L).top = E.top + 1 := rfl
  have hloc : ∀ i, (E.new L).loc i = if i = E.top then some L else E.loc i := fun i => rfl
  have hpend : ∀ t, t ≠ d → pendB ops listed r t = pendB ops listed (y :: r) t := fun t ht => by
    unfold pendB
    rw [List.any_cons, hc.op]
    have : (Option.bind (some o) (fun x => x.dst) == some t) = false := by
      simp only [Option.bind_some, hc.dst, beq_eq_false_iff_ne, ne_eq, Option.some.injEq]
      exact fun e => ht e.symm
    rw [this]
    simp
  refine ⟨(si'.H, si'.esc), E.new L, by rw [hL]; simp, fun x hx => ?_, hnext, ⟨⟨?_, fun t => ?_, hIV.sr.size, ?_⟩, ?_, hIV.marks, fun hesc => ?_⟩, fun z hz hzl => ?_, fun z z' Lz Lz' hzz hz hz' => ?_, fun z Lz hz => ?_⟩
  · rcases List.mem_append.1 hx with hx | hx
    · exact hL1 x hx
    · rw [List.mem_singleton.1 hx]; exact hy
  · show Sim B (E.new L) si'.H w
    rw [hH']; exact hsim
  · rw [stAt_get _ _ hT]
    have hold := hIV.sr.vals t
    rw [stAt_get _ _ hT] at hold
    by_cases htd : t = d
    · subst htd
      have h1 : pendB ops listed r t = false := pend_false (by
        rintro ⟨z, oz, hz, _, hoz, hdz⟩
        rw [F.uniq _ _ _ _ _ hoz hc.op hdz hc.dst] at hz
        exact hn2 hz)
      have h2 : dead ops listed t = false := dead_false (by
        rintro ⟨z, oz, _, hz, hoz, hdz⟩
        rw [F.uniq _ _ _ _ _ hoz hc.op hdz hc.dst] at hz
        exact not_both hz hy)
      rw [h1, h2]
      simp only [Bool.false_eq_true, if_false]
      have hf : sf.get C.A t = si'.get C.A t := runOrd_get post si' sf hspost g4 t (fun m hm om hom hmd => (F.once hord).2 (by rw [F.uniq _ _ _ _ _ hc.op hom hc.dst hmd]; exact hm))
      rw [hf, hsi']
      unfold St.res
      rw [hc.dst]
      simp only
      by_cases hdN : t < C.N
      · rw [if_pos hdN]
        rcases set_get_self (A := C.A) (s := { si with H := si.H ++ [some bk], esc := si.esc || false }) (d := t) (v := mk si.H.length) with h3 | h3
        · rw [h3]
          have hst : E.top = si.H.length := hs.top
          rw [← hst]
          exact hP.val hdN _ _ (by rw [hloc, if_pos rfl]) (by rw [htop]; omega)
        · rw [h3]; trivial
      · rw [if_neg hdN]
        rcases set_get_self (A := C.A) (s := { si with H := si.H ++ [some bk], esc := si.esc || false }) (d := t) (v := AV.bad) with h3 | h3 <;> (rw [h3]; trivial)
    · rw [hpend t htd]
      exact hold.later hevol (by omega)
  · show C.n0 ≤ si'.H.length
    rw [hH', List.length_append]
    have : C.n0 ≤ si.H.length := hIV.sr.len
    omega
  · refine ⟨hIV.tr.below, hIV.tr.evol.trans (hevol.mono (by rw [hs.top]; exact hIV.sr.len)), hIV.tr.frame, fun b o hb hin => ?_, fun b o c hb hm => hIV.tr.imm b o c hb hm, hIV.tr.objs, hIV.tr.extM⟩
    obtain ⟨i, Li, hi, hh⟩ := hin
    rw [hloc] at hi
    split at hi
    · obtain rfl := Option.some.inj hi
      have := (hP.out b o hh).1
      omega
    · exact hIV.tr.ext b o hb ⟨i, Li, hi, hh⟩
  · have h1 : si.esc = false := by rw [← he']; exact hesc
    show Sub C.n0 H0 si'.H
    rw [hH']
    exact (hIV.sub h1).trans (Sub.append hIV.sr.len)
  · have hzy : z ≠ y := fun e => hn2 (by rw [← e]; exact hz)
    obtain ⟨oz, dz, mkz, bkz, Lz, hcz, hplz, hPz⟩ := hpds z (List.mem_cons_of_mem _ hz) hzl
    refine ⟨oz, dz, mkz, bkz, Lz, hcz, by rw [if_neg hzy]; exact hplz, hPz.blk.later (k := 0) (hevol.mono (Nat.zero_le _)) (Nat.zero_le _) (by simp [hcz.bare]) (fun _ _ => ⟨rfl, rfl⟩), hPz.low, fun b o hb => ?_, hPz.val⟩
    obtain ⟨q1, q2, q3, q4⟩ := hPz.out b o hb
    refine ⟨q1, q2, ?_, q4⟩
    rintro ⟨i, Li, hi, hh⟩
    rw [hloc] at hi
    split at hi
    · obtain rfl := Option.some.inj hi
      exact hap z y Lz L hzy hplz hpl b o hb hh
    · exact q3 ⟨i, Li, hi, hh⟩
  · replace hz : (if z = y then none else pl z) = some Lz := hz
    replace hz' : (if z' = y then none else pl z') = some Lz' := hz'
    split at hz
    · simp at hz
    · split at hz'
      · simp at hz'
      · exact hap z z' Lz Lz' hzz hz hz'
  · replace hz : (if z = y then none else pl z) = some Lz := hz
    split at hz
    · simp at hz
    · rename_i hzy
      obtain ⟨k1, k2⟩ := hmem z Lz hz
      exact ⟨(List.mem_cons.1 k1).resolve_left hzy, k2⟩

theorem Core.settle {an : RAnn} (F : Facts C ops an) (hT : s0.T = []) {hs : List (Heap × Bool)} (hrun : runOrd C ops.toList an.flo an.order s0 = some (sf, hs)) {listed : Array Bool} (hsize : listed.size = ops.size) :
    ∀ (L2 L1 : List Nat) (h : Heap × Bool) (pl : Nat → Option Loc) (E : Env), Core C B E0 H0 w0 ops an s0 sf ((s0.H, s0.esc) :: hs) listed L1 L2 h pl E a w →
    ∃ E' L1' L2' h' pl', Core C B E0 H0 w0 ops an s0 sf ((s0.H, s0.esc) :: hs) listed L1' L2' h' pl' E' a w ∧ ∀ x r, L2' = x :: r → listed.getD x true = false
  | [], L1, h, pl, E, K => ⟨E, L1, [], h, pl, K, fun x r hx => by simp at hx⟩
  | y :: r, L1, h, pl, E, K => by
    obtain ⟨o, _, hlt⟩ := Facts.loudLt (C := C) (ops := ops) (an := an) (x := y) (by rw [K.louds]; simp)
    rcases either (listed := listed) (i := y) (by rw [hsize]; exact hlt) with hy | hy
    · exact ⟨E, L1, y :: r, h, pl, K, fun x q hx => by
        simp only [List.cons.injEq] at hx
        rw [← hx.1]; exact hy⟩
    · obtain ⟨h', E', K'⟩ := K.take F hT hrun hy
      exact Core.settle F hT hrun hsize r _ _ _ _ K'

end
end Go.X
