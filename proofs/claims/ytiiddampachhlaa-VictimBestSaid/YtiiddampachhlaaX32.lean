/-
  The shell of a law that says 'true, whatever the input, and the input reads as it did': from an equation about the evaluator to the form's contract.
-/
import Derived.Test.YtiiddampachhlaaX31
import Derived.WalkKit
import Derived.ProofKit
import Derived.OpenShut
import Derived.ChangeOld
import Derived.Below
import Derived.Handed
import Derived.LaidHandle
import Derived.LaidLaws
import Derived.Stop.Joined
namespace Go.X
open Go.ChangeShapes Go.WideShapes Go.ChangeAt Go.RowKit

/-- Parameters that can be opened, and read again behind the call. -/
def paramsB (P : Program) (k : Nat) (ts : List TypeId) : Bool := ts.all fun t => plainT P k t && P.readableRec t && decide (t < P.types.size)

section
variable {P : Program} {W : World} {H : Type} {enc : TypeId × Value → H}

theorem Good.vr {k base : Nat} {t : TypeId} {v : AV} {c : Value} (h : Good P W k t v c.cells.toList) (hk : Value.okWide P W .any base t c) : VR (Env.start W) v c := by
  have hp : PR (Env.start W) v c := by
    refine ⟨c.cells.toList, h.fr, ?_⟩
    unfold pack
    rw [h.agg]
    unfold isAggT
    unfold Value.okWide at hk
    split at hk
    · rename_i hu
      obtain ⟨cs, rfl, _⟩ := hk
      simp [hu, Value.cells]
    · rename_i hu
      obtain ⟨cs, rfl, _⟩ := hk
      simp [hu, Value.cells]
    · rename_i h1 h2
      have hn : ∀ cs, c ≠ .agg cs := by
        rintro cs rfl
        unfold Cell.okWide at hk
        split at hk <;> simp_all
        unfold Cell.ok at hk
        split at hk <;> simp_all
      have : c.cells = #[c] := by
        cases c <;> simp_all [Value.cells]
      rw [this]
      split
      · exact (h1 _ ‹_›).elim
      · exact (h2 _ _ ‹_›).elim
      · rfl
  exact .of_PR hp

theorem args_open {k base : Nat} {held : Bool} {b0 : Nat} {spare : Nat → Bool} : ∀ {ts : List TypeId} {cs : List Value} {ds : List (DataW H)} {ps : List MemPlace}, paramsB P k ts = true →
    (∀ (j : Nat) t v, ts[j]? = some t → cs[j]? = some v → Value.okWide P W .any base t v) → DataW.TrodAll enc P W b0 spare held ts cs ds ps →
    ∃ vs, all2 (WT P k) ts vs ∧ vs.length = cs.length ∧ ∀ (i : Nat) (v : AV) (c : Value), vs[i]? = some v → cs[i]? = some c → VR (Env.start W) v c
  | [], cs, ds, ps, _, _, h => by
    obtain ⟨rfl, rfl, rfl⟩ := trodAll_nil h
    exact ⟨[], trivial, rfl, by simp⟩
  | t :: ts, cs, ds, ps, hp, hv, h => by
    obtain ⟨c, cs', d, ds', p, q, rfl, rfl, rfl, h0, r0⟩ := trodAll_cons h
    simp only [paramsB, List.all_cons, Bool.and_eq_true] at hp
    obtain ⟨⟨⟨hpt, _⟩, _⟩, hpr⟩ := hp
    obtain ⟨vs, k1, k2, k3⟩ := args_open (k := k) (ts := ts) (by simpa [paramsB] using hpr) (fun j t' v' h1 h2 => hv (j + 1) t' v' (by simpa using h1) (by simpa using h2)) r0
    obtain ⟨fuel, hf⟩ := h0
    obtain ⟨v, hg⟩ := open_ok k t fuel _ _ hpt hf
    refine ⟨v :: vs, ⟨hg.wt, k1⟩, by simp [k2], fun i v' c' h1 h2 => ?_⟩
    cases i with
    | zero =>
      simp only [List.getElem?_cons_zero, Option.some.injEq] at h1 h2
      subst h1 h2
      exact hg.vr (hv 0 t _ rfl rfl)
    | succ i => exact k3 i v' c' (by simpa using h1) (by simpa using h2)

theorem args_again {k : Nat} {W' : World} (hl : laidOutB P = true) (bel : Below W.heap.size W W') : ∀ {ts : List TypeId} {cs : List Value} {ds : List (DataW H)} {ps : List MemPlace}, paramsB P k ts = true →
    DataW.TrodAll enc P W 0 (fun _ => true) true ts cs ds ps → DataW.TrodAll enc P W' 0 (fun b => decide (b < W.heap.size)) true ts cs ds ps
  | [], cs, ds, ps, _, h => by
    obtain ⟨rfl, rfl, rfl⟩ := trodAll_nil h
    exact trodAll_mk0
  | t :: ts, cs, ds, ps, hp, h => by
    obtain ⟨c, cs', d, ds', p, q, rfl, rfl, rfl, h0, r0⟩ := trodAll_cons h
    simp only [paramsB, List.all_cons, Bool.and_eq_true, decide_eq_true_eq] at hp
    obtain ⟨⟨⟨hpt, hr⟩, hlt⟩, hpr⟩ := hp
    have lt0 : ∀ x ∈ p, x.block < W.heap.size := by obtain ⟨m, hm⟩ := h0; exact DataW.trod_lt m _ _ _ hm
    exact trodAll_cons_mk (Below.trod hl hr hlt h0 bel lt0) (args_again hl bel (by simpa [paramsB] using hpr) r0)

theorem trodAll_length {b0 : Nat} {spare : Nat → Bool} {held : Bool} : ∀ {ts : List TypeId} {cs : List Value} {ds : List (DataW H)} {ps : List MemPlace}, DataW.TrodAll enc P W b0 spare held ts cs ds ps → cs.length = ts.length ∧ ds.length = ts.length
  | [], cs, ds, ps, h => by
    obtain ⟨rfl, rfl, rfl⟩ := trodAll_nil h
    simp
  | t :: ts, cs, ds, ps, h => by
    obtain ⟨c, cs', d, ds', p, q, rfl, rfl, rfl, h0, r0⟩ := trodAll_cons h
    obtain ⟨k1, k2⟩ := trodAll_length r0
    simp [k1, k2]

/-- What the evaluator says of a law: with any arguments of its types it answers true. -/
structure Law (P : Program) (f : FuncId) (ts : List TypeId) (k : Nat) where
  U : Out
  ann : FuncId → FAnn
  fuel : Nat
  n : Nat
  K : Oracle
  sound : ∀ B, OracleSound P B U.G K
  ext : ∀ B, ExtSound P B U.X
  mixed : P.follows .mixedOrders = true
  annOk : ∀ f, funcOk P (ann f) f = true
  run : ∀ vs, all2 (WT P k) ts vs → ∃ H' e, evalN P U ann fuel K n f vs [] = some (.bool true, H', e)

theorem Law.calls {f : FuncId} {ts : List TypeId} {k base : Nat} (L : Law P f ts k) (hp : paramsB P k ts = true) (hG : GlobOk L.U.G (Env.start W)) {args : Array Value} {ds : List (DataW H)} {ps : List MemPlace}
    (hv : ∀ (j : Nat) t v, ts[j]? = some t → args[j]? = some v → Value.okWide P W .any base t v) (h : DataW.TrodAll enc P W 0 (fun _ => true) true ts args.toList ds ps) :
    Calls P f args W fun en w' => en = .returned (.bool true) ∧ Below W.heap.size W w' := by
  obtain ⟨vs, k1, k2, k3⟩ := args_open hp (fun j t v h1 h2 => hv j t v h1 (by simpa using h2)) h
  obtain ⟨H', e, he⟩ := L.run vs k1
  have := run_law (cargs := args.toList) L.sound L.ext L.mixed L.annOk hG he k2 k3
  simpa using this

/-- The contract that the form asks for. -/
theorem Law.post {fn : Func} {b : TypeId} {s : ChangeSpec} {args : Array Value} {ds gs : List (DataW H)} {ps : List MemPlace} {W' : World} {k : Nat} {handsOn : Bool}
    (hr : fn.resultTypes = #[b]) (hb : P.underlying b = some .bool) (hl : laidOutB P = true) (hp : paramsB P k fn.params.toList = true) (hsv : s.vars = [])
    (hsf : ∀ ds : List (DataW H), ds.length = fn.params.size → s.fn H ds = { results := [.lit (.bool true)], args := ds })
    (hW : DataW.Whole enc P fn.params.toList s.vars false W args.toList ds gs ps) (bel : Below W.heap.size W W') : s.post enc P fn false true handsOn false W args (.bool true) W' := by
  have hW' := hW
  obtain ⟨p, q, hA, hV, rfl, hfz, hnd⟩ := hW
  rw [hsv] at hV
  obtain ⟨rfl, rfl⟩ := trodVars_none hV
  have hlen := (trodAll_length hA).2
  have hf : s.fn H (ds ++ []) = { results := [.lit (.bool true)], args := ds } := by
    rw [List.append_nil]
    exact hsf ds (by simpa using hlen)
  refine ⟨ds, [], p ++ [], [], p, [], hW', ?_, ?_, ?_, bel.frame _, fun h => by cases h⟩
  · rw [hf, hr]
    exact trodAll_mk1 ⟨1, by simp [DataW.trod, Value.cells, hb]⟩
  · rw [hf]
    exact args_again hl bel hp hA
  · rw [hf, hsv]
    exact rfl

end

section
variable {C : Checked} {os : Os} {H : Type} {enc : TypeId × Value → H}

/-- The contract of a law, no variable laid. -/
theorem Law.lifted {f : FuncId} {fn : Func} {b : TypeId} {s : ChangeSpec} {conds : List PathCond} {k : Nat} {handsOn : Bool} (L : Law C.prog f fn.params.toList k) (hG : ∀ W, GlobOk L.U.G (Env.start W))
    (own : ownKnob C.prog.godebug = none) (started : os.Started) (noInit : C.prog.inits.idxOf? f = none) (hfn : C.prog.funcs[f]? = some fn)
    (witness : ∃ (w : World) (tape : Tape) (i : Input), w.os = os ∧ (w.forCall tape i).Shaped C.prog ∧ i.vars = [] ∧ Input.okWide C.prog (w.forCall tape i) .any w.heap.size f i ∧
      s.pre6 enc C.prog fn conds false (w.forCall tape i).memory i.args ∧ ({} : Assume).holds C.prog (lone (Frame.enter C.prog f i.args .normal) [] (w.forCall tape i)))
    (hr : fn.resultTypes = #[b]) (hb : C.prog.underlying b = some .bool) (hl : laidOutB C.prog = true) (hp : paramsB C.prog k fn.params.toList = true) (hsv : s.vars = [])
    (hsf : ∀ ds : List (DataW H), ds.length = fn.params.size → s.fn H ds = { results := [.lit (.bool true)], args := ds }) :
    ReturnsInHanded {} C os f .any (s.pre6 enc C.prog fn conds false) (s.post enc C.prog fn false true handsOn false) := by
  refine returnsInHanded_of_change own started noInit hfn witness ?_
  intro W base args ds gs before hval hW _ _
  have hW' := hW
  obtain ⟨p, q, hA, hV, rfl, hfz, hnd⟩ := hW
  refine (L.calls hp (hG W) (fun j t v h1 h2 => hval j t v (by simpa using h1) h2) hA).mono fun e W' ⟨he, bel⟩ => ?_
  subst he
  exact ⟨_, rfl, Law.post hr hb hl hp hsv hsf hW' bel⟩

/-- The contract of a law, with variables laid. -/
theorem Law.lifted_laid {f : FuncId} {fn : Func} {b : TypeId} {s : ChangeSpec} {conds : List PathCond} {k : Nat} {handsOn : Bool} {laid : List (String × DataW Unit)} (L : Law C.prog f fn.params.toList k)
    (hG : ∀ W, laidMetH C.prog laid W → GlobOk L.U.G (Env.start W))
    (own : ownKnob C.prog.godebug = none) (started : os.Started) (noInit : C.prog.inits.idxOf? f = none) (hfn : C.prog.funcs[f]? = some fn)
    (witness : ∃ (w : World) (tape : Tape) (i : Input), w.os = os ∧ (w.forCall tape i).Shaped C.prog ∧ i.vars = [] ∧ Input.okWide C.prog (w.forCall tape i) .any w.heap.size f i ∧
      ((s.pre enc C.prog fn conds false (w.forCall tape i).memory i.args ∧ laidMetH C.prog laid (w.forCall tape i).memory) ∧ sizedMet enc C.prog fn (OpenSpec.ofChange s) false (w.forCall tape i).memory i.args) ∧
      ({} : Assume).holds C.prog (lone (Frame.enter C.prog f i.args .normal) [] (w.forCall tape i)))
    (hr : fn.resultTypes = #[b]) (hb : C.prog.underlying b = some .bool) (hl : laidOutB C.prog = true) (hp : paramsB C.prog k fn.params.toList = true) (hsv : s.vars = [])
    (hsf : ∀ ds : List (DataW H), ds.length = fn.params.size → s.fn H ds = { results := [.lit (.bool true)], args := ds }) :
    ReturnsInHanded {} C os f .any (fun w args => (s.pre enc C.prog fn conds false w args ∧ laidMetH C.prog laid w) ∧ sizedMet enc C.prog fn (OpenSpec.ofChange s) false w args)
      (s.post enc C.prog fn false true handsOn false) := by
  refine returnsInHanded_of_change_and (X := fun w _ => laidMetH C.prog laid w) (fun _ _ _ hh h => laidMetH.of_heap hh h) own started noInit hfn witness ?_
  intro W base args ds gs before hval hW _ _ hL _
  have hW' := hW
  obtain ⟨p, q, hA, hV, rfl, hfz, hnd⟩ := hW
  refine (L.calls hp (hG W hL) (fun j t v h1 h2 => hval j t v (by simpa using h1) h2) hA).mono fun e W' ⟨he, bel⟩ => ?_
  subst he
  exact ⟨_, rfl, Law.post hr hb hl hp hsv hsf hW' bel⟩

/-- A type's handle that is laid: the variable's one cell. -/
theorem handle_of_laid {P : Program} {W : World} {laid : List (String × DataW Unit)} {name : String} {d : DataW Unit} {bytes : List UInt8} {g u ty : Nat} (h : laidMetH P laid W) (hm : (name, d) ∈ laid) (hd : d.funcsIn? = none)
    (hn : d.handleName? = some bytes) (hg : P.globalNamed name = some g) (hu : (P.cutTypes.find? (·.1 == "internal/reflectlite.rtype")).map (·.2) = some u)
    (hone : ((List.range P.types.size).filter fun t => P.rowNamed t bytes) = [ty]) : W.cell? ⟨g, 0, none⟩ = some (.iface u (.agg #[typeHandle P ty])) := by
  have hall : handlesMet P (laid.filter fun x => x.2.handleName?.isSome) W := by
    unfold laidMetH at h
    split at h
    · rename_i he
      have h1 : (name, d) ∈ laid.filter fun x => x.2.handleName?.isSome := List.mem_filter.2 ⟨hm, by rw [show ((name, d).2.handleName? : Option (List UInt8)) = some bytes from hn]; rfl⟩
      rw [he] at h1
      cases h1
    · rename_i a as he
      rw [he]
      exact h.2
  have := hall (name, d) (List.mem_filter.2 ⟨hm, by rw [show ((name, d).2.handleName? : Option (List UInt8)) = some bytes from hn]; rfl⟩)
  rw [show ((name, d).2.funcsIn? : Option (DataW Unit)) = none from hd] at this
  obtain ⟨nm, u', ty', e1, e2, e3, e4, e5⟩ := this
  obtain rfl := Option.some.inj (hn.symm.trans e1)
  obtain rfl := Option.some.inj (hu.symm.trans e2)
  have hx : ty' ∈ (List.range P.types.size).filter fun t => P.rowNamed t bytes := List.mem_filter.2 ⟨List.mem_range.2 e3, e4⟩
  rw [hone] at hx
  obtain rfl := List.mem_singleton.1 hx
  simpa using World.var?_cell hg e5 0

/-- The variable errors.errorType, as a row lays it. -/
theorem GlobOk.handle {P : Program} {W : World} {g u ty : Nat} (h : W.cell? ⟨g, 0, none⟩ = some (.iface u (.agg #[typeHandle P ty]))) :
    GlobOk (fun i => if i = g then some (.iface u (.agg 1 [.hnd P.globals.size ty])) else none) (Env.start W) := by
  intro i v hi
  simp only at hi
  split at hi
  · rename_i hg
    subst hg
    obtain rfl := Option.some.inj hi
    refine .of_PR (v := .iptr _) ⟨[_], .iptr (c1 := [.iface u (.agg #[typeHandle P ty])]) rfl ?_ (fun j c hj => ?_) .nil, rfl⟩
    · have h1 : FR (Env.start W) [.agg 1 [.hnd P.globals.size ty]] [typeHandle P ty] := FR.agg (c1 := [typeHandle P ty]) (.hnd .nil) rfl .nil
      exact FR.iface h1 .nil
    · cases j with
      | zero =>
        simp only [List.getElem?_cons_zero, Option.some.injEq] at hj
        subst hj
        exact h
      | succ j => simp at hj
  · cases hi
end
end Go.X
