/-
  From the evaluator to a call in a world at hand: what came in is read, and never written.
-/
import Derived.Test.YtiiddampachhlaaX29
namespace Go.X
open Go.RowKit (Below)

section
variable {P : Program} {W : World}

/-- What came in: every cell as it stands. -/
def Env.start (W : World) : Env := ⟨fun _ => none, fun b o => W.cell? ⟨b, o, none⟩, 0⟩

theorem Sim.start (W : World) : Sim W.heap.size (Env.start W) [] W :=
  ⟨rfl, fun i bk h => by simp [Heap.blk] at h, fun i L h => by simp [Env.start] at h, fun i j Li Lj h => by simp [Env.start] at h, fun b o c h => h, fun b o c _ ⟨i, L, h, _⟩ => by simp [Env.start] at h, fun i bk h => by simp [Heap.blk] at h, Nat.le_refl _⟩

theorem run_law {U : Out} {ann : FuncId → FAnn} {fuel n : Nat} {K : Oracle} (hK : ∀ B, OracleSound P B U.G K) (hX : ∀ B, ExtSound P B U.X) (hm : P.follows .mixedOrders = true) (hA : ∀ f, funcOk P (ann f) f = true)
    (hG : GlobOk U.G (Env.start W)) {f : FuncId} {args : List AV} {cargs : List Value} {H' : Heap} {e : Bool} (h : evalN P U ann fuel K n f args [] = some (.bool true, H', e)) (hl : args.length = cargs.length)
    (hv : ∀ (i : Nat) (v : AV) (c : Value), args[i]? = some v → cargs[i]? = some c → VR (Env.start W) v c) :
    Calls P f cargs.toArray W fun en w' => en = .returned (.bool true) ∧ Below W.heap.size W w' := by
  refine (evalN_ok (hK W.heap.size) (hX _) hm hA n f args [] _ H' e h (Env.start W) W cargs (Sim.start W) hG hl hv).mono ?_
  rintro en w' ⟨c, E', rfl, hr⟩
  have := hr.val.bool_inv
  subst this
  exact ⟨rfl, hr.tr.below⟩

theorem none_sound (B : Nat) (G : Nat → Option AV) : OracleSound P B G (fun _ _ _ => none) := fun f args H v H' e h => by simp at h

theorem all_ok {ann : FuncId → FAnn} (h : ((List.range P.funcs.size).all fun f => funcOk P (ann f) f) = true) (f : FuncId) : funcOk P (ann f) f = true := by
  rcases Nat.lt_or_ge f P.funcs.size with hlt | hge
  · exact List.all_eq_true.1 h f (List.mem_range.2 hlt)
  · unfold funcOk
    rw [Array.getElem?_eq_none hge]
    rfl

end
end Go.X
