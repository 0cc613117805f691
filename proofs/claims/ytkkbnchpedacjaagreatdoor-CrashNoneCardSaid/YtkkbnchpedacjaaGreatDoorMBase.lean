/-
  What lies about the program: the notes are right; entries without a body; the one variable.
-/
import Derived.Test.YtkkbnchpedacjaaGreatDoorAnn
import Derived.Test.YtkkbnchpedacjaaGreatDoorXl
namespace Go.Proofs.YtkkbnchpedacjaaGreatDoor
open Go Go.X
noncomputable def U : Out := ⟨extX Tryz.prog tab, fun i => if i = 0 then some (.iface 406 (.agg 1 [.hnd Tryz.prog.globals.size 137])) else none⟩
def T0 : Table := fun _ => none
theorem annOk : ((List.range Tryz.prog.funcs.size).all fun f => funcOk Tryz.prog (ann f) f) = true := by kernel_rfl
theorem tabOk : TabSound Tryz.prog tab := by
  intro x hx
  simp only [tab, List.mem_cons, List.not_mem_nil, or_false] at hx
  rcases hx with rfl | rfl | rfl | rfl | rfl | rfl | rfl | rfl | rfl | rfl | rfl
  · exact ⟨_, Tryz.func213, by kernel_rfl, by kernel_rfl, by kernel_rfl, by kernel_rfl⟩
  · exact ⟨_, Tryz.func231, by kernel_rfl, by kernel_rfl, by kernel_rfl, by kernel_rfl⟩
  · exact ⟨_, Tryz.func232, by kernel_rfl, by kernel_rfl, by kernel_rfl, by kernel_rfl⟩
  · exact ⟨_, Tryz.func233, by kernel_rfl, by kernel_rfl, by kernel_rfl, by kernel_rfl⟩
  · exact ⟨_, Tryz.func284, by kernel_rfl, by kernel_rfl, by kernel_rfl, by kernel_rfl⟩
  · exact ⟨_, Tryz.func285, by kernel_rfl, by kernel_rfl, by kernel_rfl, by kernel_rfl⟩
  · exact ⟨_, Tryz.func342, by kernel_rfl, by kernel_rfl, by kernel_rfl, by kernel_rfl⟩
  · exact ⟨_, Tryz.func355, by kernel_rfl, by kernel_rfl, by kernel_rfl, by kernel_rfl⟩
  · exact ⟨_, Tryz.func356, by kernel_rfl, by kernel_rfl, by kernel_rfl, by kernel_rfl⟩
  · exact ⟨_, Tryz.func357, by kernel_rfl, by kernel_rfl, by kernel_rfl, by kernel_rfl⟩
  · exact ⟨_, Tryz.func358, by kernel_rfl, by kernel_rfl, by kernel_rfl, by kernel_rfl⟩
theorem hA : ∀ f, funcOk Tryz.prog (ann f) f = true := all_ok annOk
theorem mixed : Tryz.prog.follows .mixedOrders = true := by kernel_rfl
theorem extU (B : Nat) : ExtSound Tryz.prog B U.X := ext_ok tabOk
/-- What a table tells, handed on. -/
noncomputable def ktab (T : Table) : FuncId → Option (List AV → Heap → (AV → Heap → Bool → Bool) → Bool) := fun f => (T f).map fun t args H k => snapLK false H args fun xs => match t xs with
    | some (b, v) => cond b (k v H false) false
    | none => false
/-! Shorthand for memory. -/
def ni (n : Nat) : AV := .int .i64 (.ofNat n)
def nb (n : Nat) : AV := .int .u8 (.ofNat n)
def bk (g f : Bool) (v : AV) : Option Blk := some ⟨v, g, f⟩
def rp (n : Nat) (v : AV) (r : List AV) : List AV := Nat.rec r (fun _ ih => v :: ih) n
def ro (n : Nat) (b : Option Blk) (r : Heap) : Heap := Nat.rec r (fun _ ih => b :: ih) n
end Go.Proofs.YtkkbnchpedacjaaGreatDoor
