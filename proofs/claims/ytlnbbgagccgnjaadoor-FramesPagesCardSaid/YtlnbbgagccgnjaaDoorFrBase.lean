/-
  What lies about the program: the notes are right; entries without a body; the one variable.
-/
import Derived.Test.YtlnbbgagccgnjaaDoorAnn
import Derived.Test.YtlnbbgagccgnjaaDoorXl
namespace Go.Proofs.YtlnbbgagccgnjaaDoor
open Go Go.X
noncomputable def U : Out := ⟨extX Tryd.prog tab, fun i => if i = 0 then some (.iface 135 (.agg 1 [.hnd Tryd.prog.globals.size 103])) else none⟩
def T0 : Table := fun _ => none
def M0 : MTab := fun _ => none
theorem annOk : ((List.range Tryd.prog.funcs.size).all fun f => funcOk Tryd.prog (ann f) f) = true := by kernel_rfl
theorem tabOk : TabSound Tryd.prog tab := by
  intro x hx
  simp only [tab, List.mem_cons, List.not_mem_nil, or_false] at hx
  rcases hx with rfl | rfl | rfl | rfl | rfl | rfl | rfl | rfl | rfl | rfl | rfl
  · exact ⟨_, Tryd.func60, by kernel_rfl, by kernel_rfl, by kernel_rfl, by kernel_rfl⟩
  · exact ⟨_, Tryd.func61, by kernel_rfl, by kernel_rfl, by kernel_rfl, by kernel_rfl⟩
  · exact ⟨_, Tryd.func62, by kernel_rfl, by kernel_rfl, by kernel_rfl, by kernel_rfl⟩
  · exact ⟨_, Tryd.func77, by kernel_rfl, by kernel_rfl, by kernel_rfl, by kernel_rfl⟩
  · exact ⟨_, Tryd.func78, by kernel_rfl, by kernel_rfl, by kernel_rfl, by kernel_rfl⟩
  · exact ⟨_, Tryd.func79, by kernel_rfl, by kernel_rfl, by kernel_rfl, by kernel_rfl⟩
  · exact ⟨_, Tryd.func101, by kernel_rfl, by kernel_rfl, by kernel_rfl, by kernel_rfl⟩
  · exact ⟨_, Tryd.func111, by kernel_rfl, by kernel_rfl, by kernel_rfl, by kernel_rfl⟩
  · exact ⟨_, Tryd.func112, by kernel_rfl, by kernel_rfl, by kernel_rfl, by kernel_rfl⟩
  · exact ⟨_, Tryd.func113, by kernel_rfl, by kernel_rfl, by kernel_rfl, by kernel_rfl⟩
  · exact ⟨_, Tryd.func114, by kernel_rfl, by kernel_rfl, by kernel_rfl, by kernel_rfl⟩
theorem hA : ∀ f, funcOk Tryd.prog (ann f) f = true := all_ok annOk
theorem mixed : Tryd.prog.follows .mixedOrders = true := by kernel_rfl
theorem extU (B : Nat) : ExtSound Tryd.prog B U.X := ext_ok tabOk

/-! Frames, as lists. -/
structure Fr where
  key : Int
  mark : Bool
  pins : Int
def encF (f : Fr) : AV := .agg 3 [.int .i64 f.key, .bool f.mark, .int .i64 f.pins]
def LF (fs : List Fr) : List AV := fs.map encF
/-- A clock's piece of memory. -/
def CH (fs : List Fr) (hand : Int) : Heap := [some ⟨.agg 2 [.sl ⟨1, 0, [], 3 * fs.length⟩ 3 fs.length 0 fs.length, .int .i64 hand], false, false⟩, some ⟨.arr 3 (LF fs), true, true⟩]
def C0 : AV := .ptr ⟨0, 0, [], 2⟩
end Go.Proofs.YtlnbbgagccgnjaaDoor
