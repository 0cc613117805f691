/-
  The reference's frames: what each call comes to.
-/
import Derived.Test.YtlnbbgagccgnjaaDoorKag


namespace Go.Proofs.YtlnbbgagccgnjaaDoor
open Go Go.X
structure OkG (s : RS) : Prop where
  hh : s.hs.length = s.fs.length
  hl : s.fs.length < 1000
/-- The frame of a page, in the reference. -/
def ofG (s : RS) (a : Int) : Option Nat := if a < 0 then none else if a ≥ 64 then none else fR a s.fs
open Classical in
/-- Does a frame hold a dirty page, in the reference? -/
noncomputable def dirtyG (s : RS) (i : Nat) : Bool := match s.fs[i]?, s.hs[i]? with
  | some f, some h => decide (0 ≤ f.key ∧ f.key < 64) && !decide (h.base = h.now)
  | _, _ => false
/-- A frame takes a key, in the reference. -/
def putG (fs : List Fr) (fr key : Int) : Option (List Fr) := if fr < 0 then none else match fs[fr.toNat]? with
  | some f => if f.pins > 0 then none else if key < 0 then none else if fR key fs = none ∨ fR key fs = some fr.toNat then some (fs.set fr.toNat ⟨key, true, 0⟩) else none
  | none => none
noncomputable def holdG (s : RS) (fr key : Int) (h : Hd) : Option RS := if fr < 0 then none else if fr.toNat < s.fs.length then (if dirtyG s fr.toNat then none else (putG s.fs fr key).map fun fs => ⟨fs, s.hs.set fr.toNat h⟩) else none
noncomputable def holdPG (s : RS) (fr a : Int) (p : Ar 32) : Option RS := if a < 0 then none else if a < 64 then holdG s fr a ⟨p, p, Ar.zero 8⟩ else none
noncomputable def holdMG (s : RS) (fr a : Int) (h : Ar 8) : Option RS := if a < 0 then none else if a < 8 then holdG s fr (64 + a) ⟨Ar.zero 32, Ar.zero 32, h⟩ else none
def writeG (s : RS) (a off : Int) (ds : List Int) : Int × RS := match ofG s a with
  | none => (17, s)
  | some j => match s.hs[j]? with
    | some h => match applyA h.now off ds with
      | none => (18, s)
      | some q => (0, ⟨touchG s.fs j, s.hs.set j ⟨h.base, q, h.heads⟩⟩)
    | none => (17, s)
def cleanG (s : RS) (a : Int) : RS := match ofG s a with
  | some j => match s.hs[j]? with
    | some h => ⟨s.fs, s.hs.set j ⟨h.now, h.now, h.heads⟩⟩
    | none => s
  | none => s
def forgetG (s : RS) (key : Int) : Option RS := (fR key s.fs).bind fun j => (dropG s.fs j).map fun fs => ⟨fs, s.hs⟩
def t34 : PT := fun args H k => ∃ (s : RS) (a : Int), args = [C0, .int .i64 a] ∧ H = GH s ∧ OkG s ∧ k (.int .i64 (fV (ofG s a))) H false
def t53 : PT := fun args H k => ∃ (s : RS) (i : Nat), args = [C0, .int .i64 i] ∧ H = GH s ∧ OkG s ∧ i < s.fs.length ∧ k (.bool (dirtyG s i)) H false
def t59 : PT := fun args H k => ∃ (fs : List Fr) (fr key : Int), args = [C0, .int .i64 fr, .int .i64 key] ∧ H = KH fs ∧ fs.length < 1000 ∧ k (.bool (putG fs fr key).isSome) (KH ((putG fs fr key).getD fs)) false
def t48 : PT := fun args H k => ∃ (s : RS) (fr key : Int) (h : Hd), args = [C0, .int .i64 fr, .int .i64 key, encHd h] ∧ H = GH s ∧ OkG s ∧ k (.bool (holdG s fr key h).isSome) (GH ((holdG s fr key h).getD s)) false
def t24 : PT := fun args H k => ∃ (s : RS) (fr a : Int) (p : Ar 32), args = [C0, .int .i64 fr, .int .i64 a, encA .u8 p] ∧ H = GH s ∧ OkG s ∧ k (.bool (holdPG s fr a p).isSome) (GH ((holdPG s fr a p).getD s)) false
def t25 : PT := fun args H k => ∃ (s : RS) (fr a : Int) (p : Ar 8), args = [C0, .int .i64 fr, .int .i64 a, encA .i64 p] ∧ H = GH s ∧ OkG s ∧ k (.bool (holdMG s fr a p).isSome) (GH ((holdMG s fr a p).getD s)) false
def t26 : PT := fun args H k => ∃ (s : RS) (a off : Int) (d : Option (List Int)), args = [C0, .int .i64 a, .int .i64 off, dataAV d] ∧ H = GH s ∧ OkG s ∧ (d.getD []).length < 1000 ∧ k (.int .i64 (writeG s a off (d.getD [])).1) (GH (writeG s a off (d.getD [])).2) false
def t27 : PT := fun args H k => ∃ (s : RS) (a : Int), args = [C0, .int .i64 a] ∧ H = GH s ∧ OkG s ∧ k (.tuple []) (GH (cleanG s a)) false
def t28 : PT := fun args H k => ∃ (s : RS) (a : Int), args = [C0, .int .i64 a] ∧ H = GH s ∧ OkG s ∧ k (.bool (forgetG s a).isSome) (GH ((forgetG s a).getD s)) false
def TR : FuncId → Option PT := fun f => if f = 35 then some t35 else if f = 49 then some t49 else if f = 50 then some t50 else if f = 51 then some t51 else if f = 34 then some t34 else if f = 53 then some t53 else if f = 59 then some t59 else if f = 48 then some t48 else none
/-- The same, without those told last. -/
def TR0 : FuncId → Option PT := fun f => if f = 35 then some t35 else if f = 49 then some t49 else if f = 50 then some t50 else if f = 51 then some t51 else none
def TR1 : FuncId → Option PT := fun f => if f = 53 then some t53 else if f = 59 then some t59 else none
end Go.Proofs.YtlnbbgagccgnjaaDoor
/- The reference's frames: more trees.
-/
namespace Go.Proofs.YtlnbbgagccgnjaaDoor
open Go Go.X
variable {F : Nat}
theorem tree34 (N fuel : Nat) (s : RS) (a : Int) (k : AV → Heap → Bool → Prop) :
 (runP (S F) TR0 N 9 fuel 34 [C0, .int .i64 a] (GH s) k) =
 ((cond (decide (a < 0))
 (k (AV.int IntKind.i64 (-1 : Int)) (GH s) false)
 (cond (decide (a ≥ 64))
 (k (AV.int IntKind.i64 (-1 : Int)) (GH s) false)
 (∃ (fs0 : List Fr),
 ∃ (key1 : Int),
 And ([AV.ptr (Pl.mk 0 0 [] 2), AV.int IntKind.i64 a] = [AV.ptr (Pl.mk 0 0 [] 2), AV.int IntKind.i64 key1])
 (And (KH s.1 = KH fs0)
 (And (List.length fs0 < 1000)
 (k (AV.int IntKind.i64 (fV (fR key1 fs0))) (GH s) false)))))) : Prop) := by kernel_rfl
theorem tree53 (N fuel : Nat) (s : RS) (i : Nat) (k : AV → Heap → Bool → Prop) :
 (runP (S F) TR0 N 9 fuel 53 [C0, .int .i64 i] (GH s) k) =
 ((cond (decide (i < List.length s.1))
 (cond (okAt (AV.arr 3 (row encR s.1)) [0 + i, 0] (0 + (0 + i) * 3 + 0) (3 * List.length s.1) false 1)
 (cond (AV.isIntK (projT [0 + i, 0] (AV.arr 3 (row encR s.1))) IntKind.i64)
 (cond (decide (AV.toInt (projT [0 + i, 0] (AV.arr 3 (row encR s.1))) ≥ 0))
 (cond (decide (i < List.length s.1))
 (cond (okAt (AV.arr 3 (row encR s.1)) [0 + i, 0] (0 + (0 + i) * 3 + 0) (3 * List.length s.1) false 1)
 (cond (AV.isIntK (projT [0 + i, 0] (AV.arr 3 (row encR s.1))) IntKind.i64)
 (cond (decide (AV.toInt (projT [0 + i, 0] (AV.arr 3 (row encR s.1))) < 64))
 (cond (decide (i < List.length s.2))
 (cond (okAt (AV.arr 72 (row encHd s.2)) [0 + i, 0] (0 + (0 + i) * 72 + 0) (72 * List.length s.2) true 32)
 (cond (AV.isArrI (projT [0 + i, 0] (AV.arr 72 (row encHd s.2))) 32 IntKind.u8)
 (cond (decide (i < List.length s.2))
 (cond (okAt (AV.arr 72 (row encHd s.2)) [0 + i, 1] (0 + (0 + i) * 72 + 32) (72 * List.length s.2) true 32)
 (cond (AV.isArrI (projT [0 + i, 1] (AV.arr 72 (row encHd s.2))) 32 IntKind.u8)
 (cond (Option.isSome (eqNil Tryd.prog 32 (Operand.tmp 39) (Operand.tmp 47) (AV.arr 1 (arI IntKind.u8 32 (projT [0 + i, 0] (AV.arr 72 (row encHd s.2))))) (AV.arr 1 (arI IntKind.u8 32 (projT [0 + i, 1] (AV.arr 72 (row encHd s.2)))))))
 (k (AV.bool !Option.getD (eqNil Tryd.prog 32 (Operand.tmp 39) (Operand.tmp 47) (AV.arr 1 (arI IntKind.u8 32 (projT [0 + i, 0] (AV.arr 72 (row encHd s.2))))) (AV.arr 1 (arI IntKind.u8 32 (projT [0 + i, 1] (AV.arr 72 (row encHd s.2)))))) false) (GH s) false)
 (False))
 (False))
 (False))
 (False))
 (False))
 (False))
 (False))
 (k (AV.bool false) (GH s) false))
 (False))
 (False))
 (False))
 (k (AV.bool false) (GH s) false))
 (False))
 (False))
 (False)) : Prop) := by kernel_rfl
theorem tree59 (N fuel : Nat) (fs : List Fr) (a key : Int) (k : AV → Heap → Bool → Prop) :
 (runP (S F) TR0 N 9 fuel 59 [C0, .int .i64 a, .int .i64 key] (KH fs) k) =
 ((cond (decide (a ≥ 0))
 (cond (!decide (a < (↑(List.length fs) : Int)))
 (k (AV.bool false) (KH fs) false)
 (cond (decide (0 ≤ a))
 (cond (decide (Int.toNat a < List.length fs))
 (cond (okAt (AV.arr 3 (row encR fs)) [0 + Int.toNat a, 1] (0 + (0 + Int.toNat a) * 3 + 1) (3 * List.length fs) false 1)
 (cond (AV.isIntK (projT [0 + Int.toNat a, 1] (AV.arr 3 (row encR fs))) IntKind.i64)
 (cond (decide (AV.toInt (projT [0 + Int.toNat a, 1] (AV.arr 3 (row encR fs))) > 0))
 (k (AV.bool false) (KH fs) false)
 (cond (decide (key < 0))
 (k (AV.bool false) (KH fs) false)
 (∃ (fs0 : List Fr),
 ∃ (key1 : Int),
 And ([AV.ptr (Pl.mk 0 0 [] 2), AV.int IntKind.i64 key] = [AV.ptr (Pl.mk 0 0 [] 2), AV.int IntKind.i64 key1])
 (And (KH fs = KH fs0)
 (And (List.length fs0 < 1000)
 (cond (decide (fV (fR key1 fs0) ≥ 0))
 (cond (!fV (fR key1 fs0) == a)
 (k (AV.bool false) (KH fs) false)
 (cond (decide (0 ≤ a))
 (cond (decide (Int.toNat a < List.length fs))
 (cond (okPl (AV.arr 3 (row encR fs)) [0 + Int.toNat a] (0 + (0 + Int.toNat a) * 3) (3 * List.length fs) 3)
 (∀ (ys2 : List AV),
 (ys2 = List.set (row encR fs) (0 + Int.toNat a) (AV.agg 3 [AV.int IntKind.i64 key, AV.int IntKind.i64 0, AV.bool true])) →
 k (AV.bool true) (KR (List.length fs) ys2) false)
 (False))
 (False))
 (False)))
 (cond (decide (0 ≤ a))
 (cond (decide (Int.toNat a < List.length fs))
 (cond (okPl (AV.arr 3 (row encR fs)) [0 + Int.toNat a] (0 + (0 + Int.toNat a) * 3) (3 * List.length fs) 3)
 (∀ (ys3 : List AV),
 (ys3 = List.set (row encR fs) (0 + Int.toNat a) (AV.agg 3 [AV.int IntKind.i64 key, AV.int IntKind.i64 0, AV.bool true])) →
 k (AV.bool true) (KR (List.length fs) ys3) false)
 (False))
 (False))
 (False))))))))
 (False))
 (False))
 (False))
 (False)))
 (k (AV.bool false) (KH fs) false)) : Prop) := by kernel_rfl
theorem tree48 (N fuel : Nat) (s : RS) (fr key : Int) (h : Hd) (k : AV → Heap → Bool → Prop) :
 (runP (S F) TR1 N 9 fuel 48 [C0, .int .i64 fr, .int .i64 key, encHd h] (GH s) k) =
 ((cond (decide (fr ≥ 0))
 (cond (!decide (fr < (↑(List.length s.1) : Int)))
 (k (AV.bool false) (GH s) false)
 (∃ (s0 : RS),
 ∃ (i1 : Nat),
 And ([AV.ptr (Pl.mk 0 0 [] 2), AV.int IntKind.i64 fr] = [AV.ptr (Pl.mk 0 0 [] 2), AV.int IntKind.i64 (↑i1 : Int)])
 (And (GH s = GH s0)
 (And (OkG s0)
 (And (i1 < List.length s0.1)
 (cond (dirtyG s0 i1)
 (k (AV.bool false) (GH s) false)
 (∃ (fs2 : List Fr),
 ∃ (fr3 : Int),
 ∃ (key4 : Int),
 And ([AV.ptr (Pl.mk 0 0 [] 2), AV.int IntKind.i64 fr, AV.int IntKind.i64 key] = [AV.ptr (Pl.mk 0 0 [] 2), AV.int IntKind.i64 fr3, AV.int IntKind.i64 key4])
 (And (KH s.1 = KH fs2)
 (And (List.length fs2 < 1000)
 (cond (!Option.isSome (putG fs2 fr3 key4))
 (k (AV.bool false)
 (GH
 (RS.mk
 (match putG fs2 fr3 key4 with
 | some x => x
 | none => fs2)
 s.2))
 false)
 (cond (decide (0 ≤ fr))
 (cond (decide (Int.toNat fr < List.length s.2))
 (cond (okPl (AV.arr 72 (row encHd s.2)) [0 + Int.toNat fr] (0 + (0 + Int.toNat fr) * 72) (72 * List.length s.2) 72)
 (∀ (ys5 : List AV),
 (ys5 = List.set (row encHd s.2) (0 + Int.toNat fr) (AV.agg 72 [AV.arr 1 (arI IntKind.u8 32 (AV.arr 1 (encL IntKind.u8 32 h.1.1))), AV.arr 1 (arI IntKind.u8 32 (AV.arr 1 (encL IntKind.u8 32 h.2.1))), AV.arr 1 (arI IntKind.i64 8 (AV.arr 1 (encL IntKind.i64 8 h.3.1)))])) →
 k (AV.bool true) (GR (List.length (Option.getD (putG fs2 fr3 key4) fs2)) (List.length s.2) (row encR (Option.getD (putG fs2 fr3 key4) fs2)) ys5) false)
 (False))
 (False))
 (False))))))))))))
 (k (AV.bool false) (GH s) false)) : Prop) := by kernel_rfl
theorem tree27 (N fuel : Nat) (s : RS) (a : Int) (k : AV → Heap → Bool → Prop) :
 (runP (S F) TR N 9 fuel 27 [C0, .int .i64 a] (GH s) k) =
 ((∃ (s0 : RS),
 ∃ (a1 : Int),
 And ([AV.ptr (Pl.mk 0 0 [] 2), AV.int IntKind.i64 a] = [AV.ptr (Pl.mk 0 0 [] 2), AV.int IntKind.i64 a1])
 (And (GH s = GH s0)
 (And (OkG s0)
 (cond (decide (fV (ofG s0 a1) ≥ 0))
 (cond (decide (0 ≤ fV (ofG s0 a1)))
 (cond (decide (Int.toNat (fV (ofG s0 a1)) < List.length s.2))
 (cond (okAt (AV.arr 72 (row encHd s.2)) [0 + Int.toNat (fV (ofG s0 a1)), 1] (0 + (0 + Int.toNat (fV (ofG s0 a1))) * 72 + 32) (72 * List.length s.2) true 32)
 (cond (AV.isArrI (projT [0 + Int.toNat (fV (ofG s0 a1)), 1] (AV.arr 72 (row encHd s.2))) 32 IntKind.u8)
 (cond (decide (0 ≤ fV (ofG s0 a1)))
 (cond (decide (Int.toNat (fV (ofG s0 a1)) < List.length s.2))
 (cond (okPl (AV.arr 72 (row encHd s.2)) [0 + Int.toNat (fV (ofG s0 a1)), 0] (0 + (0 + Int.toNat (fV (ofG s0 a1))) * 72 + 0) (72 * List.length s.2) 32)
 (∀ (ys2 : List AV),
 (ys2 = List.set (row encHd s.2) (0 + Int.toNat (fV (ofG s0 a1))) (putT [0] (Option.getD (row encHd s.2)[0 + Int.toNat (fV (ofG s0 a1))]? AV.bad) (AV.arr 1 (arI IntKind.u8 32 (projT [0 + Int.toNat (fV (ofG s0 a1)), 1] (AV.arr 72 (row encHd s.2))))))) →
 k (AV.tuple []) (GR (List.length s.1) (List.length s.2) (row encR s.1) ys2) false)
 (False))
 (False))
 (False))
 (False))
 (False))
 (False))
 (False))
 (k (AV.tuple []) (GH s) false))))) : Prop) := by kernel_rfl
theorem tree28 (N fuel : Nat) (s : RS) (a : Int) (k : AV → Heap → Bool → Prop) :
 (runP (S F) TR N 9 fuel 28 [C0, .int .i64 a] (GH s) k) =
 ((∃ (fs0 : List Fr),
 ∃ (key1 : Int),
 And ([AV.ptr (Pl.mk 0 0 [] 2), AV.int IntKind.i64 a] = [AV.ptr (Pl.mk 0 0 [] 2), AV.int IntKind.i64 key1])
 (And (KH s.1 = KH fs0)
 (And (List.length fs0 < 1000)
 (cond (decide (fV (fR key1 fs0) ≥ 0))
 (∃ (fs2 : List Fr),
 ∃ (a3 : Int),
 And ([AV.ptr (Pl.mk 0 0 [] 2), AV.int IntKind.i64 (fV (fR key1 fs0))] = [AV.ptr (Pl.mk 0 0 [] 2), AV.int IntKind.i64 a3])
 (And (KH s.1 = KH fs2)
 (k (AV.bool (Option.isSome (dropG fs2 a3)))
 (GH
 (RS.mk
 (match dropG fs2 a3 with
 | some x => x
 | none => fs2)
 s.2))
 false)))
 (k (AV.bool false) (GH s) false))))) : Prop) := by kernel_rfl
theorem tree24 (N fuel : Nat) (s : RS) (fr a : Int) (p : Ar 32) (k : AV → Heap → Bool → Prop) :
 (runP (S F) TR N 9 fuel 24 [C0, .int .i64 fr, .int .i64 a, encA .u8 p] (GH s) k) =
 ((cond (decide (a ≥ 0))
 (cond (decide (a < 64))
 (∃ (s0 : RS),
 ∃ (fr1 : Int),
 ∃ (key2 : Int),
 ∃ (h3 : Hd),
 And ([AV.ptr (Pl.mk 0 0 [] 2), AV.int IntKind.i64 fr, AV.int IntKind.i64 a, AV.agg 72 [AV.arr 1 (arI IntKind.u8 32 (AV.arr 1 (encL IntKind.u8 32 p.1))), AV.arr 1 (arI IntKind.u8 32 (AV.arr 1 (encL IntKind.u8 32 p.1))), AV.arr 1 (encL IntKind.i64 8 fun (_i : Nat) => 0)]] = [AV.ptr (Pl.mk 0 0 [] 2), AV.int IntKind.i64 fr1, AV.int IntKind.i64 key2, encHd h3])
 (And (GH s = GH s0)
 (And (OkG s0)
 (k (AV.bool (Option.isSome (holdG s0 fr1 key2 h3))) (GH (Option.getD (holdG s0 fr1 key2 h3) s0)) false))))
 (k (AV.bool false) (GH s) false))
 (k (AV.bool false) (GH s) false)) : Prop) := by kernel_rfl
theorem tree25 (N fuel : Nat) (s : RS) (fr a : Int) (p : Ar 8) (k : AV → Heap → Bool → Prop) :
 (runP (S F) TR N 9 fuel 25 [C0, .int .i64 fr, .int .i64 a, encA .i64 p] (GH s) k) =
 ((cond (decide (a ≥ 0))
 (cond (decide (a < 8))
 (∃ (s0 : RS),
 ∃ (fr1 : Int),
 ∃ (key2 : Int),
 ∃ (h3 : Hd),
 And ([AV.ptr (Pl.mk 0 0 [] 2), AV.int IntKind.i64 fr, AV.int IntKind.i64 (IntKind.wrap IntKind.i64 (64 + a)), AV.agg 72 [AV.arr 1 (encL IntKind.u8 32 fun (_i : Nat) => 0), AV.arr 1 (encL IntKind.u8 32 fun (_i : Nat) => 0), AV.arr 1 (arI IntKind.i64 8 (AV.arr 1 (encL IntKind.i64 8 p.1)))]] = [AV.ptr (Pl.mk 0 0 [] 2), AV.int IntKind.i64 fr1, AV.int IntKind.i64 key2, encHd h3])
 (And (GH s = GH s0)
 (And (OkG s0)
 (k (AV.bool (Option.isSome (holdG s0 fr1 key2 h3))) (GH (Option.getD (holdG s0 fr1 key2 h3) s0)) false))))
 (k (AV.bool false) (GH s) false))
 (k (AV.bool false) (GH s) false)) : Prop) := by kernel_rfl
theorem tree26 (N fuel : Nat) (s : RS) (a off : Int) (ds : List Int) (k : AV → Heap → Bool → Prop) :
 (runP (S F) TR N 9 fuel 26 [C0, .int .i64 a, .int .i64 off, .isl 1 (row encU ds)] (GH s) k) =
 ((∃ (s0 : RS),
 ∃ (a1 : Int),
 And ([AV.ptr (Pl.mk 0 0 [] 2), AV.int IntKind.i64 a] = [AV.ptr (Pl.mk 0 0 [] 2), AV.int IntKind.i64 a1])
 (And (GH s = GH s0)
 (And (OkG s0)
 (cond (decide (fV (ofG s0 a1) < 0))
 (k (AV.int IntKind.i64 17) (GH s) false)
 (cond (decide (0 ≤ fV (ofG s0 a1)))
 (cond (decide (Int.toNat (fV (ofG s0 a1)) < List.length s.2))
 (cond (okAt (AV.arr 72 (row encHd s.2)) [0 + Int.toNat (fV (ofG s0 a1)), 1] (0 + (0 + Int.toNat (fV (ofG s0 a1))) * 72 + 32) (72 * List.length s.2) true 32)
 (cond (AV.isArrI (projT [0 + Int.toNat (fV (ofG s0 a1)), 1] (AV.arr 72 (row encHd s.2))) 32 IntKind.u8)
 (∃ (p2 : Ar 32),
 ∃ (off3 : Int),
 ∃ (d4 : Option (List Int)),
 And ([AV.arr 1 (arI IntKind.u8 32 (projT [0 + Int.toNat (fV (ofG s0 a1)), 1] (AV.arr 72 (row encHd s.2)))), AV.int IntKind.i64 off, AV.isl 1 (row encU ds)] = [encA IntKind.u8 p2, AV.int IntKind.i64 off3, dataAV d4])
 (And (([] : Heap) = [])
 (And (List.length (Option.getD d4 []) < 1000)
 (cond (!AV.toBool (AV.bool (Option.isSome (applyA p2 off3 (Option.getD d4 [])))))
 (k (AV.int IntKind.i64 18) (GH s) false)
 (cond (decide (0 ≤ fV (ofG s0 a1)))
 (cond (decide (Int.toNat (fV (ofG s0 a1)) < List.length s.2))
 (cond (okPl (AV.arr 72 (row encHd s.2)) [0 + Int.toNat (fV (ofG s0 a1)), 1] (0 + (0 + Int.toNat (fV (ofG s0 a1))) * 72 + 32) (72 * List.length s.2) 32)
 (∀ (ys5 : List AV),
 (ys5 = List.set (row encHd s.2) (0 + Int.toNat (fV (ofG s0 a1))) (putT [1] (Option.getD (row encHd s.2)[0 + Int.toNat (fV (ofG s0 a1))]? AV.bad) (AV.arr 1 (arI IntKind.u8 32 (AV.arr 1 (encL IntKind.u8 32 (Option.getD (applyA p2 off3 (Option.getD d4 [])) (Ar.zero 32)).1)))))) →
 ∃ (fs6 : List Fr),
 ∃ (a7 : Int),
 And ([AV.ptr (Pl.mk 0 0 [] 2), AV.int IntKind.i64 (fV (ofG s0 a1))] = [AV.ptr (Pl.mk 0 0 [] 2), AV.int IntKind.i64 a7])
 (And (KH s.1 = KH fs6)
 (k (AV.int IntKind.i64 0) (GR (List.length (touchG fs6 a7)) (List.length s.2) (row encR (touchG fs6 a7)) ys5) false)))
 (False))
 (False))
 (False))))))
 (False))
 (False))
 (False))
 (False)))))) : Prop) := by kernel_rfl
theorem nil26 (N fuel : Nat) (s : RS) (a off : Int) (k : AV → Heap → Bool → Prop) :
 (runP (S F) TR N 9 fuel 26 [C0, .int .i64 a, .int .i64 off, .nils] (GH s) k) =
 ((∃ (s0 : RS),
 ∃ (a1 : Int),
 And ([AV.ptr (Pl.mk 0 0 [] 2), AV.int IntKind.i64 a] = [AV.ptr (Pl.mk 0 0 [] 2), AV.int IntKind.i64 a1])
 (And (GH s = GH s0)
 (And (OkG s0)
 (cond (decide (fV (ofG s0 a1) < 0))
 (k (AV.int IntKind.i64 17) (GH s) false)
 (cond (decide (0 ≤ fV (ofG s0 a1)))
 (cond (decide (Int.toNat (fV (ofG s0 a1)) < List.length s.2))
 (cond (okAt (AV.arr 72 (row encHd s.2)) [0 + Int.toNat (fV (ofG s0 a1)), 1] (0 + (0 + Int.toNat (fV (ofG s0 a1))) * 72 + 32) (72 * List.length s.2) true 32)
 (cond (AV.isArrI (projT [0 + Int.toNat (fV (ofG s0 a1)), 1] (AV.arr 72 (row encHd s.2))) 32 IntKind.u8)
 (∃ (p2 : Ar 32),
 ∃ (off3 : Int),
 ∃ (d4 : Option (List Int)),
 And ([AV.arr 1 (arI IntKind.u8 32 (projT [0 + Int.toNat (fV (ofG s0 a1)), 1] (AV.arr 72 (row encHd s.2)))), AV.int IntKind.i64 off, AV.nils] = [encA IntKind.u8 p2, AV.int IntKind.i64 off3, dataAV d4])
 (And (([] : Heap) = [])
 (And (List.length (Option.getD d4 []) < 1000)
 (cond (!AV.toBool (AV.bool (Option.isSome (applyA p2 off3 (Option.getD d4 [])))))
 (k (AV.int IntKind.i64 18) (GH s) false)
 (cond (decide (0 ≤ fV (ofG s0 a1)))
 (cond (decide (Int.toNat (fV (ofG s0 a1)) < List.length s.2))
 (cond (okPl (AV.arr 72 (row encHd s.2)) [0 + Int.toNat (fV (ofG s0 a1)), 1] (0 + (0 + Int.toNat (fV (ofG s0 a1))) * 72 + 32) (72 * List.length s.2) 32)
 (∀ (ys5 : List AV),
 (ys5 = List.set (row encHd s.2) (0 + Int.toNat (fV (ofG s0 a1))) (putT [1] (Option.getD (row encHd s.2)[0 + Int.toNat (fV (ofG s0 a1))]? AV.bad) (AV.arr 1 (arI IntKind.u8 32 (AV.arr 1 (encL IntKind.u8 32 (Option.getD (applyA p2 off3 (Option.getD d4 [])) (Ar.zero 32)).1)))))) →
 ∃ (fs6 : List Fr),
 ∃ (a7 : Int),
 And ([AV.ptr (Pl.mk 0 0 [] 2), AV.int IntKind.i64 (fV (ofG s0 a1))] = [AV.ptr (Pl.mk 0 0 [] 2), AV.int IntKind.i64 a7])
 (And (KH s.1 = KH fs6)
 (k (AV.int IntKind.i64 0) (GR (List.length (touchG fs6 a7)) (List.length s.2) (row encR (touchG fs6 a7)) ys5) false)))
 (False))
 (False))
 (False))))))
 (False))
 (False))
 (False))
 (False)))))) : Prop) := by kernel_rfl
end Go.Proofs.YtlnbbgagccgnjaaDoor
/-
  The reference's frames: each call is what was said.
-/
namespace Go.Proofs.YtlnbbgagccgnjaaDoor
open Go Go.X
variable {F : Nat}
theorem okH0 {hs : List Hd} {j g : Nat} (h : j < hs.length) (hg : 72 * hs.length = g) : okAt (.arr 72 (row encHd hs)) [j, 0] (j * 72) g true 32 = true := okAt_row h hg (Nat.mul_comm _ _) rfl rfl rfl
theorem okH1 {hs : List Hd} {j g : Nat} (h : j < hs.length) (hg : 72 * hs.length = g) : okAt (.arr 72 (row encHd hs)) [j, 1] (j * 72 + 32) g true 32 = true := okAt_row h hg (by rw [Nat.mul_comm]; rfl) rfl rfl rfl
theorem okH2 {hs : List Hd} {j g : Nat} (h : j < hs.length) (hg : 72 * hs.length = g) : okAt (.arr 72 (row encHd hs)) [j, 2] (j * 72 + 64) g true 8 = true := okAt_row h hg (by rw [Nat.mul_comm]; rfl) rfl rfl rfl
theorem opHa {hs : List Hd} {j g : Nat} (h : j < hs.length) (hg : 72 * hs.length = g) : okPl (.arr 72 (row encHd hs)) [j] (j * 72) g 72 = true := okPl_row h hg (Nat.mul_comm _ _) rfl rfl
theorem opH0 {hs : List Hd} {j g : Nat} (h : j < hs.length) (hg : 72 * hs.length = g) : okPl (.arr 72 (row encHd hs)) [j, 0] (j * 72) g 32 = true := okPl_row h hg (Nat.mul_comm _ _) rfl rfl
theorem opH1 {hs : List Hd} {j g : Nat} (h : j < hs.length) (hg : 72 * hs.length = g) : okPl (.arr 72 (row encHd hs)) [j, 1] (j * 72 + 32) g 32 = true := okPl_row h hg (by rw [Nat.mul_comm]; rfl) rfl rfl
theorem prH0 {hs : List Hd} {j : Nat} (h : j < hs.length) : projT [j, 0] (.arr 72 (row encHd hs)) = encA .u8 hs[j].base := projT_row h
theorem prH1 {hs : List Hd} {j : Nat} (h : j < hs.length) : projT [j, 1] (.arr 72 (row encHd hs)) = encA .u8 hs[j].now := projT_row h
theorem prH2 {hs : List Hd} {j : Nat} (h : j < hs.length) : projT [j, 2] (.arr 72 (row encHd hs)) = encA .i64 hs[j].heads := projT_row h
attribute [simp] okH0 okH1 okH2 opHa opH0 opH1 prH0 prH1 prH2
theorem GR_at {nf nh : Nat} (fs : List Fr) (hs : List Hd) (h1 : fs.length = nf) (h2 : hs.length = nh) : GR nf nh (row encR fs) (row encHd hs) = GH ⟨fs, hs⟩ := by
  subst h1 h2; rfl
theorem set_h0 {hs : List Hd} {j : Nat} {a : Ar 32} (h : j < hs.length) : putT [0] (Option.getD (row encHd hs)[j]? AV.bad) (encA .u8 a) = encHd ⟨a, hs[j].now, hs[j].heads⟩ := by
  rw [row_get h]; rfl
theorem set_h1 {hs : List Hd} {j : Nat} {a : Ar 32} (h : j < hs.length) : putT [1] (Option.getD (row encHd hs)[j]? AV.bad) (encA .u8 a) = encHd ⟨hs[j].base, a, hs[j].heads⟩ := by
  rw [row_get h]; rfl
theorem fV_neg {r : Option Nat} : fV r < 0 ↔ r = none := by
  cases r with
  | none => simp [fV]
  | some j => simp only [fV]; constructor <;> intro h <;> first | omega | cases h
theorem ofG_lt {s : RS} {a : Int} {j : Nat} (h : ofG s a = some j) : j < s.fs.length := by
  unfold ofG at h
  split at h
  · cases h
  · split at h
    · cases h
    · exact fR_lt h
theorem of34 (N : Nat) (args : List AV) (H : Heap) (k : AV → Heap → Bool → Prop) : t34 args H k → runP (S F) TR0 N 9 (S F).fu 34 args H k := by
  rintro ⟨s, a, rfl, rfl, hs, hk⟩
  rw [tree34]
  unfold ofG at hk
  by_cases h0 : a < 0
  · simpa [h0, fV] using hk
  by_cases h1 : a ≥ 64
  · simpa [h0, h1, fV] using hk
  simp only [h0, h1, if_false] at hk
  simp only [h0, h1, decide_false, cond_false]
  exact ⟨s.fs, a, rfl, rfl, hs.hl, hk⟩
theorem dirty53 (N : Nat) (args : List AV) (H : Heap) (k : AV → Heap → Bool → Prop) : t53 args H k → runP (S F) TR0 N 9 (S F).fu 53 args H k := by
  rintro ⟨s, i, rfl, rfl, hs, hi, hk⟩
  rw [tree53]
  have hh : i < s.hs.length := by rw [hs.hh]; exact hi
  unfold dirtyG at hk
  simp only [List.getElem?_eq_getElem hi, List.getElem?_eq_getElem hh] at hk
  by_cases h0 : s.fs[i].key ≥ 0
  · by_cases h1 : s.fs[i].key < 64
    · have e : 0 ≤ s.fs[i].key ∧ s.fs[i].key < 64 := by omega
      simpa [hi, hh, h0, h1, e, AV.isIntK, AV.toInt, eqPg] using hk
    · have e : ¬ (0 ≤ s.fs[i].key ∧ s.fs[i].key < 64) := by omega
      simpa [hi, hh, h0, h1, e, AV.isIntK, AV.toInt] using hk
  · have e : ¬ (0 ≤ s.fs[i].key ∧ s.fs[i].key < 64) := by omega
    simpa [hi, hh, h0, e, AV.isIntK, AV.toInt] using hk
theorem enc_put (key : Int) : AV.agg 3 [AV.int IntKind.i64 key, AV.int IntKind.i64 0, AV.bool true] = encR ⟨key, true, 0⟩ := rfl
theorem put59 (N : Nat) (args : List AV) (H : Heap) (k : AV → Heap → Bool → Prop) : t59 args H k → runP (S F) TR0 N 9 (S F).fu 59 args H k := by
  rintro ⟨fs, a, key, rfl, rfl, hl, hk⟩
  rw [tree59]
  unfold putG at hk
  by_cases h0 : a < 0
  · have e0 : ¬ (a ≥ 0) := by omega
    simpa [h0, e0] using hk
  obtain ⟨j, rfl⟩ : ∃ j : Nat, a = j := ⟨a.toNat, by omega⟩
  by_cases h1 : fs.length ≤ j
  · have e1 : ¬ ((j : Int) < (fs.length : Int)) := by omega
    simpa [e1, h0, List.getElem?_eq_none h1] using hk
  have hj : j < fs.length := by omega
  simp only [h0, if_false, Int.toNat_natCast, List.getElem?_eq_getElem hj] at hk
  have e0 : (j : Int) ≥ 0 := by omega
  have e1 : (j : Int) < (fs.length : Int) := by omega
  simp only [e0, e1, decide_true, cond_true, Bool.not_true, cond_false, Int.toNat_natCast, hj, Nat.zero_add, okR1 hj rfl, prR1 hj, opR3 hj rfl]
  by_cases hp : fs[j].pins > 0
  · simpa [AV.isIntK, AV.toInt, hp] using hk
  simp only [hp, if_false] at hk
  by_cases h2 : key < 0
  · simpa [AV.isIntK, AV.toInt, hp, h2] using hk
  simp only [h2, if_false] at hk
  simp only [AV.isIntK, AV.toInt, hp, h2, decide_false, cond_false, cond_true, BEq.rfl]
  refine ⟨fs, key, rfl, rfl, hl, ?_⟩
  cases hf : fR key fs with
  | none =>
    simp only [hf, true_or, if_true, Option.isSome_some, Option.getD_some] at hk
    simp only [fV, enc_put, row_set]
    rintro _ rfl
    rw [KR_at _ (by simp)]
    exact hk
  | some i =>
    have g0 : ((i : Int) ≥ 0) := by omega
    by_cases hij : i = j
    · subst hij
      simp only [hf, or_true, if_true, Option.isSome_some, Option.getD_some] at hk
      simp only [fV, g0, decide_true, cond_true, BEq.rfl, Bool.not_true, cond_false, enc_put, row_set]
      rintro _ rfl
      rw [KR_at _ (by simp)]
      exact hk
    · have hij' : ((i : Int) == (j : Int)) = false := beq_eq_false_iff_ne.2 (by omega)
      have hc : ¬ (some i = none ∨ some i = some j) := by simp [hij]
      simp only [hf, if_neg hc, Option.isSome_none, Option.getD_none] at hk
      simp only [fV, g0, decide_true, cond_true, hij', Bool.not_false]
      exact hk
theorem hold48 (N : Nat) (args : List AV) (H : Heap) (k : AV → Heap → Bool → Prop) : t48 args H k → runP (S F) TR1 N 9 (S F).fu 48 args H k := by
  rintro ⟨s, fr, key, h, rfl, rfl, hs, hk⟩
  rw [tree48]
  unfold holdG at hk
  by_cases h0 : fr < 0
  · have e0 : ¬ (fr ≥ 0) := by omega
    simpa [h0, e0] using hk
  obtain ⟨j, rfl⟩ : ∃ j : Nat, fr = j := ⟨fr.toNat, by omega⟩
  by_cases h1 : j < s.fs.length
  case neg =>
    have e1 : ¬ ((j : Int) < (s.fs.length : Int)) := by omega
    simpa [e1, h0, h1] using hk
  have hj : j < s.hs.length := by rw [hs.hh]; exact h1
  have e0 : (j : Int) ≥ 0 := by omega
  have e1 : (j : Int) < (s.fs.length : Int) := by omega
  simp only [h0, h1, if_false, if_true, Int.toNat_natCast] at hk
  simp only [e0, e1, decide_true, cond_true, Bool.not_true, cond_false]
  refine ⟨s, j, rfl, rfl, hs, h1, ?_⟩
  cases hd : dirtyG s j with
  | true => simpa [hd] using hk
  | false =>
    simp only [cond_false]
    refine ⟨s.fs, j, key, rfl, rfl, hs.hl, ?_⟩
    simp only [hd, Bool.false_eq_true, if_false] at hk
    cases hp : putG s.fs j key with
    | none => simpa [hp] using hk
    | some fs =>
      have hlen : fs.length = s.fs.length := by
        unfold putG at hp
        split at hp
        · cases hp
        · split at hp
          · repeat' split at hp
            all_goals first | cases hp | skip
            simp
          · cases hp
      simp only [hp, Option.map_some, Option.isSome_some, Option.getD_some] at hk
      simp only [Option.isSome_some, Bool.not_true, cond_false, Int.toNat_natCast, hj, Nat.zero_add, opHa hj rfl, decide_true, cond_true, Option.getD_some]
      rintro _ rfl
      have e : AV.agg 72 [AV.arr 1 (arI IntKind.u8 32 (AV.arr 1 (encL IntKind.u8 32 h.1.1))), AV.arr 1 (arI IntKind.u8 32 (AV.arr 1 (encL IntKind.u8 32 h.2.1))), AV.arr 1 (arI IntKind.i64 8 (AV.arr 1 (encL IntKind.i64 8 h.3.1)))] = encHd h := by
        rw [arr_get, arr_get, arr_get, arI_encA, arI_encA, arI_encA]; rfl
      rw [e, row_set, GR_at _ _ rfl (by simp)]
      exact hk
end Go.Proofs.YtlnbbgagccgnjaaDoor
/-
  The reference's frames: cleaning, forgetting, holding, writing.
-/
namespace Go.Proofs.YtlnbbgagccgnjaaDoor
open Go Go.X
variable {F : Nat}
theorem clean27 (N : Nat) (args : List AV) (H : Heap) (k : AV → Heap → Bool → Prop) : t27 args H k → runP (S F) TR N 9 (S F).fu 27 args H k := by
  rintro ⟨s, a, rfl, rfl, hs, hk⟩
  rw [tree27]
  refine ⟨s, a, rfl, rfl, hs, ?_⟩
  unfold cleanG at hk
  cases ho : ofG s a with
  | none => simpa [ho, fV] using hk
  | some j =>
    have hj := ofG_lt ho
    have hh : j < s.hs.length := by rw [hs.hh]; exact hj
    have g0 : ((j : Int) ≥ 0) := by omega
    simp only [ho, List.getElem?_eq_getElem hh] at hk
    simp only [fV, g0, decide_true, cond_true, Int.toNat_natCast, hh, Nat.zero_add, Nat.add_zero, okH1 hh rfl, prH1 hh, isArrI_encA, opH0 hh rfl, arI_encA, set_h0 hh, row_set]
    rintro _ rfl
    rw [GR_at _ _ rfl (by simp)]
    exact hk
theorem forget28 (N : Nat) (args : List AV) (H : Heap) (k : AV → Heap → Bool → Prop) : t28 args H k → runP (S F) TR N 9 (S F).fu 28 args H k := by
  rintro ⟨s, a, rfl, rfl, hs, hk⟩
  rw [tree28]
  refine ⟨s.fs, a, rfl, rfl, hs.hl, ?_⟩
  unfold forgetG at hk
  cases hf : fR a s.fs with
  | none => simpa [hf, fV] using hk
  | some j =>
    have g0 : ((j : Int) ≥ 0) := by omega
    simp only [fV, g0, decide_true, cond_true]
    refine ⟨s.fs, j, rfl, rfl, ?_⟩
    simp only [hf, Option.bind_some] at hk
    cases hd : dropG s.fs j with
    | none => simpa [hd] using hk
    | some fs => simpa [hd] using hk
theorem enc_hold (p : Ar 32) : AV.agg 72 [AV.arr 1 (arI IntKind.u8 32 (AV.arr 1 (encL IntKind.u8 32 p.1))), AV.arr 1 (arI IntKind.u8 32 (AV.arr 1 (encL IntKind.u8 32 p.1))), AV.arr 1 (encL IntKind.i64 8 fun (_i : Nat) => 0)] = encHd ⟨p, p, Ar.zero 8⟩ := by
  rw [arr_get, arI_encA]; rfl
theorem enc_holdM (p : Ar 8) : AV.agg 72 [AV.arr 1 (encL IntKind.u8 32 fun (_i : Nat) => 0), AV.arr 1 (encL IntKind.u8 32 fun (_i : Nat) => 0), AV.arr 1 (arI IntKind.i64 8 (AV.arr 1 (encL IntKind.i64 8 p.1)))] = encHd ⟨Ar.zero 32, Ar.zero 32, p⟩ := by
  rw [arr_get, arI_encA]; rfl
theorem holdP24 (N : Nat) (args : List AV) (H : Heap) (k : AV → Heap → Bool → Prop) : t24 args H k → runP (S F) TR N 9 (S F).fu 24 args H k := by
  rintro ⟨s, fr, a, p, rfl, rfl, hs, hk⟩
  rw [tree24]
  unfold holdPG at hk
  by_cases h0 : a < 0
  · have e0 : ¬ (a ≥ 0) := by omega
    simpa [h0, e0] using hk
  have e0 : a ≥ 0 := by omega
  by_cases h1 : a < 64
  · simp only [h0, h1, if_true, if_false] at hk
    simp only [e0, h1, decide_true, cond_true]
    exact ⟨s, fr, a, ⟨p, p, Ar.zero 8⟩, by rw [enc_hold], rfl, hs, hk⟩
  · simpa [h0, e0, h1] using hk
theorem holdM25 (N : Nat) (args : List AV) (H : Heap) (k : AV → Heap → Bool → Prop) : t25 args H k → runP (S F) TR N 9 (S F).fu 25 args H k := by
  rintro ⟨s, fr, a, p, rfl, rfl, hs, hk⟩
  rw [tree25]
  unfold holdMG at hk
  by_cases h0 : a < 0
  · have e0 : ¬ (a ≥ 0) := by omega
    simpa [h0, e0] using hk
  have e0 : a ≥ 0 := by omega
  by_cases h1 : a < 8
  · have hw : IntKind.i64.wrap (64 + a) = 64 + a := by rw [IntKind.wrap_i64]; omega
    simp only [h0, h1, if_true, if_false] at hk
    simp only [e0, h1, decide_true, cond_true]
    exact ⟨s, fr, 64 + a, ⟨Ar.zero 32, Ar.zero 32, p⟩, by rw [enc_holdM, hw], rfl, hs, hk⟩
  · simpa [h0, e0, h1] using hk
theorem touchG_length (fs : List Fr) (a : Int) : (touchG fs a).length = fs.length := by
  unfold touchG
  split
  · rfl
  · split
    · split <;> simp
    · rfl
theorem write26 (N : Nat) (args : List AV) (H : Heap) (k : AV → Heap → Bool → Prop) : t26 args H k → runP (S F) TR N 9 (S F).fu 26 args H k := by
  rintro ⟨s, a, off, d, rfl, rfl, hs, hl, hk⟩
  unfold writeG at hk
  cases d with
  | none =>
    show runP (S F) TR N 9 (S F).fu 26 [C0, .int .i64 a, .int .i64 off, .nils] (GH s) k
    rw [nil26]
    refine ⟨s, a, rfl, rfl, hs, ?_⟩
    cases ho : ofG s a with
    | none => simpa [ho, fV] using hk
    | some j =>
      have hj := ofG_lt ho
      have hh : j < s.hs.length := by rw [hs.hh]; exact hj
      have g0 : ¬ ((j : Int) < 0) := by omega
      have g1 : (0 ≤ (j : Int)) := by omega
      simp only [ho, List.getElem?_eq_getElem hh] at hk
      simp only [fV, g0, g1, decide_true, cond_true, decide_false, cond_false, Int.toNat_natCast, hh, Nat.zero_add, okH1 hh rfl, prH1 hh, isArrI_encA]
      refine ⟨s.hs[j].now, off, none, by rw [arI_encA]; rfl, trivial, hl, ?_⟩
      simp only [Option.getD_none] at hk ⊢
      cases ha : applyA s.hs[j].now off [] with
      | none => simpa [ha, AV.toBool] using hk
      | some q =>
        exfalso
        unfold applyA at ha
        simp at ha
  | some ds =>
    show runP (S F) TR N 9 (S F).fu 26 [C0, .int .i64 a, .int .i64 off, .isl 1 (row encU ds)] (GH s) k
    rw [tree26]
    refine ⟨s, a, rfl, rfl, hs, ?_⟩
    cases ho : ofG s a with
    | none => simpa [ho, fV] using hk
    | some j =>
      have hj := ofG_lt ho
      have hh : j < s.hs.length := by rw [hs.hh]; exact hj
      have g0 : ¬ ((j : Int) < 0) := by omega
      have g1 : (0 ≤ (j : Int)) := by omega
      simp only [ho, List.getElem?_eq_getElem hh] at hk
      simp only [fV, g0, g1, decide_true, cond_true, decide_false, cond_false, Int.toNat_natCast, hh, Nat.zero_add, okH1 hh rfl, prH1 hh, isArrI_encA, opH1 hh rfl]
      refine ⟨s.hs[j].now, off, some ds, by rw [arI_encA]; rfl, trivial, hl, ?_⟩
      simp only [Option.getD_some] at hk ⊢
      cases ha : applyA s.hs[j].now off ds with
      | none => simpa [ha, AV.toBool] using hk
      | some q =>
        simp only [ha] at hk
        simp only [Option.isSome_some, AV.toBool, Bool.not_true, cond_false, Option.getD_some, arr_get, arI_encA, set_h1 hh, row_set]
        rintro _ rfl
        refine ⟨s.fs, j, rfl, rfl, ?_⟩
        rw [GR_at _ _ rfl (by simp)]
        exact hk
end Go.Proofs.YtlnbbgagccgnjaaDoor
/- The reference's dirty ones, its frames made anew, lists of numbers compared: trees.
-/
namespace Go.Proofs.YtlnbbgagccgnjaaDoor
open Go Go.X
variable {F : Nat}
abbrev L33 (l : AV) (i : Int) : List (Nat × AV) := [(0, C0), (2, .bad), (3, l), (4, .int .i64 i), (5, .bad), (7, .bad), (19, .bad)]
abbrev GL (n : Nat) : AV := .sl ⟨5, 0, [], n⟩ 1 n 0 n
def GD (s : RS) (D : List AV) : Heap := GH s ++ [none, some ⟨.arr 1 D, true, true⟩]
abbrev L47 (n i : Int) : List (Nat × AV) := [(0, .int .i64 n), (2, .bad), (3, .bad), (4, C0), (5, .int .i64 i), (11, .bad), (16, .bad)]
def MR (n : Nat) (A : List AV) : Heap := [some ⟨.agg 2 [.sl ⟨2, 0, [], 3 * n⟩ 3 n 0 n, .int .i64 0], false, false⟩, none, some ⟨.arr 3 A, true, true⟩]
def M0 : Heap := [some ⟨.agg 2 [.nils, .int .i64 0], false, true⟩]
abbrev L32 (a b : AV) (i : Int) : List (Nat × AV) := [(0, a), (1, b), (4, .bad), (5, .int .i64 i), (10, .bad), (14, .bad), (25, .bad)]
theorem start33 (N fuel : Nat) (s : RS) (k : AV → Heap → Bool → Prop) :
 (runP (S F) TR N 9 fuel 33 [C0] (GH s) k) =
 ((resPS (S F) TR N 9 fuel 33 1 4 [] [true, true, false, true] fuel (St.mk [(0, AV.ptr (Pl.mk 0 0 [] 2)), (2, AV.bad), (3, AV.nils), (4, AV.int IntKind.i64 0), (5, AV.bad), (7, AV.bad), (19, AV.bad)] [] (GH s) false) k) : Prop) := by kernel_rfl
theorem stepN33 (N fuel m : Nat) (s : RS) (i : Int) (k : AV → Heap → Bool → Prop) :
 (resPS (S F) TR N 9 fuel 33 1 4 [] [true, true, false, true] (m + 1) ⟨L33 .nils i, [], GH s, false⟩ k) =
 ((cond (decide (i < 64))
 (∃ (s0 : RS),
 ∃ (a1 : Int),
 And ([AV.ptr (Pl.mk 0 0 [] 2), AV.int IntKind.i64 i] = [AV.ptr (Pl.mk 0 0 [] 2), AV.int IntKind.i64 a1])
 (And (GH s = GH s0)
 (And (OkG s0)
 (cond (decide (fV (ofG s0 a1) ≥ 0))
 (∃ (s2 : RS),
 ∃ (i3 : Nat),
 And ([AV.ptr (Pl.mk 0 0 [] 2), AV.int IntKind.i64 (fV (ofG s0 a1))] = [AV.ptr (Pl.mk 0 0 [] 2), AV.int IntKind.i64 (↑i3 : Int)])
 (And (GH s = GH s2)
 (And (OkG s2)
 (And (i3 < List.length s2.1)
 (cond (dirtyG s2 i3)
 (resPS (S F) TR N 9 fuel 33 1 4 [] [true, true, false, true] m (St.mk [(0, AV.ptr (Pl.mk 0 0 [] 2)), (2, AV.bad), (3, AV.sl (Pl.mk 5 0 [] 1) 1 1 0 1), (4, AV.int IntKind.i64 (IntKind.wrap IntKind.i64 (i + 1))), (5, AV.bad), (7, AV.bad), (19, AV.bad)] [] (GD s [AV.int IntKind.i64 i]) false) k)
 (resPS (S F) TR N 9 fuel 33 1 4 [] [true, true, false, true] m (St.mk [(0, AV.ptr (Pl.mk 0 0 [] 2)), (2, AV.bad), (3, AV.nils), (4, AV.int IntKind.i64 (IntKind.wrap IntKind.i64 (i + 1))), (5, AV.bad), (7, AV.bad), (19, AV.bad)] [] (GH s) false) k))))))
 (resPS (S F) TR N 9 fuel 33 1 4 [] [true, true, false, true] m (St.mk [(0, AV.ptr (Pl.mk 0 0 [] 2)), (2, AV.bad), (3, AV.nils), (4, AV.int IntKind.i64 (IntKind.wrap IntKind.i64 (i + 1))), (5, AV.bad), (7, AV.bad), (19, AV.bad)] [] (GH s) false) k)))))
 (k AV.nils (GH s) false)) : Prop) := by kernel_rfl
theorem stepS33 (N fuel m : Nat) (s : RS) (i : Int) (l : List Int) (k : AV → Heap → Bool → Prop) :
 (resPS (S F) TR N 9 fuel 33 1 4 [] [true, true, false, true] (m + 1) ⟨L33 (GL l.length) i, [], GD s (row encZ l), false⟩ k) =
 ((cond (decide (i < 64))
 (∃ (s0 : RS),
 ∃ (a1 : Int),
 And ([AV.ptr (Pl.mk 0 0 [] 2), AV.int IntKind.i64 i] = [AV.ptr (Pl.mk 0 0 [] 2), AV.int IntKind.i64 a1])
 (And (GH s = GH s0)
 (And (OkG s0)
 (cond (decide (fV (ofG s0 a1) ≥ 0))
 (∃ (s2 : RS),
 ∃ (i3 : Nat),
 And ([AV.ptr (Pl.mk 0 0 [] 2), AV.int IntKind.i64 (fV (ofG s0 a1))] = [AV.ptr (Pl.mk 0 0 [] 2), AV.int IntKind.i64 (↑i3 : Int)])
 (And (GH s = GH s2)
 (And (OkG s2)
 (And (i3 < List.length s2.1)
 (cond (dirtyG s2 i3)
 (cond (decide (1 * List.length (row encZ l) = List.length l) && decide (List.length (row encZ l) = List.length l) && decide (0 + List.length l ≤ List.length l))
 (cond (decide (0 + List.length l + 1 ≤ List.length l))
 (resPS (S F) TR N 9 fuel 33 1 4 [] [true, true, false, true] m (St.mk [(0, AV.ptr (Pl.mk 0 0 [] 2)), (2, AV.bad), (3, AV.sl (Pl.mk 5 0 [] (List.length l)) 1 (List.length l) 0 (List.length l + 1)), (4, AV.int IntKind.i64 (IntKind.wrap IntKind.i64 (i + 1))), (5, AV.bad), (7, AV.bad), (19, AV.bad)] [] (GD s (setMany (row encZ l) (0 + List.length l) [AV.int IntKind.i64 i])) false) k)
 (cond (true && decide (List.length l = List.length l) && true && decide ((List.length l + 1) * 8 ≤ 70368744177664) && decide (List.length l + 1 ≤ 70368744177664))
 (resPS (S F) TR N 9 fuel 33 1 4 [] [true, true, false, true] m (St.mk [(0, AV.ptr (Pl.mk 0 0 [] 2)), (2, AV.bad), (3, AV.sl (Pl.mk 5 0 [] (1 * (List.length l + 1))) 1 (List.length l + 1) 0 (List.length l + 1)), (4, AV.int IntKind.i64 (IntKind.wrap IntKind.i64 (i + 1))), (5, AV.bad), (7, AV.bad), (19, AV.bad)] [] (GD s (row encZ l ++ [AV.int IntKind.i64 i])) false) k)
 (False)))
 (False))
 (resPS (S F) TR N 9 fuel 33 1 4 [] [true, true, false, true] m (St.mk [(0, AV.ptr (Pl.mk 0 0 [] 2)), (2, AV.bad), (3, AV.sl (Pl.mk 5 0 [] (List.length l)) 1 (List.length l) 0 (List.length l)), (4, AV.int IntKind.i64 (IntKind.wrap IntKind.i64 (i + 1))), (5, AV.bad), (7, AV.bad), (19, AV.bad)] [] (GD s (row encZ l)) false) k))))))
 (resPS (S F) TR N 9 fuel 33 1 4 [] [true, true, false, true] m (St.mk [(0, AV.ptr (Pl.mk 0 0 [] 2)), (2, AV.bad), (3, AV.sl (Pl.mk 5 0 [] (List.length l)) 1 (List.length l) 0 (List.length l)), (4, AV.int IntKind.i64 (IntKind.wrap IntKind.i64 (i + 1))), (5, AV.bad), (7, AV.bad), (19, AV.bad)] [] (GD s (row encZ l)) false) k)))))
 (k (AV.sl (Pl.mk 5 0 [] (List.length l)) 1 (List.length l) 0 (List.length l)) (GD s (row encZ l)) false)) : Prop) := by kernel_rfl
theorem start47 (N fuel : Nat) (n : Int) (k : AV → Heap → Bool → Prop) :
 (runP (S F) T1 N 9 fuel 47 [.int .i64 n] [] k) =
 ((cond (decide (n < 1))
 (k (AV.tuple [AV.nilp, AV.int IntKind.i64 1]) [] false)
 (cond (decide (n > 16))
 (k (AV.tuple [AV.nilp, AV.int IntKind.i64 1]) [] false)
 (resPS (S F) T1 N 9 fuel 47 1 0 [] [true, true, true, false, true] fuel (St.mk [(0, AV.int IntKind.i64 n), (2, AV.bad), (3, AV.bad), (4, AV.ptr (Pl.mk 0 0 [] 2)), (5, AV.int IntKind.i64 0), (11, AV.bad), (16, AV.bad)] [] M0 false) k))) : Prop) := by kernel_rfl
theorem stepN47 (N fuel m : Nat) (n i : Int) (k : AV → Heap → Bool → Prop) :
 (resPS (S F) T1 N 9 fuel 47 1 0 [] [true, true, true, false, true] (m + 1) ⟨L47 n i, [], M0, false⟩ k) =
 ((cond (decide (i < n))
 (resPS (S F) T1 N 9 fuel 47 1 0 [] [true, true, true, false, true] m (St.mk [(0, AV.int IntKind.i64 n), (2, AV.bad), (3, AV.bad), (4, AV.ptr (Pl.mk 0 0 [] 2)), (5, AV.int IntKind.i64 (IntKind.wrap IntKind.i64 (i + 1))), (11, AV.bad), (16, AV.bad)] [] [some (Blk.mk (AV.agg 2 [AV.sl (Pl.mk 2 0 [] 3) 3 1 0 1, AV.int IntKind.i64 0]) false false), none, some (Blk.mk (AV.arr 3 [AV.agg 3 [AV.int IntKind.i64 (-1 : Int), AV.int IntKind.i64 0, AV.bool false]]) true true)] false) k)
 (k (AV.tuple [AV.ptr (Pl.mk 0 0 [] 2), AV.int IntKind.i64 0]) M0 false)) : Prop) := by kernel_rfl
theorem stepS47 (N fuel m : Nat) (n i : Int) (l : List Fr) (k : AV → Heap → Bool → Prop) :
 (resPS (S F) T1 N 9 fuel 47 1 0 [] [true, true, true, false, true] (m + 1) ⟨L47 n i, [], MR l.length (row encR l), false⟩ k) =
 ((cond (decide (i < n))
 (cond (decide (3 * List.length (row encR l) = 3 * List.length l) && decide (List.length (row encR l) = List.length l) && decide (0 + List.length l ≤ List.length l))
 (cond (decide (0 + List.length l + 1 ≤ List.length l))
 (resPS (S F) T1 N 9 fuel 47 1 0 [] [true, true, true, false, true] m (St.mk [(0, AV.int IntKind.i64 n), (2, AV.bad), (3, AV.bad), (4, AV.ptr (Pl.mk 0 0 [] 2)), (5, AV.int IntKind.i64 (IntKind.wrap IntKind.i64 (i + 1))), (11, AV.bad), (16, AV.bad)] [] [some (Blk.mk (AV.agg 2 [AV.sl (Pl.mk 2 0 [] (3 * List.length l)) 3 (List.length l) 0 (List.length l + 1), AV.int IntKind.i64 0]) false false), none, some (Blk.mk (AV.arr 3 (setMany (row encR l) (0 + List.length l) [AV.agg 3 [AV.int IntKind.i64 (-1 : Int), AV.int IntKind.i64 0, AV.bool false]])) true true)] false) k)
 (cond (true && decide (List.length l = List.length l) && true && decide ((List.length l + 1) * 24 ≤ 70368744177664) && decide (List.length l + 1 ≤ 70368744177664))
 (resPS (S F) T1 N 9 fuel 47 1 0 [] [true, true, true, false, true] m (St.mk [(0, AV.int IntKind.i64 n), (2, AV.bad), (3, AV.bad), (4, AV.ptr (Pl.mk 0 0 [] 2)), (5, AV.int IntKind.i64 (IntKind.wrap IntKind.i64 (i + 1))), (11, AV.bad), (16, AV.bad)] [] (MR (List.length l + 1) (row encR l ++ [AV.agg 3 [AV.int IntKind.i64 (-1 : Int), AV.int IntKind.i64 0, AV.bool false]])) false) k)
 (False)))
 (False))
 (k (AV.tuple [AV.ptr (Pl.mk 0 0 [] 2), AV.int IntKind.i64 0]) (MR (List.length l) (row encR l)) false)) : Prop) := by kernel_rfl
theorem start32 (N fuel : Nat) (l m : List Int) (k : AV → Heap → Bool → Prop) :
 (runP (S F) T1 N 9 fuel 32 [.isl 1 (row encZ l), .isl 1 (row encZ m)] [] k) =
 ((cond (!(↑(List.length (row encZ l)) : Int) == (↑(List.length (row encZ m)) : Int))
 (k (AV.bool false) [] false)
 (resPS (S F) T1 N 9 fuel 32 2 0 [] [true, true, false, true] fuel (St.mk [(0, AV.isl 1 (row encZ l)), (1, AV.isl 1 (row encZ m)), (4, AV.bad), (5, AV.int IntKind.i64 0), (10, AV.bad), (14, AV.bad), (25, AV.bad)] [] [] false) k)) : Prop) := by kernel_rfl
theorem step32 (N fuel n : Nat) (l m : List Int) (i : Int) (k : AV → Heap → Bool → Prop) :
 (resPS (S F) T1 N 9 fuel 32 2 0 [] [true, true, false, true] (n + 1) ⟨L32 (.isl 1 (row encZ l)) (.isl 1 (row encZ m)) i, [], [], false⟩ k) =
 ((cond (decide (i < (↑(List.length (row encZ l)) : Int)))
 (cond (decide (0 ≤ i))
 (cond (AV.isIntK (Option.getD (row encZ l)[Int.toNat i]? AV.bad) IntKind.i64)
 (cond (decide (0 ≤ i))
 (cond (AV.isIntK (Option.getD (row encZ m)[Int.toNat i]? AV.bad) IntKind.i64)
 (cond (!AV.toInt (Option.getD (row encZ l)[Int.toNat i]? AV.bad) == AV.toInt (Option.getD (row encZ m)[Int.toNat i]? AV.bad))
 (k (AV.bool false) [] false)
 (resPS (S F) T1 N 9 fuel 32 2 0 [] [true, true, false, true] n (St.mk [(0, AV.isl 1 (row encZ l)), (1, AV.isl 1 (row encZ m)), (4, AV.bad), (5, AV.int IntKind.i64 (IntKind.wrap IntKind.i64 (i + 1))), (10, AV.bad), (14, AV.bad), (25, AV.bad)] [] [] false) k))
 (False))
 (False))
 (False))
 (False))
 (k (AV.bool true) [] false)) : Prop) := by kernel_rfl
theorem nn32 (N fuel : Nat) (k : AV → Heap → Bool → Prop) :
 (runP (S F) T1 N 9 (fuel + 1) 32 [.nils, .nils] [] k) =
 ((k (AV.bool true) [] false) : Prop) := by kernel_rfl
theorem ns32 (N fuel : Nat) (m : List Int) (k : AV → Heap → Bool → Prop) :
 (runP (S F) T1 N 9 fuel 32 [.nils, .isl 1 (row encZ m)] [] k) =
 ((cond (!(↑0 : Int) == (↑(List.length (row encZ m)) : Int))
 (k (AV.bool false) [] false)
 (resPS (S F) T1 N 9 fuel 32 2 0 [] [true, true, false, true] fuel (St.mk [(0, AV.nils), (1, AV.isl 1 (row encZ m)), (4, AV.bad), (5, AV.int IntKind.i64 0), (10, AV.bad), (14, AV.bad), (25, AV.bad)] [] [] false) k)) : Prop) := by kernel_rfl
theorem sn32 (N fuel : Nat) (m : List Int) (k : AV → Heap → Bool → Prop) :
 (runP (S F) T1 N 9 fuel 32 [.isl 1 (row encZ m), .nils] [] k) =
 ((cond (!(↑(List.length (row encZ m)) : Int) == (↑0 : Int))
 (k (AV.bool false) [] false)
 (resPS (S F) T1 N 9 fuel 32 2 0 [] [true, true, false, true] fuel (St.mk [(0, AV.isl 1 (row encZ m)), (1, AV.nils), (4, AV.bad), (5, AV.int IntKind.i64 0), (10, AV.bad), (14, AV.bad), (25, AV.bad)] [] [] false) k)) : Prop) := by kernel_rfl
end Go.Proofs.YtlnbbgagccgnjaaDoor
/-
  The reference's dirty ones; lists of numbers compared.
-/
namespace Go.Proofs.YtlnbbgagccgnjaaDoor
open Go Go.X
variable {F : Nat}
/-- Is a page dirty, in the reference? -/
noncomputable def gd (s : RS) (x : Int) : Bool := match ofG s x with
  | some j => dirtyG s j
  | none => false
noncomputable def gFrom (s : RS) : Nat → Nat → List Int
  | 0, _ => []
  | d + 1, j => (if gd s j then [(j : Int)] else []) ++ gFrom s d (j + 1)
def gOut (s : RS) (k : AV → Heap → Bool → Prop) : List Int → Prop
  | [] => k .nils (GH s) false
  | l => k (GL l.length) (GD s (row encZ l)) false
def S33 (s : RS) (l : List Int) (i : Int) : St := match l with
  | [] => ⟨L33 .nils i, [], GH s, false⟩
  | l => ⟨L33 (GL l.length) i, [], GD s (row encZ l), false⟩
theorem S33_of {s : RS} {l : List Int} {i : Int} {n : Nat} {D : List AV} (hl : l ≠ []) (hn : l.length = n) (hD : row encZ l = D) : S33 s l i = ⟨L33 (.sl ⟨5, 0, [], n⟩ 1 n 0 n) i, [], GD s D, false⟩ := by
  subst hn hD
  cases l with
  | nil => exact absurd rfl hl
  | cons => rfl
theorem fV_some {j : Nat} : fV (some j) = (j : Int) := rfl
theorem loop33 (N fuel : Nat) (s : RS) (k : AV → Heap → Bool → Prop) (hs : OkG s) : ∀ (d j n : Nat) (l : List Int), j + d = 64 → d < n → l.length ≤ j → gOut s k (l ++ gFrom s d j) →
    resPS (S F) TR N 9 fuel 33 1 4 [] [true, true, false, true] n (S33 s l j) k
  | d, j, 0, l, _, hn, _, _ => by omega
  | 0, j, n + 1, l, hd, _, hl, hk => by
    have e1 : ¬ ((j : Int) < 64) := by omega
    rw [gFrom, List.append_nil] at hk
    cases l with
    | nil =>
      show resPS (S F) TR N 9 fuel 33 1 4 [] [true, true, false, true] (n + 1) ⟨L33 .nils j, [], GH s, false⟩ k
      rw [stepN33, decide_eq_false e1, cond_false]
      exact hk
    | cons a l =>
      show resPS (S F) TR N 9 fuel 33 1 4 [] [true, true, false, true] (n + 1) ⟨L33 (GL (a :: l).length) j, [], GD s (row encZ (a :: l)), false⟩ k
      rw [stepS33, decide_eq_false e1, cond_false]
      exact hk
  | d + 1, j, n + 1, l, hd, hn, hl, hk => by
    have e1 : ((j : Int) < 64) := by omega
    have hw : IntKind.i64.wrap ((j : Int) + 1) = ((j + 1 : Nat) : Int) := wrapS (by omega)
    have ih := loop33 N fuel s k hs d (j + 1) n
    rw [gFrom] at hk
    cases l with
    | nil =>
      show resPS (S F) TR N 9 fuel 33 1 4 [] [true, true, false, true] (n + 1) ⟨L33 .nils j, [], GH s, false⟩ k
      rw [stepN33, decide_eq_true e1, cond_true, hw]
      refine ⟨s, j, rfl, rfl, hs, ?_⟩
      cases ho : ofG s j with
      | none =>
        have hk' : gOut s k ([] ++ gFrom s d (j + 1)) := by simpa [gd, ho] using hk
        exact ih [] (by omega) (by omega) (by simp) hk'
      | some x =>
        have g0 : ((x : Int) ≥ 0) := by omega
        rw [fV_some, decide_eq_true g0, cond_true]
        refine ⟨s, x, rfl, rfl, hs, ofG_lt ho, ?_⟩
        cases hb : dirtyG s x with
        | false =>
          have hk' : gOut s k ([] ++ gFrom s d (j + 1)) := by simpa [gd, ho, hb] using hk
          exact ih [] (by omega) (by omega) (by simp) hk'
        | true =>
          have hk' : gOut s k ([(j : Int)] ++ gFrom s d (j + 1)) := by simpa [gd, ho, hb] using hk
          exact ih _ (by omega) (by omega) (by simp) hk'
    | cons a l =>
      show resPS (S F) TR N 9 fuel 33 1 4 [] [true, true, false, true] (n + 1) ⟨L33 (GL (a :: l).length) j, [], GD s (row encZ (a :: l)), false⟩ k
      rw [stepS33, decide_eq_true e1, cond_true, hw]
      generalize hL : a :: l = L at hk hl
      have hne : L ≠ [] := by rw [← hL]; simp
      refine ⟨s, j, rfl, rfl, hs, ?_⟩
      cases ho : ofG s j with
      | none =>
        have hk' : gOut s k (L ++ gFrom s d (j + 1)) := by simpa [gd, ho] using hk
        have h1 := ih L (by omega) (by omega) (by omega) hk'
        rw [S33_of hne rfl rfl] at h1
        exact h1
      | some x =>
        have g0 : ((x : Int) ≥ 0) := by omega
        rw [fV_some, decide_eq_true g0, cond_true]
        refine ⟨s, x, rfl, rfl, hs, ofG_lt ho, ?_⟩
        cases hb : dirtyG s x with
        | false =>
          have hk' : gOut s k (L ++ gFrom s d (j + 1)) := by simpa [gd, ho, hb] using hk
          have h1 := ih L (by omega) (by omega) (by omega) hk'
          rw [S33_of hne rfl rfl] at h1
          exact h1
        | true =>
          have hk' : gOut s k ((L ++ [(j : Int)]) ++ gFrom s d (j + 1)) := by simpa [gd, ho, hb] using hk
          have h1 := ih (L ++ [(j : Int)]) (by omega) (by omega) (by simp; omega) hk'
          rw [S33_of (n := L.length + 1) (by simp) (by simp) (row_append.symm)] at h1
          have e2 : ¬ (L.length + 1 ≤ L.length) := by omega
          have e3 : (L.length + 1) * 8 ≤ 70368744177664 := by omega
          have e4 : L.length + 1 ≤ 70368744177664 := by omega
          simp [row_one, e2, e3, e4] at h1 ⊢
          exact h1
/-- The dirty ones, in the reference. -/
noncomputable def gdirts (s : RS) : List Int := gFrom s 64 0
def t33 : PT := fun args H k => ∃ s : RS, args = [C0] ∧ H = GH s ∧ OkG s ∧ (gdirts s = [] → k .nils H false) ∧ ∀ l, l = gdirts s → l ≠ [] → k (GL l.length) (GD s (row encZ l)) false
theorem dirty33 (N : Nat) (args : List AV) (H : Heap) (k : AV → Heap → Bool → Prop) : t33 args H k → runP (S F) TR N 9 (S F).fu 33 args H k := by
  rintro ⟨s, rfl, rfl, hs, hk1, hk2⟩
  rw [start33]
  have hk : gOut s k (gdirts s) := by
    cases hl : gdirts s with
    | nil => exact hk1 hl
    | cons a l => exact hk2 _ hl.symm (by simp)
  exact loop33 (F := F) N (S F).fu s k hs 64 0 (S F).fu [] (by omega) (by rw [S_fu]; omega) (by simp) hk
theorem loop32 (N fuel : Nat) (l m : List Int) (k : AV → Heap → Bool → Prop) (hm : l.length = m.length) (hb : l.length < 5000) (hk : k (.bool (decide (l = m))) [] false) :
    ∀ (d j n : Nat), j + d = l.length → d < n → l.take j = m.take j → resPS (S F) T1 N 9 fuel 32 2 0 [] [true, true, false, true] n ⟨L32 (.isl 1 (row encZ l)) (.isl 1 (row encZ m)) j, [], [], false⟩ k
  | d, j, 0, _, hn, _ => by omega
  | 0, j, n + 1, hd, _, ht => by
    rw [step32]
    have hj : j = l.length := by omega
    have e : l = m := by
      rw [hj, List.take_length, hm, List.take_length] at ht
      exact ht
    subst hj
    rw [decide_eq_true e] at hk
    simpa [row_length] using hk
  | d + 1, j, n + 1, hd, hn, ht => by
    have hj : j < l.length := by omega
    have hj' : j < m.length := by omega
    have hw : IntKind.i64.wrap ((j : Int) + 1) = ((j + 1 : Nat) : Int) := wrapS (by omega)
    have ih := loop32 N fuel l m k hm hb hk d (j + 1) n (by omega) (by omega)
    rw [step32]
    have g1 : ((j : Int) < ((row encZ l).length : Int)) := by rw [row_length]; omega
    simp only [g1, decide_true, cond_true, Int.natCast_nonneg, Int.toNat_natCast, row_get hj, row_get hj', Option.getD_some, hw]
    by_cases he : l[j] = m[j]
    · have h1 := ih (by rw [List.take_succ_eq_append_getElem hj, List.take_succ_eq_append_getElem hj', ht, he])
      simp only [encK, AV.isIntK, AV.toInt, he, BEq.rfl, Bool.not_true, cond_false, cond_true]
      exact h1
    · have hne : ¬ l = m := fun h => he (by subst h; rfl)
      rw [decide_eq_false hne] at hk
      have hq : (l[j] == m[j]) = false := beq_eq_false_iff_ne.2 he
      simp only [encK, AV.isIntK, AV.toInt, hq, BEq.rfl, Bool.not_false, cond_true]
      exact hk
/-- A list of numbers, as it is handed on. -/
def numsAV (l : List Int) : AV := match l with
  | [] => .nils
  | l => .isl 1 (row encZ l)
def t32 : PT := fun args H k => ∃ (l m : List Int), args = [numsAV l, numsAV m] ∧ H = [] ∧ l.length < 5000 ∧ k (.bool (decide (l = m))) [] false
theorem ints32 (N : Nat) (args : List AV) (H : Heap) (k : AV → Heap → Bool → Prop) : t32 args H k → runP (S F) T1 N 9 (S F).fu 32 args H k := by
  rintro ⟨l, m, rfl, rfl, hl, hk⟩
  cases l with
  | nil =>
    cases m with
    | nil =>
      show runP (S F) T1 N 9 (F + 4999 + 1) 32 [.nils, .nils] [] k
      rw [nn32]
      simpa using hk
    | cons b m =>
      show runP (S F) T1 N 9 (S F).fu 32 [.nils, .isl 1 (row encZ (b :: m))] [] k
      rw [ns32]
      have e : ((0 : Int) == ((row encZ (b :: m)).length : Int)) = false := beq_eq_false_iff_ne.2 (by rw [row_length]; simp; omega)
      show cond (!((0 : Int) == ((row encZ (b :: m)).length : Int))) _ _
      rw [e, Bool.not_false, cond_true]
      simpa using hk
  | cons a l =>
    cases m with
    | nil =>
      show runP (S F) T1 N 9 (S F).fu 32 [.isl 1 (row encZ (a :: l)), .nils] [] k
      rw [sn32]
      have e : (((row encZ (a :: l)).length : Int) == (0 : Int)) = false := beq_eq_false_iff_ne.2 (by rw [row_length]; simp; omega)
      show cond (!(((row encZ (a :: l)).length : Int) == (0 : Int))) _ _
      rw [e, Bool.not_false, cond_true]
      simpa using hk
    | cons b m =>
      show runP (S F) T1 N 9 (S F).fu 32 [.isl 1 (row encZ (a :: l)), .isl 1 (row encZ (b :: m))] [] k
      rw [start32]
      generalize hL : a :: l = L at hk hl
      generalize hM : b :: m = M at hk
      by_cases he : L.length = M.length
      · have e : (((row encZ L).length : Int) == ((row encZ M).length : Int)) = true := by rw [row_length, row_length, he]; exact beq_self_eq_true _
        rw [e, Bool.not_true, cond_false]
        exact loop32 (F := F) N (S F).fu L M k he hl hk L.length 0 (S F).fu (by omega) (by rw [S_fu]; omega) rfl
      · have e : (((row encZ L).length : Int) == ((row encZ M).length : Int)) = false := beq_eq_false_iff_ne.2 (by rw [row_length, row_length]; omega)
        rw [e, Bool.not_false, cond_true]
        rw [decide_eq_false (fun h => he (by rw [h]))] at hk
        exact hk
end Go.Proofs.YtlnbbgagccgnjaaDoor
/- Frames made anew: trees.
-/
namespace Go.Proofs.YtlnbbgagccgnjaaDoor
open Go Go.X
variable {F : Nat}
def NR (n : Nat) (hand : Int) (A : List AV) : Heap := [some ⟨.arr 3 A, true, true⟩, some ⟨.agg 2 [.sl ⟨0, 0, [], 3 * n⟩ 3 n 0 n, .int .i64 hand], false, false⟩]
abbrev L36 (n : Nat) (i : Int) : List (Nat × AV) := [(0, .bad), (2, .bad), (3, .bad), (4, .ptr ⟨1, 0, [], 2⟩), (5, .bad), (11, .bad), (20, .int .i64 (n : Int)), (21, .int .i64 i), (22, .bad)]
theorem start36 (N fuel : Nat) (n : Int) (k : AV → Heap → Bool → Prop) :
 (runP (S F) T1 N 9 fuel 36 [.int .i64 n] [] k) =
 ((cond (decide (n < 1))
 (k (AV.tuple [AV.nilp, AV.int IntKind.i64 1]) [] false)
 (cond (decide (n > 16))
 (k (AV.tuple [AV.nilp, AV.int IntKind.i64 1]) [] false)
 (cond (decide (0 ≤ n))
 (cond (decide (0 ≤ n))
 (cond (decide (Int.toNat n ≤ Int.toNat n) && decide (Int.toNat n * 24 ≤ 70368744177664) && decide (Int.toNat n ≤ 70368744177664))
 (resPS (S F) T1 N 9 fuel 36 1 0 [] [true, true, true, false, true] fuel (St.mk [(0, AV.bad), (2, AV.bad), (3, AV.bad), (4, AV.ptr (Pl.mk 1 0 [] 2)), (5, AV.bad), (11, AV.bad), (20, AV.int IntKind.i64 (↑(Int.toNat n) : Int)), (21, AV.int IntKind.i64 0), (22, AV.bad)] [] (NR (Int.toNat n) 0 (List.replicate (Int.toNat n) (AV.agg 3 [AV.int IntKind.i64 0, AV.bool false, AV.int IntKind.i64 0]))) false) k)
 (False))
 (False))
 (False)))) : Prop) := by kernel_rfl
theorem step36 (N fuel m n : Nat) (i : Int) (l : List Fr) (k : AV → Heap → Bool → Prop) :
 (resPS (S F) T1 N 9 fuel 36 1 0 [] [true, true, true, false, true] (m + 1) ⟨L36 n i, [], NR n 0 (row encF l), false⟩ k) =
 ((cond (decide (i < (↑n : Int)))
 (cond (decide (0 ≤ i))
 (cond (decide (Int.toNat i < n))
 (cond (okPl (AV.arr 3 (row encF l)) [0 + Int.toNat i, 0] (0 + (0 + Int.toNat i) * 3 + 0) (3 * n) 1)
 (∀ (ys0 : List AV),
 (ys0 = List.set (row encF l) (0 + Int.toNat i) (putT [0] (Option.getD (row encF l)[0 + Int.toNat i]? AV.bad) (AV.int IntKind.i64 (-1 : Int)))) →
 resPS (S F) T1 N 9 fuel 36 1 0 [] [true, true, true, false, true] m (St.mk [(0, AV.bad), (2, AV.bad), (3, AV.bad), (4, AV.ptr (Pl.mk 1 0 [] 2)), (5, AV.bad), (11, AV.bad), (20, AV.int IntKind.i64 (↑n : Int)), (21, AV.int IntKind.i64 (IntKind.wrap IntKind.i64 (i + 1))), (22, AV.bad)] [] (NR n 0 ys0) false) k)
 (False))
 (False))
 (False))
 (k (AV.tuple [AV.ptr (Pl.mk 1 0 [] 2), AV.int IntKind.i64 0]) (NR n 0 (row encF l)) false)) : Prop) := by kernel_rfl
end Go.Proofs.YtlnbbgagccgnjaaDoor
/-
  A clock made anew.
-/
namespace Go.Proofs.YtlnbbgagccgnjaaDoor
open Go Go.X
variable {F : Nat}
def fr0 : Fr := ⟨-1, false, 0⟩
def frZ : Fr := ⟨0, false, 0⟩
def NH (fs : List Fr) (hand : Int) : Heap := NR fs.length hand (row encF fs)
theorem loop36 (N fuel : Nat) (k : AV → Heap → Bool → Prop) (n : Nat) (hn : n ≤ 16) (hk : k (.tuple [.ptr ⟨1, 0, [], 2⟩, .int .i64 0]) (NR n 0 (row encF (List.replicate n fr0))) false) :
    ∀ (d j m : Nat), j + d = n → d < m → resPS (S F) T1 N 9 fuel 36 1 0 [] [true, true, true, false, true] m ⟨L36 n j, [], NR n 0 (row encF (List.replicate j fr0 ++ List.replicate d frZ)), false⟩ k
  | d, j, 0, _, hm => by omega
  | 0, j, m + 1, hd, _ => by
    rw [step36]
    have : ¬ ((j : Int) < (n : Int)) := by omega
    obtain rfl : j = n := by omega
    simpa using hk
  | d + 1, j, m + 1, hd, hm => by
    have ih := loop36 N fuel k n hn hk d (j + 1) m (by omega) (by omega)
    rw [step36]
    have e1 : ((j : Int) < (n : Int)) := by omega
    have hj : j < n := by omega
    have hw : IntKind.i64.wrap ((j : Int) + 1) = ((j + 1 : Nat) : Int) := wrapS (by omega)
    have hl : j < (List.replicate j fr0 ++ List.replicate (d + 1) frZ).length := by simp
    have hg : 3 * (List.replicate j fr0 ++ List.replicate (d + 1) frZ).length = 3 * n := by simp; omega
    have hs : (List.replicate j fr0 ++ List.replicate (d + 1) frZ).set j ⟨-1, false, 0⟩ = List.replicate (j + 1) fr0 ++ List.replicate d frZ := by
      have h1 : List.replicate (j + 1) fr0 = List.replicate j fr0 ++ [fr0] := List.replicate_succ'
      have h2 : List.replicate (d + 1) frZ = frZ :: List.replicate d frZ := List.replicate_succ
      rw [h1, h2, List.append_assoc]
      simp [fr0]
    simp only [e1, decide_true, cond_true, Int.natCast_nonneg, Int.toNat_natCast, hj, Nat.zero_add, Nat.add_zero, opF0 hl hg, hw]
    rintro _ rfl
    rw [row_get hl, Option.getD_some, List.getElem_append_right (by simp), List.getElem_replicate, setKey]
    simp only [frZ] at hs ⊢
    rw [hs]
    exact ih
def t36 : PT := fun args H k => ∃ n : Int, args = [.int .i64 n] ∧ H = [] ∧ (n < 1 ∨ n > 16 → k (.tuple [.nilp, .int .i64 1]) [] false) ∧ (1 ≤ n ∧ n ≤ 16 → k (.tuple [.ptr ⟨1, 0, [], 2⟩, .int .i64 0]) (NR n.toNat 0 (row encF (List.replicate n.toNat fr0))) false)
theorem new36 (N : Nat) (args : List AV) (H : Heap) (k : AV → Heap → Bool → Prop) : t36 args H k → runP (S F) T1 N 9 (S F).fu 36 args H k := by
  rintro ⟨n, rfl, rfl, hkb, hk⟩
  rw [start36]
  by_cases h0 : n < 1
  · simpa [h0] using hkb
  by_cases h1 : n > 16
  · simpa [h0, h1] using hkb
  replace hk := hk (by omega)
  obtain ⟨m, rfl⟩ : ∃ m : Nat, n = m := ⟨n.toNat, by omega⟩
  have h3 : (0 : Int) ≤ m := by omega
  have h4 : m * 24 ≤ 70368744177664 := by omega
  have h5 : m ≤ 70368744177664 := by omega
  simp only [Int.toNat_natCast] at hk
  simp only [h0, h1, h3, h4, h5, Int.toNat_natCast, Nat.le_refl, decide_false, decide_true, cond_false, cond_true, Bool.and_self]
  have h6 := loop36 (F := F) N (S F).fu k m (by omega) hk m 0 (S F).fu (by omega) (by rw [S_fu]; omega)
  have h7 : row encF (List.replicate 0 fr0 ++ List.replicate m frZ) = List.replicate m (AV.agg 3 [AV.int IntKind.i64 0, AV.bool false, AV.int IntKind.i64 0]) := by simp [row, encF, frZ]
  rw [h7] at h6
  exact h6
end Go.Proofs.YtlnbbgagccgnjaaDoor
/-
  The reference's clock made anew.
-/
namespace Go.Proofs.YtlnbbgagccgnjaaDoor
open Go Go.X
variable {F : Nat}
def S47 (n : Int) : Nat → St
  | 0 => ⟨L47 n 0, [], M0, false⟩
  | j + 1 => ⟨L47 n ((j + 1 : Nat) : Int), [], MR (j + 1) (row encR (List.replicate (j + 1) fr0)), false⟩
theorem loop47 (N fuel : Nat) (k : AV → Heap → Bool → Prop) (n : Nat) (h1 : 1 ≤ n) (hn : n ≤ 16) (hk : k (.tuple [C0, .int .i64 0]) (MR n (row encR (List.replicate n fr0))) false) :
    ∀ (d j m : Nat), j + d = n → d < m → resPS (S F) T1 N 9 fuel 47 1 0 [] [true, true, true, false, true] m (S47 n j) k
  | d, j, 0, _, hm => by omega
  | 0, 0, m + 1, hd, _ => by omega
  | 0, j + 1, m + 1, hd, _ => by
    have : ¬ (((j + 1 : Nat) : Int) < (n : Int)) := by omega
    have e := stepS47 (F := F) N fuel m n ((j + 1 : Nat) : Int) (List.replicate (j + 1) fr0) k
    rw [List.length_replicate] at e
    show resPS (S F) T1 N 9 fuel 47 1 0 [] [true, true, true, false, true] (m + 1) ⟨L47 n ((j + 1 : Nat) : Int), [], MR (j + 1) (row encR (List.replicate (j + 1) fr0)), false⟩ k
    rw [e, decide_eq_false this, cond_false]
    obtain rfl : j + 1 = n := by omega
    exact hk
  | d + 1, 0, m + 1, hd, hm => by
    have ih := loop47 N fuel k n h1 hn hk d 1 m (by omega) (by omega)
    have e1 : ((0 : Int) < (n : Int)) := by omega
    show resPS (S F) T1 N 9 fuel 47 1 0 [] [true, true, true, false, true] (m + 1) ⟨L47 n 0, [], M0, false⟩ k
    rw [stepN47, decide_eq_true e1, cond_true]
    exact ih
  | d + 1, j + 1, m + 1, hd, hm => by
    have ih := loop47 N fuel k n h1 hn hk d (j + 1 + 1) m (by omega) (by omega)
    have e1 : (((j + 1 : Nat) : Int) < (n : Int)) := by omega
    have hw : IntKind.i64.wrap (((j + 1 : Nat) : Int) + 1) = ((j + 1 + 1 : Nat) : Int) := wrapS (by omega)
    have e := stepS47 (F := F) N fuel m n ((j + 1 : Nat) : Int) (List.replicate (j + 1) fr0) k
    rw [List.length_replicate, row_length, List.length_replicate] at e
    show resPS (S F) T1 N 9 fuel 47 1 0 [] [true, true, true, false, true] (m + 1) ⟨L47 n ((j + 1 : Nat) : Int), [], MR (j + 1) (row encR (List.replicate (j + 1) fr0)), false⟩ k
    have e2 : ¬ (0 + (j + 1) + 1 ≤ j + 1) := by omega
    have e3 : 0 + (j + 1) ≤ j + 1 := by omega
    have e4 : (j + 1 + 1) * 24 ≤ 70368744177664 := by omega
    have e5 : j + 1 + 1 ≤ 70368744177664 := by omega
    rw [e, decide_eq_true e1, cond_true, decide_eq_false e2, decide_eq_true e3, decide_eq_true e4, decide_eq_true e5, hw]
    simp only [decide_true, Bool.and_self, cond_true, cond_false]
    have e6 : row encR (List.replicate (j + 1) fr0) ++ [AV.agg 3 [AV.int IntKind.i64 (-1 : Int), AV.int IntKind.i64 0, AV.bool false]] = row encR (List.replicate (j + 1 + 1) fr0) := by
      rw [List.replicate_succ' (n := j + 1), ← row_append]; rfl
    rw [e6]
    exact ih
def t47 : PT := fun args H k => ∃ n : Int, args = [.int .i64 n] ∧ H = [] ∧ (n < 1 ∨ n > 16 → k (.tuple [.nilp, .int .i64 1]) [] false) ∧ (1 ≤ n ∧ n ≤ 16 → k (.tuple [C0, .int .i64 0]) (MR n.toNat (row encR (List.replicate n.toNat fr0))) false)
theorem new47 (N : Nat) (args : List AV) (H : Heap) (k : AV → Heap → Bool → Prop) : t47 args H k → runP (S F) T1 N 9 (S F).fu 47 args H k := by
  rintro ⟨n, rfl, rfl, hkb, hk⟩
  rw [start47]
  by_cases h0 : n < 1
  · simpa [h0] using hkb
  by_cases h1 : n > 16
  · simpa [h0, h1] using hkb
  replace hk := hk (by omega)
  obtain ⟨m, rfl⟩ : ∃ m : Nat, n = m := ⟨n.toNat, by omega⟩
  simp only [Int.toNat_natCast] at hk
  simp only [h0, h1, decide_false, cond_false]
  exact loop47 (F := F) N (S F).fu k m (by omega) (by omega) hk m 0 (S F).fu (by omega) (by rw [S_fu]; omega)
end Go.Proofs.YtlnbbgagccgnjaaDoor
/- The reference's frames made anew: tree.
-/
namespace Go.Proofs.YtlnbbgagccgnjaaDoor
open Go Go.X
variable {F : Nat}
def T47 : FuncId → Option PT := fun f => if f = 47 then some t47 else none
theorem tree23 (N fuel : Nat) (n : Int) (k : AV → Heap → Bool → Prop) :
 (runP (S F) T47 N 9 fuel 23 [.int .i64 n] [] k) =
 ((∃ (n0 : Int),
 And ([AV.int IntKind.i64 n] = [AV.int IntKind.i64 n0])
 (And (([] : Heap) = [])
 (And ((n0 < 1 ∨ n0 > 16) →
 k (AV.tuple [AV.nilp, AV.int IntKind.i64 1]) [] false)
 ((1 ≤ n0 ∧ n0 ≤ 16) →
 cond (decide (0 ≤ n))
 (cond (decide (0 ≤ n))
 (cond (decide (Int.toNat n ≤ Int.toNat n) && decide (Int.toNat n * 128 ≤ 70368744177664) && decide (Int.toNat n ≤ 70368744177664))
 (k (AV.tuple [AV.ptr (Pl.mk 4 0 [] 2), AV.int IntKind.i64 0]) [some (Blk.mk (AV.agg 2 [AV.sl (Pl.mk 2 0 [] (3 * Int.toNat n0)) 3 (Int.toNat n0) 0 (Int.toNat n0), AV.int IntKind.i64 0]) false false), none, some (Blk.mk (AV.arr 3 (row encR (List.replicate (Int.toNat n0) fr0))) true true), some (Blk.mk (AV.arr 72 (List.replicate (Int.toNat n) (AV.agg 72 [AV.arr 1 (encL IntKind.u8 32 fun (_i : Nat) => 0), AV.arr 1 (encL IntKind.u8 32 fun (_i : Nat) => 0), AV.arr 1 (encL IntKind.i64 8 fun (_i : Nat) => 0)]))) true true), some (Blk.mk (AV.agg 2 [AV.ptr (Pl.mk 0 0 [] 2), AV.sl (Pl.mk 3 0 [] (72 * Int.toNat n)) 72 (Int.toNat n) 0 (Int.toNat n)]) false false)] false)
 (False))
 (False))
 (False))))) : Prop) := by kernel_rfl
end Go.Proofs.YtlnbbgagccgnjaaDoor
/-
  The reference's frames made anew.
-/
namespace Go.Proofs.YtlnbbgagccgnjaaDoor
open Go Go.X
variable {F : Nat}
def hd0 : Hd := ⟨Ar.zero 32, Ar.zero 32, Ar.zero 8⟩
/-- The reference's memory as New lays it. -/
def QR (nf nh : Nat) (A B : List AV) : Heap := [some ⟨.agg 2 [.sl ⟨2, 0, [], 3 * nf⟩ 3 nf 0 nf, .int .i64 0], false, false⟩, none, some ⟨.arr 3 A, true, true⟩, some ⟨.arr 72 B, true, true⟩,
  some ⟨.agg 2 [.ptr ⟨0, 0, [], 2⟩, .sl ⟨3, 0, [], 72 * nh⟩ 72 nh 0 nh], false, false⟩]
def QH (s : RS) : Heap := QR s.fs.length s.hs.length (row encR s.fs) (row encHd s.hs)
def rs0 (n : Nat) : RS := ⟨List.replicate n fr0, List.replicate n hd0⟩
def t23 : PT := fun args H k => ∃ n : Int, args = [.int .i64 n] ∧ H = [] ∧ (n < 1 ∨ n > 16 → k (.tuple [.nilp, .int .i64 1]) [] false) ∧ (1 ≤ n ∧ n ≤ 16 → k (.tuple [.ptr ⟨4, 0, [], 2⟩, .int .i64 0]) (QH (rs0 n.toNat)) false)
theorem QH0 (n : Nat) : QR n n (row encR (List.replicate n fr0)) (List.replicate n (AV.agg 72 [AV.arr 1 (encL IntKind.u8 32 fun (_i : Nat) => 0), AV.arr 1 (encL IntKind.u8 32 fun (_i : Nat) => 0), AV.arr 1 (encL IntKind.i64 8 fun (_i : Nat) => 0)])) = QH (rs0 n) := by
  have h1 : List.replicate n (AV.agg 72 [AV.arr 1 (encL IntKind.u8 32 fun (_i : Nat) => 0), AV.arr 1 (encL IntKind.u8 32 fun (_i : Nat) => 0), AV.arr 1 (encL IntKind.i64 8 fun (_i : Nat) => 0)]) = row encHd (List.replicate n hd0) := by rw [row, List.map_replicate]; rfl
  rw [h1]
  unfold QH rs0
  simp
theorem new23 (N : Nat) (args : List AV) (H : Heap) (k : AV → Heap → Bool → Prop) : t23 args H k → runP (S F) T47 N 9 (S F).fu 23 args H k := by
  rintro ⟨n, rfl, rfl, hb, hk⟩
  rw [tree23]
  refine ⟨n, rfl, rfl, hb, fun hn => ?_⟩
  have h1 := hk hn
  obtain ⟨m, rfl⟩ : ∃ m : Nat, n = m := ⟨n.toNat, by omega⟩
  have h2 : (0 : Int) ≤ m := by omega
  have h3 : m * 128 ≤ 70368744177664 := by omega
  have h4 : m ≤ 70368744177664 := by omega
  simp only [Int.toNat_natCast] at h1
  simp only [h2, h3, h4, Int.toNat_natCast, Nat.le_refl, decide_true, cond_true, Bool.and_self]
  rw [← QH0] at h1
  exact h1
end Go.Proofs.YtlnbbgagccgnjaaDoor
/- FramesKeep: trees.
-/
namespace Go.Proofs.YtlnbbgagccgnjaaDoor
open Go Go.X
variable {F : Nat}
theorem start9 (N fuel : Nat) (l : List Stp) (k : AV → Heap → Bool → Prop) :
 (runP (S F) T1 N 9 fuel 9 [.isl 6 (row encSt l)] [] k) =
 ((resPS (S F) T1 N 9 fuel 9 1 0 [] [true, false, true] fuel (St.mk [(0, AV.isl 6 (row encSt l)), (2, AV.bad), (3, AV.int IntKind.i64 0), (7, AV.bad), (16, AV.bad)] [] [] false) k) : Prop) := by kernel_rfl
theorem step9 (N fuel m : Nat) (l : List Stp) (i : Int) (k : AV → Heap → Bool → Prop) :
 (resPS (S F) T1 N 9 fuel 9 1 0 [] [true, false, true] (m + 1) ⟨[(0, .isl 6 (row encSt l)), (2, .bad), (3, .int .i64 i), (7, .bad), (16, .bad)], [], [], false⟩ k) =
 ((cond (decide (i < (↑(List.length (row encSt l)) : Int)))
 (cond (decide (0 ≤ i))
 (cond (AV.isAggN (Option.getD (row encSt l)[Int.toNat i]? AV.bad) 6 6)
 (cond (AV.isIntK (AV.part (Option.getD (row encSt l)[Int.toNat i]? AV.bad) 0) IntKind.i64)
 (cond (AV.isIntK (AV.part (Option.getD (row encSt l)[Int.toNat i]? AV.bad) 1) IntKind.i64)
 (cond (AV.isIntK (AV.part (Option.getD (row encSt l)[Int.toNat i]? AV.bad) 2) IntKind.i64)
 (cond (AV.isIntK (AV.part (Option.getD (row encSt l)[Int.toNat i]? AV.bad) 3) IntKind.i64)
 (cond (AV.isIntK (AV.part (Option.getD (row encSt l)[Int.toNat i]? AV.bad) 4) IntKind.u8)
 (cond (AV.isNils (AV.part (Option.getD (row encSt l)[Int.toNat i]? AV.bad) 5))
 (resPS (S F) T1 N 9 fuel 9 1 0 [] [true, false, true] m (St.mk [(0, AV.isl 6 (row encSt l)), (2, AV.bad), (3, AV.int IntKind.i64 (IntKind.wrap IntKind.i64 (i + 1))), (7, AV.bad), (16, AV.bad)] [] [] false) k)
 (cond (AV.isIslN (AV.part (Option.getD (row encSt l)[Int.toNat i]? AV.bad) 5) 1)
 (cond (decide ((↑(List.length (AV.toList (AV.part (Option.getD (row encSt l)[Int.toNat i]? AV.bad) 5))) : Int) > 100))
 (k (AV.bool false) [] false)
 (resPS (S F) T1 N 9 fuel 9 1 0 [] [true, false, true] m (St.mk [(0, AV.isl 6 (row encSt l)), (2, AV.bad), (3, AV.int IntKind.i64 (IntKind.wrap IntKind.i64 (i + 1))), (7, AV.bad), (16, AV.bad)] [] [] false) k))
 (False)))
 (False))
 (False))
 (False))
 (False))
 (False))
 (False))
 (False))
 (k (AV.bool (decide ((↑(List.length (row encSt l)) : Int) ≤ 150))) [] false)) : Prop) := by kernel_rfl
theorem nil9 (N fuel : Nat) (k : AV → Heap → Bool → Prop) :
 (runP (S F) T1 N 9 (fuel + 1) 9 [.nils] [] k) =
 ((k (AV.bool true) [] false) : Prop) := by kernel_rfl
end Go.Proofs.YtlnbbgagccgnjaaDoor
/-
  What may be asked: not too much.
-/
namespace Go.Proofs.YtlnbbgagccgnjaaDoor
open Go Go.X
variable {F : Nat}
abbrev L9 (l : List Stp) (i : Int) : List (Nat × AV) := [(0, .isl 6 (row encSt l)), (2, .bad), (3, .int .i64 i), (7, .bad), (16, .bad)]
theorem loop9 (N fuel : Nat) (l : List Stp) (k : AV → Heap → Bool → Prop) (hl : l.length < 2 ^ 63) (hk : ∀ b : Bool, (b = true → l.length ≤ 150 ∧ ∀ x ∈ l, ∀ ds, x.data = some ds → ds.length ≤ 100) → k (.bool b) [] false) :
    ∀ (d j n : Nat), j + d = l.length → d < n → (∀ x ∈ l.take j, ∀ ds, x.data = some ds → ds.length ≤ 100) → resPS (S F) T1 N 9 fuel 9 1 0 [] [true, false, true] n ⟨L9 l j, [], [], false⟩ k
  | d, j, 0, _, hn, _ => by omega
  | 0, j, n + 1, hd, _, hj => by
    rw [step9]
    have e1 : ¬ ((j : Int) < (l.length : Int)) := by omega
    simp only [row_length, e1, decide_false, cond_false]
    refine hk _ fun hb => ⟨by have := of_decide_eq_true hb; omega, ?_⟩
    rw [show j = l.length by omega, List.take_length] at hj
    exact hj
  | d + 1, j, n + 1, hd, hn, hj => by
    have h1 : j < l.length := by omega
    have e1 : ((j : Int) < (l.length : Int)) := by omega
    have hw : IntKind.i64.wrap ((j : Int) + 1) = ((j + 1 : Nat) : Int) := wrapB (by omega)
    have ih := loop9 N fuel l k hl hk d (j + 1) n (by omega) (by omega)
    rw [step9]
    simp only [row_length, e1, decide_true, cond_true, Int.natCast_nonneg, Int.toNat_natCast, row_get h1, Option.getD_some, hw]
    have ht : ∀ x ∈ l.take (j + 1), x ∈ l.take j ∨ x = l[j] := fun x hx => by
      rw [List.take_add_one, List.getElem?_eq_getElem h1] at hx
      rcases List.mem_append.1 hx with h | h
      · exact .inl h
      · right; simpa using h
    cases hd' : l[j].data with
    | none =>
      simp only [encSt, AV.isAggN, AV.part, AV.isIntK, hd', dataAV, AV.isNils]
      simp
      refine ih fun x hx ds hx' => ?_
      rcases ht x hx with h | h
      · exact hj x h ds hx'
      · rw [h, hd'] at hx'; cases hx'
    | some ds =>
      simp only [encSt, AV.isAggN, AV.part, AV.isIntK, hd', dataAV, AV.isNils, AV.isIslN, AV.toList, row_length]
      by_cases h2 : ds.length > 100
      · have e2 : (ds.length : Int) > 100 := by omega
        simp [e2, row_length]
        exact hk false (by simp)
      · have e2 : ¬ ((ds.length : Int) > 100) := by omega
        simp [e2, row_length]
        refine ih fun x hx ds' hx' => ?_
        rcases ht x hx with h | h
        · exact hj x h ds' hx'
        · rw [h, hd'] at hx'
          obtain rfl := Option.some.inj hx'
          omega
def t9 (F : Nat) : PT := fun args H k => ∃ (a : AV) (l : List Stp), (a = .nils ∧ l = [] ∨ a = .isl 6 (row encSt l)) ∧ args = [a] ∧ H = [] ∧ l.length ≤ F ∧ l.length < 2 ^ 63 ∧ ∀ b : Bool, (b = true → l.length ≤ 150 ∧ ∀ x ∈ l, ∀ ds, x.data = some ds → ds.length ≤ 100) → k (.bool b) [] false
theorem fair9 (N : Nat) (args : List AV) (H : Heap) (k : AV → Heap → Bool → Prop) : t9 F args H k → runP (S F) T1 N 9 (S F).fu 9 args H k := by
  rintro ⟨a, l, ha, rfl, rfl, hF, hl, hk⟩
  rcases ha with ⟨rfl, rfl⟩ | rfl
  · rw [S_fu, nil9]
    exact hk true (by simp)
  · rw [start9]
    exact loop9 (F := F) N (S F).fu l k hl hk l.length 0 (S F).fu (by omega) (by rw [S_fu]; omega) (by simp)
end Go.Proofs.YtlnbbgagccgnjaaDoor
/- Frames made anew: the whole.
-/
namespace Go.Proofs.YtlnbbgagccgnjaaDoor
open Go Go.X
variable {F : Nat}
def T36 : FuncId → Option PT := fun f => if f = 36 then some t36 else none
def LR (nf np nh : Nat) (hand : Int) (A Q G : List AV) : Heap := [some ⟨.arr 3 A, true, true⟩, some ⟨.agg 2 [.sl ⟨0, 0, [], 3 * nf⟩ 3 nf 0 nf, .int .i64 hand], false, false⟩, some ⟨.arr 64 Q, true, true⟩, some ⟨.arr 8 G, true, true⟩, some ⟨.agg 3 [.ptr ⟨1, 0, [], 2⟩, .sl ⟨2, 0, [], 64 * np⟩ 64 np 0 np, .sl ⟨3, 0, [], 8 * nh⟩ 8 nh 0 nh], false, false⟩]
theorem tree7 (N fuel : Nat) (n : Int) (k : AV → Heap → Bool → Prop) :
 (runP (S F) T36 N 9 fuel 7 [.int .i64 n] [] k) =
 ((∃ (n0 : Int),
 And ([AV.int IntKind.i64 n] = [AV.int IntKind.i64 n0])
 (And (([] : Heap) = [])
 (And ((n0 < 1 ∨ n0 > 16) →
 k (AV.tuple [AV.nilp, AV.int IntKind.i64 1]) [] false)
 ((1 ≤ n0 ∧ n0 ≤ 16) →
 cond (decide (0 ≤ n))
 (cond (decide (0 ≤ n))
 (cond (decide (Int.toNat n ≤ Int.toNat n) && decide (Int.toNat n * 64 ≤ 70368744177664) && decide (Int.toNat n ≤ 70368744177664))
 (cond (decide (0 ≤ n))
 (cond (decide (0 ≤ n))
 (cond (decide (Int.toNat n ≤ Int.toNat n) && decide (Int.toNat n * 64 ≤ 70368744177664) && decide (Int.toNat n ≤ 70368744177664))
 (cond (lastBare [some (Blk.mk (AV.arr 3 (row encF (List.replicate (Int.toNat n0) fr0))) true true), some (Blk.mk (AV.agg 2 [AV.sl (Pl.mk 0 0 [] (3 * Int.toNat n0)) 3 (Int.toNat n0) 0 (Int.toNat n0), AV.int IntKind.i64 0]) false false), some (Blk.mk (AV.arr 64 (List.replicate (Int.toNat n) (AV.agg 64 [AV.arr 1 (encL IntKind.u8 32 fun (_i : Nat) => 0), AV.arr 1 (encL IntKind.u8 32 fun (_i : Nat) => 0)]))) true true), some (Blk.mk (AV.arr 8 (List.replicate (Int.toNat n) (AV.arr 1 (encL IntKind.i64 8 fun (_i : Nat) => 0)))) true true)])
 (k (AV.tuple [AV.ptr (Pl.mk 4 0 [] 3), AV.int IntKind.i64 0]) (LR (Int.toNat n0) (Int.toNat n) (Int.toNat n) 0 (row encF (List.replicate (Int.toNat n0) fr0)) (List.replicate (Int.toNat n) (AV.agg 64 [AV.arr 1 (encL IntKind.u8 32 fun (_i : Nat) => 0), AV.arr 1 (encL IntKind.u8 32 fun (_i : Nat) => 0)])) (List.replicate (Int.toNat n) (AV.arr 1 (encL IntKind.i64 8 fun (_i : Nat) => 0)))) false)
 (False))
 (False))
 (False))
 (False))
 (False))
 (False))
 (False))))) : Prop) := by kernel_rfl
end Go.Proofs.YtlnbbgagccgnjaaDoor
/-
  Frames made anew.
-/
namespace Go.Proofs.YtlnbbgagccgnjaaDoor
open Go Go.X
variable {F : Nat}
def pg0 : Pg := ⟨Ar.zero 32, Ar.zero 32⟩
/-- Frames' memory as New lays it. -/
def LH (s : FS) : Heap := LR s.fs.length s.ps.length s.hs.length s.hand (row encF s.fs) (row encP s.ps) (row encH s.hs)
def fs0 (n : Nat) : FS := ⟨List.replicate n fr0, 0, List.replicate n pg0, List.replicate n (Ar.zero 8)⟩
theorem LH0 (n : Nat) : LR n n n 0 (row encF (List.replicate n fr0)) (List.replicate n (AV.agg 64 [AV.arr 1 (encL IntKind.u8 32 fun (_i : Nat) => 0), AV.arr 1 (encL IntKind.u8 32 fun (_i : Nat) => 0)])) (List.replicate n (AV.arr 1 (encL IntKind.i64 8 fun (_i : Nat) => 0))) = LH (fs0 n) := by
  have h1 : List.replicate n (AV.agg 64 [AV.arr 1 (encL IntKind.u8 32 fun (_i : Nat) => 0), AV.arr 1 (encL IntKind.u8 32 fun (_i : Nat) => 0)]) = row encP (List.replicate n pg0) := by rw [row, List.map_replicate]; rfl
  have h2 : List.replicate n (AV.arr 1 (encL IntKind.i64 8 fun (_i : Nat) => 0)) = row encH (List.replicate n (Ar.zero 8)) := by rw [row, List.map_replicate]; rfl
  rw [h1, h2]
  unfold LH fs0
  simp
def t7 : PT := fun args H k => ∃ n : Int, args = [.int .i64 n] ∧ H = [] ∧ (n < 1 ∨ n > 16 → k (.tuple [.nilp, .int .i64 1]) [] false) ∧ (1 ≤ n ∧ n ≤ 16 → k (.tuple [.ptr ⟨4, 0, [], 3⟩, .int .i64 0]) (LH (fs0 n.toNat)) false)
theorem refsL_rep (n : Nat) : refsL (List.replicate n (AV.arr 1 (encL IntKind.i64 8 fun (_i : Nat) => 0))) = [] := by
  induction n with
  | zero => rfl
  | succ n ih => rw [List.replicate_succ, refsL, ih]; rfl
theorem new7 (N : Nat) (args : List AV) (H : Heap) (k : AV → Heap → Bool → Prop) : t7 args H k → runP (S F) T36 N 9 (S F).fu 7 args H k := by
  rintro ⟨n, rfl, rfl, hb, hk⟩
  rw [tree7]
  refine ⟨n, rfl, rfl, hb, fun hn => ?_⟩
  have h1 := hk hn
  obtain ⟨m, rfl⟩ : ∃ m : Nat, n = m := ⟨n.toNat, by omega⟩
  have h2 : (0 : Int) ≤ m := by omega
  have h3 : m * 64 ≤ 70368744177664 := by omega
  have h4 : m ≤ 70368744177664 := by omega
  simp only [Int.toNat_natCast] at h1
  simp only [h2, h3, h4, Int.toNat_natCast, Nat.le_refl, decide_true, cond_true, Bool.and_self, LH0]
  have h5 : lastBare [some (Blk.mk (AV.arr 3 (row encF (List.replicate m fr0))) true true), some (Blk.mk (AV.agg 2 [AV.sl (Pl.mk 0 0 [] (3 * m)) 3 m 0 m, AV.int IntKind.i64 0]) false false), some (Blk.mk (AV.arr 64 (List.replicate m (AV.agg 64 [AV.arr 1 (encL IntKind.u8 32 fun (_i : Nat) => 0), AV.arr 1 (encL IntKind.u8 32 fun (_i : Nat) => 0)]))) true true), some (Blk.mk (AV.arr 8 (List.replicate m (AV.arr 1 (encL IntKind.i64 8 fun (_i : Nat) => 0)))) true true)] = true := by
    show (refsL (List.replicate m (AV.arr 1 (encL IntKind.i64 8 fun (_i : Nat) => 0)))).isEmpty = true
    rw [refsL_rep]
    rfl
  rw [h5]
  exact h1
end Go.Proofs.YtlnbbgagccgnjaaDoor
/- A number from 0 on: tree.
-/
namespace Go.Proofs.YtlnbbgagccgnjaaDoor
open Go Go.X
variable {F : Nat}
theorem tree11a (N fuel : Nat) (a : Int) (k : AV → Heap → Bool → Prop) :
 (runP (S F) T1 N 9 fuel 11 [.int .i64 a, .int .i64 8] [] k) =
 ((k (AV.int IntKind.i64 (Int.tmod (IntKind.wrap IntKind.i64 (Int.tmod a 8 + 8)) 8)) [] false) : Prop) := by kernel_rfl
theorem tree11b (N fuel : Nat) (a : Int) (k : AV → Heap → Bool → Prop) :
 (runP (S F) T1 N 9 fuel 11 [.int .i64 a, .int .i64 4] [] k) =
 ((k (AV.int IntKind.i64 (Int.tmod (IntKind.wrap IntKind.i64 (Int.tmod a 4 + 4)) 4)) [] false) : Prop) := by kernel_rfl
end Go.Proofs.YtlnbbgagccgnjaaDoor
/-
  A number from 0 on.
-/
namespace Go.Proofs.YtlnbbgagccgnjaaDoor
open Go Go.X
variable {F : Nat}
def t11 : PT := fun args H k => ∃ a b : Int, args = [.int .i64 a, .int .i64 b] ∧ H = [] ∧ (b = 8 ∨ b = 4) ∧ k (.int .i64 (a % b)) [] false
theorem modE (a b : Int) (hb : b = 8 ∨ b = 4) : Int.tmod (IntKind.wrap IntKind.i64 (Int.tmod a b + b)) b = a % b := by
  have h0 : 0 < b := by omega
  have h1 := Int.lt_tmod_of_pos a h0
  have h2 := Int.tmod_lt_of_pos a h0
  have hw : IntKind.wrap IntKind.i64 (Int.tmod a b + b) = Int.tmod a b + b := by rw [IntKind.wrap_i64]; omega
  have h3 := Int.mul_tdiv_add_tmod a b
  rw [hw, Int.tmod_eq_emod_of_nonneg (by omega)]
  rw [← Int.add_mul_emod_self_left (Int.tmod a b + b) b (Int.tdiv a b - 1)]
  congr 1
  rw [Int.mul_sub, Int.mul_one]
  omega
theorem mod11 (N : Nat) (args : List AV) (H : Heap) (k : AV → Heap → Bool → Prop) : t11 args H k → runP (S F) T1 N 9 (S F).fu 11 args H k := by
  rintro ⟨a, b, rfl, rfl, hb, hk⟩
  rw [← modE a b hb] at hk
  rcases hb with rfl | rfl
  · rw [tree11a]; exact hk
  · rw [tree11b]; exact hk
end Go.Proofs.YtlnbbgagccgnjaaDoor
/-
  What frames do, call by call: mapping pages, forgetting, pinning.
-/
namespace Go.Proofs.YtlnbbgagccgnjaaDoor
open Go Go.X
variable {F : Nat}
/-- A mapping page, as it is held. -/
def mapR (s : FS) (id : Int) : Option (Ar 8) := if id < 0 then none else if id < 8 then (fR (64 + id) s.fs).bind (s.hs[·]?) else none
def mapV (r : Option (Ar 8)) : AV := .tuple [encA .i64 (r.getD (Ar.zero 8)), .bool r.isSome]
def t19 : PT := fun args H k => ∃ (s : FS) (a : Int), args = [F0, .int .i64 a] ∧ H = FH s ∧ OkS s ∧ k (mapV (mapR s a)) H false
theorem map19 (N : Nat) (args : List AV) (H : Heap) (k : AV → Heap → Bool → Prop) : t19 args H k → runP (S F) T2 N 9 (S F).fu 19 args H k := by
  rintro ⟨s, a, rfl, rfl, hs, hk⟩
  rw [tree19]
  unfold mapR mapV at hk
  by_cases h0 : a < 0
  · simpa [h0] using hk
  by_cases h1 : 8 ≤ a
  · have : ¬ a < 8 := by omega
    simpa [h0, h1, this] using hk
  have h2 : a < 8 := by omega
  have hw : IntKind.i64.wrap (64 + a) = 64 + a := by rw [IntKind.wrap_i64]; omega
  have e1 : ¬ (64 + a < 0) := by omega
  have e2 : ¬ (64 + a ≥ 72) := by omega
  have e3 : ¬ (64 + a < 64) := by omega
  simp only [h0, h2, if_true, if_false] at hk
  simp only [h0, h1, hw, e1, e2, e3, decide_false, cond_false, ge_iff_le]
  refine ⟨s.fs, s.hand, 64 + a, rfl, rfl, hs.hl, ?_⟩
  cases hf : fR (64 + a) s.fs with
  | none => simpa [hf] using hk
  | some j =>
    have hj := fR_lt hf
    have hp : j < s.hs.length := by rw [hs.hh]; exact hj
    simpa [hf, hp] using hk
/-- A frame gives its key up. -/
def dropF (fs : List Fr) (j : Nat) : Option (List Fr) := match fs[j]? with
  | some f => if f.pins > 0 then none else some (fs.set j ⟨-1, false, f.pins⟩)
  | none => none
def forgetR (s : FS) (key : Int) : Option FS := (fR key s.fs).bind fun j => (dropF s.fs j).map fun fs => { s with fs := fs }
def t21 : PT := fun args H k => ∃ (s : FS) (a : Int), args = [F0, .int .i64 a] ∧ H = FH s ∧ OkS s ∧ k (.bool (forgetR s a).isSome) (FH ((forgetR s a).getD s)) false
theorem forget21 (N : Nat) (args : List AV) (H : Heap) (k : AV → Heap → Bool → Prop) : t21 args H k → runP (S F) T2 N 9 (S F).fu 21 args H k := by
  rintro ⟨s, a, rfl, rfl, hs, hk⟩
  rw [tree21]
  unfold forgetR at hk
  refine ⟨s.fs, s.hand, a, rfl, rfl, hs.hl, ?_⟩
  cases hf : fR a s.fs with
  | none => simpa [hf] using hk
  | some j =>
    have hj := fR_lt hf
    have hj' : ¬ (s.fs.length ≤ j) := by omega
    simp only [hf, Option.bind_some, dropF, List.getElem?_eq_getElem hj] at hk
    by_cases hp : s.fs[j].pins > 0
    · simpa [hj, hj', hp] using hk
    · simpa [hj, hj', hp] using hk
def pinF (fs : List Fr) (fr : Int) (up : Bool) : Option (List Fr) := if fr < 0 then none else match fs[fr.toNat]? with
  | some f => if up then (if f.key = -1 then none else some (fs.set fr.toNat ⟨f.key, f.mark, IntKind.i64.wrap (f.pins + 1)⟩)) else (if f.pins = 0 then none else some (fs.set fr.toNat ⟨f.key, f.mark, IntKind.i64.wrap (f.pins - 1)⟩))
  | none => none
def t22 : PT := fun args H k => ∃ (fs : List Fr) (hand a : Int), args = [C0, .int .i64 a] ∧ H = CH fs hand ∧ k (.bool (pinF fs a true).isSome) (CH ((pinF fs a true).getD fs) hand) false
theorem pin22 (N : Nat) (args : List AV) (H : Heap) (k : AV → Heap → Bool → Prop) : t22 args H k → runP (S F) T2 N 9 (S F).fu 22 args H k := by
  rintro ⟨fs, hand, a, rfl, rfl, hk⟩
  rw [tree22]
  unfold pinF at hk
  by_cases h0 : a < 0
  · simpa [h0] using hk
  obtain ⟨j, rfl⟩ : ∃ j : Nat, a = j := ⟨a.toNat, by omega⟩
  by_cases h1 : fs.length ≤ j
  · have e1 : ((fs.length : Int) ≤ (j : Int)) := by omega
    simpa [e1, h0, List.getElem?_eq_none h1] using hk
  have hj : j < fs.length := by omega
  have e1 : ¬ ((fs.length : Int) ≤ (j : Int)) := by omega
  simp only [h0, if_false, Int.toNat_natCast, List.getElem?_eq_getElem hj, if_true] at hk
  by_cases k1 : fs[j].key = -1
  · simpa [h0, hj, h1, k1] using hk
  · simpa [h0, hj, h1, k1] using hk
def t30 : PT := fun args H k => ∃ (fs : List Fr) (hand a : Int), args = [C0, .int .i64 a] ∧ H = CH fs hand ∧ k (.bool (pinF fs a false).isSome) (CH ((pinF fs a false).getD fs) hand) false
theorem unpin30 (N : Nat) (args : List AV) (H : Heap) (k : AV → Heap → Bool → Prop) : t30 args H k → runP (S F) T2 N 9 (S F).fu 30 args H k := by
  rintro ⟨fs, hand, a, rfl, rfl, hk⟩
  rw [tree30]
  unfold pinF at hk
  by_cases h0 : a < 0
  · simpa [h0] using hk
  obtain ⟨j, rfl⟩ : ∃ j : Nat, a = j := ⟨a.toNat, by omega⟩
  by_cases h1 : fs.length ≤ j
  · have e1 : ((fs.length : Int) ≤ (j : Int)) := by omega
    simpa [e1, h0, List.getElem?_eq_none h1] using hk
  have hj : j < fs.length := by omega
  have e1 : ¬ ((fs.length : Int) ≤ (j : Int)) := by omega
  simp only [h0, if_false, Int.toNat_natCast, List.getElem?_eq_getElem hj, Bool.false_eq_true] at hk
  by_cases k1 : fs[j].pins = 0
  · simpa [h0, hj, h1, k1] using hk
  · simpa [h0, hj, h1, k1] using hk
end Go.Proofs.YtlnbbgagccgnjaaDoor
/-
  FramesPlay: the table.
-/
namespace Go.Proofs.YtlnbbgagccgnjaaDoor
open Go Go.X
variable {F : Nat}
def T6 (F : Nat) : FuncId → Option PT := fun f => if f = 9 then some (t9 F) else if f = 7 then some t7 else if f = 13 then some t13 else if f = 15 then some t15 else if f = 16 then some t16 else if f = 17 then some t17 else if f = 18 then some t18 else if f = 19 then some t19 else if f = 20 then some t20 else if f = 21 then some t21 else if f = 22 then some t22 else if f = 30 then some t30
  else if f = 23 then some t23 else if f = 24 then some t24 else if f = 25 then some t25 else if f = 26 then some t26 else if f = 27 then some t27 else if f = 28 then some t28 else if f = 29 then some t29 else if f = 31 then some t31 else if f = 33 then some t33 else if f = 34 then some t34 else if f = 35 then some t35 else if f = 32 then some t32 else T3 f
abbrev p6 : List Bool := [true, true, true, true, true, false, true]
abbrev p7 : List Bool := [true, false, true, true, true, true, true, true]
/-- The reference's memory, behind the program's. -/
def QS (nf nh : Nat) (A B : List AV) : Heap := [some ⟨.agg 2 [.sl ⟨7, 0, [], 3 * nf⟩ 3 nf 0 nf, .int .i64 0], false, false⟩, none, some ⟨.arr 3 A, true, true⟩, some ⟨.arr 72 B, true, true⟩,
  some ⟨.agg 2 [.ptr ⟨5, 0, [], 2⟩, .sl ⟨8, 0, [], 72 * nh⟩ 72 nh 0 nh], false, false⟩]
def PR (nf np nh : Nat) (hand : Int) (A Q G : List AV) (rf rh : Nat) (C D : List AV) : Heap := LR nf np nh hand A Q G ++ QS rf rh C D
def PH (s : FS) (r : RS) : Heap := PR s.fs.length s.ps.length s.hs.length s.hand (row encF s.fs) (row encP s.ps) (row encH s.hs) r.fs.length r.hs.length (row encR r.fs) (row encHd r.hs)
abbrev L6 (f q : AV) (xs : List AV) (i : Int) : List (Nat × AV) := [(0, .bad), (1, .isl 6 xs), (4, .bad), (5, f), (6, .bad), (7, q), (8, .bad), (9, .int .i64 i)] ++ ([10, 11, 12, 13, 14, 15, 16, 17, 18, 19, 20, 21, 22, 25, 55, 63, 71, 72, 92, 114, 134, 144, 154, 168, 197, 199, 256, 264, 299].map fun t => (t, AV.bad))
abbrev FP : AV := .ptr ⟨4, 0, [], 3⟩
abbrev QP : AV := .ptr ⟨9, 0, [], 2⟩
end Go.Proofs.YtlnbbgagccgnjaaDoor
