/-
  DERIVED: THE SHELF's CONTRACTS AT THIS DUMP, IN PLAIN WORDS (tools/lay-plain.mjs out of 'TrydShelf.lean', which tools/lay-shelf.mjs wrote): THE SAME DECLARATIONS UNDER THE SAME NAMES: 'import', 'namespace', 'open', 'def', 'theorem' AND NOTHING ELSE: no command of the shelf's: FOR A HAND-IN. Each laying: the table of numbers ('.._ren') and one theorem, a field a fact of the dump's own or the kernel's comparison; each contract: ONE APPLICATION.
-/
import Derived.Shelf.Small.Bits
import Derived.Shelf.Strconv.Itoa0
import Derived.Shelf.Sort.Plain
import Derived.Ground.Names2Prog
import Derived.Shelf.Slices.SearchI
import Derived.Shelf.Slices.In.SortNone
import Derived.Test.YtclmndonaljppaaProg
import Derived.Calls
import Derived.Orders
import Derived.Stop.Asserts
import Derived.Below
import Derived.Laws.IdiomCopy
import Derived.Laws.AppendOwn
import Derived.Laws.Cells
import Derived.Laws.Entries
import Derived.Laws.NewFold

namespace Go.Proofs
open Go.Shelf
def Try.lays189_ren : Go.Shelf.Ren := ⟨fun | 189 => 26 | 125 => 32 | 257 => 31 | 128 => 44 | 129 => 45 | 294 => 35 | 295 => 36 | 296 => 37 | 297 => 38 | 298 => 39 | 299 => 40 | 216 => 41 | 300 => 42 | 301 => 43 | 328 => 46 | 329 => 47 | 330 => 48 | 331 => 49 | 332 => 50 | 215 => 51 | 343 => 52 | n => n, fun | 28 => 36 | 3 => 3 | 46 => 68 | 0 => 0 | 51 => 86 | 53 => 88 | 4 => 4 | 183 => 78 | 182 => 77 | 131 => 83 | 5 => 5 | 9 => 9 | 218 => 100 | 222 => 104 | 228 => 106 | 229 => 107 | n => n, fun | n => n⟩
theorem Try.lays189 : Go.Proofs.Lays.n189 Try.prog Try.lays189_ren := {
  mixed := by kernel_rfl
  f125 := Try.func32.trans (congrArg some (by kernel_rfl))
  f128 := Try.func44.trans (congrArg some (by kernel_rfl))
  f129 := Try.func45.trans (congrArg some (by kernel_rfl))
  f189 := Try.func26.trans (congrArg some (by kernel_rfl))
  f215 := Try.func51.trans (congrArg some (by kernel_rfl))
  f216 := Try.func41.trans (congrArg some (by kernel_rfl))
  f257 := Try.func31.trans (congrArg some (by kernel_rfl))
  f294 := Try.func35.trans (congrArg some (by kernel_rfl))
  f295 := Try.func36.trans (congrArg some (by kernel_rfl))
  f296 := Try.func37.trans (congrArg some (by kernel_rfl))
  f297 := Try.func38.trans (congrArg some (by kernel_rfl))
  f298 := Try.func39.trans (congrArg some (by kernel_rfl))
  f299 := Try.func40.trans (congrArg some (by kernel_rfl))
  f300 := Try.func42.trans (congrArg some (by kernel_rfl))
  f301 := Try.func43.trans (congrArg some (by kernel_rfl))
  f328 := Try.func46.trans (congrArg some (by kernel_rfl))
  f329 := Try.func47.trans (congrArg some (by kernel_rfl))
  f330 := Try.func48.trans (congrArg some (by kernel_rfl))
  f331 := Try.func49.trans (congrArg some (by kernel_rfl))
  f332 := Try.func50.trans (congrArg some (by kernel_rfl))
  f343 := Try.func52.trans (congrArg some (by kernel_rfl))
  t0 := Try.underlying0
  a0 := Try.isAgg0
  z0 := Try.sizeOf0
  v0 := Try.zeroValue0
  t3 := Try.underlying3
  a3 := Try.isAgg3
  z3 := Try.sizeOf3
  v3 := Try.zeroValue3
  t4 := Try.underlying4
  a4 := Try.isAgg4
  z4 := Try.sizeOf4
  v4 := Try.zeroValue4
  t5 := Try.underlying5
  a5 := Try.isAgg5
  z5 := Try.sizeOf5
  v5 := Try.zeroValue5
  t9 := Try.underlying9
  a9 := Try.isAgg9
  z9 := Try.sizeOf9
  v9 := Try.zeroValue9
  t28 := Try.underlying36
  a28 := Try.isAgg36
  z28 := Try.sizeOf36
  v28 := Try.zeroValue36
  t46 := Try.underlying68
  a46 := Try.isAgg68
  z46 := Try.sizeOf68
  v46 := Try.zeroValue68
  t51 := Try.underlying86
  a51 := Try.isAgg86
  z51 := Try.sizeOf86
  v51 := Try.zeroValue86
  t53 := Try.underlying88
  a53 := Try.isAgg88
  z53 := Try.sizeOf88
  v53 := Try.zeroValue88
  t131 := Try.underlying83
  a131 := Try.isAgg83
  z131 := Try.sizeOf83
  v131 := Try.zeroValue83
  t182 := Try.underlying77
  a182 := Try.isAgg77
  z182 := Try.sizeOf77
  v182 := Try.zeroValue77
  t183 := Try.underlying78
  a183 := Try.isAgg78
  z183 := Try.sizeOf78
  v183 := Try.zeroValue78
  t218 := Try.underlying100
  a218 := Try.isAgg100
  z218 := Try.sizeOf100
  v218 := Try.zeroValue100
  t222 := Try.underlying104
  a222 := Try.isAgg104
  z222 := Try.sizeOf104
  v222 := Try.zeroValue104
  t228 := Try.underlying106
  a228 := Try.isAgg106
  z228 := Try.sizeOf106
  v228 := Try.zeroValue106
  t229 := Try.underlying107
  a229 := Try.isAgg107
  z229 := Try.sizeOf107
  v229 := Try.zeroValue107 }
open Go.Sort Go.RowKit in
theorem Try.slices_Sort_int (blk off cap : Nat) (zs : List Int) (w : World) (hH : Holds (Value.int .i64) w blk off zs.toArray) (hblk : blk < w.heap.size) (hsz : zs.length < 4611686018427387904) :
    Calls Try.prog 26 #[.slice (some ⟨blk, off, none⟩) zs.length cap] w fun e w' =>
      e = .returned (.tuple #[]) ∧ ∃ n os, w' = grow (putRow (Value.int .i64) (Sort.ahead w n) blk off (zs.mergeSort fun x y => decide (x ≤ y)).toArray) os := Any.slices_Sort_int Try.lays189 blk off cap zs w hH hblk hsz
end Go.Proofs
/-
  An abstract evaluator for the translated programs: values without addresses, memory as a list of blocks. Definitions alone.
-/
namespace Go.X

/-- A place: a block, the flat offset of the part, the way to it, and how many cells the block had when the reference was made. -/
structure Pl where
  id : Nat
  coff : Nat
  path : List Nat
  gen : Nat
  deriving DecidableEq, Inhabited

/-- Abstract values. -/
inductive AV where
  | bad
  | undf
  | yld
  | int (k : IntKind) (n : Int)
  | bool (b : Bool)
  | str (s : ByteArray)
  | nilp
  | ptr (p : Pl)
  | iptr (v : AV)
  | nils
  | sl (p : Pl) (esz n off len : Nat)
  | sptr (p : Pl) (esz n off len : Nat)
  | isl (esz : Nat) (xs : List AV)
  | nilm
  | map (id : Nat)
  | func (fn : Fn) (first captured : List AV)
  | nilf
  | hnd (b t : Nat)
  | iface (t : TypeId) (v : AV)
  | nili
  | agg (n : Nat) (parts : List AV)
  | arr (e : Nat) (xs : List AV)
  | tuple (vs : List AV)
  deriving Inhabited

def AV.flatLen : AV → Nat
  | .agg n _ => n
  | .arr e xs => e * xs.length
  | _ => 1

def sumLen : List AV → Nat
  | [] => 0
  | v :: vs => v.flatLen + sumLen vs

def AV.isAgg : AV → Bool
  | .agg .. | .arr .. => true
  | _ => false

/-- A value that may lie in memory. -/
def AV.plain : AV → Bool
  | .tuple _ | .bad | .undf | .yld => false
  | _ => true

mutual
def AV.refs : AV → List Nat
  | .ptr p => [p.id]
  | .sl p _ _ _ _ => [p.id]
  | .sptr p _ _ _ _ => [p.id]
  | .map i => [i]
  | .func _ a b => refsL a ++ refsL b
  | .iface _ v => v.refs
  | .agg _ ps => refsL ps
  | .arr _ xs => refsL xs
  | .tuple vs => refsL vs
  | _ => []
def refsL : List AV → List Nat
  | [] => []
  | v :: vs => v.refs ++ refsL vs
end

mutual
/-- No references at all, in no depth. -/
def AV.refless : AV → Bool
  | .ptr _ | .sl .. | .sptr .. | .map _ | .func .. | .bad | .undf | .yld | .tuple _ => false
  | .iface _ v => v.refless
  | .agg _ ps => reflessL ps
  | .arr _ xs => reflessL xs
  | _ => true
def reflessL : List AV → Bool
  | [] => true
  | v :: vs => v.refless && reflessL vs
end

mutual
def AV.beq : AV → AV → Bool
  | .int j a, .int k b => j == k && a == b
  | .bool a, .bool b => a == b
  | .str a, .str b => decide (a = b)
  | .nilp, .nilp => true
  | .ptr p, .ptr q => decide (p = q)
  | .nils, .nils => true
  | .sl p a b c d, .sl q a' b' c' d' => decide (p = q) && a == a' && b == b' && c == c' && d == d'
  | .nilm, .nilm => true
  | .nilf, .nilf => true
  | .hnd a b, .hnd c d => a == c && b == d
  | .nili, .nili => true
  | .iface t v, .iface u w => t == u && v.beq w
  | .agg n xs, .agg m ys => n == m && beqL xs ys
  | .arr n xs, .arr m ys => n == m && beqL xs ys
  | .isl n xs, .isl m ys => n == m && beqL xs ys
  | .iptr v, .iptr w => v.beq w
  | .map i, .map j => i == j
  | _, _ => false
def beqL : List AV → List AV → Bool
  | [], [] => true
  | x :: xs, y :: ys => x.beq y && beqL xs ys
  | _, _ => false
end

/-- The part that a way leads to, and its flat offset. -/
def AV.at? : AV → List Nat → Option (Nat × AV)
  | v, [] => some (0, v)
  | .agg _ ps, i :: r => (ps[i]?).bind fun p => (p.at? r).map fun x => (sumLen (ps.take i) + x.1, x.2)
  | .arr e xs, i :: r => (xs[i]?).bind fun p => (p.at? r).map fun x => (e * i + x.1, x.2)
  | _, _ :: _ => none

def AV.put? : AV → List Nat → AV → Option AV
  | old, [], v => if old.flatLen = v.flatLen then some v else none
  | .agg n ps, i :: r, v => (ps[i]?).bind fun p => (p.put? r v).map fun p' => .agg n (ps.set i p')
  | .arr e xs, i :: r, v => (xs[i]?).bind fun p => (p.put? r v).map fun p' => .arr e (xs.set i p')
  | _, _ :: _, _ => none

structure Blk where
  root : AV
  grow : Bool
  flat : Bool
  deriving Inhabited

abbrev Heap := List (Option Blk)

/-! Types. -/
def tsize (P : Program) (t : TypeId) : Option Nat := (P.info? t).map (·.size)
def tbytes (P : Program) (t : TypeId) : Option Nat := (P.info? t).map (·.bytes)
def tagg (P : Program) (t : TypeId) : Option Bool := (P.underlying t).map fun d => match d with | .struct _ | .array _ _ => true | _ => false
def thasp (P : Program) (t : TypeId) : Bool := ((P.info? t).map (·.hasPointers)).getD true

/-- A constant's cell, as an abstract value. -/
def absCell : Value → Option AV
  | .bool b => some (.bool b)
  | .int k n => some (.int k n)
  | .string s => some (.str s)
  | .pointer none => some .nilp
  | .slice none 0 0 => some .nils
  | .map none => some .nilm
  | .nilFunc => some .nilf
  | .nilIface => some .nili
  | _ => none

def readMany (f : TypeId → List Value → Option (AV × List Value)) : List TypeId → List Value → Option (List AV × List Value)
  | [], cs => some ([], cs)
  | t :: ts, cs => (f t cs).bind fun x => (readMany f ts x.2).map fun y => (x.1 :: y.1, y.2)

/-- Cells, read at a type: the value, and what is left. -/
def absOf (P : Program) : Nat → TypeId → List Value → Option (AV × List Value)
  | 0, _, _ => none
  | d + 1, t, cs =>
    match P.underlying t with
    | some (.struct fs) => (readMany (absOf P d) (fs.toList.map (·.type)) cs).map fun x => (.agg (sumLen x.1) x.1, x.2)
    | some (.array n e) => (readMany (absOf P d) (List.replicate n e) cs).bind fun x => match x.1 with
      | [] => some (.arr 1 [], x.2)
      | v :: _ => if x.1.all (fun u => u.flatLen == v.flatLen) then some (.arr v.flatLen x.1, x.2) else none
    | some _ => match cs with
      | c :: r => (absCell c).map fun v => (v, r)
      | [] => none
    | none => none

def absWhole (P : Program) (t : TypeId) (cs : List Value) : Option AV :=
  match absOf P 20 t cs with
  | some (v, []) => some v
  | _ => none

def isAggV : Value → Bool
  | .agg _ => true
  | _ => false

def zeroAV (P : Program) (t : TypeId) : Option AV :=
  ((P.info? t).bind (·.zero)).bind fun z => (absWhole P t z.cells.toList).bind fun v => if v.isAgg = isAggV z then some v else none

/-- A constant operand. -/
def absConst : Value → Option AV
  | .func fn a b => if a.size = 0 ∧ b.size = 0 then some (.func fn [] []) else none
  | v => absCell v

def AV.scalar : AV → Option Value
  | .int k n => some (.int k n)
  | .bool b => some (.bool b)
  | .str s => some (.string s)
  | _ => none

def liftPure : Sem Value → Option AV
  | .pure (.int k n) => some (.int k n)
  | .pure (.bool b) => some (.bool b)
  | .pure (.string s) => some (.str s)
  | _ => none

/-! Memory. -/
def AV.isTup : AV → Bool
  | .tuple _ => true
  | _ => false

def blkOf : Option Blk → Option Blk
  | some b => if b.root.isTup then none else some b
  | none => none

def mpOf : Option Blk → Option (List AV)
  | some ⟨.tuple es, _, _⟩ => some es
  | _ => none

/-- The cells of block i. -/
def Heap.blk (H : Heap) (i : Nat) : Option Blk := blkOf ((H[i]?).bind id)

/-- The entries of map i. -/
def Heap.mp (H : Heap) (i : Nat) : Option (List AV) := mpOf ((H[i]?).bind id)

def loadAV (P : Program) (H : Heap) (t : TypeId) : AV → Option AV
  | .ptr p => (H.blk p.id).bind fun b => (b.root.at? p.path).bind fun x =>
      if b.root.flatLen = p.gen ∧ x.1 = p.coff ∧ tagg P t = some x.2.isAgg ∧ tsize P t = some x.2.flatLen then some x.2 else none
  | .iptr v => if tagg P t = some v.isAgg ∧ tsize P t = some v.flatLen then some v else none
  | .sptr p esz n off len => (H.blk p.id).bind fun b => (b.root.at? p.path).bind fun x => match x.2 with
    | .arr e' xs => if b.root.flatLen = p.gen ∧ x.1 = p.coff ∧ esz = e' ∧ xs.length = n ∧ off + len ≤ n ∧ tagg P t = some true ∧ tsize P t = some (e' * len) then some (.arr e' ((xs.drop off).take len)) else none
    | _ => none
  | _ => none

def storeAV (P : Program) (H : Heap) (t : TypeId) (a v : AV) : Option Heap :=
  match a with
  | .ptr p => (H.blk p.id).bind fun b => (b.root.at? p.path).bind fun x => (b.root.put? p.path v).bind fun r =>
      if b.root.flatLen = p.gen ∧ x.1 = p.coff ∧ tsize P t = some v.flatLen ∧ v.plain = true then some (H.set p.id (some ⟨r, b.grow, b.flat && v.refless⟩)) else none
  | _ => none

def newBlk (H : Heap) (v : AV) (grow flat : Bool) : Heap := H ++ [some ⟨v, grow, flat⟩]

def newVarAV (H : Heap) (v : AV) : AV × Heap := (.ptr ⟨H.length, 0, [], v.flatLen⟩, newBlk H v false v.refless)

/-- The elements of a slice. -/
def elemsAV (H : Heap) (sz : Nat) : AV → Option (List AV)
  | .nils => some []
  | .isl e xs => if e = sz then some xs else none
  | .sl p e n off len => (H.blk p.id).bind fun b => (b.root.at? p.path).bind fun x =>
      match x.2 with
      | .arr e' xs => if b.root.flatLen = p.gen ∧ x.1 = p.coff ∧ e = sz ∧ e' = sz ∧ xs.length = n ∧ off + len ≤ n then some ((xs.drop off).take len) else none
      | _ => none
  | _ => none

def setMany (xs : List AV) (off : Nat) (vs : List AV) : List AV := xs.take off ++ vs ++ xs.drop (off + vs.length)

def maxBytes : Nat := 2 ^ 46

/-- A map's entry at an integer. -/
def mapFind (k : IntKind) (n : Int) : List AV → Option (Option AV)
  | [] => some none
  | .tuple [.int k' m, v] :: r => if k' = k then (if n == m then some (some v) else mapFind k n r) else none
  | _ :: _ => none

/-- A map with an entry laid. -/
def mapPut (k : IntKind) (n : Int) (v : AV) : List AV → List AV
  | [] => [.tuple [.int k n, v]]
  | .tuple [.int k' m, u] :: r => if k' = k ∧ (n == m) = true then .tuple [.int k n, v] :: r else .tuple [.int k' m, u] :: mapPut k n v r
  | e :: r => e :: mapPut k n v r

def lookupAV (P : Program) (H : Heap) (t : TypeId) (x i : AV) (ok : Bool) : Option AV :=
  match P.underlying t with
  | some (.map kt et) => match P.underlying kt, x, i with
    | some (.int k), .map id, .int k' n => if k' = k then (H.mp id).bind fun es => (mapFind k n es).bind fun r => match r with
        | some v => if v.scalar.isSome then some (if ok then .tuple [v, .bool true] else v) else none
        | none => (zeroAV P et).bind fun z => if z.scalar.isSome then some (if ok then .tuple [z, .bool false] else z) else none
      else none
    | _, _, _ => none
  | _ => none

def mapUpdateAV (P : Program) (H : Heap) (t : TypeId) (m i v : AV) : Option Heap :=
  match P.underlying t with
  | some (.map kt _) => match P.underlying kt, m, i with
    | some (.int k), .map id, .int k' n => if k' = k ∧ v.scalar.isSome = true then (H.mp id).bind fun es => (mapFind k n es).map fun _ => H.set id (some ⟨.tuple (mapPut k n v es), false, true⟩) else none
    | _, _, _ => none
  | _ => none

mutual
/-- A value whose young slices become values of their own (their blocks are given up). -/
def freezeAV (n0 : Nat) : AV → Heap → Option (AV × Heap)
  | .sl p e n off len, H => if p.id < n0 then none else
      (elemsAV H e (.sl p e n off len)).bind fun xs => if reflessL xs && decide (0 < e) then some (.isl e xs, H.set p.id none) else none
  | .agg n ps, H => (freezeL n0 ps H).map fun x => (.agg n x.1, x.2)
  | .arr e xs, H => if reflessL xs then some (.arr e xs, H) else (freezeL n0 xs H).map fun x => (.arr e x.1, x.2)
  | v, H => some (v, H)
def freezeL (n0 : Nat) : List AV → Heap → Option (List AV × Heap)
  | [], H => some ([], H)
  | v :: vs, H => (freezeAV n0 v H).bind fun x => (freezeL n0 vs x.2).map fun y => (x.1 :: y.1, y.2)
end

/-- append -/
def appendAV (P : Program) (H : Heap) (elem : TypeId) (s : AV) (xs : List AV) : Option (AV × Heap) :=
  (tsize P elem).bind fun sz => (tbytes P elem).bind fun by_ =>
  match xs with
  | [] => match s with
    | .nils => some (.nils, H)
    | .sl p e n off len => some (.sl p e n off len, H)
    | .isl e ys => some (.isl e ys, H)
    | _ => none
  | x :: r => if (zeroAV P elem).map AV.flatLen = some sz ∧ (x :: r).all (fun u => u.flatLen == sz) ∧ 0 < sz then match s with
    | .nils => if (x :: r).length * by_ ≤ maxBytes ∧ (x :: r).length ≤ maxBytes then
        some (.sl ⟨H.length, 0, [], sz * (x :: r).length⟩ sz (x :: r).length 0 (x :: r).length, newBlk H (.arr sz (x :: r)) true (reflessL (x :: r))) else none
    | .sl p e n off len =>
      (H.blk p.id).bind fun b => (b.root.at? p.path).bind fun y =>
        match y.2 with
        | .arr e' ys =>
          if b.root.flatLen = p.gen ∧ y.1 = p.coff ∧ e = sz ∧ e' = sz ∧ ys.length = n ∧ off + len ≤ n then
            if off + len + (x :: r).length ≤ n then
              (b.root.put? p.path (.arr sz (setMany ys (off + len) (x :: r)))).map fun q => (.sl p sz n off (len + (x :: r).length), H.set p.id (some ⟨q, b.grow, b.flat && reflessL (x :: r)⟩))
            else if off = 0 ∧ len = n ∧ p.path = [] ∧ b.grow = true ∧ (n + (x :: r).length) * by_ ≤ maxBytes ∧ n + (x :: r).length ≤ maxBytes then
              some (.sl ⟨p.id, 0, [], sz * (n + (x :: r).length)⟩ sz (n + (x :: r).length) 0 (n + (x :: r).length), H.set p.id (some ⟨.arr sz (ys ++ (x :: r)), true, b.flat && reflessL (x :: r)⟩))
            else none
          else none
        | _ => none
    | _ => none
    else none

end Go.X
/-
  An abstract evaluator for the translated programs: operations, regions, code, calls. Definitions alone.
-/
namespace Go.X

def strAV (s : ByteArray) : List AV := s.data.toList.map fun (b : UInt8) => AV.int .u8 b.toNat

def eqMany (P : Program) (f : TypeId → AV → AV → Option Bool) : List Field → Nat → List AV → List AV → Option Bool
  | [], _, [], [] => some true
  | fl :: fs, o, x :: xs, y :: ys =>
    if fl.offset = o ∧ tsize P fl.type = some x.flatLen ∧ y.flatLen = x.flatLen ∧ tagg P fl.type = some x.isAgg ∧ y.isAgg = x.isAgg then
      if fl.name ≠ "_" then (f fl.type x y).bind fun r => if r then eqMany P f fs (o + x.flatLen) xs ys else some false
      else eqMany P f fs (o + x.flatLen) xs ys
    else none
  | _, _, _, _ => none

def eqRep (P : Program) (f : TypeId → AV → AV → Option Bool) (e : TypeId) : List AV → List AV → Option Bool
  | [], [] => some true
  | x :: xs, y :: ys => if tagg P e = some x.isAgg ∧ y.isAgg = x.isAgg then (f e x y).bind fun r => if r then eqRep P f e xs ys else some false else none
  | _, _ => none

/-- '==' where it can be told. -/
def eqAV (P : Program) : Nat → TypeId → AV → AV → Option Bool
  | 0, _, _, _ => none
  | d + 1, t, x, y =>
    match P.underlying t, x, y with
    | some .bool, .bool a, .bool b => some (a == b)
    | some (.int _), .int k a, .int k' b => if k = k' then some (a == b) else none
    | some .string, .str a, .str b => some (a == b)
    | some (.pointer _), .nilp, .nilp => some true
    | some (.pointer _), .nilp, .ptr _ => some false
    | some (.pointer _), .ptr _, .nilp => some false
    | some (.pointer _), .nilp, .iptr _ => some false
    | some (.pointer _), .iptr _, .nilp => some false
    | some (.interface _), .nili, .nili => some true
    | some (.interface _), .nili, .iface _ _ => some false
    | some (.interface _), .iface _ _, .nili => some false
    | some (.interface _), .iface tx vx, .iface ty vy => if tx ≠ ty then some false else
        if ((P.info? tx).map (·.comparable)) = some true then eqAV P d tx vx vy else none
    | some (.struct fs), .agg _ xs, .agg _ ys => if P.stoodInHeld t then none else eqMany P (eqAV P d) fs.toList 0 xs ys
    | some (.array n e), .arr a xs, .arr b ys => if tsize P e = some a ∧ a = b ∧ xs.length = n then eqRep P (eqAV P d) e xs ys else none
    | some (.slice _), .nils, .nils => some true
    | some (.slice _), .nils, .sl .. => some false
    | some (.slice _), .sl .., .nils => some false
    | some (.slice _), .nils, .isl .. => some false
    | some (.slice _), .isl .., .nils => some false
    | some (.func ..), .nilf, .nilf => some true
    | some (.func ..), .nilf, .func .. => some false
    | some (.func ..), .func .., .nilf => some false
    | some (.map ..), .nilm, .nilm => some true
    | some (.map ..), .nilm, .map _ => some false
    | some (.map ..), .map _, .nilm => some false
    | _, _, _ => none

/-- Parts laid into a value. -/
def fillAV (place : Nat → Option (Nat × Nat)) : AV → List (Nat × AV) → Option AV
  | acc, [] => some acc
  | acc, (i, v) :: r => (place i).bind fun x => (acc.at? [i]).bind fun y =>
      if y.1 = x.1 ∧ v.flatLen = x.2 ∧ v.plain = true then (acc.put? [i] v).bind fun acc' => fillAV place acc' r else none

def structPlace (P : Program) (fs : List Field) (i : Nat) : Option (Nat × Nat) := (fs[i]?).bind fun f => (tsize P f.type).map fun s => (f.offset, s)

def buildAV (P : Program) (t : TypeId) (parts : List (Nat × AV)) : Option AV :=
  (zeroAV P t).bind fun z => if z.isAgg = false then none else match P.underlying t with
    | some (.struct fs) => if fs.toList.all (fun f => (tsize P f.type).isSome) then fillAV (structPlace P fs.toList) z parts else none
    | some (.array _ e) => (tsize P e).bind fun s => fillAV (fun i => some (i * s, s)) z parts
    | _ => none

/-- An int as an index. -/
def AV.idx : AV → Option Nat
  | .int _ n => if 0 ≤ n then some n.toNat else none
  | _ => none

def AV.len : AV → Option Nat
  | .str s => some s.size
  | .nils => some 0
  | .isl _ xs => some xs.length
  | .sl _ _ _ _ len => some len
  | _ => none

def bnd (d : Nat) (x : Option AV) : Option Nat :=
  match x with
  | none => some d
  | some v => v.idx

def sliceAV (P : Program) (H : Heap) (t : TypeId) (x : AV) (lo hi : Option AV) : Option AV :=
  match P.underlying t, x with
  | some (.array n e), .ptr p => (tsize P e).bind fun sz =>
      (bnd n hi).bind fun h => (bnd 0 lo).bind fun l =>
      (H.blk p.id).bind fun b => (b.root.at? p.path).bind fun y => match y.2 with
      | .arr e' xs => if l ≤ h ∧ h ≤ n ∧ b.root.flatLen = p.gen ∧ y.1 = p.coff ∧ e' = sz ∧ xs.length = n then some (.sl p sz n l (h - l)) else none
      | _ => none
  | some (.array n e), .iptr (.arr sz xs) =>
      (bnd n hi).bind fun h => (bnd 0 lo).bind fun l =>
      if l ≤ h ∧ h ≤ n ∧ xs.length = n ∧ tsize P e = some sz then some (.isl sz ((xs.drop l).take (h - l))) else none
  | some .string, .str s =>
      (bnd s.size hi).bind fun h => (bnd 0 lo).bind fun l =>
      if l ≤ h ∧ h ≤ s.size then some (.str (s.extract l h)) else none
  | some (.slice e), .sl p sz n off len =>
      (bnd len hi).bind fun h => (bnd 0 lo).bind fun l =>
      if l ≤ h ∧ off + h ≤ n ∧ tsize P e = some sz ∧ (h ≤ len ∨ (H.blk p.id).map (fun (b : Blk) => b.root.flatLen) = some p.gen) then some (.sl p sz n (off + l) (h - l)) else none
  | some (.slice e), .isl sz xs =>
      (bnd xs.length hi).bind fun h => (bnd 0 lo).bind fun l =>
      if l ≤ h ∧ h ≤ xs.length ∧ tsize P e = some sz then some (.isl sz ((xs.drop l).take (h - l))) else none
  | some (.slice e), .nils =>
      (bnd 0 hi).bind fun h => (bnd 0 lo).bind fun l =>
      if l = 0 ∧ h = 0 ∧ (tsize P e).isSome = true then some .nils else none
  | _, _ => none

/-- 's[l:h:m]', where no more than the length is asked for: of what comes of it nothing is told. -/
def slice3AV (P : Program) (t : TypeId) (x : AV) (lo : Option AV) (hi m : AV) : Option AV :=
  match P.underlying t, x with
  | some (.slice _), .str _ => none
  | some (.slice e), x => (tsize P e).bind fun _ => x.len.bind fun n => m.idx.bind fun m => hi.idx.bind fun h => (bnd 0 lo).bind fun l =>
      if l ≤ h ∧ h ≤ m ∧ m ≤ n then some .bad else none
  | _, _ => none

def fieldOf (P : Program) (t : TypeId) (f : Nat) : Option Field :=
  match P.underlying t with
  | some (.struct fs) => fs[f]?
  | _ => none

def fieldAV (P : Program) (t : TypeId) (x : AV) (f : Nat) : Option AV :=
  match x with
  | .agg _ ps => (fieldOf P t f).bind fun fl => (ps[f]?).bind fun p =>
      if sumLen (ps.take f) = fl.offset ∧ tagg P fl.type = some p.isAgg ∧ tsize P fl.type = some p.flatLen then some p else none
  | _ => none

def fieldAddrAV (P : Program) (t : TypeId) (x : AV) (f : Nat) : Option AV :=
  (fieldOf P t f).bind fun fl => (tsize P fl.type).bind fun sz => if sz = 0 then none else
  match x with
  | .ptr p => some (.ptr { p with coff := p.coff + fl.offset, path := p.path ++ [f] })
  | .iptr (.agg _ ps) => (ps[f]?).bind fun q => if sumLen (ps.take f) = fl.offset then some (.iptr q) else none
  | _ => none

def indexAddrAV (P : Program) (t : TypeId) (x : AV) (i : AV) : Option AV :=
  i.idx.bind fun i =>
  match P.underlying t, x with
  | some (.array n e), .ptr p => (tsize P e).bind fun sz => if i < n then some (.ptr { p with coff := p.coff + i * sz, path := p.path ++ [i] }) else none
  | some (.array n e), .iptr (.arr sz xs) => if i < n ∧ tsize P e = some sz then (xs[i]?).map .iptr else none
  | some (.slice e), .sl p sz _ off len => if i < len ∧ tsize P e = some sz then some (.ptr { p with coff := p.coff + (off + i) * sz, path := p.path ++ [off + i] }) else none
  | some (.slice e), .isl sz xs => if tsize P e = some sz then (xs[i]?).map .iptr else none
  | _, _ => none

def indexAV (P : Program) (t : TypeId) (x : AV) (i : AV) : Option AV :=
  i.idx.bind fun i =>
  match P.underlying t, x with
  | some (.array n e), .arr sz xs => if i < n ∧ tsize P e = some sz then (xs[i]?).bind fun v => if tagg P e = some v.isAgg then some v else none else none
  | some .string, .str s => (s.data[i]?).map fun b => .int .u8 b.toNat
  | _, _ => none

def bytesOf : List AV → Option (List UInt8)
  | [] => some []
  | .int .u8 n :: r => (bytesOf r).map (UInt8.ofNat n.toNat :: ·)
  | _ => none

def convertAV (P : Program) (H : Heap) (src dst : TypeId) (x : AV) : Option (AV × Heap) :=
  match P.underlying src, P.underlying dst, x with
  | some _, some (.int k), .int _ n => some (.int k (k.wrap n), H)
  | some .string, some .string, .str s => some (.str s, H)
  | some .string, some (.slice e), .str s =>
      match P.underlying e with
      | some (.int .u8) => if tsize P e = some 1 then some (.sl ⟨H.length, 0, [], s.size⟩ 1 s.size 0 s.size, newBlk H (.arr 1 (strAV s)) true true) else none
      | _ => none
  | some (.slice e), some .string, x =>
      match P.underlying e with
      | some (.int .u8) => (elemsAV H 1 x).bind fun xs => (bytesOf xs).map fun l => (.str ⟨l.toArray⟩, H)
      | _ => none
  | _, _, _ => none

/-- Is a method missing? (Which one would be named is not asked.) -/
def missingB (want : Array (String × TypeId)) (got : Array Method) : Bool := !(lacking want got).isEmpty

def typeAssertAV (P : Program) (x : AV) (asserted : TypeId) (ok : Bool) : Option AV :=
  let holds (v : AV) : Option AV := some (if ok then .tuple [v, .bool true] else v)
  let fails : Option AV := if ok then (zeroAV P asserted).map fun z => .tuple [z, .bool false] else none
  match P.underlying asserted, x with
  | some (.interface _), .nili => fails
  | some (.interface want), .iface t v => (P.info? t).bind fun i => if missingB want i.methods then fails else holds (.iface t v)
  | some _, .nili => fails
  | some _, .iface t v => if t = asserted then holds v else fails
  | _, _ => none

/-- What is appended or copied. -/
def srcAV (H : Heap) (sz : Nat) : AV → Option (List AV)
  | .str b => if sz = 1 then some (strAV b) else none
  | x => elemsAV H sz x

/-- The kinds of what may be appended or copied. -/
def srcKind : TypeDesc → Bool
  | .slice _ | .string => true
  | _ => false

def copyAV (P : Program) (H : Heap) (t : TypeId) (d s : AV) : Option (AV × Heap) :=
  match P.underlying t with
  | some (.slice e) => (tsize P e).bind fun sz =>
    (srcAV H sz s).bind fun xs =>
    match d with
    | .nils => some (.int .i64 0, H)
    | .sl p e n off len =>
      (H.blk p.id).bind fun b => (b.root.at? p.path).bind fun x =>
        match x.2 with
        | .arr e' ys =>
          let k := min xs.length len
          if b.root.flatLen = p.gen ∧ x.1 = p.coff ∧ e = sz ∧ e' = sz ∧ ys.length = n ∧ off + len ≤ n ∧ xs.all (fun u => u.flatLen == sz) then
            (b.root.put? p.path (.arr sz (setMany ys off (xs.take k)))).map fun r => (.int .i64 k, H.set p.id (some ⟨r, b.grow, b.flat && reflessL xs⟩))
          else none
        | _ => none
    | _ => none
  | _ => none

def clearAV (P : Program) (H : Heap) (t : TypeId) (d : AV) : Option (AV × Heap) :=
  match P.underlying t, d with
  | some _, .nils => some (.tuple [], H)
  | some (.slice e), .sl p sz n off len => (zeroAV P e).bind fun z => (tsize P e).bind fun sz' =>
      (H.blk p.id).bind fun b => (b.root.at? p.path).bind fun x =>
        match x.2 with
        | .arr e' ys =>
          if b.root.flatLen = p.gen ∧ x.1 = p.coff ∧ sz = sz' ∧ e' = sz ∧ ys.length = n ∧ off + len ≤ n ∧ z.flatLen = sz ∧ 0 < len then
            (b.root.put? p.path (.arr sz (setMany ys off (List.replicate len z)))).map fun r => (.tuple [], H.set p.id (some ⟨r, b.grow, b.flat⟩))
          else none
        | _ => none
  | _, _ => none

/-- What the evaluation of a function's text needs from outside: what its callees do. -/
abbrev Oracle := FuncId → List AV → Heap → Option (AV × Heap × Bool)

/-- A region that draws its order: one order that it may have, and at which other memories of the way (by number) an operation that reads may come; and which operations that make a block may come ahead of their place. -/
structure RAnn where
  order : List Nat
  chk : List (Nat × List Nat)
  flo : List Nat

structure FAnn where
  exp : Nat
  keys : List Nat
  keep : List (Nat × Nat)
  ord : List (Nat × RAnn)
  frz : Bool

/-- What lies about the program: what functions without a body here do; what package-level variables hold. -/
structure Out where
  X : Oracle
  G : Nat → Option AV

/-- Two values that are told whole. -/
def scalBin (P : Program) (o : BinOp) (t : TypeId) (cx cy : Value) : Option AV :=
  match o, cx, cy with
  | .eql, .bool a, .bool b => match P.underlying t with | some .bool => some (.bool (a == b)) | _ => none
  | .neq, .bool a, .bool b => match P.underlying t with | some .bool => some (.bool (!(a == b))) | _ => none
  | o, cx, cy => liftPure (binOp o t cx cy)

/-- What a call of yield does: to memory; may what lies below lead to what is new? -/
abbrev Yld := List AV → Heap → Option (Heap × Bool)
def noY : Yld := fun _ _ => none
def noR : Yld → Oracle := fun _ _ _ _ => none

structure Ctx where
  P : Program
  K : Oracle
  n0 : Nat
  N : Nat
  A : FAnn
  U : Out
  /-- in an iterator: what yield does -/
  Y : Yld
  /-- what an iterator does, at a given yield -/
  Rg : Yld → Oracle

structure St where
  L : List (Nat × AV)
  T : List (Nat × AV)
  H : Heap
  esc : Bool

def look (l : List (Nat × AV)) (t : Nat) : AV :=
  match l with
  | [] => .bad
  | (k, v) :: r => if k = t then v else look r t

def upd (l : List (Nat × AV)) (t : Nat) (v : AV) : List (Nat × AV) :=
  match l with
  | [] => []
  | (k, u) :: r => if k = t then (k, v) :: r else (k, u) :: upd r t v

def St.get (A : FAnn) (s : St) (t : Nat) : AV := if A.exp.testBit t then look s.L t else look s.T t
def St.set (A : FAnn) (s : St) (t : Nat) (v : AV) : St := if A.exp.testBit t then { s with L := upd s.L t v } else { s with T := (t, v) :: s.T }

def St.eval (A : FAnn) (s : St) : Operand → AV
  | .tmp t => s.get A t
  | .const v => (absConst v).getD .bad
  | .global _ => .bad
  | .func f => .func (.func f) [] []

/-- The function that a value leads to, and all arguments. -/
def calleeAV (P : Program) (f : AV) (args : List AV) : Option (FuncId × List AV) :=
  match f with
  | .func (.func f) first captured => some (f, first ++ args ++ captured)
  | .iface _ _ => none
  | _ => let _ := P; none

def methodAV (P : Program) (recv : AV) (name : String) : Option (FuncId × AV) :=
  match recv with
  | .iface t v => (P.info? t).bind fun i => (i.methods.find? (·.name == name)).bind fun m =>
      if m.path.isEmpty then m.func.bind fun (f, pr) => match P.underlying t, pr with
        | some (.pointer _), true => some (f, v)
        | some (.pointer _), false => none
        | some _, false => some (f, v)
        | _, _ => none
      else match m.path.toList with
        | [st] => if st.deref then none else m.func.bind fun (f, pr) => match P.underlying st.struct with
          | some (.struct fs) => (fs[st.index]?).bind fun fl => (fieldAV P st.struct v st.index).bind fun q => match P.underlying fl.type, pr with
            | some (.pointer _), true => some (f, q)
            | _, _ => none
          | _ => none
        | _ => none
  | _ => none

/-- Does a store of v into block i put a young reference into an old block? -/
def escapes (n0 i : Nat) (v : AV) : Bool := decide (i < n0) && !v.refless

def storeFlag (n0 : Nat) (a v : AV) : Bool :=
  match a with
  | .ptr p => escapes n0 p.id v
  | _ => false

def appendFlag (n0 : Nat) (x : AV) (xs : List AV) : Bool :=
  match x with
  | .sl p _ _ _ _ => decide (p.id < n0) && !reflessL xs
  | _ => false

def copyFlag (n0 : Nat) (H' : Heap) (d : AV) : Bool :=
  match d with
  | .sl p _ _ _ _ => decide (p.id < n0) && !(match H'.blk p.id with | some b => b.flat | none => false)
  | _ => false

def enterAV (C : Ctx) (f : FuncId) (args : List AV) (s : St) : Option (AV × Heap × Bool) :=
  match C.P.funcs[f]? with
  | some fn => match fn.body with
    | some _ => if fn.name ≠ "runtime.NumGoroutine" then C.K f args s.H else none
    | none => C.U.X f args s.H
  | none => none

def isConstO : Operand → Bool
  | .const _ => true
  | _ => false

def tiface (P : Program) (t : TypeId) : Bool := match P.underlying t with | some (.interface _) => true | _ => false

/-- '==', with the care that two nil values of an interface's type want. -/
def eqNil (P : Program) (t : TypeId) (x y : Operand) (a b : AV) : Option Bool :=
  match a, b with
  | .nili, .nili => if (isConstO x || isConstO y) && tiface P t then some true else none
  | a, b => eqAV P 30 t a b

def evalBuiltin (C : Ctx) (b : Builtin) (argTypes : Array TypeId) (args : List AV) (s : St) : Option (AV × Heap × Bool) :=
  let q (r : Option AV) : Option (AV × Heap × Bool) := r.map fun v => (v, s.H, false)
  match b, args with
  | .len, [x] => (argTypes[0]?).bind fun t => match C.P.underlying t with
      | some (.array n _) => q (some (.int .i64 n))
      | some (.pointer a) => match C.P.underlying a with
        | some (.array n _) => q (some (.int .i64 n))
        | _ => none
      | some .string => match x with | .str s => q (some (.int .i64 s.size)) | _ => none
      | some (.slice _) => match x with | .str _ => none | x => q (x.len.map fun (n : Nat) => AV.int .i64 (n : Int))
      | _ => none
  | .min, x :: xs => q ((x.scalar).bind fun c => (xs.mapM AV.scalar).bind fun cs => liftPure (cs.foldlM Builtin.min2 c))
  | .max, x :: xs => q ((x.scalar).bind fun c => (xs.mapM AV.scalar).bind fun cs => liftPure (cs.foldlM Builtin.max2 c))
  | .append, [x, y] => (argTypes[0]?).bind fun t => (argTypes[1]?).bind fun u => match C.P.underlying t, C.P.underlying u with
      | some (.slice e), some d => if srcKind d = false then none else (tsize C.P e).bind fun sz =>
        (srcAV s.H sz y).bind fun xs =>
        (if C.A.frz && !reflessL xs then freezeL C.n0 xs s.H else some (xs, s.H)).bind fun (z : List AV × Heap) =>
        (appendAV C.P z.2 e x z.1).map fun (r : AV × Heap) => (r.1, r.2, appendFlag C.n0 x z.1)
      | _, _ => none
  | .copy, [d, x] => (argTypes[0]?).bind fun t => (copyAV C.P s.H t d x).map fun r => (r.1, r.2, copyFlag C.n0 r.2 d)
  | .clear, [d] => (argTypes[0]?).bind fun t => (clearAV C.P s.H t d).map fun r => (r.1, r.2, false)
  | _, _ => none

def evalOp (C : Ctx) (s : St) (op : Op) (_type : TypeId) : Option (AV × Heap × Bool) :=
  let ρ := s.eval C.A
  let q (r : Option AV) : Option (AV × Heap × Bool) := r.map fun v => (v, s.H, false)
  match op with
  | .move x | .assign x => q (some (ρ x))
  | .pick c a b => match ρ c with | .bool true => q (some (ρ a)) | .bool false => q (some (ρ b)) | _ => none
  | .alloc t => (zeroAV C.P t).map fun z => let r := newVarAV s.H z; (r.1, r.2, false)
  | .box _ x => let v := ρ x; if v.plain then let r := newVarAV s.H v; some (r.1, r.2, false) else none
  | .build t parts => q (buildAV C.P t (parts.toList.map fun x => (x.1, ρ x.2)))
  | .buildSlice t len parts => match C.P.underlying t with
      | some (.slice e) => (tsize C.P e).bind fun sz => if len * sz ≤ 2 ^ 20 ∧ 0 < sz then
          (if len = 0 then (if parts.toList.isEmpty then some (.arr sz []) else none) else (zeroAV C.P e).bind fun z => if z.flatLen = sz then
            fillAV (fun i => some (i * sz, sz)) (.arr sz (List.replicate len z)) (parts.toList.map fun x => (x.1, ρ x.2)) else none).map fun r =>
          (.sl ⟨s.H.length, 0, [], sz * len⟩ sz len 0 len, newBlk s.H r true r.refless, false) else none
      | _ => none
  | .load t (.global g) => q ((C.U.G g).bind fun v => loadAV C.P s.H t (.iptr v))
  | .load t a => q (loadAV C.P s.H t (ρ a))
  | .store t a x => (storeAV C.P s.H t (ρ a) (ρ x)).map fun H' => (.bad, H', storeFlag C.n0 (ρ a) (ρ x))
  | .nilCheck x => match ρ x with
      | .ptr p => q (some (.ptr p))
      | .iptr v => q (some (.iptr v))
      | .iface t v => q (some (.iface t v))
      | .func (.func f) a b => q (some (.func (.func f) a b))
      | _ => none
  | .binOp o t x y _ =>
      match (ρ x).scalar, (ρ y).scalar with
      | some cx, some cy => q (scalBin C.P o t cx cy)
      | none, none => if (ρ x).isAgg && C.P.eqGuardType C.P.depth t then none else match o with
        | .eql => q ((eqNil C.P t x y (ρ x) (ρ y)).map .bool)
        | .neq => q ((eqNil C.P t x y (ρ x) (ρ y)).map fun r => .bool !r)
        | _ => none
      | _, _ => none
  | .unOp o _ x => q ((ρ x).scalar.bind fun c => liftPure (Op.unary o c))
  | .convert src dst x => (convertAV C.P s.H src dst (ρ x)).map fun r => (r.1, r.2, false)
  | .sliceToArrayPointer t x => match C.P.underlying t, ρ x with
      | some (.array n e), .sl p sz m off len => if n ≤ len ∧ 0 < n ∧ tsize C.P e = some sz then (if off = 0 ∧ n = m then q (some (.ptr p)) else q (some (.sptr p sz m off n))) else none
      | some (.array n e), .isl sz xs => if (0 < n ∧ n ≤ xs.length) ∧ tsize C.P e = some sz then q (some (.iptr (.arr sz (xs.take n)))) else none
      | _, _ => none
  | .makeInterface t x => match C.P.underlying t with
      | some (.interface _) => none
      | some _ => if (ρ x).plain then q (some (.iface t (ρ x))) else none
      | none => none
  | .makeFunc fn first captured => match fn with
      | .func _ => let a := first.toList.map ρ; let b := captured.toList.map ρ; if (a ++ b).all (fun v => v.plain && !v.isAgg) then q (some (.func fn a b)) else none
      | _ => none
  | .makeSlice t l c => match C.P.underlying t with
      | some (.slice e) => (tsize C.P e).bind fun sz => (tbytes C.P e).bind fun by_ => (ρ l).idx.bind fun l => (ρ c).idx.bind fun c => (zeroAV C.P e).bind fun z =>
          if l ≤ c ∧ c * by_ ≤ maxBytes ∧ c ≤ maxBytes ∧ z.flatLen = sz ∧ 0 < sz then
            some (.sl ⟨s.H.length, 0, [], sz * l⟩ sz l 0 l, newBlk s.H (.arr sz (List.replicate l z)) true true, false) else none
      | _ => none
  | .slice t x lo hi none => q (sliceAV C.P s.H t (ρ x) (lo.map ρ) (hi.map ρ))
  | .slice t x lo (some hi) (some m) => q (slice3AV C.P t (ρ x) (lo.map ρ) (ρ hi) (ρ m))
  | .fieldAddr t x f => q (fieldAddrAV C.P t (ρ x) f)
  | .field t x f => q (fieldAV C.P t (ρ x) f)
  | .indexAddr t x i => q (indexAddrAV C.P t (ρ x) (ρ i))
  | .index t x i => q (indexAV C.P t (ρ x) (ρ i))
  | .makeMap _ none => some (.map s.H.length, s.H ++ [some ⟨.tuple [], false, true⟩], false)
  | .lookup t x i ok => q (lookupAV C.P s.H t (ρ x) (ρ i) ok)
  | .mapUpdate t m k v => (mapUpdateAV C.P s.H t (ρ m) (ρ k) (ρ v)).map fun H' => (.bad, H', false)
  | .typeAssert x _ asserted ok => q (typeAssertAV C.P (ρ x) asserted ok)
  | .extract t i => match ρ t with | .tuple vs => q (vs[i]?) | _ => none
  | .call c =>
      let args := c.args.toList.map ρ
      match c.callee with
      | .builtin b => evalBuiltin C b c.argTypes args s
      | .value f => (calleeAV C.P (ρ f) args).bind fun x => enterAV C x.1 x.2 s
      | .invoke r m => (methodAV C.P (ρ r) m).bind fun x => enterAV C x.1 (x.2 :: args) s
  | _ => none


end Go.X
/-
  How abstract values and memory stand for the model's: the relations, and what keeps them.
-/
namespace Go.X
open Go.RowKit (Below)

/-- Where a block lies. -/
structure Loc where
  b : Nat
  base : Nat
  ext : Nat
  gen : Nat

structure Env where
  loc : Nat → Option Loc
  m : Nat → Nat → Option Value
  top : Nat
  mloc : Nat → Option Nat
  yl : Nat

def pack (v : AV) (cs : List Value) : Value := if v.isAgg then .agg cs.toArray else cs.headD undef

/-- Values, flat, and the cells that they are. -/
inductive FR (E : Env) : List AV → List Value → Prop
  | nil : FR E [] []
  | int {k : IntKind} {n : Int} {vs : List AV} {cs : List Value} : FR E vs cs → FR E (.int k n :: vs) (.int k n :: cs)
  | bool {b : Bool} {vs : List AV} {cs : List Value} : FR E vs cs → FR E (.bool b :: vs) (.bool b :: cs)
  | str {s : ByteArray} {vs : List AV} {cs : List Value} : FR E vs cs → FR E (.str s :: vs) (.string s :: cs)
  | nilp {vs : List AV} {cs : List Value} : FR E vs cs → FR E (.nilp :: vs) (.pointer none :: cs)
  | nils {vs : List AV} {cs : List Value} : FR E vs cs → FR E (.nils :: vs) (.slice none 0 0 :: cs)
  | nilm {vs : List AV} {cs : List Value} : FR E vs cs → FR E (.nilm :: vs) (.map none :: cs)
  | map {i b : Nat} {vs : List AV} {cs : List Value} : i < E.top → (∀ b', E.mloc i = some b' → b' = b) → FR E vs cs → FR E (.map i :: vs) (.map (some b) :: cs)
  | nilf {vs : List AV} {cs : List Value} : FR E vs cs → FR E (.nilf :: vs) (.nilFunc :: cs)
  | hnd {b t : Nat} {vs : List AV} {cs : List Value} : FR E vs cs → FR E (.hnd b t :: vs) (.pointer (some ⟨b, t, none⟩) :: cs)
  | nili {vs : List AV} {cs : List Value} : FR E vs cs → FR E (.nili :: vs) (.nilIface :: cs)
  | ptr {p : Pl} {a : Addr} {vs : List AV} {cs : List Value} : p.id < E.top →
      (∀ L, E.loc p.id = some L → p.gen < L.gen ∨ (p.gen = L.gen ∧ a = ⟨L.b, L.base + p.coff, none⟩)) →
      FR E vs cs → FR E (.ptr p :: vs) (.pointer (some a) :: cs)
  | sl {p : Pl} {esz n off len cap : Nat} {a : Addr} {vs : List AV} {cs : List Value} : p.id < E.top → len ≤ cap →
      (∀ L, E.loc p.id = some L → p.gen < L.gen ∨ (p.gen = L.gen ∧ n ≤ off + cap ∧ p.coff + (off + cap) * esz ≤ L.ext ∧ (cap = 0 ∨ a = ⟨L.b, L.base + p.coff + off * esz, none⟩))) →
      a.spot = none → FR E vs cs → FR E (.sl p esz n off len :: vs) (.slice (some a) len cap :: cs)
  | sptr {p : Pl} {esz n off len : Nat} {a : Addr} {vs : List AV} {cs : List Value} : p.id < E.top →
      (∀ L, E.loc p.id = some L → p.gen < L.gen ∨ (p.gen = L.gen ∧ a = ⟨L.b, L.base + p.coff + off * esz, none⟩)) →
      FR E vs cs → FR E (.sptr p esz n off len :: vs) (.pointer (some a) :: cs)
  | isl {e : Nat} {xs : List AV} {c1 : List Value} {b o cap : Nat} {sp : Option Nat} {vs : List AV} {cs : List Value} : reflessL xs = true → FR E xs c1 → (∀ x ∈ xs, x.flatLen = e) → xs.length ≤ cap →
      (∀ j c, c1[j]? = some c → E.m b (o + j) = some c) → (sp = none ∨ xs = []) → FR E vs cs → FR E (.isl e xs :: vs) (.slice (some ⟨b, o, sp⟩) xs.length cap :: cs)
  | iptr {v : AV} {c1 : List Value} {b o : Nat} {vs : List AV} {cs : List Value} : v.refless = true → FR E [v] c1 →
      (∀ j c, c1[j]? = some c → E.m b (o + j) = some c) → FR E vs cs → FR E (.iptr v :: vs) (.pointer (some ⟨b, o, none⟩) :: cs)
  | func {fn : Fn} {xs ys : List AV} {cx cy : List Value} {vs : List AV} {cs : List Value} : (∀ x ∈ xs ++ ys, x.isAgg = false) → FR E xs cx → FR E ys cy →
      FR E vs cs → FR E (.func fn xs ys :: vs) (.func fn cx.toArray cy.toArray :: cs)
  | iface {t : TypeId} {v : AV} {c1 : List Value} {vs : List AV} {cs : List Value} : FR E [v] c1 → FR E vs cs → FR E (.iface t v :: vs) (.iface t (pack v c1) :: cs)
  | agg {n : Nat} {ps : List AV} {c1 : List Value} {vs : List AV} {cs : List Value} : FR E ps c1 → n = c1.length → FR E vs cs → FR E (.agg n ps :: vs) (c1 ++ cs)
  | arr {e : Nat} {xs : List AV} {c1 : List Value} {vs : List AV} {cs : List Value} : FR E xs c1 → (∀ x ∈ xs, x.flatLen = e) → FR E vs cs → FR E (.arr e xs :: vs) (c1 ++ cs)

/-- A value that may lie in memory. -/
def PR (E : Env) (v : AV) (c : Value) : Prop := ∃ cs, FR E [v] cs ∧ c = pack v cs

/-- Any value: of what is 'bad' nothing is known. -/
def VR (E : Env) (v : AV) (c : Value) : Prop :=
  match v with
  | .bad => True
  | .undf => c = undef
  | .yld => c = .func (.yield E.yl) #[] #[]
  | .tuple vs => ∃ cvs : List Value, c = .tuple cvs.toArray ∧ vs.length = cvs.length ∧ ∀ (i : Nat) (v : AV) (c : Value), vs[i]? = some v → cvs[i]? = some c → v = .bad ∨ PR E v c
  | v => PR E v c

theorem sumLen_append (a b : List AV) : sumLen (a ++ b) = sumLen a + sumLen b := by
  induction a with
  | nil => simp [sumLen]
  | cons x xs ih => simp [sumLen, ih]; omega

theorem sumLen_same {e : Nat} : ∀ {xs : List AV}, (∀ x ∈ xs, x.flatLen = e) → sumLen xs = e * xs.length
  | [], _ => by simp [sumLen]
  | x :: xs, h => by
    have := sumLen_same (fun y hy => h y (List.mem_cons_of_mem _ hy))
    simp [sumLen, this, h x (List.mem_cons_self), Nat.mul_add]; omega

theorem FR.length {E : Env} {vs : List AV} {cs : List Value} (h : FR E vs cs) : cs.length = sumLen vs := by
  induction h with
  | nil => rfl
  | agg h1 hn h2 ih1 ih2 => simp [sumLen, AV.flatLen, hn, ih2]
  | arr h1 he h2 ih1 ih2 => simp [sumLen, AV.flatLen, ih1, ih2, sumLen_same he]
  | _ => simp_all [sumLen, AV.flatLen]; try omega

theorem FR.append {E : Env} {vs us : List AV} {cs ds : List Value} (h : FR E vs cs) (k : FR E us ds) : FR E (vs ++ us) (cs ++ ds) := by
  induction h with
  | nil => exact k
  | int h ih => exact .int ih
  | bool h ih => exact .bool ih
  | str h ih => exact .str ih
  | nilp h ih => exact .nilp ih
  | nils h ih => exact .nils ih
  | nilm h ih => exact .nilm ih
  | map h1 h2 h ih => exact .map h1 h2 ih
  | nilf h ih => exact .nilf ih
  | hnd h ih => exact .hnd ih
  | nili h ih => exact .nili ih
  | ptr h1 h2 h ih => exact .ptr h1 h2 ih
  | sl h1 h2 h3 hs h ih => exact .sl h1 h2 h3 hs ih
  | sptr h1 h2 h ih => exact .sptr h1 h2 ih
  | isl h1 h2 h3 h4 h5 h6 h ih1 ih => exact .isl h1 h2 h3 h4 h5 h6 ih
  | iptr h1 h2 h3 h ih1 ih => exact .iptr h1 h2 h3 ih
  | func h1 h2 h3 h ih1 ih2 ih => exact .func h1 h2 h3 ih
  | iface h1 h ih1 ih => exact .iface h1 ih
  | agg h1 hn h ih1 ih => rw [List.cons_append, List.append_assoc]; exact .agg h1 hn ih
  | arr h1 hn h ih1 ih => rw [List.cons_append, List.append_assoc]; exact .arr h1 hn ih

theorem FR.cons_inv {E : Env} {v : AV} {vs : List AV} {cs : List Value} (h : FR E (v :: vs) cs) : ∃ c1 c2, cs = c1 ++ c2 ∧ FR E [v] c1 ∧ FR E vs c2 := by
  cases h with
  | int h => exact ⟨[_], _, rfl, .int .nil, h⟩
  | bool h => exact ⟨[_], _, rfl, .bool .nil, h⟩
  | str h => exact ⟨[_], _, rfl, .str .nil, h⟩
  | nilp h => exact ⟨[_], _, rfl, .nilp .nil, h⟩
  | nils h => exact ⟨[_], _, rfl, .nils .nil, h⟩
  | nilm h => exact ⟨[_], _, rfl, .nilm .nil, h⟩
  | map h1 h2 h => exact ⟨[_], _, rfl, .map h1 h2 .nil, h⟩
  | nilf h => exact ⟨[_], _, rfl, .nilf .nil, h⟩
  | hnd h => exact ⟨[_], _, rfl, .hnd .nil, h⟩
  | nili h => exact ⟨[_], _, rfl, .nili .nil, h⟩
  | ptr h1 h2 h => exact ⟨[_], _, rfl, .ptr h1 h2 .nil, h⟩
  | sl h1 h2 h3 hs h => exact ⟨[_], _, rfl, .sl h1 h2 h3 hs .nil, h⟩
  | sptr h1 h2 h => exact ⟨[_], _, rfl, .sptr h1 h2 .nil, h⟩
  | isl h1 h2 h3 h4 h5 h6 h => exact ⟨[_], _, rfl, .isl h1 h2 h3 h4 h5 h6 .nil, h⟩
  | iptr h1 h2 h3 h => exact ⟨[_], _, rfl, .iptr h1 h2 h3 .nil, h⟩
  | func h1 h2 h3 h => exact ⟨[_], _, rfl, .func h1 h2 h3 .nil, h⟩
  | iface h1 h => exact ⟨[_], _, rfl, .iface h1 .nil, h⟩
  | agg h1 hn h => exact ⟨_, _, rfl, by have := FR.agg h1 hn (FR.nil); simpa using this, h⟩
  | arr h1 hn h => exact ⟨_, _, rfl, by have := FR.arr h1 hn (FR.nil); simpa using this, h⟩

theorem FR.append_inv {E : Env} : ∀ {vs us : List AV} {cs : List Value}, FR E (vs ++ us) cs → ∃ c1 c2, cs = c1 ++ c2 ∧ FR E vs c1 ∧ FR E us c2
  | [], us, cs, h => ⟨[], cs, rfl, .nil, h⟩
  | v :: vs, us, cs, h => by
    obtain ⟨c1, c2, rfl, h1, h2⟩ := FR.cons_inv (show FR E (v :: (vs ++ us)) cs from h)
    obtain ⟨d1, d2, rfl, k1, k2⟩ := FR.append_inv h2
    exact ⟨c1 ++ d1, d2, by simp, FR.append h1 k1, k2⟩

theorem FR.cons {E : Env} {v : AV} {vs : List AV} {c1 c2 : List Value} (h : FR E [v] c1) (k : FR E vs c2) : FR E (v :: vs) (c1 ++ c2) := FR.append h k

theorem FR.agg_inv {E : Env} {n : Nat} {ps : List AV} {cs : List Value} (h : FR E [.agg n ps] cs) : FR E ps cs ∧ n = cs.length := by
  generalize hv : [AV.agg n ps] = vs at h
  cases h with
  | agg h1 hn h2 =>
    obtain ⟨⟨rfl, rfl⟩, rfl⟩ := by simpa using hv
    cases h2
    simpa using ⟨h1, hn⟩
  | _ => simp at hv

theorem FR.arr_inv {E : Env} {e : Nat} {xs : List AV} {cs : List Value} (h : FR E [.arr e xs] cs) : FR E xs cs ∧ ∀ x ∈ xs, x.flatLen = e := by
  generalize hv : [AV.arr e xs] = vs at h
  cases h with
  | arr h1 hn h2 =>
    obtain ⟨⟨rfl, rfl⟩, rfl⟩ := by simpa using hv
    cases h2
    simpa using ⟨h1, hn⟩
  | _ => simp at hv

/-- The part at i of a list of values. -/
theorem FR.nth {E : Env} {vs : List AV} {cs : List Value} (h : FR E vs cs) {i : Nat} {v : AV} (hi : vs[i]? = some v) :
    ∃ pre mid post, cs = pre ++ mid ++ post ∧ pre.length = sumLen (vs.take i) ∧ FR E [v] mid ∧ FR E (vs.take i) pre ∧ FR E (vs.drop (i + 1)) post := by
  have hlt : i < vs.length := by
    rcases Nat.lt_or_ge i vs.length with h | h
    · exact h
    · simp [List.getElem?_eq_none h] at hi
  have hv : vs[i] = v := by simpa [List.getElem?_eq_getElem hlt] using hi
  have hsplit : vs = vs.take i ++ ([v] ++ vs.drop (i + 1)) := by
    rw [← hv]
    simp
  rw [hsplit] at h
  obtain ⟨pre, r, rfl, h1, h2⟩ := FR.append_inv h
  obtain ⟨mid, post, rfl, h3, h4⟩ := FR.append_inv h2
  exact ⟨pre, mid, post, by simp, h1.length, h3, h1, h4⟩

theorem AV.flatLen_one {v : AV} : sumLen [v] = v.flatLen := by simp [sumLen]

theorem at_spec {E : Env} : ∀ (path : List Nat) (v : AV) (cs : List Value) (o : Nat) (u : AV), FR E [v] cs → v.at? path = some (o, u) →
    ∃ pre mid post, cs = pre ++ mid ++ post ∧ pre.length = o ∧ FR E [u] mid
  | [], v, cs, o, u, h, ha => by
    have : (0, v) = (o, u) := by cases v <;> simpa [AV.at?] using ha
    obtain ⟨rfl, rfl⟩ := by simpa using this
    exact ⟨[], cs, [], by simp, rfl, h⟩
  | i :: r, v, cs, o, u, h, ha => by
    cases v with
    | agg n ps =>
      simp only [AV.at?, Option.bind_eq_some_iff, Option.map_eq_some_iff, Prod.exists, Prod.mk.injEq] at ha
      obtain ⟨p, hp, o', u', hr, rfl, rfl⟩ := ha
      obtain ⟨pre, mid, post, rfl, hl, hm, _, _⟩ := h.agg_inv.1.nth hp
      obtain ⟨pre', mid', post', rfl, hl', hm'⟩ := at_spec r p mid o' u' hm hr
      exact ⟨pre ++ pre', mid', post' ++ post, by simp, by simp [hl, hl'], hm'⟩
    | arr e xs =>
      simp only [AV.at?, Option.bind_eq_some_iff, Option.map_eq_some_iff, Prod.exists, Prod.mk.injEq] at ha
      obtain ⟨p, hp, o', u', hr, rfl, rfl⟩ := ha
      obtain ⟨hx, he⟩ := h.arr_inv
      obtain ⟨pre, mid, post, rfl, hl, hm, _, _⟩ := hx.nth hp
      obtain ⟨pre', mid', post', rfl, hl', hm'⟩ := at_spec r p mid o' u' hm hr
      have hi : i < xs.length := by
        rcases Nat.lt_or_ge i xs.length with h | h
        · exact h
        · simp [List.getElem?_eq_none h] at hp
      have hs : sumLen (xs.take i) = e * i := by
        rw [sumLen_same (fun x hx => he x (List.mem_of_mem_take hx))]
        simp [Nat.min_eq_left (Nat.le_of_lt hi)]
      exact ⟨pre ++ pre', mid', post' ++ post, by simp, by simp [hl, hl', hs], hm'⟩
    | _ => simp [AV.at?] at ha

theorem FR.set {E : Env} {vs : List AV} {pre mid' post : List Value} {i : Nat} {v v' : AV} (hi : vs[i]? = some v)
    (hpre : FR E (vs.take i) pre) (hmid : FR E [v'] mid') (hpost : FR E (vs.drop (i + 1)) post) : FR E (vs.set i v') (pre ++ mid' ++ post) := by
  have hlt : i < vs.length := by
    rcases Nat.lt_or_ge i vs.length with h | h
    · exact h
    · simp [List.getElem?_eq_none h] at hi
  rw [List.set_eq_take_append_cons_drop, if_pos hlt, List.append_assoc]
  exact FR.append hpre (FR.cons hmid hpost)

theorem put_spec {E : Env} : ∀ (path : List Nat) (v : AV) (cs : List Value) (o : Nat) (u u' v' : AV) (mid' : List Value), FR E [v] cs → v.at? path = some (o, u) →
    v.put? path u' = some v' → FR E [u'] mid' →
    ∃ pre mid post, cs = pre ++ mid ++ post ∧ pre.length = o ∧ FR E [u] mid ∧ mid'.length = mid.length ∧ FR E [v'] (pre ++ mid' ++ post) ∧ v'.flatLen = v.flatLen
  | [], v, cs, o, u, u', v', mid', h, ha, hp, hm => by
    have h1 : (0, v) = (o, u) := by cases v <;> simpa [AV.at?] using ha
    obtain ⟨rfl, rfl⟩ := by simpa using h1
    have h2 : v.flatLen = u'.flatLen ∧ u' = v' := by cases v <;> simpa [AV.put?] using hp
    obtain ⟨hl, rfl⟩ := h2
    exact ⟨[], cs, [], by simp, rfl, h, by rw [hm.length, h.length]; simp [sumLen, hl], by simpa using hm, hl.symm⟩
  | i :: r, v, cs, o, u, u', v', mid', h, ha, hp, hm => by
    cases v with
    | agg n ps =>
      simp only [AV.at?, Option.bind_eq_some_iff, Option.map_eq_some_iff, Prod.exists, Prod.mk.injEq] at ha
      obtain ⟨p, hpi, o', u1, hr, rfl, rfl⟩ := ha
      simp only [AV.put?, Option.bind_eq_some_iff, Option.map_eq_some_iff] at hp
      obtain ⟨p1, hpi1, p', hput, rfl⟩ := hp
      obtain rfl : p = p1 := by rw [hpi] at hpi1; exact Option.some.inj hpi1
      obtain ⟨hps, hn⟩ := h.agg_inv
      obtain ⟨pre, mid, post, rfl, hl, hmid, hpre, hpost⟩ := hps.nth hpi
      obtain ⟨pre', m', post', rfl, hl', hm1, hlen, hv', hfl⟩ := put_spec r p mid o' u1 u' p' mid' hmid hr hput hm
      refine ⟨pre ++ pre', m', post' ++ post, by simp, by simp [hl, hl'], hm1, hlen, ?_, rfl⟩
      have hset := FR.set (v' := p') hpi hpre hv' hpost
      have := FR.agg (n := n) (vs := []) (cs := []) hset (by simp [hn, hlen]) .nil
      simpa using this
    | arr e xs =>
      simp only [AV.at?, Option.bind_eq_some_iff, Option.map_eq_some_iff, Prod.exists, Prod.mk.injEq] at ha
      obtain ⟨p, hpi, o', u1, hr, rfl, rfl⟩ := ha
      simp only [AV.put?, Option.bind_eq_some_iff, Option.map_eq_some_iff] at hp
      obtain ⟨p1, hpi1, p', hput, rfl⟩ := hp
      obtain rfl : p = p1 := by rw [hpi] at hpi1; exact Option.some.inj hpi1
      obtain ⟨hx, he⟩ := h.arr_inv
      obtain ⟨pre, mid, post, rfl, hl, hmid, hpre, hpost⟩ := hx.nth hpi
      obtain ⟨pre', m', post', rfl, hl', hm1, hlen, hv', hfl⟩ := put_spec r p mid o' u1 u' p' mid' hmid hr hput hm
      have hi : i < xs.length := by
        rcases Nat.lt_or_ge i xs.length with h | h
        · exact h
        · simp [List.getElem?_eq_none h] at hpi
      have hs : sumLen (xs.take i) = e * i := by
        rw [sumLen_same (fun x hx => he x (List.mem_of_mem_take hx))]
        simp [Nat.min_eq_left (Nat.le_of_lt hi)]
      have hset := FR.set (v' := p') hpi hpre hv' hpost
      have hep : p.flatLen = e := he p (List.mem_of_getElem? hpi)
      refine ⟨pre ++ pre', m', post' ++ post, by simp, by simp [hl, hl', hs], hm1, hlen, ?_, by simp [AV.flatLen]⟩
      have := FR.arr (vs := []) (cs := []) hset (e := e) (by
        intro x hx'
        rcases List.mem_or_eq_of_mem_set hx' with h | h
        · exact he x h
        · rw [h, hfl, hep]) .nil
      simpa using this
    | _ => simp [AV.at?] at ha

/-! ### Later environments -/

/-- Below number k nothing was turned but by what grew, or was given up; what does not change has not changed. -/
structure Evol (k : Nat) (E E' : Env) : Prop where
  loc : ∀ i, i < k → ∀ L', E'.loc i = some L' → ∃ L, E.loc i = some L ∧ (L' = L ∨ L.gen < L'.gen)
  m : ∀ b o c, E.m b o = some c → E'.m b o = some c
  mloc : ∀ i, i < k → ∀ b, E'.mloc i = some b → E.mloc i = some b
  yl : E'.yl = E.yl

theorem Evol.refl (k : Nat) (E : Env) : Evol k E E := ⟨fun _ _ L h => ⟨L, h, .inl rfl⟩, fun _ _ _ h => h, fun _ _ _ h => h, rfl⟩
theorem Evol.trans {k : Nat} {E E1 E2 : Env} (h : Evol k E E1) (g : Evol k E1 E2) : Evol k E E2 := by
  refine ⟨fun i hi L' hL' => ?_, fun b o c hc => g.m b o c (h.m b o c hc), fun i hi b hb => h.mloc i hi b (g.mloc i hi b hb), g.yl.trans h.yl⟩
  obtain ⟨L1, h1, h2⟩ := g.loc i hi L' hL'
  obtain ⟨L, h3, h4⟩ := h.loc i hi L1 h1
  refine ⟨L, h3, ?_⟩
  rcases h2 with rfl | h2
  · exact h4
  · rcases h4 with rfl | h4
    · exact .inr h2
    · exact .inr (by omega)
theorem Evol.mono {k k' : Nat} {E E' : Env} (h : Evol k E E') (hk : k' ≤ k) : Evol k' E E' := ⟨fun i hi => h.loc i (by omega), h.m, fun i hi => h.mloc i (by omega), h.yl⟩

/-- The same, whatever is called yield. -/
structure Evol0 (k : Nat) (E E' : Env) : Prop where
  loc : ∀ i, i < k → ∀ L', E'.loc i = some L' → ∃ L, E.loc i = some L ∧ (L' = L ∨ L.gen < L'.gen)
  m : ∀ b o c, E.m b o = some c → E'.m b o = some c
  mloc : ∀ i, i < k → ∀ b, E'.mloc i = some b → E.mloc i = some b

/-- A value goes on, whose references are all below k. -/
theorem FR.evol0 {k : Nat} {E E' : Env} (he : Evol0 k E E') (hk : k ≤ E'.top) {vs : List AV} {cs : List Value} (h : FR E vs cs) (hr : ∀ r ∈ refsL vs, r < k) : FR E' vs cs := by
  induction h with
  | nil => exact .nil
  | int h ih => exact .int (ih (by simpa [refsL, AV.refs] using hr))
  | bool h ih => exact .bool (ih (by simpa [refsL, AV.refs] using hr))
  | str h ih => exact .str (ih (by simpa [refsL, AV.refs] using hr))
  | nilp h ih => exact .nilp (ih (by simpa [refsL, AV.refs] using hr))
  | nils h ih => exact .nils (ih (by simpa [refsL, AV.refs] using hr))
  | nilm h ih => exact .nilm (ih (by simpa [refsL, AV.refs] using hr))
  | @map i b vs cs h1 h2 h ih =>
    have hp : i < k := hr _ (by simp [refsL, AV.refs])
    exact .map (by omega) (fun b' hb => h2 b' (he.mloc i hp b' hb)) (ih (fun r h => hr r (by simp [refsL, AV.refs, h])))
  | nilf h ih => exact .nilf (ih (by simpa [refsL, AV.refs] using hr))
  | hnd h ih => exact .hnd (ih (by simpa [refsL, AV.refs] using hr))
  | nili h ih => exact .nili (ih (by simpa [refsL, AV.refs] using hr))
  | @ptr p a vs cs h1 h2 h ih =>
    have hp : p.id < k := hr _ (by simp [refsL, AV.refs])
    refine .ptr (by omega) (fun L hL => ?_) (ih (fun r h => hr r (by simp [refsL, AV.refs, h])))
    obtain ⟨L0, h0, h3⟩ := he.loc _ hp L hL
    rcases h2 L0 h0 with h4 | h4 <;> rcases h3 with rfl | h3
    · exact .inl h4
    · exact .inl (by omega)
    · exact .inr h4
    · exact .inl (by omega)
  | @sl p esz n off len cap a vs cs h1 hlc h2 hs h ih =>
    have hp : p.id < k := hr _ (by simp [refsL, AV.refs])
    refine .sl (by omega) hlc (fun L hL => ?_) hs (ih (fun r h => hr r (by simp [refsL, AV.refs, h])))
    obtain ⟨L0, h0, h3⟩ := he.loc _ hp L hL
    rcases h2 L0 h0 with h4 | h4 <;> rcases h3 with rfl | h3
    · exact .inl h4
    · exact .inl (by omega)
    · exact .inr h4
    · exact .inl (by omega)
  | @sptr p esz n off len a vs cs h1 h2 h ih =>
    have hp : p.id < k := hr _ (by simp [refsL, AV.refs])
    refine .sptr (by omega) (fun L hL => ?_) (ih (fun r h => hr r (by simp [refsL, AV.refs, h])))
    obtain ⟨L0, h0, h3⟩ := he.loc _ hp L hL
    rcases h2 L0 h0 with h4 | h4 <;> rcases h3 with rfl | h3
    · exact .inl h4
    · exact .inl (by omega)
    · exact .inr h4
    · exact .inl (by omega)
  | isl h1 h2 h3 h4 h5 h6 h ih1 ih =>
    refine .isl h1 (ih1 ?_) h3 h4 (fun j c hc => he.m _ _ _ (h5 j c hc)) h6 (ih (by simpa [refsL, AV.refs] using hr))
    intro r hr'
    exact absurd hr' (by rw [refsL_of_refless h1]; simp)
  | iptr h1 h2 h3 h ih1 ih =>
    refine .iptr h1 (ih1 ?_) (fun j c hc => he.m _ _ _ (h3 j c hc)) (ih (by simpa [refsL, AV.refs] using hr))
    intro r hr'
    exact absurd hr' (by simp [refsL, refs_of_refless h1])
  | func h1 h2 h3 h ih1 ih2 ih =>
    exact .func h1 (ih1 (fun r h => hr r (by simp [refsL, AV.refs, h]))) (ih2 (fun r h => hr r (by simp [refsL, AV.refs, h]))) (ih (fun r h => hr r (by simp [refsL, h])))
  | iface h1 h ih1 ih => exact .iface (ih1 (fun r h => hr r (by simp [refsL] at h; simp [refsL, AV.refs, h]))) (ih (fun r h => hr r (by simp [refsL, h])))
  | agg h1 hn h ih1 ih => exact .agg (ih1 (fun r h => hr r (by simp [refsL, AV.refs, h]))) hn (ih (fun r h => hr r (by simp [refsL, h])))
  | arr h1 hn h ih1 ih => exact .arr (ih1 (fun r h => hr r (by simp [refsL, AV.refs, h]))) hn (ih (fun r h => hr r (by simp [refsL, h])))
where
  refs_of_refless : ∀ {v : AV}, v.refless = true → v.refs = []
    | .bad, h | .int _ _, h | .bool _, h | .str _, h | .nilp, h | .nils, h | .nilm, h | .nilf, h | .hnd _ _, h | .nili, h | .iptr _, h | .isl _ _, h => by simp [AV.refs]
    | .ptr _, h | .sl _ _ _ _ _, h | .sptr _ _ _ _ _, h | .map _, h | .func _ _ _, h | .tuple _, h => by simp [AV.refless] at h
    | .iface _ v, h => by simp only [AV.refs]; exact refs_of_refless (by simpa [AV.refless] using h)
    | .agg _ ps, h => by simp only [AV.refs]; exact refsL_of_refless (by simpa [AV.refless] using h)
    | .arr _ ps, h => by simp only [AV.refs]; exact refsL_of_refless (by simpa [AV.refless] using h)
  refsL_of_refless : ∀ {vs : List AV}, reflessL vs = true → refsL vs = []
    | [], _ => rfl
    | v :: vs, h => by
      simp only [reflessL, Bool.and_eq_true] at h
      simp [refsL, refs_of_refless h.1, refsL_of_refless h.2]

theorem Evol.to0 {k : Nat} {E E' : Env} (h : Evol k E E') : Evol0 k E E' := ⟨h.loc, h.m, h.mloc⟩

theorem FR.evol {k : Nat} {E E' : Env} (he : Evol k E E') (hk : k ≤ E'.top) {vs : List AV} {cs : List Value} (h : FR E vs cs) (hr : ∀ r ∈ refsL vs, r < k) : FR E' vs cs := h.evol0 he.to0 hk hr
end Go.X
/-
  How abstract memory stands for the model's world; stores, new blocks, blocks given up.
-/
namespace Go.X
open Go.RowKit (Below)

def Loc.has (L : Loc) (b o : Nat) : Prop := L.b = b ∧ L.base ≤ o ∧ o < L.base + L.ext

/-- Is a cell in a live block's room? -/
def InE (E : Env) (b o : Nat) : Prop := ∃ i L, E.loc i = some L ∧ L.has b o

structure BlkAt (E : Env) (bk : Blk) (L : Loc) (w : World) : Prop where
  cs : ∃ cs, FR E [bk.root] cs ∧ cs.length = L.gen ∧ ∀ j c, cs[j]? = some c → w.cell? ⟨L.b, L.base + j, none⟩ = some c
  fits : L.gen ≤ L.ext
  room : ∀ j, j < L.ext → (w.cell? ⟨L.b, L.base + j, none⟩).isSome = true ∧ w.frozen? ⟨L.b, L.base + j, none⟩ = false

/-- A map's entries, as the model's. -/
def entsAV : List AV → Option (List (Value × Value))
  | [] => some []
  | .tuple [k, v] :: r => match k.scalar, v.scalar with
    | some a, some b => (entsAV r).map fun l => (a, b) :: l
    | _, _ => none
  | _ :: _ => none

def MapAt (w : World) (b : Nat) (es : List AV) : Prop := ∃ (vs : Array MapEntry) (clock : Nat), w.heap[b]? = some (.map vs clock) ∧ entsAV es = some (vs.toList.map fun e => (e.key, e.val))

def notCells : Obj → Bool
  | .cells .. => false
  | _ => true

structure Sim (B : Nat) (E : Env) (H : Heap) (w : World) : Prop where
  top : E.top = H.length
  live : ∀ i bk, H.blk i = some bk → ∃ L, E.loc i = some L ∧ BlkAt E bk L w ∧ B ≤ L.b
  dead : ∀ i L, E.loc i = some L → ∃ bk, H.blk i = some bk
  apart : ∀ i j Li Lj, E.loc i = some Li → E.loc j = some Lj → i ≠ j → ∀ b o, Li.has b o → ¬ Lj.has b o
  imm : ∀ b o c, E.m b o = some c → w.cell? ⟨b, o, none⟩ = some c
  immApart : ∀ b o c, E.m b o = some c → ¬ InE E b o
  flat : ∀ i bk, H.blk i = some bk → bk.flat = true → bk.root.refs = []
  old : B ≤ w.heap.size
  mlive : ∀ i es, H.mp i = some es → ∃ b, E.mloc i = some b ∧ MapAt w b es ∧ B ≤ b
  mdead : ∀ i b, E.mloc i = some b → ∃ es, H.mp i = some es
  mapart : ∀ i j b, E.mloc i = some b → E.mloc j = some b → i = j

/-- Below, and whatever is no cells lies as it lay. -/
structure Bel (B : Nat) (w w' : World) : Prop extends Below B w w' where
  objs : ∀ (j : Nat) (o : Obj), w.heap[j]? = some o → notCells o = true → w'.heap[j]? = some o

theorem Bel.refl (B : Nat) (w : World) : Bel B w w := ⟨Below.refl _ _, fun _ _ h _ => h⟩
theorem Bel.trans {B : Nat} {a b c : World} (h : Bel B a b) (k : Bel B b c) : Bel B a c := ⟨h.toBelow.trans k.toBelow, fun j o ho hn => k.objs j o (h.objs j o ho hn) hn⟩
theorem Bel.mono {B B' : Nat} {w w' : World} (h : Bel B w w') (hB : B' ≤ B) : Bel B' w w' := ⟨h.toBelow.mono hB, h.objs⟩
theorem Bel.drew {B : Nat} {a w : World} (h : Bel B a w) : Bel B a w.drew := ⟨h.toBelow.drew, h.objs⟩
theorem Bel.alloc {B : Nat} {a w : World} (h : Bel B a w) (hB : B ≤ w.heap.size) (o : Obj) : Bel B a (w.alloc o) := ⟨h.toBelow.alloc hB o, fun j o' ho hn => by
  have h1 := h.objs j o' ho hn
  rw [Below.heap_alloc w o j (by
    rcases Nat.lt_or_ge j w.heap.size with h2 | h2
    · exact h2
    · rw [Array.getElem?_eq_none h2] at h1; cases h1)]
  exact h1⟩
theorem Bel.setCell {B : Nat} {a w : World} (h : Bel B a w) {p : Addr} (hp : B ≤ p.block) (u : Value) : Bel B a (w.setCell p u) := ⟨h.toBelow.setCell hp u, fun j o ho hn => by
  have h1 := h.objs j o ho hn
  by_cases hj : j = p.block
  · subst hj
    unfold World.setCell
    rw [Array.getElem?_modify]
    simp only [if_true, h1, Option.map_some]
    cases o <;> simp [notCells] at hn <;> rfl
  · rw [Below.heap_setCell w p u j hj]
    exact h1⟩

theorem MapAt.keeps {B : Nat} {w w' : World} {b : Nat} {es : List AV} (h : MapAt w b es) (hb : Bel B w w') : MapAt w' b es := by
  obtain ⟨vs, clock, h1, h2⟩ := h
  exact ⟨vs, clock, hb.objs b _ h1 rfl, h2⟩

/-- Is an object a map of ours? -/
def InM (E : Env) (j : Nat) : Prop := ∃ i, E.mloc i = some j

/-- What a piece of a run does to the world, seen from its begin. -/
structure Tr (B k : Nat) (E : Env) (w : World) (E' : Env) (w' : World) : Prop where
  below : Below B w w'
  evol : Evol k E E'
  frame : ∀ b o, b < w.heap.size → ¬ InE E b o → w'.cell? ⟨b, o, none⟩ = w.cell? ⟨b, o, none⟩ ∧ w'.frozen? ⟨b, o, none⟩ = w.frozen? ⟨b, o, none⟩
  ext : ∀ b o, b < w.heap.size → InE E' b o → InE E b o
  imm : ∀ b o c, b < w.heap.size → E'.m b o = some c → E.m b o = some c ∨ InE E b o
  objs : ∀ (j : Nat) (o : Obj), w.heap[j]? = some o → notCells o = true → ¬ InM E j → w'.heap[j]? = some o
  extM : ∀ j, j < w.heap.size → InM E' j → InM E j

theorem Tr.refl (B k : Nat) (E : Env) (w : World) : Tr B k E w E w := ⟨Below.refl _ _, Evol.refl _ _, fun _ _ _ _ => ⟨rfl, rfl⟩, fun _ _ _ h => h, fun _ _ _ _ h => .inl h, fun _ _ h _ _ => h, fun _ _ h => h⟩

theorem Tr.trans {B k : Nat} {E E1 E2 : Env} {w w1 w2 : World} (h : Tr B k E w E1 w1) (g : Tr B k E1 w1 E2 w2) : Tr B k E w E2 w2 := by
  refine ⟨h.below.trans g.below, h.evol.trans g.evol, fun b o hb hn => ?_, fun b o hb hi => ?_, fun b o c hb hi => ?_, fun j o ho hn hm => ?_, fun j hj hm => h.extM j hj (g.extM j (Nat.lt_of_lt_of_le hj h.below.size) hm)⟩
  · have h1 := h.frame b o hb hn
    have h2 := g.frame b o (Nat.lt_of_lt_of_le hb h.below.size) (fun hi => hn (h.ext b o hb hi))
    exact ⟨h2.1.trans h1.1, h2.2.trans h1.2⟩
  · exact h.ext b o hb (g.ext b o (Nat.lt_of_lt_of_le hb h.below.size) hi)
  · rcases g.imm b o c (Nat.lt_of_lt_of_le hb h.below.size) hi with h1 | h1
    · exact h.imm b o c hb h1
    · exact .inr (h.ext b o hb h1)
  · have hlt : j < w.heap.size := by
      rcases Nat.lt_or_ge j w.heap.size with h2 | h2
      · exact h2
      · rw [Array.getElem?_eq_none h2] at ho; cases ho
    exact g.objs j o (h.objs j o ho hn hm) hn (fun hi => hm (h.extM j hlt hi))

theorem Tr.mono {B k k' : Nat} {E E' : Env} {w w' : World} (h : Tr B k E w E' w') (hk : k' ≤ k) : Tr B k' E w E' w' := ⟨h.below, h.evol.mono hk, h.frame, h.ext, h.imm, h.objs, h.extM⟩

theorem Heap.blk_some {H : Heap} {i : Nat} {bk : Blk} (h : H.blk i = some bk) : i < H.length := by
  rcases Nat.lt_or_ge i H.length with h' | h'
  · exact h'
  · simp [Heap.blk, List.getElem?_eq_none h', blkOf] at h

/-- No map. -/
def noMap (x : Option Blk) : Prop := ∀ b, x = some b → b.root.isTup = false

theorem noMap.blkOf {x : Option Blk} (h : noMap x) : blkOf x = x := by
  cases x with
  | none => rfl
  | some b => simp [Go.X.blkOf, h b rfl]

theorem noMap.mpOf {x : Option Blk} (h : noMap x) : mpOf x = none := by
  cases x with
  | none => rfl
  | some b =>
    have := h b rfl
    obtain ⟨r, g, f⟩ := b
    cases r <;> first | rfl | (simp [AV.isTup] at this)

theorem get_set {H : Heap} {i j : Nat} {x : Option Blk} (hi : i < H.length) : ((H.set i x)[j]?).bind id = if i = j then x else (H[j]?).bind id := by
  rw [List.getElem?_set]
  by_cases hij : i = j
  · subst hij
    simp [hi]
  · simp [hij]

theorem get_append {H : Heap} {x : Option Blk} {j : Nat} : ((H ++ [x])[j]?).bind id = if j = H.length then x else (H[j]?).bind id := by
  rw [List.getElem?_append]
  by_cases h1 : j < H.length
  · rw [if_pos h1, if_neg (by omega)]
  · rw [if_neg h1]
    by_cases h2 : j = H.length
    · subst h2
      simp
    · rw [if_neg h2, List.getElem?_eq_none (by simp; omega), List.getElem?_eq_none (by omega)]

theorem blkOf_some {x : Option Blk} {b : Blk} (h : blkOf x = some b) : x = some b := by
  cases x with
  | none => cases h
  | some b' =>
    simp only [blkOf] at h
    split at h
    · cases h
    · exact h

theorem Heap.blk_set' {H : Heap} {i j : Nat} {x : Option Blk} (hi : i < H.length) : Heap.blk (H.set i x) j = if i = j then blkOf x else H.blk j := by
  unfold Heap.blk
  rw [get_set hi]
  by_cases hij : i = j
  · rw [if_pos hij, if_pos hij]
  · rw [if_neg hij, if_neg hij]

theorem Heap.blk_append' {H : Heap} {x : Option Blk} {j : Nat} : Heap.blk (H ++ [x]) j = if j = H.length then blkOf x else H.blk j := by
  unfold Heap.blk
  rw [get_append]
  by_cases hij : j = H.length
  · rw [if_pos hij, if_pos hij]
  · rw [if_neg hij, if_neg hij]

theorem Heap.blk_set {H : Heap} {i j : Nat} {x : Option Blk} (hi : i < H.length) (hx : noMap x) : Heap.blk (H.set i x) j = if i = j then x else H.blk j := by
  unfold Heap.blk
  rw [get_set hi]
  by_cases hij : i = j
  · rw [if_pos hij, if_pos hij, hx.blkOf]
  · rw [if_neg hij, if_neg hij]

theorem Heap.mp_set {H : Heap} {i j : Nat} {x : Option Blk} (hi : i < H.length) (hx : noMap x) : Heap.mp (H.set i x) j = if i = j then none else H.mp j := by
  unfold Heap.mp
  rw [get_set hi]
  by_cases hij : i = j
  · rw [if_pos hij, if_pos hij, hx.mpOf]
  · rw [if_neg hij, if_neg hij]

theorem Heap.mp_blk {H : Heap} {i : Nat} {b : Blk} (h : H.blk i = some b) : H.mp i = none := by
  unfold Heap.blk at h
  unfold Heap.mp
  cases hx : (H[i]?).bind id with
  | none => rfl
  | some b' =>
    rw [hx] at h
    obtain ⟨r, g, f⟩ := b'
    cases r <;> first | rfl | (simp [blkOf, AV.isTup] at h)

theorem noMap_none : noMap none := fun _ h => by cases h
theorem FR.noMap {E : Env} {r : AV} {cs : List Value} {g fl : Bool} (h : FR E [r] cs) : noMap (some ⟨r, g, fl⟩) := fun b hb => by
  obtain rfl := Option.some.inj hb
  cases h <;> rfl

theorem Heap.blk_append {H : Heap} {x : Option Blk} {j : Nat} (hx : Go.X.noMap x) : Heap.blk (H ++ [x]) j = if j = H.length then x else H.blk j := by
  unfold Heap.blk
  rw [get_append]
  by_cases hij : j = H.length
  · rw [if_pos hij, if_pos hij, hx.blkOf]
  · rw [if_neg hij, if_neg hij]

theorem Heap.mp_append {H : Heap} {x : Option Blk} {j : Nat} (hx : Go.X.noMap x) : Heap.mp (H ++ [x]) j = H.mp j := by
  unfold Heap.mp
  rw [get_append]
  by_cases hij : j = H.length
  · rw [if_pos hij, hx.mpOf, List.getElem?_eq_none (by omega)]
    rfl
  · rw [if_neg hij]

/-- All references of a value are below. -/
theorem FR.refs_lt {E : Env} {vs : List AV} {cs : List Value} (h : FR E vs cs) : ∀ r ∈ refsL vs, r < E.top := by
  induction h with
  | nil => simp [refsL]
  | ptr h1 h2 h ih => intro r hr; simp [refsL, AV.refs] at hr; exact hr.elim (fun e => e ▸ h1) (ih r)
  | sl h1 hl h2 hs h ih => intro r hr; simp [refsL, AV.refs] at hr; exact hr.elim (fun e => e ▸ h1) (ih r)
  | map h1 h2 h ih => intro r hr; simp [refsL, AV.refs] at hr; exact hr.elim (fun e => e ▸ h1) (ih r)
  | sptr h1 h2 h ih => intro r hr; simp [refsL, AV.refs] at hr; exact hr.elim (fun e => e ▸ h1) (ih r)
  | func h1 h2 h3 h ih1 ih2 ih => intro r hr; simp [refsL, AV.refs] at hr; exact hr.elim (ih1 r) (fun hr => hr.elim (ih2 r) (ih r))
  | iface h1 h ih1 ih => intro r hr; simp [refsL, AV.refs] at hr ih1; exact hr.elim (ih1 r) (ih r)
  | agg h1 hn h ih1 ih => intro r hr; simp [refsL, AV.refs] at hr; exact hr.elim (ih1 r) (ih r)
  | arr h1 hn h ih1 ih => intro r hr; simp [refsL, AV.refs] at hr; exact hr.elim (ih1 r) (ih r)
  | _ => simpa [refsL, AV.refs]

theorem FR.later {E E' : Env} (he : Evol E.top E E') (hk : E.top ≤ E'.top) {vs : List AV} {cs : List Value} (h : FR E vs cs) : FR E' vs cs := h.evol he hk h.refs_lt

theorem PR.later {E E' : Env} (he : Evol E.top E E') (hk : E.top ≤ E'.top) {v : AV} {c : Value} (h : PR E v c) : PR E' v c := by
  obtain ⟨cs, h1, h2⟩ := h
  exact ⟨cs, h1.later he hk, h2⟩

theorem VR.of_PR {E : Env} {v : AV} {c : Value} (h : PR E v c) : VR E v c := by
  cases v with
  | bad => trivial
  | undf => obtain ⟨cs, h1, _⟩ := h; cases h1
  | yld => obtain ⟨cs, h1, _⟩ := h; cases h1
  | tuple vs => obtain ⟨cs, h1, _⟩ := h; cases h1
  | _ => exact h

theorem VR.toPR {E : Env} {v : AV} {c : Value} (h : VR E v c) (hp : v.plain = true) : PR E v c := by
  cases v with
  | bad => simp [AV.plain] at hp
  | undf => simp [AV.plain] at hp
  | yld => simp [AV.plain] at hp
  | tuple vs => simp [AV.plain] at hp
  | _ => exact h

theorem PR.plain {E : Env} {v : AV} {c : Value} (h : PR E v c) : v.plain = true := by
  obtain ⟨cs, h1, _⟩ := h
  cases h1 <;> rfl

theorem VR.later {E E' : Env} (he : Evol E.top E E') (hk : E.top ≤ E'.top) {v : AV} {c : Value} (h : VR E v c) : VR E' v c := by
  cases v with
  | bad => trivial
  | undf => exact h
  | yld => exact (show c = _ from h).trans (by rw [he.yl])
  | tuple vs =>
    obtain ⟨cvs, h1, h2, h3⟩ := h
    exact ⟨cvs, h1, h2, fun i v c hv hc => (h3 i v c hv hc).imp id (PR.later he hk)⟩
  | _ => exact PR.later he hk (show PR E _ c from h)

/-- The cells of a value that may lie in memory. -/
theorem PR.cells {E : Env} {v : AV} {c : Value} (h : PR E v c) : FR E [v] c.cells.toList := by
  obtain ⟨cs, h1, rfl⟩ := h
  unfold pack
  split
  · simpa [Value.cells] using h1
  · have hl := h1.length
    cases v <;> simp_all [AV.isAgg, sumLen, AV.flatLen]
    all_goals (obtain ⟨x, rfl⟩ := List.length_eq_one_iff.1 hl; have h2 := h1; cases h1 <;> simpa [Value.cells] using h2)

theorem PR.of_cells {E : Env} {v : AV} {cs : List Value} (h : FR E [v] cs) : PR E v (pack v cs) := ⟨cs, h, rfl⟩

/-- A cell of a value is no aggregate. -/
theorem FR.oneCell {E : Env} {vs : List AV} {cs : List Value} (h : FR E vs cs) : ∀ c ∈ cs, c.oneCell' = true := by
  induction h with
  | nil => simp
  | iface h1 h ih1 ih => intro c hc; exact (List.mem_cons.1 hc).elim (fun e => e ▸ rfl) (ih c)
  | agg h1 hn h ih1 ih => intro c hc; exact (List.mem_append.1 hc).elim (ih1 c) (ih c)
  | arr h1 hn h ih1 ih => intro c hc; exact (List.mem_append.1 hc).elim (ih1 c) (ih c)
  | _ => rename_i ih; intro c hc; exact (List.mem_cons.1 hc).elim (fun e => e ▸ rfl) (ih c)

end Go.X
/-
  Loads, stores, new blocks: what the evaluator tells is what the model does.
-/
namespace Go.X
open Go.RowKit (Below)

section
variable {P : Program} {B : Nat} {E : Env} {H : Heap} {w : World}

theorem run_sizeOf' {t : TypeId} {n : Nat} (h : tsize P t = some n) (w : World) : (sizeOf t).run P w = .ok n w := by
  unfold tsize at h
  cases hi : P.info? t with
  | none => simp [hi] at h
  | some i =>
    have : i.size = n := by simpa [hi] using h
    simp [sizeOf, typeInfo, hi, this]

theorem run_isAgg' {t : TypeId} {b : Bool} (h : tagg P t = some b) (w : World) : (isAgg t).run P w = .ok b w := by
  unfold tagg at h
  cases hi : P.underlying t with
  | none => simp [hi] at h
  | some d =>
    simp only [hi, Option.map_some, Option.some.injEq] at h
    simp only [isAgg, Sem.run_bind, run_underlying hi, Result.andThen_ok]
    rw [← h]
    cases d <;> rfl

theorem Addr.add_mk (b o j : Nat) : (⟨b, o, none⟩ : Addr).add j = ⟨b, o + j, none⟩ := by unfold Addr.add; split <;> simp_all

theorem run_loadCells' {b o n : Nat} {cs : List Value} (hl : cs.length = n) (h : ∀ j c, cs[j]? = some c → w.cell? ⟨b, o + j, none⟩ = some c) :
    (loadCells ⟨b, o, none⟩ n).run P w = .ok cs.toArray w := by
  subst hl
  exact run_loadCells_list (P := P) w ⟨b, o, none⟩ cs (fun j c hc => by rw [Addr.add_mk]; exact h j c hc)

theorem FR.one_leaf {v : AV} {cs : List Value} (h : FR E [v] cs) (hv : v.isAgg = false) : ∃ c, cs = [c] ∧ pack v cs = c := by
  have hl := h.length
  have hf : v.flatLen = 1 := by cases v <;> first | rfl | simp [AV.isAgg] at hv
  simp only [sumLen, hf] at hl
  obtain ⟨c, rfl⟩ := List.length_eq_one_iff.1 hl
  exact ⟨c, rfl, by simp [pack, hv]⟩

/-- Cells that are a value's, loaded at its type. -/
theorem run_loadVar' {t : TypeId} {v : AV} {b o : Nat} {cs : List Value} (hf : FR E [v] cs) (ha : tagg P t = some v.isAgg) (hz : tsize P t = some v.flatLen)
    (h : ∀ j c, cs[j]? = some c → w.cell? ⟨b, o + j, none⟩ = some c) : (loadVar t ⟨b, o, none⟩).run P w = .ok (pack v cs) w := by
  have hl : cs.length = v.flatLen := by rw [hf.length]; simp [sumLen]
  cases hv : v.isAgg with
  | true =>
    rw [hv] at ha
    simp only [loadVar, Sem.run_bind, run_isAgg' ha, Result.andThen_ok, if_true, run_sizeOf' hz, run_loadCells' hl h]
    simp [pack, hv]
  | false =>
    rw [hv] at ha
    obtain ⟨c, rfl, hp⟩ := hf.one_leaf hv
    have hc := h 0 c rfl
    simp only [Nat.add_zero] at hc
    simp [loadVar, Sem.run_bind, run_isAgg' ha, hc, hp]

/-- Where a live reference leads. -/
theorem Sim.at (hs : Sim B E H w) {p : Pl} {bk : Blk} (hb : H.blk p.id = some bk) (hg : bk.root.flatLen = p.gen) :
    ∃ L, E.loc p.id = some L ∧ BlkAt E bk L w ∧ B ≤ L.b ∧ p.gen = L.gen := by
  obtain ⟨L, h1, h2, h3⟩ := hs.live _ _ hb
  obtain ⟨cs, hf, hl, _⟩ := h2.cs
  refine ⟨L, h1, h2, h3, ?_⟩
  rw [← hg, ← hl, hf.length]
  simp [sumLen]

theorem PR.ptr_inv {p : Pl} {c : Value} (h : PR E (.ptr p) c) : ∃ a, c = .pointer (some a) ∧ p.id < E.top ∧
    ∀ L, E.loc p.id = some L → p.gen < L.gen ∨ (p.gen = L.gen ∧ a = ⟨L.b, L.base + p.coff, none⟩) := by
  obtain ⟨cs, h1, rfl⟩ := h
  cases h1 with
  | ptr h2 h3 h4 => exact ⟨_, rfl, h2, h3⟩

theorem PR.sl_inv {p : Pl} {e n off len : Nat} {c : Value} (h : PR E (.sl p e n off len) c) : ∃ a cap, c = .slice (some a) len cap ∧ p.id < E.top ∧ len ≤ cap ∧
    ∀ L, E.loc p.id = some L → p.gen < L.gen ∨ (p.gen = L.gen ∧ n ≤ off + cap ∧ p.coff + (off + cap) * e ≤ L.ext ∧ (cap = 0 ∨ a = ⟨L.b, L.base + p.coff + off * e, none⟩)) := by
  obtain ⟨cs, h1, rfl⟩ := h
  cases h1 with
  | sl h2 h3 h4 hs h5 => exact ⟨_, _, rfl, h2, h3, h4⟩

theorem PR.sl_spot {p : Pl} {e n off len len' cap : Nat} {a : Addr} (h : PR E (.sl p e n off len) (.slice (some a) len' cap)) : a.spot = none := by
  obtain ⟨cs, h1, h2⟩ := h
  cases h1 with
  | sl h3 h4 h5 hs h6 =>
    simp only [pack, AV.isAgg, List.headD_cons, Bool.false_eq_true, if_false, Value.slice.injEq, Option.some.injEq] at h2
    rw [h2.1]
    exact hs

theorem Addr.add_spot {a : Addr} (h : a.spot = none) (n : Nat) : (a.add n).spot = none := by
  unfold Addr.add
  split <;> simp_all

theorem PR.iptr_inv {v : AV} {c : Value} (h : PR E (.iptr v) c) : ∃ b o c1, c = .pointer (some ⟨b, o, none⟩) ∧ v.refless = true ∧ FR E [v] c1 ∧ ∀ j c, c1[j]? = some c → E.m b (o + j) = some c := by
  obtain ⟨cs, h1, rfl⟩ := h
  cases h1 with
  | iptr h2 h3 h4 h5 => exact ⟨_, _, _, rfl, h2, h3, h4⟩

theorem PR.isl_inv {e : Nat} {xs : List AV} {c : Value} (h : PR E (.isl e xs) c) : ∃ b o sp c1 cap, c = .slice (some ⟨b, o, sp⟩) xs.length cap ∧ (sp = none ∨ xs = []) ∧ reflessL xs = true ∧ FR E xs c1 ∧ (∀ x ∈ xs, x.flatLen = e) ∧ xs.length ≤ cap ∧
    ∀ j c, c1[j]? = some c → E.m b (o + j) = some c := by
  obtain ⟨cs, h1, rfl⟩ := h
  cases h1 with
  | isl h2 h3 h4 h5 h6 h7 h8 => exact ⟨_, _, _, _, _, rfl, h7, h2, h3, h4, h5, h6⟩

theorem load_ok (hs : Sim B E H w) {t : TypeId} {a v : AV} {ca : Value} (ha : VR E a ca) (h : loadAV P H t a = some v) :
    ∃ c, (Instr.loadAt t ca).run P w = .ok c w ∧ PR E v c ∧ v.refs ⊆ a.refs.flatMap (fun i => match H.blk i with | some b => b.root.refs | none => []) := by
  cases a with
  | ptr p =>
    simp only [loadAV, Option.bind_eq_some_iff] at h
    obtain ⟨bk, hb, ⟨o, u⟩, hat, h⟩ := h
    split at h
    · rename_i hc
      obtain ⟨hg, ho, hta, htz⟩ := hc
      obtain rfl : u = v := by simpa using h
      obtain ⟨ad, rfl, _, had⟩ := PR.ptr_inv (show PR E (.ptr p) ca from ha)
      obtain ⟨L, hL, hB, _, hgen⟩ := hs.at hb hg
      obtain ⟨cs, hf, hlen, hcells⟩ := hB.cs
      have had' : ad = ⟨L.b, L.base + p.coff, none⟩ := by
        rcases had L hL with h | h
        · omega
        · exact h.2
      subst had'
      obtain ⟨pre, mid, post, rfl, hpre, hm⟩ := at_spec p.path _ _ _ _ hf hat
      refine ⟨pack u mid, ?_, .of_cells hm, ?_⟩
      · have := run_loadVar' (P := P) (w := w) (b := L.b) (o := L.base + p.coff) hm hta htz (fun j c hc => by
          have := hcells (p.coff + j) c (by
            simp only at ho
            rw [List.append_assoc, List.getElem?_append_right (by omega), show p.coff + j - pre.length = j by omega, List.getElem?_append_left (by
              rcases Nat.lt_or_ge j mid.length with h | h
              · exact h
              · simp [List.getElem?_eq_none h] at hc)]
            exact hc)
          rwa [Nat.add_assoc])
        simpa [Instr.loadAt, Instr.sureAddr] using this
      · simp only [AV.refs, List.flatMap_cons, hb, List.flatMap_nil, List.append_nil]
        exact at_refs p.path _ _ _ hat
    · simp at h
  | sptr p esz n off len =>
    simp only [loadAV, Option.bind_eq_some_iff] at h
    obtain ⟨bk, hb, ⟨o, u⟩, hat, h⟩ := h
    split at h
    · rename_i e' xs hu
      simp only at hu
      subst hu
      split at h
      · rename_i hc
        obtain ⟨hg, ho, rfl, hxn, hle, hta, htz⟩ := hc
        simp only at ho
        obtain rfl := Option.some.inj h
        obtain ⟨ad, rfl, had⟩ : ∃ ad, ca = .pointer (some ad) ∧ (∀ L, E.loc p.id = some L → p.gen < L.gen ∨ (p.gen = L.gen ∧ ad = ⟨L.b, L.base + p.coff + off * esz, none⟩)) := by
          obtain ⟨cs, h1, rfl⟩ := (show PR E (.sptr p esz n off len) ca from ha)
          cases h1 with
          | sptr h2 h3 h4 => exact ⟨_, rfl, h3⟩
        obtain ⟨L, hL, hB, _, hgen⟩ := hs.at hb hg
        obtain ⟨cs, hf, hlen, hcells⟩ := hB.cs
        have had' : ad = ⟨L.b, L.base + p.coff + off * esz, none⟩ := by
          rcases had L hL with h | h
          · omega
          · exact h.2
        subst had'
        obtain ⟨pre, mid, post, rfl, hpre, hm⟩ := at_spec p.path _ _ _ _ hf hat
        obtain ⟨hxs, hex⟩ := hm.arr_inv
        have hsplit : xs = xs.take off ++ ((xs.drop off).take len ++ (xs.drop off).drop len) := by rw [List.take_append_drop, List.take_append_drop]
        rw [hsplit] at hxs
        obtain ⟨m1, m4, rfl, q1, q4⟩ := hxs.append_inv
        obtain ⟨m2, m3, rfl, q2, q3⟩ := q4.append_inv
        have hm1 : m1.length = off * esz := by
          rw [q1.length, sumLen_same (fun x hx => hex x (List.mem_of_mem_take hx)), List.length_take, Nat.min_eq_left (by omega), Nat.mul_comm]
        have hlsub : ((xs.drop off).take len).length = len := by simp; omega
        have hfa : FR E [.arr esz ((xs.drop off).take len)] m2 := by
          have := FR.arr (e := esz) (vs := []) (cs := []) q2 (fun y hy => hex y (List.mem_of_mem_drop (List.mem_of_mem_take hy))) .nil
          simpa using this
        refine ⟨pack (.arr esz ((xs.drop off).take len)) m2, ?_, .of_cells hfa, ?_⟩
        · have := run_loadVar' (P := P) (w := w) (b := L.b) (o := L.base + p.coff + off * esz) hfa hta (by rw [htz]; simp [AV.flatLen, hlsub]) (fun j c hc => by
            have hj : j < m2.length := by
              rcases Nat.lt_or_ge j m2.length with h | h
              · exact h
              · simp [List.getElem?_eq_none h] at hc
            have := hcells (p.coff + off * esz + j) c (by
              rw [List.append_assoc, List.getElem?_append_right (by omega), List.append_assoc, List.getElem?_append_right (by omega), List.append_assoc, List.getElem?_append_left (by omega),
                show p.coff + off * esz + j - pre.length - m1.length = j by omega]
              exact hc)
            rw [show L.base + p.coff + off * esz + j = L.base + (p.coff + off * esz + j) by omega]
            exact this)
          simpa [Instr.loadAt, Instr.sureAddr] using this
        · simp only [AV.refs, List.flatMap_cons, hb, List.flatMap_nil, List.append_nil]
          intro r hr
          refine at_refs p.path _ _ _ hat ?_
          simp only [AV.refs]
          have : ∀ (l : List AV) (s : List AV), (∀ x ∈ s, x ∈ l) → ∀ r ∈ refsL s, r ∈ refsL l := by
            intro l s hsub r hr
            induction s with
            | nil => simp [refsL] at hr
            | cons y s ih =>
              simp only [refsL, List.mem_append] at hr
              rcases hr with hr | hr
              · have hy := hsub y (List.mem_cons_self)
                clear ih hsub
                induction l with
                | nil => simp at hy
                | cons z l ihl =>
                  simp only [refsL, List.mem_append]
                  rcases List.mem_cons.1 hy with rfl | hy
                  · exact .inl hr
                  · exact .inr (ihl hy)
              · exact ih (fun x hx => hsub x (List.mem_cons_of_mem _ hx)) hr
          exact this _ _ (fun x hx => List.mem_of_mem_drop (List.mem_of_mem_take hx)) r hr
      · simp at h
    · simp at h
  | iptr u =>
    simp only [loadAV] at h
    split at h
    · rename_i hc
      obtain rfl : u = v := by simpa using h
      obtain ⟨b, o, c1, rfl, hr, hf, hm⟩ := PR.iptr_inv (show PR E (.iptr u) ca from ha)
      refine ⟨pack u c1, ?_, .of_cells hf, ?_⟩
      · have := run_loadVar' (P := P) (w := w) (b := b) (o := o) hf hc.1 hc.2 (fun j c hcj => hs.imm _ _ _ (hm j c hcj))
        simpa [Instr.loadAt, Instr.sureAddr] using this
      · rw [FR.evol0.refs_of_refless hr]; exact List.nil_subset _
    · simp at h
  | _ => simp [loadAV] at h
where
  at_refs : ∀ (path : List Nat) (v : AV) (o : Nat) (u : AV), v.at? path = some (o, u) → u.refs ⊆ v.refs
    | [], v, o, u, h => by
      have : (0, v) = (o, u) := by cases v <;> simpa [AV.at?] using h
      obtain ⟨_, rfl⟩ := by simpa using this
      exact fun _ h => h
    | i :: r, v, o, u, h => by
      cases v with
      | agg n ps =>
        simp only [AV.at?, Option.bind_eq_some_iff, Option.map_eq_some_iff, Prod.exists, Prod.mk.injEq] at h
        obtain ⟨p, hp, o', u', hr, _, rfl⟩ := h
        exact fun x hx => by
          simp only [AV.refs]
          exact refsL_of_mem (List.mem_of_getElem? hp) (at_refs r p _ _ hr hx)
      | arr n ps =>
        simp only [AV.at?, Option.bind_eq_some_iff, Option.map_eq_some_iff, Prod.exists, Prod.mk.injEq] at h
        obtain ⟨p, hp, o', u', hr, _, rfl⟩ := h
        exact fun x hx => by
          simp only [AV.refs]
          exact refsL_of_mem (List.mem_of_getElem? hp) (at_refs r p _ _ hr hx)
      | _ => simp [AV.at?] at h
  refsL_of_mem : ∀ {vs : List AV} {v : AV} {x : Nat}, v ∈ vs → x ∈ v.refs → x ∈ refsL vs
    | v :: vs, _, x, .head _, hx => by simp [refsL, hx]
    | v :: vs, u, x, .tail _ h, hx => by simp [refsL, refsL_of_mem h hx]

end
end Go.X
/-
  What keeps the abstract memory true of the world: a block written, a new block, a block that grew, blocks given up.
-/
namespace Go.X
open Go.RowKit (Below)

section
variable {P : Program} {B : Nat} {E E' : Env} {H : Heap} {w w' : World}

theorem BlkAt.later {bk : Blk} {L : Loc} {k : Nat} (h : BlkAt E bk L w) (he : Evol k E E') (hk : k ≤ E'.top) (hr : ∀ r ∈ bk.root.refs, r < k)
    (hc : ∀ j, j < L.ext → w'.cell? ⟨L.b, L.base + j, none⟩ = w.cell? ⟨L.b, L.base + j, none⟩ ∧ w'.frozen? ⟨L.b, L.base + j, none⟩ = w.frozen? ⟨L.b, L.base + j, none⟩) : BlkAt E' bk L w' := by
  obtain ⟨⟨cs, h1, h2, h3⟩, h4, h5⟩ := h
  refine ⟨⟨cs, h1.evol he hk (by simpa [refsL] using hr), h2, fun j c hj => ?_⟩, h4, fun j hj => ?_⟩
  · have hlt : j < cs.length := by
      rcases Nat.lt_or_ge j cs.length with h | h
      · exact h
      · simp [List.getElem?_eq_none h] at hj
    rw [(hc j (by omega)).1]
    exact h3 j c hj
  · rw [(hc j hj).1, (hc j hj).2]
    exact h5 j hj

theorem BlkAt.refs_lt {bk : Blk} {L : Loc} (h : BlkAt E bk L w) : ∀ r ∈ bk.root.refs, r < E.top := by
  obtain ⟨⟨cs, h1, _⟩, _⟩ := h
  have := h1.refs_lt
  simpa [refsL] using this

theorem Sim.lt (hs : Sim B E H w) {i : Nat} {L : Loc} (h : E.loc i = some L) : i < H.length := by
  obtain ⟨bk, hb⟩ := hs.dead i L h
  exact Heap.blk_some hb

theorem Sim.loc_lt (hs : Sim B E H w) {i : Nat} {L : Loc} (h : E.loc i = some L) {j : Nat} (hj : j < L.ext) : L.b < w.heap.size := by
  obtain ⟨bk, hb⟩ := hs.dead i L h
  obtain ⟨L', h1, h2, _⟩ := hs.live i bk hb
  obtain rfl : L = L' := by rw [h] at h1; exact Option.some.inj h1
  have := (h2.room j hj).1
  obtain ⟨c, hc⟩ := Option.isSome_iff_exists.1 this
  exact World.block_lt_of_cell? w _ hc

/-- A block is written, and nothing else. -/
theorem Sim.write (hs : Sim B E H w) {i : Nat} {bk : Blk} {L : Loc} {r : AV} {g fl : Bool} {cs' : List Value} (hb : H.blk i = some bk) (hL : E.loc i = some L)
    (hf : FR E [r] cs') (hlen : cs'.length = L.gen) (hfl : fl = true → r.refs = [])
    (hcell : ∀ j c, cs'[j]? = some c → w'.cell? ⟨L.b, L.base + j, none⟩ = some c)
    (hroom : ∀ j, j < L.ext → (w'.cell? ⟨L.b, L.base + j, none⟩).isSome = true)
    (hout : ∀ b o, ¬ L.has b o → w'.cell? ⟨b, o, none⟩ = w.cell? ⟨b, o, none⟩) (hfrz : ∀ b o, w'.frozen? ⟨b, o, none⟩ = w.frozen? ⟨b, o, none⟩) (hbel : Bel B w w') :
    Sim B E (H.set i (some ⟨r, g, fl⟩)) w' ∧ ∀ k, Tr B k E w E w' := by
  have hi := Heap.blk_some hb
  refine ⟨⟨by simp [hs.top], fun j bk' hj => ?_, fun j L' hj => ?_, hs.apart, fun b o c hc => ?_, hs.immApart, fun j bk' hj hfl' => ?_, Nat.le_trans hs.old hbel.size, fun j es hj => ?_, fun j b hj => ?_, hs.mapart⟩, fun k => ⟨hbel.toBelow, Evol.refl _ _, fun b o _ hn => ?_, fun _ _ _ h => h, fun _ _ _ _ h => .inl h, fun j o ho hn _ => hbel.objs j o ho hn, fun _ _ h => h⟩⟩
  · rw [Heap.blk_set hi hf.noMap] at hj
    split at hj
    · rename_i hij
      subst hij
      obtain rfl := Option.some.inj hj
      obtain ⟨L', h1, h2, h3⟩ := hs.live _ _ hb
      obtain rfl : L = L' := by rw [hL] at h1; exact Option.some.inj h1
      exact ⟨L, hL, ⟨⟨cs', hf, hlen, hcell⟩, h2.fits, fun j hj => ⟨hroom j hj, by rw [hfrz]; exact (h2.room j hj).2⟩⟩, h3⟩
    · rename_i hij
      obtain ⟨L', h1, h2, h3⟩ := hs.live _ _ hj
      refine ⟨L', h1, h2.later (k := E.top) (Evol.refl _ _) (Nat.le_refl _) h2.refs_lt (fun q hq => ⟨hout _ _ (fun hh => ?_), hfrz _ _⟩), h3⟩
      exact hs.apart i j L L' hL h1 hij _ _ hh ⟨rfl, by omega, by omega⟩
  · rw [Heap.blk_set hi hf.noMap]
    split
    · exact ⟨_, rfl⟩
    · exact hs.dead j L' hj
  · rw [hout b o (fun hh => hs.immApart b o c hc ⟨i, L, hL, hh⟩)]
    exact hs.imm b o c hc
  · rw [Heap.blk_set hi hf.noMap] at hj
    split at hj
    · obtain rfl := Option.some.inj hj
      exact hfl hfl'
    · exact hs.flat _ _ hj hfl'
  · rw [Heap.mp_set hi hf.noMap] at hj
    split at hj
    · cases hj
    · obtain ⟨b, h1, h2, h3⟩ := hs.mlive j es hj
      exact ⟨b, h1, h2.keeps hbel, h3⟩
  · obtain ⟨es, he⟩ := hs.mdead j b hj
    refine ⟨es, ?_⟩
    rw [Heap.mp_set hi hf.noMap, if_neg]
    · exact he
    · intro e
      subst e
      rw [Heap.mp_blk hb] at he
      cases he
  · exact ⟨hout b o (fun hh => hn ⟨i, L, hL, hh⟩), hfrz b o⟩

def Env.new (E : Env) (L : Loc) : Env := ⟨fun i => if i = E.top then some L else E.loc i, E.m, E.top + 1, E.mloc, E.yl⟩

theorem Env.new_evol (L : Loc) : Evol E.top E (E.new L) := by
  refine ⟨fun i hi L' h => ?_, fun _ _ _ h => h, fun _ _ _ h => h, rfl⟩
  simp only [Env.new] at h
  rw [if_neg (by omega)] at h
  exact ⟨L', h, .inl rfl⟩

/-- A new block. -/
theorem Sim.new (hs : Sim B E H w) {L : Loc} {r : AV} {g fl : Bool} {cs : List Value} (hf : FR E [r] cs) (hlen : cs.length = L.gen) (hfits : L.gen ≤ L.ext) (hfl : fl = true → r.refs = [])
    (hnew : w.heap.size ≤ L.b)
    (hcell : ∀ j c, cs[j]? = some c → w'.cell? ⟨L.b, L.base + j, none⟩ = some c)
    (hroom : ∀ j, j < L.ext → (w'.cell? ⟨L.b, L.base + j, none⟩).isSome = true ∧ w'.frozen? ⟨L.b, L.base + j, none⟩ = false)
    (hold : ∀ b o, b < w.heap.size → w'.cell? ⟨b, o, none⟩ = w.cell? ⟨b, o, none⟩ ∧ w'.frozen? ⟨b, o, none⟩ = w.frozen? ⟨b, o, none⟩) (hbel : Bel B w w') :
    Sim B (E.new L) (H ++ [some ⟨r, g, fl⟩]) w' ∧ (∀ k, k ≤ H.length → Tr B k E w (E.new L) w') := by
  have hev : Evol E.top E (E.new L) := Env.new_evol L
  have htop : (E.new L).top = E.top + 1 := rfl
  have hloc : ∀ i, (E.new L).loc i = if i = E.top then some L else E.loc i := fun i => rfl
  have hb0 := hs.old
  refine ⟨⟨by simp [htop, hs.top], fun j bk' hj => ?_, fun j L' hj => ?_, fun i j Li Lj hi hj hij b o => ?_, fun b o c hc => ?_, fun b o c hc hin => ?_, fun j bk' hj hfl' => ?_, Nat.le_trans hs.old hbel.size, fun j es hj => ?_, fun j b hj => ?_, hs.mapart⟩, fun k hk => ⟨hbel.toBelow, hev.mono (by rw [hs.top]; exact hk), fun b o hb _ => hold b o hb, fun b o hb hin => ?_, fun _ _ _ _ h => .inl h, fun j o ho hn _ => hbel.objs j o ho hn, fun _ _ h => h⟩⟩
  · rw [Heap.blk_append hf.noMap] at hj
    split at hj
    · rename_i hij
      obtain rfl := Option.some.inj hj
      refine ⟨L, by rw [hloc, if_pos (by rw [hs.top]; exact hij)], ⟨⟨cs, hf.later hev (by omega), hlen, hcell⟩, hfits, hroom⟩, by omega⟩
    · rename_i hij
      obtain ⟨L', h1, h2, h3⟩ := hs.live _ _ hj
      refine ⟨L', by rw [hloc, if_neg (by rw [hs.top]; exact hij)]; exact h1, h2.later (k := E.top) hev (by omega) h2.refs_lt (fun q hq => hold _ _ (hs.loc_lt h1 hq)), h3⟩
  · rw [Heap.blk_append hf.noMap]
    rw [hloc] at hj
    split
    · exact ⟨_, rfl⟩
    · rename_i hij
      rw [if_neg (by rw [hs.top]; exact hij)] at hj
      exact hs.dead j L' hj
  · rw [hloc] at hi hj
    intro hLi hLj
    split at hi <;> split at hj
    · omega
    · obtain rfl := Option.some.inj hi
      have := hs.loc_lt hj (j := o - Lj.base) (by have := hLj; unfold Loc.has at this; omega)
      have h1 := hLi.1
      have h2 := hLj.1
      omega
    · obtain rfl := Option.some.inj hj
      have := hs.loc_lt hi (j := o - Li.base) (by have := hLi; unfold Loc.has at this; omega)
      have h1 := hLi.1
      have h2 := hLj.1
      omega
    · exact hs.apart i j Li Lj hi hj hij b o hLi hLj
  · have h1 := hs.imm b o c hc
    rw [(hold b o (World.block_lt_of_cell? w _ h1)).1]
    exact h1
  · obtain ⟨i, Li, hi, hh⟩ := hin
    rw [hloc] at hi
    split at hi
    · obtain rfl := Option.some.inj hi
      have h1 := World.block_lt_of_cell? w _ (hs.imm b o c hc)
      have h2 := hh.1
      simp only at h1
      omega
    · exact hs.immApart b o c hc ⟨i, Li, hi, hh⟩
  · rw [Heap.blk_append hf.noMap] at hj
    split at hj
    · obtain rfl := Option.some.inj hj
      exact hfl hfl'
    · exact hs.flat _ _ hj hfl'
  · rw [Heap.mp_append hf.noMap] at hj
    obtain ⟨b, h1, h2, h3⟩ := hs.mlive j es hj
    exact ⟨b, h1, h2.keeps hbel, h3⟩
  · obtain ⟨es, he⟩ := hs.mdead j b hj
    exact ⟨es, by rw [Heap.mp_append hf.noMap]; exact he⟩
  · obtain ⟨i, Li, hi, hh⟩ := hin
    rw [hloc] at hi
    split at hi
    · obtain rfl := Option.some.inj hi
      have h2 := hh.1
      omega
    · exact ⟨i, Li, hi, hh⟩

/-- A block that was made before is taken up. -/
theorem Sim.adopt (hs : Sim B E H w) {L : Loc} {bk : Blk} {cs : List Value} (hf : FR E [bk.root] cs) (hlen : cs.length = L.gen) (hfits : L.gen ≤ L.ext) (hfl : bk.flat = true → bk.root.refs = []) (hB : B ≤ L.b)
    (hcell : ∀ j c, cs[j]? = some c → w.cell? ⟨L.b, L.base + j, none⟩ = some c)
    (hroom : ∀ j, j < L.ext → (w.cell? ⟨L.b, L.base + j, none⟩).isSome = true ∧ w.frozen? ⟨L.b, L.base + j, none⟩ = false)
    (hout : ∀ b o, L.has b o → ¬ InE E b o ∧ E.m b o = none) : Sim B (E.new L) (H ++ [some bk]) w := by
  have hnm : noMap (some bk) := by obtain ⟨r, g, f⟩ := bk; exact hf.noMap
  have hev : Evol E.top E (E.new L) := Env.new_evol L
  have htop : (E.new L).top = E.top + 1 := rfl
  have hloc : ∀ i, (E.new L).loc i = if i = E.top then some L else E.loc i := fun i => rfl
  refine ⟨by simp [htop, hs.top], fun j bk' hj => ?_, fun j L' hj => ?_, fun i j Li Lj hi hj hij b o => ?_, fun b o c hc => hs.imm b o c hc, fun b o c hc hin => ?_, fun j bk' hj hfl' => ?_, hs.old, fun j es hj => ?_, fun j b hj => ?_, hs.mapart⟩
  · rw [Heap.blk_append hnm] at hj
    split at hj
    · rename_i hij
      obtain rfl := Option.some.inj hj
      exact ⟨L, by rw [hloc, if_pos (by rw [hs.top]; exact hij)], ⟨⟨cs, hf.later hev (by omega), hlen, hcell⟩, hfits, hroom⟩, hB⟩
    · rename_i hij
      obtain ⟨L', h1, h2, h3⟩ := hs.live _ _ hj
      exact ⟨L', by rw [hloc, if_neg (by rw [hs.top]; exact hij)]; exact h1, h2.later (k := E.top) hev (by omega) h2.refs_lt (fun q hq => ⟨rfl, rfl⟩), h3⟩
  · rw [Heap.blk_append hnm]
    rw [hloc] at hj
    split
    · exact ⟨_, rfl⟩
    · rename_i hij
      rw [if_neg (by rw [hs.top]; exact hij)] at hj
      exact hs.dead j L' hj
  · rw [hloc] at hi hj
    intro hLi hLj
    split at hi <;> split at hj
    · omega
    · obtain rfl := Option.some.inj hi
      exact (hout b o hLi).1 ⟨j, Lj, hj, hLj⟩
    · obtain rfl := Option.some.inj hj
      exact (hout b o hLj).1 ⟨i, Li, hi, hLi⟩
    · exact hs.apart i j Li Lj hi hj hij b o hLi hLj
  · obtain ⟨i, Li, hi, hh⟩ := hin
    rw [hloc] at hi
    split at hi
    · obtain rfl := Option.some.inj hi
      have hc' : E.m b o = some c := hc
      rw [(hout b o hh).2] at hc'
      simp at hc'
    · exact hs.immApart b o c hc ⟨i, Li, hi, hh⟩
  · rw [Heap.blk_append hnm] at hj
    split at hj
    · obtain rfl := Option.some.inj hj
      exact hfl hfl'
    · exact hs.flat _ _ hj hfl'
  · rw [Heap.mp_append hnm] at hj
    exact hs.mlive j es hj
  · obtain ⟨es, he⟩ := hs.mdead j b hj
    exact ⟨es, by rw [Heap.mp_append hnm]; exact he⟩

def Env.put (E : Env) (i : Nat) (L : Loc) : Env := ⟨fun j => if j = i then some L else E.loc j, E.m, E.top, E.mloc, E.yl⟩

/-- A block that grew: at its place, or at a new one. -/
theorem Sim.grow (hs : Sim B E H w) {i : Nat} {bk : Blk} {L L' : Loc} {r : AV} {g fl : Bool} {cs' : List Value} (hb : H.blk i = some bk) (hL : E.loc i = some L)
    (hgen : L.gen < L'.gen) (hf : FR E [r] cs') (hlen : cs'.length = L'.gen) (hfits : L'.gen ≤ L'.ext) (hfl : fl = true → r.refs = [])
    (hwhere : (L'.b = L.b ∧ L'.base = L.base ∧ L'.ext = L.ext) ∨ w.heap.size ≤ L'.b)
    (hcell : ∀ j c, cs'[j]? = some c → w'.cell? ⟨L'.b, L'.base + j, none⟩ = some c)
    (hroom : ∀ j, j < L'.ext → (w'.cell? ⟨L'.b, L'.base + j, none⟩).isSome = true ∧ w'.frozen? ⟨L'.b, L'.base + j, none⟩ = false)
    (hold : ∀ b o, b < w.heap.size → ¬ L.has b o → w'.cell? ⟨b, o, none⟩ = w.cell? ⟨b, o, none⟩ ∧ w'.frozen? ⟨b, o, none⟩ = w.frozen? ⟨b, o, none⟩) (hbel : Bel B w w') :
    Sim B (E.put i L') (H.set i (some ⟨r, g, fl⟩)) w' ∧ ∀ k, Tr B k E w (E.put i L') w' := by
  have hi := Heap.blk_some hb
  have hloc : ∀ j, (E.put i L').loc j = if j = i then some L' else E.loc j := fun j => rfl
  have hev : ∀ k, Evol k E (E.put i L') := fun k => by
    refine ⟨fun j _ L1 h => ?_, fun _ _ _ h => h, fun _ _ _ h => h, rfl⟩
    rw [hloc] at h
    split at h
    · rename_i hji
      subst hji
      obtain rfl := Option.some.inj h
      exact ⟨L, hL, .inr hgen⟩
    · exact ⟨L1, h, .inl rfl⟩
  have htop : (E.put i L').top = E.top := rfl
  obtain ⟨L0, hL0, hBk, hBL⟩ := hs.live _ _ hb
  obtain rfl : L = L0 := by rw [hL] at hL0; exact Option.some.inj hL0
  have hBL' : B ≤ L'.b := by
    rcases hwhere with ⟨h, _⟩ | h
    · omega
    · exact Nat.le_trans hs.old h
  have hsub : ∀ b o, b < w.heap.size → L'.has b o → L.has b o := fun b o hbs hh => by
    rcases hwhere with ⟨h1, h2, h3⟩ | h
    · unfold Loc.has at hh ⊢; omega
    · have := hh.1; omega
  have hin : ∀ b o, b < w.heap.size → InE (E.put i L') b o → InE E b o := fun b o hbs ⟨j, Lj, hj, hh⟩ => by
    rw [hloc] at hj
    split at hj
    · obtain rfl := Option.some.inj hj
      exact ⟨i, L, hL, hsub b o hbs hh⟩
    · exact ⟨j, Lj, hj, hh⟩
  refine ⟨⟨by simp [htop, hs.top], fun j bk' hj => ?_, fun j L1 hj => ?_, fun j k Lj Lk hj hk hjk b o => ?_, fun b o c hc => ?_, fun b o c hc hii => ?_, fun j bk' hj hfl' => ?_, Nat.le_trans hs.old hbel.size, fun j es hj => ?_, fun j b hj => ?_, hs.mapart⟩, fun k => ⟨hbel.toBelow, hev k, fun b o hbs hn => hold b o hbs (fun hh => hn ⟨i, L, hL, hh⟩), hin, fun _ _ _ _ h => .inl h, fun j o ho hn _ => hbel.objs j o ho hn, fun _ _ h => h⟩⟩
  · rw [Heap.blk_set hi hf.noMap] at hj
    split at hj
    · rename_i hij
      subst hij
      obtain rfl := Option.some.inj hj
      exact ⟨L', by rw [hloc, if_pos rfl], ⟨⟨cs', hf.later (hev _) (Nat.le_refl _), hlen, hcell⟩, hfits, hroom⟩, hBL'⟩
    · rename_i hij
      obtain ⟨Lj, h1, h2, h3⟩ := hs.live _ _ hj
      refine ⟨Lj, by rw [hloc, if_neg (fun e => hij e.symm)]; exact h1, h2.later (k := E.top) (hev _) (Nat.le_refl _) h2.refs_lt (fun q hq => hold _ _ (hs.loc_lt h1 hq) (fun hh => ?_)), h3⟩
      exact hs.apart i j L Lj hL h1 hij _ _ hh ⟨rfl, by omega, by omega⟩
  · rw [Heap.blk_set hi hf.noMap]
    split
    · exact ⟨_, rfl⟩
    · rename_i hij
      rw [hloc, if_neg (fun e => hij e.symm)] at hj
      exact hs.dead j L1 hj
  · rw [hloc] at hj hk
    intro h1 h2
    split at hj <;> split at hk
    · omega
    · rename_i hji hki
      obtain rfl := Option.some.inj hj
      have hbs := hs.loc_lt hk (j := o - Lk.base) (by have := h2; unfold Loc.has at this; omega)
      rw [h2.1] at hbs
      exact hs.apart i k L Lk hL hk (fun e => hki e.symm) b o (hsub b o hbs h1) h2
    · rename_i hji hki
      obtain rfl := Option.some.inj hk
      have hbs := hs.loc_lt hj (j := o - Lj.base) (by have := h1; unfold Loc.has at this; omega)
      rw [h1.1] at hbs
      exact hs.apart i j L Lj hL hj (fun e => hji e.symm) b o (hsub b o hbs h2) h1
    · exact hs.apart j k Lj Lk hj hk hjk b o h1 h2
  · have h1 := hs.imm b o c hc
    rw [(hold b o (World.block_lt_of_cell? w _ h1) (fun hh => hs.immApart b o c hc ⟨i, L, hL, hh⟩)).1]
    exact h1
  · have h1 := World.block_lt_of_cell? w _ (hs.imm b o c hc)
    exact hs.immApart b o c hc (hin b o h1 hii)
  · rw [Heap.blk_set hi hf.noMap] at hj
    split at hj
    · obtain rfl := Option.some.inj hj
      exact hfl hfl'
    · exact hs.flat _ _ hj hfl'
  · rw [Heap.mp_set hi hf.noMap] at hj
    split at hj
    · cases hj
    · obtain ⟨b, h1, h2, h3⟩ := hs.mlive j es hj
      exact ⟨b, h1, h2.keeps hbel, h3⟩
  · obtain ⟨es, he⟩ := hs.mdead j b hj
    refine ⟨es, ?_⟩
    rw [Heap.mp_set hi hf.noMap, if_neg]
    · exact he
    · intro e
      subst e
      rw [Heap.mp_blk hb] at he
      cases he

/-- Some blocks are given up; what was theirs may be told as never to change. -/
theorem Sim.less (hs : Sim B E H w) {H' : Heap} (htop : E'.top = H'.length) (hle : ∀ i bk, H'.blk i = some bk → H.blk i = some bk ∧ ∀ r ∈ bk.root.refs, r < E'.top)
    (hloc : ∀ i, E'.loc i = if (H'.blk i).isSome then E.loc i else none) (hlem : ∀ i es, H'.mp i = some es → H.mp i = some es) (hmloc : ∀ i, E'.mloc i = if (H'.mp i).isSome then E.mloc i else none) (hm : ∀ b o c, E.m b o = some c → E'.m b o = some c)
    (hm2 : ∀ b o c, E'.m b o = some c → w.cell? ⟨b, o, none⟩ = some c ∧ ¬ InE E' b o) (hm3 : ∀ b o c, E'.m b o = some c → E.m b o = some c ∨ InE E b o) (hyl : E'.yl = E.yl := by rfl) :
    Sim B E' H' w ∧ ∀ k, Tr B k E w E' w := by
  have hev : ∀ k, Evol k E E' := fun k => ⟨fun i _ L h => by
    rw [hloc] at h
    split at h
    · exact ⟨L, h, .inl rfl⟩
    · simp at h, hm, fun i _ b h => by
    rw [hmloc] at h
    split at h
    · exact h
    · exact absurd h (by simp), hyl⟩
  have hinM : ∀ j, InM E' j → InM E j := fun j ⟨i, hi⟩ => by
    rw [hmloc] at hi
    split at hi
    · exact ⟨i, hi⟩
    · cases hi
  have hin : ∀ b o, InE E' b o → InE E b o := fun b o ⟨i, L, hi, hh⟩ => by
    rw [hloc] at hi
    split at hi
    · exact ⟨i, L, hi, hh⟩
    · simp at hi
  refine ⟨⟨htop, fun i bk hi => ?_, fun i L hi => ?_, fun i j Li Lj hi hj hij => ?_, fun b o c hc => (hm2 b o c hc).1, fun b o c hc => (hm2 b o c hc).2, fun i bk hi hf => hs.flat i bk (hle i bk hi).1 hf, hs.old, fun i es hi => ?_, fun i b hi => ?_, fun i j b hi hj => ?_⟩,
    fun k => ⟨Below.refl _ _, hev k, fun _ _ _ _ => ⟨rfl, rfl⟩, fun b o _ h => hin b o h, fun b o c _ h => hm3 b o c h, fun _ _ h _ _ => h, fun j _ h => hinM j h⟩⟩
  · obtain ⟨h1, h2⟩ := hle i bk hi
    obtain ⟨L, h3, h4, h5⟩ := hs.live i bk h1
    exact ⟨L, by rw [hloc, hi]; simpa using h3, h4.later (k := E'.top) (hev _) (Nat.le_refl _) h2 (fun _ _ => ⟨rfl, rfl⟩), h5⟩
  · rw [hloc] at hi
    split at hi
    · rename_i h
      exact Option.isSome_iff_exists.1 h
    · simp at hi
  · rw [hloc] at hi hj
    split at hi <;> split at hj
    · exact hs.apart i j Li Lj hi hj hij
    · simp at hj
    · simp at hi
    · simp at hj
  · obtain ⟨b, h1, h2, h3⟩ := hs.mlive i es (hlem i es hi)
    exact ⟨b, by rw [hmloc, hi]; simpa using h1, h2, h3⟩
  · rw [hmloc] at hi
    split at hi
    · rename_i h
      exact Option.isSome_iff_exists.1 h
    · cases hi
  · rw [hmloc] at hi hj
    split at hi <;> split at hj
    · exact hs.mapart i j b hi hj
    · cases hj
    · cases hi
    · cases hi
end
end Go.X
/-
  Constants, zero values, operands; the operations that touch no memory.
-/
namespace Go.X
open Go.RowKit (Below)

section
variable {P : Program} {B : Nat} {E E' : Env} {H : Heap} {w w' : World}

theorem absCell_spec {c : Value} {v : AV} (h : absCell c = some v) : FR E [v] [c] ∧ v.refless = true ∧ v.isAgg = false := by
  unfold absCell at h
  split at h <;> first | (obtain rfl := Option.some.inj h; refine ⟨?_, rfl, rfl⟩) | simp at h
  · exact .bool .nil
  · exact .int .nil
  · exact .str .nil
  · exact .nilp .nil
  · exact .nils .nil
  · exact .nilm .nil
  · exact .nilf .nil
  · exact .nili .nil

theorem readMany_spec {f : TypeId → List Value → Option (AV × List Value)}
    (hf : ∀ t cs v r, f t cs = some (v, r) → ∃ c1, cs = c1 ++ r ∧ FR E [v] c1 ∧ v.refless = true) :
    ∀ (ts : List TypeId) (cs : List Value) (vs : List AV) (r : List Value), readMany f ts cs = some (vs, r) → ∃ c1, cs = c1 ++ r ∧ FR E vs c1 ∧ reflessL vs = true
  | [], cs, vs, r, h => by
    simp only [readMany, Option.some.injEq, Prod.mk.injEq] at h
    obtain ⟨rfl, rfl⟩ := h
    exact ⟨[], rfl, .nil, rfl⟩
  | t :: ts, cs, vs, r, h => by
    simp only [readMany, Option.bind_eq_some_iff, Option.map_eq_some_iff, Prod.exists, Prod.mk.injEq] at h
    obtain ⟨v, r1, h1, us, r2, h2, rfl, rfl⟩ := h
    obtain ⟨c1, rfl, k1, k2⟩ := hf _ _ _ _ h1
    obtain ⟨c2, rfl, k3, k4⟩ := readMany_spec hf ts _ _ _ h2
    exact ⟨c1 ++ c2, by simp, .cons k1 k3, by simp [reflessL, k2, k4]⟩

theorem absOf_spec : ∀ (d : Nat) (t : TypeId) (cs : List Value) (v : AV) (r : List Value), absOf P d t cs = some (v, r) → ∃ c1, cs = c1 ++ r ∧ FR E [v] c1 ∧ v.refless = true
  | 0, t, cs, v, r, h => by simp [absOf] at h
  | d + 1, t, cs, v, r, h => by
    unfold absOf at h
    split at h
    · simp only [Option.map_eq_some_iff, Prod.exists, Prod.mk.injEq] at h
      obtain ⟨vs, r', h1, rfl, rfl⟩ := h
      obtain ⟨c1, rfl, k1, k2⟩ := readMany_spec (fun t cs v r => absOf_spec d t cs v r) _ _ _ _ h1
      refine ⟨c1, rfl, ?_, by simpa [AV.refless] using k2⟩
      have := FR.agg (n := sumLen vs) (vs := []) (cs := []) k1 k1.length.symm .nil
      simpa using this
    · simp only [Option.bind_eq_some_iff, Prod.exists] at h
      obtain ⟨vs, r', h1, h2⟩ := h
      obtain ⟨c1, rfl, k1, k2⟩ := readMany_spec (fun t cs v r => absOf_spec d t cs v r) _ _ _ _ h1
      split at h2
      · obtain ⟨rfl, rfl⟩ := by simpa using h2
        refine ⟨c1, rfl, ?_, by simp [AV.refless, reflessL]⟩
        have := FR.arr (e := 1) (vs := []) (cs := []) k1 (by simp) .nil
        simpa using this
      · rename_i u us
        split at h2
        · rename_i hall
          obtain ⟨rfl, rfl⟩ := by simpa using h2
          refine ⟨c1, rfl, ?_, by simpa [AV.refless] using k2⟩
          have := FR.arr (e := u.flatLen) (vs := []) (cs := []) k1 (by simpa using hall) .nil
          simpa using this
        · simp at h2
    · split at h
      · simp only [Option.map_eq_some_iff, Prod.mk.injEq] at h
        obtain ⟨a, h1, rfl, rfl⟩ := h
        obtain ⟨k1, k2, _⟩ := absCell_spec (E := E) h1
        exact ⟨[_], rfl, k1, k2⟩
      · simp at h
    · simp at h

theorem zero_spec {t : TypeId} {v : AV} (h : zeroAV P t = some v) : ∃ i z, P.info? t = some i ∧ i.zero = some z ∧ FR E [v] z.cells.toList ∧ v.refless = true ∧ pack v z.cells.toList = z := by
  simp only [zeroAV, Option.bind_eq_some_iff] at h
  obtain ⟨z, ⟨i, hi, hz⟩, u, hu, h⟩ := h
  split at h
  · rename_i hag
    obtain rfl := Option.some.inj h
    unfold absWhole at hu
    split at hu
    · rename_i v hv
      obtain rfl := Option.some.inj hu
      obtain ⟨c1, hc, k1, k2⟩ := absOf_spec (E := E) _ _ _ _ _ hv
      rw [List.append_nil] at hc
      refine ⟨i, z, hi, hz, by rw [hc]; exact k1, k2, ?_⟩
      unfold pack
      rw [hag]
      cases z <;> simp [isAggV, Value.cells]
    · simp at hu
  · simp at h

theorem run_zeroValue' {t : TypeId} {i : TypeInfo} {z : Value} (hi : P.info? t = some i) (hz : i.zero = some z) (w : World) : (zeroValue t).run P w = .ok z w := by
  simp [zeroValue, typeInfo, hi, hz]

theorem const_ok (c : Value) : VR E ((absConst c).getD .bad) c := by
  cases h : absConst c with
  | none => trivial
  | some v =>
    unfold absConst at h
    split at h
    · split at h
      · rename_i hab
        obtain rfl := Option.some.inj h
        rename_i fn a b
        obtain rfl : a = #[] := Array.eq_empty_of_size_eq_zero hab.1
        obtain rfl : b = #[] := Array.eq_empty_of_size_eq_zero hab.2
        exact VR.of_PR (v := .func fn [] []) ⟨[_], .func (cx := []) (cy := []) (by simp) .nil .nil .nil, rfl⟩
      · simp at h
    · obtain ⟨h1, _, h3⟩ := absCell_spec (E := E) h
      exact VR.of_PR ⟨[c], h1, by simp [pack, h3]⟩

theorem scalar_ok {v : AV} {c d : Value} (h : VR E v c) (hs : v.scalar = some d) : c = d := by
  cases v <;> simp only [AV.scalar, Option.some.injEq, reduceCtorEq] at hs
  all_goals
    subst hs
    obtain ⟨cs, h1, rfl⟩ := h
    cases h1
    rfl

theorem liftPure_ok {e : Sem Value} {v : AV} (h : liftPure e = some v) (w : World) : ∃ c, e.run P w = .ok c w ∧ VR E v c := by
  unfold liftPure at h
  split at h <;> first | (obtain rfl := Option.some.inj h) | simp at h
  · exact ⟨_, rfl, VR.of_PR (v := .int _ _) ⟨[_], .int .nil, rfl⟩⟩
  · exact ⟨_, rfl, VR.of_PR (v := .bool _) ⟨[_], .bool .nil, rfl⟩⟩
  · exact ⟨_, rfl, VR.of_PR (v := .str _) ⟨[_], .str .nil, rfl⟩⟩

theorem PR.int {k : IntKind} {n : Int} : PR E (.int k n) (.int k n) := ⟨[_], .int .nil, rfl⟩
theorem PR.bool {b : Bool} : PR E (.bool b) (.bool b) := ⟨[_], .bool .nil, rfl⟩
theorem PR.str {s : ByteArray} : PR E (.str s) (.string s) := ⟨[_], .str .nil, rfl⟩
theorem VR.int {k : IntKind} {n : Int} : VR E (.int k n) (.int k n) := .of_PR .int
theorem VR.bool {b : Bool} : VR E (.bool b) (.bool b) := .of_PR .bool
theorem VR.str {s : ByteArray} : VR E (.str s) (.string s) := .of_PR .str

theorem VR.bool_inv {b : Bool} {c : Value} (h : VR E (.bool b) c) : c = .bool b := scalar_ok h rfl
theorem VR.int_inv {k : IntKind} {n : Int} {c : Value} (h : VR E (.int k n) c) : c = .int k n := scalar_ok h rfl
theorem VR.str_inv {s : ByteArray} {c : Value} (h : VR E (.str s) c) : c = .string s := scalar_ok h rfl

theorem idx_ok {v : AV} {c : Value} {i : Nat} (h : VR E v c) (hi : v.idx = some i) : ∃ k n, c = .int k n ∧ 0 ≤ n ∧ n.toNat = i := by
  cases v <;> simp only [AV.idx, reduceCtorEq] at hi
  split at hi
  · rename_i k n hn
    obtain rfl := Option.some.inj hi
    exact ⟨k, n, h.int_inv, hn, rfl⟩
  · simp at hi

theorem PR.agg_inv {n : Nat} {ps : List AV} {c : Value} (h : PR E (.agg n ps) c) : ∃ cs, c = .agg cs.toArray ∧ FR E ps cs ∧ n = cs.length := by
  obtain ⟨cs, h1, rfl⟩ := h
  obtain ⟨h2, h3⟩ := h1.agg_inv
  exact ⟨cs, rfl, h2, h3⟩

theorem PR.arr_inv {e : Nat} {xs : List AV} {c : Value} (h : PR E (.arr e xs) c) : ∃ cs, c = .agg cs.toArray ∧ FR E xs cs ∧ ∀ x ∈ xs, x.flatLen = e := by
  obtain ⟨cs, h1, rfl⟩ := h
  obtain ⟨h2, h3⟩ := h1.arr_inv
  exact ⟨cs, rfl, h2, h3⟩

/-- A part of an aggregate's cells. -/
theorem run_part' {t : TypeId} {v : AV} {pre mid post : List Value} {o : Nat} (hf : FR E [v] mid) (ho : pre.length = o) (ha : tagg P t = some v.isAgg) (hz : tsize P t = some v.flatLen) :
    (part t (pre ++ mid ++ post).toArray o).run P w = .ok (pack v mid) w := by
  have hl : mid.length = v.flatLen := by rw [hf.length]; simp [sumLen]
  cases hv : v.isAgg with
  | true =>
    rw [hv] at ha
    simp only [part, Sem.run_bind, run_isAgg' ha, Result.andThen_ok, if_true, run_sizeOf' hz]
    subst ho
    simp only [Sem.run_pure, pack, hv, if_true]
    congr 2
    rw [← hl]
    simp
  | false =>
    rw [hv] at ha
    obtain ⟨c, rfl, hp⟩ := hf.one_leaf hv
    subst ho
    simp [part, Sem.run_bind, run_isAgg' ha, hp]

theorem field_ok {t : TypeId} {x v : AV} {cx : Value} {f : Nat} (hx : VR E x cx) (h : fieldAV P t x f = some v) : ∃ c, (Instr.field t cx f).run P w = .ok c w ∧ VR E v c := by
  cases x <;> simp only [fieldAV, reduceCtorEq] at h
  rename_i n ps
  simp only [Option.bind_eq_some_iff] at h
  obtain ⟨fl, hfl, p, hp, h⟩ := h
  split at h
  · rename_i hc
    obtain rfl := Option.some.inj h
    obtain ⟨cs, rfl, hf, _⟩ := PR.agg_inv (show PR E (.agg n ps) cx from hx)
    obtain ⟨pre, mid, post, rfl, hpre, hm, _⟩ := hf.nth hp
    unfold fieldOf at hfl
    split at hfl
    · rename_i fs hu
      refine ⟨pack p mid, ?_, .of_PR (.of_cells hm)⟩
      have := run_part' (P := P) (w := w) (post := post) hm (hpre.trans hc.1) hc.2.1 hc.2.2
      simp only [Instr.field, Sem.run_bind, run_underlying hu, Result.andThen_ok, hfl, asAgg, Sem.run_pure]
      exact this
    · simp at hfl
  · simp at h

theorem index_ok {t : TypeId} {x i v : AV} {cx ci : Value} (hx : VR E x cx) (hi : VR E i ci) (h : indexAV P t x i = some v) : ∃ c, (Instr.index t cx ci).run P w = .ok c w ∧ VR E v c := by
  simp only [indexAV, Option.bind_eq_some_iff] at h
  obtain ⟨n, hn, h⟩ := h
  obtain ⟨k, m, rfl, hm0, hmn⟩ := idx_ok hi hn
  split at h
  · rename_i len e sz xs hu
    split at h
    · rename_i hc
      simp only [Option.bind_eq_some_iff] at h
      obtain ⟨u, hu', h⟩ := h
      split at h
      · rename_i hta
        obtain rfl := Option.some.inj h
        obtain ⟨cs, rfl, hf, he⟩ := PR.arr_inv (show PR E (.arr sz xs) cx from hx)
        have hlt : n < xs.length := by
          rcases Nat.lt_or_ge n xs.length with h | h
          · exact h
          · simp [List.getElem?_eq_none h] at hu'
        obtain ⟨pre, mid, post, rfl, hpre, hmid, _⟩ := hf.nth hu'
        have hs : sumLen (xs.take n) = sz * n := by
          rw [sumLen_same (fun x hx => he x (List.mem_of_mem_take hx))]
          simp [Nat.min_eq_left (Nat.le_of_lt hlt)]
        refine ⟨pack u mid, ?_, .of_PR (.of_cells hmid)⟩
        have hue : u.flatLen = sz := he u (List.mem_of_getElem? hu')
        have := run_part' (P := P) (w := w) (o := n * sz) (post := post) hmid (by rw [hpre, hs, Nat.mul_comm]) hta (by rw [hue]; exact hc.2)
        have hlt2 : m < (len : Int) := by omega
        simp only [Instr.index, asIntOf, Sem.run_bind, Sem.run_pure, Result.andThen_ok, run_underlying hu]
        rw [if_pos ⟨hm0, hlt2⟩]
        simp only [Sem.run_bind, run_sizeOf' hc.2, Result.andThen_ok, hmn]
        exact this
      · simp at h
    · simp at h
  · rename_i s hu
    simp only [Option.map_eq_some_iff] at h
    obtain ⟨b, hb, rfl⟩ := h
    obtain rfl := hx.str_inv
    refine ⟨.int .u8 b.toNat, ?_, VR.int⟩
    have hb' : s[n]? = some b := by
      rw [← hb]
      rfl
    simp only [Instr.index, asIntOf, Sem.run_bind, Sem.run_pure, Result.andThen_ok, run_underlying hu]
    rw [if_pos hm0, hmn, hb']
    rfl
  · simp at h

theorem fieldAddr_ok {t : TypeId} {x v : AV} {cx : Value} {f : Nat} (hx : VR E x cx) (h : fieldAddrAV P t x f = some v) : ∃ c, (Instr.fieldAt t cx f).run P w = .ok c w ∧ VR E v c := by
  simp only [fieldAddrAV, Option.bind_eq_some_iff] at h
  obtain ⟨fl, hfl, sz, hsz, h⟩ := h
  split at h
  · simp at h
  rename_i hsz0
  unfold fieldOf at hfl
  split at hfl
  · rename_i fs hu
    have hrun' : ∀ ad : Addr, (Instr.fieldAt t (.pointer (some ad)) f).run P w = .ok (.pointer (some (ad.add fl.offset))) w := fun ad => by
      simp [Instr.fieldAt, Sem.run_bind, run_underlying hu, Result.andThen_ok, hfl, Instr.sureAddr, fieldPlace, run_sizeOf' hsz, hsz0]
    have hrun : ∀ b o, (Instr.fieldAt t (.pointer (some ⟨b, o, none⟩)) f).run P w = .ok (.pointer (some ⟨b, o + fl.offset, none⟩)) w := fun b o => by
      rw [hrun', Addr.add_mk]
    split at h
    · rename_i p
      obtain rfl := Option.some.inj h
      obtain ⟨ad, rfl, h1, h2⟩ := PR.ptr_inv (show PR E (.ptr p) cx from hx)
      refine ⟨_, hrun' ad, .of_PR (v := .ptr _) ⟨[_], .ptr h1 (fun L hL => ?_) .nil, rfl⟩⟩
      rcases h2 L hL with h3 | ⟨h3, rfl⟩
      · exact .inl h3
      · exact .inr ⟨h3, by rw [Addr.add_mk, Nat.add_assoc]⟩
    · rename_i n ps
      simp only [Option.bind_eq_some_iff] at h
      obtain ⟨q, hq, h⟩ := h
      split at h
      · rename_i ho
        obtain rfl := Option.some.inj h
        obtain ⟨b, o, c1, rfl, hr, hf, hm⟩ := PR.iptr_inv (show PR E (.iptr (.agg n ps)) cx from hx)
        obtain ⟨hps, _⟩ := hf.agg_inv
        obtain ⟨pre, mid, post, rfl, hpre, hmid, _⟩ := hps.nth hq
        refine ⟨_, hrun b o, .of_PR (v := .iptr q) ⟨[_], .iptr (c1 := mid) ?_ hmid (fun j c hj => ?_) .nil, rfl⟩⟩
        · have : reflessL ps = true := by simpa [AV.refless] using hr
          exact reflessL_mem this (List.mem_of_getElem? hq)
        · have := hm (fl.offset + j) c (by
            rw [← ho, ← hpre, List.append_assoc, List.getElem?_append_right (by omega), show pre.length + j - pre.length = j by omega, List.getElem?_append_left (by
              rcases Nat.lt_or_ge j mid.length with h | h
              · exact h
              · simp [List.getElem?_eq_none h] at hj)]
            exact hj)
          rwa [Nat.add_assoc]
      · simp at h
    · simp at h
  · simp at hfl
where
  reflessL_mem : ∀ {vs : List AV} {v : AV}, reflessL vs = true → v ∈ vs → v.refless = true
    | v :: vs, _, h, .head _ => by simp only [reflessL, Bool.and_eq_true] at h; exact h.1
    | v :: vs, u, h, .tail _ hm => by simp only [reflessL, Bool.and_eq_true] at h; exact reflessL_mem h.2 hm

end
end Go.X
/-
  More operations that touch no memory: addresses, slices, comparisons.
-/
namespace Go.X
open Go.RowKit (Below)

section
variable {P : Program} {B : Nat} {E E' : Env} {H : Heap} {w w' : World}

theorem reflessL_sub : ∀ {vs us : List AV}, reflessL vs = true → (∀ x ∈ us, x ∈ vs) → reflessL us = true
    | _, [], _, _ => rfl
    | vs, u :: us, h, hs => by
      simp only [reflessL, Bool.and_eq_true]
      exact ⟨fieldAddr_ok.reflessL_mem h (hs u (List.mem_cons_self)), reflessL_sub h (fun x hx => hs x (List.mem_cons_of_mem _ hx))⟩

theorem FR.isl_sub {e l n : Nat} {xs : List AV} {c1 : List Value} {b o cap : Nat} (hr : reflessL xs = true) (hf : FR E xs c1) (he : ∀ x ∈ xs, x.flatLen = e)
    (hm : ∀ j c, c1[j]? = some c → E.m b (o + j) = some c) (hl : l + n ≤ xs.length) (hcap : n ≤ cap) :
    PR E (.isl e ((xs.drop l).take n)) (.slice (some ⟨b, o + l * e, none⟩) n cap) := by
  have h1 : xs = xs.take l ++ ((xs.drop l).take n ++ (xs.drop l).drop n) := by rw [List.take_append_drop, List.take_append_drop]
  rw [h1] at hf
  obtain ⟨c0, c2, rfl, k0, k1⟩ := hf.append_inv
  obtain ⟨c3, c4, rfl, k2, k3⟩ := k1.append_inv
  have hlen : ((xs.drop l).take n).length = n := by simp; omega
  have hs : c0.length = l * e := by
    rw [k0.length, sumLen_same (fun x hx => he x (List.mem_of_mem_take hx))]
    simp [Nat.min_eq_left (show l ≤ xs.length by omega), Nat.mul_comm]
  refine ⟨[_], .isl (b := b) (o := o + l * e) (c1 := c3) (reflessL_sub hr (fun x hx => List.mem_of_mem_drop (List.mem_of_mem_take hx))) k2 (fun x hx => he x (List.mem_of_mem_drop (List.mem_of_mem_take hx))) (cap := cap) (by omega) (fun j c hj => ?_) (.inl rfl) .nil, ?_⟩
  · have := hm (l * e + j) c (by
      rw [← hs, List.getElem?_append_right (by omega), show c0.length + j - c0.length = j by omega, List.getElem?_append_left (by
        rcases Nat.lt_or_ge j c3.length with h | h
        · exact h
        · simp [List.getElem?_eq_none h] at hj)]
      exact hj)
    rwa [Nat.add_assoc]
  · rw [hlen]; rfl
theorem indexAddr_ok {t : TypeId} {x i v : AV} {cx ci : Value} (hx : VR E x cx) (hi : VR E i ci) (h : indexAddrAV P t x i = some v) :
    ∃ c, (Instr.indexAt t cx ci).run P w = .ok c w ∧ VR E v c := by
  simp only [indexAddrAV, Option.bind_eq_some_iff] at h
  obtain ⟨n, hn, h⟩ := h
  obtain ⟨k, m, rfl, hm0, hmn⟩ := idx_ok hi hn
  split at h
  · rename_i len e p hu
    simp only [Option.bind_eq_some_iff] at h
    obtain ⟨sz, hsz, h⟩ := h
    split at h
    · rename_i hlt
      obtain rfl := Option.some.inj h
      obtain ⟨ad, rfl, h1, h2⟩ := PR.ptr_inv (show PR E (.ptr p) cx from hx)
      have hlt2 : m < (len : Int) := by omega
      refine ⟨.pointer (some (ad.add (n * sz))), ?_, .of_PR (v := .ptr _) ⟨[_], .ptr h1 (fun L hL => ?_) .nil, rfl⟩⟩
      · simp [Instr.indexAt, asIntOf, Sem.run_bind, run_underlying hu, Instr.sureAddr, hm0, hlt2, run_sizeOf' hsz, hmn]
      · rcases h2 L hL with h3 | ⟨h3, rfl⟩
        · exact .inl h3
        · exact .inr ⟨h3, by rw [Addr.add_mk, Nat.add_assoc]⟩
    · simp at h
  · rename_i len e sz xs hu
    split at h
    · rename_i hc
      simp only [Option.map_eq_some_iff] at h
      obtain ⟨u, hu', rfl⟩ := h
      obtain ⟨b, o, c1, rfl, hr, hf, hm⟩ := PR.iptr_inv (show PR E (.iptr (.arr sz xs)) cx from hx)
      obtain ⟨hxs, he⟩ := hf.arr_inv
      obtain ⟨pre, mid, post, rfl, hpre, hmid, _⟩ := hxs.nth hu'
      have hlt : n < xs.length := by
        rcases Nat.lt_or_ge n xs.length with h | h
        · exact h
        · simp [List.getElem?_eq_none h] at hu'
      have hs : sumLen (xs.take n) = sz * n := by
        rw [sumLen_same (fun x hx => he x (List.mem_of_mem_take hx))]
        simp [Nat.min_eq_left (Nat.le_of_lt hlt)]
      have hlt2 : m < (len : Int) := by omega
      refine ⟨.pointer (some ⟨b, o + n * sz, none⟩), ?_, .of_PR (v := .iptr u) ⟨[_], .iptr (c1 := mid) (fieldAddr_ok.reflessL_mem (by simpa [AV.refless] using hr) (List.mem_of_getElem? hu')) hmid (fun j c hj => ?_) .nil, rfl⟩⟩
      · simp [Instr.indexAt, asIntOf, Sem.run_bind, run_underlying hu, Instr.sureAddr, hm0, hlt2, run_sizeOf' hc.2, hmn, Addr.add_mk]
      · have := hm (n * sz + j) c (by
          rw [Nat.mul_comm, ← hs, ← hpre, List.append_assoc, List.getElem?_append_right (by omega), show pre.length + j - pre.length = j by omega, List.getElem?_append_left (by
            rcases Nat.lt_or_ge j mid.length with h | h
            · exact h
            · simp [List.getElem?_eq_none h] at hj)]
          exact hj)
        rwa [Nat.add_assoc]
    · simp at h
  · rename_i e p sz nn off len hu
    split at h
    · rename_i hc
      obtain rfl := Option.some.inj h
      obtain ⟨ad, cap, rfl, h1, hcap, h2⟩ := PR.sl_inv (show PR E (.sl p sz nn off len) cx from hx)
      have hlt2 : m < (len : Int) := by omega
      refine ⟨.pointer (some (ad.add (n * sz))), ?_, .of_PR (v := .ptr _) ⟨[_], .ptr h1 (fun L hL => ?_) .nil, rfl⟩⟩
      · simp [Instr.indexAt, asIntOf, Sem.run_bind, run_underlying hu, hm0, hlt2, run_sizeOf' hc.2, hmn]
      · rcases h2 L hL with h3 | ⟨h3, _, _, h4⟩
        · exact .inl h3
        · refine .inr ⟨h3, ?_⟩
          rcases h4 with h4 | rfl
          · omega
          · rw [Addr.add_mk]
            simp only [Nat.add_mul, Addr.mk.injEq, and_true, true_and]
            omega
    · simp at h
  · rename_i e sz xs hu
    split at h
    · rename_i hsz
      simp only [Option.map_eq_some_iff] at h
      obtain ⟨u, hu', rfl⟩ := h
      obtain ⟨b, o, sp, c1, cap, rfl, hsp, hr, hf, he, hcap, hm⟩ := PR.isl_inv (show PR E (.isl sz xs) cx from hx)
      obtain rfl : sp = none := by
        rcases hsp with h | h
        · exact h
        · subst h
          simp at hu'
      obtain ⟨pre, mid, post, rfl, hpre, hmid, _⟩ := hf.nth hu'
      have hlt : n < xs.length := by
        rcases Nat.lt_or_ge n xs.length with h | h
        · exact h
        · simp [List.getElem?_eq_none h] at hu'
      have hs : sumLen (xs.take n) = sz * n := by
        rw [sumLen_same (fun x hx => he x (List.mem_of_mem_take hx))]
        simp [Nat.min_eq_left (Nat.le_of_lt hlt)]
      have hlt2 : m < (xs.length : Int) := by omega
      refine ⟨.pointer (some ⟨b, o + n * sz, none⟩), ?_, .of_PR (v := .iptr u) ⟨[_], .iptr (c1 := mid) (fieldAddr_ok.reflessL_mem hr (List.mem_of_getElem? hu')) hmid (fun j c hj => ?_) .nil, rfl⟩⟩
      · simp [Instr.indexAt, asIntOf, Sem.run_bind, run_underlying hu, hm0, hlt2, run_sizeOf' hsz, hmn, Addr.add_mk]
      · have := hm (n * sz + j) c (by
          rw [Nat.mul_comm, ← hs, ← hpre, List.append_assoc, List.getElem?_append_right (by omega), show pre.length + j - pre.length = j by omega, List.getElem?_append_left (by
            rcases Nat.lt_or_ge j mid.length with h | h
            · exact h
            · simp [List.getElem?_eq_none h] at hj)]
          exact hj)
        rwa [Nat.add_assoc]
    · simp at h
  · simp at h

/-- What a slice expression's bounds come to. -/
theorem bounds_ok {isSlice : Bool} {len cap d l h : Nat} {lo hi : Option AV} {clo chi : Option Value} (hlo : ∀ v, lo = some v → ∃ c, clo = some c ∧ VR E v c) (hlo' : lo = none → clo = none)
    (hhi : ∀ v, hi = some v → ∃ c, chi = some c ∧ VR E v c) (hhi' : hi = none → chi = none) (hd : d = len)
    (h1 : bnd d hi = some h) (h2 : bnd 0 lo = some l) (hle : l ≤ h) (hc : h ≤ cap) :
    (Instr.sliceBounds isSlice len cap clo chi none).run P w = .ok (l, h, cap) w := by
  subst hd
  have hH : chi = none ∧ h = d ∨ ∃ k n, chi = some (.int k n) ∧ 0 ≤ n ∧ n.toNat = h := by
    cases hi with
    | none => exact .inl ⟨hhi' rfl, by simpa [bnd] using h1.symm⟩
    | some v =>
      obtain ⟨c, rfl, hv⟩ := hhi v rfl
      obtain ⟨k, n, rfl, a, b⟩ := idx_ok hv h1
      exact .inr ⟨k, n, rfl, a, b⟩
  have hL : clo = none ∧ l = 0 ∨ ∃ k n, clo = some (.int k n) ∧ 0 ≤ n ∧ n.toNat = l := by
    cases lo with
    | none => exact .inl ⟨hlo' rfl, by simpa [bnd] using h2.symm⟩
    | some v =>
      obtain ⟨c, rfl, hv⟩ := hlo v rfl
      obtain ⟨k, n, rfl, a, b⟩ := idx_ok hv h2
      exact .inr ⟨k, n, rfl, a, b⟩
  rcases hH with ⟨rfl, rfl⟩ | ⟨k, n, rfl, hn0, rfl⟩ <;> rcases hL with ⟨rfl, rfl⟩ | ⟨k', n', rfl, hn0', rfl⟩
  · simp [Instr.sliceBounds]
  · have e1 : n' ≤ (h : Int) := by omega
    simp [Instr.sliceBounds, Instr.sliceBound, asIntOf, hn0', e1]
  · have e1 : n ≤ (cap : Int) := by omega
    simp [Instr.sliceBounds, Instr.sliceBound, asIntOf, hn0, e1]
  · have e1 : n ≤ (cap : Int) := by omega
    have e2 : n' ≤ n := by omega
    simp [Instr.sliceBounds, Instr.sliceBound, asIntOf, hn0, e1, hn0', e2, Int.toNat_of_nonneg hn0]

theorem len_slice {x : AV} {cx : Value} {n : Nat} (hx : VR E x cx) (h : x.len = some n) (hns : ∀ s, x ≠ .str s) : ∃ base cap, cx = .slice base n cap ∧ n ≤ cap := by
  cases x <;> simp only [AV.len, Option.some.injEq, reduceCtorEq] at h
  · exact absurd rfl (hns _)
  · subst h
    obtain ⟨cs, h1, rfl⟩ := (show PR E .nils cx from hx)
    cases h1 with
    | nils h1 =>
      cases h1
      exact ⟨_, _, rfl, Nat.le_refl _⟩
  · subst h
    obtain ⟨a, cap, rfl, _, hc, _⟩ := PR.sl_inv (show PR E (.sl _ _ _ _ _) cx from hx)
    exact ⟨_, _, rfl, hc⟩
  · subst h
    obtain ⟨b, o, sp, c1, cap, rfl, _, _, _, _, hc, _⟩ := PR.isl_inv (show PR E (.isl _ _) cx from hx)
    exact ⟨_, _, rfl, hc⟩

theorem slice3_ok {t : TypeId} {x v : AV} {cx : Value} {lo : Option AV} {clo : Option Value} {hi m : AV} {chi cm : Value} (hx : VR E x cx)
    (hlo : ∀ v, lo = some v → ∃ c, clo = some c ∧ VR E v c) (hlo' : lo = none → clo = none) (hhi : VR E hi chi) (hm : VR E m cm) (h : slice3AV P t x lo hi m = some v) :
    ∃ c, (Instr.sliceAt t cx clo (some chi) (some cm)).run P w = .ok c w ∧ VR E v c := by
  unfold slice3AV at h
  split at h
  · simp at h
  · rename_i e hu hns
    simp only [Option.bind_eq_some_iff] at h
    obtain ⟨sz, hsz, n, hn, m', hm', h', hh', l, hl, h⟩ := h
    split at h
    · rename_i hc
      obtain rfl := Option.some.inj h
      obtain ⟨base, cap, rfl, hcap⟩ := len_slice hx hn (fun s hs => hns s hs)
      obtain ⟨k1, n1, rfl, a1, rfl⟩ := idx_ok hm hm'
      obtain ⟨k2, n2, rfl, a2, rfl⟩ := idx_ok hhi hh'
      have e1 : n1 ≤ (cap : Int) := by omega
      have e2 : n2 ≤ n1 := by omega
      have hL : clo = none ∧ l = 0 ∨ ∃ k n, clo = some (.int k n) ∧ 0 ≤ n ∧ n.toNat = l := by
        cases lo with
        | none => exact .inl ⟨hlo' rfl, by simpa [bnd] using hl.symm⟩
        | some v =>
          obtain ⟨c, rfl, hv⟩ := hlo v rfl
          obtain ⟨k, n, rfl, a, b⟩ := idx_ok hv hl
          exact .inr ⟨k, n, rfl, a, b⟩
      have hb : ∃ r, (Instr.sliceBounds true n cap clo (some (.int k2 n2)) (some (.int k1 n1))).run P w = .ok r w := by
        rcases hL with ⟨rfl, rfl⟩ | ⟨k', n', rfl, hn0', rfl⟩
        · exact ⟨(0, n2.toNat, n1.toNat), by simp [Instr.sliceBounds, Instr.sliceBound, asIntOf, a1, e1, a2, e2, Int.toNat_of_nonneg a1]⟩
        · have e3 : n' ≤ n2 := by omega
          exact ⟨(n'.toNat, n2.toNat, n1.toNat), by simp [Instr.sliceBounds, Instr.sliceBound, asIntOf, a1, e1, a2, e2, hn0', e3, Int.toNat_of_nonneg a1, Int.toNat_of_nonneg a2]⟩
      obtain ⟨⟨r1, r2, r3⟩, hb⟩ := hb
      have hsz' : (sizeOf e).run P w = .ok sz w := run_sizeOf' hsz w
      refine ⟨.slice (if r3 = r1 then base else base.map (·.add (r1 * sz))) (r2 - r1) (r3 - r1), ?_, trivial⟩
      simp [Instr.sliceAt, run_underlying hu, Instr.slice, hb, hsz']
    · simp at h
  · simp at h

theorem slice_ok {t : TypeId} {x v : AV} {cx : Value} {lo hi : Option AV} {clo chi : Option Value} (hs : Sim B E H w) (hx : VR E x cx)
    (hlo : ∀ v, lo = some v → ∃ c, clo = some c ∧ VR E v c) (hlo' : lo = none → clo = none)
    (hhi : ∀ v, hi = some v → ∃ c, chi = some c ∧ VR E v c) (hhi' : hi = none → chi = none)
    (h : sliceAV P H t x lo hi = some v) :
    ∃ c, (Instr.sliceAt t cx clo chi none).run P w = .ok c w ∧ VR E v c := by
  unfold sliceAV at h
  split at h
  · rename_i n e p hu
    simp only [Option.bind_eq_some_iff] at h
    obtain ⟨sz, hsz, h, hh, l, hl, bk, hb, ⟨o, y⟩, hat, h⟩ := h
    split at h
    · rename_i e' xs hy
      simp only at hy
      subst hy
      split at h
      · rename_i hc
        obtain ⟨hle, hhn, hg, ho, rfl, hxn⟩ := hc
        obtain rfl := Option.some.inj h
        obtain ⟨ad, rfl, h1, h2⟩ := PR.ptr_inv (show PR E (.ptr p) cx from hx)
        obtain ⟨L, hL, hB, _, hgen⟩ := hs.at hb hg
        obtain ⟨cs, hf, hlen, _⟩ := hB.cs
        obtain ⟨pre, mid, post, rfl, hpre, hm⟩ := at_spec p.path _ _ _ _ hf hat
        have hml := hm.length
        simp only [sumLen, AV.flatLen, hxn, Nat.add_zero] at hml
        have hb' := bounds_ok (P := P) (w := w) (isSlice := false) (len := n) (cap := n) (d := n) hlo hlo' hhi hhi' rfl hh hl hle hhn
        have hfit := hB.fits
        have hads : ad.spot = none := by
          rcases h2 L hL with h3 | ⟨_, rfl⟩
          · omega
          · rfl
        refine ⟨.slice (some (if n = l then ad else ad.add (l * e'))) (_ - l) (n - l), ?_, .of_PR (v := .sl p e' n l _) ⟨[_], .sl (a := if n = l then ad else ad.add (l * e')) h1 (by omega) (fun L' hL' => ?_) (by split <;> simp [hads, Addr.add_spot]) .nil, rfl⟩⟩
        · simp [Instr.sliceAt, Sem.run_bind, run_underlying hu, Instr.sureAddr, hb', run_sizeOf' hsz]
        · obtain rfl : L = L' := by rw [hL] at hL'; exact Option.some.inj hL'
          rcases h2 L hL with h3 | ⟨h3, rfl⟩
          · exact .inl h3
          · refine .inr ⟨h3, by omega, ?_, ?_⟩
            · simp only at ho
              have : (pre ++ mid ++ post).length = pre.length + mid.length + post.length := by simp; omega
              rw [show l + (n - l) = n by omega, Nat.mul_comm n e']
              omega
            · by_cases hnl : n = l
              · exact .inl (by omega)
              · refine .inr ?_
                rw [if_neg hnl, Addr.add_mk]
      · simp at h
    · simp at h
  · rename_i n e sz xs hu
    simp only [Option.bind_eq_some_iff] at h
    obtain ⟨hh, hhh, l, hl, h⟩ := h
    split at h
    · rename_i hc
      obtain ⟨hle, hhn, hxn, hsz⟩ := hc
      obtain rfl := Option.some.inj h
      obtain ⟨b, o, c1, rfl, hr, hf, hm⟩ := PR.iptr_inv (show PR E (.iptr (.arr sz xs)) cx from hx)
      obtain ⟨hxs, he⟩ := hf.arr_inv
      have hb' := bounds_ok (P := P) (w := w) (isSlice := false) (len := n) (cap := n) (d := n) hlo hlo' hhi hhi' rfl hhh hl hle hhn
      have hr' : reflessL xs = true := by simpa [AV.refless] using hr
      by_cases hnl : n = l
      · subst hnl
        refine ⟨.slice (some ⟨b, o, none⟩) (hh - n) (n - n), ?_, .of_PR ?_⟩
        · simp [Instr.sliceAt, Sem.run_bind, run_underlying hu, Instr.sureAddr, hb', run_sizeOf' hsz]
        · have := FR.isl_sub (E := E) (l := 0) (n := 0) (cap := n - n) hr' hxs he hm (by omega) (by omega)
          rw [show hh - n = 0 by omega]
          simpa using this
      · refine ⟨.slice (some ⟨b, o + l * sz, none⟩) (hh - l) (n - l), ?_, .of_PR ?_⟩
        · simp [Instr.sliceAt, Sem.run_bind, run_underlying hu, Instr.sureAddr, hb', run_sizeOf' hsz, hnl, Addr.add_mk]
        · exact FR.isl_sub hr' hxs he hm (by omega) (by omega)
    · simp at h
  · rename_i s hu
    simp only [Option.bind_eq_some_iff] at h
    obtain ⟨hh, hhh, l, hl, h⟩ := h
    split at h
    · rename_i hc
      obtain rfl := Option.some.inj h
      obtain rfl := hx.str_inv
      have hb' := bounds_ok (P := P) (w := w) (isSlice := false) (len := s.size) (cap := s.size) (d := s.size) hlo hlo' hhi hhi' rfl hhh hl hc.1 hc.2
      exact ⟨.string (s.extract l hh), by simp [Instr.sliceAt, Instr.slice, Sem.run_bind, run_underlying hu, hb'], VR.str⟩
    · simp at h
  · rename_i e p sz n off len hu
    simp only [Option.bind_eq_some_iff] at h
    obtain ⟨hh, hhh, l, hl, h⟩ := h
    split at h
    · rename_i hc
      obtain ⟨hle, hhn, hsz, hlive⟩ := hc
      obtain rfl := Option.some.inj h
      obtain ⟨ad, cap, rfl, h1, hcap, h2⟩ := PR.sl_inv (show PR E (.sl p sz n off len) cx from hx)
      have hads := PR.sl_spot (show PR E (.sl p sz n off len) _ from hx)
      by_cases hhcap : hh ≤ cap
      · have hb' := bounds_ok (P := P) (w := w) (isSlice := true) (len := len) (cap := cap) (d := len) hlo hlo' hhi hhi' rfl hhh hl hle hhcap
        refine ⟨.slice (some (if cap = l then ad else ad.add (l * sz))) (hh - l) (cap - l), ?_, .of_PR (v := .sl p sz n (off + l) _) ⟨[_], .sl (a := if cap = l then ad else ad.add (l * sz)) h1 (by omega) (fun L hL => ?_) (by split <;> simp [hads, Addr.add_spot]) .nil, rfl⟩⟩
        · by_cases hcl : cap = l
          · subst hcl
            simp [Instr.sliceAt, Instr.slice, Sem.run_bind, run_underlying hu, hb', run_sizeOf' hsz]
          · simp [Instr.sliceAt, Instr.slice, Sem.run_bind, run_underlying hu, hb', run_sizeOf' hsz, hcl]
        · rcases h2 L hL with h3 | ⟨h3, h4, h5, h6⟩
          · exact .inl h3
          · refine .inr ⟨h3, by omega, by rw [show off + l + (cap - l) = off + cap by omega]; exact h5, ?_⟩
            by_cases hcl : cap = l
            · exact .inl (by omega)
            · rcases h6 with h6 | rfl
              · exact .inl (by omega)
              · refine .inr ?_
                rw [if_neg hcl, Addr.add_mk]
                simp only [Nat.add_mul, Addr.mk.injEq, and_true, true_and]
                omega
      · exfalso
        rcases hlive with h3 | h3
        · omega
        · simp only [Option.map_eq_some_iff] at h3
          obtain ⟨bk, hb, hg⟩ := h3
          obtain ⟨L, hL, _, _, hgen⟩ := hs.at hb hg
          rcases h2 L hL with h4 | ⟨_, h4, _⟩
          · omega
          · omega
    · simp at h
  · rename_i e sz xs hu
    simp only [Option.bind_eq_some_iff] at h
    obtain ⟨hh, hhh, l, hl, h⟩ := h
    split at h
    · rename_i hc
      obtain ⟨hle, hhn, hsz⟩ := hc
      obtain rfl := Option.some.inj h
      obtain ⟨b, o, sp, c1, cap, rfl, hsp, hr, hf, he, hcap, hm⟩ := PR.isl_inv (show PR E (.isl sz xs) cx from hx)
      have hb' := bounds_ok (P := P) (w := w) (isSlice := true) (len := xs.length) (cap := cap) (d := xs.length) hlo hlo' hhi hhi' rfl hhh hl hle (by omega)
      rcases hsp with rfl | rfl
      rotate_left
      · have hh0 : hh = 0 := by simpa using hhn
        have hl0 : l = 0 := by omega
        subst hh0 hl0
        cases hf
        refine ⟨.slice (some ⟨b, o, sp⟩) (0 - 0) (cap - 0), ?_, .of_PR ⟨[_], .isl (xs := []) (c1 := []) rfl .nil (by simp) (by simp) (by simp) (.inr rfl) .nil, rfl⟩⟩
        simp only [List.length_nil] at hb'
        by_cases hc0 : cap = 0
        · subst hc0
          simp [Instr.sliceAt, Instr.slice, Sem.run_bind, run_underlying hu, hb', run_sizeOf' hsz]
        · simp [Instr.sliceAt, Instr.slice, Sem.run_bind, run_underlying hu, hb', run_sizeOf' hsz, Addr.add]
      by_cases hcl : cap = l
      · subst hcl
        refine ⟨.slice (some ⟨b, o, none⟩) (hh - cap) (cap - cap), ?_, .of_PR ?_⟩
        · simp [Instr.sliceAt, Instr.slice, Sem.run_bind, run_underlying hu, hb', run_sizeOf' hsz]
        · have := FR.isl_sub (E := E) (l := 0) (n := 0) (cap := cap - cap) hr hf he hm (by omega) (by omega)
          rw [show hh - cap = 0 by omega]
          simpa using this
      · refine ⟨.slice (some ⟨b, o + l * sz, none⟩) (hh - l) (cap - l), ?_, .of_PR ?_⟩
        · simp [Instr.sliceAt, Instr.slice, Sem.run_bind, run_underlying hu, hb', run_sizeOf' hsz, hcl, Addr.add_mk]
        · exact FR.isl_sub hr hf he hm (by omega) (by omega)
    · simp at h
  · rename_i e hu
    simp only [Option.bind_eq_some_iff] at h
    obtain ⟨hh, hhh, l, hl, h⟩ := h
    split at h
    · rename_i hc
      obtain ⟨rfl, rfl, hsz⟩ := hc
      obtain ⟨sz, hsz⟩ := Option.isSome_iff_exists.1 hsz
      obtain rfl := Option.some.inj h
      obtain ⟨cs, h1, rfl⟩ := (show PR E .nils cx from hx)
      cases h1
      have hb' := bounds_ok (P := P) (w := w) (isSlice := true) (len := 0) (cap := 0) (d := 0) hlo hlo' hhi hhi' rfl hhh hl (Nat.le_refl _) (Nat.le_refl _)
      exact ⟨.slice none 0 0, by simp [Instr.sliceAt, Instr.slice, Sem.run_bind, run_underlying hu, hb', pack, AV.isAgg, run_sizeOf' hsz], .of_PR (v := .nils) ⟨[_], .nils .nil, rfl⟩⟩
    · simp at h
  · simp at h

end
end Go.X
