/-
  An abstract evaluator for the translated programs: values without addresses, memory as a list of blocks. Definitions alone.
-/
import Derived.Calls
import Derived.Orders
namespace Go.X

/-- A place: a block, the flat offset of the part, the way to it, and how many cells the block had when the reference was made. -/
structure Pl where
  id : Nat
  coff : Nat
  path : List Nat
  gen : Nat
  deriving DecidableEq, Inhabited

/-- Abstract values. -/
inductive AV where
  | bad
  | undf
  | int (k : IntKind) (n : Int)
  | bool (b : Bool)
  | str (s : ByteArray)
  | nilp
  | ptr (p : Pl)
  | iptr (v : AV)
  | nils
  | sl (p : Pl) (esz n off len : Nat)
  | isl (esz : Nat) (xs : List AV)
  | nilm
  | map (id : Nat)
  | func (fn : Fn) (first captured : List AV)
  | nilf
  | hnd (b t : Nat)
  | iface (t : TypeId) (v : AV)
  | nili
  | agg (n : Nat) (parts : List AV)
  | arr (e : Nat) (xs : List AV)
  | tuple (vs : List AV)
  deriving Inhabited

def AV.flatLen : AV → Nat
  | .agg n _ => n
  | .arr e xs => e * xs.length
  | _ => 1

def sumLen : List AV → Nat
  | [] => 0
  | v :: vs => v.flatLen + sumLen vs

def AV.isAgg : AV → Bool
  | .agg .. | .arr .. => true
  | _ => false

/-- A value that may lie in memory. -/
def AV.plain : AV → Bool
  | .tuple _ | .bad | .undf => false
  | _ => true

mutual
def AV.refs : AV → List Nat
  | .ptr p => [p.id]
  | .sl p _ _ _ _ => [p.id]
  | .map i => [i]
  | .func _ a b => refsL a ++ refsL b
  | .iface _ v => v.refs
  | .agg _ ps => refsL ps
  | .arr _ xs => refsL xs
  | .tuple vs => refsL vs
  | _ => []
def refsL : List AV → List Nat
  | [] => []
  | v :: vs => v.refs ++ refsL vs
end

mutual
/-- No references at all, in no depth. -/
def AV.refless : AV → Bool
  | .ptr _ | .sl .. | .map _ | .func .. | .bad | .undf | .tuple _ => false
  | .iface _ v => v.refless
  | .agg _ ps => reflessL ps
  | .arr _ xs => reflessL xs
  | _ => true
def reflessL : List AV → Bool
  | [] => true
  | v :: vs => v.refless && reflessL vs
end

mutual
def AV.beq : AV → AV → Bool
  | .int j a, .int k b => j == k && a == b
  | .bool a, .bool b => a == b
  | .str a, .str b => decide (a = b)
  | .nilp, .nilp => true
  | .ptr p, .ptr q => decide (p = q)
  | .nils, .nils => true
  | .sl p a b c d, .sl q a' b' c' d' => decide (p = q) && a == a' && b == b' && c == c' && d == d'
  | .nilm, .nilm => true
  | .nilf, .nilf => true
  | .hnd a b, .hnd c d => a == c && b == d
  | .nili, .nili => true
  | .iface t v, .iface u w => t == u && v.beq w
  | .agg n xs, .agg m ys => n == m && beqL xs ys
  | .arr n xs, .arr m ys => n == m && beqL xs ys
  | .isl n xs, .isl m ys => n == m && beqL xs ys
  | .iptr v, .iptr w => v.beq w
  | .map i, .map j => i == j
  | _, _ => false
def beqL : List AV → List AV → Bool
  | [], [] => true
  | x :: xs, y :: ys => x.beq y && beqL xs ys
  | _, _ => false
end

/-- The part that a way leads to, and its flat offset. -/
def AV.at? : AV → List Nat → Option (Nat × AV)
  | v, [] => some (0, v)
  | .agg _ ps, i :: r => (ps[i]?).bind fun p => (p.at? r).map fun x => (sumLen (ps.take i) + x.1, x.2)
  | .arr e xs, i :: r => (xs[i]?).bind fun p => (p.at? r).map fun x => (e * i + x.1, x.2)
  | _, _ :: _ => none

def AV.put? : AV → List Nat → AV → Option AV
  | old, [], v => if old.flatLen = v.flatLen then some v else none
  | .agg n ps, i :: r, v => (ps[i]?).bind fun p => (p.put? r v).map fun p' => .agg n (ps.set i p')
  | .arr e xs, i :: r, v => (xs[i]?).bind fun p => (p.put? r v).map fun p' => .arr e (xs.set i p')
  | _, _ :: _, _ => none

structure Blk where
  root : AV
  grow : Bool
  flat : Bool
  deriving Inhabited

abbrev Heap := List (Option Blk)

/-! Types. -/
def tsize (P : Program) (t : TypeId) : Option Nat := (P.info? t).map (·.size)
def tbytes (P : Program) (t : TypeId) : Option Nat := (P.info? t).map (·.bytes)
def tagg (P : Program) (t : TypeId) : Option Bool := (P.underlying t).map fun d => match d with | .struct _ | .array _ _ => true | _ => false
def thasp (P : Program) (t : TypeId) : Bool := ((P.info? t).map (·.hasPointers)).getD true

/-- A constant's cell, as an abstract value. -/
def absCell : Value → Option AV
  | .bool b => some (.bool b)
  | .int k n => some (.int k n)
  | .string s => some (.str s)
  | .pointer none => some .nilp
  | .slice none 0 0 => some .nils
  | .map none => some .nilm
  | .nilFunc => some .nilf
  | .nilIface => some .nili
  | _ => none

def readMany (f : TypeId → List Value → Option (AV × List Value)) : List TypeId → List Value → Option (List AV × List Value)
  | [], cs => some ([], cs)
  | t :: ts, cs => (f t cs).bind fun x => (readMany f ts x.2).map fun y => (x.1 :: y.1, y.2)

/-- Cells, read at a type: the value, and what is left. -/
def absOf (P : Program) : Nat → TypeId → List Value → Option (AV × List Value)
  | 0, _, _ => none
  | d + 1, t, cs =>
    match P.underlying t with
    | some (.struct fs) => (readMany (absOf P d) (fs.toList.map (·.type)) cs).map fun x => (.agg (sumLen x.1) x.1, x.2)
    | some (.array n e) => (readMany (absOf P d) (List.replicate n e) cs).bind fun x => match x.1 with
      | [] => some (.arr 1 [], x.2)
      | v :: _ => if x.1.all (fun u => u.flatLen == v.flatLen) then some (.arr v.flatLen x.1, x.2) else none
    | some _ => match cs with
      | c :: r => (absCell c).map fun v => (v, r)
      | [] => none
    | none => none

def absWhole (P : Program) (t : TypeId) (cs : List Value) : Option AV :=
  match absOf P 20 t cs with
  | some (v, []) => some v
  | _ => none

def isAggV : Value → Bool
  | .agg _ => true
  | _ => false

def zeroAV (P : Program) (t : TypeId) : Option AV :=
  ((P.info? t).bind (·.zero)).bind fun z => (absWhole P t z.cells.toList).bind fun v => if v.isAgg = isAggV z then some v else none

/-- A constant operand. -/
def absConst : Value → Option AV
  | .func fn a b => if a.size = 0 ∧ b.size = 0 then some (.func fn [] []) else none
  | v => absCell v

def AV.scalar : AV → Option Value
  | .int k n => some (.int k n)
  | .bool b => some (.bool b)
  | .str s => some (.string s)
  | _ => none

def liftPure : Sem Value → Option AV
  | .pure (.int k n) => some (.int k n)
  | .pure (.bool b) => some (.bool b)
  | .pure (.string s) => some (.str s)
  | _ => none

/-! Memory. -/
def Heap.blk (H : Heap) (i : Nat) : Option Blk := (H[i]?).bind id

def loadAV (P : Program) (H : Heap) (t : TypeId) : AV → Option AV
  | .ptr p => (H.blk p.id).bind fun b => (b.root.at? p.path).bind fun x =>
      if b.root.flatLen = p.gen ∧ x.1 = p.coff ∧ tagg P t = some x.2.isAgg ∧ tsize P t = some x.2.flatLen then some x.2 else none
  | .iptr v => if tagg P t = some v.isAgg ∧ tsize P t = some v.flatLen then some v else none
  | _ => none

def storeAV (P : Program) (H : Heap) (t : TypeId) (a v : AV) : Option Heap :=
  match a with
  | .ptr p => (H.blk p.id).bind fun b => (b.root.at? p.path).bind fun x => (b.root.put? p.path v).bind fun r =>
      if b.root.flatLen = p.gen ∧ x.1 = p.coff ∧ tsize P t = some v.flatLen ∧ v.plain = true then some (H.set p.id (some ⟨r, b.grow, b.flat && v.refless⟩)) else none
  | _ => none

def newBlk (H : Heap) (v : AV) (grow flat : Bool) : Heap := H ++ [some ⟨v, grow, flat⟩]

def newVarAV (H : Heap) (v : AV) : AV × Heap := (.ptr ⟨H.length, 0, [], v.flatLen⟩, newBlk H v false v.refless)

/-- The elements of a slice. -/
def elemsAV (H : Heap) (sz : Nat) : AV → Option (List AV)
  | .nils => some []
  | .isl e xs => if e = sz then some xs else none
  | .sl p e n off len => (H.blk p.id).bind fun b => (b.root.at? p.path).bind fun x =>
      match x.2 with
      | .arr e' xs => if b.root.flatLen = p.gen ∧ x.1 = p.coff ∧ e = sz ∧ e' = sz ∧ xs.length = n ∧ off + len ≤ n then some ((xs.drop off).take len) else none
      | _ => none
  | _ => none

def setMany (xs : List AV) (off : Nat) (vs : List AV) : List AV := xs.take off ++ vs ++ xs.drop (off + vs.length)

def maxBytes : Nat := 2 ^ 46

mutual
/-- A value whose young slices become values of their own (their blocks are given up). -/
def freezeAV (n0 : Nat) : AV → Heap → Option (AV × Heap)
  | .sl p e n off len, H => if p.id < n0 then none else
      (elemsAV H e (.sl p e n off len)).bind fun xs => if reflessL xs && decide (0 < e) then some (.isl e xs, H.set p.id none) else none
  | .agg n ps, H => (freezeL n0 ps H).map fun x => (.agg n x.1, x.2)
  | .arr e xs, H => if reflessL xs then some (.arr e xs, H) else (freezeL n0 xs H).map fun x => (.arr e x.1, x.2)
  | v, H => some (v, H)
def freezeL (n0 : Nat) : List AV → Heap → Option (List AV × Heap)
  | [], H => some ([], H)
  | v :: vs, H => (freezeAV n0 v H).bind fun x => (freezeL n0 vs x.2).map fun y => (x.1 :: y.1, y.2)
end

/-- append -/
def appendAV (P : Program) (H : Heap) (elem : TypeId) (s : AV) (xs : List AV) : Option (AV × Heap) :=
  (tsize P elem).bind fun sz => (tbytes P elem).bind fun by_ =>
  match xs with
  | [] => match s with
    | .nils => some (.nils, H)
    | .sl p e n off len => some (.sl p e n off len, H)
    | .isl e ys => some (.isl e ys, H)
    | _ => none
  | x :: r => if (zeroAV P elem).map AV.flatLen = some sz ∧ (x :: r).all (fun u => u.flatLen == sz) ∧ 0 < sz then match s with
    | .nils => if (x :: r).length * by_ ≤ maxBytes ∧ (x :: r).length ≤ maxBytes then
        some (.sl ⟨H.length, 0, [], sz * (x :: r).length⟩ sz (x :: r).length 0 (x :: r).length, newBlk H (.arr sz (x :: r)) true (reflessL (x :: r))) else none
    | .sl p e n off len =>
      (H.blk p.id).bind fun b => (b.root.at? p.path).bind fun y =>
        match y.2 with
        | .arr e' ys =>
          if b.root.flatLen = p.gen ∧ y.1 = p.coff ∧ e = sz ∧ e' = sz ∧ ys.length = n ∧ off + len ≤ n then
            if off + len + (x :: r).length ≤ n then
              (b.root.put? p.path (.arr sz (setMany ys (off + len) (x :: r)))).map fun q => (.sl p sz n off (len + (x :: r).length), H.set p.id (some ⟨q, b.grow, b.flat && reflessL (x :: r)⟩))
            else if off = 0 ∧ len = n ∧ p.path = [] ∧ b.grow = true ∧ (n + (x :: r).length) * by_ ≤ maxBytes ∧ n + (x :: r).length ≤ maxBytes then
              some (.sl ⟨p.id, 0, [], sz * (n + (x :: r).length)⟩ sz (n + (x :: r).length) 0 (n + (x :: r).length), H.set p.id (some ⟨.arr sz (ys ++ (x :: r)), true, b.flat && reflessL (x :: r)⟩))
            else none
          else none
        | _ => none
    | _ => none
    else none

end Go.X
