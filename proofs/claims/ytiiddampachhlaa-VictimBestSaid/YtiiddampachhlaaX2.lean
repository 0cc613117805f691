/-
  An abstract evaluator for the translated programs: operations, regions, code, calls. Definitions alone.
-/
import Derived.Test.YtiiddampachhlaaX1
import Derived.Stop.Asserts
namespace Go.X

def strAV (s : ByteArray) : List AV := s.data.toList.map fun (b : UInt8) => AV.int .u8 b.toNat

def eqMany (P : Program) (f : TypeId → AV → AV → Option Bool) : List Field → Nat → List AV → List AV → Option Bool
  | [], _, [], [] => some true
  | fl :: fs, o, x :: xs, y :: ys =>
    if fl.offset = o ∧ tsize P fl.type = some x.flatLen ∧ y.flatLen = x.flatLen ∧ tagg P fl.type = some x.isAgg ∧ y.isAgg = x.isAgg then
      if fl.name ≠ "_" then (f fl.type x y).bind fun r => if r then eqMany P f fs (o + x.flatLen) xs ys else some false
      else eqMany P f fs (o + x.flatLen) xs ys
    else none
  | _, _, _, _ => none

def eqRep (P : Program) (f : TypeId → AV → AV → Option Bool) (e : TypeId) : List AV → List AV → Option Bool
  | [], [] => some true
  | x :: xs, y :: ys => if tagg P e = some x.isAgg ∧ y.isAgg = x.isAgg then (f e x y).bind fun r => if r then eqRep P f e xs ys else some false else none
  | _, _ => none

/-- '==' where it can be told. -/
def eqAV (P : Program) : Nat → TypeId → AV → AV → Option Bool
  | 0, _, _, _ => none
  | d + 1, t, x, y =>
    match P.underlying t, x, y with
    | some .bool, .bool a, .bool b => some (a == b)
    | some (.int _), .int k a, .int k' b => if k = k' then some (a == b) else none
    | some .string, .str a, .str b => some (a == b)
    | some (.pointer _), .nilp, .nilp => some true
    | some (.pointer _), .nilp, .ptr _ => some false
    | some (.pointer _), .ptr _, .nilp => some false
    | some (.pointer _), .nilp, .iptr _ => some false
    | some (.pointer _), .iptr _, .nilp => some false
    | some (.interface _), .nili, .nili => some true
    | some (.interface _), .nili, .iface _ _ => some false
    | some (.interface _), .iface _ _, .nili => some false
    | some (.interface _), .iface tx vx, .iface ty vy => if tx ≠ ty then some false else
        if ((P.info? tx).map (·.comparable)) = some true then eqAV P d tx vx vy else none
    | some (.struct fs), .agg _ xs, .agg _ ys => if P.stoodInHeld t then none else eqMany P (eqAV P d) fs.toList 0 xs ys
    | some (.array n e), .arr a xs, .arr b ys => if tsize P e = some a ∧ a = b ∧ xs.length = n then eqRep P (eqAV P d) e xs ys else none
    | some (.slice _), .nils, .nils => some true
    | some (.slice _), .nils, .sl .. => some false
    | some (.slice _), .sl .., .nils => some false
    | some (.slice _), .nils, .isl .. => some false
    | some (.slice _), .isl .., .nils => some false
    | some (.func ..), .nilf, .nilf => some true
    | some (.func ..), .nilf, .func .. => some false
    | some (.func ..), .func .., .nilf => some false
    | some (.map ..), .nilm, .nilm => some true
    | some (.map ..), .nilm, .map _ => some false
    | some (.map ..), .map _, .nilm => some false
    | _, _, _ => none

/-- Parts laid into a value. -/
def fillAV (place : Nat → Option (Nat × Nat)) : AV → List (Nat × AV) → Option AV
  | acc, [] => some acc
  | acc, (i, v) :: r => (place i).bind fun x => (acc.at? [i]).bind fun y =>
      if y.1 = x.1 ∧ v.flatLen = x.2 ∧ v.plain = true then (acc.put? [i] v).bind fun acc' => fillAV place acc' r else none

def structPlace (P : Program) (fs : List Field) (i : Nat) : Option (Nat × Nat) := (fs[i]?).bind fun f => (tsize P f.type).map fun s => (f.offset, s)

def buildAV (P : Program) (t : TypeId) (parts : List (Nat × AV)) : Option AV :=
  (zeroAV P t).bind fun z => if z.isAgg = false then none else match P.underlying t with
    | some (.struct fs) => if fs.toList.all (fun f => (tsize P f.type).isSome) then fillAV (structPlace P fs.toList) z parts else none
    | some (.array _ e) => (tsize P e).bind fun s => fillAV (fun i => some (i * s, s)) z parts
    | _ => none

/-- An int as an index. -/
def AV.idx : AV → Option Nat
  | .int _ n => if 0 ≤ n then some n.toNat else none
  | _ => none

def AV.len : AV → Option Nat
  | .str s => some s.size
  | .nils => some 0
  | .isl _ xs => some xs.length
  | .sl _ _ _ _ len => some len
  | _ => none

def bnd (d : Nat) (x : Option AV) : Option Nat :=
  match x with
  | none => some d
  | some v => v.idx

def sliceAV (P : Program) (H : Heap) (t : TypeId) (x : AV) (lo hi : Option AV) : Option AV :=
  match P.underlying t, x with
  | some (.array n e), .ptr p => (tsize P e).bind fun sz =>
      (bnd n hi).bind fun h => (bnd 0 lo).bind fun l =>
      (H.blk p.id).bind fun b => (b.root.at? p.path).bind fun y => match y.2 with
      | .arr e' xs => if l ≤ h ∧ h ≤ n ∧ b.root.flatLen = p.gen ∧ y.1 = p.coff ∧ e' = sz ∧ xs.length = n then some (.sl p sz n l (h - l)) else none
      | _ => none
  | some (.array n e), .iptr (.arr sz xs) =>
      (bnd n hi).bind fun h => (bnd 0 lo).bind fun l =>
      if l ≤ h ∧ h ≤ n ∧ xs.length = n ∧ tsize P e = some sz then some (.isl sz ((xs.drop l).take (h - l))) else none
  | some .string, .str s =>
      (bnd s.size hi).bind fun h => (bnd 0 lo).bind fun l =>
      if l ≤ h ∧ h ≤ s.size then some (.str (s.extract l h)) else none
  | some (.slice e), .sl p sz n off len =>
      (bnd len hi).bind fun h => (bnd 0 lo).bind fun l =>
      if l ≤ h ∧ off + h ≤ n ∧ tsize P e = some sz ∧ (h ≤ len ∨ (H.blk p.id).map (fun (b : Blk) => b.root.flatLen) = some p.gen) then some (.sl p sz n (off + l) (h - l)) else none
  | some (.slice e), .isl sz xs =>
      (bnd xs.length hi).bind fun h => (bnd 0 lo).bind fun l =>
      if l ≤ h ∧ h ≤ xs.length ∧ tsize P e = some sz then some (.isl sz ((xs.drop l).take (h - l))) else none
  | some (.slice e), .nils =>
      (bnd 0 hi).bind fun h => (bnd 0 lo).bind fun l =>
      if l = 0 ∧ h = 0 ∧ (tsize P e).isSome = true then some .nils else none
  | _, _ => none

/-- 's[l:h:m]', where no more than the length is asked for: of what comes of it nothing is told. -/
def slice3AV (P : Program) (t : TypeId) (x : AV) (lo : Option AV) (hi m : AV) : Option AV :=
  match P.underlying t, x with
  | some (.slice _), .str _ => none
  | some (.slice e), x => (tsize P e).bind fun _ => x.len.bind fun n => m.idx.bind fun m => hi.idx.bind fun h => (bnd 0 lo).bind fun l =>
      if l ≤ h ∧ h ≤ m ∧ m ≤ n then some .bad else none
  | _, _ => none

def fieldOf (P : Program) (t : TypeId) (f : Nat) : Option Field :=
  match P.underlying t with
  | some (.struct fs) => fs[f]?
  | _ => none

def fieldAV (P : Program) (t : TypeId) (x : AV) (f : Nat) : Option AV :=
  match x with
  | .agg _ ps => (fieldOf P t f).bind fun fl => (ps[f]?).bind fun p =>
      if sumLen (ps.take f) = fl.offset ∧ tagg P fl.type = some p.isAgg ∧ tsize P fl.type = some p.flatLen then some p else none
  | _ => none

def fieldAddrAV (P : Program) (t : TypeId) (x : AV) (f : Nat) : Option AV :=
  (fieldOf P t f).bind fun fl => (tsize P fl.type).bind fun sz => if sz = 0 then none else
  match x with
  | .ptr p => some (.ptr { p with coff := p.coff + fl.offset, path := p.path ++ [f] })
  | .iptr (.agg _ ps) => (ps[f]?).bind fun q => if sumLen (ps.take f) = fl.offset then some (.iptr q) else none
  | _ => none

def indexAddrAV (P : Program) (t : TypeId) (x : AV) (i : AV) : Option AV :=
  i.idx.bind fun i =>
  match P.underlying t, x with
  | some (.array n e), .ptr p => (tsize P e).bind fun sz => if i < n then some (.ptr { p with coff := p.coff + i * sz, path := p.path ++ [i] }) else none
  | some (.array n e), .iptr (.arr sz xs) => if i < n ∧ tsize P e = some sz then (xs[i]?).map .iptr else none
  | some (.slice e), .sl p sz _ off len => if i < len ∧ tsize P e = some sz then some (.ptr { p with coff := p.coff + (off + i) * sz, path := p.path ++ [off + i] }) else none
  | some (.slice e), .isl sz xs => if tsize P e = some sz then (xs[i]?).map .iptr else none
  | _, _ => none

def indexAV (P : Program) (t : TypeId) (x : AV) (i : AV) : Option AV :=
  i.idx.bind fun i =>
  match P.underlying t, x with
  | some (.array n e), .arr sz xs => if i < n ∧ tsize P e = some sz then (xs[i]?).bind fun v => if tagg P e = some v.isAgg then some v else none else none
  | some .string, .str s => (s.data[i]?).map fun b => .int .u8 b.toNat
  | _, _ => none

def bytesOf : List AV → Option (List UInt8)
  | [] => some []
  | .int .u8 n :: r => (bytesOf r).map (UInt8.ofNat n.toNat :: ·)
  | _ => none

def convertAV (P : Program) (H : Heap) (src dst : TypeId) (x : AV) : Option (AV × Heap) :=
  match P.underlying src, P.underlying dst, x with
  | some _, some (.int k), .int _ n => some (.int k (k.wrap n), H)
  | some .string, some .string, .str s => some (.str s, H)
  | some .string, some (.slice e), .str s =>
      match P.underlying e with
      | some (.int .u8) => if tsize P e = some 1 then some (.sl ⟨H.length, 0, [], s.size⟩ 1 s.size 0 s.size, newBlk H (.arr 1 (strAV s)) true true) else none
      | _ => none
  | some (.slice e), some .string, x =>
      match P.underlying e with
      | some (.int .u8) => (elemsAV H 1 x).bind fun xs => (bytesOf xs).map fun l => (.str ⟨l.toArray⟩, H)
      | _ => none
  | _, _, _ => none

/-- Is a method missing? (Which one would be named is not asked.) -/
def missingB (want : Array (String × TypeId)) (got : Array Method) : Bool := !(lacking want got).isEmpty

def typeAssertAV (P : Program) (x : AV) (asserted : TypeId) (ok : Bool) : Option AV :=
  let holds (v : AV) : Option AV := some (if ok then .tuple [v, .bool true] else v)
  let fails : Option AV := if ok then (zeroAV P asserted).map fun z => .tuple [z, .bool false] else none
  match P.underlying asserted, x with
  | some (.interface _), .nili => fails
  | some (.interface want), .iface t v => (P.info? t).bind fun i => if missingB want i.methods then fails else holds (.iface t v)
  | some _, .nili => fails
  | some _, .iface t v => if t = asserted then holds v else fails
  | _, _ => none

/-- What is appended or copied. -/
def srcAV (H : Heap) (sz : Nat) : AV → Option (List AV)
  | .str b => if sz = 1 then some (strAV b) else none
  | x => elemsAV H sz x

/-- The kinds of what may be appended or copied. -/
def srcKind : TypeDesc → Bool
  | .slice _ | .string => true
  | _ => false

def copyAV (P : Program) (H : Heap) (t : TypeId) (d s : AV) : Option (AV × Heap) :=
  match P.underlying t with
  | some (.slice e) => (tsize P e).bind fun sz =>
    (srcAV H sz s).bind fun xs =>
    match d with
    | .nils => some (.int .i64 0, H)
    | .sl p e n off len =>
      (H.blk p.id).bind fun b => (b.root.at? p.path).bind fun x =>
        match x.2 with
        | .arr e' ys =>
          let k := min xs.length len
          if b.root.flatLen = p.gen ∧ x.1 = p.coff ∧ e = sz ∧ e' = sz ∧ ys.length = n ∧ off + len ≤ n ∧ xs.all (fun u => u.flatLen == sz) then
            (b.root.put? p.path (.arr sz (setMany ys off (xs.take k)))).map fun r => (.int .i64 k, H.set p.id (some ⟨r, b.grow, b.flat && reflessL xs⟩))
          else none
        | _ => none
    | _ => none
  | _ => none

def clearAV (P : Program) (H : Heap) (t : TypeId) (d : AV) : Option (AV × Heap) :=
  match P.underlying t, d with
  | some _, .nils => some (.tuple [], H)
  | some (.slice e), .sl p sz n off len => (zeroAV P e).bind fun z => (tsize P e).bind fun sz' =>
      (H.blk p.id).bind fun b => (b.root.at? p.path).bind fun x =>
        match x.2 with
        | .arr e' ys =>
          if b.root.flatLen = p.gen ∧ x.1 = p.coff ∧ sz = sz' ∧ e' = sz ∧ ys.length = n ∧ off + len ≤ n ∧ z.flatLen = sz ∧ 0 < len then
            (b.root.put? p.path (.arr sz (setMany ys off (List.replicate len z)))).map fun r => (.tuple [], H.set p.id (some ⟨r, b.grow, b.flat⟩))
          else none
        | _ => none
  | _, _ => none

/-- What the evaluation of a function's text needs from outside: what its callees do. -/
abbrev Oracle := FuncId → List AV → Heap → Option (AV × Heap × Bool)

/-- A region that draws its order: one order that it may have, and at which other memories of the way (by number) an operation that reads may come; and which operations that make a block may come ahead of their place. -/
structure RAnn where
  order : List Nat
  chk : List (Nat × List Nat)
  flo : List Nat

structure FAnn where
  exp : Nat
  keys : List Nat
  keep : List (Nat × Nat)
  ord : List (Nat × RAnn)
  frz : Bool

/-- What lies about the program: what functions without a body here do; what package-level variables hold. -/
structure Out where
  X : Oracle
  G : Nat → Option AV

structure Ctx where
  P : Program
  K : Oracle
  n0 : Nat
  N : Nat
  A : FAnn
  U : Out

structure St where
  L : List (Nat × AV)
  T : List (Nat × AV)
  H : Heap
  esc : Bool

def look (l : List (Nat × AV)) (t : Nat) : AV :=
  match l with
  | [] => .bad
  | (k, v) :: r => if k = t then v else look r t

def upd (l : List (Nat × AV)) (t : Nat) (v : AV) : List (Nat × AV) :=
  match l with
  | [] => []
  | (k, u) :: r => if k = t then (k, v) :: r else (k, u) :: upd r t v

def St.get (A : FAnn) (s : St) (t : Nat) : AV := if A.exp.testBit t then look s.L t else look s.T t
def St.set (A : FAnn) (s : St) (t : Nat) (v : AV) : St := if A.exp.testBit t then { s with L := upd s.L t v } else { s with T := (t, v) :: s.T }

def St.eval (A : FAnn) (s : St) : Operand → AV
  | .tmp t => s.get A t
  | .const v => (absConst v).getD .bad
  | .global _ => .bad
  | .func f => .func (.func f) [] []

/-- The function that a value leads to, and all arguments. -/
def calleeAV (P : Program) (f : AV) (args : List AV) : Option (FuncId × List AV) :=
  match f with
  | .func (.func f) first captured => some (f, first ++ args ++ captured)
  | .iface _ _ => none
  | _ => let _ := P; none

def methodAV (P : Program) (recv : AV) (name : String) : Option (FuncId × AV) :=
  match recv with
  | .iface t v => (P.info? t).bind fun i => (i.methods.find? (·.name == name)).bind fun m =>
      if m.path.isEmpty then m.func.bind fun (f, pr) => match P.underlying t, pr with
        | some (.pointer _), true => some (f, v)
        | some (.pointer _), false => none
        | some _, false => some (f, v)
        | _, _ => none
      else match m.path.toList with
        | [st] => if st.deref then none else m.func.bind fun (f, pr) => match P.underlying st.struct with
          | some (.struct fs) => (fs[st.index]?).bind fun fl => (fieldAV P st.struct v st.index).bind fun q => match P.underlying fl.type, pr with
            | some (.pointer _), true => some (f, q)
            | _, _ => none
          | _ => none
        | _ => none
  | _ => none

/-- Does a store of v into block i put a young reference into an old block? -/
def escapes (n0 i : Nat) (v : AV) : Bool := decide (i < n0) && !v.refless

def storeFlag (n0 : Nat) (a v : AV) : Bool :=
  match a with
  | .ptr p => escapes n0 p.id v
  | _ => false

def appendFlag (n0 : Nat) (x : AV) (xs : List AV) : Bool :=
  match x with
  | .sl p _ _ _ _ => decide (p.id < n0) && !reflessL xs
  | _ => false

def copyFlag (n0 : Nat) (H' : Heap) (d : AV) : Bool :=
  match d with
  | .sl p _ _ _ _ => decide (p.id < n0) && !(match H'.blk p.id with | some b => b.flat | none => false)
  | _ => false

def enterAV (C : Ctx) (f : FuncId) (args : List AV) (s : St) : Option (AV × Heap × Bool) :=
  match C.P.funcs[f]? with
  | some fn => match fn.body with
    | some _ => if fn.name ≠ "runtime.NumGoroutine" then C.K f args s.H else none
    | none => C.U.X f args s.H
  | none => none

def isConstO : Operand → Bool
  | .const _ => true
  | _ => false

def tiface (P : Program) (t : TypeId) : Bool := match P.underlying t with | some (.interface _) => true | _ => false

/-- '==', with the care that two nil values of an interface's type want. -/
def eqNil (P : Program) (t : TypeId) (x y : Operand) (a b : AV) : Option Bool :=
  match a, b with
  | .nili, .nili => if (isConstO x || isConstO y) && tiface P t then some true else none
  | a, b => eqAV P 30 t a b

def evalBuiltin (C : Ctx) (b : Builtin) (argTypes : Array TypeId) (args : List AV) (s : St) : Option (AV × Heap × Bool) :=
  let q (r : Option AV) : Option (AV × Heap × Bool) := r.map fun v => (v, s.H, false)
  match b, args with
  | .len, [x] => (argTypes[0]?).bind fun t => match C.P.underlying t with
      | some (.array n _) => q (some (.int .i64 n))
      | some (.pointer a) => match C.P.underlying a with
        | some (.array n _) => q (some (.int .i64 n))
        | _ => none
      | some .string => match x with | .str s => q (some (.int .i64 s.size)) | _ => none
      | some (.slice _) => match x with | .str _ => none | x => q (x.len.map fun (n : Nat) => AV.int .i64 (n : Int))
      | _ => none
  | .min, x :: xs => q ((x.scalar).bind fun c => (xs.mapM AV.scalar).bind fun cs => liftPure (cs.foldlM Builtin.min2 c))
  | .max, x :: xs => q ((x.scalar).bind fun c => (xs.mapM AV.scalar).bind fun cs => liftPure (cs.foldlM Builtin.max2 c))
  | .append, [x, y] => (argTypes[0]?).bind fun t => (argTypes[1]?).bind fun u => match C.P.underlying t, C.P.underlying u with
      | some (.slice e), some d => if srcKind d = false then none else (tsize C.P e).bind fun sz =>
        (srcAV s.H sz y).bind fun xs =>
        (if C.A.frz && !reflessL xs then freezeL C.n0 xs s.H else some (xs, s.H)).bind fun (z : List AV × Heap) =>
        (appendAV C.P z.2 e x z.1).map fun (r : AV × Heap) => (r.1, r.2, appendFlag C.n0 x z.1)
      | _, _ => none
  | .copy, [d, x] => (argTypes[0]?).bind fun t => (copyAV C.P s.H t d x).map fun r => (r.1, r.2, copyFlag C.n0 r.2 d)
  | .clear, [d] => (argTypes[0]?).bind fun t => (clearAV C.P s.H t d).map fun r => (r.1, r.2, false)
  | _, _ => none

def evalOp (C : Ctx) (s : St) (op : Op) (_type : TypeId) : Option (AV × Heap × Bool) :=
  let ρ := s.eval C.A
  let q (r : Option AV) : Option (AV × Heap × Bool) := r.map fun v => (v, s.H, false)
  match op with
  | .move x | .assign x => q (some (ρ x))
  | .pick c a b => match ρ c with | .bool true => q (some (ρ a)) | .bool false => q (some (ρ b)) | _ => none
  | .alloc t => (zeroAV C.P t).map fun z => let r := newVarAV s.H z; (r.1, r.2, false)
  | .box _ x => let v := ρ x; if v.plain then let r := newVarAV s.H v; some (r.1, r.2, false) else none
  | .build t parts => q (buildAV C.P t (parts.toList.map fun x => (x.1, ρ x.2)))
  | .buildSlice t len parts => match C.P.underlying t with
      | some (.slice e) => (tsize C.P e).bind fun sz => if len * sz ≤ 2 ^ 20 ∧ 0 < sz then
          (if len = 0 then (if parts.toList.isEmpty then some (.arr sz []) else none) else (zeroAV C.P e).bind fun z => if z.flatLen = sz then
            fillAV (fun i => some (i * sz, sz)) (.arr sz (List.replicate len z)) (parts.toList.map fun x => (x.1, ρ x.2)) else none).map fun r =>
          (.sl ⟨s.H.length, 0, [], sz * len⟩ sz len 0 len, newBlk s.H r true r.refless, false) else none
      | _ => none
  | .load t (.global g) => q ((C.U.G g).bind fun v => loadAV C.P s.H t (.iptr v))
  | .load t a => q (loadAV C.P s.H t (ρ a))
  | .store t a x => (storeAV C.P s.H t (ρ a) (ρ x)).map fun H' => (.bad, H', storeFlag C.n0 (ρ a) (ρ x))
  | .nilCheck x => match ρ x with
      | .ptr p => q (some (.ptr p))
      | .iptr v => q (some (.iptr v))
      | .iface t v => q (some (.iface t v))
      | .func (.func f) a b => q (some (.func (.func f) a b))
      | _ => none
  | .binOp o t x y _ =>
      match (ρ x).scalar, (ρ y).scalar with
      | some cx, some cy => q (liftPure (binOp o t cx cy))
      | none, none => if (ρ x).isAgg && C.P.eqGuardType C.P.depth t then none else match o with
        | .eql => q ((eqNil C.P t x y (ρ x) (ρ y)).map .bool)
        | .neq => q ((eqNil C.P t x y (ρ x) (ρ y)).map fun r => .bool !r)
        | _ => none
      | _, _ => none
  | .unOp o _ x => q ((ρ x).scalar.bind fun c => liftPure (Op.unary o c))
  | .convert src dst x => (convertAV C.P s.H src dst (ρ x)).map fun r => (r.1, r.2, false)
  | .sliceToArrayPointer t x => match C.P.underlying t, ρ x with
      | some (.array n e), .sl p sz m 0 len => if n ≤ len ∧ n = m ∧ 0 < n ∧ tsize C.P e = some sz then q (some (.ptr p)) else none
      | some (.array n e), .isl sz xs => if (0 < n ∧ n ≤ xs.length) ∧ tsize C.P e = some sz then q (some (.iptr (.arr sz (xs.take n)))) else none
      | _, _ => none
  | .makeInterface t x => match C.P.underlying t with
      | some (.interface _) => none
      | some _ => if (ρ x).plain then q (some (.iface t (ρ x))) else none
      | none => none
  | .makeFunc fn first captured => match fn with
      | .func _ => let a := first.toList.map ρ; let b := captured.toList.map ρ; if (a ++ b).all (fun v => v.plain && !v.isAgg) then q (some (.func fn a b)) else none
      | _ => none
  | .makeSlice t l c => match C.P.underlying t with
      | some (.slice e) => (tsize C.P e).bind fun sz => (tbytes C.P e).bind fun by_ => (ρ l).idx.bind fun l => (ρ c).idx.bind fun c => (zeroAV C.P e).bind fun z =>
          if l ≤ c ∧ c * by_ ≤ maxBytes ∧ c ≤ maxBytes ∧ z.flatLen = sz ∧ 0 < sz then
            some (.sl ⟨s.H.length, 0, [], sz * l⟩ sz l 0 l, newBlk s.H (.arr sz (List.replicate l z)) true true, false) else none
      | _ => none
  | .slice t x lo hi none => q (sliceAV C.P s.H t (ρ x) (lo.map ρ) (hi.map ρ))
  | .slice t x lo (some hi) (some m) => q (slice3AV C.P t (ρ x) (lo.map ρ) (ρ hi) (ρ m))
  | .fieldAddr t x f => q (fieldAddrAV C.P t (ρ x) f)
  | .field t x f => q (fieldAV C.P t (ρ x) f)
  | .indexAddr t x i => q (indexAddrAV C.P t (ρ x) (ρ i))
  | .index t x i => q (indexAV C.P t (ρ x) (ρ i))
  | .typeAssert x _ asserted ok => q (typeAssertAV C.P (ρ x) asserted ok)
  | .extract t i => match ρ t with | .tuple vs => q (vs[i]?) | _ => none
  | .call c =>
      let args := c.args.toList.map ρ
      match c.callee with
      | .builtin b => evalBuiltin C b c.argTypes args s
      | .value f => (calleeAV C.P (ρ f) args).bind fun x => enterAV C x.1 x.2 s
      | .invoke r m => (methodAV C.P (ρ r) m).bind fun x => enterAV C x.1 (x.2 :: args) s
  | _ => none


end Go.X
