/-
  An abstract evaluator for the translated programs: regions, code, calls. Definitions alone.
-/
import Derived.Test.YtiiddampachhlaaX19
namespace Go.X

def wantedAV (A : FAnn) (ops : List Oper) (s : St) (o : Oper) : Option Bool :=
  match o.guard with
  | none => some true
  | some (j, want) => match (ops[j]?).bind (·.dst) with
    | some d => match s.get A d with
      | .bool b => some (b == want)
      | .undf => some false
      | _ => none
    | none => none

/-- Does an operation change memory? -/
def isLoud (P : Program) : Op → Bool
  | .move _ | .assign _ | .pick .. | .build .. | .load .. | .nilCheck _ | .binOp .. | .unOp .. | .makeInterface .. | .makeFunc .. | .slice .. | .fieldAddr .. | .field .. | .indexAddr .. | .index ..
  | .typeAssert .. | .extract .. | .sliceToArrayPointer .. => false
  | .convert _ d _ => match P.underlying d with | some (.slice _) => true | _ => false
  | .call { callee := .builtin b, .. } => match b with | .len | .min | .max => false | _ => true
  | _ => true

/-- Does an operation that changes none look into memory? -/
def isRead : Op → Bool
  | .load .. | .slice .. | .convert .. => true
  | _ => false

/-- One operation of a region. -/
def stepOp (C : Ctx) (ops : List Oper) (s : St) (o : Oper) : Option St :=
  (wantedAV C.A ops s o).bind fun w =>
    if w then (evalOp C s o.op o.type).map fun r =>
      let s' := { s with H := r.2.1, esc := s.esc || r.2.2 }
      match o.dst with
      | some d => s'.set C.A d (if d < C.N then r.1 else .bad)
      | none => s'
    else some (match o.dst with | some d => s.set C.A d .undf | none => s)

def runOps (C : Ctx) (ops : List Oper) : List Oper → St → Option St
  | [], s => some s
  | o :: r, s => (stepOp C ops s o).bind (runOps C ops r)

/-- Operations that make one block, and do nothing else. -/
def isAllocOp : Op → Bool
  | .alloc _ | .box .. | .buildSlice .. | .makeSlice .. => true
  | _ => false

/-- The newest block leads to none. -/
def lastBare (H : Heap) : Bool := match H.getLast? with
  | some (some b) => b.root.refs.isEmpty
  | _ => false

/-- A region that draws its order: in the order that the notes give; and the memories on the way. -/
def runOrd (C : Ctx) (ops : List Oper) (flo : List Nat) : List Nat → St → Option (St × List (Heap × Bool))
  | [], s => some (s, [])
  | i :: r, s => (ops[i]?).bind fun o => (stepOp C ops s o).bind fun s' => if flo.contains i && !lastBare s'.H then none else
      (runOrd C ops flo r s').map fun x => (x.1, if isLoud C.P o.op then (s'.H, s'.esc) :: x.2 else x.2)

def AV.isBad : AV → Bool
  | .bad => true
  | _ => false

/-- An operation that reads, looked at with another memory of the way. -/
def chkOne (C : Ctx) (ops : List Oper) (s : St) (o : Oper) (H : Heap) : Bool :=
  match wantedAV C.A ops s o with
  | some true => (match evalOp C { s with H } o.op o.type with
    | some r => (match o.dst with | some d => (s.get C.A d).isBad || (decide (d < C.N) && r.1.beq (s.get C.A d)) | none => true)
    | none => false)
  | some false => true
  | none => false

def chkAll (C : Ctx) (ops : List Oper) (s : St) (hs : List (Heap × Bool)) (l : List (Nat × List Nat)) : Bool :=
  l.all fun x => match ops[x.1]? with
    | some o => x.2.all fun p => match hs[p]? with
      | some h => chkOne C ops s o h.1
      | none => true
    | none => true

def runRegion (C : Ctx) (id : Nat) (ops : Array Oper) (draw : Bool) (s : St) : Option St :=
  let s := { s with T := [] }
  if draw then
    match C.A.ord.lookup id with
    | some a => (runOrd C ops.toList a.flo a.order s).bind fun x => if chkAll C ops.toList x.1 ((s.H, s.esc) :: x.2) a.chk then some x.1 else none
    | none => none
  else runOps C ops.toList ops.toList s

/-! What is asked of the notes on a region that draws its order. -/
def precs (o : Oper) : List Nat := o.after.toList.filterMap fun e => if Region.binds .any e then some e.on else none

/-- Who comes before for sure, as a mask. -/
def ancOf (tab : List (Nat × Nat)) : List Nat → Option Nat
  | [] => some 0
  | j :: r => (tab.lookup j).bind fun x => (ancOf tab r).map fun y => 2 ^ j ||| x ||| y

def tmpList (xs : List Operand) : List Nat := xs.filterMap fun | .tmp t => some t | _ => none

def readsOf (ops : List Oper) (o : Oper) : List Nat :=
  tmpList o.op.operands.toList ++ (match o.guard with | some (j, _) => ((ops[j]?).bind (·.dst)).toList | none => [])

def dstsMask (ops : List Oper) : Nat := ops.foldr (fun o m => (match o.dst with | some d => 2 ^ d | none => 0) ||| m) 0

def dstsOk : List Oper → Bool
  | [] => true
  | o :: r => (match o.dst with | some d => !(dstsMask r).testBit d | none => true) && dstsOk r

/-- The notes on who comes before. -/
def ancTab (ops : List Oper) : List Nat → List (Nat × Nat) → Option (List (Nat × Nat))
  | [], tab => some tab
  | i :: r, tab => (ops[i]?).bind fun o => (ancOf tab (precs o)).bind fun x =>
      if (tab.lookup i).isNone then ancTab ops r ((i, x) :: tab) else none

def bef (tab : List (Nat × Nat)) (i j : Nat) : Bool := match tab.lookup j with | some x => x.testBit i | none => false

def loudAt (P : Program) (ops : List Oper) (i : Nat) : Bool := match ops[i]? with | some o => isLoud P o.op | none => false

/-- Whoever writes what an operation reads comes before it for sure, or after it for sure. -/
def availOk (ops : List Oper) (tab : List (Nat × Nat)) : Bool :=
  (List.range ops.length).all fun j => match (ops[j]?).bind (·.dst) with
    | some t => (List.range ops.length).all fun i => match ops[i]? with
      | some o => !(readsOf ops o).contains t || bef tab j i || (bef tab i j && !isRead o.op)
      | none => true
    | none => true

/-- x, then y: for sure; or y only makes a block, and who reads of it comes behind x. -/
def pairOk (ops : List Oper) (tab : List (Nat × Nat)) (flo : List Nat) (x y : Nat) : Bool :=
  bef tab x y || (flo.contains y && match ops[y]? with
    | some o => isAllocOp o.op && o.guard.isNone && (match o.dst with
      | some t => (List.range ops.length).all fun d => match ops[d]? with
        | some o' => !(readsOf ops o').contains t || bef tab x d || bef tab d y
        | none => true
      | none => false)
    | none => false)

def pairsOk (ops : List Oper) (tab : List (Nat × Nat)) (flo : List Nat) : List Nat → Bool
  | [] => true
  | x :: r => r.all (pairOk ops tab flo x) && pairsOk ops tab flo r

def possible (tab : List (Nat × Nat)) (louds : List Nat) (i p : Nat) : Bool :=
  (louds.take p).all (fun x => !bef tab i x) && match louds.drop p with
    | x :: _ => !bef tab x i
    | [] => true

def readsOk (P : Program) (ops : List Oper) (tab : List (Nat × Nat)) (louds : List Nat) (chk : List (Nat × List Nat)) : List Nat → Nat → Bool
  | [], _ => true
  | i :: r, k => (match ops[i]? with
    | some o => (isLoud P o.op || !isRead o.op || (List.range (louds.length + 1)).all fun p => p == k || ((chk.lookup i).getD []).contains p || !possible tab louds i p) &&
        readsOk P ops tab louds chk r (if isLoud P o.op then k + 1 else k)
    | none => false)

def regionOk (P : Program) (ops : List Oper) (a : RAnn) : Bool :=
  dstsOk ops && (List.range ops.length).all (fun i => a.order.contains i) &&
  match ancTab ops a.order [] with
  | some tab => let louds := a.order.filter (loudAt P ops); availOk ops tab && pairsOk ops tab a.flo louds && readsOk P ops tab louds a.chk a.order 0
  | none => false

def codeOk (P : Program) (A : FAnn) : Code → Bool
  | .region id ops true => match A.ord.lookup id with
    | some a => regionOk P ops.toList a
    | none => true
  | .seq a b | .cond _ a b => codeOk P A a && codeOk P A b
  | .block _ c | .loop c => codeOk P A c
  | _ => true

def funcOk (P : Program) (A : FAnn) (f : FuncId) : Bool := match (P.funcs[f]?).bind (·.body) with | some c => codeOk P A c | none => true

inductive Ex where
  | normal
  | exit (id : Nat)
  | ret
  deriving DecidableEq, Inhabited

/-! Sweeping: what no root leads to is given up. -/
def reach (H : Heap) (n0 : Nat) : Nat → List Nat → List Nat → Option (List Nat)
  | _, [], seen => some seen
  | 0, _ :: _, _ => none
  | k + 1, i :: todo, seen =>
    if i < n0 then reach H n0 k todo seen
    else if seen.contains i then reach H n0 k todo seen
    else match H.blk i with
      | some b => reach H n0 k (if b.flat then todo else b.root.refs ++ todo) (i :: seen)
      | none => reach H n0 k todo (i :: seen)

/-- Blocks from number i on: those of the list stay, the last ones that do not are cut off. -/
def prune (keep : List Nat) : Nat → Heap → Heap
  | _, [] => []
  | i, b :: r => match prune keep (i + 1) r with
    | [] => if keep.contains i then [b] else []
    | r' => (if keep.contains i then b else none) :: r'

def oldRefs (H : Heap) (n0 : Nat) : List Nat :=
  (H.take n0).flatMap fun b => match b with | some b => if b.flat then [] else b.root.refs | none => []

/-- Blocks from n0 on that the roots do not lead to are given up. -/
def sweep (H : Heap) (n0 : Nat) (roots : List Nat) (esc : Bool) : Option Heap :=
  if H.length = n0 then some H else
  (reach H n0 1000 (roots ++ (if esc then oldRefs H n0 else [])) []).map fun keep => H.take n0 ++ prune keep n0 (H.drop n0)

def maskL (m : Nat) (l : List (Nat × AV)) : List (Nat × AV) := l.map fun x => if m.testBit x.1 then x else (x.1, .bad)

def rootsL (l : List (Nat × AV)) : List Nat := l.flatMap fun x => x.2.refs

/-- The head of a loop: what is not kept is forgotten, and its blocks with it. -/
def headSt (C : Ctx) (m : Nat) (s : St) : Option St :=
  let L := maskL m s.L
  (sweep s.H C.n0 (rootsL L) s.esc).map fun H => { s with L, T := [], H }

/-- A loop, as far as it goes round no more than k times. -/
def loopN (hd : St → Option St) (body : St → Option (Ex × St)) : Nat → St → Option (Ex × St)
  | 0, _ => none
  | k + 1, s => (hd s).bind fun s => (body s).bind fun x => match x.1 with
      | .normal => loopN hd body k x.2
      | e => some (e, x.2)

/-- Code, as far as no loop goes round more than 'fuel' times. 'cur': the block that we are right in. -/
def evalC (C : Ctx) (fuel : Nat) : Nat → Code → St → Option (Ex × St)
  | _, .skip, s => some (.normal, s)
  | _, .region id ops draw, s => (runRegion C id ops draw s).map fun s => (.normal, s)
  | cur, .seq a b, s => (evalC C fuel cur a s).bind fun x => match x.1 with
      | .normal => evalC C fuel cur b x.2
      | e => some (e, x.2)
  | cur, .cond c a b, s => match s.eval C.A c with
      | .bool true => evalC C fuel cur a s
      | .bool false => evalC C fuel cur b s
      | _ => none
  | _, .block id c, s => (evalC C fuel id c s).map fun x => match x.1 with
      | .exit i => if i = id then (.normal, x.2) else (.exit i, x.2)
      | e => (e, x.2)
  | cur, .loop c, s => loopN (headSt C ((C.A.keep.lookup cur).getD 0)) (fun s => evalC C fuel 0 c s) fuel s
  | _, .exit i, s => some (.exit i, s)
  | _, .ret, s => some (.ret, s)
  | _, _, _ => none

def initL (keys : List Nat) (args : List AV) : List (Nat × AV) := keys.map fun k => (k, (args[k]?).getD .bad)

def resultAV (C : Ctx) (s : St) : ResultVar → Option AV
  | .tmp t => some (s.get C.A t)
  | .cell a t => loadAV C.P s.H t (s.get C.A a)

def pickAV : List AV → AV
  | [v] => v
  | vs => .tuple (vs.map fun v => if v.plain then v else .bad)

/-- A function's text, once: with an oracle for what it calls. -/
def evalF (P : Program) (U : Out) (ann : FuncId → FAnn) (fuel : Nat) (K : Oracle) : Oracle := fun f args H =>
  (P.funcs[f]?).bind fun fn => fn.body.bind fun c =>
    let C : Ctx := ⟨P, K, H.length, max fn.ntmps args.length, ann f, U⟩
    (evalC C fuel 0 c ⟨initL C.A.keys args, [], H, false⟩).bind fun x =>
      match x.1 with
      | .exit _ => none
      | _ => (fn.results.toList.mapM (resultAV C x.2)).bind fun vs =>
        let v := pickAV vs
        (sweep x.2.H H.length v.refs x.2.esc).map fun H' => (v, H', x.2.esc)

/-- Functions that call each other no deeper than n. -/
def evalN (P : Program) (U : Out) (ann : FuncId → FAnn) (fuel : Nat) (K : Oracle) : Nat → Oracle
  | 0 => K
  | n + 1 => fun f args H => match K f args H with
    | some r => some r
    | none => evalF P U ann fuel (evalN P U ann fuel K n) f args H

end Go.X
