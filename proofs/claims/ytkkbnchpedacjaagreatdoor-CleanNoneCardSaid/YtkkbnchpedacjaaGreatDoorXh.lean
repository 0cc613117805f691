/-
  The evaluator once more, handing on what it finds: where a condition hangs on what came in, the two ways stand side by side at the head of the term, so that the kernel goes on in each.
-/
import Derived.Test.YtkkbnchpedacjaaGreatDoorXg

namespace Go.X

/-- What is known of a condition's temporary. -/
def St.know (A : FAnn) (s : St) (t : Nat) (b : Bool) : St := if A.exp.testBit t then { s with L := upd s.L t (.bool b) } else { s with T := upd s.T t (.bool b) }

def St.knowO (A : FAnn) (s : St) (o : Operand) (b : Bool) : St := match o with
  | .tmp t => s.know A t b
  | _ => s

theorem upd_same : ∀ (l : List (Nat × AV)) (t : Nat) (v : AV), look l t = v → v ≠ .bad → upd l t v = l
  | [], t, v, _, _ => rfl
  | (k, u) :: r, t, v, h, hv => by
    unfold upd
    unfold look at h
    split
    · rename_i hk
      rw [if_pos hk] at h
      rw [h]
    · rename_i hk
      rw [if_neg hk] at h
      rw [upd_same r t v h hv]

theorem know_same {A : FAnn} {s : St} {t : Nat} {b : Bool} (h : s.get A t = .bool b) : s.know A t b = s := by
  unfold St.know
  unfold St.get at h
  split
  · rename_i ht
    rw [if_pos ht] at h
    rw [upd_same _ _ _ h (by simp)]
  · rename_i ht
    rw [if_neg ht] at h
    rw [upd_same _ _ _ h (by simp)]

theorem knowO_same {A : FAnn} {s : St} {o : Operand} {b : Bool} (h : s.eval A o = .bool b) : s.knowO A o b = s := by
  cases o with
  | tmp t => exact know_same h
  | _ => rfl

def AV.toInt : AV → Int
  | .int _ n => n
  | _ => 0
def AV.toBool : AV → Bool
  | .bool b => b
  | _ => false
def AV.toList : AV → List AV
  | .isl _ xs => xs
  | _ => []
def AV.part : AV → Nat → AV
  | .agg _ ps, i => (ps[i]?).getD .bad
  | _, _ => .bad
def AV.isIntK : AV → IntKind → Bool
  | .int k _, j => k == j
  | _, _ => false
def AV.isBoolV : AV → Bool
  | .bool _ => true
  | _ => false
def AV.isNils : AV → Bool
  | .nils => true
  | _ => false
def AV.isIslN : AV → Nat → Bool
  | .isl e _, sz => e == sz
  | _, _ => false
def AV.isAggN : AV → Nat → Nat → Bool
  | .agg n ps, m, l => n == m && ps.length == l
  | _, _, _ => false

section
variable {R : Type} (bot : R) (sym : Bool)

/-- Nothing is told, or the same. -/
def Le (a b : R) : Prop := a = bot ∨ a = b

theorem Le.refl (a : R) : Le bot a a := .inr rfl

theorem Le.trans {a b c : R} (h : Le bot a b) (g : Le bot b c) : Le bot a c := by
  rcases h with h | h
  · exact .inl h
  · subst h; exact g
theorem Le.elim {α : Type} {o : Option α} {f g : α → R} (h : ∀ x, Le bot (f x) (g x)) : Le bot (o.elim bot f) (o.elim bot g) := by
  cases o with
  | none => exact .inl rfl
  | some x => exact h x

def etaL (e : TypeId → AV → (AV → R) → R) : List Field → Nat → AV → (List AV → R) → R
  | [], _, _, k => k []
  | f :: r, i, v, k => e f.type (v.part i) fun p => etaL e r (i + 1) v fun ps => k (p :: ps)

/-- A value of a type, its parts laid open. -/
def etaK (P : Program) : Nat → TypeId → AV → (AV → R) → R
  | 0, _, _, _ => bot
  | d + 1, t, v, k => match P.underlying t with
    | some (.int i) => cond (v.isIntK i) (k (.int i v.toInt)) bot
    | some .bool => cond v.isBoolV (k (.bool v.toBool)) bot
    | some (.slice e) => cond v.isNils (k .nils) (match tsize P e with
      | some sz => cond (v.isIslN sz) (k (.isl sz v.toList)) bot
      | none => bot)
    | some (.struct fs) => match tsize P t with
      | some n => cond (v.isAggN n fs.toList.length) (etaL (etaK P d) fs.toList 0 v fun ps => k (.agg n ps)) bot
      | none => bot
    | _ => bot

theorem etaL_le {e : TypeId → AV → (AV → R) → R} (he : ∀ t v k, Le bot (e t v k) (k v)) (v : AV) : ∀ (l : List Field) (i : Nat) (k : List AV → R),
    Le bot (etaL e l i v k) (k ((List.range' i l.length).map v.part))
  | [], i, k => .inr rfl
  | f :: r, i, k => by
    unfold etaL
    refine (he _ _ _).trans bot ?_
    refine (etaL_le he v r (i + 1) _).trans bot ?_
    simp only [List.length_cons, List.range'_succ, List.map_cons]
    exact .inr rfl

theorem etaK_le (P : Program) : ∀ (d : Nat) (t : TypeId) (v : AV) (k : AV → R), Le bot (etaK bot P d t v k) (k v)
  | 0, t, v, k => .inl rfl
  | d + 1, t, v, k => by
    unfold etaK
    split
    · rename_i i hu
      cases hv : v.isIntK i with
      | false => exact .inl rfl
      | true =>
        cases v <;> simp only [AV.isIntK, reduceCtorEq, beq_iff_eq] at hv
        subst hv
        exact .inr rfl
    · cases hv : v.isBoolV with
      | false => exact .inl rfl
      | true =>
        cases v <;> simp only [AV.isBoolV, reduceCtorEq] at hv
        exact .inr rfl
    · rename_i e hu
      cases hv : v.isNils with
      | true =>
        cases v <;> simp only [AV.isNils, reduceCtorEq] at hv
        exact .inr rfl
      | false =>
        simp only [cond_false]
        split
        · rename_i sz hsz
          cases hw : v.isIslN sz with
          | false => exact .inl rfl
          | true =>
            cases v <;> simp only [AV.isIslN, reduceCtorEq, beq_iff_eq] at hw
            subst hw
            exact .inr rfl
        · exact .inl rfl
    · rename_i fs hu
      split
      · rename_i n hn
        cases hv : v.isAggN n fs.toList.length with
        | false => exact .inl rfl
        | true =>
          cases v <;> simp only [AV.isAggN, reduceCtorEq, Bool.and_eq_true, beq_iff_eq] at hv
          rename_i m ps
          obtain ⟨rfl, hl⟩ := hv
          simp only [cond_true]
          refine (etaL_le bot (fun t v k => etaK_le P d t v k) _ fs.toList 0 _).trans bot (.inr ?_)
          congr 2
          apply List.ext_getElem?
          intro i
          rw [List.getElem?_map]
          rcases Nat.lt_or_ge i ps.length with hi | hi
          · rw [List.getElem?_range' (by omega)]
            simp [AV.part, hi]
          · rw [List.getElem?_eq_none (by simpa using (by omega : fs.toList.length ≤ i)), List.getElem?_eq_none hi]
            rfl
      · exact .inl rfl
    · exact .inl rfl

abbrev OracleK (R : Type) := FuncId → List AV → Heap → (AV → Heap → Bool → R) → R

def KOf (K : Oracle) : OracleK R := fun f args H k => (K f args H).elim bot fun r => k r.1 r.2.1 r.2.2

def enterK (C : Ctx) (KK : OracleK R) (f : FuncId) (args : List AV) (H : Heap) (k : AV → Heap → Bool → R) : R :=
  match C.P.funcs[f]? with
  | some fn => match fn.body with
    | some _ => if fn.name ≠ "runtime.NumGoroutine" then KK f args H k else bot
    | none => (C.U.X f args H).elim bot fun r => k r.1 r.2.1 r.2.2
  | none => bot

def putK (C : Ctx) (s : St) (o : Oper) (k : St → R) (v : AV) (H : Heap) (e : Bool) : R :=
  let s' := { s with H := H, esc := s.esc || e }
  k (match o.dst with
    | some d => s'.set C.A d (if d < C.N then v else .bad)
    | none => s')

/-- What a slice holds. -/
def elemsK (H : Heap) (sz : Nat) (v : AV) (k : List AV → R) : R :=
  match v with
  | .nils => k []
  | .isl e xs => if e = sz then k xs else bot
  | .sl p e n off len => match H.blk p.id with
    | some b => match b.root.at? p.path with
      | some x => match x.2 with
        | .arr e' xs => if e = sz ∧ e' = sz then cond (decide (b.root.flatLen = p.gen)) (cond (decide (x.1 = p.coff)) (cond (decide (xs.length = n)) (cond (decide (off + len ≤ n)) (k ((xs.drop off).take len)) bot) bot) bot) bot else bot
        | _ => bot
      | none => bot
    | none => bot
  | _ => bot

/-- append to a slice that is all of its own block. -/
def appK (P : Program) (H : Heap) (elem : TypeId) (x : AV) (xs : List AV) (k : AV → Heap → R) : R :=
  match tsize P elem, tbytes P elem, (zeroAV P elem).map AV.flatLen with
  | some sz, some by_, some z => if z = sz ∧ 0 < sz then
      cond (reflessL xs) (cond (xs.all fun u => u.flatLen == sz) (match x with
        | .sl p e n off len => match H.blk p.id with
          | some ⟨.arr e' ys, true, fl⟩ => if p.path = [] ∧ p.coff = 0 ∧ e = sz ∧ e' = sz ∧ off = 0 then
              cond (decide (e' * ys.length = p.gen)) (cond (decide (ys.length = n)) (cond (decide (len = n)) (cond (decide ((n + xs.length) * by_ ≤ maxBytes)) (cond (decide (n + xs.length ≤ maxBytes))
                (k (.sl ⟨p.id, 0, [], sz * (n + xs.length)⟩ sz (n + xs.length) 0 (n + xs.length)) (H.set p.id (some ⟨.arr sz (ys ++ xs), true, fl⟩))) bot) bot) bot) bot) bot
            else bot
          | _ => bot
        | _ => bot) bot) bot else bot
  | _, _, _ => bot

/-- append, where what is appended, and what it is appended to, is not known to the last. -/
def appendK (C : Ctx) (argTypes : Array TypeId) (args : List AV) (s : St) (k : AV → Heap → Bool → R) : R :=
  match args with
  | [x, y] => match argTypes[0]?, argTypes[1]? with
    | some t, some u => match C.P.underlying t, C.P.underlying u with
      | some (.slice e), some d => if srcKind d = false then bot else match tsize C.P e with
        | some sz => elemsK bot s.H sz y fun xs => appK bot C.P s.H e x xs fun v H => k v H false
        | none => bot
      | _, _ => bot
    | _, _ => bot
  | _ => bot

def isSl : List AV → Bool
  | .sl .. :: _ => true
  | _ => false

def builtinK (C : Ctx) (b : Builtin) (argTypes : Array TypeId) (args : List AV) (s : St) (k : AV → Heap → Bool → R) : R :=
  match sym, b, isSl args with
  | true, .append, true => appendK bot C argTypes args s k
  | _, _, _ => (evalBuiltin C b argTypes args s).elim bot fun r => k r.1 r.2.1 r.2.2

def goK (C : Ctx) (KK : OracleK R) (s : St) (o : Oper) (k : St → R) : R :=
  match o.op with
  | .call c => match c.callee with
    | .builtin b => builtinK bot sym C b c.argTypes (c.args.toList.map (s.eval C.A)) s (putK C s o k)
    | .value f => (calleeAV C.P (s.eval C.A f) (c.args.toList.map (s.eval C.A))).elim bot fun x => enterK bot C KK x.1 x.2 s.H (putK C s o k)
    | .invoke r m => (methodAV C.P (s.eval C.A r) m).elim bot fun x => enterK bot C KK x.1 (x.2 :: c.args.toList.map (s.eval C.A)) s.H (putK C s o k)
  | .pick c a b => match s.eval C.A c with
    | .bool t => cond t (putK C (s.knowO C.A c true) o k (s.eval C.A a) s.H false) (putK C (s.knowO C.A c false) o k (s.eval C.A b) s.H false)
    | _ => bot
  | .indexAddr t x i => match C.P.underlying t, s.eval C.A x, (s.eval C.A i).idx with
    | some (.slice e), .isl sz xs, some j => if tsize C.P e = some sz then etaK bot C.P 4 e ((xs[j]?).getD .bad) fun v => putK C s o k (.iptr v) s.H false else bot
    | _, _, _ => (evalOp C s o.op o.type).elim bot fun r => putK C s o k r.1 r.2.1 r.2.2
  | op => (evalOp C s op o.type).elim bot fun r => putK C s o k r.1 r.2.1 r.2.2

def skipK (C : Ctx) (s : St) (o : Oper) (k : St → R) : R := k (match o.dst with | some d => s.set C.A d .undf | none => s)

def stepOpK (C : Ctx) (KK : OracleK R) (ops : List Oper) (s : St) (o : Oper) (k : St → R) : R :=
  match o.guard with
  | none => goK bot sym C KK s o k
  | some (j, want) => match (ops[j]?).bind (·.dst) with
    | some d => match s.get C.A d with
      | .bool b => cond b (cond want (goK bot sym C KK (s.know C.A d true) o k) (skipK C (s.know C.A d true) o k)) (cond want (skipK C (s.know C.A d false) o k) (goK bot sym C KK (s.know C.A d false) o k))
      | .undf => skipK C s o k
      | _ => bot
    | none => bot

def runOpsK (C : Ctx) (KK : OracleK R) (ops : List Oper) : List Oper → St → (St → R) → R
  | [], s, k => k s
  | o :: r, s, k => stepOpK bot sym C KK ops s o fun s => runOpsK C KK ops r s k

def runOrdK (C : Ctx) (KK : OracleK R) (ops : List Oper) (flo : List Nat) : List Nat → St → (St → List (Heap × Bool) → R) → R
  | [], s, k => k s []
  | i :: r, s, k => match ops[i]? with
    | some o => stepOpK bot sym C KK ops s o fun s' => if flo.contains i && !lastBare s'.H then bot else
        runOrdK C KK ops flo r s' fun s'' hs => k s'' (if isLoud C.P o.op then (s'.H, s'.esc) :: hs else hs)
    | none => bot

/-- An operation that reads, looked at with another memory of the way. -/
def chkOneK (C : Ctx) (ops : List Oper) (s : St) (o : Oper) (H : Heap) (k : R) : R :=
  match wantedAV C.A ops s o with
  | some true => match evalOp C { s with H } o.op o.type with
    | some r => match o.dst with
      | some d => match s.get C.A d with
        | .bad => k
        | v => if d < C.N then cond (r.1.beq v) k bot else bot
      | none => k
    | none => bot
  | some false => k
  | none => bot

def chkPsK (C : Ctx) (ops : List Oper) (s : St) (o : Oper) (hs : List (Heap × Bool)) : List Nat → R → R
  | [], k => k
  | p :: r, k => match hs[p]? with
    | some h => chkOneK bot C ops s o h.1 (chkPsK C ops s o hs r k)
    | none => chkPsK C ops s o hs r k

def chkAllK (C : Ctx) (ops : List Oper) (s : St) (hs : List (Heap × Bool)) : List (Nat × List Nat) → R → R
  | [], k => k
  | x :: r, k => match ops[x.1]? with
    | some o => chkPsK bot C ops s o hs x.2 (chkAllK C ops s hs r k)
    | none => chkAllK C ops s hs r k

def runRegionK (C : Ctx) (KK : OracleK R) (id : Nat) (ops : Array Oper) (draw : Bool) (s : St) (k : St → R) : R :=
  let s := { s with T := [] }
  if draw then
    match C.A.ord.lookup id with
    | some a => runOrdK bot sym C KK ops.toList a.flo a.order s fun s' hs => chkAllK bot C ops.toList s' ((s.H, s.esc) :: hs) a.chk (k s')
    | none => bot
  else runOpsK bot sym C KK ops.toList ops.toList s k

/-- A loop, from its head on: the head's forgetting is done. -/
def loopB (hd : St → Option St) (body : St → (Ex → St → R) → R) : Nat → St → (Ex → St → R) → R
  | 0, _, _ => bot
  | n + 1, s, k => body s fun e s => match e with
      | .normal => (hd s).elim bot fun s => loopB hd body n s k
      | .exit i => k (.exit i) s
      | .ret => k .ret s

def evalCK (C : Ctx) (KK : OracleK R) (fuel : Nat) : Nat → Code → St → (Ex → St → R) → R
  | _, .skip, s, k => k .normal s
  | _, .region id ops draw, s, k => runRegionK bot sym C KK id ops draw s fun s => k .normal { s with T := [] }
  | cur, .seq a b, s, k => evalCK C KK fuel cur a s fun e s => match e with
      | .normal => evalCK C KK fuel cur b s k
      | .exit i => k (.exit i) s
      | .ret => k .ret s
  | cur, .cond c a b, s, k => match s.eval C.A c with
      | .bool t => cond t (evalCK C KK fuel cur a (s.knowO C.A c true) k) (evalCK C KK fuel cur b (s.knowO C.A c false) k)
      | _ => bot
  | _, .block id c, s, k => evalCK C KK fuel id c s fun e s => match e with
      | .exit i => if i = id then k .normal s else k (.exit i) s
      | .normal => k .normal s
      | .ret => k .ret s
  | cur, .loop c, s, k => (headSt C ((C.A.keep.lookup cur).getD 0) s).elim bot fun s => loopB bot (headSt C ((C.A.keep.lookup cur).getD 0)) (fun s k => evalCK C KK fuel 0 c s k) fuel s k
  | _, .exit i, s, k => k (.exit i) s
  | _, .ret, s, k => k .ret s
  | cur, .rangeFunc g ps a b, s, k => (evalC C fuel cur (.rangeFunc g ps a b) s).elim bot fun x => k x.1 x.2
  | _, _, _, _ => bot

def finK (C : Ctx) (fn : Func) (n0 : Nat) (k : AV → Heap → Bool → R) : Ex → St → R := fun e s => match e with
  | .exit _ => bot
  | _ => (fn.results.toList.mapM (resultAV C s)).elim bot fun vs =>
    let v := pickAV vs
    (sweep s.H n0 v.refs s.esc).elim bot fun H' => k v H' s.esc

def evalFK (P : Program) (U : Out) (ann : FuncId → FAnn) (fuel : Nat) (K : Oracle) (KK : OracleK R) : OracleK R := fun f args H k =>
  match P.funcs[f]? with
  | some fn => match fn.body with
    | some c =>
      let C : Ctx := ⟨P, K, H.length, max fn.ntmps args.length, ann f, U, noY, evalI P U ann fuel K⟩
      evalCK bot sym C KK fuel 0 c ⟨initL C.A.keys args, [], H, false⟩ (finK bot C fn H.length k)
    | none => bot
  | none => bot

def evalNK (P : Program) (U : Out) (ann : FuncId → FAnn) (fuel : Nat) (K : Oracle) : Nat → OracleK R
  | 0 => KOf bot K
  | n + 1 => fun f args H k => match K f args H with
    | some r => k r.1 r.2.1 r.2.2
    | none => evalFK bot sym P U ann fuel (evalN P U ann fuel K n) (evalNK P U ann fuel K n) f args H k

/-- Code, gone on with inside a loop: the way to the loop, how often it may go round, the state at its head. -/
def resumeCK (C : Ctx) (KK : OracleK R) (fuel : Nat) (n : Nat) : List Bool → Nat → Code → St → (Ex → St → R) → R
  | p, _, .block id c, s, k => resumeCK C KK fuel n p id c s fun e s => match e with
      | .exit i => if i = id then k .normal s else k (.exit i) s
      | .normal => k .normal s
      | .ret => k .ret s
  | false :: p, cur, .seq a b, s, k => resumeCK C KK fuel n p cur a s fun e s => match e with
      | .normal => evalCK bot sym C KK fuel cur b s k
      | .exit i => k (.exit i) s
      | .ret => k .ret s
  | true :: p, cur, .seq _ b, s, k => resumeCK C KK fuel n p cur b s k
  | false :: p, cur, .cond _ a _, s, k => resumeCK C KK fuel n p cur a s k
  | true :: p, cur, .cond _ _ b, s, k => resumeCK C KK fuel n p cur b s k
  | [], cur, .loop c, s, k => loopB bot (headSt C ((C.A.keep.lookup cur).getD 0)) (fun s k => evalCK bot sym C KK fuel 0 c s k) n s k
  | _, _, _, _, _ => bot

/-- A function, gone on with inside a loop. -/
def resumeFK (P : Program) (U : Out) (ann : FuncId → FAnn) (fuel : Nat) (K : Oracle) (KK : OracleK R) (f : FuncId) (nargs n0 : Nat) (p : List Bool) (n : Nat) (s : St) (k : AV → Heap → Bool → R) : R :=
  match P.funcs[f]? with
  | some fn => match fn.body with
    | some c =>
      let C : Ctx := ⟨P, K, n0, max fn.ntmps nargs, ann f, U, noY, evalI P U ann fuel K⟩
      resumeCK bot sym C KK fuel n p 0 c s (finK bot C fn n0 k)
    | none => bot
  | none => bot

/-! Where it tells something, it is the same. -/
variable {C : Ctx} {KK : OracleK R}

theorem etaK_some {P : Program} {d : Nat} {t : TypeId} {xs : List AV} {j : Nat} {k : AV → R} : Le bot (etaK bot P d t ((xs[j]?).getD .bad) k) ((xs[j]?).elim bot k) := by
  cases hx : xs[j]? with
  | some v => exact etaK_le bot P d t v k
  | none =>
    left
    cases d with
    | zero => rfl
    | succ d =>
      unfold etaK
      split <;> try rfl
      · split <;> rfl
      · split <;> rfl

theorem enterK_le (hK : ∀ f args H k, Le bot (KK f args H k) (KOf bot C.K f args H k)) (f : FuncId) (args : List AV) (s : St) (k : AV → Heap → Bool → R) :
    Le bot (enterK bot C KK f args s.H k) ((enterAV C f args s).elim bot fun r => k r.1 r.2.1 r.2.2) := by
  unfold enterK enterAV
  split
  · rename_i fn hf
    rw [hf]
    simp only
    split
    · rename_i c hb
      rw [hb]
      simp only
      split
      · exact hK _ _ _ _
      · exact .inl rfl
    · rename_i hb
      rw [hb]
      exact .inr rfl
  · exact .inl rfl

theorem elemsK_le (H : Heap) (sz : Nat) (v : AV) (k : List AV → R) : Le bot (elemsK bot H sz v k) ((elemsAV H sz v).elim bot k) := by
  unfold elemsK
  split
  · exact .inr rfl
  · split
    · rename_i he
      right
      simp [elemsAV, he]
    · exact .inl rfl
  · rename_i p e n off len
    split
    · rename_i b hb
      split
      · rename_i x hx
        split
        · rename_i e' xs hx2
          split
          · rename_i he
            cases h1 : decide (b.root.flatLen = p.gen) with
            | false => exact .inl rfl
            | true => cases h2 : decide (x.1 = p.coff) with
              | false => exact .inl rfl
              | true => cases h3 : decide (xs.length = n) with
                | false => exact .inl rfl
                | true => cases h4 : decide (off + len ≤ n) with
                  | false => exact .inl rfl
                  | true =>
                    right
                    simp only [decide_eq_true_eq] at h1 h2 h3 h4
                    simp [elemsAV, hb, hx, hx2, h1, h2, h3, h4, he]
          · exact .inl rfl
        · exact .inl rfl
      · exact .inl rfl
    · exact .inl rfl
  · exact .inl rfl

theorem appK_le {P : Program} (H : Heap) (elem : TypeId) (x : AV) (xs : List AV) (k : AV → Heap → R) (hsl : isSl [x] = true) :
    Le bot (appK bot P H elem x xs k) ((appendAV P H elem x xs).elim bot fun r => k r.1 r.2) ∧ (appK bot P H elem x xs k ≠ bot → reflessL xs = true) := by
  unfold appK
  split
  · rename_i sz by_ z hz hb hzz
    split
    · rename_i hc
      obtain ⟨rfl, hpos⟩ := hc
      cases hr : reflessL xs with
      | false => exact ⟨.inl rfl, fun h => absurd rfl h⟩
      | true =>
        refine ⟨?_, fun _ => rfl⟩
        cases ha : (xs.all fun u => u.flatLen == z) with
        | false => exact .inl rfl
        | true =>
          simp only [cond_true]
          cases x <;> simp only [isSl, reduceCtorEq] at hsl
          rename_i p e n off len
          simp only
          split
          · rename_i e' ys fl hblk
            split
            · rename_i hq
              obtain ⟨hp, hco, rfl, rfl, rfl⟩ := hq
              cases h1 : decide (e' * ys.length = p.gen) with
              | false => exact .inl rfl
              | true => cases h2 : decide (ys.length = n) with
                | false => exact .inl rfl
                | true => cases h3 : decide (len = n) with
                  | false => exact .inl rfl
                  | true => cases h4 : decide ((n + xs.length) * by_ ≤ maxBytes) with
                    | false => exact .inl rfl
                    | true => cases h5 : decide (n + xs.length ≤ maxBytes) with
                      | false => exact .inl rfl
                      | true =>
                        right
                        simp only [decide_eq_true_eq] at h1 h2 h3 h4 h5
                        subst h2 h3
                        obtain ⟨pid, pco, pp, pg⟩ := p
                        simp only at hp hco h1 hblk
                        subst hp hco h1
                        simp only [cond_true]
                        cases xs with
                        | nil =>
                          have hset : H.set pid (some ⟨.arr e' ys, true, fl⟩) = H := by
                            have : H[pid]? = some (some ⟨.arr e' ys, true, fl⟩) := by
                              unfold Heap.blk at hblk
                              cases hh : H[pid]? with
                              | none => rw [hh] at hblk; simp [blkOf] at hblk
                              | some y => rw [hh] at hblk; exact congrArg some (blkOf_some hblk)
                            apply List.ext_getElem?
                            intro j
                            rw [List.getElem?_set]
                            split
                            · rename_i hj
                              subst hj
                              rw [this]
                              have := (List.getElem?_eq_some_iff.1 this).1
                              simp [this]
                            · rfl
                          rw [List.append_nil, hset]
                          simp [appendAV, hz, hb]
                        | cons y r =>
                          have hlt : ¬ (0 + ys.length + (y :: r).length ≤ ys.length) := by simp
                          have hall : ((y :: r).all fun u => u.flatLen == e') = true := ha
                          have hfl : (AV.arr e' ys).flatLen = e' * ys.length := rfl
                          have hat : (AV.arr e' ys).at? [] = some (0, .arr e' ys) := rfl
                          unfold appendAV
                          simp only [hz, hb, Option.bind_some]
                          rw [if_pos ⟨hzz, hall, hpos⟩]
                          simp only [hblk, hat, hfl, Option.bind_some]
                          rw [if_pos ⟨trivial, trivial, trivial, trivial, trivial, by omega⟩, if_neg hlt, if_pos ⟨trivial, trivial, trivial, trivial, h4, h5⟩]
                          simp [hr]
            · exact .inl rfl
          · exact .inl rfl
    · exact ⟨.inl rfl, fun h => absurd rfl h⟩
  · exact ⟨.inl rfl, fun h => absurd rfl h⟩

theorem builtinK_le (b : Builtin) (argTypes : Array TypeId) (args : List AV) (s : St) (k : AV → Heap → Bool → R) :
    Le bot (builtinK bot sym C b argTypes args s k) ((evalBuiltin C b argTypes args s).elim bot fun r => k r.1 r.2.1 r.2.2) := by
  unfold builtinK
  split
  · rename_i hsl
    unfold appendK
    split
    · rename_i x y
      split
      · rename_i t u ht hu
        split
        · rename_i e d he hd
          split
          · exact .inl rfl
          · rename_i hk
            split
            · rename_i sz hsz
              refine (elemsK_le bot _ _ _ _).trans bot ?_
              cases hx : elemsAV s.H sz y with
              | none => exact .inl rfl
              | some xs =>
                simp only [Option.elim_some]
                obtain ⟨k1, k2⟩ := appK_le bot (P := C.P) s.H e x xs (fun v H => k v H false) (by cases x <;> simp_all [isSl])
                by_cases hbot : appK bot C.P s.H e x xs (fun v H => k v H false) = bot
                · exact .inl hbot
                · have hr := k2 hbot
                  refine k1.trans bot (.inr ?_)
                  have hsrc : srcAV s.H sz y = some xs := by
                    cases y <;> first | exact hx | (simp [elemsAV] at hx; done)
                  have hfl : appendFlag C.n0 x xs = false := by
                    unfold appendFlag
                    cases x <;> simp [hr]
                  simp only [evalBuiltin, ht, hu, he, hd, hk, hsz, hsrc, hr, Option.bind_some, Bool.not_true, Bool.and_false, Bool.false_eq_true, if_false]
                  cases appendAV C.P s.H e x xs with
                  | none => rfl
                  | some r => simp [hfl]
            · exact .inl rfl
        · exact .inl rfl
      · exact .inl rfl
    · exact .inl rfl
  · exact .inr rfl

theorem goK_le (hK : ∀ f args H k, Le bot (KK f args H k) (KOf bot C.K f args H k)) (s : St) (o : Oper) (k : St → R) :
    Le bot (goK bot sym C KK s o k) ((evalOp C s o.op o.type).elim bot fun r => putK C s o k r.1 r.2.1 r.2.2) := by
  unfold goK
  split
  · rename_i c hc
    rw [hc]
    unfold evalOp
    simp only
    split
    · rename_i b hb
      rw [hb]
      exact builtinK_le bot sym b _ _ s _
    · rename_i f hb
      rw [hb]
      simp only
      cases hx : calleeAV C.P (s.eval C.A f) (c.args.toList.map (s.eval C.A)) with
      | none => exact .inl rfl
      | some x => simp only [Option.elim_some, Option.bind_some]; exact enterK_le bot hK x.1 x.2 s _
    · rename_i r m hb
      rw [hb]
      simp only
      cases hx : methodAV C.P (s.eval C.A r) m with
      | none => exact .inl rfl
      | some x => simp only [Option.elim_some, Option.bind_some]; exact enterK_le bot hK x.1 _ s _
  · rename_i c a b hc
    rw [hc]
    unfold evalOp
    simp only
    split
    · rename_i t ht
      right
      cases t
      · rw [cond_false, knowO_same ht, ht]; rfl
      · rw [cond_true, knowO_same ht, ht]; rfl
    · exact .inl rfl
  · rename_i t x i hc
    split
    · rename_i e sz xs j hu hx hi
      split
      · rename_i hz
        refine (etaK_some bot).trans bot (.inr ?_)
        rw [hc]
        unfold evalOp
        simp only [indexAddrAV, hi, hu, hx, hz, Option.bind_some, if_true]
        cases xs[j]? <;> rfl
      · exact .inl rfl
    · exact .inr rfl
  · exact .inr rfl

theorem stepOpK_le (hK : ∀ f args H k, Le bot (KK f args H k) (KOf bot C.K f args H k)) (ops : List Oper) (s : St) (o : Oper) (k : St → R) :
    Le bot (stepOpK bot sym C KK ops s o k) ((stepOp C ops s o).elim bot k) := by
  have hgo : Le bot (goK bot sym C KK s o k) (((evalOp C s o.op o.type).map fun r =>
      let s' := { s with H := r.2.1, esc := s.esc || r.2.2 }
      match o.dst with
      | some d => s'.set C.A d (if d < C.N then r.1 else .bad)
      | none => s').elim bot k) := by
    refine (goK_le bot sym hK s o k).trans bot (.inr ?_)
    cases evalOp C s o.op o.type <;> rfl
  have hskip : Le bot (skipK C s o k) ((some (match o.dst with | some d => s.set C.A d .undf | none => s)).elim bot k) := .inr rfl
  unfold stepOpK stepOp wantedAV
  split
  · rename_i hg
    rw [hg]
    simp only [Option.bind_some, if_true]
    exact hgo
  · rename_i j want hg
    rw [hg]
    simp only
    split
    · rename_i d hd
      rw [hd]
      simp only
      split
      · rename_i b hb
        rw [hb]
        simp only [Option.bind_some]
        cases b <;> cases want <;> simp only [cond_true, cond_false, know_same hb] <;> first | exact hgo | exact hskip
      · rename_i hb
        rw [hb]
        simp only [Option.bind_some]
        exact hskip
      · exact .inl rfl
    · exact .inl rfl

theorem stepY_le (hK : ∀ f args H k, Le bot (KK f args H k) (KOf bot C.K f args H k)) (ops : List Oper) (s : St) (o : Oper) (k : St → R) :
    Le bot (stepOpK bot sym C KK ops s o k) ((stepY C ops s o).elim bot k) := by
  unfold stepY
  split
  · rename_i f args argTypes hop
    split
    · rename_i hc
      left
      simp only [Bool.and_eq_true, Option.isNone_iff_eq_none] at hc
      have hf : s.eval C.A f = .yld := by
        have := hc.1
        cases hv : s.eval C.A f <;> rw [hv] at this <;> first | rfl | cases this
      unfold stepOpK
      rw [hc.2]
      unfold goK
      rw [hop]
      simp only [hf, calleeAV, Option.elim_none]
    · exact stepOpK_le bot sym hK ops s o k
  · exact stepOpK_le bot sym hK ops s o k

theorem runOpsK_le (hK : ∀ f args H k, Le bot (KK f args H k) (KOf bot C.K f args H k)) (ops : List Oper) : ∀ (l : List Oper) (s : St) (k : St → R), Le bot (runOpsK bot sym C KK ops l s k) ((runOps C ops l s).elim bot k)
  | [], s, k => .inr rfl
  | o :: r, s, k => by
    unfold runOpsK runOps
    refine (stepY_le bot sym hK ops s o _).trans bot ?_
    cases stepY C ops s o with
    | none => exact .inl rfl
    | some s' => exact runOpsK_le hK ops r s' k

theorem runOrdK_le (hK : ∀ f args H k, Le bot (KK f args H k) (KOf bot C.K f args H k)) (ops : List Oper) (flo : List Nat) : ∀ (l : List Nat) (s : St) (k : St → List (Heap × Bool) → R),
    Le bot (runOrdK bot sym C KK ops flo l s k) ((runOrd C ops flo l s).elim bot fun x => k x.1 x.2)
  | [], s, k => .inr rfl
  | i :: r, s, k => by
    unfold runOrdK runOrd
    cases hi : ops[i]? with
    | none => exact .inl rfl
    | some o =>
      simp only [Option.bind_some]
      refine (stepOpK_le bot sym hK ops s o _).trans bot ?_
      cases stepOp C ops s o with
      | none => exact .inl rfl
      | some s' =>
        simp only [Option.elim_some, Option.bind_some]
        split
        · exact .inl rfl
        · refine (runOrdK_le hK ops flo r s' _).trans bot (.inr ?_)
          cases runOrd C ops flo r s' <;> rfl

theorem chkOneK_le (ops : List Oper) (s : St) (o : Oper) (H : Heap) (k : R) : Le bot (chkOneK bot C ops s o H k) (cond (chkOne C ops s o H) k bot) := by
  unfold chkOneK chkOne
  split
  · rename_i hw
    rw [hw]
    simp only
    split
    · rename_i r hr
      rw [hr]
      simp only
      split
      · rename_i d hd
        rw [hd]
        simp only
        split
        · rename_i hb
          rw [hb]
          exact .inr rfl
        · rename_i hb
          split
          · rename_i hN
            cases hbeq : r.1.beq (s.get C.A d) with
            | false => exact .inl rfl
            | true => right; simp [hN]
          · exact .inl rfl
      · rename_i hd
        rw [hd]
        exact .inr rfl
    · exact .inl rfl
  · rename_i hw
    rw [hw]
    exact .inr rfl
  · exact .inl rfl

theorem chkPsK_le (ops : List Oper) (s : St) (o : Oper) (hs : List (Heap × Bool)) : ∀ (l : List Nat) (k : R),
    Le bot (chkPsK bot C ops s o hs l k) (cond (l.all fun p => match hs[p]? with | some h => chkOne C ops s o h.1 | none => true) k bot)
  | [], k => .inr rfl
  | p :: r, k => by
    unfold chkPsK
    simp only [List.all_cons]
    cases hp : hs[p]? with
    | none => simpa using chkPsK_le ops s o hs r k
    | some h =>
      refine (chkOneK_le bot ops s o h.1 _).trans bot ?_
      cases hc : chkOne C ops s o h.1 with
      | false => simp [hc]; exact .inl rfl
      | true => simpa [hc] using chkPsK_le ops s o hs r k

theorem chkAllK_le (ops : List Oper) (s : St) (hs : List (Heap × Bool)) : ∀ (l : List (Nat × List Nat)) (k : R),
    Le bot (chkAllK bot C ops s hs l k) (cond (chkAll C ops s hs l) k bot)
  | [], k => .inr rfl
  | x :: r, k => by
    have ih := chkAllK_le ops s hs r k
    unfold chkAll at ih
    unfold chkAllK chkAll
    simp only [List.all_cons]
    cases ho : ops[x.1]? with
    | none => simpa [ho] using ih
    | some o =>
      refine (chkPsK_le bot ops s o hs x.2 _).trans bot ?_
      simp only
      generalize (x.2.all fun p => match hs[p]? with | some h => chkOne C ops s o h.1 | none => true) = t
      cases t with
      | false => exact .inl rfl
      | true => simpa using ih

theorem runRegionK_le (hK : ∀ f args H k, Le bot (KK f args H k) (KOf bot C.K f args H k)) (id : Nat) (ops : Array Oper) (draw : Bool) (s : St) (k : St → R) :
    Le bot (runRegionK bot sym C KK id ops draw s k) ((runRegion C id ops draw s).elim bot k) := by
  unfold runRegionK runRegion
  simp only
  split
  · cases C.A.ord.lookup id with
    | none => exact .inl rfl
    | some a =>
      simp only
      refine (runOrdK_le bot sym hK _ _ _ _ _).trans bot ?_
      cases runOrd C ops.toList a.flo a.order { s with T := [] } with
      | none => exact .inl rfl
      | some x =>
        simp only [Option.elim_some, Option.bind_some]
        refine (chkAllK_le bot _ _ _ _ _).trans bot (.inr ?_)
        cases chkAll C ops.toList x.1 (({ s with T := [] }.H, { s with T := [] }.esc) :: x.2) a.chk <;> rfl
  · exact runOpsK_le bot sym hK _ _ _ _

theorem loopB_le {hd : St → Option St} {body : St → Option (Ex × St)} {bodyK : St → (Ex → St → R) → R} (hb : ∀ s k, Le bot (bodyK s k) ((body s).elim bot fun x => k x.1 x.2)) :
    ∀ (n : Nat) (s s1 : St) (k : Ex → St → R), hd s = some s1 → Le bot (loopB bot hd bodyK n s1 k) ((loopN hd body n s).elim bot fun x => k x.1 x.2)
  | 0, s, s1, k, _ => .inl rfl
  | n + 1, s, s1, k, h => by
    unfold loopB loopN
    rw [h]
    simp only [Option.bind_some]
    refine (hb _ _).trans bot ?_
    cases body s1 with
    | none => exact .inl rfl
    | some x =>
      obtain ⟨e, s2⟩ := x
      cases e with
      | normal =>
        simp only [Option.elim_some, Option.bind_some]
        cases h2 : hd s2 with
        | none => exact .inl rfl
        | some s3 => exact loopB_le hb n s2 s3 k h2
      | exit i => exact .inr rfl
      | ret => exact .inr rfl

theorem evalCK_le (hK : ∀ f args H k, Le bot (KK f args H k) (KOf bot C.K f args H k)) (fuel : Nat) : ∀ (c : Code) (cur : Nat) (s : St) (k : Ex → St → R),
    Le bot (evalCK bot sym C KK fuel cur c s k) ((evalC C fuel cur c s).elim bot fun x => k x.1 x.2)
  | .skip, cur, s, k => .inr rfl
  | .region id ops draw, cur, s, k => by
    unfold evalCK evalC
    refine (runRegionK_le bot sym hK _ _ _ _ _).trans bot (.inr ?_)
    cases runRegion C id ops draw s <;> rfl
  | .seq a b, cur, s, k => by
    unfold evalCK evalC
    refine (evalCK_le hK fuel a cur s _).trans bot ?_
    cases evalC C fuel cur a s with
    | none => exact .inl rfl
    | some x =>
      obtain ⟨e, s2⟩ := x
      cases e with
      | normal => exact evalCK_le hK fuel b cur s2 k
      | exit i => exact .inr rfl
      | ret => exact .inr rfl
  | .cond c a b, cur, s, k => by
    unfold evalCK evalC
    split
    · rename_i t ht
      cases t
      · rw [cond_false, knowO_same ht, ht]; exact evalCK_le hK fuel b cur s k
      · rw [cond_true, knowO_same ht, ht]; exact evalCK_le hK fuel a cur s k
    · exact .inl rfl
  | .block id c, cur, s, k => by
    unfold evalCK evalC
    refine (evalCK_le hK fuel c id s _).trans bot ?_
    cases evalC C fuel id c s with
    | none => exact .inl rfl
    | some x =>
      obtain ⟨e, s2⟩ := x
      cases e with
      | normal => exact .inr rfl
      | exit i =>
        simp only [Option.elim_some, Option.map_some]
        split <;> exact .inr rfl
      | ret => exact .inr rfl
  | .loop c, cur, s, k => by
    unfold evalCK evalC
    cases h : headSt C ((C.A.keep.lookup cur).getD 0) s with
    | none => exact .inl rfl
    | some s1 => exact loopB_le bot (fun s k => evalCK_le hK fuel c 0 s k) fuel s s1 k h
  | .exit i, cur, s, k => .inr rfl
  | .ret, cur, s, k => .inr rfl
  | .rangeFunc .., cur, s, k => .inr rfl
  | .scope _, cur, s, k => .inl rfl
  | .label _, cur, s, k => .inl rfl
  | .goto _, cur, s, k => .inl rfl
  | .refuse _, cur, s, k => .inl rfl

theorem evalFK_le {P : Program} {U : Out} {ann : FuncId → FAnn} {fuel : Nat} {K : Oracle} (hK : ∀ f args H k, Le bot (KK f args H k) (KOf bot K f args H k)) (f : FuncId) (args : List AV) (H : Heap) (k : AV → Heap → Bool → R) :
    Le bot (evalFK bot sym P U ann fuel K KK f args H k) (KOf bot (evalF P U ann fuel K) f args H k) := by
  unfold evalFK KOf evalF evalG
  cases hf : P.funcs[f]? with
  | none => exact .inl rfl
  | some fn =>
    simp only [Option.bind_some]
    cases hb : fn.body with
    | none => exact .inl rfl
    | some c =>
      simp only [Option.bind_some]
      refine (evalCK_le bot sym (C := ⟨P, K, H.length, max fn.ntmps args.length, ann f, U, noY, evalI P U ann fuel K⟩) hK fuel c 0 _ _).trans bot ?_
      cases evalC ⟨P, K, H.length, max fn.ntmps args.length, ann f, U, noY, evalI P U ann fuel K⟩ fuel 0 c ⟨initL (ann f).keys args, [], H, false⟩ with
      | none => exact .inl rfl
      | some x =>
        obtain ⟨e, s2⟩ := x
        cases e with
        | exit i => exact .inl rfl
        | normal =>
          simp only [Option.elim_some, Option.bind_some, finK]
          right
          cases fn.results.toList.mapM (resultAV ⟨P, K, H.length, max fn.ntmps args.length, ann f, U, noY, evalI P U ann fuel K⟩ s2) with
          | none => rfl
          | some vs =>
            simp only [Option.elim_some, Option.bind_some]
            cases sweep s2.H H.length (pickAV vs).refs s2.esc <;> rfl
        | ret =>
          simp only [Option.elim_some, Option.bind_some, finK]
          right
          cases fn.results.toList.mapM (resultAV ⟨P, K, H.length, max fn.ntmps args.length, ann f, U, noY, evalI P U ann fuel K⟩ s2) with
          | none => rfl
          | some vs =>
            simp only [Option.elim_some, Option.bind_some]
            cases sweep s2.H H.length (pickAV vs).refs s2.esc <;> rfl

theorem evalNK_le {P : Program} {U : Out} {ann : FuncId → FAnn} {fuel : Nat} {K : Oracle} : ∀ (n : Nat) (f : FuncId) (args : List AV) (H : Heap) (k : AV → Heap → Bool → R),
    Le bot (evalNK bot sym P U ann fuel K n f args H k) (KOf bot (evalN P U ann fuel K n) f args H k)
  | 0, f, args, H, k => .inr rfl
  | n + 1, f, args, H, k => by
    show Le bot (match K f args H with | some r => k r.1 r.2.1 r.2.2 | none => evalFK bot sym P U ann fuel (evalN P U ann fuel K n) (evalNK bot sym P U ann fuel K n) f args H k)
      ((match K f args H with | some r => some r | none => evalF P U ann fuel (evalN P U ann fuel K n) f args H).elim bot fun r => k r.1 r.2.1 r.2.2)
    cases K f args H with
    | some r => exact .inr rfl
    | none => exact evalFK_le bot sym (evalNK_le n) f args H k

end

/-- What is found is so. -/
theorem evalN_of_K {P : Program} {U : Out} {ann : FuncId → FAnn} {fuel n : Nat} {K : Oracle} {f : FuncId} {args : List AV} {H : Heap} {r : AV × Heap × Bool}
    (h : evalNK none false P U ann fuel K n f args H (fun v H e => some (v, H, e)) = some r) : evalN P U ann fuel K n f args H = some r := by
  rcases evalNK_le (R := Option (AV × Heap × Bool)) none false (P := P) (U := U) (ann := ann) (fuel := fuel) (K := K) n f args H (fun v H e => some (v, H, e)) with h1 | h1
  · rw [h] at h1; cases h1
  · rw [h] at h1
    unfold KOf at h1
    cases hx : evalN P U ann fuel K n f args H with
    | none => rw [hx] at h1; cases h1
    | some x => rw [hx] at h1; exact h1.symm

/-- It answers true. -/
def AV.isTrue : AV → Bool
  | .bool b => b
  | _ => false

theorem run_of_true {P : Program} {U : Out} {ann : FuncId → FAnn} {fuel n : Nat} {K : Oracle} {f : FuncId} {args : List AV} {H : Heap}
    (h : evalNK false false P U ann fuel K n f args H (fun v _ _ => v.isTrue) = true) : ∃ H' e, evalN P U ann fuel K n f args H = some (.bool true, H', e) := by
  rcases evalNK_le (R := Bool) false false (P := P) (U := U) (ann := ann) (fuel := fuel) (K := K) n f args H (fun v _ _ => v.isTrue) with h1 | h1
  · rw [h] at h1; cases h1
  rw [h1] at h
  unfold KOf at h
  cases hx : evalN P U ann fuel K n f args H with
  | none => rw [hx] at h; simp at h
  | some r =>
    obtain ⟨v, H', e⟩ := r
    rw [hx] at h
    simp only [Option.elim_some] at h
    cases v <;> simp [AV.isTrue] at h
    subst h
    exact ⟨H', e, rfl⟩

end Go.X
/-
  Functions that only look: what the evaluator finds on what the arguments hold now, on its own memory, holds in any memory.
-/
namespace Go.X
open Go.RowKit (Below)

/-- What a value holds now. -/
def snapAV (H : Heap) : AV → Option AV
  | .sl p e n off len => (elemsAV H e (.sl p e n off len)).bind fun xs => if reflessL xs && decide (0 < e) then some (.isl e xs) else none
  | v => if v.refless then some v else none

def snapL (H : Heap) : List AV → Option (List AV)
  | [] => some []
  | v :: vs => (snapAV H v).bind fun x => (snapL H vs).map fun xs => x :: xs

mutual
/-- A value that says nothing of memory. -/
def AV.clean : AV → Bool
  | .int _ _ | .bool _ | .str _ | .nilp | .nils | .nilm | .nilf | .nili | .hnd _ _ => true
  | .agg _ ps => cleanL ps
  | .arr _ xs => cleanL xs
  | .iface _ v => v.clean
  | _ => false
def cleanL : List AV → Bool
  | [] => true
  | v :: vs => v.clean && cleanL vs
end

/-- Results. -/
def AV.cleanR : AV → Bool
  | .tuple vs => cleanL vs
  | v => v.clean

theorem FR.ofClean {E E' : Env} {vs : List AV} {cs : List Value} (h : FR E vs cs) : cleanL vs = true → FR E' vs cs := by
  induction h with
  | nil => intro _; exact .nil
  | int h ih => intro hc; exact .int (ih (by simpa [cleanL, AV.clean] using hc))
  | bool h ih => intro hc; exact .bool (ih (by simpa [cleanL, AV.clean] using hc))
  | str h ih => intro hc; exact .str (ih (by simpa [cleanL, AV.clean] using hc))
  | nilp h ih => intro hc; exact .nilp (ih (by simpa [cleanL, AV.clean] using hc))
  | nils h ih => intro hc; exact .nils (ih (by simpa [cleanL, AV.clean] using hc))
  | nilm h ih => intro hc; exact .nilm (ih (by simpa [cleanL, AV.clean] using hc))
  | nilf h ih => intro hc; exact .nilf (ih (by simpa [cleanL, AV.clean] using hc))
  | hnd h ih => intro hc; exact .hnd (ih (by simpa [cleanL, AV.clean] using hc))
  | nili h ih => intro hc; exact .nili (ih (by simpa [cleanL, AV.clean] using hc))
  | map h1 h2 h ih => intro hc; simp [cleanL, AV.clean] at hc
  | sptr h1 h2 h ih => intro hc; simp [cleanL, AV.clean] at hc
  | ptr h1 h2 h ih => intro hc; simp [cleanL, AV.clean] at hc
  | sl h1 h2 h3 hs h ih => intro hc; simp [cleanL, AV.clean] at hc
  | isl h1 h2 h3 h4 h5 h6 h ih1 ih => intro hc; simp [cleanL, AV.clean] at hc
  | iptr h1 h2 h3 h ih1 ih => intro hc; simp [cleanL, AV.clean] at hc
  | func h1 h2 h3 h ih1 ih2 ih => intro hc; simp [cleanL, AV.clean] at hc
  | iface h1 h ih1 ih =>
    intro hc
    simp only [cleanL, AV.clean, Bool.and_eq_true] at hc
    exact .iface (ih1 (by simp [cleanL, hc.1])) (ih hc.2)
  | agg h1 hn h ih1 ih =>
    intro hc
    simp only [cleanL, AV.clean, Bool.and_eq_true] at hc
    exact .agg (ih1 hc.1) hn (ih hc.2)
  | arr h1 hn h ih1 ih =>
    intro hc
    simp only [cleanL, AV.clean, Bool.and_eq_true] at hc
    exact .arr (ih1 hc.1) hn (ih hc.2)

theorem PR.ofClean {E E' : Env} {v : AV} {c : Value} (h : PR E v c) (hc : v.clean = true) : PR E' v c := by
  obtain ⟨cs, h1, h2⟩ := h
  exact ⟨cs, h1.ofClean (by simp [cleanL, hc]), h2⟩

theorem cleanL_mem : ∀ {vs : List AV} {v : AV}, cleanL vs = true → v ∈ vs → v.clean = true
  | x :: xs, v, h, hm => by
    simp only [cleanL, Bool.and_eq_true] at h
    rcases List.mem_cons.1 hm with rfl | hm
    · exact h.1
    · exact cleanL_mem h.2 hm

theorem VR.ofClean {E E' : Env} {v : AV} {c : Value} (h : VR E v c) (hc : v.cleanR = true) : VR E' v c := by
  cases v with
  | bad => simp [AV.cleanR, AV.clean] at hc
  | undf => simp [AV.cleanR, AV.clean] at hc
  | yld => simp [AV.cleanR, AV.clean] at hc
  | tuple vs =>
    obtain ⟨cvs, h1, h2, h3⟩ := h
    refine ⟨cvs, h1, h2, fun i v c hv hcv => ?_⟩
    have hcl := cleanL_mem (show cleanL vs = true from hc) (List.mem_of_getElem? hv)
    rcases h3 i v c hv hcv with rfl | hp
    · simp [AV.clean] at hcl
    · exact .inr (hp.ofClean hcl)
  | _ => exact PR.ofClean (show PR E _ c from h) hc

/-- Values without references, seen from the world alone. -/
theorem FR.toStart {B : Nat} {E : Env} {H : Heap} {w : World} (hs : Sim B E H w) {vs : List AV} {cs : List Value} (h : FR E vs cs) : reflessL vs = true → FR (Env.start w) vs cs := by
  induction h with
  | nil => intro _; exact .nil
  | int h ih => intro hc; exact .int (ih (by simpa [reflessL, AV.refless] using hc))
  | bool h ih => intro hc; exact .bool (ih (by simpa [reflessL, AV.refless] using hc))
  | str h ih => intro hc; exact .str (ih (by simpa [reflessL, AV.refless] using hc))
  | nilp h ih => intro hc; exact .nilp (ih (by simpa [reflessL, AV.refless] using hc))
  | nils h ih => intro hc; exact .nils (ih (by simpa [reflessL, AV.refless] using hc))
  | nilm h ih => intro hc; exact .nilm (ih (by simpa [reflessL, AV.refless] using hc))
  | nilf h ih => intro hc; exact .nilf (ih (by simpa [reflessL, AV.refless] using hc))
  | hnd h ih => intro hc; exact .hnd (ih (by simpa [reflessL, AV.refless] using hc))
  | nili h ih => intro hc; exact .nili (ih (by simpa [reflessL, AV.refless] using hc))
  | map h1 h2 h ih => intro hc; simp [reflessL, AV.refless] at hc
  | sptr h1 h2 h ih => intro hc; simp [reflessL, AV.refless] at hc
  | ptr h1 h2 h ih => intro hc; simp [reflessL, AV.refless] at hc
  | sl h1 h2 h3 hs h ih => intro hc; simp [reflessL, AV.refless] at hc
  | isl h1 h2 h3 h4 h5 h6 h ih1 ih =>
    intro hc
    exact .isl h1 (ih1 h1) h3 h4 (fun j c hc => hs.imm _ _ _ (h5 j c hc)) h6 (ih (by simpa [reflessL, AV.refless] using hc))
  | iptr h1 h2 h3 h ih1 ih =>
    intro hc
    exact .iptr h1 (ih1 (by simp [reflessL, h1])) (fun j c hc => hs.imm _ _ _ (h3 j c hc)) (ih (by simpa [reflessL, AV.refless] using hc))
  | func h1 h2 h3 h ih1 ih2 ih => intro hc; simp [reflessL, AV.refless] at hc
  | iface h1 h ih1 ih =>
    intro hc
    simp only [reflessL, AV.refless, Bool.and_eq_true] at hc
    exact .iface (ih1 (by simp [reflessL, hc.1])) (ih hc.2)
  | agg h1 hn h ih1 ih =>
    intro hc
    simp only [reflessL, AV.refless, Bool.and_eq_true] at hc
    exact .agg (ih1 hc.1) hn (ih hc.2)
  | arr h1 hn h ih1 ih =>
    intro hc
    simp only [reflessL, AV.refless, Bool.and_eq_true] at hc
    exact .arr (ih1 hc.1) hn (ih hc.2)

section
variable {P : Program} {B : Nat} {E : Env} {H : Heap} {w : World}

theorem snap_plain {H : Heap} {v : AV} (hns : ∀ p e n off len, v ≠ .sl p e n off len) : snapAV H v = if v.refless then some v else none := by
  cases v <;> first | rfl | exact absurd rfl (hns _ _ _ _ _)

theorem snap_ok (hs : Sim B E H w) {v x : AV} {c : Value} (hv : VR E v c) (h : snapAV H v = some x) : VR (Env.start w) x c := by
  by_cases hsl : ∃ p e n off len, v = .sl p e n off len
  · obtain ⟨p, e, n, off, len, rfl⟩ := hsl
    simp only [snapAV, Option.bind_eq_some_iff] at h
    obtain ⟨xs, hxs, h⟩ := h
    split at h
    · rename_i hr
      obtain rfl := Option.some.inj h
      simp only [Bool.and_eq_true, decide_eq_true_eq] at hr
      obtain ⟨a, cap, L, cells, rfl, hsp, hcap, hL, hfx, hex, hlx, _, hwh⟩ := sl_where hs (show PR E (.sl p e n off len) c from hv) hxs
      obtain ⟨ab, ao, as⟩ := a
      simp only at hsp
      subst hsp
      rw [← hlx]
      exact VR.of_PR (v := .isl _ _) ⟨[_], .isl hr.1 (hfx.toStart hs hr.1) hex (by omega) (fun j c hj => (hwh j c hj).2.2.2) (.inl rfl) .nil, rfl⟩
    · simp at h
  · rw [snap_plain (fun p e n off len he => hsl ⟨p, e, n, off, len, he⟩)] at h
    split at h
    · rename_i hr
      obtain rfl := Option.some.inj h
      have hp : PR E v c := by
        cases v with
        | bad => simp [AV.refless] at hr
        | undf => simp [AV.refless] at hr
        | yld => simp [AV.refless] at hr
        | tuple vs => simp [AV.refless] at hr
        | _ => exact hv
      obtain ⟨cs, h1, h2⟩ := hp
      exact VR.of_PR ⟨cs, h1.toStart hs (by simp [reflessL, hr]), h2⟩
    · simp at h

theorem snapL_ok (hs : Sim B E H w) : ∀ {args xs : List AV} {cargs : List Value}, snapL H args = some xs → args.length = cargs.length →
    (∀ (i : Nat) (v : AV) (c : Value), args[i]? = some v → cargs[i]? = some c → VR E v c) → xs.length = cargs.length ∧ ∀ (i : Nat) (v : AV) (c : Value), xs[i]? = some v → cargs[i]? = some c → VR (Env.start w) v c
  | [], xs, cargs, h, hl, hv => by
    obtain rfl := Option.some.inj h
    exact ⟨hl, by simp⟩
  | a :: args, xs, cargs, h, hl, hv => by
    simp only [snapL, Option.bind_eq_some_iff, Option.map_eq_some_iff] at h
    obtain ⟨x, hx, ys, hys, rfl⟩ := h
    cases cargs with
    | nil => simp at hl
    | cons c cs =>
      obtain ⟨k1, k2⟩ := snapL_ok hs hys (by simpa using hl) (fun i v c h1 h2 => hv (i + 1) v c (by simpa using h1) (by simpa using h2))
      refine ⟨by simp [k1], fun i v c' h1 h2 => ?_⟩
      cases i with
      | zero =>
        simp only [List.getElem?_cons_zero, Option.some.injEq] at h1 h2
        subst h1 h2
        exact snap_ok hs (hv 0 a c rfl rfl) hx
      | succ i => exact k2 i v c' (by simpa using h1) (by simpa using h2)

/-- Where nothing that was there is touched, the memory stands as it stood. -/
theorem Sim.stays (hs : Sim B E H w) {w' : World} (hb : Below w.heap.size w w') : Sim B E H w' := by
  refine ⟨hs.top, fun i bk hi => ?_, hs.dead, hs.apart, fun b o c hc => ?_, hs.immApart, hs.flat, Nat.le_trans hs.old hb.size, fun i es hi => ?_, hs.mdead, hs.mapart⟩
  · obtain ⟨L, hL, ⟨⟨cs, h1, h2, h3⟩, h4, h5⟩, h6⟩ := hs.live i bk hi
    refine ⟨L, hL, ⟨⟨cs, h1, h2, fun j c hj => ?_⟩, h4, fun j hj => ?_⟩, h6⟩
    · have := h3 j c hj
      rw [hb.cell (p := ⟨L.b, L.base + j, none⟩) (World.block_lt_of_cell? w _ this)]
      exact this
    · obtain ⟨k1, k2⟩ := h5 j hj
      obtain ⟨c, hc⟩ := Option.isSome_iff_exists.1 k1
      have hlt : L.b < w.heap.size := World.block_lt_of_cell? w _ hc
      rw [hb.cell (p := ⟨L.b, L.base + j, none⟩) hlt, hb.frozen (p := ⟨L.b, L.base + j, none⟩) hlt]
      exact ⟨k1, k2⟩
  · have := hs.imm b o c hc
    rw [hb.cell (p := ⟨b, o, none⟩) (World.block_lt_of_cell? w _ this)]
    exact this
  · obtain ⟨b, h1, ⟨vs, clock, h2, h3⟩, h4⟩ := hs.mlive i es hi
    refine ⟨b, h1, ⟨vs, clock, ?_, h3⟩, h4⟩
    rw [hb.block b (by
      rcases Nat.lt_or_ge b w.heap.size with h | h
      · exact h
      · rw [Array.getElem?_eq_none h] at h2; cases h2)]
    exact h2

theorem Tr.stays (hs : Sim B E H w) {w' : World} {k : Nat} (hb : Below w.heap.size w w') : Tr B k E w E w' :=
  ⟨hb.mono hs.old, Evol.refl _ _, fun b o hlt _ => ⟨hb.cell (p := ⟨b, o, none⟩) hlt, hb.frozen (p := ⟨b, o, none⟩) hlt⟩, fun _ _ _ h => h, fun _ _ _ _ h => .inl h, fun j o ho _ _ => by
    rw [hb.block j (by
      rcases Nat.lt_or_ge j w.heap.size with h | h
      · exact h
      · rw [Array.getElem?_eq_none h] at ho; cases ho)]
    exact ho, fun _ _ h => h⟩

/-- The oracle of functions that only look. -/
def pureK (k : FuncId → List AV → Option AV) : Oracle := fun f args H => (snapL H args).bind fun xs => (k f xs).map fun v => (v, H, false)

theorem pure_sound {U : Out} {ann : FuncId → FAnn} {fuel n : Nat} {K : Oracle} {k : FuncId → List AV → Option AV} (hK : ∀ B, OracleSound P B U.G K) (hX : ∀ B, ExtSound P B U.X) (hm : P.follows .mixedOrders = true)
    (hA : ∀ f, funcOk P (ann f) f = true) (hk : ∀ f xs v, k f xs = some v → v.cleanR = true ∧ ∃ H' e, evalN P U ann fuel K n f xs [] = some (v, H', e)) (B : Nat) : OracleSound P B U.G (pureK k) := by
  intro f args H v H' e h E w cargs hs hG hl hv
  simp only [pureK, Option.bind_eq_some_iff, Option.map_eq_some_iff, Prod.mk.injEq] at h
  obtain ⟨xs, hxs, v', hv', rfl, rfl, rfl⟩ := h
  obtain ⟨hc, H1, e1, he⟩ := hk f xs v' hv'
  obtain ⟨k1, k2⟩ := snapL_ok hs hxs hl hv
  have hG' : GlobOk U.G (Env.start w) := fun g u hu => by
    obtain ⟨cs, h1, h2⟩ := (show PR E (.iptr u) _ from hG g u hu)
    refine VR.of_PR (v := .iptr u) ⟨cs, h1.toStart hs ?_, h2⟩
    cases h1 with
    | iptr h3 _ _ _ => simp [reflessL, AV.refless]
  refine (evalN_ok (hK w.heap.size) (hX _) hm hA n f xs [] v' H1 e1 he (Env.start w) w cargs (Sim.start w) hG' k1 k2).mono ?_
  rintro en w' ⟨c, E', rfl, hr⟩
  have hb := hr.tr.below
  exact ⟨c, E, rfl, ⟨hs.stays hb, hr.val.ofClean hc, Tr.stays hs hb, Nat.le_refl _, fun _ => Sub.refl _ _⟩⟩

/-- Two oracles, one after the other. -/
theorem orElse_sound {G : Nat → Option AV} {K1 K2 : Oracle} (h1 : OracleSound P B G K1) (h2 : OracleSound P B G K2) : OracleSound P B G (fun f args H => match K1 f args H with | some r => some r | none => K2 f args H) := by
  intro f args H v H' e h
  simp only at h
  split at h
  · rename_i r hr
    obtain rfl := Option.some.inj h
    exact h1 f args H v H' e hr
  · exact h2 f args H v H' e h

end

/-- What a table tells of functions that only look: where its test holds, the value. -/
abbrev Table := FuncId → Option (List AV → Option (Bool × AV))

def kOf (T : Table) : FuncId → List AV → Option AV := fun f xs => match T f with
  | some t => match t xs with
    | some (true, v) => some v
    | _ => none
  | none => none

section
variable {R : Type} (bot : R)

def snapVK (H : Heap) (v : AV) (k : AV → R) : R :=
  match v with
  | .sl p e n off len => elemsK bot H e (.sl p e n off len) fun xs => cond (reflessL xs && decide (0 < e)) (k (.isl e xs)) bot
  | v => cond v.refless (k v) bot

def snapLK (H : Heap) : List AV → (List AV → R) → R
  | [], k => k []
  | v :: vs, k => snapVK bot H v fun x => snapLK H vs fun xs => k (x :: xs)

theorem snapVK_le (H : Heap) (v : AV) (k : AV → R) : Le bot (snapVK bot H v k) ((snapAV H v).elim bot k) := by
  unfold snapVK
  split
  · rename_i p e n off len
    refine (elemsK_le bot _ _ _ _).trans bot ?_
    simp only [snapAV]
    cases elemsAV H e (.sl p e n off len) with
    | none => exact .inl rfl
    | some xs =>
      simp only [Option.elim_some, Option.bind_some]
      cases hc : (reflessL xs && decide (0 < e)) with
      | false => exact .inl rfl
      | true => right; simp
  · rename_i hn
    rw [snap_plain (fun p e n off len he => hn p e n off len he)]
    cases hc : v.refless with
    | false => exact .inl rfl
    | true => right; simp

theorem snapLK_le (H : Heap) : ∀ (vs : List AV) (k : List AV → R), Le bot (snapLK bot H vs k) ((snapL H vs).elim bot k)
  | [], k => .inr rfl
  | v :: vs, k => by
    unfold snapLK snapL
    refine (snapVK_le bot H v _).trans bot ?_
    cases snapAV H v with
    | none => exact .inl rfl
    | some x =>
      simp only [Option.elim_some, Option.bind_some]
      refine (snapLK_le H vs _).trans bot (.inr ?_)
      cases snapL H vs <;> rfl

/-- The evaluator handing on, with a table. -/
def evalTK (P : Program) (U : Out) (ann : FuncId → FAnn) (fuel : Nat) (T : Table) : Nat → OracleK R
  | 0 => fun _ _ _ _ => bot
  | n + 1 => fun f args H k => match T f with
    | some t => snapLK bot H args fun xs => match t xs with
      | some (b, v) => cond b (k v H false) bot
      | none => bot
    | none => evalFK bot true P U ann fuel (evalN P U ann fuel (pureK (kOf T)) n) (evalTK P U ann fuel T n) f args H k

theorem evalTK_le {P : Program} {U : Out} {ann : FuncId → FAnn} {fuel : Nat} {T : Table} : ∀ (n : Nat) (f : FuncId) (args : List AV) (H : Heap) (k : AV → Heap → Bool → R),
    Le bot (evalTK bot P U ann fuel T n f args H k) (KOf bot (evalN P U ann fuel (pureK (kOf T)) n) f args H k)
  | 0, f, args, H, k => .inl rfl
  | n + 1, f, args, H, k => by
    show Le bot (match T f with
      | some t => snapLK bot H args fun xs => match t xs with
        | some (b, v) => cond b (k v H false) bot
        | none => bot
      | none => evalFK bot true P U ann fuel (evalN P U ann fuel (pureK (kOf T)) n) (evalTK bot P U ann fuel T n) f args H k)
      ((match pureK (kOf T) f args H with | some r => some r | none => evalF P U ann fuel (evalN P U ann fuel (pureK (kOf T)) n) f args H).elim bot fun r => k r.1 r.2.1 r.2.2)
    cases hT : T f with
    | none =>
      have : pureK (kOf T) f args H = none := by
        unfold pureK kOf
        rw [hT]
        cases snapL H args <;> rfl
      rw [this]
      exact evalFK_le bot true (evalTK_le n) f args H k
    | some t =>
      refine (snapLK_le bot H args _).trans bot ?_
      cases hs : snapL H args with
      | none => exact .inl rfl
      | some xs =>
        simp only [Option.elim_some]
        cases ht : t xs with
        | none => exact .inl rfl
        | some r =>
          obtain ⟨b, v⟩ := r
          cases b
          · exact .inl rfl
          · right
            have : pureK (kOf T) f args H = some (v, H, false) := by
              unfold pureK kOf
              simp [hs, hT, ht]
            rw [this]
            rfl
end

theorem evalN_of_T {P : Program} {U : Out} {ann : FuncId → FAnn} {fuel n : Nat} {T : Table} {f : FuncId} {args : List AV} {H : Heap} {r : AV × Heap × Bool}
    (h : evalTK none P U ann fuel T n f args H (fun v H e => some (v, H, e)) = some r) : evalN P U ann fuel (pureK (kOf T)) n f args H = some r := by
  rcases evalTK_le (R := Option (AV × Heap × Bool)) none (P := P) (U := U) (ann := ann) (fuel := fuel) (T := T) n f args H (fun v H e => some (v, H, e)) with h1 | h1
  · rw [h] at h1; cases h1
  · rw [h] at h1
    unfold KOf at h1
    cases hx : evalN P U ann fuel (pureK (kOf T)) n f args H with
    | none => rw [hx] at h1; cases h1
    | some x => rw [hx] at h1; exact h1.symm

theorem run_of_trueT {P : Program} {U : Out} {ann : FuncId → FAnn} {fuel n : Nat} {T : Table} {f : FuncId} {args : List AV} {H : Heap}
    (h : evalTK false P U ann fuel T n f args H (fun v _ _ => v.isTrue) = true) : ∃ H' e, evalN P U ann fuel (pureK (kOf T)) n f args H = some (.bool true, H', e) := by
  rcases evalTK_le (R := Bool) false (P := P) (U := U) (ann := ann) (fuel := fuel) (T := T) n f args H (fun v _ _ => v.isTrue) with h1 | h1
  · rw [h] at h1; cases h1
  rw [h1] at h
  unfold KOf at h
  cases hx : evalN P U ann fuel (pureK (kOf T)) n f args H with
  | none => rw [hx] at h; simp at h
  | some r =>
    obtain ⟨v, H', e⟩ := r
    rw [hx] at h
    simp only [Option.elim_some] at h
    cases v <;> simp [AV.isTrue] at h
    subst h
    exact ⟨H', e, rfl⟩

/-- A table that is sound: each entry was found by the evaluator, with a sound table ahead. -/
structure FunTab (P : Program) (U : Out) (T : Table) : Prop where
  ok : ∀ B, OracleSound P B U.G (pureK (kOf T))

theorem FunTab.none {P : Program} {U : Out} : FunTab P U (fun _ => Option.none) := ⟨fun B f args H v H' e h => by
  unfold pureK kOf at h
  cases hx : snapL H args <;> simp [hx] at h⟩

/-- One function more, whatever way it was found. -/
theorem FunTab.addN {P : Program} {U : Out} {ann : FuncId → FAnn} {fuel n : Nat} {T : Table} (hT : FunTab P U T) (hX : ∀ B, ExtSound P B U.X) (hm : P.follows .mixedOrders = true) (hA : ∀ f, funcOk P (ann f) f = true)
    {g : FuncId} {t : List AV → Option (Bool × AV)} (h : ∀ xs v, t xs = some (true, v) → v.cleanR = true ∧ ∃ H' e, evalN P U ann fuel (pureK (kOf T)) n g xs [] = some (v, H', e)) :
    FunTab P U (fun f => if f = g then some t else T f) := by
  refine ⟨fun B => ?_⟩
  have h1 : OracleSound P B U.G (pureK fun f xs => if f = g then (match t xs with | some (true, v) => some v | _ => Option.none) else Option.none) :=
    pure_sound hT.ok hX hm hA (fun f xs v hv => by
      split at hv
      · rename_i hf
        subst hf
        split at hv
        · rename_i v' hv'
          obtain rfl := Option.some.inj hv
          exact h xs v' hv'
        · cases hv
      · cases hv) B
  intro f args H v H' e hx
  by_cases hf : f = g
  · refine h1 f args H v H' e ?_
    rw [← hx]
    unfold pureK kOf
    simp only [if_pos hf]
  · refine hT.ok B f args H v H' e ?_
    rw [← hx]
    unfold pureK kOf
    simp only [if_neg hf]

/-- One function more. -/
theorem FunTab.add {P : Program} {U : Out} {ann : FuncId → FAnn} {fuel n : Nat} {T : Table} (hT : FunTab P U T) (hX : ∀ B, ExtSound P B U.X) (hm : P.follows .mixedOrders = true) (hA : ∀ f, funcOk P (ann f) f = true)
    {g : FuncId} {t : List AV → Option (Bool × AV)} (h : ∀ xs v, t xs = some (true, v) → v.cleanR = true ∧ evalTK Option.none P U ann fuel T n g xs [] (fun v H e => some (v, H, e)) = some (v, [], false)) :
    FunTab P U (fun f => if f = g then some t else T f) :=
  hT.addN hX hm hA (fun xs v hv => ⟨(h xs v hv).1, [], false, evalN_of_T (h xs v hv).2⟩)

end Go.X
