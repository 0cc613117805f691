/-
  The evaluator once more, handing on what it finds: where a condition hangs on what came in, the two ways stand side by side at the head of the term, so that the kernel goes on in each.
-/
import Derived.Test.YtkkbnchpedacjaaDoorX33
namespace Go.X

/-- What is known of a condition's temporary. -/
def St.know (A : FAnn) (s : St) (t : Nat) (b : Bool) : St := if A.exp.testBit t then { s with L := upd s.L t (.bool b) } else { s with T := upd s.T t (.bool b) }

def St.knowO (A : FAnn) (s : St) (o : Operand) (b : Bool) : St := match o with
  | .tmp t => s.know A t b
  | _ => s

theorem upd_same : ∀ (l : List (Nat × AV)) (t : Nat) (v : AV), look l t = v → v ≠ .bad → upd l t v = l
  | [], t, v, _, _ => rfl
  | (k, u) :: r, t, v, h, hv => by
    unfold upd
    unfold look at h
    split
    · rename_i hk
      rw [if_pos hk] at h
      rw [h]
    · rename_i hk
      rw [if_neg hk] at h
      rw [upd_same r t v h hv]

theorem know_same {A : FAnn} {s : St} {t : Nat} {b : Bool} (h : s.get A t = .bool b) : s.know A t b = s := by
  unfold St.know
  unfold St.get at h
  split
  · rename_i ht
    rw [if_pos ht] at h
    rw [upd_same _ _ _ h (by simp)]
  · rename_i ht
    rw [if_neg ht] at h
    rw [upd_same _ _ _ h (by simp)]

theorem knowO_same {A : FAnn} {s : St} {o : Operand} {b : Bool} (h : s.eval A o = .bool b) : s.knowO A o b = s := by
  cases o with
  | tmp t => exact know_same h
  | _ => rfl

section
variable {R : Type} (bot : R)

abbrev OracleK (R : Type) := FuncId → List AV → Heap → (AV → Heap → Bool → R) → R

def KOf (K : Oracle) : OracleK R := fun f args H k => (K f args H).elim bot fun r => k r.1 r.2.1 r.2.2

def enterK (C : Ctx) (KK : OracleK R) (f : FuncId) (args : List AV) (H : Heap) (k : AV → Heap → Bool → R) : R :=
  match C.P.funcs[f]? with
  | some fn => match fn.body with
    | some _ => if fn.name ≠ "runtime.NumGoroutine" then KK f args H k else bot
    | none => (C.U.X f args H).elim bot fun r => k r.1 r.2.1 r.2.2
  | none => bot

def putK (C : Ctx) (s : St) (o : Oper) (k : St → R) (v : AV) (H : Heap) (e : Bool) : R :=
  let s' := { s with H := H, esc := s.esc || e }
  k (match o.dst with
    | some d => s'.set C.A d (if d < C.N then v else .bad)
    | none => s')

def goK (C : Ctx) (KK : OracleK R) (s : St) (o : Oper) (k : St → R) : R :=
  match o.op with
  | .call c => match c.callee with
    | .builtin b => (evalBuiltin C b c.argTypes (c.args.toList.map (s.eval C.A)) s).elim bot fun r => putK C s o k r.1 r.2.1 r.2.2
    | .value f => (calleeAV C.P (s.eval C.A f) (c.args.toList.map (s.eval C.A))).elim bot fun x => enterK bot C KK x.1 x.2 s.H (putK C s o k)
    | .invoke r m => (methodAV C.P (s.eval C.A r) m).elim bot fun x => enterK bot C KK x.1 (x.2 :: c.args.toList.map (s.eval C.A)) s.H (putK C s o k)
  | .pick c a b => match s.eval C.A c with
    | .bool t => cond t (putK C (s.knowO C.A c true) o k (s.eval C.A a) s.H false) (putK C (s.knowO C.A c false) o k (s.eval C.A b) s.H false)
    | _ => bot
  | op => (evalOp C s op o.type).elim bot fun r => putK C s o k r.1 r.2.1 r.2.2

def skipK (C : Ctx) (s : St) (o : Oper) (k : St → R) : R := k (match o.dst with | some d => s.set C.A d .undf | none => s)

def stepOpK (C : Ctx) (KK : OracleK R) (ops : List Oper) (s : St) (o : Oper) (k : St → R) : R :=
  match o.guard with
  | none => goK bot C KK s o k
  | some (j, want) => match (ops[j]?).bind (·.dst) with
    | some d => match s.get C.A d with
      | .bool b => cond b (cond want (goK bot C KK (s.know C.A d true) o k) (skipK C (s.know C.A d true) o k)) (cond want (skipK C (s.know C.A d false) o k) (goK bot C KK (s.know C.A d false) o k))
      | .undf => skipK C s o k
      | _ => bot
    | none => bot

def runOpsK (C : Ctx) (KK : OracleK R) (ops : List Oper) : List Oper → St → (St → R) → R
  | [], s, k => k s
  | o :: r, s, k => stepOpK bot C KK ops s o fun s => runOpsK C KK ops r s k

def runOrdK (C : Ctx) (KK : OracleK R) (ops : List Oper) (flo : List Nat) : List Nat → St → (St → List (Heap × Bool) → R) → R
  | [], s, k => k s []
  | i :: r, s, k => match ops[i]? with
    | some o => stepOpK bot C KK ops s o fun s' => if flo.contains i && !lastBare s'.H then bot else
        runOrdK C KK ops flo r s' fun s'' hs => k s'' (if isLoud C.P o.op then (s'.H, s'.esc) :: hs else hs)
    | none => bot

def runRegionK (C : Ctx) (KK : OracleK R) (id : Nat) (ops : Array Oper) (draw : Bool) (s : St) (k : St → R) : R :=
  let s := { s with T := [] }
  if draw then
    match C.A.ord.lookup id with
    | some a => runOrdK bot C KK ops.toList a.flo a.order s fun s' hs => if chkAll C ops.toList s' ((s.H, s.esc) :: hs) a.chk then k s' else bot
    | none => bot
  else runOpsK bot C KK ops.toList ops.toList s k

def loopNK (hd : St → Option St) (body : St → (Ex → St → R) → R) : Nat → St → (Ex → St → R) → R
  | 0, _, _ => bot
  | n + 1, s, k => (hd s).elim bot fun s => body s fun e s => match e with
      | .normal => loopNK hd body n s k
      | .exit i => k (.exit i) s
      | .ret => k .ret s

def evalCK (C : Ctx) (KK : OracleK R) (fuel : Nat) : Nat → Code → St → (Ex → St → R) → R
  | _, .skip, s, k => k .normal s
  | _, .region id ops draw, s, k => runRegionK bot C KK id ops draw s (k .normal)
  | cur, .seq a b, s, k => evalCK C KK fuel cur a s fun e s => match e with
      | .normal => evalCK C KK fuel cur b s k
      | .exit i => k (.exit i) s
      | .ret => k .ret s
  | cur, .cond c a b, s, k => match s.eval C.A c with
      | .bool t => cond t (evalCK C KK fuel cur a (s.knowO C.A c true) k) (evalCK C KK fuel cur b (s.knowO C.A c false) k)
      | _ => bot
  | _, .block id c, s, k => evalCK C KK fuel id c s fun e s => match e with
      | .exit i => if i = id then k .normal s else k (.exit i) s
      | .normal => k .normal s
      | .ret => k .ret s
  | cur, .loop c, s, k => loopNK bot (headSt C ((C.A.keep.lookup cur).getD 0)) (fun s k => evalCK C KK fuel 0 c s k) fuel s k
  | _, .exit i, s, k => k (.exit i) s
  | _, .ret, s, k => k .ret s
  | _, _, _, _ => bot

def evalFK (P : Program) (U : Out) (ann : FuncId → FAnn) (fuel : Nat) (K : Oracle) (KK : OracleK R) : OracleK R := fun f args H k =>
  match P.funcs[f]? with
  | some fn => match fn.body with
    | some c =>
      let C : Ctx := ⟨P, K, H.length, max fn.ntmps args.length, ann f, U⟩
      evalCK bot C KK fuel 0 c ⟨initL C.A.keys args, [], H, false⟩ fun e s => match e with
        | .exit _ => bot
        | _ => (fn.results.toList.mapM (resultAV C s)).elim bot fun vs =>
          let v := pickAV vs
          (sweep s.H H.length v.refs s.esc).elim bot fun H' => k v H' s.esc
    | none => bot
  | none => bot

def evalNK (P : Program) (U : Out) (ann : FuncId → FAnn) (fuel : Nat) (K : Oracle) : Nat → OracleK R
  | 0 => KOf bot K
  | n + 1 => fun f args H k => match K f args H with
    | some r => k r.1 r.2.1 r.2.2
    | none => evalFK bot P U ann fuel (evalN P U ann fuel K n) (evalNK P U ann fuel K n) f args H k

/-! It is the same. -/
variable {C : Ctx} {KK : OracleK R}

theorem enterK_eq (hK : ∀ f args H k, KK f args H k = KOf bot C.K f args H k) (f : FuncId) (args : List AV) (s : St) (k : AV → Heap → Bool → R) :
    enterK bot C KK f args s.H k = (enterAV C f args s).elim bot fun r => k r.1 r.2.1 r.2.2 := by
  unfold enterK enterAV
  split
  · rename_i fn hf
    rw [hf]
    simp only
    split
    · rename_i c hb
      rw [hb]
      simp only
      split
      · rw [hK]; rfl
      · rfl
    · rename_i hb
      rw [hb]
  · rename_i hf
    rw [hf]
    rfl

theorem goK_eq (hK : ∀ f args H k, KK f args H k = KOf bot C.K f args H k) (s : St) (o : Oper) (k : St → R) :
    goK bot C KK s o k = (evalOp C s o.op o.type).elim bot fun r => putK C s o k r.1 r.2.1 r.2.2 := by
  unfold goK
  split
  · rename_i c hc
    rw [hc]
    unfold evalOp
    simp only
    split
    · rename_i b hb
      rw [hb]
    · rename_i f hb
      rw [hb]
      simp only
      cases hx : calleeAV C.P (s.eval C.A f) (c.args.toList.map (s.eval C.A)) with
      | none => simp
      | some x => simp only [Option.elim_some, Option.bind_some]; exact enterK_eq bot hK x.1 x.2 s _
    · rename_i r m hb
      rw [hb]
      simp only
      cases hx : methodAV C.P (s.eval C.A r) m with
      | none => simp
      | some x => simp only [Option.elim_some, Option.bind_some]; exact enterK_eq bot hK x.1 _ s _
  · rename_i c a b hc
    rw [hc]
    unfold evalOp
    simp only
    split
    · rename_i t ht
      cases t
      · rw [cond_false, knowO_same ht, ht]; rfl
      · rw [cond_true, knowO_same ht, ht]; rfl
    · rename_i hn
      split
      · rename_i h; exact absurd h (hn true)
      · rename_i h; exact absurd h (hn false)
      · rfl
  · rfl

theorem stepOpK_eq (hK : ∀ f args H k, KK f args H k = KOf bot C.K f args H k) (ops : List Oper) (s : St) (o : Oper) (k : St → R) :
    stepOpK bot C KK ops s o k = (stepOp C ops s o).elim bot k := by
  have hgo : goK bot C KK s o k = ((evalOp C s o.op o.type).map fun r =>
      let s' := { s with H := r.2.1, esc := s.esc || r.2.2 }
      match o.dst with
      | some d => s'.set C.A d (if d < C.N then r.1 else .bad)
      | none => s').elim bot k := by
    rw [goK_eq bot hK]
    cases evalOp C s o.op o.type <;> rfl
  have hskip : skipK C s o k = (some (match o.dst with | some d => s.set C.A d .undf | none => s)).elim bot k := rfl
  unfold stepOpK stepOp wantedAV
  split
  · rename_i hg
    rw [hg]
    simp only [Option.bind_some, if_true]
    exact hgo
  · rename_i j want hg
    rw [hg]
    simp only
    split
    · rename_i d hd
      rw [hd]
      simp only
      split
      · rename_i b hb
        rw [hb]
        simp only [Option.bind_some]
        cases b <;> cases want <;> simp only [cond_true, cond_false, know_same hb] <;> first | exact hgo | exact hskip
      · rename_i hb
        rw [hb]
        simp only [Option.bind_some]
        exact hskip
      · rename_i h1 h2
        split
        · rename_i b h; exact absurd h (h1 b)
        · rename_i h; exact absurd h h2
        · rfl
    · rename_i hd
      rw [hd]
      rfl

theorem runOpsK_eq (hK : ∀ f args H k, KK f args H k = KOf bot C.K f args H k) (ops : List Oper) : ∀ (l : List Oper) (s : St) (k : St → R), runOpsK bot C KK ops l s k = (runOps C ops l s).elim bot k
  | [], s, k => rfl
  | o :: r, s, k => by
    unfold runOpsK runOps
    rw [stepOpK_eq bot hK]
    cases stepOp C ops s o with
    | none => rfl
    | some s' => exact runOpsK_eq hK ops r s' k

theorem runOrdK_eq (hK : ∀ f args H k, KK f args H k = KOf bot C.K f args H k) (ops : List Oper) (flo : List Nat) : ∀ (l : List Nat) (s : St) (k : St → List (Heap × Bool) → R),
    runOrdK bot C KK ops flo l s k = (runOrd C ops flo l s).elim bot fun x => k x.1 x.2
  | [], s, k => rfl
  | i :: r, s, k => by
    unfold runOrdK runOrd
    cases hi : ops[i]? with
    | none => rfl
    | some o =>
      simp only [Option.bind_some]
      rw [stepOpK_eq bot hK]
      cases stepOp C ops s o with
      | none => rfl
      | some s' =>
        simp only [Option.elim_some, Option.bind_some]
        split
        · rfl
        · rw [runOrdK_eq hK ops flo r s']
          cases runOrd C ops flo r s' <;> rfl

theorem runRegionK_eq (hK : ∀ f args H k, KK f args H k = KOf bot C.K f args H k) (id : Nat) (ops : Array Oper) (draw : Bool) (s : St) (k : St → R) :
    runRegionK bot C KK id ops draw s k = (runRegion C id ops draw s).elim bot k := by
  unfold runRegionK runRegion
  simp only
  split
  · cases C.A.ord.lookup id with
    | none => rfl
    | some a =>
      simp only
      rw [runOrdK_eq bot hK]
      cases runOrd C ops.toList a.flo a.order { s with T := [] } with
      | none => rfl
      | some x =>
        simp only [Option.elim_some, Option.bind_some]
        split <;> rfl
  · exact runOpsK_eq bot hK _ _ _ _

theorem loopNK_eq {hd : St → Option St} {body : St → Option (Ex × St)} {bodyK : St → (Ex → St → R) → R} (hb : ∀ s k, bodyK s k = (body s).elim bot fun x => k x.1 x.2) :
    ∀ (n : Nat) (s : St) (k : Ex → St → R), loopNK bot hd bodyK n s k = (loopN hd body n s).elim bot fun x => k x.1 x.2
  | 0, s, k => rfl
  | n + 1, s, k => by
    unfold loopNK loopN
    cases hd s with
    | none => rfl
    | some s1 =>
      simp only [Option.elim_some, Option.bind_some]
      rw [hb]
      cases body s1 with
      | none => rfl
      | some x =>
        obtain ⟨e, s2⟩ := x
        cases e with
        | normal => exact loopNK_eq hb n s2 k
        | exit i => rfl
        | ret => rfl

theorem evalCK_eq (hK : ∀ f args H k, KK f args H k = KOf bot C.K f args H k) (fuel : Nat) : ∀ (c : Code) (cur : Nat) (s : St) (k : Ex → St → R),
    evalCK bot C KK fuel cur c s k = (evalC C fuel cur c s).elim bot fun x => k x.1 x.2
  | .skip, cur, s, k => rfl
  | .region id ops draw, cur, s, k => by
    unfold evalCK evalC
    rw [runRegionK_eq bot hK]
    cases runRegion C id ops draw s <;> rfl
  | .seq a b, cur, s, k => by
    unfold evalCK evalC
    rw [evalCK_eq hK fuel a]
    cases evalC C fuel cur a s with
    | none => rfl
    | some x =>
      obtain ⟨e, s2⟩ := x
      cases e with
      | normal => exact evalCK_eq hK fuel b cur s2 k
      | exit i => rfl
      | ret => rfl
  | .cond c a b, cur, s, k => by
    unfold evalCK evalC
    split
    · rename_i t ht
      cases t
      · rw [cond_false, knowO_same ht, ht]; exact evalCK_eq hK fuel b cur s k
      · rw [cond_true, knowO_same ht, ht]; exact evalCK_eq hK fuel a cur s k
    · rename_i hn
      split
      · rename_i h; exact absurd h (hn true)
      · rename_i h; exact absurd h (hn false)
      · rfl
  | .block id c, cur, s, k => by
    unfold evalCK evalC
    rw [evalCK_eq hK fuel c]
    cases evalC C fuel id c s with
    | none => rfl
    | some x =>
      obtain ⟨e, s2⟩ := x
      cases e with
      | normal => rfl
      | exit i =>
        simp only [Option.elim_some, Option.map_some]
        split <;> rfl
      | ret => rfl
  | .loop c, cur, s, k => by
    unfold evalCK evalC
    exact loopNK_eq bot (fun s k => evalCK_eq hK fuel c 0 s k) fuel s k
  | .exit i, cur, s, k => rfl
  | .ret, cur, s, k => rfl
  | .rangeFunc .., cur, s, k => rfl
  | .scope _, cur, s, k => rfl
  | .label _, cur, s, k => rfl
  | .goto _, cur, s, k => rfl
  | .refuse _, cur, s, k => rfl

theorem evalFK_eq {P : Program} {U : Out} {ann : FuncId → FAnn} {fuel : Nat} {K : Oracle} (hK : ∀ f args H k, KK f args H k = KOf bot K f args H k) (f : FuncId) (args : List AV) (H : Heap) (k : AV → Heap → Bool → R) :
    evalFK bot P U ann fuel K KK f args H k = KOf bot (evalF P U ann fuel K) f args H k := by
  unfold evalFK KOf evalF
  cases hf : P.funcs[f]? with
  | none => rfl
  | some fn =>
    simp only [Option.bind_some]
    cases hb : fn.body with
    | none => rfl
    | some c =>
      simp only [Option.bind_some]
      rw [evalCK_eq bot (C := ⟨P, K, H.length, max fn.ntmps args.length, ann f, U⟩) hK]
      cases evalC ⟨P, K, H.length, max fn.ntmps args.length, ann f, U⟩ fuel 0 c ⟨initL (ann f).keys args, [], H, false⟩ with
      | none => rfl
      | some x =>
        obtain ⟨e, s2⟩ := x
        cases e with
        | exit i => rfl
        | normal =>
          simp only [Option.elim_some, Option.bind_some]
          cases fn.results.toList.mapM (resultAV ⟨P, K, H.length, max fn.ntmps args.length, ann f, U⟩ s2) with
          | none => rfl
          | some vs =>
            simp only [Option.elim_some, Option.bind_some]
            cases sweep s2.H H.length (pickAV vs).refs s2.esc <;> rfl
        | ret =>
          simp only [Option.elim_some, Option.bind_some]
          cases fn.results.toList.mapM (resultAV ⟨P, K, H.length, max fn.ntmps args.length, ann f, U⟩ s2) with
          | none => rfl
          | some vs =>
            simp only [Option.elim_some, Option.bind_some]
            cases sweep s2.H H.length (pickAV vs).refs s2.esc <;> rfl

theorem evalNK_eq {P : Program} {U : Out} {ann : FuncId → FAnn} {fuel : Nat} {K : Oracle} : ∀ (n : Nat) (f : FuncId) (args : List AV) (H : Heap) (k : AV → Heap → Bool → R),
    evalNK bot P U ann fuel K n f args H k = KOf bot (evalN P U ann fuel K n) f args H k
  | 0, f, args, H, k => rfl
  | n + 1, f, args, H, k => by
    show (match K f args H with | some r => k r.1 r.2.1 r.2.2 | none => evalFK bot P U ann fuel (evalN P U ann fuel K n) (evalNK bot P U ann fuel K n) f args H k) =
      (match K f args H with | some r => some r | none => evalF P U ann fuel (evalN P U ann fuel K n) f args H).elim bot fun r => k r.1 r.2.1 r.2.2
    cases K f args H with
    | some r => rfl
    | none => exact evalFK_eq bot (evalNK_eq n) f args H k

end

/-- It answers true. -/
def AV.isTrue : AV → Bool
  | .bool b => b
  | _ => false

theorem run_of_true {P : Program} {U : Out} {ann : FuncId → FAnn} {fuel n : Nat} {K : Oracle} {f : FuncId} {args : List AV} {H : Heap}
    (h : evalNK false P U ann fuel K n f args H (fun v _ _ => v.isTrue) = true) : ∃ H' e, evalN P U ann fuel K n f args H = some (.bool true, H', e) := by
  rw [evalNK_eq] at h
  unfold KOf at h
  cases hx : evalN P U ann fuel K n f args H with
  | none => rw [hx] at h; simp at h
  | some r =>
    obtain ⟨v, H', e⟩ := r
    rw [hx] at h
    simp only [Option.elim_some] at h
    cases v <;> simp [AV.isTrue] at h
    subst h
    exact ⟨H', e, rfl⟩

end Go.X
