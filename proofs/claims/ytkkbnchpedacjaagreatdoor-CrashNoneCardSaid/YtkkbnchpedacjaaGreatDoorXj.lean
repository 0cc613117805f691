/-
  The light evaluator: regions.
-/
import Derived.Test.YtkkbnchpedacjaaGreatDoorXi

namespace Go.X

noncomputable def beqQ (v w : AV) : Bool := match v with
  | .int a m => (match w with
    | .int b n => kindQ a b && eqQ m n
    | _ => false)
  | .arr n xs => (match w with
    | .arr m ys => Nat.beq n m && beqLQ xs ys
    | _ => false)
  | v => v.beq w
theorem beqQ_eq (v w : AV) : beqQ v w = v.beq w := by
  unfold beqQ
  split
  · rename_i a m
    cases w <;> simp only [AV.beq]
    rename_i b n
    rw [kindQ_eq, eqQ_eq]
    congr 1
  · rename_i n xs
    cases w <;> simp only [AV.beq]
    rename_i m ys
    rw [beqLQ_eq, natBeq]
    congr 1
  · rfl

section
variable {R : Type} (bot : R) (sym : Bool) (P : Program) (U : Out) (A : FAnn) (N : Nat)

abbrev StK (R : Type) := Env' → Env' → Heap → Bool → R

noncomputable def setE (d : Nat) : Bx (Env' → Env' → AV → (Env' → Env' → R) → R) :=
  cond (A.exp.testBit d) ⟨fun L T v k => k (updQ L d v) T⟩ ⟨fun L T v k => k L ((d, v) :: T)⟩
theorem setE_eq (d : Nat) (L T : Env') (H : Heap) (e : Bool) (v : AV) (k : StK R) :
    (setE A d).f L T v (fun L T => k L T H e) = k (St.set A ⟨L, T, H, e⟩ d v).L (St.set A ⟨L, T, H, e⟩ d v).T (St.set A ⟨L, T, H, e⟩ d v).H (St.set A ⟨L, T, H, e⟩ d v).esc := by
  unfold setE St.set
  cases A.exp.testBit d <;> simp [updQ_eq]

noncomputable def setN (dst : Option Nat) : Bx (Env' → Env' → AV → (Env' → Env' → R) → R) := match dst with
  | some d => cond (Nat.ble (Nat.add d 1) N) (setE A d) ⟨fun _ _ _ _ => bot⟩
  | none => ⟨fun L T _ k => k L T⟩
noncomputable def skipE (dst : Option Nat) : Bx (Env' → Env' → (Env' → Env' → R) → R) := match dst with
  | some d => ⟨fun L T k => (setE A d).f L T .undf k⟩
  | none => ⟨fun L T k => k L T⟩

noncomputable def knowE (o : Operand) (b : Bool) : Bx (Env' → Env' → (Env' → Env' → R) → R) := match o with
  | .tmp t => cond (A.exp.testBit t) ⟨fun L T k => k (updQ L t (.bool b)) T⟩ ⟨fun L T k => k L (updQ T t (.bool b))⟩
  | _ => ⟨fun L T k => k L T⟩
theorem knowE_eq {o : Operand} {b : Bool} {L T : Env'} (H : Heap) (e : Bool) (h : St.eval A ⟨L, T, H, e⟩ o = .bool b) (k : Env' → Env' → R) : (knowE A o b).f L T k = k L T := by
  cases o with
  | tmp t =>
    have := know_same (A := A) (s := ⟨L, T, H, e⟩) (t := t) (b := b) h
    unfold St.know at this
    unfold knowE
    cases hb : A.exp.testBit t <;> simp only [hb, cond_true, cond_false, updQ_eq, if_true, Bool.false_eq_true, if_false, St.mk.injEq, true_and, and_true] at this ⊢ <;> rw [this]
  | _ => rfl

noncomputable def genQ (o : Oper) : Bx (Nat → OracleK R → Env' → Env' → Heap → Bool → StK R → R) := match opQ bot sym P U A o.op o.type with
  | .quiet f => ⟨fun _ _ L T H e k => f L T H fun v => (setN bot A N o.dst).f L T v fun L T => k L T H e⟩
  | .loud f => ⟨fun n0 KK L T H e k => f n0 KK L T H fun v H' e' => (setN bot A N o.dst).f L T v fun L T => ifQ e' (k L T H' true) (k L T H' e)⟩

noncomputable def goQ (o : Oper) : Bx (Nat → OracleK R → Env' → Env' → Heap → Bool → StK R → R) := match o.op with
  | .pick c a b => cond sym ⟨fun _ _ L T H e k => match (opdQ A c).f L T with
    | .bool t => cond t ((knowE A c true).f L T fun L T => (setN bot A N o.dst).f L T ((opdQ A a).f L T) fun L T => k L T H e) ((knowE A c false).f L T fun L T => (setN bot A N o.dst).f L T ((opdQ A b).f L T) fun L T => k L T H e)
    | _ => bot⟩ (genQ bot sym P U A N o)
  | _ => genQ bot sym P U A N o

noncomputable def stepQ (ops : List Oper) (o : Oper) : Bx (Nat → OracleK R → Env' → Env' → Heap → Bool → StK R → R) := match o.guard with
  | none => goQ bot sym P U A N o
  | some (j, want) => (match (ops[j]?).bind (·.dst) with
    | some d => cond sym
      ⟨fun n0 KK L T H e k => match (opdQ A (.tmp d)).f L T with
        | .bool b => cond b ((knowE A (.tmp d) true).f L T fun L T => cond want ((goQ bot sym P U A N o).f n0 KK L T H e k) ((skipE A o.dst).f L T fun L T => k L T H e))
            ((knowE A (.tmp d) false).f L T fun L T => cond want ((skipE A o.dst).f L T fun L T => k L T H e) ((goQ bot sym P U A N o).f n0 KK L T H e k))
        | .undf => (skipE A o.dst).f L T fun L T => k L T H e
        | _ => bot⟩
      ⟨fun n0 KK L T H e k => swBoolU ((opdQ A (.tmp d)).f L T) bot
        (fun b => ifQ b (cond want ((goQ bot sym P U A N o).f n0 KK L T H e k) ((skipE A o.dst).f L T fun L T => k L T H e))
            (cond want ((skipE A o.dst).f L T fun L T => k L T H e) ((goQ bot sym P U A N o).f n0 KK L T H e k)))
        ((skipE A o.dst).f L T fun L T => k L T H e)⟩
    | none => ⟨fun _ _ _ _ _ _ _ => bot⟩)

noncomputable def runOpsQ (ops : List Oper) (l : List Oper) : Bx (Nat → OracleK R → Env' → Env' → Heap → Bool → StK R → R) :=
  List.rec ⟨fun _ _ L T H e k => k L T H e⟩ (fun o _ ih => ⟨fun n0 KK L T H e k => (stepQ bot sym P U A N ops o).f n0 KK L T H e fun L T H e => ih.f n0 KK L T H e k⟩) l

/-- Nothing but the newest block's bareness. -/
noncomputable def runOrdQ (ops : List Oper) (flo : List Nat) (l : List Nat) : Bx (Nat → OracleK R → Env' → Env' → Heap → Bool → (Env' → Env' → Heap → Bool → List (Heap × Bool) → R) → R) :=
  List.rec ⟨fun _ _ L T H e k => k L T H e []⟩ (fun i _ ih => match ops[i]? with
    | some o => cond (flo.contains i)
      ⟨fun n0 KK L T H e k => (stepQ bot sym P U A N ops o).f n0 KK L T H e fun L T H e => cond (lastBare H) (ih.f n0 KK L T H e fun L' T' H' e' hs => k L' T' H' e' (if isLoud P o.op then (H, e) :: hs else hs)) bot⟩
      ⟨fun n0 KK L T H e k => (stepQ bot sym P U A N ops o).f n0 KK L T H e fun L T H e => ih.f n0 KK L T H e fun L' T' H' e' hs => k L' T' H' e' (if isLoud P o.op then (H, e) :: hs else hs)⟩
    | none => ⟨fun _ _ _ _ _ _ _ => bot⟩) l

noncomputable def cmpQ (dst : Option Nat) : Bx (Env' → Env' → AV → R → R) := match dst with
  | some d => cond (Nat.ble (Nat.add d 1) N) ⟨fun L T v k => match (opdQ A (.tmp d)).f L T with
    | .bad => k
    | u => cond (beqQ v u) k bot⟩ ⟨fun _ _ _ _ => bot⟩
  | none => ⟨fun _ _ _ k => k⟩

noncomputable def chkOneQ (ops : List Oper) (o : Oper) : Bx (Nat → OracleK R → Env' → Env' → Heap → R → R) :=
  match (match opQ bot sym P U A o.op o.type with
    | .quiet f => (⟨fun _ _ L T H k => f L T H fun v => (cmpQ bot A N o.dst).f L T v k⟩ : Bx (Nat → OracleK R → Env' → Env' → Heap → R → R))
    | .loud f => ⟨fun n0 KK L T H k => f n0 KK L T H fun v _ _ => (cmpQ bot A N o.dst).f L T v k⟩) with
  | ⟨run⟩ => match o.guard with
    | none => ⟨run⟩
    | some (j, want) => (match (ops[j]?).bind (·.dst) with
      | some d => ⟨fun n0 KK L T H k => match (opdQ A (.tmp d)).f L T with
        | .bool b => cond b (cond want (run n0 KK L T H k) k) (cond want k (run n0 KK L T H k))
        | .undf => k
        | _ => bot⟩
      | none => ⟨fun _ _ _ _ _ _ => bot⟩)

noncomputable def chkPsQ (ops : List Oper) (o : Oper) (l : List Nat) : Bx (Nat → OracleK R → Env' → Env' → List (Heap × Bool) → R → R) :=
  List.rec ⟨fun _ _ _ _ _ k => k⟩ (fun p _ ih => ⟨fun n0 KK L T hs k => match nthQ hs p with
    | some h => (chkOneQ bot sym P U A N ops o).f n0 KK L T h.1 (ih.f n0 KK L T hs k)
    | none => ih.f n0 KK L T hs k⟩) l

noncomputable def chkAllQ (ops : List Oper) (l : List (Nat × List Nat)) : Bx (Nat → OracleK R → Env' → Env' → List (Heap × Bool) → R → R) :=
  List.rec ⟨fun _ _ _ _ _ k => k⟩ (fun x _ ih => match ops[x.1]? with
    | some o => ⟨fun n0 KK L T hs k => (chkPsQ bot sym P U A N ops o x.2).f n0 KK L T hs (ih.f n0 KK L T hs k)⟩
    | none => ih) l

noncomputable def regionQ (id : Nat) (ops : Array Oper) (draw : Bool) : Bx (Nat → OracleK R → Env' → Env' → Heap → Bool → StK R → R) :=
  cond draw (match A.ord.lookup id with
    | some a => ⟨fun n0 KK L _ H e k => (runOrdQ bot sym P U A N ops.toList a.flo a.order).f n0 KK L [] H e fun L' T' H' e' hs => (chkAllQ bot sym P U A N ops.toList a.chk).f n0 KK L' T' ((H, e) :: hs) (k L' T' H' e')⟩
    | none => ⟨fun _ _ _ _ _ _ _ => bot⟩)
    ⟨fun n0 KK L _ H e k => (runOpsQ bot sym P U A N ops.toList ops.toList).f n0 KK L [] H e k⟩

/-! Where it tells something, it is the same. -/
structure Agrees (P : Program) (U : Out) (A : FAnn) (N : Nat) (C : Ctx) : Prop where
  P : C.P = P
  U : C.U = U
  A : C.A = A
  N : N ≤ C.N

variable {C : Ctx} {KK : OracleK R}

theorem setN_le (hC : Agrees P U A N C) (dst : Option Nat) (L T : Env') (H : Heap) (e : Bool) (v : AV) (k : StK R) :
    Le bot ((setN bot A N dst).f L T v fun L T => k L T H e) (match (match dst with | some d => St.set C.A ⟨L, T, H, e⟩ d (if d < C.N then v else .bad) | none => ⟨L, T, H, e⟩) with | s => k s.L s.T s.H s.esc) := by
  have hN := hC.N
  obtain ⟨rfl, rfl, rfl, _⟩ := hC
  unfold setN
  split
  · rename_i d
    cases hb : Nat.ble (Nat.add d 1) N with
    | false => exact .inl rfl
    | true =>
      have hlt : d < N := Nat.le_of_ble_eq_true hb
      right
      simp only [cond_true]
      rw [setE_eq, if_pos (by omega)]
  · exact .inr rfl

theorem genQ_le (hC : Agrees P U A N C) (hK : ∀ f args H k, Le bot (KK f args H k) (KOf bot C.K f args H k)) (o : Oper) (L T : Env') (H : Heap) (e : Bool) (k : StK R) :
    Le bot ((genQ bot sym P U A N o).f C.n0 KK L T H e k) ((evalOp C ⟨L, T, H, e⟩ o.op o.type).elim bot fun r =>
      match (match o.dst with | some d => St.set C.A ⟨L, T, r.2.1, e || r.2.2⟩ d (if d < C.N then r.1 else .bad) | none => ⟨L, T, r.2.1, e || r.2.2⟩) with | s => k s.L s.T s.H s.esc) := by
  unfold genQ
  have hok := opQ_ok bot sym P U A hC.P hC.U hC.A o.op o.type
  generalize hq : opQ bot sym P U A o.op o.type = q at hok
  cases q with
  | quiet f =>
    dsimp only
    refine (hok L T H e fun v H' e' => (setN bot A N o.dst).f L T v fun L T => ifQ e' (k L T H' true) (k L T H' e)).trans bot ?_
    cases hev : evalOp C ⟨L, T, H, e⟩ o.op o.type with
    | none => exact .inl rfl
    | some r =>
      simp only [Option.elim_some]
      have := setN_le bot P U A N hC o.dst L T r.2.1 (e || r.2.2) r.1 k
      refine .trans bot (.inr ?_) this
      cases r.2.2 <;> simp [ifQ]
  | loud f =>
    dsimp only
    refine (hok KK L T H e (fun v H' e' => (setN bot A N o.dst).f L T v fun L T => ifQ e' (k L T H' true) (k L T H' e)) hK).trans bot ?_
    cases hev : evalOp C ⟨L, T, H, e⟩ o.op o.type with
    | none => exact .inl rfl
    | some r =>
      simp only [Option.elim_some]
      have := setN_le bot P U A N hC o.dst L T r.2.1 (e || r.2.2) r.1 k
      refine .trans bot (.inr ?_) this
      cases r.2.2 <;> simp [ifQ]

theorem goQ_le (hC : Agrees P U A N C) (hK : ∀ f args H k, Le bot (KK f args H k) (KOf bot C.K f args H k)) (o : Oper) (L T : Env') (H : Heap) (e : Bool) (k : StK R) :
    Le bot ((goQ bot sym P U A N o).f C.n0 KK L T H e k) ((evalOp C ⟨L, T, H, e⟩ o.op o.type).elim bot fun r =>
      match (match o.dst with | some d => St.set C.A ⟨L, T, r.2.1, e || r.2.2⟩ d (if d < C.N then r.1 else .bad) | none => ⟨L, T, r.2.1, e || r.2.2⟩) with | s => k s.L s.T s.H s.esc) := by
  unfold goQ
  split
  · rename_i c a b hop
    cases sym with
    | false => exact genQ_le bot false P U A N hC hK o L T H e k
    | true =>
      simp only [cond_true]
      have hP := hC.P
      have hA := hC.A
      rw [hop]
      rw [opdQ_eq A c L T H e]
      unfold evalOp
      simp only [hA]
      split
      · rename_i t ht
        rw [ht]
        have key : ∀ (b' : Bool) (x : Operand), St.eval A ⟨L, T, H, e⟩ c = .bool b' → Le bot ((knowE A c b').f L T fun L T => (setN bot A N o.dst).f L T ((opdQ A x).f L T) fun L T => k L T H e)
            (match (match o.dst with | some d => St.set A ⟨L, T, H, e || false⟩ d (if d < C.N then St.eval A ⟨L, T, H, e⟩ x else .bad) | none => ⟨L, T, H, e || false⟩) with | s => k s.L s.T s.H s.esc) := by
          intro b' x hb
          rw [knowE_eq A H e hb, opdQ_eq A x L T H e, Bool.or_false]
          have := setN_le bot P U A N hC o.dst L T H e (St.eval A ⟨L, T, H, e⟩ x) k
          rw [hA] at this
          exact this
        cases t
        · exact key false b ht
        · exact key true a ht
      · exact .inl rfl
  · exact genQ_le bot sym P U A N hC hK o L T H e k

theorem skipE_eq (hA : C.A = A) (o : Oper) (L T : Env') (H : Heap) (e : Bool) (k : StK R) :
    (skipE A o.dst).f L T (fun L T => k L T H e) = match (match o.dst with | some d => St.set C.A ⟨L, T, H, e⟩ d .undf | none => ⟨L, T, H, e⟩) with | s => k s.L s.T s.H s.esc := by
  subst hA
  unfold skipE
  cases o.dst with
  | none => rfl
  | some d => dsimp only; rw [setE_eq]

theorem stepQ_le (hC : Agrees P U A N C) (hK : ∀ f args H k, Le bot (KK f args H k) (KOf bot C.K f args H k)) (ops : List Oper) (o : Oper) (L T : Env') (H : Heap) (e : Bool) (k : StK R) :
    Le bot ((stepQ bot sym P U A N ops o).f C.n0 KK L T H e k) ((stepOp C ops ⟨L, T, H, e⟩ o).elim bot fun s => k s.L s.T s.H s.esc) := by
  have hA := hC.A
  have hgo : Le bot ((goQ bot sym P U A N o).f C.n0 KK L T H e k) (((evalOp C ⟨L, T, H, e⟩ o.op o.type).map fun r =>
      let s' : St := ⟨L, T, r.2.1, e || r.2.2⟩
      match o.dst with
      | some d => s'.set C.A d (if d < C.N then r.1 else .bad)
      | none => s').elim bot fun s => k s.L s.T s.H s.esc) := by
    refine (goQ_le bot sym P U A N hC hK o L T H e k).trans bot (.inr ?_)
    cases evalOp C ⟨L, T, H, e⟩ o.op o.type <;> rfl
  have hskip : Le bot ((skipE A o.dst).f L T fun L T => k L T H e) ((some (match o.dst with | some d => St.set C.A ⟨L, T, H, e⟩ d .undf | none => ⟨L, T, H, e⟩)).elim bot fun s => k s.L s.T s.H s.esc) := by
    rw [skipE_eq A hA o L T H e k]
    exact .inr rfl
  unfold stepQ stepOp wantedAV
  split
  · rename_i hg
    rw [hg]
    simp only [Option.bind_some, if_true]
    exact hgo
  · rename_i j want hg
    rw [hg]
    simp only
    split
    · rename_i d hd
      rw [hd]
      have hev : (opdQ A (.tmp d)).f L T = St.get C.A ⟨L, T, H, e⟩ d := by rw [opdQ_eq A (.tmp d) L T H e, hA]; rfl
      cases sym with
      | true =>
        simp only [cond_true]
        rw [hev]
        split
        · rename_i b hb
          rw [hb]
          simp only [Option.bind_some]
          have hb' : St.eval A ⟨L, T, H, e⟩ (.tmp d) = .bool b := by rw [← hb, hA]; rfl
          cases b <;> cases want <;> simp only [cond_true, cond_false, knowE_eq A H e hb'] <;> first | exact hgo | exact hskip
        · rename_i hb
          rw [hb]
          simp only [Option.bind_some]
          exact hskip
        · exact .inl rfl
      | false =>
        simp only [cond_false]
        rw [hev, swBoolU_eq]
        split
        · rename_i b hb
          rw [hb]
          simp only [Option.bind_some]
          cases b <;> cases want <;> simp only [ifQ_eq, cond_true, cond_false] <;> first | exact hgo | exact hskip
        · rename_i hb
          rw [hb]
          simp only [Option.bind_some]
          exact hskip
        · exact .inl rfl
    · exact .inl rfl

/-- A call of yield is not told here. -/
theorem stepQ_yld (hC : Agrees P U A N C) (ops : List Oper) (o : Oper) (L T : Env') (H : Heap) (e : Bool) (k : StK R) {f : Operand} {args : Array Operand} {at_ : Array TypeId}
    (hop : o.op = .call ⟨.value f, args, at_⟩) (hg : o.guard = none) (hf : St.eval C.A ⟨L, T, H, e⟩ f = .yld) : (stepQ bot sym P U A N ops o).f C.n0 KK L T H e k = bot := by
  unfold stepQ
  rw [hg]
  unfold goQ
  rw [hop]
  have hn : ∀ g, f ≠ .func g := by rintro g rfl; cases hf
  have hf' : (opdQ A f).f L T = .yld := by rw [opdQ_eq A f L T H e, ← hC.A, hf]
  have hq : opQ bot sym P U A (.call ⟨.value f, args, at_⟩) o.type = .loud fun _ KK L T H k => (calleeAV P ((opdQ A f).f L T) ((argsQ A args.toList).f L T)).elim bot fun x => (enterQ bot P U x.1).f KK x.2 H k := by
    unfold opQ callQ
    cases f <;> first | rfl | exact absurd rfl (hn _)
  unfold genQ
  rw [hop, hq]
  simp only [hf', calleeAV, Option.elim_none]

theorem stepQY_le (hC : Agrees P U A N C) (hK : ∀ f args H k, Le bot (KK f args H k) (KOf bot C.K f args H k)) (ops : List Oper) (o : Oper) (L T : Env') (H : Heap) (e : Bool) (k : StK R) :
    Le bot ((stepQ bot sym P U A N ops o).f C.n0 KK L T H e k) ((stepY C ops ⟨L, T, H, e⟩ o).elim bot fun s => k s.L s.T s.H s.esc) := by
  unfold stepY
  split
  · rename_i f args argTypes hop
    split
    · rename_i hc
      left
      simp only [Bool.and_eq_true, Option.isNone_iff_eq_none] at hc
      have hf : St.eval C.A ⟨L, T, H, e⟩ f = .yld := by
        have := hc.1
        cases hv : St.eval C.A ⟨L, T, H, e⟩ f <;> rw [hv] at this <;> first | rfl | cases this
      exact stepQ_yld bot sym P U A N hC ops o L T H e k hop hc.2 hf
    · exact stepQ_le bot sym P U A N hC hK ops o L T H e k
  · exact stepQ_le bot sym P U A N hC hK ops o L T H e k

theorem runOpsQ_le (hC : Agrees P U A N C) (hK : ∀ f args H k, Le bot (KK f args H k) (KOf bot C.K f args H k)) (ops : List Oper) : ∀ (l : List Oper) (L T : Env') (H : Heap) (e : Bool) (k : StK R),
    Le bot ((runOpsQ bot sym P U A N ops l).f C.n0 KK L T H e k) ((runOps C ops l ⟨L, T, H, e⟩).elim bot fun s => k s.L s.T s.H s.esc)
  | [], L, T, H, e, k => .inr rfl
  | o :: r, L, T, H, e, k => by
    show Le bot ((stepQ bot sym P U A N ops o).f C.n0 KK L T H e fun L T H e => (runOpsQ bot sym P U A N ops r).f C.n0 KK L T H e k) _
    unfold runOps
    refine (stepQY_le bot sym P U A N hC hK ops o L T H e _).trans bot ?_
    cases stepY C ops ⟨L, T, H, e⟩ o with
    | none => exact .inl rfl
    | some s' => exact runOpsQ_le hC hK ops r s'.L s'.T s'.H s'.esc k

theorem runOrdQ_le (hC : Agrees P U A N C) (hK : ∀ f args H k, Le bot (KK f args H k) (KOf bot C.K f args H k)) (ops : List Oper) (flo : List Nat) : ∀ (l : List Nat) (L T : Env') (H : Heap) (e : Bool) (k : Env' → Env' → Heap → Bool → List (Heap × Bool) → R),
    Le bot ((runOrdQ bot sym P U A N ops flo l).f C.n0 KK L T H e k) ((runOrd C ops flo l ⟨L, T, H, e⟩).elim bot fun x => k x.1.L x.1.T x.1.H x.1.esc x.2)
  | [], L, T, H, e, k => .inr rfl
  | i :: r, L, T, H, e, k => by
    have hP := hC.P
    have unf : runOrdQ bot sym P U A N ops flo (i :: r) = match ops[i]? with
      | some o => cond (flo.contains i)
        ⟨fun n0 KK L T H e k => (stepQ bot sym P U A N ops o).f n0 KK L T H e fun L T H e => cond (lastBare H) ((runOrdQ bot sym P U A N ops flo r).f n0 KK L T H e fun L' T' H' e' hs => k L' T' H' e' (if isLoud P o.op then (H, e) :: hs else hs)) bot⟩
        ⟨fun n0 KK L T H e k => (stepQ bot sym P U A N ops o).f n0 KK L T H e fun L T H e => (runOrdQ bot sym P U A N ops flo r).f n0 KK L T H e fun L' T' H' e' hs => k L' T' H' e' (if isLoud P o.op then (H, e) :: hs else hs)⟩
      | none => ⟨fun _ _ _ _ _ _ _ => bot⟩ := rfl
    rw [unf]
    unfold runOrd
    cases hi : ops[i]? with
    | none => exact .inl rfl
    | some o =>
      simp only [Option.bind_some]
      cases hfl : flo.contains i with
      | true =>
        simp only [cond_true, Bool.true_and]
        refine (stepQ_le bot sym P U A N hC hK ops o L T H e _).trans bot ?_
        cases stepOp C ops ⟨L, T, H, e⟩ o with
        | none => exact .inl rfl
        | some s' =>
          simp only [Option.elim_some, Option.bind_some]
          cases lastBare s'.H with
          | false => exact .inl rfl
          | true =>
            simp only [cond_true, Bool.not_true, Bool.false_eq_true, if_false]
            refine (runOrdQ_le hC hK ops flo r s'.L s'.T s'.H s'.esc _).trans bot (.inr ?_)
            subst hP
            cases runOrd C ops flo r s' <;> rfl
      | false =>
        simp only [cond_false, Bool.false_and, Bool.false_eq_true, if_false]
        refine (stepQ_le bot sym P U A N hC hK ops o L T H e _).trans bot ?_
        cases stepOp C ops ⟨L, T, H, e⟩ o with
        | none => exact .inl rfl
        | some s' =>
          simp only [Option.elim_some, Option.bind_some]
          refine (runOrdQ_le hC hK ops flo r s'.L s'.T s'.H s'.esc _).trans bot (.inr ?_)
          subst hP
          cases runOrd C ops flo r s' <;> rfl

theorem chkOneQ_le (hC : Agrees P U A N C) (hK : ∀ f args H k, Le bot (KK f args H k) (KOf bot C.K f args H k)) (ops : List Oper) (s : St) (o : Oper) (H : Heap) (k : R) :
    Le bot ((chkOneQ bot sym P U A N ops o).f C.n0 KK s.L s.T H k) (cond (chkOne C ops s o H) k bot) := by
  have hA := hC.A
  obtain ⟨L, T, H0, e⟩ := s
  -- the look itself
  have hrun : ∀ (run : Nat → OracleK R → Env' → Env' → Heap → R → R), (match opQ bot sym P U A o.op o.type with
      | .quiet f => (⟨fun _ _ L T H k => f L T H fun v => (cmpQ bot A N o.dst).f L T v k⟩ : Bx (Nat → OracleK R → Env' → Env' → Heap → R → R))
      | .loud f => ⟨fun n0 KK L T H k => f n0 KK L T H fun v _ _ => (cmpQ bot A N o.dst).f L T v k⟩) = ⟨run⟩ →
      Le bot (run C.n0 KK L T H k) (cond (match evalOp C { (⟨L, T, H0, e⟩ : St) with H } o.op o.type with
        | some r => (match o.dst with | some d => (St.get C.A ⟨L, T, H0, e⟩ d).isBad || (decide (d < C.N) && r.1.beq (St.get C.A ⟨L, T, H0, e⟩ d)) | none => true)
        | none => false) k bot) := by
    intro run hr
    have hcmp : ∀ v : AV, Le bot ((cmpQ bot A N o.dst).f L T v k) (cond (match o.dst with | some d => (St.get C.A ⟨L, T, H0, e⟩ d).isBad || (decide (d < C.N) && v.beq (St.get C.A ⟨L, T, H0, e⟩ d)) | none => true) k bot) := by
      intro v
      unfold cmpQ
      cases o.dst with
      | none => exact .inr rfl
      | some d =>
        simp only
        cases hb : Nat.ble (Nat.add d 1) N with
        | false => exact .inl rfl
        | true =>
          have hlt : d < C.N := Nat.lt_of_lt_of_le (Nat.le_of_ble_eq_true hb) hC.N
          simp only [cond_true]
          have hev : (opdQ A (.tmp d)).f L T = St.get C.A ⟨L, T, H0, e⟩ d := by rw [opdQ_eq A (.tmp d) L T H0 e, hA]; rfl
          rw [hev]
          split
          · rename_i hu
            rw [hu]
            exact .inr rfl
          · rename_i u hu
            rw [beqQ_eq]
            cases hq : v.beq (St.get C.A ⟨L, T, H0, e⟩ d) with
            | false => exact .inl rfl
            | true => right; simp [hlt]
    have hok := opQ_ok bot sym P U A hC.P hC.U hC.A o.op o.type
    generalize opQ bot sym P U A o.op o.type = q at hr hok
    cases q with
    | quiet f =>
      simp only [Bx.mk.injEq] at hr
      subst hr
      dsimp only
      refine (hok L T H e fun v _ _ => (cmpQ bot A N o.dst).f L T v k).trans bot ?_
      cases evalOp C ⟨L, T, H, e⟩ o.op o.type with
      | none => exact .inl rfl
      | some r => exact hcmp r.1
    | loud f =>
      simp only [Bx.mk.injEq] at hr
      subst hr
      dsimp only
      refine (hok KK L T H e (fun v _ _ => (cmpQ bot A N o.dst).f L T v k) hK).trans bot ?_
      cases evalOp C ⟨L, T, H, e⟩ o.op o.type with
      | none => exact .inl rfl
      | some r => exact hcmp r.1
  unfold chkOneQ chkOne wantedAV
  generalize hb : (match opQ bot sym P U A o.op o.type with
      | .quiet f => (⟨fun _ _ L T H k => f L T H fun v => (cmpQ bot A N o.dst).f L T v k⟩ : Bx (Nat → OracleK R → Env' → Env' → Heap → R → R))
      | .loud f => ⟨fun n0 KK L T H k => f n0 KK L T H fun v _ _ => (cmpQ bot A N o.dst).f L T v k⟩) = bx at hrun
  obtain ⟨run⟩ := bx
  have hrun := hrun run rfl
  dsimp only
  split
  · rename_i hg
    rw [hg]
    exact hrun
  · rename_i j want hg
    rw [hg]
    simp only
    split
    · rename_i d hd
      rw [hd]
      have hev : (opdQ A (.tmp d)).f L T = St.get C.A ⟨L, T, H0, e⟩ d := by rw [opdQ_eq A (.tmp d) L T H0 e, hA]; rfl
      dsimp only
      rw [hev]
      split
      · rename_i b hbb
        rw [hbb]
        cases b <;> cases want <;> simp only [cond_true, cond_false] <;> first | exact hrun | exact .inr rfl
      · rename_i hbb
        rw [hbb]
        exact .inr rfl
      · exact .inl rfl
    · exact .inl rfl

theorem chkPsQ_le (hC : Agrees P U A N C) (hK : ∀ f args H k, Le bot (KK f args H k) (KOf bot C.K f args H k)) (ops : List Oper) (s : St) (o : Oper) (hs : List (Heap × Bool)) : ∀ (l : List Nat) (k : R),
    Le bot ((chkPsQ bot sym P U A N ops o l).f C.n0 KK s.L s.T hs k) (cond (l.all fun p => match hs[p]? with | some h => chkOne C ops s o h.1 | none => true) k bot)
  | [], k => .inr rfl
  | p :: r, k => by
    show Le bot (match nthQ hs p with
      | some h => (chkOneQ bot sym P U A N ops o).f C.n0 KK s.L s.T h.1 ((chkPsQ bot sym P U A N ops o r).f C.n0 KK s.L s.T hs k)
      | none => (chkPsQ bot sym P U A N ops o r).f C.n0 KK s.L s.T hs k) _
    rw [nthQ_eq]
    simp only [List.all_cons]
    cases hp : hs[p]? with
    | none => simpa using chkPsQ_le hC hK ops s o hs r k
    | some h =>
      refine (chkOneQ_le bot sym P U A N hC hK ops s o h.1 _).trans bot ?_
      cases hc : chkOne C ops s o h.1 with
      | false => simp [hc]; exact .inl rfl
      | true => simpa [hc] using chkPsQ_le hC hK ops s o hs r k

theorem chkAllQ_le (hC : Agrees P U A N C) (hK : ∀ f args H k, Le bot (KK f args H k) (KOf bot C.K f args H k)) (ops : List Oper) (s : St) (hs : List (Heap × Bool)) : ∀ (l : List (Nat × List Nat)) (k : R),
    Le bot ((chkAllQ bot sym P U A N ops l).f C.n0 KK s.L s.T hs k) (cond (chkAll C ops s hs l) k bot)
  | [], k => .inr rfl
  | x :: r, k => by
    have ih := chkAllQ_le hC hK ops s hs r k
    have unf : chkAllQ bot sym P U A N ops (x :: r) = match ops[x.1]? with
      | some o => ⟨fun n0 KK L T hs k => (chkPsQ bot sym P U A N ops o x.2).f n0 KK L T hs ((chkAllQ bot sym P U A N ops r).f n0 KK L T hs k)⟩
      | none => chkAllQ bot sym P U A N ops r := rfl
    rw [unf]
    unfold chkAll at ih ⊢
    simp only [List.all_cons]
    cases ho : ops[x.1]? with
    | none => simpa [ho] using ih
    | some o =>
      dsimp only
      refine (chkPsQ_le bot sym P U A N hC hK ops s o hs x.2 _).trans bot ?_
      generalize (x.2.all fun p => match hs[p]? with | some h => chkOne C ops s o h.1 | none => true) = t
      cases t with
      | false => exact .inl rfl
      | true => simpa using ih

theorem regionQ_le (hC : Agrees P U A N C) (hK : ∀ f args H k, Le bot (KK f args H k) (KOf bot C.K f args H k)) (id : Nat) (ops : Array Oper) (draw : Bool) (L T : Env') (H : Heap) (e : Bool) (k : StK R) :
    Le bot ((regionQ bot sym P U A N id ops draw).f C.n0 KK L T H e k) ((runRegion C id ops draw ⟨L, T, H, e⟩).elim bot fun s => k s.L s.T s.H s.esc) := by
  have hA := hC.A
  unfold regionQ runRegion
  cases draw with
  | true =>
    simp only [cond_true, if_true, hA]
    cases A.ord.lookup id with
    | none => exact .inl rfl
    | some a =>
      dsimp only
      refine (runOrdQ_le bot sym P U A N hC hK _ _ _ _ _ _ _ _).trans bot ?_
      cases runOrd C ops.toList a.flo a.order ⟨L, [], H, e⟩ with
      | none => exact .inl rfl
      | some x =>
        simp only [Option.elim_some, Option.bind_some]
        refine (chkAllQ_le bot sym P U A N hC hK _ _ _ _ _).trans bot (.inr ?_)
        cases chkAll C ops.toList x.1 ((H, e) :: x.2) a.chk <;> rfl
  | false =>
    simp only [cond_false, Bool.false_eq_true, if_false]
    exact runOpsQ_le bot sym P U A N hC hK _ _ _ _ _ _ _

end
end Go.X
/-
  The light evaluator: code, functions, calls.
-/
namespace Go.X

/-! Sweeping, made light. -/
noncomputable def memQ (l : List Nat) (i : Nat) : Bool := List.rec false (fun x _ ih => Bool.rec ih true (Nat.beq i x)) l
theorem memQ_eq : ∀ (l : List Nat) (i : Nat), memQ l i = l.contains i
  | [], i => rfl
  | x :: r, i => by
    show (Bool.rec (memQ r i) true (Nat.beq i x) : Bool) = _
    rw [recB, cond_beq, memQ_eq r, List.contains_cons]
    by_cases h : i = x <;> simp [h]

noncomputable def takeQ {α : Type} (l : List α) : Nat → List α := List.rec (fun _ => []) (fun x _ ih n => Bool.rec (x :: ih (Nat.sub n 1)) [] (Nat.beq n 0)) l
noncomputable def dropQ {α : Type} (l : List α) : Nat → List α := List.rec (fun _ => []) (fun x r ih n => Bool.rec (ih (Nat.sub n 1)) (x :: r) (Nat.beq n 0)) l
noncomputable def appQ {α : Type} (l m : List α) : List α := List.rec m (fun x _ ih => x :: ih) l
theorem takeQ_eq {α : Type} : ∀ (l : List α) (n : Nat), takeQ l n = l.take n
  | [], n => by cases n <;> rfl
  | x :: r, n => by
    show (Bool.rec (x :: takeQ r (n - 1)) [] (Nat.beq n 0) : List α) = _
    rw [recB, cond_beq, takeQ_eq r]
    cases n <;> simp
theorem dropQ_eq {α : Type} : ∀ (l : List α) (n : Nat), dropQ l n = l.drop n
  | [], n => by cases n <;> rfl
  | x :: r, n => by
    show (Bool.rec (dropQ r (n - 1)) (x :: r) (Nat.beq n 0) : List α) = _
    rw [recB, cond_beq, dropQ_eq r]
    cases n <;> simp
theorem appQ_eq {α : Type} : ∀ (l m : List α), appQ l m = l ++ m
  | [], m => rfl
  | x :: r, m => by
    show x :: appQ r m = _
    rw [appQ_eq r]
    rfl

noncomputable def refsLC (l : List AV) (m : List Nat) : List Nat := ifQ (reflessLQ l) m (refsLQ l m)
theorem refsLC_eq (l : List AV) (m : List Nat) : refsLC l m = refsL l ++ m := by
  unfold refsLC
  rw [ifQ_eq, reflessLQ_eq, refsLQ_eq]
  cases h : reflessL l with
  | true => simp [refs_of_refless_both.2 l h]
  | false => rfl

noncomputable def refsQ (v : AV) (m : List Nat) : List Nat := swFlat v (match v with
    | .tuple vs => refsLQ vs m
    | .ptr p => p.id :: m
    | v => v.refs ++ m) (fun _ ps => refsLC ps m) (fun _ xs => refsLC xs m) m
theorem refsQ_eq (v : AV) (m : List Nat) : refsQ v m = v.refs ++ m := by
  unfold refsQ
  rw [swFlat_eq]
  cases v <;> simp [AV.refs, refsLQ_eq, refsLC_eq]

noncomputable def reachQ (H : Heap) (n0 : Nat) (k : Nat) : List Nat → List Nat → Option (List Nat) := Nat.rec (fun todo seen => match todo with
    | [] => some seen
    | _ :: _ => none)
  (fun _ ih todo seen => match todo with
    | [] => some seen
    | i :: todo => cond (Nat.ble n0 i) (cond (memQ seen i) (ih todo seen) (match blkQ H i with
        | some b => ih (cond b.flat todo (refsQ b.root todo)) (i :: seen)
        | none => ih todo (i :: seen))) (ih todo seen)) k
theorem reachQ_eq (H : Heap) (n0 : Nat) : ∀ (k : Nat) (todo seen : List Nat), reachQ H n0 k todo seen = reach H n0 k todo seen
  | 0, [], seen => rfl
  | 0, i :: todo, seen => rfl
  | k + 1, [], seen => rfl
  | k + 1, i :: todo, seen => by
    have unf : reachQ H n0 (k + 1) (i :: todo) seen = cond (Nat.ble n0 i) (cond (memQ seen i) (reachQ H n0 k todo seen) (match blkQ H i with
        | some b => reachQ H n0 k (cond b.flat todo (refsQ b.root todo)) (i :: seen)
        | none => reachQ H n0 k todo (i :: seen))) (reachQ H n0 k todo seen) := rfl
    rw [unf, reach, memQ_eq, blkQ_eq]
    simp only [reachQ_eq H n0 k, refsQ_eq]
    by_cases h : i < n0
    · have hb : Nat.ble n0 i = false := by
        cases hc : Nat.ble n0 i with
        | false => rfl
        | true => have := Nat.le_of_ble_eq_true hc; omega
      rw [if_pos h, hb]
      rfl
    · have hb : Nat.ble n0 i = true := Nat.ble_eq_true_of_le (by omega)
      rw [if_neg h, hb]
      simp only [cond_true]
      cases seen.contains i with
      | true => rfl
      | false =>
        simp only [cond_false, Bool.false_eq_true, if_false]
        cases H.blk i with
        | none => rfl
        | some b => cases hb : b.flat <;> simp [hb]

noncomputable def pruneQ (keep : List Nat) (l : Heap) : Nat → Heap := List.rec (fun _ => []) (fun b _ ih i => match ih (Nat.add i 1) with
  | [] => cond (memQ keep i) [b] []
  | x :: r => (cond (memQ keep i) b none) :: x :: r) l
theorem pruneQ_eq (keep : List Nat) : ∀ (l : Heap) (i : Nat), pruneQ keep l i = prune keep i l
  | [], i => rfl
  | b :: r, i => by
    have unf : pruneQ keep (b :: r) i = match pruneQ keep r (i + 1) with
      | [] => cond (memQ keep i) [b] []
      | x :: r => (cond (memQ keep i) b none) :: x :: r := rfl
    rw [unf, pruneQ_eq keep r (i + 1), memQ_eq, prune]
    cases prune keep (i + 1) r with
    | nil => cases keep.contains i <;> rfl
    | cons x r' => cases keep.contains i <;> rfl

section
variable {R : Type} (bot : R) (sym : Bool) (P : Program) (U : Out) (ann : FuncId → FAnn) (fuel : Nat)

noncomputable def sweepQ (H : Heap) (n0 : Nat) (roots : List Nat) (e : Bool) (k : Heap → R) : R :=
  ifQ (Nat.beq (lenQ H) n0) (k H) ((reachQ H n0 1000 (cond e (roots ++ oldRefs H n0) roots) []).elim bot fun keep => k (appQ (takeQ H n0) (pruneQ keep (dropQ H n0) n0)))
theorem sweepQ_eq (H : Heap) (n0 : Nat) (roots : List Nat) (e : Bool) (k : Heap → R) : sweepQ bot H n0 roots e k = (sweep H n0 roots e).elim bot k := by
  unfold sweepQ sweep
  rw [ifQ_eq, cond_beq, lenQ_eq]
  split
  · rfl
  · rw [reachQ_eq]
    have : (cond e (roots ++ oldRefs H n0) roots) = roots ++ (if e = true then oldRefs H n0 else []) := by cases e <;> simp
    rw [this, elim_map]
    congr 1
    funext keep
    rw [appQ_eq, takeQ_eq, pruneQ_eq, dropQ_eq]

noncomputable def maskQ (m : Nat) (l : Env') : Env' := List.rec [] (fun x _ ih => cond (m.testBit x.1) (x :: ih) ((x.1, .bad) :: ih)) l
theorem maskQ_eq (m : Nat) : ∀ (l : Env'), maskQ m l = maskL m l
  | [] => rfl
  | x :: r => by
    show cond (m.testBit x.1) (x :: maskQ m r) ((x.1, .bad) :: maskQ m r) = _
    rw [maskQ_eq m r]
    unfold maskL
    cases h : m.testBit x.1 <;> simp [h]

noncomputable def rootsQ (l : Env') : List Nat := List.rec [] (fun x _ ih => refsQ x.2 ih) l
theorem rootsQ_eq : ∀ (l : Env'), rootsQ l = rootsL l
  | [] => rfl
  | x :: r => by
    show refsQ x.2 (rootsQ r) = _
    rw [rootsQ_eq r, refsQ_eq]
    rfl

noncomputable def headQ (n0 m : Nat) (L : Env') (H : Heap) (e : Bool) (k : Env' → Heap → R) : R := sweepQ bot H n0 (rootsQ (maskQ m L)) e fun H => k (maskQ m L) H

/-- What code does: the fence, what is called (twice told), the state; and what comes then. -/
abbrev CodeC (R : Type) := Nat → Oracle → OracleK R → Env' → Env' → Heap → Bool → (Ex → StK R) → R

noncomputable def loopTQ (m : Nat) (body : CodeC R) (n0 : Nat) (KO : Oracle) (KK : OracleK R) (n : Nat) : Env' → Env' → Heap → Bool → (Ex → StK R) → R :=
  Nat.rec (fun _ _ _ _ _ => bot) (fun _ ih L T H e k => body n0 KO KK L T H e fun x L T H e => match x with
    | .normal => headQ bot n0 m L H e fun L H => ih L [] H e k
    | .exit i => k (.exit i) L T H e
    | .ret => k .ret L T H e) n

noncomputable def codeQ (A : FAnn) (N : Nat) : Code → Nat → Bx (CodeC R)
  | .skip => fun _ => ⟨fun _ _ _ L T H e k => k .normal L T H e⟩
  | .region id ops draw => fun _ => ⟨fun n0 _ KK L T H e k => (regionQ bot sym P U A N id ops draw).f n0 KK L T H e fun L _ H e => k .normal L [] H e⟩
  | .seq a b => fun cur => ⟨fun n0 KO KK L T H e k => (codeQ A N a cur).f n0 KO KK L T H e fun x L T H e => match x with
      | .normal => (codeQ A N b cur).f n0 KO KK L T H e k
      | .exit i => k (.exit i) L T H e
      | .ret => k .ret L T H e⟩
  | .cond c a b => fun cur => cond sym
    ⟨fun n0 KO KK L T H e k => match (opdQ A c).f L T with
      | .bool t => cond t ((knowE A c true).f L T fun L T => (codeQ A N a cur).f n0 KO KK L T H e k) ((knowE A c false).f L T fun L T => (codeQ A N b cur).f n0 KO KK L T H e k)
      | _ => bot⟩
    ⟨fun n0 KO KK L T H e k => swBool ((opdQ A c).f L T) bot fun t => ifQ t ((codeQ A N a cur).f n0 KO KK L T H e k) ((codeQ A N b cur).f n0 KO KK L T H e k)⟩
  | .block id c => fun _ => ⟨fun n0 KO KK L T H e k => (codeQ A N c id).f n0 KO KK L T H e fun x L T H e => match x with
      | .exit i => cond (Nat.beq i id) (k .normal L T H e) (k (.exit i) L T H e)
      | .normal => k .normal L T H e
      | .ret => k .ret L T H e⟩
  | .loop c => fun cur => ⟨fun n0 KO KK L _ H e k => headQ bot n0 ((A.keep.lookup cur).getD 0) L H e fun L H => loopTQ bot ((A.keep.lookup cur).getD 0) (codeQ A N c 0).f n0 KO KK fuel L [] H e k⟩
  | .exit i => fun _ => ⟨fun _ _ _ L T H e k => k (.exit i) L T H e⟩
  | .ret => fun _ => ⟨fun _ _ _ L T H e k => k .ret L T H e⟩
  | .rangeFunc g ps a b => fun cur => ⟨fun n0 KO _ L T H e k => (evalC ⟨P, KO, n0, N, A, U, noY, evalI P U ann fuel KO⟩ fuel cur (.rangeFunc g ps a b) ⟨L, T, H, e⟩).elim bot fun x => k x.1 x.2.L x.2.T x.2.H x.2.esc⟩
  | .scope _ => fun _ => ⟨fun _ _ _ _ _ _ _ _ => bot⟩
  | .label _ => fun _ => ⟨fun _ _ _ _ _ _ _ _ => bot⟩
  | .goto _ => fun _ => ⟨fun _ _ _ _ _ _ _ _ => bot⟩
  | .refuse _ => fun _ => ⟨fun _ _ _ _ _ _ _ _ => bot⟩

/-! Where it tells something, it is the same. -/
theorem headQ_eq (n0 m : Nat) (L : Env') (H : Heap) (e : Bool) (k : Env' → Heap → R) : headQ bot n0 m L H e k = (sweep H n0 (rootsL (maskL m L)) e).elim bot fun H => k (maskL m L) H := by
  unfold headQ
  rw [sweepQ_eq, rootsQ_eq, maskQ_eq]

variable {C : Ctx} {KO : Oracle} {KK : OracleK R}

theorem loopTQ_le {A : FAnn} (hA : C.A = A) {m : Nat} {body : CodeC R} {bodyO : St → Option (Ex × St)} (hb : ∀ L T H e k, Le bot (body C.n0 KO KK L T H e k) ((bodyO ⟨L, T, H, e⟩).elim bot fun x => k x.1 x.2.L x.2.T x.2.H x.2.esc)) :
    ∀ (n : Nat) (s : St) (k : Ex → StK R), Le bot (headQ bot C.n0 m s.L s.H s.esc fun L H => loopTQ bot m body C.n0 KO KK n L [] H s.esc k) ((loopN (headSt C m) bodyO n s).elim bot fun x => k x.1 x.2.L x.2.T x.2.H x.2.esc)
  | 0, s, k => by
    rw [headQ_eq]
    left
    cases sweep s.H C.n0 (rootsL (maskL m s.L)) s.esc <;> rfl
  | n + 1, s, k => by
    rw [headQ_eq]
    unfold loopN headSt
    simp only [elim_bind, elim_map]
    cases sweep s.H C.n0 (rootsL (maskL m s.L)) s.esc with
    | none => exact .inl rfl
    | some H1 =>
      simp only [Option.elim_some]
      show Le bot (body C.n0 KO KK (maskL m s.L) [] H1 s.esc fun x L T H e => match x with
        | .normal => headQ bot C.n0 m L H e fun L H => loopTQ bot m body C.n0 KO KK n L [] H e k
        | .exit i => k (.exit i) L T H e
        | .ret => k .ret L T H e) _
      refine (hb _ _ _ _ _).trans bot ?_
      cases bodyO ⟨maskL m s.L, [], H1, s.esc⟩ with
      | none => exact .inl rfl
      | some x =>
        obtain ⟨e, s2⟩ := x
        cases e with
        | normal => exact loopTQ_le hA hb n s2 k
        | exit i => exact .inr rfl
        | ret => exact .inr rfl

theorem codeQ_le {A : FAnn} {N : Nat} (hP : C.P = P) (hU : C.U = U) (hA : C.A = A) (hN : C.N = N) (hO : C.K = KO) (hY : C.Y = noY) (hR : C.Rg = evalI P U ann fuel KO)
    (hK : ∀ f args H k, Le bot (KK f args H k) (KOf bot KO f args H k)) : ∀ (c : Code) (cur : Nat) (L T : Env') (H : Heap) (e : Bool) (k : Ex → StK R),
    Le bot ((codeQ bot sym P U ann fuel A N c cur).f C.n0 KO KK L T H e k) ((evalC C fuel cur c ⟨L, T, H, e⟩).elim bot fun x => k x.1 x.2.L x.2.T x.2.H x.2.esc)
  | .skip, cur, L, T, H, e, k => .inr rfl
  | .region id ops draw, cur, L, T, H, e, k => by
    unfold codeQ evalC
    dsimp only
    refine (regionQ_le bot sym P U A N (C := C) ⟨hP, hU, hA, by omega⟩ (by rw [hO]; exact hK) id ops draw L T H e (fun L _ H e => k .normal L [] H e)).trans bot (.inr ?_)
    cases runRegion C id ops draw ⟨L, T, H, e⟩ <;> rfl
  | .seq a b, cur, L, T, H, e, k => by
    unfold codeQ evalC
    refine (codeQ_le hP hU hA hN hO hY hR hK a cur L T H e _).trans bot ?_
    cases evalC C fuel cur a ⟨L, T, H, e⟩ with
    | none => exact .inl rfl
    | some x =>
      obtain ⟨ex, s2⟩ := x
      cases ex with
      | normal => exact codeQ_le hP hU hA hN hO hY hR hK b cur s2.L s2.T s2.H s2.esc k
      | exit i => exact .inr rfl
      | ret => exact .inr rfl
  | .cond c a b, cur, L, T, H, e, k => by
    unfold codeQ evalC
    have hev := opdQ_eq A c L T H e
    by_cases hs : sym = true
    · rw [Bool.cond_eq_ite, if_pos hs]
      dsimp only
      rw [hev, hA]
      split
      · rename_i t ht
        rw [ht]
        cases t
        · rw [cond_false, knowE_eq A H e ht]; exact codeQ_le hP hU hA hN hO hY hR hK b cur L T H e k
        · rw [cond_true, knowE_eq A H e ht]; exact codeQ_le hP hU hA hN hO hY hR hK a cur L T H e k
      · exact .inl rfl
    · rw [Bool.cond_eq_ite, if_neg hs]
      dsimp only
      rw [hev, hA, swBool_eq]
      split
      · rename_i t ht
        rw [ht, ifQ_eq]
        cases t
        · exact codeQ_le hP hU hA hN hO hY hR hK b cur L T H e k
        · exact codeQ_le hP hU hA hN hO hY hR hK a cur L T H e k
      · exact .inl rfl
  | .block id c, cur, L, T, H, e, k => by
    unfold codeQ evalC
    refine (codeQ_le hP hU hA hN hO hY hR hK c id L T H e _).trans bot ?_
    cases evalC C fuel id c ⟨L, T, H, e⟩ with
    | none => exact .inl rfl
    | some x =>
      obtain ⟨ex, s2⟩ := x
      cases ex with
      | normal => exact .inr rfl
      | exit i =>
        simp only [Option.elim_some, Option.map_some, cond_beq]
        split <;> exact .inr rfl
      | ret => exact .inr rfl
  | .loop c, cur, L, T, H, e, k => by
    unfold codeQ evalC
    rw [hA]
    exact loopTQ_le bot (C := C) (KO := KO) (KK := KK) hA (bodyO := fun s => evalC C fuel 0 c s) (fun L T H e k => codeQ_le hP hU hA hN hO hY hR hK c 0 L T H e k) fuel ⟨L, T, H, e⟩ k
  | .exit i, cur, L, T, H, e, k => .inr rfl
  | .ret, cur, L, T, H, e, k => .inr rfl
  | .rangeFunc g ps a b, cur, L, T, H, e, k => by
    unfold codeQ
    dsimp only
    right
    have : C = ⟨P, KO, C.n0, N, A, U, noY, evalI P U ann fuel KO⟩ := by
      obtain ⟨a1, a2, a3, a4, a5, a6, a7, a8⟩ := C
      simp only at hP hU hA hN hO hY hR
      subst hP hU hA hN hO hY hR
      rfl
    rw [← this]
  | .scope _, cur, L, T, H, e, k => .inl rfl
  | .label _, cur, L, T, H, e, k => .inl rfl
  | .goto _, cur, L, T, H, e, k => .inl rfl
  | .refuse _, cur, L, T, H, e, k => .inl rfl

/-! Functions. -/
noncomputable def initQ (keys : List Nat) (args : List AV) : Env' := List.rec [] (fun k _ ih => (k, (nthQ args k).getD .bad) :: ih) keys
theorem initQ_eq (args : List AV) : ∀ (keys : List Nat), initQ keys args = initL keys args
  | [] => rfl
  | k :: r => by
    show (k, (nthQ args k).getD .bad) :: initQ r args = _
    rw [initQ_eq args r, nthQ_eq]
    rfl

noncomputable def resQ (A : FAnn) (l : List ResultVar) : Bx (Env' → Env' → Heap → (List AV → R) → R) := List.rec ⟨fun _ _ _ k => k []⟩ (fun r _ ih => match r with
  | .tmp t => ⟨fun L T H k => ih.f L T H fun vs => k ((opdQ A (.tmp t)).f L T :: vs)⟩
  | .cell a t => ⟨fun L T H k => loadK bot P t H ((opdQ A (.tmp a)).f L T) fun v => ih.f L T H fun vs => k (v :: vs)⟩) l
theorem resQ_le (L T : Env') (H : Heap) (e : Bool) : ∀ (l : List ResultVar) (k : List AV → R),
    Le bot ((resQ bot C.P C.A l).f L T H k) ((l.mapM (resultAV C ⟨L, T, H, e⟩)).elim bot k)
  | [], k => .inr rfl
  | r :: l, k => by
    have unf : resQ bot C.P C.A (r :: l) = match r with
      | .tmp t => ⟨fun L T H k => (resQ bot C.P C.A l).f L T H fun vs => k ((opdQ C.A (.tmp t)).f L T :: vs)⟩
      | .cell a t => ⟨fun L T H k => loadK bot C.P t H ((opdQ C.A (.tmp a)).f L T) fun v => (resQ bot C.P C.A l).f L T H fun vs => k (v :: vs)⟩ := rfl
    rw [unf, List.mapM_cons]
    cases r with
    | tmp t =>
      dsimp only
      rw [opdQ_eq C.A (.tmp t) L T H e]
      refine (resQ_le L T H e l _).trans bot (.inr ?_)
      simp only [resultAV, Option.pure_def, Option.bind_eq_bind, Option.bind_some]
      cases l.mapM (resultAV C ⟨L, T, H, e⟩) <;> rfl
    | cell a t =>
      dsimp only
      rw [opdQ_eq C.A (.tmp a) L T H e]
      refine (loadK_le bot C.P t H _ _).trans bot ?_
      simp only [resultAV, Option.pure_def, Option.bind_eq_bind]
      show Le bot ((loadAV C.P H t (St.get C.A ⟨L, T, H, e⟩ a)).elim bot _) _
      cases loadAV C.P H t (St.get C.A ⟨L, T, H, e⟩ a) with
      | none => exact .inl rfl
      | some v =>
        simp only [Option.elim_some, Option.bind_some]
        refine (resQ_le L T H e l _).trans bot (.inr ?_)
        cases l.mapM (resultAV C ⟨L, T, H, e⟩) <;> rfl

noncomputable def finQ (A : FAnn) (rs : List ResultVar) (n0 : Nat) (k : AV → Heap → Bool → R) : Ex → StK R := fun x L T H e => match x with
  | .exit _ => bot
  | _ => (resQ bot P A rs).f L T H fun vs => sweepQ bot H n0 (refsQ (pickAV vs) []) e fun H' => k (pickAV vs) H' e

theorem finQ_le {fn : Func} (hP : C.P = P) {A : FAnn} (hA : C.A = A) (n0 : Nat) (k : AV → Heap → Bool → R) (x : Ex) (s : St) :
    Le bot (finQ bot P A fn.results.toList n0 k x s.L s.T s.H s.esc) (finK bot C fn n0 k x s) := by
  have key : Le bot ((resQ bot P A fn.results.toList).f s.L s.T s.H fun vs => sweepQ bot s.H n0 (refsQ (pickAV vs) []) s.esc fun H' => k (pickAV vs) H' s.esc)
      ((fn.results.toList.mapM (resultAV C s)).elim bot fun vs => (sweep s.H n0 (pickAV vs).refs s.esc).elim bot fun H' => k (pickAV vs) H' s.esc) := by
    subst hP hA
    refine (resQ_le bot (C := C) s.L s.T s.H s.esc _ _).trans bot (.inr ?_)
    show (fn.results.toList.mapM (resultAV C s)).elim bot _ = _
    congr 1
    funext vs
    rw [sweepQ_eq, refsQ_eq, List.append_nil]
  cases x with
  | exit i => exact .inl rfl
  | normal => exact key
  | ret => exact key

noncomputable def funQ (f : FuncId) : Bx (Oracle → OracleK R → List AV → Heap → (AV → Heap → Bool → R) → R) := match P.funcs[f]? with
  | some fn => (match fn.body with
    | some c => ⟨fun KO KK args H k => cond (Nat.ble (lenQ args) fn.ntmps)
        ((codeQ bot sym P U ann fuel (ann f) fn.ntmps c 0).f (lenQ H) KO KK (initQ (ann f).keys args) [] H false (finQ bot P (ann f) fn.results.toList (lenQ H) k)) bot⟩
    | none => ⟨fun _ _ _ _ _ => bot⟩)
  | none => ⟨fun _ _ _ _ _ => bot⟩

theorem funQ_le (hK : ∀ f args H k, Le bot (KK f args H k) (KOf bot KO f args H k)) (f : FuncId) (args : List AV) (H : Heap) (k : AV → Heap → Bool → R) :
    Le bot ((funQ bot sym P U ann fuel f).f KO KK args H k) (KOf bot (evalF P U ann fuel KO) f args H k) := by
  unfold funQ KOf evalF evalG
  cases hf : P.funcs[f]? with
  | none => exact .inl rfl
  | some fn =>
    simp only [Option.bind_some]
    cases hb : fn.body with
    | none => exact .inl rfl
    | some c =>
      simp only [Option.bind_some]
      cases hn : Nat.ble (lenQ args) fn.ntmps with
      | false => exact .inl rfl
      | true =>
        have hle : args.length ≤ fn.ntmps := by rw [← lenQ_eq]; exact Nat.le_of_ble_eq_true hn
        simp only [cond_true, lenQ_eq, initQ_eq]
        rw [show max fn.ntmps args.length = fn.ntmps by omega]
        refine (codeQ_le bot sym P U ann fuel (C := ⟨P, KO, H.length, fn.ntmps, ann f, U, noY, evalI P U ann fuel KO⟩) rfl rfl rfl rfl rfl rfl rfl hK c 0 _ _ _ _ _).trans bot ?_
        cases evalC ⟨P, KO, H.length, fn.ntmps, ann f, U, noY, evalI P U ann fuel KO⟩ fuel 0 c ⟨initL (ann f).keys args, [], H, false⟩ with
        | none => exact .inl rfl
        | some x =>
          obtain ⟨e, s2⟩ := x
          simp only [Option.elim_some, Option.bind_some]
          refine (finQ_le bot P (C := ⟨P, KO, H.length, fn.ntmps, ann f, U, noY, evalI P U ann fuel KO⟩) (fn := fn) rfl rfl H.length k e s2).trans bot ?_
          cases e with
          | exit i => exact .inl rfl
          | normal =>
            simp only [finK]
            right
            cases fn.results.toList.mapM (resultAV ⟨P, KO, H.length, fn.ntmps, ann f, U, noY, evalI P U ann fuel KO⟩ s2) with
            | none => rfl
            | some vs =>
              simp only [Option.elim_some, Option.bind_some]
              cases sweep s2.H H.length (pickAV vs).refs s2.esc <;> rfl
          | ret =>
            simp only [finK]
            right
            cases fn.results.toList.mapM (resultAV ⟨P, KO, H.length, fn.ntmps, ann f, U, noY, evalI P U ann fuel KO⟩ s2) with
            | none => rfl
            | some vs =>
              simp only [Option.elim_some, Option.bind_some]
              cases sweep s2.H H.length (pickAV vs).refs s2.esc <;> rfl

/-- What is told of functions from outside: handed on. -/
structure Hk (K : Oracle) (KT : FuncId → Option (List AV → Heap → (AV → Heap → Bool → R) → R)) : Prop where
  some : ∀ f h, KT f = some h → ∀ args H k, Le bot (h args H k) (KOf bot K f args H k)
  none : ∀ f, KT f = none → ∀ args H, K f args H = none

noncomputable def evalXQ (K : Oracle) (KT : FuncId → Option (List AV → Heap → (AV → Heap → Bool → R) → R)) : Nat → OracleK R
  | 0 => fun _ _ _ _ => bot
  | n + 1 => fun f args H k => match KT f with
    | some h => h args H k
    | none => (funQ bot sym P U ann fuel f).f (evalN P U ann fuel K n) (evalXQ K KT n) args H k

theorem evalXQ_le {K : Oracle} {KT : FuncId → Option (List AV → Heap → (AV → Heap → Bool → R) → R)} (hk : Hk bot K KT) : ∀ (n : Nat) (f : FuncId) (args : List AV) (H : Heap) (k : AV → Heap → Bool → R),
    Le bot (evalXQ bot sym P U ann fuel K KT n f args H k) (KOf bot (evalN P U ann fuel K n) f args H k)
  | 0, f, args, H, k => .inl rfl
  | n + 1, f, args, H, k => by
    show Le bot (match KT f with
      | some h => h args H k
      | none => (funQ bot sym P U ann fuel f).f (evalN P U ann fuel K n) (evalXQ bot sym P U ann fuel K KT n) args H k)
      ((match K f args H with | some r => some r | none => evalF P U ann fuel (evalN P U ann fuel K n) f args H).elim bot fun r => k r.1 r.2.1 r.2.2)
    cases hf : KT f with
    | none =>
      rw [hk.none f hf]
      exact funQ_le bot sym P U ann fuel (evalXQ_le hk n) f args H k
    | some h =>
      refine (hk.some f h hf args H k).trans bot ?_
      unfold KOf
      cases K f args H with
      | none => exact .inl rfl
      | some r => exact .inr rfl

theorem Hk.nothing : Hk bot (fun _ _ _ => Option.none) (fun _ => Option.none) := ⟨fun f h hf => (by cases hf), fun f hf args H => rfl⟩

theorem Hk.table (T : Table) : Hk bot (pureK (kOf T)) (fun f => (T f).map fun t args H k => snapLK bot H args fun xs => match t xs with
    | Option.some (b, v) => cond b (k v H false) bot
    | Option.none => bot) := by
  constructor
  · intro f h hf args H k
    cases hT : T f with
    | none => rw [hT] at hf; cases hf
    | some t =>
      rw [hT] at hf
      simp only [Option.map_some, Option.some.injEq] at hf
      subst hf
      refine (snapLK_le bot H args _).trans bot ?_
      unfold KOf
      cases hs : snapL H args with
      | none => exact .inl rfl
      | some xs =>
        simp only [Option.elim_some]
        cases ht : t xs with
        | none => exact .inl rfl
        | some r =>
          obtain ⟨b, v⟩ := r
          cases b
          · exact .inl rfl
          · right
            have : pureK (kOf T) f args H = Option.some (v, H, false) := by
              unfold pureK kOf
              simp [hs, hT, ht]
            rw [this]
            rfl
  · intro f hf args H
    cases hT : T f with
    | none =>
      unfold pureK kOf
      rw [hT]
      cases snapL H args <;> rfl
    | some t => rw [hT] at hf; cases hf
end

/-- It answers true. -/
theorem run_of_trueQ {sym : Bool} {P : Program} {U : Out} {ann : FuncId → FAnn} {fuel n : Nat} {K : Oracle} {KT : FuncId → Option (List AV → Heap → (AV → Heap → Bool → Bool) → Bool)} (hk : Hk false K KT) {f : FuncId} {args : List AV} {H : Heap}
    (h : evalXQ false sym P U ann fuel K KT n f args H (fun v _ _ => v.isTrue) = true) : ∃ H' e, evalN P U ann fuel K n f args H = some (.bool true, H', e) := by
  rcases evalXQ_le (R := Bool) false sym P U ann fuel hk n f args H (fun v _ _ => v.isTrue) with h1 | h1
  · rw [h] at h1; cases h1
  rw [h1] at h
  unfold KOf at h
  cases hx : evalN P U ann fuel K n f args H with
  | none => rw [hx] at h; simp at h
  | some r =>
    obtain ⟨v, H', e⟩ := r
    rw [hx] at h
    simp only [Option.elim_some] at h
    cases v <;> simp [AV.isTrue] at h
    subst h
    exact ⟨H', e, rfl⟩

/-- The boxes open: a term whose head is a match on a truth is reckoned by the quick road. -/
theorem of_whnf {b : Bool} (h : (cond b Unit Empty) = Unit) : b = true := by
  cases b with
  | true => rfl
  | false =>
    have h' : Empty = Unit := h
    exact nomatch (h' ▸ () : Empty)

end Go.X
/-
  A machine whose steps are handed in: what each step does stands in a record, so that two texts of one function can be held against each other, whatever the steps do. Here: the record, and the true steps.
-/
namespace Go.X

structure Ops (R : Type) where
  bot : R
  load : TypeId → Heap → AV → (AV → R) → R
  glob : TypeId → Nat → (AV → R) → R
  store : Nat → TypeId → Heap → AV → AV → (Heap → Bool → R) → R
  nil : AV → (AV → R) → R
  bin : BinOp → TypeId → Bool → AV → AV → (AV → R) → R
  un : UnOp → AV → (AV → R) → R
  pick : AV → AV → AV → (AV → R) → R
  alloc : TypeId → Heap → (AV → Heap → R) → R
  box : AV → Heap → (AV → Heap → R) → R
  build : TypeId → List (Nat × AV) → (AV → R) → R
  bslice : TypeId → Nat → List (Nat × AV) → Heap → (AV → Heap → R) → R
  mslice : TypeId → AV → AV → Heap → (AV → Heap → R) → R
  fa : TypeId → Nat → AV → (AV → R) → R
  fld : TypeId → Nat → AV → (AV → R) → R
  ia : TypeId → AV → AV → (AV → R) → R
  idx : TypeId → AV → AV → (AV → R) → R
  slice : TypeId → Heap → AV → Option AV → Option AV → (AV → R) → R
  slice3 : TypeId → AV → Option AV → AV → AV → (AV → R) → R
  conv : TypeId → TypeId → AV → Heap → (AV → Heap → R) → R
  s2a : TypeId → AV → (AV → R) → R
  mkI : TypeId → AV → (AV → R) → R
  mkF : Fn → List AV → List AV → (AV → R) → R
  mkM : Heap → (AV → Heap → R) → R
  look : TypeId → Heap → AV → AV → Bool → (AV → R) → R
  upd : TypeId → AV → AV → AV → Heap → (Heap → R) → R
  ta : AV → TypeId → Bool → (AV → R) → R
  ext : AV → Nat → (AV → R) → R
  len : AV → (AV → R) → R
  blt : Bool → Builtin → Array TypeId → Nat → List AV → Heap → (AV → Heap → Bool → R) → R
  extern : FuncId → List AV → Heap → (AV → Heap → Bool → R) → R
  callv : OracleK R → AV → List AV → Heap → (AV → Heap → Bool → R) → R
  inv : OracleK R → AV → String → List AV → Heap → (AV → Heap → Bool → R) → R
  cond : AV → R → R → R
  gd : AV → Bool → ((AV → Heap → Bool → R) → R) → Heap → Bool → (AV → Heap → Bool → R) → R
  cg : AV → Bool → (R → R) → R → R
  join : (Env' → Heap → Bool → R) → ((Env' → Heap → Bool → R) → R) → R
  head : Nat → Nat → Env' → Heap → Bool → (Env' → Heap → R) → R
  fin : Nat → Heap → Bool → List AV → (AV → Heap → Bool → R) → R
  same : AV → AV → R → R
  bare : Heap → R → R

/-! The true steps. -/
noncomputable def forceN {α : Type} (n : Nat) (f : Nat → α) : α := Nat.rec (f 0) (fun m _ => f (Nat.succ m)) n
theorem forceN_eq {α : Type} (n : Nat) (f : Nat → α) : forceN n f = f n := by cases n <;> rfl

def eqNilB (P : Program) (t : TypeId) (c : Bool) (a b : AV) : Option Bool :=
  match a, b with
  | .nili, .nili => if c && tiface P t then some true else none
  | a, b => eqAV P 30 t a b

theorem eqNilB_eq (P : Program) (t : TypeId) (x y : Operand) (a b : AV) : eqNilB P t (isConstO x || isConstO y) a b = eqNil P t x y a b := rfl

section
variable {R : Type} (bot : R) (P : Program) (U : Out)

noncomputable def binGB (o : BinOp) (t : TypeId) (c : Bool) (a b : AV) : Option AV := match a.scalar, b.scalar with
  | some cx, some cy => scalBin P o t cx cy
  | none, none => if a.isAgg && P.eqGuardType P.depth t then none else match o with
    | .eql => (eqNilB P t c a b).map .bool
    | .neq => (eqNilB P t c a b).map fun r => .bool !r
    | _ => none
  | _, _ => none

def optB (o : Option Bool) (k : Bool → R) : R := o.elim bot k

/-- '==' of what is no number: quickly of nil. -/
noncomputable def binX (o : BinOp) (t : TypeId) (c : Bool) (a b : AV) (k : AV → R) : R := (binGB P o t c a b).elim bot k

noncomputable def binO (o : BinOp) (t : TypeId) (c : Bool) (a b : AV) (k : AV → R) : R := swInt a (binX bot P o t c a b k) fun ka m => swInt b bot fun kb n => (intQ bot o t).f ka kb m n k

noncomputable def unO (o : UnOp) (x : AV) (k : AV → R) : R := (x.scalar.bind fun c => liftPure (Op.unary o c)).elim bot k

noncomputable def boxO (v : AV) (H : Heap) (k : AV → Heap → R) : R := ifQ v.plain (k (.ptr ⟨lenQ H, 0, [], v.flatLen⟩) (snocQ H (some ⟨v, false, v.refless⟩))) bot

noncomputable def bsliceO (t : TypeId) (len : Nat) (parts : List (Nat × AV)) (H : Heap) (k : AV → Heap → R) : R := match P.underlying t with
  | some (.slice e) => ((tsize P e).bind fun sz => if len * sz ≤ 2 ^ 20 ∧ 0 < sz then
      (if len = 0 then (if parts.isEmpty then some (.arr sz []) else none) else (zeroAV P e).bind fun z => if z.flatLen = sz then
        fillAV (fun i => some (i * sz, sz)) (.arr sz (List.replicate len z)) parts else none).map fun r => (sz, r) else none).elim bot fun x =>
      k (.sl ⟨lenQ H, 0, [], x.1 * len⟩ x.1 len 0 len) (snocQ H (some ⟨x.2, true, x.2.refless⟩))
  | _ => bot

noncomputable def msliceO (t : TypeId) (l c : AV) (H : Heap) (k : AV → Heap → R) : R := match P.underlying t with
  | some (.slice e) => ((tsize P e).bind fun sz => (tbytes P e).bind fun by_ => l.idx.bind fun l => c.idx.bind fun c => (zeroAV P e).bind fun z =>
      if l ≤ c ∧ c * by_ ≤ maxBytes ∧ c ≤ maxBytes ∧ z.flatLen = sz ∧ 0 < sz then some (sz, l, z) else none).elim bot fun x =>
      k (.sl ⟨lenQ H, 0, [], x.1 * x.2.1⟩ x.1 x.2.1 0 x.2.1) (snocQ H (some ⟨.arr x.1 (List.replicate x.2.1 x.2.2), true, true⟩))
  | _ => bot

noncomputable def convO (src dst : TypeId) (x : AV) (H : Heap) (k : AV → Heap → R) : R := match P.underlying src, P.underlying dst with
  | some _, some (.int kd) => swInt x ((convertAV P H src dst x).elim bot fun r => k r.1 r.2) fun _ n => k (.int kd (wrapQ kd n)) H
  | _, _ => (convertAV P H src dst x).elim bot fun r => k r.1 r.2

def s2aO (t : TypeId) (v : AV) : Option AV := match P.underlying t, v with
  | some (.array n e), .sl p sz m off len => if n ≤ len ∧ 0 < n ∧ tsize P e = some sz then (if off = 0 ∧ n = m then some (.ptr p) else some (.sptr p sz m off n)) else none
  | some (.array n e), .isl sz xs => if (0 < n ∧ n ≤ xs.length) ∧ tsize P e = some sz then some (.iptr (.arr sz (xs.take n))) else none
  | _, _ => none

noncomputable def mkIO (t : TypeId) (x : AV) (k : AV → R) : R := match P.underlying t with
  | some (.interface _) => bot
  | some _ => ifQ x.plain (k (.iface t x)) bot
  | none => bot

def mkFO (fn : Fn) (a b : List AV) : Option AV := match fn with
  | .func _ => if (a ++ b).all (fun v => v.plain && !v.isAgg) then some (.func fn a b) else none
  | _ => none

noncomputable def bltO (frz : Bool) (b : Builtin) (argTypes : Array TypeId) (n0 : Nat) (args : List AV) (H : Heap) (k : AV → Heap → Bool → R) : R :=
  (builtinQ bot false P U ⟨0, [], [], [], frz⟩ b argTypes).f n0 args H k


noncomputable def invO (KK : OracleK R) (r : AV) (m : String) (args : List AV) (H : Heap) (k : AV → Heap → Bool → R) : R :=
  (methodAV P r m).elim bot fun x => forceN x.1 fun f => (enterQ bot P U f).f KK (x.2 :: args) H k

noncomputable def callvO (KK : OracleK R) (f : AV) (args : List AV) (H : Heap) (k : AV → Heap → Bool → R) : R :=
  (calleeAV P f args).elim bot fun x => forceN x.1 fun f => (enterQ bot P U f).f KK x.2 H k

noncomputable def sameO (v u : AV) (k : R) : R := match u with
  | .bad => k
  | u => ifQ (beqQ v u) k bot

noncomputable def ops : Ops R where
  bot := bot
  load := loadK bot P
  glob t g k := ((U.G g).bind fun v => loadAV P [] t (.iptr v)).elim bot k
  store := storeK bot P
  nil x k := swNil x (match x with
    | .func (.func f) a b => k (.func (.func f) a b)
    | _ => bot) (k x)
  bin := binO bot P
  un := unO bot
  pick c a b k := swBool c bot fun t => k (ifQ t a b)
  alloc t H k := (zeroAV P t).elim bot fun z => k (.ptr ⟨lenQ H, 0, [], z.flatLen⟩) (snocQ H (some ⟨z, false, z.refless⟩))
  box := boxO bot
  build t ps k := (buildAV P t ps).elim bot k
  bslice := bsliceO bot P
  mslice := msliceO bot P
  fa t f x k := (fieldAddrQ bot P t f).f x k
  fld t f x k := (fieldQ bot P t f).f x k
  ia t x i k := (indexAddrQ bot false P t).f x i k
  idx t x i k := (indexAV P t x i).elim bot k
  slice t H x lo hi k := (sliceAV P H t x lo hi).elim bot k
  slice3 t x lo hi m k := (slice3AV P t x lo hi m).elim bot k
  conv := convO bot P
  s2a t x k := (s2aO P t x).elim bot k
  mkI := mkIO bot P
  mkF fn a b k := (mkFO fn a b).elim bot k
  mkM H k := k (.map (lenQ H)) (snocQ H (some ⟨.tuple [], false, true⟩))
  look t H x i ok k := (lookupAV P H t x i ok).elim bot k
  upd t m i v H k := (mapUpdateAV P H t m i v).elim bot k
  ta x t ok k := (typeAssertAV P x t ok).elim bot k
  ext x i k := swTup x bot fun vs => optQ (nthQ vs i) bot k
  len := lenK bot
  blt := bltO bot P U
  extern f args H k := (U.X f args H).elim bot fun r => k r.1 r.2.1 r.2.2
  callv := callvO bot P U
  inv := invO bot P U
  cond c a b := swBool c bot fun t => ifQ t a b
  gd c want run H e K := swBoolU c bot (fun b => ifQ b (cond want (run K) (K .undf H e)) (cond want (K .undf H e) (run K))) (K .undf H e)
  cg c want run k := swBoolU c bot (fun b => ifQ b (cond want (run k) k) (cond want k (run k))) k
  join k f := f k
  head n0 m L H e k := headQ bot n0 m L H e k
  fin n0 H e vs k := sweepQ bot H n0 (refsQ (pickAV vs) []) e fun H' => k (pickAV vs) H' e
  same := sameO bot
  bare H k := cond (lastBare H) k bot

end
end Go.X
/-
  The machine: a function's text, run on steps that are handed in.
-/
namespace Go.X

noncomputable def escQ (e' e : Bool) : Bool := ifQ e' true e
theorem escQ_eq (e' e : Bool) : escQ e' e = (e || e') := by cases e' <;> cases e <;> rfl

inductive OpM (R : Type) where
  | q (f : Env' → Env' → Heap → (AV → R) → R)
  | a (f : Env' → Env' → Heap → (AV → Heap → R) → R)
  | l (f : Nat → OracleK R → Env' → Env' → Heap → (AV → Heap → Bool → R) → R)

/-- Is a function entered, or is it of the outside? -/
def entB (P : Program) (f : FuncId) : Option Bool := match P.funcs[f]? with
  | some fn => (match fn.body with
    | some _ => if fn.name ≠ "runtime.NumGoroutine" then some true else none
    | none => some false)
  | none => none

def isSliceT (P : Program) (t : Option TypeId) : Bool := match t with
  | some t => (match P.underlying t with | some (.slice _) => true | _ => false)
  | none => false

/-! How often code comes to its end, or to a block's end. -/
def exC (id : Nat) : Code → Nat
  | .exit i => if i = id then 1 else 0
  | .seq a b => exC id a + exC id b
  | .cond _ a b => exC id a + exC id b
  | .block _ c => exC id c
  | .loop c => min 1 (exC id c)
  | _ => 0
def nrmC : Code → Nat
  | .seq a b => if nrmC a = 0 then 0 else nrmC b
  | .cond _ a b => nrmC a + nrmC b
  | .block id c => min 1 (nrmC c + exC id c)
  | .loop _ | .exit _ | .ret => 0
  | _ => 1
def exitsC : Code → List Nat
  | .exit i => [i]
  | .seq a b => exitsC a ++ exitsC b
  | .cond _ a b => exitsC a ++ exitsC b
  | .block _ c => exitsC c
  | .loop c => exitsC c
  | _ => []
def retC : Code → Bool
  | .ret => true
  | .seq a b => retC a || retC b
  | .cond _ a b => retC a || retC b
  | .block _ c => retC c
  | .loop c => retC c
  | _ => false

section
variable {R : Type} (I : Ops R) (P : Program) (U : Out) (ann : FuncId → FAnn) (A : FAnn) (N : Nat) (fuel : Nat)

abbrev CK (R : Type) := Env' → Heap → Bool → R
abbrev RK (R : Type) := Env' → Env' → Heap → Bool → R

noncomputable def oM (L T : Env') (o : Operand) : AV := (opdQ A o).f L T
noncomputable def oL (L T : Env') (l : List Operand) : List AV := l.map (oM A L T)

noncomputable def callM (c : Call) : OpM R := match c.callee with
  | .builtin .len => (match c.args.toList, isSliceT P c.argTypes[0]? with
    | [x], true => .q fun L T _ k => I.len (oM A L T x) k
    | _, _ => .l fun n0 _ L T H k => I.blt A.frz .len c.argTypes n0 (oL A L T c.args.toList) H k)
  | .builtin b => .l fun n0 _ L T H k => I.blt A.frz b c.argTypes n0 (oL A L T c.args.toList) H k
  | .value (.func f) => (match entB P f with
    | some true => .l fun _ KK L T H k => KK f (oL A L T c.args.toList) H k
    | some false => .l fun _ _ L T H k => I.extern f (oL A L T c.args.toList) H k
    | none => .q fun _ _ _ _ => I.bot)
  | .value f => .l fun _ KK L T H k => I.callv KK (oM A L T f) (oL A L T c.args.toList) H k
  | .invoke r m => .l fun _ KK L T H k => I.inv KK (oM A L T r) m (oL A L T c.args.toList) H k

noncomputable def opM (op : Op) : OpM R := match op with
  | .move x | .assign x => .q fun L T _ k => k (oM A L T x)
  | .pick c a b => .q fun L T _ k => I.pick (oM A L T c) (oM A L T a) (oM A L T b) k
  | .alloc t => .a fun _ _ H k => I.alloc t H k
  | .box _ x => .a fun L T H k => I.box (oM A L T x) H k
  | .build t ps => .q fun L T _ k => I.build t (ps.toList.map fun x => (x.1, oM A L T x.2)) k
  | .buildSlice t n ps => .a fun L T H k => I.bslice t n (ps.toList.map fun x => (x.1, oM A L T x.2)) H k
  | .load t (.global g) => .q fun _ _ _ k => I.glob t g k
  | .load t a => .q fun L T H k => I.load t H (oM A L T a) k
  | .store t a x => .l fun n0 _ L T H k => I.store n0 t H (oM A L T a) (oM A L T x) fun H' e => k .bad H' e
  | .nilCheck x => .q fun L T _ k => I.nil (oM A L T x) k
  | .binOp o t x y _ => .q fun L T _ k => I.bin o t (isConstO x || isConstO y) (oM A L T x) (oM A L T y) k
  | .unOp o _ x => .q fun L T _ k => I.un o (oM A L T x) k
  | .convert s d x => .a fun L T H k => I.conv s d (oM A L T x) H k
  | .sliceToArrayPointer t x => .q fun L T _ k => I.s2a t (oM A L T x) k
  | .makeInterface t x => .q fun L T _ k => I.mkI t (oM A L T x) k
  | .makeFunc fn a b => .q fun L T _ k => I.mkF fn (oL A L T a.toList) (oL A L T b.toList) k
  | .makeSlice t l c => .a fun L T H k => I.mslice t (oM A L T l) (oM A L T c) H k
  | .slice t x lo hi none => .q fun L T H k => I.slice t H (oM A L T x) (lo.map (oM A L T)) (hi.map (oM A L T)) k
  | .slice t x lo (some hi) (some m) => .q fun L T _ k => I.slice3 t (oM A L T x) (lo.map (oM A L T)) (oM A L T hi) (oM A L T m) k
  | .fieldAddr t x f => .q fun L T _ k => I.fa t f (oM A L T x) k
  | .field t x f => .q fun L T _ k => I.fld t f (oM A L T x) k
  | .indexAddr t x i => .q fun L T _ k => I.ia t (oM A L T x) (oM A L T i) k
  | .index t x i => .q fun L T _ k => I.idx t (oM A L T x) (oM A L T i) k
  | .makeMap _ none => .a fun _ _ H k => I.mkM H k
  | .lookup t x i ok => .q fun L T H k => I.look t H (oM A L T x) (oM A L T i) ok k
  | .mapUpdate t m i v => .a fun L T H k => I.upd t (oM A L T m) (oM A L T i) (oM A L T v) H fun H' => k .bad H'
  | .typeAssert x _ t ok => .q fun L T _ k => I.ta (oM A L T x) t ok k
  | .extract t i => .q fun L T _ k => I.ext (oM A L T t) i k
  | .call c => callM I P A c
  | _ => .q fun _ _ _ _ => I.bot

/-- A step, its value, memory and mark handed on. -/
noncomputable def runM (op : Op) (n0 : Nat) (KK : OracleK R) (L T : Env') (H : Heap) (e : Bool) (K : AV → Heap → Bool → R) : R := match opM I P A op with
  | .q f => f L T H fun v => K v H e
  | .a f => f L T H fun v H => K v H e
  | .l f => f n0 KK L T H fun v H e' => K v H (escQ e' e)

noncomputable def putM (dst : Option Nat) (L T : Env') (v : AV) (H : Heap) (e : Bool) (k : RK R) : R := match dst with
  | none => k L T H e
  | some d => match Nat.ble (Nat.add d 1) N, A.exp.testBit d with
    | true, true => k (updQ L d v) T H e
    | true, false => k L ((d, v) :: T) H e
    | false, _ => I.bot

noncomputable def stepM (ops : List Oper) (o : Oper) (n0 : Nat) (KK : OracleK R) (L T : Env') (H : Heap) (e : Bool) (k : RK R) : R := match o.guard with
  | none => runM I P A o.op n0 KK L T H e fun v H e => putM I A N o.dst L T v H e k
  | some (j, want) => match (ops[j]?).bind (·.dst) with
    | some d => I.gd (oM A L T (.tmp d)) want (fun K => runM I P A o.op n0 KK L T H e K) H e fun v H e => putM I A N o.dst L T v H e k
    | none => I.bot

noncomputable def runOpsM (ops : List Oper) (n0 : Nat) (KK : OracleK R) : List Oper → Env' → Env' → Heap → Bool → RK R → R
  | [], L, T, H, e, k => k L T H e
  | o :: r, L, T, H, e, k => stepM I P A N ops o n0 KK L T H e fun L T H e => runOpsM ops n0 KK r L T H e k

noncomputable def bareM (b : Bool) (H : Heap) (k : R) : R := match b with
  | true => I.bare H k
  | false => k

noncomputable def runOrdM (ops : List Oper) (flo : List Nat) (n0 : Nat) (KK : OracleK R) : List Nat → Env' → Env' → Heap → Bool → (Env' → Env' → Heap → Bool → List Heap → R) → R
  | [], L, T, H, e, k => k L T H e []
  | i :: r, L, T, H, e, k => match ops[i]? with
    | some o => stepM I P A N ops o n0 KK L T H e fun L T H e => bareM I (flo.contains i) H (runOrdM ops flo n0 KK r L T H e fun L' T' H' e' hs => k L' T' H' e' (match isLoud P o.op with | true => H :: hs | false => hs))
    | none => I.bot

noncomputable def cmpM (dst : Option Nat) (L T : Env') (v : AV) (k : R) : R := match dst with
  | none => k
  | some d => match Nat.ble (Nat.add d 1) N with
    | true => I.same v (oM A L T (.tmp d)) k
    | false => I.bot

noncomputable def chkOneM (ops : List Oper) (o : Oper) (n0 : Nat) (KK : OracleK R) (L T : Env') (H : Heap) (k : R) : R := match o.guard with
  | none => runM I P A o.op n0 KK L T H false fun v _ _ => cmpM I A N o.dst L T v k
  | some (j, want) => match (ops[j]?).bind (·.dst) with
    | some d => I.cg (oM A L T (.tmp d)) want (fun k => runM I P A o.op n0 KK L T H false fun v _ _ => cmpM I A N o.dst L T v k) k
    | none => I.bot

noncomputable def chkPsM (ops : List Oper) (o : Oper) (n0 : Nat) (KK : OracleK R) (L T : Env') (hs : List Heap) : List Nat → R → R
  | [], k => k
  | p :: r, k => match hs[p]? with
    | some h => chkOneM I P A N ops o n0 KK L T h (chkPsM ops o n0 KK L T hs r k)
    | none => chkPsM ops o n0 KK L T hs r k

noncomputable def chkAllM (ops : List Oper) (n0 : Nat) (KK : OracleK R) (L T : Env') (hs : List Heap) : List (Nat × List Nat) → R → R
  | [], k => k
  | x :: r, k => match ops[x.1]? with
    | some o => chkPsM I P A N ops o n0 KK L T hs x.2 (chkAllM ops n0 KK L T hs r k)
    | none => chkAllM ops n0 KK L T hs r k

noncomputable def regionM (id : Nat) (ops : Array Oper) (draw : Bool) (n0 : Nat) (KK : OracleK R) (L : Env') (H : Heap) (e : Bool) (k : CK R) : R := match draw with
  | true => (match A.ord.lookup id with
    | some a => runOrdM I P A N ops.toList a.flo n0 KK a.order L [] H e fun L' T' H' e' hs => chkAllM I P A N ops.toList n0 KK L' T' (H :: hs) a.chk (k L' H' e')
    | none => I.bot)
  | false => runOpsM I P A N ops.toList n0 KK ops.toList L [] H e fun L _ H e => k L H e

/-- The variables, by name: each looked up once. -/
noncomputable def relist (keys : List Nat) (L : Env') : Env' := List.rec [] (fun k _ ih => (k, lookQ L k) :: ih) keys

noncomputable def seqK (k : Ex → CK R) (kb : CK R) : Ex → CK R := fun x => match x with
  | .normal => kb
  | .exit i => k (.exit i)
  | .ret => k .ret

noncomputable def blkK (id : Nat) (k : Ex → CK R) (j : CK R) : Ex → CK R := fun x => match x with
  | .exit i => (match Nat.beq i id with | true => j | false => k (.exit i))
  | .normal => j
  | .ret => k .ret

noncomputable def selK (bot : R) (alts : List (Nat × CK R)) (ret : CK R) : Ex → CK R := fun x => match x with
  | .normal => fun _ _ _ => bot
  | .exit i => List.rec (fun _ _ _ => bot) (fun a _ ih => Bool.rec ih a.2 (Nat.beq a.1 i)) alts
  | .ret => ret

noncomputable def loopK (n0 m : Nat) (ih : Env' → Heap → Bool → (Ex → CK R) → R) (k : Ex → CK R) : Ex → CK R := fun x => match x with
  | .normal => fun L H e => I.head n0 m L H e fun L H => ih L H e k
  | .exit i => k (.exit i)
  | .ret => k .ret

noncomputable def loopM (n0 m : Nat) (body : Env' → Heap → Bool → (Ex → CK R) → R) (n : Nat) : Env' → Heap → Bool → (Ex → CK R) → R :=
  Nat.rec (fun _ _ _ _ => I.bot) (fun _ ih L H e k => body L H e (loopK I n0 m ih k)) n

noncomputable def altsM (k : Ex → CK R) (l : List Nat) : List (Nat × CK R) := List.rec [] (fun i _ ih => (i, fun L H e => k (.exit i) L H e) :: ih) l

noncomputable def codeM (n0 : Nat) (KO : Oracle) (KK : OracleK R) : Code → Nat → Env' → Heap → Bool → (Ex → CK R) → R
  | .skip, _, L, H, e, k => k .normal L H e
  | .region id ops draw, _, L, H, e, k => regionM I P A N id ops draw n0 KK L H e fun L H e => k .normal L H e
  | .seq a b, cur, L, H, e, k => match Nat.ble (nrmC a) 1 with
    | true => codeM n0 KO KK a cur L H e (seqK k fun L H e => codeM n0 KO KK b cur L H e k)
    | false => I.join (fun L H e => codeM n0 KO KK b cur (relist A.keys L) H e k) fun j => codeM n0 KO KK a cur L H e (seqK k j)
  | .cond c a b, cur, L, H, e, k => I.cond (oM A L [] c) (codeM n0 KO KK a cur L H e k) (codeM n0 KO KK b cur L H e k)
  | .block id c, _, L, H, e, k => match Nat.ble (nrmC c + exC id c) 1 with
    | true => codeM n0 KO KK c id L H e (blkK id k fun L H e => k .normal L H e)
    | false => I.join (fun L H e => k .normal (relist A.keys L) H e) fun j => codeM n0 KO KK c id L H e (blkK id k j)
  | .loop c, cur, L, H, e, k => I.head n0 ((A.keep.lookup cur).getD 0) L H e fun L H =>
      loopM I n0 ((A.keep.lookup cur).getD 0) (fun L H e k => codeM n0 KO KK c 0 (relist A.keys L) H e k) fuel L H e
        (selK I.bot (altsM (fun x L H e => k x (relist A.keys L) H e) (exitsC c).eraseDups) (match retC c with | true => fun L H e => k .ret (relist A.keys L) H e | false => fun _ _ _ => I.bot))
  | .exit i, _, L, H, e, k => k (.exit i) L H e
  | .ret, _, L, H, e, k => k .ret L H e
  | .rangeFunc g ps a b, cur, L, H, e, k => (evalC ⟨P, KO, n0, N, A, U, noY, evalI P U ann fuel KO⟩ fuel cur (.rangeFunc g ps a b) ⟨L, [], H, e⟩).elim I.bot fun x => k x.1 x.2.L x.2.H x.2.esc
  | .scope _, _, _, _, _, _ => I.bot
  | .label _, _, _, _, _, _ => I.bot
  | .goto _, _, _, _, _, _ => I.bot
  | .refuse _, _, _, _, _, _ => I.bot

noncomputable def resM (L : Env') (H : Heap) : List ResultVar → (List AV → R) → R
  | [], k => k []
  | .tmp t :: r, k => resM L H r fun vs => k (oM A L [] (.tmp t) :: vs)
  | .cell a t :: r, k => I.load t H (oM A L [] (.tmp a)) fun v => resM L H r fun vs => k (v :: vs)

noncomputable def finM (rs : List ResultVar) (n0 : Nat) (k : AV → Heap → Bool → R) : Ex → CK R := fun x => match x with
  | .exit _ => fun _ _ _ => I.bot
  | .normal => fun L H e => resM I A L H rs fun vs => I.fin n0 H e vs k
  | .ret => fun L H e => resM I A L H rs fun vs => I.fin n0 H e vs k

def dupB : List Nat → Bool
  | [] => false
  | x :: r => r.contains x || dupB r

noncomputable def funM (f : FuncId) (KO : Oracle) (KK : OracleK R) (args : List AV) (H : Heap) (k : AV → Heap → Bool → R) : R := match P.funcs[f]? with
  | some fn => (match fn.body with
    | some c => (match Nat.ble (lenQ args) fn.ntmps, dupB (ann f).keys with
      | true, false => codeM I P U ann (ann f) fn.ntmps fuel (lenQ H) KO KK c 0 (initQ (ann f).keys args) H false (finM I (ann f) fn.results.toList (lenQ H) k)
      | _, _ => I.bot)
    | none => I.bot)
  | none => I.bot

end
end Go.X
/-
  The machine on the true steps tells, where it tells something, what the evaluator tells.
-/
namespace Go.X

theorem look_notin : ∀ {l : Env'} {t : Nat}, t ∉ l.map (·.1) → look l t = .bad
  | [], t, _ => rfl
  | (k, v) :: r, t, h => by
    simp only [List.map_cons, List.mem_cons, not_or] at h
    unfold look
    rw [if_neg (fun e => h.1 e.symm)]
    exact look_notin h.2

theorem upd_keys : ∀ (l : Env') (t : Nat) (v : AV), (upd l t v).map (·.1) = l.map (·.1)
  | [], t, v => rfl
  | (k, u) :: r, t, v => by
    unfold upd
    split
    · rfl
    · simp [upd_keys r t v]

theorem relist_eq : ∀ (L : Env'), (L.map (·.1)).Nodup → ∀ (M : Env'), (∀ k ∈ L.map (·.1), look M k = look L k) → relist (L.map (·.1)) M = L
  | [], _, M, _ => rfl
  | (k, v) :: r, h, M, hM => by
    show (k, lookQ M k) :: relist (r.map (·.1)) M = _
    simp only [List.map_cons, List.nodup_cons] at h
    have hr : ∀ j ∈ r.map (·.1), look M j = look r j := fun j hj => by
      rw [hM j (by simp only [List.map_cons, List.mem_cons]; exact .inr hj)]
      show (if k = j then v else look r j) = _
      rw [if_neg (by rintro rfl; exact h.1 hj)]
    rw [lookQ_eq, hM k (by simp), relist_eq r h.2 M hr]
    simp [look]

theorem relist_self {keys : List Nat} {L : Env'} (hk : L.map (·.1) = keys) (hn : keys.Nodup) : relist keys L = L := by
  subst hk
  exact relist_eq L hn L (fun _ _ => rfl)

theorem dupB_nodup : ∀ {l : List Nat}, dupB l = false → l.Nodup
  | [], _ => List.nodup_nil
  | x :: r, h => by
    simp only [dupB, Bool.or_eq_false_iff] at h
    refine List.nodup_cons.2 ⟨fun hm => ?_, dupB_nodup h.2⟩
    have : r.contains x = true := by simpa using hm
    rw [h.1] at this
    cases this

theorem set_keys (A : FAnn) (s : St) (d : Nat) (v : AV) : (s.set A d v).L.map (·.1) = s.L.map (·.1) := by
  unfold St.set
  split
  · exact upd_keys _ _ _
  · rfl

theorem stepOp_keys {C : Ctx} {ops : List Oper} {o : Oper} {s s' : St} (h : stepOp C ops s o = some s') : s'.L.map (·.1) = s.L.map (·.1) := by
  unfold stepOp at h
  simp only [Option.bind_eq_some_iff] at h
  obtain ⟨w, _, h⟩ := h
  cases w with
  | true =>
    simp only [if_true, Option.map_eq_some_iff] at h
    obtain ⟨r, _, rfl⟩ := h
    cases o.dst with
    | none => rfl
    | some d => exact set_keys _ _ _ _
  | false =>
    simp only [Bool.false_eq_true, if_false, Option.some.injEq] at h
    subst h
    cases o.dst with
    | none => rfl
    | some d => exact set_keys _ _ _ _

theorem stepY_keys {C : Ctx} {ops : List Oper} {o : Oper} {s s' : St} (h : stepY C ops s o = some s') : s'.L.map (·.1) = s.L.map (·.1) := by
  unfold stepY at h
  split at h
  · split at h
    · simp only [Option.map_eq_some_iff] at h
      obtain ⟨r, _, rfl⟩ := h
      cases o.dst with
      | none => rfl
      | some d => exact set_keys _ _ _ _
    · exact stepOp_keys h
  · exact stepOp_keys h

theorem runOps_keys {C : Ctx} {ops : List Oper} : ∀ {l : List Oper} {s s' : St}, runOps C ops l s = some s' → s'.L.map (·.1) = s.L.map (·.1)
  | [], s, s', h => by obtain rfl := Option.some.inj h; rfl
  | o :: r, s, s', h => by
    unfold runOps at h
    simp only [Option.bind_eq_some_iff] at h
    obtain ⟨s1, h1, h2⟩ := h
    rw [runOps_keys h2, stepY_keys h1]

theorem runOrd_keys {C : Ctx} {ops : List Oper} {flo : List Nat} : ∀ {l : List Nat} {s : St} {x : St × List (Heap × Bool)}, runOrd C ops flo l s = some x → x.1.L.map (·.1) = s.L.map (·.1)
  | [], s, x, h => by obtain rfl := Option.some.inj h; rfl
  | i :: r, s, x, h => by
    unfold runOrd at h
    simp only [Option.bind_eq_some_iff] at h
    obtain ⟨o, _, s1, h1, h2⟩ := h
    split at h2
    · cases h2
    · simp only [Option.map_eq_some_iff] at h2
      obtain ⟨y, hy, rfl⟩ := h2
      rw [runOrd_keys hy, stepOp_keys h1]

theorem runRegion_keys {C : Ctx} {id : Nat} {ops : Array Oper} {draw : Bool} {s s' : St} (h : runRegion C id ops draw s = some s') : s'.L.map (·.1) = s.L.map (·.1) := by
  unfold runRegion at h
  cases draw with
  | true =>
    simp only [if_true] at h
    split at h
    · simp only [Option.bind_eq_some_iff] at h
      obtain ⟨x, h1, h2⟩ := h
      split at h2
      · obtain rfl := Option.some.inj h2
        have := runOrd_keys h1
        exact this
      · cases h2
    · cases h
  | false =>
    have := runOps_keys (s := { s with T := [] }) (s' := s') h
    exact this

theorem mask_keys (m : Nat) (l : Env') : (maskL m l).map (·.1) = l.map (·.1) := by
  unfold maskL
  rw [List.map_map]
  congr 1
  funext x
  simp only [Function.comp]
  split <;> rfl

theorem headSt_inv {C : Ctx} {m : Nat} {s s' : St} (h : headSt C m s = some s') : s'.T = [] ∧ s'.L.map (·.1) = s.L.map (·.1) := by
  unfold headSt at h
  simp only [Option.map_eq_some_iff] at h
  obtain ⟨H, _, rfl⟩ := h
  exact ⟨rfl, mask_keys _ _⟩

theorem loopN_inv {hd : St → Option St} {body : St → Option (Ex × St)} (hh : ∀ {s s'}, hd s = some s' → s'.T = [] ∧ s'.L.map (·.1) = s.L.map (·.1)) (hb : ∀ {s x}, s.T = [] → body s = some x → x.2.T = [] ∧ x.2.L.map (·.1) = s.L.map (·.1)) :
    ∀ {n : Nat} {s : St} {x : Ex × St}, loopN hd body n s = some x → x.2.T = [] ∧ x.2.L.map (·.1) = s.L.map (·.1)
  | 0, s, x, h => by cases h
  | n + 1, s, x, h => by
    unfold loopN at h
    simp only [Option.bind_eq_some_iff] at h
    obtain ⟨s1, h1, y, h2, h3⟩ := h
    obtain ⟨a1, a2⟩ := hh h1
    obtain ⟨b1, b2⟩ := hb a1 h2
    obtain ⟨ex, s2⟩ := y
    cases ex with
    | normal =>
      obtain ⟨c1, c2⟩ := loopN_inv hh hb (n := n) h3
      exact ⟨c1, by rw [c2, b2, a2]⟩
    | exit i => obtain rfl := Option.some.inj h3; exact ⟨b1, by rw [b2, a2]⟩
    | ret => obtain rfl := Option.some.inj h3; exact ⟨b1, by rw [b2, a2]⟩

theorem evalC_inv {C : Ctx} {fuel : Nat} : ∀ (c : Code) (cur : Nat) (s : St) (x : Ex × St), s.T = [] → evalC C fuel cur c s = some x → x.2.T = [] ∧ x.2.L.map (·.1) = s.L.map (·.1)
  | .skip, cur, s, x, hT, h => by obtain rfl := Option.some.inj h; exact ⟨hT, rfl⟩
  | .region id ops draw, cur, s, x, hT, h => by
    simp only [evalC, Option.map_eq_some_iff] at h
    obtain ⟨s1, h1, rfl⟩ := h
    have := runRegion_keys h1
    exact ⟨rfl, this⟩
  | .seq a b, cur, s, x, hT, h => by
    simp only [evalC, Option.bind_eq_some_iff] at h
    obtain ⟨y, h1, h2⟩ := h
    obtain ⟨a1, a2⟩ := evalC_inv a cur s y hT h1
    obtain ⟨ex, s2⟩ := y
    cases ex with
    | normal => obtain ⟨b1, b2⟩ := evalC_inv b cur s2 x a1 h2; exact ⟨b1, by rw [b2, a2]⟩
    | exit i => obtain rfl := Option.some.inj h2; exact ⟨a1, a2⟩
    | ret => obtain rfl := Option.some.inj h2; exact ⟨a1, a2⟩
  | .cond c a b, cur, s, x, hT, h => by
    simp only [evalC] at h
    split at h
    · exact evalC_inv a cur s x hT h
    · exact evalC_inv b cur s x hT h
    · cases h
  | .block id c, cur, s, x, hT, h => by
    simp only [evalC, Option.map_eq_some_iff] at h
    obtain ⟨y, h1, rfl⟩ := h
    obtain ⟨a1, a2⟩ := evalC_inv c id s y hT h1
    obtain ⟨ex, s2⟩ := y
    cases ex with
    | normal => exact ⟨a1, a2⟩
    | exit i =>
      simp only
      split <;> exact ⟨a1, a2⟩
    | ret => exact ⟨a1, a2⟩
  | .loop c, cur, s, x, hT, h => by
    simp only [evalC] at h
    exact loopN_inv (fun h => headSt_inv h) (fun {s x} hT h => evalC_inv c 0 s x hT h) h
  | .exit i, cur, s, x, hT, h => by obtain rfl := Option.some.inj h; exact ⟨hT, rfl⟩
  | .ret, cur, s, x, hT, h => by obtain rfl := Option.some.inj h; exact ⟨hT, rfl⟩
  | .rangeFunc g ps a b, cur, s, x, hT, h => by
    simp only [evalC] at h
    split at h
    · simp only [Option.map_eq_some_iff] at h
      obtain ⟨r, _, rfl⟩ := h
      exact ⟨rfl, rfl⟩
    · cases h
  | .scope _, _, _, _, _, h => by cases h
  | .label _, _, _, _, _, h => by cases h
  | .goto _, _, _, _, _, h => by cases h
  | .refuse _, _, _, _, _, h => by cases h

section
variable {R : Type} (bot : R) (P : Program) (U : Out)

theorem binO_le (o : BinOp) (t : TypeId) (x y : Operand) (a b : AV) (k : AV → R) : Le bot (binO bot P o t (isConstO x || isConstO y) a b k) ((binG P o t x y a b).elim bot k) := by
  have hg : binGB P o t (isConstO x || isConstO y) a b = binG P o t x y a b := rfl
  unfold binO
  rw [swInt_eq]
  cases a <;> try exact .inr rfl
  simp only [swInt_eq]
  cases b <;> try exact .inl rfl
  exact intQ_le bot P o t _ _ _ _ _

variable {C : Ctx} {KK : OracleK R}

/-- What is asked of a step's text. -/
def OpM.ok (C : Ctx) (op : Op) (t : TypeId) : OpM R → Prop
  | .q f => ∀ L T H e (k : AV → Heap → Bool → R), Le bot (f L T H fun v => k v H false) ((evalOp C ⟨L, T, H, e⟩ op t).elim bot fun r => k r.1 r.2.1 r.2.2)
  | .a f => ∀ L T H e (k : AV → Heap → Bool → R), Le bot (f L T H fun v H => k v H false) ((evalOp C ⟨L, T, H, e⟩ op t).elim bot fun r => k r.1 r.2.1 r.2.2)
  | .l f => ∀ KK L T H e (k : AV → Heap → Bool → R), (∀ f args H k, Le bot (KK f args H k) (KOf bot C.K f args H k)) →
      Le bot (f C.n0 KK L T H k) ((evalOp C ⟨L, T, H, e⟩ op t).elim bot fun r => k r.1 r.2.1 r.2.2)

theorem oM_eq (A : FAnn) (L T : Env') (H : Heap) (e : Bool) : oM A L T = St.eval A ⟨L, T, H, e⟩ := funext fun o => opdQ_eq A o L T H e
theorem oL_eq (A : FAnn) (L T : Env') (H : Heap) (e : Bool) (l : List Operand) : oL A L T l = l.map (St.eval A ⟨L, T, H, e⟩) := by unfold oL; rw [oM_eq A L T H e]

theorem bltO_le {A : FAnn} (hP : C.P = P) (hA : C.A = A) (b : Builtin) (argTypes : Array TypeId) (args : List AV) (L T : Env') (H : Heap) (e : Bool) (k : AV → Heap → Bool → R) :
    Le bot (bltO bot P U A.frz b argTypes C.n0 args H k) ((evalBuiltin C b argTypes args ⟨L, T, H, e⟩).elim bot fun r => k r.1 r.2.1 r.2.2) := by
  have := builtinQ_le bot false P U (⟨0, [], [], [], A.frz⟩ : FAnn) (C := { C with A := ⟨0, [], [], [], A.frz⟩ }) hP rfl b argTypes args L T H e k
  refine this.trans bot (.inr ?_)
  subst hP hA
  have : evalBuiltin { C with A := ⟨0, [], [], [], C.A.frz⟩ } b argTypes args ⟨L, T, H, e⟩ = evalBuiltin C b argTypes args ⟨L, T, H, e⟩ := by
    cases b <;> rfl
  rw [this]

theorem entB_true {f : FuncId} (h : entB P f = some true) : ∃ fn c, P.funcs[f]? = some fn ∧ fn.body = some c ∧ fn.name ≠ "runtime.NumGoroutine" := by
  unfold entB at h
  split at h
  · rename_i fn hf
    split at h
    · rename_i c hb
      split at h
      · rename_i hn
        exact ⟨fn, c, hf, hb, hn⟩
      · cases h
    · cases h
  · cases h

theorem entB_false {f : FuncId} (h : entB P f = some false) : ∃ fn, P.funcs[f]? = some fn ∧ fn.body = none := by
  unfold entB at h
  split at h
  · rename_i fn hf
    split at h
    · split at h <;> cases h
    · rename_i hb
      exact ⟨fn, hf, hb⟩
  · cases h

theorem callM_ok {A : FAnn} (hP : C.P = P) (hU : C.U = U) (hA : C.A = A) (c : Call) (t : TypeId) : (callM (ops bot P U) P A c).ok bot C (.call c) t := by
  have hblt : ∀ b, c.callee = .builtin b → OpM.ok bot C (.call c) t (.l fun n0 _ L T H k => (ops bot P U).blt A.frz b c.argTypes n0 (oL A L T c.args.toList) H k) := by
    intro b hb KK L T H e k hK
    have := bltO_le bot P U hP hA b c.argTypes (oL A L T c.args.toList) L T H e k
    refine this.trans bot (.inr ?_)
    rw [oL_eq A L T H e]
    subst hA
    unfold evalOp
    simp only [hb]
  unfold callM
  split
  · rename_i hb
    split
    · rename_i x hx hs
      intro L T H e k
      subst hP hA
      show Le bot (lenK bot (oM C.A L T x) fun v => k v H false) _
      unfold isSliceT at hs
      split at hs
      · rename_i t' ht
        split at hs
        · rename_i e' hu
          rw [oM_eq C.A L T H e]
          unfold evalOp
          simp only [hb, hx, List.map_cons, List.map_nil, evalBuiltin, ht, hu, Option.bind_some]
          generalize St.eval C.A ⟨L, T, H, e⟩ x = v
          cases v <;> simp only [lenK, swLen_eq, AV.len] <;> first | exact .inl rfl | exact .inr rfl
        · cases hs
      · cases hs
    · exact hblt .len hb
  · rename_i b _ hb
    exact hblt b hb
  · rename_i f hb
    split
    · rename_i he
      intro KK L T H e k hK
      obtain ⟨fn, cd, h1, h2, h3⟩ := entB_true P he
      refine (hK f _ H k).trans bot (.inr ?_)
      rw [oL_eq A L T H e]
      subst hA hP
      unfold evalOp KOf
      simp only [hb, St.eval, calleeAV, Option.bind_some, List.nil_append, List.append_nil, enterAV, h1, h2]
      rw [if_pos h3]
    · rename_i he
      intro KK L T H e k hK
      obtain ⟨fn, h1, h2⟩ := entB_false P he
      right
      show (U.X f (oL A L T c.args.toList) H).elim bot _ = _
      rw [oL_eq A L T H e]
      subst hA hP hU
      unfold evalOp
      simp only [hb, St.eval, calleeAV, Option.bind_some, List.nil_append, List.append_nil, enterAV, h1, h2]
    · intro L T H e k; exact .inl rfl
  · rename_i f hf hb
    intro KK L T H e k hK
    show Le bot (callvO bot P U KK (oM A L T f) (oL A L T c.args.toList) H k) _
    unfold callvO
    rw [oL_eq A L T H e, oM_eq A L T H e]
    subst hA
    unfold evalOp
    simp only [hb, elim_bind, hP, forceN_eq]
    subst hP
    cases calleeAV C.P (St.eval C.A ⟨L, T, H, e⟩ f) (c.args.toList.map (St.eval C.A ⟨L, T, H, e⟩)) with
    | none => exact .inl rfl
    | some x => exact enterQ_le bot C.P U rfl hU hK x.1 x.2 L T H e k
  · rename_i r m hb
    intro KK L T H e k hK
    show Le bot (invO bot P U KK (oM A L T r) m (oL A L T c.args.toList) H k) _
    unfold invO
    rw [oL_eq A L T H e, oM_eq A L T H e]
    subst hA
    unfold evalOp
    simp only [hb, elim_bind, hP, forceN_eq]
    subst hP
    cases methodAV C.P (St.eval C.A ⟨L, T, H, e⟩ r) m with
    | none => exact .inl rfl
    | some x => exact enterQ_le bot C.P U rfl hU hK x.1 _ L T H e k

end
end Go.X
