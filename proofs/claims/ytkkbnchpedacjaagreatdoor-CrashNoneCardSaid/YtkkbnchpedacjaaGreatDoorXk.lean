/-
  The machine on the true steps: steps, regions, code, functions.
-/
import Derived.Test.YtkkbnchpedacjaaGreatDoorXj

namespace Go.X
section
variable {R : Type} (bot : R) (P : Program) (U : Out)
variable {C : Ctx} {KK : OracleK R} {A : FAnn} {N : Nat}

theorem opM_ok (hP : C.P = P) (hU : C.U = U) (hA : C.A = A) (op : Op) (t : TypeId) : (opM (ops bot P U) P A op).ok bot C op t := by
  have pure : ∀ {op : Op} {t : TypeId} {L T : Env'} {H : Heap} {e : Bool} {w : Option AV} {k : AV → Heap → Bool → R} {x : R}, evalOp C ⟨L, T, H, e⟩ op t = w.map (fun v => (v, H, false)) → Le bot x (w.elim bot fun v => k v H false) →
      Le bot x ((evalOp C ⟨L, T, H, e⟩ op t).elim bot fun r => k r.1 r.2.1 r.2.2) := by
    intro op t L T H e w k x h1 h2
    rw [h1]
    refine h2.trans bot (.inr ?_)
    cases w <;> rfl
  unfold opM
  split
  · intro L T H e k
    dsimp only
    rw [oM_eq A L T H e]; subst hA; exact .inr rfl
  · intro L T H e k
    dsimp only
    rw [oM_eq A L T H e]; subst hA; exact .inr rfl
  · rename_i c a b
    intro L T H e k
    dsimp only
    rw [oM_eq A L T H e]
    show Le bot (swBool _ bot fun t => k (ifQ t _ _) H false) _
    rw [swBool_eq]
    subst hA
    unfold evalOp
    simp only [ifQ_eq]
    split
    · rename_i t ht
      rw [ht]
      cases t <;> exact .inr rfl
    · exact .inl rfl
  · rename_i t
    intro L T H e k
    subst hP
    show Le bot ((zeroAV C.P t).elim bot fun z => k (.ptr ⟨lenQ H, 0, [], z.flatLen⟩) (snocQ H (some ⟨z, false, z.refless⟩)) false) _
    right
    simp only [evalOp, elim_map, newVarAV, newBlk, lenQ_eq, snocQ_eq]
  · rename_i t x
    intro L T H e k
    dsimp only
    rw [oM_eq A L T H e]
    show Le bot (boxO bot (St.eval A ⟨L, T, H, e⟩ x) H fun v H => k v H false) _
    subst hA
    unfold boxO
    rw [ifQ_eq, lenQ_eq, snocQ_eq]
    unfold evalOp
    simp only
    cases (St.eval C.A ⟨L, T, H, e⟩ x).plain <;> first | exact .inl rfl | exact .inr rfl
  · rename_i t ps
    intro L T H e k
    dsimp only
    rw [oM_eq A L T H e]
    subst hP hA
    exact pure rfl (Le.refl bot _)
  · rename_i t n ps
    intro L T H e k
    dsimp only
    rw [oM_eq A L T H e]
    show Le bot (bsliceO bot P t n _ H fun v H => k v H false) _
    subst hP hA
    unfold bsliceO
    unfold evalOp
    simp only
    split
    · rename_i el hu
      simp only [hu]
      have hem : (ps.toList.map fun x => (x.1, St.eval C.A ⟨L, T, H, e⟩ x.2)).isEmpty = ps.toList.isEmpty := by cases ps.toList <;> rfl
      rw [hem]
      right
      simp only [elim_bind]
      cases tsize C.P el with
      | none => rfl
      | some sz =>
        simp only [Option.elim_some]
        split
        · simp only [elim_map, lenQ_eq, snocQ_eq, newBlk]
        · rfl
    · exact .inl rfl
  · rename_i t g
    intro L T H e k
    subst hP hU
    show Le bot (((C.U.G g).bind fun v => loadAV C.P [] t (.iptr v)).elim bot fun v => k v H false) _
    refine pure (w := (C.U.G g).bind fun v => loadAV C.P H t (.iptr v)) rfl (.inr ?_)
    cases C.U.G g <;> rfl
  · rename_i t a hg
    intro L T H e k
    dsimp only
    rw [oM_eq A L T H e]
    subst hP hA
    refine pure (w := loadAV C.P H t (St.eval C.A ⟨L, T, H, e⟩ a)) (by cases a <;> first | rfl | exact absurd rfl (hg _)) (loadK_le bot C.P t H _ _)
  · rename_i t a x
    intro KK L T H e k hK
    dsimp only
    rw [oM_eq A L T H e]
    subst hP hA
    refine (storeK_le bot C.P C.n0 t H _ _ _).trans bot (.inr ?_)
    simp only [evalOp, elim_map]
  · rename_i x
    intro L T H e k
    dsimp only
    rw [oM_eq A L T H e]
    show Le bot (swNil _ _ _) _
    rw [swNil_eq]
    subst hA
    unfold evalOp
    simp only
    generalize St.eval C.A ⟨L, T, H, e⟩ x = v
    cases v <;> try first | exact .inl rfl | exact .inr rfl
    rename_i fn a b
    cases fn <;> first | exact .inl rfl | exact .inr rfl
  · rename_i o t x y u
    intro L T H e k
    dsimp only
    rw [oM_eq A L T H e]
    exact pure (binG_eq P A hP hA o t u x y L T H e _) (binO_le bot P o t x y _ _ _)
  · rename_i o t x
    intro L T H e k
    dsimp only
    rw [oM_eq A L T H e]
    subst hA
    exact pure rfl (Le.refl bot _)
  · rename_i s d x
    intro L T H e k
    dsimp only
    rw [oM_eq A L T H e]
    show Le bot (convO bot P s d (St.eval A ⟨L, T, H, e⟩ x) H fun v H => k v H false) _
    subst hP hA
    have hgen : Le bot ((convertAV C.P H s d (St.eval C.A ⟨L, T, H, e⟩ x)).elim bot fun r => k r.1 r.2 false) ((evalOp C ⟨L, T, H, e⟩ (.convert s d x) t).elim bot fun r => k r.1 r.2.1 r.2.2) := by
      right
      simp only [evalOp, elim_map]
    unfold convO
    split
    · rename_i us kd hus hud
      rw [swInt_eq]
      split
      · rename_i ki n hv
        refine .trans bot (.inr ?_) hgen
        rw [hv]
        simp [convertAV, hus, hud, wrapQ_eq]
      · exact hgen
    · exact hgen
  · rename_i t x
    intro L T H e k
    dsimp only
    rw [oM_eq A L T H e]
    subst hP hA
    refine pure (w := s2aO C.P t (St.eval C.A ⟨L, T, H, e⟩ x)) ?_ (Le.refl bot _)
    unfold evalOp s2aO
    simp only
    cases C.P.underlying t with
    | none => rfl
    | some u => cases u <;> cases St.eval C.A ⟨L, T, H, e⟩ x <;> first | rfl | (simp only; split <;> first | rfl | (split <;> rfl))
  · rename_i t x
    intro L T H e k
    dsimp only
    rw [oM_eq A L T H e]
    show Le bot (mkIO bot P t _ fun v => k v H false) _
    subst hP hA
    unfold mkIO evalOp
    simp only
    split
    · exact .inl rfl
    · rename_i u hu hn
      simp only [hn]
      cases hp : (St.eval C.A ⟨L, T, H, e⟩ x).plain with
      | false => exact .inl rfl
      | true =>
        right
        cases u <;> first | rfl | exact absurd hn (hu _)
    · exact .inl rfl
  · rename_i fn a b
    intro L T H e k
    dsimp only
    rw [oL_eq A L T H e, oL_eq A L T H e]
    subst hA
    refine pure (w := mkFO fn (a.toList.map (St.eval C.A ⟨L, T, H, e⟩)) (b.toList.map (St.eval C.A ⟨L, T, H, e⟩))) ?_ (Le.refl bot _)
    cases fn <;> first | rfl | (unfold evalOp mkFO; simp only; split <;> rfl)
  · rename_i t l c
    intro L T H e k
    dsimp only
    rw [oM_eq A L T H e]
    show Le bot (msliceO bot P t _ _ H fun v H => k v H false) _
    subst hP hA
    unfold msliceO evalOp
    simp only
    split
    · rename_i el hu
      simp only [hu]
      right
      simp only [elim_bind]
      cases tsize C.P el <;> simp only [Option.elim_none, Option.elim_some]
      cases tbytes C.P el <;> simp only [Option.elim_none, Option.elim_some]
      cases (St.eval C.A ⟨L, T, H, e⟩ l).idx <;> simp only [Option.elim_none, Option.elim_some]
      cases (St.eval C.A ⟨L, T, H, e⟩ c).idx <;> simp only [Option.elim_none, Option.elim_some]
      cases zeroAV C.P el <;> simp only [Option.elim_none, Option.elim_some]
      split
      · simp only [Option.elim_some, lenQ_eq, snocQ_eq, newBlk]
      · rfl
    · exact .inl rfl
  · rename_i t x lo hi
    intro L T H e k
    dsimp only
    rw [oM_eq A L T H e]
    subst hP hA
    exact pure rfl (Le.refl bot _)
  · rename_i t x lo hi m
    intro L T H e k
    dsimp only
    rw [oM_eq A L T H e]
    subst hP hA
    exact pure rfl (Le.refl bot _)
  · rename_i t x f
    intro L T H e k
    dsimp only
    rw [oM_eq A L T H e]
    subst hP hA
    exact pure rfl (fieldAddrQ_le bot C.P t f _ _)
  · rename_i t x f
    intro L T H e k
    dsimp only
    rw [oM_eq A L T H e]
    subst hP hA
    exact pure rfl (fieldQ_le bot C.P t f _ _)
  · rename_i t x i
    intro L T H e k
    dsimp only
    rw [oM_eq A L T H e]
    subst hP hA
    exact pure rfl (indexAddrQ_le bot false C.P t _ _ _)
  · rename_i t x i
    intro L T H e k
    dsimp only
    rw [oM_eq A L T H e]
    subst hP hA
    exact pure rfl (Le.refl bot _)
  · intro L T H e k
    right
    show k (.map (lenQ H)) (snocQ H (some ⟨.tuple [], false, true⟩)) false = _
    rw [lenQ_eq, snocQ_eq]
    rfl
  · rename_i t x i ok
    intro L T H e k
    dsimp only
    rw [oM_eq A L T H e]
    subst hP hA
    exact pure rfl (Le.refl bot _)
  · rename_i t m i v
    intro L T H e k
    dsimp only
    rw [oM_eq A L T H e]
    subst hP hA
    right
    show (mapUpdateAV C.P H t _ _ _).elim bot _ = _
    simp only [evalOp, elim_map]
  · rename_i x a asserted ok
    intro L T H e k
    dsimp only
    rw [oM_eq A L T H e]
    subst hP hA
    exact pure rfl (Le.refl bot _)
  · rename_i t i
    intro L T H e k
    dsimp only
    rw [oM_eq A L T H e]
    show Le bot (swTup _ bot fun vs => optQ (nthQ vs i) bot fun v => k v H false) _
    rw [swTup_eq]
    subst hA
    unfold evalOp
    simp only [optQ_eq]
    split
    · rename_i vs hv
      rw [hv, nthQ_eq]
      right
      simp only [elim_map]
    · exact .inl rfl
  · rename_i c
    exact callM_ok bot P U hP hU hA c t
  · intro L T H e k; exact .inl rfl

theorem runM_le (hP : C.P = P) (hU : C.U = U) (hA : C.A = A) (hK : ∀ f args H k, Le bot (KK f args H k) (KOf bot C.K f args H k)) (op : Op) (t : TypeId) (L T : Env') (H : Heap) (e : Bool) (K : AV → Heap → Bool → R) :
    Le bot (runM (ops bot P U) P A op C.n0 KK L T H e K) ((evalOp C ⟨L, T, H, e⟩ op t).elim bot fun r => K r.1 r.2.1 (e || r.2.2)) := by
  have hok := opM_ok bot P U hP hU hA op t
  unfold runM
  generalize opM (ops bot P U) P A op = q at hok
  cases q with
  | q f =>
    have := hok L T H e fun v H e' => K v H (e || e')
    simpa using this
  | a f =>
    have := hok L T H e fun v H e' => K v H (e || e')
    simpa using this
  | l f =>
    have := hok KK L T H e (fun v H e' => K v H (e || e')) hK
    simp only [escQ_eq]
    exact this

theorem putM_le (hA : C.A = A) (hN : C.N = N) (dst : Option Nat) (L T : Env') (v : AV) (H : Heap) (e : Bool) (k : RK R) :
    Le bot (putM (ops bot P U) A N dst L T v H e k) (match (match dst with | some d => St.set C.A ⟨L, T, H, e⟩ d (if d < C.N then v else .bad) | none => ⟨L, T, H, e⟩) with | s => k s.L s.T s.H s.esc) := by
  subst hA hN
  unfold putM
  cases dst with
  | none => exact .inr rfl
  | some d =>
    simp only
    cases hb : Nat.ble (Nat.add d 1) C.N with
    | false => exact .inl rfl
    | true =>
      have hlt : d < C.N := Nat.le_of_ble_eq_true hb
      right
      simp only [if_pos hlt, St.set]
      cases C.A.exp.testBit d <;> simp [updQ_eq]

theorem putM_undf (hA : C.A = A) (hN : C.N = N) (dst : Option Nat) (L T : Env') (H : Heap) (e : Bool) (k : RK R) :
    Le bot (putM (ops bot P U) A N dst L T .undf H e k) (match (match dst with | some d => St.set C.A ⟨L, T, H, e⟩ d .undf | none => ⟨L, T, H, e⟩) with | s => k s.L s.T s.H s.esc) := by
  subst hA hN
  unfold putM
  cases dst with
  | none => exact .inr rfl
  | some d =>
    simp only
    cases hb : Nat.ble (Nat.add d 1) C.N with
    | false => exact .inl rfl
    | true =>
      right
      simp only [St.set]
      cases C.A.exp.testBit d <;> simp [updQ_eq]

theorem stepM_le (hP : C.P = P) (hU : C.U = U) (hA : C.A = A) (hN : C.N = N) (hK : ∀ f args H k, Le bot (KK f args H k) (KOf bot C.K f args H k)) (opl : List Oper) (o : Oper) (L T : Env') (H : Heap) (e : Bool) (k : RK R) :
    Le bot (stepM (ops bot P U) P A N opl o C.n0 KK L T H e k) ((stepOp C opl ⟨L, T, H, e⟩ o).elim bot fun s => k s.L s.T s.H s.esc) := by
  have hgo : Le bot (runM (ops bot P U) P A o.op C.n0 KK L T H e fun v H e => putM (ops bot P U) A N o.dst L T v H e k) (((evalOp C ⟨L, T, H, e⟩ o.op o.type).map fun r =>
      let s' : St := ⟨L, T, r.2.1, e || r.2.2⟩
      match o.dst with
      | some d => s'.set C.A d (if d < C.N then r.1 else .bad)
      | none => s').elim bot fun s => k s.L s.T s.H s.esc) := by
    refine (runM_le bot P U hP hU hA hK o.op o.type L T H e _).trans bot ?_
    cases evalOp C ⟨L, T, H, e⟩ o.op o.type with
    | none => exact .inl rfl
    | some r => exact putM_le bot P U hA hN o.dst L T r.1 r.2.1 (e || r.2.2) k
  have hskip : Le bot (putM (ops bot P U) A N o.dst L T .undf H e k) ((some (match o.dst with | some d => St.set C.A ⟨L, T, H, e⟩ d .undf | none => ⟨L, T, H, e⟩)).elim bot fun s => k s.L s.T s.H s.esc) :=
    putM_undf bot P U hA hN o.dst L T H e k
  unfold stepM stepOp wantedAV
  split
  · rename_i hg
    rw [hg]
    simp only [Option.bind_some, if_true]
    exact hgo
  · rename_i j want hg
    rw [hg]
    simp only
    split
    · rename_i d hd
      rw [hd]
      have hev : oM A L T (.tmp d) = St.get C.A ⟨L, T, H, e⟩ d := by rw [oM_eq A L T H e, hA]; rfl
      show Le bot (swBoolU (oM A L T (.tmp d)) bot (fun b => ifQ b (cond want _ _) (cond want _ _)) _) _
      rw [hev, swBoolU_eq]
      simp only
      split
      · rename_i b hb
        rw [hb]
        simp only [Option.bind_some]
        cases b <;> cases want <;> simp only [ifQ_eq, cond_true, cond_false] <;> first | exact hgo | exact hskip
      · rename_i hb
        rw [hb]
        simp only [Option.bind_some]
        exact hskip
      · exact .inl rfl
    · exact .inl rfl

theorem stepM_yld (_hP : C.P = P) (hA : C.A = A) (opl : List Oper) (o : Oper) (L T : Env') (H : Heap) (e : Bool) (k : RK R) {f : Operand} {args : Array Operand} {at_ : Array TypeId}
    (hop : o.op = .call ⟨.value f, args, at_⟩) (hg : o.guard = none) (hf : St.eval C.A ⟨L, T, H, e⟩ f = .yld) : stepM (ops bot P U) P A N opl o C.n0 KK L T H e k = bot := by
  unfold stepM
  rw [hg]
  have hn : ∀ g, f ≠ .func g := by rintro g rfl; cases hf
  have hf' : oM A L T f = .yld := by rw [oM_eq A L T H e, ← hA, hf]
  have hq : opM (ops bot P U) P A o.op = .l fun _ KK L T H k => (ops bot P U).callv KK (oM A L T f) (oL A L T args.toList) H k := by
    rw [hop]
    unfold opM callM
    cases f <;> first | rfl | exact absurd rfl (hn _)
  unfold runM
  rw [hq]
  show callvO bot P U KK (oM A L T f) _ H _ = bot
  unfold callvO
  rw [hf']
  rfl

theorem stepMY_le (hP : C.P = P) (hU : C.U = U) (hA : C.A = A) (hN : C.N = N) (hK : ∀ f args H k, Le bot (KK f args H k) (KOf bot C.K f args H k)) (opl : List Oper) (o : Oper) (L T : Env') (H : Heap) (e : Bool) (k : RK R) :
    Le bot (stepM (ops bot P U) P A N opl o C.n0 KK L T H e k) ((stepY C opl ⟨L, T, H, e⟩ o).elim bot fun s => k s.L s.T s.H s.esc) := by
  unfold stepY
  split
  · rename_i f args argTypes hop
    split
    · rename_i hc
      left
      simp only [Bool.and_eq_true, Option.isNone_iff_eq_none] at hc
      have hf : St.eval C.A ⟨L, T, H, e⟩ f = .yld := by
        have := hc.1
        cases hv : St.eval C.A ⟨L, T, H, e⟩ f <;> rw [hv] at this <;> first | rfl | cases this
      exact stepM_yld bot P U hP hA opl o L T H e k hop hc.2 hf
    · exact stepM_le bot P U hP hU hA hN hK opl o L T H e k
  · exact stepM_le bot P U hP hU hA hN hK opl o L T H e k

theorem runOpsM_le (hP : C.P = P) (hU : C.U = U) (hA : C.A = A) (hN : C.N = N) (hK : ∀ f args H k, Le bot (KK f args H k) (KOf bot C.K f args H k)) (opl : List Oper) : ∀ (l : List Oper) (L T : Env') (H : Heap) (e : Bool) (k : RK R),
    Le bot (runOpsM (ops bot P U) P A N opl C.n0 KK l L T H e k) ((runOps C opl l ⟨L, T, H, e⟩).elim bot fun s => k s.L s.T s.H s.esc)
  | [], L, T, H, e, k => .inr rfl
  | o :: r, L, T, H, e, k => by
    unfold runOpsM runOps
    refine (stepMY_le bot P U hP hU hA hN hK opl o L T H e _).trans bot ?_
    cases stepY C opl ⟨L, T, H, e⟩ o with
    | none => exact .inl rfl
    | some s' => exact runOpsM_le hP hU hA hN hK opl r s'.L s'.T s'.H s'.esc k

theorem runOrdM_le (hP : C.P = P) (hU : C.U = U) (hA : C.A = A) (hN : C.N = N) (hK : ∀ f args H k, Le bot (KK f args H k) (KOf bot C.K f args H k)) (opl : List Oper) (flo : List Nat) : ∀ (l : List Nat) (L T : Env') (H : Heap) (e : Bool) (k : Env' → Env' → Heap → Bool → List Heap → R),
    Le bot (runOrdM (ops bot P U) P A N opl flo C.n0 KK l L T H e k) ((runOrd C opl flo l ⟨L, T, H, e⟩).elim bot fun x => k x.1.L x.1.T x.1.H x.1.esc (x.2.map (·.1)))
  | [], L, T, H, e, k => .inr rfl
  | i :: r, L, T, H, e, k => by
    unfold runOrdM runOrd
    cases hi : opl[i]? with
    | none => exact .inl rfl
    | some o =>
      simp only [Option.bind_some]
      refine (stepM_le bot P U hP hU hA hN hK opl o L T H e _).trans bot ?_
      cases stepOp C opl ⟨L, T, H, e⟩ o with
      | none => exact .inl rfl
      | some s' =>
        simp only [Option.elim_some, Option.bind_some]
        have hrest := (runOrdM_le hP hU hA hN hK opl flo r s'.L s'.T s'.H s'.esc fun L' T' H' e' hs => k L' T' H' e' (match isLoud P o.op with | true => s'.H :: hs | false => hs))
        have key : ((runOrd C opl flo r s').elim bot fun x => k x.1.L x.1.T x.1.H x.1.esc (match isLoud P o.op with | true => s'.H :: x.2.map (·.1) | false => x.2.map (·.1))) =
            ((runOrd C opl flo r s').map fun x => (x.1, if isLoud C.P o.op then (s'.H, s'.esc) :: x.2 else x.2)).elim bot fun x => k x.1.L x.1.T x.1.H x.1.esc (x.2.map (·.1)) := by
          rw [hP]
          cases runOrd C opl flo r s' with
          | none => rfl
          | some x => cases h : isLoud P o.op <;> simp
        cases hfl : flo.contains i with
        | true =>
          simp only [bareM, Bool.true_and]
          show Le bot (cond (lastBare s'.H) _ bot) _
          cases lastBare s'.H with
          | false => exact .inl rfl
          | true =>
            simp only [cond_true, Bool.not_true, Bool.false_eq_true, if_false]
            exact hrest.trans bot (.inr key)
        | false =>
          simp only [bareM, Bool.false_and, Bool.false_eq_true, if_false]
          exact hrest.trans bot (.inr key)

theorem chkOneM_le (hP : C.P = P) (hU : C.U = U) (hA : C.A = A) (hN : C.N = N) (hK : ∀ f args H k, Le bot (KK f args H k) (KOf bot C.K f args H k)) (opl : List Oper) (s : St) (o : Oper) (H : Heap) (k : R) :
    Le bot (chkOneM (ops bot P U) P A N opl o C.n0 KK s.L s.T H k) (cond (chkOne C opl s o H) k bot) := by
  obtain ⟨L, T, H0, e⟩ := s
  have hcmp : ∀ v : AV, Le bot (cmpM (ops bot P U) A N o.dst L T v k) (cond (match o.dst with | some d => (St.get C.A ⟨L, T, H0, e⟩ d).isBad || (decide (d < C.N) && v.beq (St.get C.A ⟨L, T, H0, e⟩ d)) | none => true) k bot) := by
    intro v
    unfold cmpM
    cases o.dst with
    | none => exact .inr rfl
    | some d =>
      simp only
      cases hb : Nat.ble (Nat.add d 1) N with
      | false => exact .inl rfl
      | true =>
        have hlt : d < C.N := by rw [hN]; exact Nat.le_of_ble_eq_true hb
        have hev : oM A L T (.tmp d) = St.get C.A ⟨L, T, H0, e⟩ d := by rw [oM_eq A L T H0 e, hA]; rfl
        show Le bot (sameO bot v (oM A L T (.tmp d)) k) _
        rw [hev]
        unfold sameO
        split
        · rename_i hu
          rw [hu]
          exact .inr rfl
        · rename_i u hu
          rw [beqQ_eq, ifQ_eq]
          cases hq : v.beq (St.get C.A ⟨L, T, H0, e⟩ d) with
          | false => exact .inl rfl
          | true => right; simp [hlt]
  have hrun : Le bot (runM (ops bot P U) P A o.op C.n0 KK L T H false fun v _ _ => cmpM (ops bot P U) A N o.dst L T v k) (cond (match evalOp C { (⟨L, T, H0, e⟩ : St) with H } o.op o.type with
        | some r => (match o.dst with | some d => (St.get C.A ⟨L, T, H0, e⟩ d).isBad || (decide (d < C.N) && r.1.beq (St.get C.A ⟨L, T, H0, e⟩ d)) | none => true)
        | none => false) k bot) := by
    refine (runM_le bot P U hP hU hA hK o.op o.type L T H false _).trans bot ?_
    have : evalOp C ⟨L, T, H, false⟩ o.op o.type = evalOp C ⟨L, T, H, e⟩ o.op o.type := by
      cases o.op <;> rfl
    rw [this]
    cases evalOp C ⟨L, T, H, e⟩ o.op o.type with
    | none => exact .inl rfl
    | some r => exact hcmp r.1
  unfold chkOneM chkOne wantedAV
  split
  · rename_i hg
    rw [hg]
    exact hrun
  · rename_i j want hg
    rw [hg]
    simp only
    split
    · rename_i d hd
      rw [hd]
      have hev : oM A L T (.tmp d) = St.get C.A ⟨L, T, H0, e⟩ d := by rw [oM_eq A L T H0 e, hA]; rfl
      show Le bot (swBoolU (oM A L T (.tmp d)) bot (fun b => ifQ b (cond want _ _) (cond want _ _)) _) _
      rw [hev, swBoolU_eq]
      simp only
      split
      · rename_i b hbb
        rw [hbb]
        cases b <;> cases want <;> simp only [ifQ_eq, cond_true, cond_false] <;> first | exact hrun | exact .inr rfl
      · rename_i hbb
        rw [hbb]
        exact .inr rfl
      · exact .inl rfl
    · exact .inl rfl

theorem chkPsM_le (hP : C.P = P) (hU : C.U = U) (hA : C.A = A) (hN : C.N = N) (hK : ∀ f args H k, Le bot (KK f args H k) (KOf bot C.K f args H k)) (opl : List Oper) (s : St) (o : Oper) (hs : List (Heap × Bool)) : ∀ (l : List Nat) (k : R),
    Le bot (chkPsM (ops bot P U) P A N opl o C.n0 KK s.L s.T (hs.map (·.1)) l k) (cond (l.all fun p => match hs[p]? with | some h => chkOne C opl s o h.1 | none => true) k bot)
  | [], k => .inr rfl
  | p :: r, k => by
    unfold chkPsM
    simp only [List.all_cons, List.getElem?_map]
    cases hp : hs[p]? with
    | none => simpa using chkPsM_le hP hU hA hN hK opl s o hs r k
    | some h =>
      simp only [Option.map_some]
      refine (chkOneM_le bot P U hP hU hA hN hK opl s o h.1 _).trans bot ?_
      cases hc : chkOne C opl s o h.1 with
      | false => simp; exact .inl rfl
      | true => simpa [hc] using chkPsM_le hP hU hA hN hK opl s o hs r k

theorem chkAllM_le (hP : C.P = P) (hU : C.U = U) (hA : C.A = A) (hN : C.N = N) (hK : ∀ f args H k, Le bot (KK f args H k) (KOf bot C.K f args H k)) (opl : List Oper) (s : St) (hs : List (Heap × Bool)) : ∀ (l : List (Nat × List Nat)) (k : R),
    Le bot (chkAllM (ops bot P U) P A N opl C.n0 KK s.L s.T (hs.map (·.1)) l k) (cond (chkAll C opl s hs l) k bot)
  | [], k => .inr rfl
  | x :: r, k => by
    have ih := chkAllM_le hP hU hA hN hK opl s hs r k
    unfold chkAll at ih
    unfold chkAllM chkAll
    simp only [List.all_cons]
    cases ho : opl[x.1]? with
    | none => simpa [ho] using ih
    | some o =>
      refine (chkPsM_le bot P U hP hU hA hN hK opl s o hs x.2 _).trans bot ?_
      simp only
      generalize (x.2.all fun p => match hs[p]? with | some h => chkOne C opl s o h.1 | none => true) = t
      cases t with
      | false => exact .inl rfl
      | true => simpa using ih

theorem regionM_le (hP : C.P = P) (hU : C.U = U) (hA : C.A = A) (hN : C.N = N) (hK : ∀ f args H k, Le bot (KK f args H k) (KOf bot C.K f args H k)) (id : Nat) (opa : Array Oper) (draw : Bool) (L : Env') (H : Heap) (e : Bool) (k : CK R) :
    Le bot (regionM (ops bot P U) P A N id opa draw C.n0 KK L H e k) ((runRegion C id opa draw ⟨L, [], H, e⟩).elim bot fun s => k s.L s.H s.esc) := by
  unfold regionM runRegion
  cases draw with
  | true =>
    simp only [if_true, hA]
    cases A.ord.lookup id with
    | none => exact .inl rfl
    | some a =>
      dsimp only
      refine (runOrdM_le bot P U hP hU hA hN hK _ _ _ _ _ _ _ _).trans bot ?_
      cases runOrd C opa.toList a.flo a.order ⟨L, [], H, e⟩ with
      | none => exact .inl rfl
      | some x =>
        simp only [Option.elim_some, Option.bind_some]
        have := chkAllM_le bot P U hP hU hA hN hK opa.toList x.1 ((H, e) :: x.2) a.chk (k x.1.L x.1.H x.1.esc)
        simp only [List.map_cons] at this
        refine this.trans bot (.inr ?_)
        cases chkAll C opa.toList x.1 ((H, e) :: x.2) a.chk <;> rfl
  | false =>
    simp only [Bool.false_eq_true, if_false]
    exact runOpsM_le bot P U hP hU hA hN hK _ _ _ _ _ _ _

end
end Go.X
/-
  The machine on the true steps: code, functions; and texts of functions that are printed.
-/
namespace Go.X
section
variable {R : Type} (bot : R) (P : Program) (U : Out) (ann : FuncId → FAnn) (fuel : Nat)
variable {C : Ctx} {KK : OracleK R} {KO : Oracle} {A : FAnn} {N : Nat}

theorem selK_mem (k : Ex → CK R) (i : Nat) (ret : CK R) : ∀ (l : List Nat), i ∈ l → selK bot (altsM k l) ret (.exit i) = fun L H e => k (.exit i) L H e
  | [], h => by simp at h
  | j :: r, h => by
    show (Bool.rec (selK bot (altsM k r) ret (.exit i)) (fun L H e => k (.exit j) L H e) (Nat.beq j i) : CK R) = _
    rw [recB, cond_beq]
    by_cases hji : j = i
    · subst hji; rw [if_pos rfl]
    · rw [if_neg hji]
      rcases List.mem_cons.1 h with h | h
      · exact absurd h.symm hji
      · exact selK_mem k i ret r h

theorem selK_not (k : Ex → CK R) (i : Nat) (ret : CK R) : ∀ (l : List Nat), i ∉ l → selK bot (altsM k l) ret (.exit i) = fun _ _ _ => bot
  | [], _ => rfl
  | j :: r, h => by
    show (Bool.rec (selK bot (altsM k r) ret (.exit i)) (fun L H e => k (.exit j) L H e) (Nat.beq j i) : CK R) = _
    simp only [List.mem_cons, not_or] at h
    rw [recB, cond_beq, if_neg (fun e => h.1 e.symm)]
    exact selK_not k i ret r h.2

theorem head_le (n0 m : Nat) (L : Env') (H : Heap) (e : Bool) (k : Env' → Heap → R) : (ops bot P U).head n0 m L H e k = (sweep H n0 (rootsL (maskL m L)) e).elim bot fun H => k (maskL m L) H := headQ_eq bot n0 m L H e k

theorem loopM_le {m : Nat} {body : Env' → Heap → Bool → (Ex → CK R) → R} {bodyO : St → Option (Ex × St)} {keys : List Nat}
    (hb : ∀ L H e k, L.map (·.1) = keys → Le bot (body L H e k) ((bodyO ⟨L, [], H, e⟩).elim bot fun x => k x.1 x.2.L x.2.H x.2.esc))
    (hi : ∀ {s x}, s.T = [] → bodyO s = some x → x.2.T = [] ∧ x.2.L.map (·.1) = s.L.map (·.1)) :
    ∀ (n : Nat) (s : St) (k : Ex → CK R), s.L.map (·.1) = keys → Le bot ((ops bot P U).head C.n0 m s.L s.H s.esc fun L H => loopM (ops bot P U) C.n0 m body n L H s.esc k) ((loopN (headSt C m) bodyO n s).elim bot fun x => k x.1 x.2.L x.2.H x.2.esc)
  | 0, s, k, hk => by
    rw [head_le]
    left
    cases sweep s.H C.n0 (rootsL (maskL m s.L)) s.esc <;> rfl
  | n + 1, s, k, hk => by
    rw [head_le]
    unfold loopN headSt
    simp only [elim_bind, elim_map]
    cases sweep s.H C.n0 (rootsL (maskL m s.L)) s.esc with
    | none => exact .inl rfl
    | some H1 =>
      simp only [Option.elim_some]
      show Le bot (body (maskL m s.L) H1 s.esc (loopK (ops bot P U) C.n0 m (loopM (ops bot P U) C.n0 m body n) k)) _
      have hk1 : (maskL m s.L).map (·.1) = keys := by rw [mask_keys, hk]
      refine (hb _ _ _ _ hk1).trans bot ?_
      cases hx : bodyO ⟨maskL m s.L, [], H1, s.esc⟩ with
      | none => exact .inl rfl
      | some x =>
        obtain ⟨_, h2⟩ := hi rfl hx
        obtain ⟨e, s2⟩ := x
        cases e with
        | normal => exact loopM_le hb hi n s2 k (by rw [h2]; exact hk1)
        | exit i => exact .inr rfl
        | ret => exact .inr rfl

theorem exits_of {C : Ctx} {fuel : Nat} : ∀ (c : Code) (cur : Nat) (s : St) (i : Nat) (s' : St), evalC C fuel cur c s = some (.exit i, s') → i ∈ exitsC c
  | .skip, cur, s, i, s', h => by simp [evalC] at h
  | .region id ops draw, cur, s, i, s', h => by
    simp only [evalC, Option.map_eq_some_iff] at h
    obtain ⟨_, _, h⟩ := h
    cases h
  | .seq a b, cur, s, i, s', h => by
    simp only [evalC, Option.bind_eq_some_iff] at h
    obtain ⟨y, h1, h2⟩ := h
    obtain ⟨ex, s2⟩ := y
    simp only [exitsC, List.mem_append]
    cases ex with
    | normal => exact .inr (exits_of b cur s2 i s' h2)
    | exit j =>
      simp only [Option.some.injEq, Prod.mk.injEq, Ex.exit.injEq] at h2
      obtain ⟨rfl, rfl⟩ := h2
      exact .inl (exits_of a cur s _ _ h1)
    | ret => simp at h2
  | .cond c a b, cur, s, i, s', h => by
    simp only [evalC] at h
    simp only [exitsC, List.mem_append]
    split at h
    · exact .inl (exits_of a cur s i s' h)
    · exact .inr (exits_of b cur s i s' h)
    · cases h
  | .block id c, cur, s, i, s', h => by
    simp only [evalC, Option.map_eq_some_iff] at h
    obtain ⟨y, h1, h2⟩ := h
    obtain ⟨ex, s2⟩ := y
    cases ex with
    | normal => simp at h2
    | exit j =>
      simp only at h2
      split at h2
      · simp at h2
      · simp only [Prod.mk.injEq, Ex.exit.injEq] at h2
        obtain ⟨rfl, rfl⟩ := h2
        exact exits_of c id s _ _ h1
    | ret => simp at h2
  | .loop c, cur, s, i, s', h => by
    simp only [evalC] at h
    have key : ∀ (n : Nat) (s : St), loopN (headSt C ((C.A.keep.lookup cur).getD 0)) (fun s => evalC C fuel 0 c s) n s = some (.exit i, s') → i ∈ exitsC c := by
      intro n
      induction n with
      | zero => intro s h; cases h
      | succ n ih =>
        intro s h
        unfold loopN at h
        simp only [Option.bind_eq_some_iff] at h
        obtain ⟨s1, _, y, h2, h3⟩ := h
        obtain ⟨ex, s2⟩ := y
        cases ex with
        | normal => exact ih s2 h3
        | exit j =>
          simp only [Option.some.injEq, Prod.mk.injEq, Ex.exit.injEq] at h3
          obtain ⟨rfl, rfl⟩ := h3
          exact exits_of c 0 s1 _ _ h2
        | ret => simp at h3
    exact key fuel s h
  | .exit j, cur, s, i, s', h => by
    simp only [evalC, Option.some.injEq, Prod.mk.injEq, Ex.exit.injEq] at h
    simp [exitsC, h.1]
  | .ret, cur, s, i, s', h => by simp [evalC] at h
  | .rangeFunc g ps a b, cur, s, i, s', h => by
    simp only [evalC] at h
    split at h
    · simp at h
    · cases h
  | .scope _, _, _, _, _, h => by cases h
  | .label _, _, _, _, _, h => by cases h
  | .goto _, _, _, _, _, h => by cases h
  | .refuse _, _, _, _, _, h => by cases h

theorem codeM_le (hP : C.P = P) (hU : C.U = U) (hA : C.A = A) (hN : C.N = N) (hO : C.K = KO) (hY : C.Y = noY) (hR : C.Rg = evalI P U ann fuel KO) (hnd : A.keys.Nodup)
    (hK : ∀ f args H k, Le bot (KK f args H k) (KOf bot KO f args H k)) : ∀ (c : Code) (cur : Nat) (L : Env') (H : Heap) (e : Bool) (k : Ex → CK R), L.map (·.1) = A.keys →
    Le bot (codeM (ops bot P U) P U ann A N fuel C.n0 KO KK c cur L H e k) ((evalC C fuel cur c ⟨L, [], H, e⟩).elim bot fun x => k x.1 x.2.L x.2.H x.2.esc)
  | .skip, cur, L, H, e, k, hk => .inr rfl
  | .region id opa draw, cur, L, H, e, k, hk => by
    unfold codeM evalC
    refine (regionM_le bot P U (C := C) hP hU hA hN (by rw [hO]; exact hK) id opa draw L H e _).trans bot (.inr ?_)
    cases runRegion C id opa draw ⟨L, [], H, e⟩ <;> rfl
  | .seq a b, cur, L, H, e, k, hk => by
    have key : ∀ kb : CK R, (∀ L H e, L.map (·.1) = A.keys → Le bot (kb L H e) ((evalC C fuel cur b ⟨L, [], H, e⟩).elim bot fun x => k x.1 x.2.L x.2.H x.2.esc)) →
        Le bot (codeM (ops bot P U) P U ann A N fuel C.n0 KO KK a cur L H e (seqK k kb)) ((evalC C fuel cur (.seq a b) ⟨L, [], H, e⟩).elim bot fun x => k x.1 x.2.L x.2.H x.2.esc) := by
      intro kb hkb
      unfold evalC
      refine (codeM_le hP hU hA hN hO hY hR hnd hK a cur L H e _ hk).trans bot ?_
      cases hx : evalC C fuel cur a ⟨L, [], H, e⟩ with
      | none => exact .inl rfl
      | some x =>
        obtain ⟨h1, h2⟩ := evalC_inv a cur ⟨L, [], H, e⟩ x rfl hx
        obtain ⟨ex, s2⟩ := x
        cases ex with
        | normal =>
          obtain ⟨L2, T2, H2, e2⟩ := s2
          simp only at h1 h2
          subst h1
          exact hkb L2 H2 e2 (by rw [h2]; exact hk)
        | exit i => exact .inr rfl
        | ret => exact .inr rfl
    unfold codeM
    split
    · exact key _ fun L H e hk => codeM_le hP hU hA hN hO hY hR hnd hK b cur L H e k hk
    · exact key _ fun L H e hk => by rw [relist_self hk hnd]; exact codeM_le hP hU hA hN hO hY hR hnd hK b cur L H e k hk
  | .cond c a b, cur, L, H, e, k, hk => by
    unfold codeM evalC
    show Le bot (swBool (oM A L [] c) bot fun t => ifQ t _ _) _
    rw [oM_eq A L [] H e, swBool_eq, hA]
    split
    · rename_i t ht
      rw [ht]
      cases t
      · exact codeM_le hP hU hA hN hO hY hR hnd hK b cur L H e k hk
      · exact codeM_le hP hU hA hN hO hY hR hnd hK a cur L H e k hk
    · exact .inl rfl
  | .block id c, cur, L, H, e, k, hk => by
    have key : ∀ j : CK R, (∀ L H e, L.map (·.1) = A.keys → j L H e = k .normal L H e) →
        Le bot (codeM (ops bot P U) P U ann A N fuel C.n0 KO KK c id L H e (blkK id k j)) ((evalC C fuel cur (.block id c) ⟨L, [], H, e⟩).elim bot fun x => k x.1 x.2.L x.2.H x.2.esc) := by
      intro j hj
      unfold evalC
      refine (codeM_le hP hU hA hN hO hY hR hnd hK c id L H e _ hk).trans bot ?_
      cases hx : evalC C fuel id c ⟨L, [], H, e⟩ with
      | none => exact .inl rfl
      | some x =>
        obtain ⟨h1, h2⟩ := evalC_inv c id ⟨L, [], H, e⟩ x rfl hx
        obtain ⟨ex, s2⟩ := x
        simp only at h2
        have hk2 : s2.L.map (·.1) = A.keys := by rw [h2]; exact hk
        right
        cases ex with
        | normal => exact hj _ _ _ hk2
        | exit i =>
          simp only [Option.elim_some, Option.map_some, blkK, natBeq]
          by_cases hi : i = id
          · simp [hi, hj _ _ _ hk2]
          · simp [hi]
        | ret => rfl
    unfold codeM
    split
    · exact key _ fun L H e hk => rfl
    · exact key _ fun L H e hk => by rw [relist_self hk hnd]
  | .loop c, cur, L, H, e, k, hk => by
    unfold codeM
    have hk' : ∀ (x : Ex × St), evalC C fuel cur (.loop c) ⟨L, [], H, e⟩ = some x → Le bot
        (selK bot (altsM (fun x L H e => k x (relist A.keys L) H e) (exitsC c).eraseDups) (match retC c with | true => fun L H e => k .ret (relist A.keys L) H e | false => fun _ _ _ => bot) x.1 x.2.L x.2.H x.2.esc)
        (k x.1 x.2.L x.2.H x.2.esc) := by
      intro x hx
      obtain ⟨h1, h2⟩ := evalC_inv (.loop c) cur ⟨L, [], H, e⟩ x rfl hx
      obtain ⟨ex, s2⟩ := x
      simp only at h2
      have hk2 : s2.L.map (·.1) = A.keys := by rw [h2]; exact hk
      cases ex with
      | normal => exact .inl rfl
      | exit i =>
        have hm := exits_of (.loop c) cur _ i s2 hx
        by_cases hmem : i ∈ (exitsC c).eraseDups
        · rw [selK_mem bot _ i _ _ hmem]
          simp only
          rw [relist_self hk2 hnd]
          exact .inr rfl
        · rw [selK_not bot _ i _ _ hmem]
          exact .inl rfl
      | ret =>
        show Le bot ((match retC c with | true => fun L H e => k .ret (relist A.keys L) H e | false => fun _ _ _ => bot : CK R) s2.L s2.H s2.esc) _
        cases retC c with
        | true => simp only; rw [relist_self hk2 hnd]; exact .inr rfl
        | false => exact .inl rfl
    have := loopM_le bot P U (C := C) (m := (A.keep.lookup cur).getD 0) (keys := A.keys) (bodyO := fun s => evalC C fuel 0 c s)
      (body := fun L H e k => codeM (ops bot P U) P U ann A N fuel C.n0 KO KK c 0 (relist A.keys L) H e k)
      (fun L H e k hk => by rw [relist_self hk hnd]; exact codeM_le hP hU hA hN hO hY hR hnd hK c 0 L H e k hk)
      (fun {s x} hT h => evalC_inv c 0 s x hT h) fuel ⟨L, [], H, e⟩
      (selK bot (altsM (fun x L H e => k x (relist A.keys L) H e) (exitsC c).eraseDups) (match retC c with | true => fun L H e => k .ret (relist A.keys L) H e | false => fun _ _ _ => bot)) hk
    refine this.trans bot ?_
    have hev : evalC C fuel cur (.loop c) ⟨L, [], H, e⟩ = loopN (headSt C ((A.keep.lookup cur).getD 0)) (fun s => evalC C fuel 0 c s) fuel ⟨L, [], H, e⟩ := by
      subst hA
      rfl
    rw [← hev]
    cases hx : evalC C fuel cur (.loop c) ⟨L, [], H, e⟩ with
    | none => exact .inl rfl
    | some x => exact hk' x hx
  | .exit i, cur, L, H, e, k, hk => .inr rfl
  | .ret, cur, L, H, e, k, hk => .inr rfl
  | .rangeFunc g ps a b, cur, L, H, e, k, hk => by
    unfold codeM
    right
    have : C = ⟨P, KO, C.n0, N, A, U, noY, evalI P U ann fuel KO⟩ := by
      obtain ⟨a1, a2, a3, a4, a5, a6, a7, a8⟩ := C
      simp only at hP hU hA hN hO hY hR
      subst hP hU hA hN hO hY hR
      rfl
    rw [← this]
    rfl
  | .scope _, _, _, _, _, _, _ => .inl rfl
  | .label _, _, _, _, _, _, _ => .inl rfl
  | .goto _, _, _, _, _, _, _ => .inl rfl
  | .refuse _, _, _, _, _, _, _ => .inl rfl

theorem resM_le (L : Env') (H : Heap) (e : Bool) : ∀ (l : List ResultVar) (k : List AV → R),
    Le bot (resM (ops bot C.P U) C.A L H l k) ((l.mapM (resultAV C ⟨L, [], H, e⟩)).elim bot k)
  | [], k => .inr rfl
  | .tmp t :: l, k => by
    unfold resM
    rw [List.mapM_cons]
    refine (resM_le L H e l _).trans bot (.inr ?_)
    simp only [resultAV, Option.pure_def, Option.bind_eq_bind, Option.bind_some, oM_eq C.A L [] H e]
    cases l.mapM (resultAV C ⟨L, [], H, e⟩) <;> rfl
  | .cell a t :: l, k => by
    unfold resM
    rw [List.mapM_cons]
    refine (loadK_le bot C.P t H _ _).trans bot ?_
    simp only [resultAV, Option.pure_def, Option.bind_eq_bind, oM_eq C.A L [] H e]
    show Le bot ((loadAV C.P H t (St.get C.A ⟨L, [], H, e⟩ a)).elim bot _) _
    cases loadAV C.P H t (St.get C.A ⟨L, [], H, e⟩ a) with
    | none => exact .inl rfl
    | some v =>
      simp only [Option.elim_some, Option.bind_some]
      refine (resM_le L H e l _).trans bot (.inr ?_)
      cases l.mapM (resultAV C ⟨L, [], H, e⟩) <;> rfl

theorem finM_le {fn : Func} (hP : C.P = P) (hA : C.A = A) (n0 : Nat) (k : AV → Heap → Bool → R) (x : Ex) (L : Env') (H : Heap) (e : Bool) :
    Le bot (finM (ops bot P U) A fn.results.toList n0 k x L H e) (finK bot C fn n0 k x ⟨L, [], H, e⟩) := by
  subst hP hA
  have key : Le bot (resM (ops bot C.P U) C.A L H fn.results.toList fun vs => (ops bot C.P U).fin n0 H e vs k)
      ((fn.results.toList.mapM (resultAV C ⟨L, [], H, e⟩)).elim bot fun vs => (sweep H n0 (pickAV vs).refs e).elim bot fun H' => k (pickAV vs) H' e) := by
    refine (resM_le bot U L H e _ _).trans bot (.inr ?_)
    show (fn.results.toList.mapM (resultAV C ⟨L, [], H, e⟩)).elim bot (fun vs => sweepQ bot H n0 (refsQ (pickAV vs) []) e fun H' => k (pickAV vs) H' e) = _
    congr 1
    funext vs
    rw [sweepQ_eq, refsQ_eq, List.append_nil]
  cases x with
  | exit i => exact .inl rfl
  | normal => exact key
  | ret => exact key

theorem funM_le (hK : ∀ f args H k, Le bot (KK f args H k) (KOf bot KO f args H k)) (f : FuncId) (args : List AV) (H : Heap) (k : AV → Heap → Bool → R) :
    Le bot (funM (ops bot P U) P U ann fuel f KO KK args H k) (KOf bot (evalF P U ann fuel KO) f args H k) := by
  unfold funM KOf evalF evalG
  cases hf : P.funcs[f]? with
  | none => exact .inl rfl
  | some fn =>
    simp only [Option.bind_some]
    cases hb : fn.body with
    | none => exact .inl rfl
    | some c =>
      simp only [Option.bind_some]
      split
      · rename_i hn hd
        have hle : args.length ≤ fn.ntmps := by rw [← lenQ_eq]; exact Nat.le_of_ble_eq_true hn
        simp only [lenQ_eq, initQ_eq]
        rw [show max fn.ntmps args.length = fn.ntmps by omega]
        have hkeys : (initL (ann f).keys args).map (·.1) = (ann f).keys := by
          unfold initL
          rw [List.map_map]
          exact List.map_id _
        refine (codeM_le bot P U ann fuel (C := ⟨P, KO, H.length, fn.ntmps, ann f, U, noY, evalI P U ann fuel KO⟩) rfl rfl rfl rfl rfl rfl rfl (dupB_nodup hd) hK c 0 _ _ _ _ hkeys).trans bot ?_
        cases hx : evalC ⟨P, KO, H.length, fn.ntmps, ann f, U, noY, evalI P U ann fuel KO⟩ fuel 0 c ⟨initL (ann f).keys args, [], H, false⟩ with
        | none => exact .inl rfl
        | some x =>
          obtain ⟨h1, _⟩ := evalC_inv c 0 _ x rfl hx
          obtain ⟨e, L2, T2, H2, e2⟩ := x
          simp only at h1
          subst h1
          simp only [Option.elim_some, Option.bind_some]
          refine (finM_le bot P U (C := ⟨P, KO, H.length, fn.ntmps, ann f, U, noY, evalI P U ann fuel KO⟩) (fn := fn) rfl rfl H.length k e L2 H2 e2).trans bot ?_
          cases e with
          | exit i => exact .inl rfl
          | normal =>
            simp only [finK]
            right
            cases fn.results.toList.mapM (resultAV ⟨P, KO, H.length, fn.ntmps, ann f, U, noY, evalI P U ann fuel KO⟩ ⟨L2, [], H2, e2⟩) with
            | none => rfl
            | some vs =>
              simp only [Option.elim_some, Option.bind_some]
              cases sweep H2 H.length (pickAV vs).refs e2 <;> rfl
          | ret =>
            simp only [finK]
            right
            cases fn.results.toList.mapM (resultAV ⟨P, KO, H.length, fn.ntmps, ann f, U, noY, evalI P U ann fuel KO⟩ ⟨L2, [], H2, e2⟩) with
            | none => rfl
            | some vs =>
              simp only [Option.elim_some, Option.bind_some]
              cases sweep H2 H.length (pickAV vs).refs e2 <;> rfl
      · exact .inl rfl

/-- A function's printed text. -/
abbrev Txt (R : Type) := Ops R → Nat → Oracle → OracleK R → List AV → Heap → (AV → Heap → Bool → R) → R

/-- Printed texts: each tells nothing, or what the machine tells, whatever the steps do. -/
structure Printed (P : Program) (U : Out) (ann : FuncId → FAnn) (T : FuncId → Option (Bx (Txt R))) : Prop where
  ok : ∀ f t, T f = some t → ∀ (I : Ops R) fuel KO KK args H k, t.f I fuel KO KK args H k = I.bot ∨ t.f I fuel KO KK args H k = funM I P U ann fuel f KO KK args H k

noncomputable def evalYQ (K : Oracle) (KT : FuncId → Option (List AV → Heap → (AV → Heap → Bool → R) → R)) (T : FuncId → Option (Bx (Txt R))) : Nat → OracleK R
  | 0 => fun _ _ _ _ => bot
  | n + 1 => fun f args H k => match KT f with
    | some h => h args H k
    | none => match T f with
      | some t => t.f (ops bot P U) fuel (evalN P U ann fuel K n) (evalYQ K KT T n) args H k
      | none => (funQ bot false P U ann fuel f).f (evalN P U ann fuel K n) (evalYQ K KT T n) args H k

theorem evalYQ_le {K : Oracle} {KT : FuncId → Option (List AV → Heap → (AV → Heap → Bool → R) → R)} (hk : Hk bot K KT) {T : FuncId → Option (Bx (Txt R))} (hT : Printed P U ann T) : ∀ (n : Nat) (f : FuncId) (args : List AV) (H : Heap) (k : AV → Heap → Bool → R),
    Le bot (evalYQ bot P U ann fuel K KT T n f args H k) (KOf bot (evalN P U ann fuel K n) f args H k)
  | 0, f, args, H, k => .inl rfl
  | n + 1, f, args, H, k => by
    show Le bot (match KT f with
      | some h => h args H k
      | none => match T f with
        | some t => t.f (ops bot P U) fuel (evalN P U ann fuel K n) (evalYQ bot P U ann fuel K KT T n) args H k
        | none => (funQ bot false P U ann fuel f).f (evalN P U ann fuel K n) (evalYQ bot P U ann fuel K KT T n) args H k)
      ((match K f args H with | some r => some r | none => evalF P U ann fuel (evalN P U ann fuel K n) f args H).elim bot fun r => k r.1 r.2.1 r.2.2)
    cases hf : KT f with
    | none =>
      rw [hk.none f hf]
      cases ht : T f with
      | none => exact funQ_le bot false P U ann fuel (evalYQ_le hk hT n) f args H k
      | some t =>
        simp only
        rcases hT.ok f t ht (ops bot P U) fuel (evalN P U ann fuel K n) (evalYQ bot P U ann fuel K KT T n) args H k with h | h
        · rw [h]; exact .inl rfl
        · rw [h]; exact funM_le bot P U ann fuel (evalYQ_le hk hT n) f args H k
    | some h =>
      refine (hk.some f h hf args H k).trans bot ?_
      unfold KOf
      cases K f args H with
      | none => exact .inl rfl
      | some r => exact .inr rfl
end

/-- One printed text. -/
def TxtOk {R : Type} (P : Program) (U : Out) (ann : FuncId → FAnn) (f : FuncId) (t : Bx (Txt R)) : Prop :=
  ∀ (I : Ops R) fuel KO KK args H k, t.f I fuel KO KK args H k = I.bot ∨ t.f I fuel KO KK args H k = funM I P U ann fuel f KO KK args H k

def AllOk {R : Type} (P : Program) (U : Out) (ann : FuncId → FAnn) : Nat → List (Option (Bx (Txt R))) → Prop
  | _, [] => True
  | i, none :: r => AllOk P U ann (i + 1) r
  | i, some t :: r => TxtOk P U ann i t ∧ AllOk P U ann (i + 1) r

theorem AllOk.get {R : Type} {P : Program} {U : Out} {ann : FuncId → FAnn} : ∀ {l : List (Option (Bx (Txt R)))} {i : Nat}, AllOk P U ann i l → ∀ (j : Nat) (t : Bx (Txt R)), l[j]? = some (some t) → TxtOk P U ann (i + j) t
  | [], i, _, j, t, h => by simp at h
  | none :: r, i, ha, j, t, h => by
    cases j with
    | zero => simp at h
    | succ j =>
      have := AllOk.get (l := r) ha j t (by simpa using h)
      rwa [show i + (j + 1) = i + 1 + j by omega]
  | some u :: r, i, ha, j, t, h => by
    cases j with
    | zero =>
      simp only [List.getElem?_cons_zero, Option.some.injEq] at h
      subst h
      exact ha.1
    | succ j =>
      have := AllOk.get (l := r) ha.2 j t (by simpa using h)
      rwa [show i + (j + 1) = i + 1 + j by omega]

theorem AllOk.printed {R : Type} {P : Program} {U : Out} {ann : FuncId → FAnn} {l : List (Option (Bx (Txt R)))} (h : AllOk P U ann 0 l) : Printed P U ann (fun f => (nthQ l f).getD none) := ⟨fun f t hf => by
  rw [nthQ_eq] at hf
  cases hx : l[f]? with
  | none => rw [hx] at hf; cases hf
  | some o =>
    rw [hx] at hf
    obtain rfl : o = some t := hf
    have := h.get f t hx
    rwa [Nat.zero_add] at this⟩

/-- It answers true. -/
theorem run_of_trueY {P : Program} {U : Out} {ann : FuncId → FAnn} {fuel n : Nat} {K : Oracle} {KT : FuncId → Option (List AV → Heap → (AV → Heap → Bool → Bool) → Bool)} {T : FuncId → Option (Bx (Txt Bool))} (hk : Hk false K KT) (hT : Printed P U ann T) {f : FuncId} {args : List AV} {H : Heap}
    (h : evalYQ false P U ann fuel K KT T n f args H (fun v _ _ => v.isTrue) = true) : ∃ H' e, evalN P U ann fuel K n f args H = some (.bool true, H', e) := by
  rcases evalYQ_le (R := Bool) false P U ann fuel hk hT n f args H (fun v _ _ => v.isTrue) with h1 | h1
  · rw [h] at h1; cases h1
  rw [h1] at h
  unfold KOf at h
  cases hx : evalN P U ann fuel K n f args H with
  | none => rw [hx] at h; simp at h
  | some r =>
    obtain ⟨v, H', e⟩ := r
    rw [hx] at h
    simp only [Option.elim_some] at h
    cases v <;> simp [AV.isTrue] at h
    subst h
    exact ⟨H', e, rfl⟩

def AV.beqT (v V : AV) : Bool := match v, V with
  | .tuple xs, .tuple ys => beqL xs ys
  | v, V => v.beq V
theorem AV.beqT_eq (v V : AV) (h : v.beqT V = true) : v = V := by
  unfold AV.beqT at h
  split at h
  · rw [beqL_eq _ _ h]
  · exact AV.beq_eq _ _ h

/-- It answers a value. -/
theorem run_of_valY {P : Program} {U : Out} {ann : FuncId → FAnn} {fuel n : Nat} {K : Oracle} {KT : FuncId → Option (List AV → Heap → (AV → Heap → Bool → Bool) → Bool)} {T : FuncId → Option (Bx (Txt Bool))} (hk : Hk false K KT) (hT : Printed P U ann T) {f : FuncId} {args : List AV} {H : Heap} {V : AV}
    (h : evalYQ false P U ann fuel K KT T n f args H (fun v _ _ => v.beqT V) = true) : ∃ H' e, evalN P U ann fuel K n f args H = some (V, H', e) := by
  rcases evalYQ_le (R := Bool) false P U ann fuel hk hT n f args H (fun v _ _ => v.beqT V) with h1 | h1
  · rw [h] at h1; cases h1
  rw [h1] at h
  unfold KOf at h
  cases hx : evalN P U ann fuel K n f args H with
  | none => rw [hx] at h; simp at h
  | some r =>
    obtain ⟨v, H', e⟩ := r
    rw [hx] at h
    simp only [Option.elim_some] at h
    obtain rfl := AV.beqT_eq v V h
    exact ⟨H', e, rfl⟩

end Go.X
/-
  Facts of calls, memory and all: a run is split into calls that were run before, each by itself.
-/
namespace Go.X

/-- A call, and what came of it. -/
structure Fact where
  f : FuncId
  args : List AV
  H : Heap
  v : AV
  H' : Heap
  e : Bool

noncomputable def beqOB (a b : Option Blk) : Bool := match a, b with
  | some a, some b => cond (beqLQ [a.root] [b.root]) (cond (eqBB a.grow b.grow) (eqBB a.flat b.flat) false) false
  | none, none => true
  | _, _ => false
where eqBB (a b : Bool) : Bool := match a, b with
  | true, true => true
  | false, false => true
  | _, _ => false
noncomputable def beqHQ (l : Heap) : Heap → Bool := List.rec (fun m => match m with
    | [] => true
    | _ => false) (fun x _ ih m => match m with
    | [] => false
    | y :: r => cond (beqOB x y) (ih r) false) l

theorem eqBB_eq {a b : Bool} (h : beqOB.eqBB a b = true) : a = b := by cases a <;> cases b <;> first | rfl | cases h
theorem one_eq {a b : AV} (h : beqLQ [a] [b] = true) : a = b := by
  rw [beqLQ_eq] at h
  have := beqL_eq _ _ h
  simpa using this
theorem beqOB_eq {a b : Option Blk} (h : beqOB a b = true) : a = b := by
  cases a with
  | none => cases b with
    | none => rfl
    | some b => cases h
  | some a => cases b with
    | none => cases h
    | some b =>
      unfold beqOB at h
      simp only at h
      cases h1 : beqLQ [a.root] [b.root] with
      | false => rw [h1] at h; cases h
      | true =>
        rw [h1, cond_true] at h
        cases h2 : beqOB.eqBB a.grow b.grow with
        | false => rw [h2] at h; cases h
        | true =>
          rw [h2, cond_true] at h
          obtain ⟨r, g, f⟩ := a
          obtain ⟨r', g', f'⟩ := b
          have e1 := one_eq h1
          have e2 := eqBB_eq h2
          have e3 := eqBB_eq h
          simp only at e1 e2 e3
          rw [e1, e2, e3]
theorem beqHQ_eq : ∀ (l m : Heap), beqHQ l m = true → l = m
  | [], [], _ => rfl
  | [], _ :: _, h => by cases h
  | _ :: _, [], h => by cases h
  | x :: l, y :: m, h => by
    have unf : beqHQ (x :: l) (y :: m) = cond (beqOB x y) (beqHQ l m) false := rfl
    rw [unf] at h
    cases h1 : beqOB x y with
    | false => rw [h1] at h; cases h
    | true =>
      rw [h1, cond_true] at h
      rw [beqOB_eq h1, beqHQ_eq l m h]

noncomputable def memoF (F : List Fact) (K : Oracle) : Oracle := fun f args H => List.rec (K f args H)
  (fun x _ ih => ifQ (Nat.beq x.f f) (ifQ (beqLQ x.args args) (ifQ (beqHQ x.H H) (some (x.v, x.H', x.e)) ih) ih) ih) F

theorem memoF_cases (F : List Fact) (K : Oracle) (f : FuncId) (args : List AV) (H : Heap) :
    memoF F K f args H = K f args H ∨ ∃ x ∈ F, x.f = f ∧ x.args = args ∧ x.H = H ∧ memoF F K f args H = some (x.v, x.H', x.e) := by
  induction F with
  | nil => exact .inl rfl
  | cons x F ih =>
    have unf : memoF (x :: F) K f args H = ifQ (Nat.beq x.f f) (ifQ (beqLQ x.args args) (ifQ (beqHQ x.H H) (some (x.v, x.H', x.e)) (memoF F K f args H)) (memoF F K f args H)) (memoF F K f args H) := rfl
    have old : memoF (x :: F) K f args H = memoF F K f args H → memoF (x :: F) K f args H = K f args H ∨ ∃ y ∈ x :: F, y.f = f ∧ y.args = args ∧ y.H = H ∧ memoF (x :: F) K f args H = some (y.v, y.H', y.e) := by
      intro h
      rw [h]
      rcases ih with h1 | ⟨y, hy, h1⟩
      · exact .inl h1
      · exact .inr ⟨y, List.mem_cons_of_mem _ hy, h1⟩
    rw [ifQ_eq, ifQ_eq, ifQ_eq] at unf
    cases h1 : Nat.beq x.f f with
    | false => rw [h1] at unf; exact old unf
    | true =>
      rw [h1, cond_true] at unf
      cases h2 : beqLQ x.args args with
      | false => rw [h2] at unf; exact old unf
      | true =>
        rw [h2, cond_true] at unf
        cases h3 : beqHQ x.H H with
        | false => rw [h3] at unf; exact old unf
        | true =>
          rw [h3, cond_true] at unf
          rw [beqLQ_eq] at h2
          exact .inr ⟨x, List.mem_cons_self, Nat.eq_of_beq_eq_true h1, beqL_eq _ _ h2, beqHQ_eq _ _ h3, unf⟩

/-- A fact is so. -/
def FactOk (P : Program) (U : Out) (x : Fact) : Prop := ∀ B (E : Env) (w : World) (cargs : List Value), Sim B E x.H w → GlobOk U.G E → x.args.length = cargs.length →
    (∀ (i : Nat) (v : AV) (c : Value), x.args[i]? = some v → cargs[i]? = some c → VR E v c) →
    Calls P x.f cargs.toArray w fun en w' => ∃ c E', en = .returned c ∧ Res B x.H.length E x.H w x.v x.H' x.e E' w' c

def FactsOk (P : Program) (U : Out) (F : List Fact) : Prop := ∀ x ∈ F, FactOk P U x

theorem FactsOk.nil {P : Program} {U : Out} : FactsOk P U [] := fun x h => by cases h
theorem FactsOk.cons {P : Program} {U : Out} {x : Fact} {F : List Fact} (h : FactOk P U x) (hF : FactsOk P U F) : FactsOk P U (x :: F) := fun y hy => by
  rcases List.mem_cons.1 hy with rfl | hy
  · exact h
  · exact hF y hy

theorem memo_sound {P : Program} {U : Out} {F : List Fact} {K : Oracle} (hF : FactsOk P U F) (hK : ∀ B, OracleSound P B U.G K) (B : Nat) : OracleSound P B U.G (memoF F K) := by
  intro f args H v H' e h E w cargs hs hG hl hv
  rcases memoF_cases F K f args H with h1 | ⟨x, hx, rfl, rfl, rfl, h1⟩
  · rw [h1] at h
    exact hK B f args H v H' e h E w cargs hs hG hl hv
  · rw [h1] at h
    simp only [Option.some.injEq, Prod.mk.injEq] at h
    obtain ⟨rfl, rfl, rfl⟩ := h
    exact hF x hx B E w cargs hs hG hl hv

theorem fact_ok {P : Program} {U : Out} {ann : FuncId → FAnn} {fuel n : Nat} {K : Oracle} (hK : ∀ B, OracleSound P B U.G K) (hX : ∀ B, ExtSound P B U.X) (hm : P.follows .mixedOrders = true) (hA : ∀ f, funcOk P (ann f) f = true)
    {x : Fact} (h : evalN P U ann fuel K n x.f x.args x.H = some (x.v, x.H', x.e)) : FactOk P U x := fun B E w cargs hs hG hl hv =>
  evalN_ok (hK B) (hX B) hm hA n x.f x.args x.H x.v x.H' x.e h E w cargs hs hG hl hv

section
variable {R : Type} (bot : R)

noncomputable def memoH (F : List Fact) (f : FuncId) : List AV → Heap → (AV → Heap → Bool → R) → R := fun args H k => List.rec bot
  (fun x _ ih => ifQ (Nat.beq x.f f) (ifQ (beqLQ x.args args) (ifQ (beqHQ x.H H) (k x.v x.H' x.e) ih) ih) ih) F

noncomputable def hasF (F : List Fact) (f : FuncId) : Bool := List.rec false (fun x _ ih => ifQ (Nat.beq x.f f) true ih) F
noncomputable def memoT (F : List Fact) (KT : FuncId → Option (List AV → Heap → (AV → Heap → Bool → R) → R)) : FuncId → Option (List AV → Heap → (AV → Heap → Bool → R) → R) :=
  fun f => ifQ (hasF F f) (some (memoH bot F f)) (KT f)

theorem memoH_le (F : List Fact) (K : Oracle) (f : FuncId) (args : List AV) (H : Heap) (k : AV → Heap → Bool → R) : Le bot (memoH bot F f args H k) (KOf bot (memoF F K) f args H k) := by
  induction F with
  | nil => exact .inl rfl
  | cons x F ih =>
    have u1 : memoH bot (x :: F) f args H k = ifQ (Nat.beq x.f f) (ifQ (beqLQ x.args args) (ifQ (beqHQ x.H H) (k x.v x.H' x.e) (memoH bot F f args H k)) (memoH bot F f args H k)) (memoH bot F f args H k) := rfl
    have u2 : memoF (x :: F) K f args H = ifQ (Nat.beq x.f f) (ifQ (beqLQ x.args args) (ifQ (beqHQ x.H H) (some (x.v, x.H', x.e)) (memoF F K f args H)) (memoF F K f args H)) (memoF F K f args H) := rfl
    unfold KOf
    rw [u1, u2]
    simp only [ifQ_eq]
    cases Nat.beq x.f f with
    | false => exact ih
    | true =>
      cases beqLQ x.args args with
      | false => exact ih
      | true =>
        cases beqHQ x.H H with
        | false => exact ih
        | true => exact .inr rfl

theorem memoF_not {F : List Fact} {K : Oracle} {f : FuncId} (h : hasF F f = false) (args : List AV) (H : Heap) : memoF F K f args H = K f args H := by
  induction F with
  | nil => rfl
  | cons x F ih =>
    have u0 : hasF (x :: F) f = ifQ (Nat.beq x.f f) true (hasF F f) := rfl
    have u2 : memoF (x :: F) K f args H = ifQ (Nat.beq x.f f) (ifQ (beqLQ x.args args) (ifQ (beqHQ x.H H) (some (x.v, x.H', x.e)) (memoF F K f args H)) (memoF F K f args H)) (memoF F K f args H) := rfl
    rw [u0, ifQ_eq] at h
    rw [u2, ifQ_eq]
    cases hb : Nat.beq x.f f with
    | true => rw [hb] at h; cases h
    | false =>
      rw [hb] at h
      exact ih h

theorem Hk.memo {F : List Fact} {K : Oracle} {KT : FuncId → Option (List AV → Heap → (AV → Heap → Bool → R) → R)} (hk : Hk bot K KT) : Hk bot (memoF F K) (memoT bot F KT) := by
  constructor
  · intro f h hf args H k
    unfold memoT at hf
    rw [ifQ_eq] at hf
    cases hb : hasF F f with
    | true =>
      rw [hb, cond_true, Option.some.injEq] at hf
      subst hf
      exact memoH_le bot F K f args H k
    | false =>
      rw [hb, cond_false] at hf
      have := hk.some f h hf args H k
      unfold KOf
      rw [memoF_not hb]
      exact this
  · intro f hf args H
    unfold memoT at hf
    rw [ifQ_eq] at hf
    cases hb : hasF F f with
    | true => rw [hb] at hf; cases hf
    | false =>
      rw [hb, cond_false] at hf
      rw [memoF_not hb]
      exact hk.none f hf args H
end

noncomputable def AV.beqR (v V : AV) : Bool := match v, V with
  | .tuple xs, .tuple ys => beqLQ xs ys
  | v, V => beqLQ [v] [V]
theorem AV.beqR_eq (v V : AV) (h : v.beqR V = true) : v = V := by
  unfold AV.beqR at h
  split at h
  · rw [beqLQ_eq] at h
    rw [beqL_eq _ _ h]
  · exact one_eq h

/-- What comes of a call. -/
noncomputable def isRes (V : AV) (H' : Heap) (e : Bool) : AV → Heap → Bool → Bool := fun v H1 e1 => cond (v.beqR V) (cond (beqHQ H1 H') (beqOB.eqBB e1 e) false) false

theorem run_of_factY {P : Program} {U : Out} {ann : FuncId → FAnn} {fuel n : Nat} {K : Oracle} {KT : FuncId → Option (List AV → Heap → (AV → Heap → Bool → Bool) → Bool)} {T : FuncId → Option (Bx (Txt Bool))} (hk : Hk false K KT) (hT : Printed P U ann T) {x : Fact}
    (h : evalYQ false P U ann fuel K KT T n x.f x.args x.H (isRes x.v x.H' x.e) = true) : evalN P U ann fuel K n x.f x.args x.H = some (x.v, x.H', x.e) := by
  rcases evalYQ_le (R := Bool) false P U ann fuel hk hT n x.f x.args x.H (isRes x.v x.H' x.e) with h1 | h1
  · rw [h] at h1; cases h1
  rw [h1] at h
  unfold KOf at h
  cases hx : evalN P U ann fuel K n x.f x.args x.H with
  | none => rw [hx] at h; simp at h
  | some r =>
    obtain ⟨v, H', e⟩ := r
    rw [hx] at h
    simp only [Option.elim_some, isRes] at h
    cases h2 : v.beqR x.v with
    | false => rw [h2] at h; cases h
    | true =>
      rw [h2, cond_true] at h
      cases h3 : beqHQ H' x.H' with
      | false => rw [h3] at h; cases h
      | true =>
        rw [h3, cond_true] at h
        rw [AV.beqR_eq _ _ h2, beqHQ_eq _ _ h3, eqBB_eq h]

/-- One function more, found with facts. -/
theorem FunTab.addM {P : Program} {U : Out} {ann : FuncId → FAnn} {fuel n : Nat} {T : Table} {F : List Fact} (hT : FunTab P U T) (hF : FactsOk P U F) (hX : ∀ B, ExtSound P B U.X) (hm : P.follows .mixedOrders = true) (hA : ∀ f, funcOk P (ann f) f = true)
    {g : FuncId} {t : List AV → Option (Bool × AV)} (h : ∀ xs v, t xs = some (true, v) → v.cleanR = true ∧ ∃ H' e, evalN P U ann fuel (memoF F (pureK (kOf T))) n g xs [] = some (v, H', e)) :
    FunTab P U (fun f => if f = g then some t else T f) := by
  refine ⟨fun B => ?_⟩
  have h1 : OracleSound P B U.G (pureK (kOf fun f => if f = g then some t else Option.none)) :=
    pure_sound (memo_sound hF hT.ok) hX hm hA (fun f xs v hv => by
      unfold kOf at hv
      by_cases hf : f = g
      · subst hf
        simp only [if_true] at hv
        split at hv
        · rename_i v' hv'
          obtain rfl := Option.some.inj hv
          exact h xs v' hv'
        · cases hv
      · simp only [if_neg hf] at hv
        cases hv) B
  intro f args H v H' e hx
  by_cases hf : f = g
  · refine h1 f args H v H' e ?_
    rw [← hx]
    unfold pureK kOf
    simp only [if_pos hf]
  · refine hT.ok B f args H v H' e ?_
    rw [← hx]
    unfold pureK kOf
    simp only [if_neg hf]

end Go.X
/-
  Facts of calls, in any number: with memory (X46), or of functions that only look; where no fact is found, the text is run.
-/
namespace Go.X

/-- A call that has nothing to do with memory, and what it answers. -/
structure PFact where
  f : FuncId
  args : List AV
  v : AV

noncomputable def pureF (F : List PFact) (K : Oracle) : Oracle := fun f args H => List.rec (K f args H)
  (fun x _ ih => ifQ (Nat.beq x.f f) (ifQ (beqLQ x.args args) (some (x.v, H, false)) ih) ih) F

theorem pureF_cases (F : List PFact) (K : Oracle) (f : FuncId) (args : List AV) (H : Heap) :
    pureF F K f args H = K f args H ∨ ∃ x ∈ F, x.f = f ∧ x.args = args ∧ pureF F K f args H = some (x.v, H, false) := by
  induction F with
  | nil => exact .inl rfl
  | cons x F ih =>
    have unf : pureF (x :: F) K f args H = ifQ (Nat.beq x.f f) (ifQ (beqLQ x.args args) (some (x.v, H, false)) (pureF F K f args H)) (pureF F K f args H) := rfl
    have old : pureF (x :: F) K f args H = pureF F K f args H → pureF (x :: F) K f args H = K f args H ∨ ∃ y ∈ x :: F, y.f = f ∧ y.args = args ∧ pureF (x :: F) K f args H = some (y.v, H, false) := by
      intro h
      rw [h]
      rcases ih with h1 | ⟨y, hy, h1⟩
      · exact .inl h1
      · exact .inr ⟨y, List.mem_cons_of_mem _ hy, h1⟩
    rw [ifQ_eq, ifQ_eq] at unf
    cases h1 : Nat.beq x.f f with
    | false => rw [h1] at unf; exact old unf
    | true =>
      rw [h1, cond_true] at unf
      cases h2 : beqLQ x.args args with
      | false => rw [h2] at unf; exact old unf
      | true =>
        rw [h2, cond_true] at unf
        rw [beqLQ_eq] at h2
        exact .inr ⟨x, List.mem_cons_self, Nat.eq_of_beq_eq_true h1, beqL_eq _ _ h2, unf⟩

/-- A fact is so, in any memory. -/
def PFactOk (P : Program) (U : Out) (x : PFact) : Prop := ∀ B (H : Heap) (E : Env) (w : World) (cargs : List Value), Sim B E H w → GlobOk U.G E → x.args.length = cargs.length →
    (∀ (i : Nat) (v : AV) (c : Value), x.args[i]? = some v → cargs[i]? = some c → VR E v c) →
    Calls P x.f cargs.toArray w fun en w' => ∃ c E', en = .returned c ∧ Res B H.length E H w x.v H false E' w' c

def PFactsOk (P : Program) (U : Out) (F : List PFact) : Prop := ∀ x ∈ F, PFactOk P U x

theorem PFactsOk.nil {P : Program} {U : Out} : PFactsOk P U [] := fun x h => by cases h
theorem PFactsOk.cons {P : Program} {U : Out} {x : PFact} {F : List PFact} (h : PFactOk P U x) (hF : PFactsOk P U F) : PFactsOk P U (x :: F) := fun y hy => by
  rcases List.mem_cons.1 hy with rfl | hy
  · exact h
  · exact hF y hy

theorem pureF_sound {P : Program} {U : Out} {F : List PFact} {K : Oracle} (hF : PFactsOk P U F) (hK : ∀ B, OracleSound P B U.G K) (B : Nat) : OracleSound P B U.G (pureF F K) := by
  intro f args H v H' e h E w cargs hs hG hl hv
  rcases pureF_cases F K f args H with h1 | ⟨x, hx, rfl, rfl, h1⟩
  · rw [h1] at h
    exact hK B f args H v H' e h E w cargs hs hG hl hv
  · rw [h1] at h
    simp only [Option.some.injEq, Prod.mk.injEq] at h
    obtain ⟨rfl, rfl, rfl⟩ := h
    exact hF x hx B H E w cargs hs hG hl hv

/-- Values that stay as they are. -/
def noSl : AV → Bool
  | .sl .. => false
  | v => v.refless
theorem snap_self (H : Heap) : ∀ (l : List AV), l.all noSl = true → snapL H l = some l
  | [], _ => rfl
  | v :: l, h => by
    simp only [List.all_cons, Bool.and_eq_true] at h
    have h1 : snapAV H v = some v := by
      have := h.1
      cases v <;> simp_all [noSl, snapAV]
    rw [snapL, h1, Option.bind_some, snap_self H l h.2]
    rfl

theorem pfact_ok {P : Program} {U : Out} {ann : FuncId → FAnn} {fuel n : Nat} {K : Oracle} (hK : ∀ B, OracleSound P B U.G K) (hX : ∀ B, ExtSound P B U.X) (hm : P.follows .mixedOrders = true) (hA : ∀ f, funcOk P (ann f) f = true)
    {x : PFact} (ha : x.args.all noSl = true) (hc : x.v.cleanR = true) {H' : Heap} {e : Bool} (h : evalN P U ann fuel K n x.f x.args [] = some (x.v, H', e)) : PFactOk P U x := fun B H E w cargs hs hG hl hv => by
  classical
  refine pure_sound (fuel := fuel) (n := n) (k := fun f xs => if f = x.f ∧ xs = x.args then some x.v else none) hK hX hm hA (fun f xs v hx => ?_) B x.f x.args H x.v H false ?_ E w cargs hs hG hl hv
  · split at hx
    · rename_i hf
      obtain rfl := Option.some.inj hx
      rw [hf.1, hf.2]
      exact ⟨hc, H', e, h⟩
    · cases hx
  · unfold pureK
    rw [snap_self H _ ha]
    simp

section
variable {R : Type} (bot : R)

/-- Handlers: first what they run if they know nothing. -/
abbrev Hnd (R : Type) := (List AV → Heap → (AV → Heap → Bool → R) → R) → List AV → Heap → (AV → Heap → Bool → R) → R

structure HkF (K : Oracle) (KT : FuncId → Option (Hnd R)) : Prop where
  some : ∀ f h, KT f = some h → ∀ fb args H k (o : Option (AV × Heap × Bool)), Le bot (fb args H k) (o.elim bot fun r => k r.1 r.2.1 r.2.2) →
    Le bot (h fb args H k) ((match K f args H with | Option.some r => Option.some r | Option.none => o).elim bot fun r => k r.1 r.2.1 r.2.2)
  none : ∀ f, KT f = none → ∀ args H, K f args H = none

noncomputable def orFb (o : Option (Hnd R)) : Hnd R := fun fb args H k => match o with
  | some h => h fb args H k
  | none => fb args H k

theorem HkF.base {K : Oracle} {KT : FuncId → Option (Hnd R)} (hk : HkF bot K KT) (f : FuncId) (fb : List AV → Heap → (AV → Heap → Bool → R) → R) (args : List AV) (H : Heap) (k : AV → Heap → Bool → R) (o : Option (AV × Heap × Bool)) (hfb : Le bot (fb args H k) (o.elim bot fun r => k r.1 r.2.1 r.2.2)) :
    Le bot (orFb (KT f) fb args H k) ((match K f args H with | Option.some r => Option.some r | Option.none => o).elim bot fun r => k r.1 r.2.1 r.2.2) := by
  unfold orFb
  cases hf : KT f with
  | some h => exact hk.some f h hf fb args H k o hfb
  | none =>
    rw [hk.none f hf]
    exact hfb

theorem HkF.nothing : HkF bot (fun _ _ _ => Option.none) (fun _ => Option.none) := ⟨fun f h hf => (by cases hf), fun f hf args H => rfl⟩

/-- What is told of functions by a table: handed on, without a road aside. -/
theorem HkF.ofHk {K : Oracle} {KT : FuncId → Option (List AV → Heap → (AV → Heap → Bool → R) → R)} (hk : Hk bot K KT) : HkF bot K (fun f => (KT f).map fun h _ => h) := by
  constructor
  · intro f h hf fb args H k o hfb
    cases hx : KT f with
    | none => rw [hx] at hf; cases hf
    | some h' =>
      rw [hx] at hf
      simp only [Option.map_some, Option.some.injEq] at hf
      subst hf
      refine (hk.some f h' hx args H k).trans bot ?_
      unfold KOf
      cases K f args H with
      | none => exact .inl rfl
      | some r => exact .inr rfl
  · intro f hf args H
    cases hx : KT f with
    | none => exact hk.none f hx args H
    | some h' => rw [hx] at hf; cases hf

noncomputable def memoG (F : List Fact) (o : Option (Hnd R)) (f : FuncId) : Hnd R := fun fb args H k => List.rec (orFb o fb args H k)
  (fun x _ ih => ifQ (Nat.beq x.f f) (ifQ (beqLQ x.args args) (ifQ (beqHQ x.H H) (k x.v x.H' x.e) ih) ih) ih) F
noncomputable def memoR (F : List Fact) (KT : FuncId → Option (Hnd R)) : FuncId → Option (Hnd R) := fun f => ifQ (hasF F f) (some (memoG F (KT f) f)) (KT f)

theorem HkF.memo {F : List Fact} {K : Oracle} {KT : FuncId → Option (Hnd R)} (hk : HkF bot K KT) : HkF bot (memoF F K) (memoR F KT) := by
  have key : ∀ (F : List Fact) f fb args H k (o : Option (AV × Heap × Bool)), Le bot (fb args H k) (o.elim bot fun r => k r.1 r.2.1 r.2.2) →
      Le bot (memoG F (KT f) f fb args H k) ((match memoF F K f args H with | Option.some r => Option.some r | Option.none => o).elim bot fun r => k r.1 r.2.1 r.2.2) := by
    intro F f fb args H k o hfb
    induction F with
    | nil => exact hk.base bot f fb args H k o hfb
    | cons x F ih =>
      have u1 : memoG (x :: F) (KT f) f fb args H k = ifQ (Nat.beq x.f f) (ifQ (beqLQ x.args args) (ifQ (beqHQ x.H H) (k x.v x.H' x.e) (memoG F (KT f) f fb args H k)) (memoG F (KT f) f fb args H k)) (memoG F (KT f) f fb args H k) := rfl
      have u2 : memoF (x :: F) K f args H = ifQ (Nat.beq x.f f) (ifQ (beqLQ x.args args) (ifQ (beqHQ x.H H) (Option.some (x.v, x.H', x.e)) (memoF F K f args H)) (memoF F K f args H)) (memoF F K f args H) := rfl
      rw [u1, u2]
      simp only [ifQ_eq]
      cases Nat.beq x.f f with
      | false => exact ih
      | true =>
        cases beqLQ x.args args with
        | false => exact ih
        | true =>
          cases beqHQ x.H H with
          | false => exact ih
          | true => exact .inr rfl
  constructor
  · intro f h hf fb args H k o hfb
    unfold memoR at hf
    rw [ifQ_eq] at hf
    cases hb : hasF F f with
    | true =>
      rw [hb, cond_true, Option.some.injEq] at hf
      subst hf
      exact key F f fb args H k o hfb
    | false =>
      rw [hb, cond_false] at hf
      rw [memoF_not hb]
      exact hk.some f h hf fb args H k o hfb
  · intro f hf args H
    unfold memoR at hf
    rw [ifQ_eq] at hf
    cases hb : hasF F f with
    | true => rw [hb] at hf; cases hf
    | false =>
      rw [hb, cond_false] at hf
      rw [memoF_not hb]
      exact hk.none f hf args H

noncomputable def pureG (F : List PFact) (o : Option (Hnd R)) (f : FuncId) : Hnd R := fun fb args H k => List.rec (orFb o fb args H k)
  (fun x _ ih => ifQ (Nat.beq x.f f) (ifQ (beqLQ x.args args) (k x.v H false) ih) ih) F
noncomputable def hasP (F : List PFact) (f : FuncId) : Bool := List.rec false (fun x _ ih => ifQ (Nat.beq x.f f) true ih) F
noncomputable def pureR (F : List PFact) (KT : FuncId → Option (Hnd R)) : FuncId → Option (Hnd R) := fun f => ifQ (hasP F f) (some (pureG F (KT f) f)) (KT f)

theorem pureF_not {F : List PFact} {K : Oracle} {f : FuncId} (h : hasP F f = false) (args : List AV) (H : Heap) : pureF F K f args H = K f args H := by
  induction F with
  | nil => rfl
  | cons x F ih =>
    have u0 : hasP (x :: F) f = ifQ (Nat.beq x.f f) true (hasP F f) := rfl
    have u2 : pureF (x :: F) K f args H = ifQ (Nat.beq x.f f) (ifQ (beqLQ x.args args) (Option.some (x.v, H, false)) (pureF F K f args H)) (pureF F K f args H) := rfl
    rw [u0, ifQ_eq] at h
    rw [u2, ifQ_eq]
    cases hb : Nat.beq x.f f with
    | true => rw [hb] at h; cases h
    | false =>
      rw [hb] at h
      exact ih h

theorem HkF.pures {F : List PFact} {K : Oracle} {KT : FuncId → Option (Hnd R)} (hk : HkF bot K KT) : HkF bot (pureF F K) (pureR F KT) := by
  have key : ∀ (F : List PFact) f fb args H k (o : Option (AV × Heap × Bool)), Le bot (fb args H k) (o.elim bot fun r => k r.1 r.2.1 r.2.2) →
      Le bot (pureG F (KT f) f fb args H k) ((match pureF F K f args H with | Option.some r => Option.some r | Option.none => o).elim bot fun r => k r.1 r.2.1 r.2.2) := by
    intro F f fb args H k o hfb
    induction F with
    | nil => exact hk.base bot f fb args H k o hfb
    | cons x F ih =>
      have u1 : pureG (x :: F) (KT f) f fb args H k = ifQ (Nat.beq x.f f) (ifQ (beqLQ x.args args) (k x.v H false) (pureG F (KT f) f fb args H k)) (pureG F (KT f) f fb args H k) := rfl
      have u2 : pureF (x :: F) K f args H = ifQ (Nat.beq x.f f) (ifQ (beqLQ x.args args) (Option.some (x.v, H, false)) (pureF F K f args H)) (pureF F K f args H) := rfl
      rw [u1, u2]
      simp only [ifQ_eq]
      cases Nat.beq x.f f with
      | false => exact ih
      | true =>
        cases beqLQ x.args args with
        | false => exact ih
        | true => exact .inr rfl
  constructor
  · intro f h hf fb args H k o hfb
    unfold pureR at hf
    rw [ifQ_eq] at hf
    cases hb : hasP F f with
    | true =>
      rw [hb, cond_true, Option.some.injEq] at hf
      subst hf
      exact key F f fb args H k o hfb
    | false =>
      rw [hb, cond_false] at hf
      rw [pureF_not hb]
      exact hk.some f h hf fb args H k o hfb
  · intro f hf args H
    unfold pureR at hf
    rw [ifQ_eq] at hf
    cases hb : hasP F f with
    | true => rw [hb] at hf; cases hf
    | false =>
      rw [hb, cond_false] at hf
      rw [pureF_not hb]
      exact hk.none f hf args H

section
variable (P : Program) (U : Out) (ann : FuncId → FAnn) (fuel : Nat)

/-- The driver: facts first, then the printed text. -/
noncomputable def evalZQ (K : Oracle) (KT : FuncId → Option (Hnd R)) (T : FuncId → Option (Bx (Txt R))) : Nat → OracleK R
  | 0 => fun _ _ _ _ => bot
  | n + 1 => fun f args H k => orFb (KT f) (fun args H k => match T f with
      | some t => t.f (ops bot P U) fuel (evalN P U ann fuel K n) (evalZQ K KT T n) args H k
      | none => (funQ bot false P U ann fuel f).f (evalN P U ann fuel K n) (evalZQ K KT T n) args H k) args H k

theorem evalZQ_le {K : Oracle} {KT : FuncId → Option (Hnd R)} (hk : HkF bot K KT) {T : FuncId → Option (Bx (Txt R))} (hT : Printed P U ann T) : ∀ (n : Nat) (f : FuncId) (args : List AV) (H : Heap) (k : AV → Heap → Bool → R),
    Le bot (evalZQ bot P U ann fuel K KT T n f args H k) (KOf bot (evalN P U ann fuel K n) f args H k)
  | 0, f, args, H, k => .inl rfl
  | n + 1, f, args, H, k => by
    refine hk.base bot f (fun args H k => match T f with
      | some t => t.f (ops bot P U) fuel (evalN P U ann fuel K n) (evalZQ bot P U ann fuel K KT T n) args H k
      | none => (funQ bot false P U ann fuel f).f (evalN P U ann fuel K n) (evalZQ bot P U ann fuel K KT T n) args H k) args H k (evalF P U ann fuel (evalN P U ann fuel K n) f args H) ?_
    cases ht : T f with
    | none => exact funQ_le bot false P U ann fuel (evalZQ_le hk hT n) f args H k
    | some t =>
      simp only
      rcases hT.ok f t ht (ops bot P U) fuel (evalN P U ann fuel K n) (evalZQ bot P U ann fuel K KT T n) args H k with h | h
      · rw [h]; exact .inl rfl
      · rw [h]; exact funM_le bot P U ann fuel (evalZQ_le hk hT n) f args H k
end
end

/-- It answers true. -/
theorem run_of_trueZ {P : Program} {U : Out} {ann : FuncId → FAnn} {fuel n : Nat} {K : Oracle} {KT : FuncId → Option (Hnd Bool)} {T : FuncId → Option (Bx (Txt Bool))} (hk : HkF false K KT) (hT : Printed P U ann T) {f : FuncId} {args : List AV} {H : Heap}
    (h : evalZQ false P U ann fuel K KT T n f args H (fun v _ _ => v.isTrue) = true) : ∃ H' e, evalN P U ann fuel K n f args H = some (.bool true, H', e) := by
  rcases evalZQ_le (R := Bool) false P U ann fuel hk hT n f args H (fun v _ _ => v.isTrue) with h1 | h1
  · rw [h] at h1; cases h1
  rw [h1] at h
  unfold KOf at h
  cases hx : evalN P U ann fuel K n f args H with
  | none => rw [hx] at h; simp at h
  | some r =>
    obtain ⟨v, H', e⟩ := r
    rw [hx] at h
    simp only [Option.elim_some] at h
    cases v <;> simp [AV.isTrue] at h
    subst h
    exact ⟨H', e, rfl⟩

/-- It answers a value. -/
theorem run_of_valZ {P : Program} {U : Out} {ann : FuncId → FAnn} {fuel n : Nat} {K : Oracle} {KT : FuncId → Option (Hnd Bool)} {T : FuncId → Option (Bx (Txt Bool))} (hk : HkF false K KT) (hT : Printed P U ann T) {f : FuncId} {args : List AV} {H : Heap} {V : AV}
    (h : evalZQ false P U ann fuel K KT T n f args H (fun v _ _ => v.beqR V) = true) : ∃ H' e, evalN P U ann fuel K n f args H = some (V, H', e) := by
  rcases evalZQ_le (R := Bool) false P U ann fuel hk hT n f args H (fun v _ _ => v.beqR V) with h1 | h1
  · rw [h] at h1; cases h1
  rw [h1] at h
  unfold KOf at h
  cases hx : evalN P U ann fuel K n f args H with
  | none => rw [hx] at h; simp at h
  | some r =>
    obtain ⟨v, H', e⟩ := r
    rw [hx] at h
    simp only [Option.elim_some] at h
    obtain rfl := AV.beqR_eq v V h
    exact ⟨H', e, rfl⟩

theorem run_of_factZ {P : Program} {U : Out} {ann : FuncId → FAnn} {fuel n : Nat} {K : Oracle} {KT : FuncId → Option (Hnd Bool)} {T : FuncId → Option (Bx (Txt Bool))} (hk : HkF false K KT) (hT : Printed P U ann T) {x : Fact}
    (h : evalZQ false P U ann fuel K KT T n x.f x.args x.H (isRes x.v x.H' x.e) = true) : evalN P U ann fuel K n x.f x.args x.H = some (x.v, x.H', x.e) := by
  rcases evalZQ_le (R := Bool) false P U ann fuel hk hT n x.f x.args x.H (isRes x.v x.H' x.e) with h1 | h1
  · rw [h] at h1; cases h1
  rw [h1] at h
  unfold KOf at h
  cases hx : evalN P U ann fuel K n x.f x.args x.H with
  | none => rw [hx] at h; simp at h
  | some r =>
    obtain ⟨v, H', e⟩ := r
    rw [hx] at h
    simp only [Option.elim_some, isRes] at h
    cases h2 : v.beqR x.v with
    | false => rw [h2] at h; cases h
    | true =>
      rw [h2, cond_true] at h
      cases h3 : beqHQ H' x.H' with
      | false => rw [h3] at h; cases h
      | true =>
        rw [h3, cond_true] at h
        rw [AV.beqR_eq _ _ h2, beqHQ_eq _ _ h3, eqBB_eq h]

/-- One function more, found in any sound way. -/
theorem FunTab.addK {P : Program} {U : Out} {ann : FuncId → FAnn} {fuel n : Nat} {T : Table} {K : Oracle} (hT : FunTab P U T) (hK : ∀ B, OracleSound P B U.G K) (hX : ∀ B, ExtSound P B U.X) (hm : P.follows .mixedOrders = true) (hA : ∀ f, funcOk P (ann f) f = true)
    {g : FuncId} {t : List AV → Option (Bool × AV)} (h : ∀ xs v, t xs = some (true, v) → v.cleanR = true ∧ ∃ H' e, evalN P U ann fuel K n g xs [] = some (v, H', e)) :
    FunTab P U (fun f => if f = g then some t else T f) := by
  refine ⟨fun B => ?_⟩
  have h1 : OracleSound P B U.G (pureK (kOf fun f => if f = g then some t else Option.none)) :=
    pure_sound hK hX hm hA (fun f xs v hv => by
      unfold kOf at hv
      by_cases hf : f = g
      · subst hf
        simp only [if_true] at hv
        split at hv
        · rename_i v' hv'
          obtain rfl := Option.some.inj hv
          exact h xs v' hv'
        · cases hv
      · simp only [if_neg hf] at hv
        cases hv) B
  intro f args H v H' e hx
  by_cases hf : f = g
  · refine h1 f args H v H' e ?_
    rw [← hx]
    unfold pureK kOf
    simp only [if_pos hf]
  · refine hT.ok B f args H v H' e ?_
    rw [← hx]
    unfold pureK kOf
    simp only [if_neg hf]

/-- The same, and told by a recursor: the kernel takes what stands under it in one go. -/
noncomputable def forceB (b : Bool) : Bool := Bool.rec false true b
theorem forceB_eq (b : Bool) : forceB b = b := by cases b <;> rfl
/-- Behind one function's calls all is told so. -/
noncomputable def forceR (g : FuncId) (KT : FuncId → Option (Hnd Bool)) : FuncId → Option (Hnd Bool) := fun f => ifQ (Nat.beq f g) (some fun fb args H k => orFb (KT f) fb args H fun v H e => forceB (k v H e)) (KT f)
theorem HkF.forced {K : Oracle} {KT : FuncId → Option (Hnd Bool)} (g : FuncId) (hk : HkF false K KT) : HkF false K (forceR g KT) := by
  constructor
  · intro f h hf fb args H k o hfb
    unfold forceR at hf
    rw [ifQ_eq] at hf
    cases hb : Nat.beq f g with
    | true =>
      rw [hb, cond_true, Option.some.injEq] at hf
      subst hf
      have : (fun v H e => forceB (k v H e)) = k := by funext v H e; exact forceB_eq _
      show Le false (orFb (KT f) fb args H fun v H e => forceB (k v H e)) _
      rw [this]
      exact hk.base false f fb args H k o hfb
    | false =>
      rw [hb, cond_false] at hf
      exact hk.some f h hf fb args H k o hfb
  · intro f hf args H
    unfold forceR at hf
    rw [ifQ_eq] at hf
    cases hb : Nat.beq f g with
    | true => rw [hb] at hf; cases hf
    | false =>
      rw [hb, cond_false] at hf
      exact hk.none f hf args H

end Go.X
/-
  A function that answers yes or no, of what came in: both ways are gone, and both must answer true.
-/
namespace Go.X

/-- What both ways come to. -/
noncomputable def andB (a b : Bool) : Bool := Bool.rec false b a
theorem andB_eq (a b : Bool) : andB a b = (a && b) := by cases a <;> rfl

noncomputable def bothR (g : FuncId) (pat : List AV → Bool) (KT : FuncId → Option (Hnd Bool)) : FuncId → Option (Hnd Bool) := fun f =>
  ifQ (Nat.beq f g) (some fun fb args H k => match snapL H args with
    | some xs => ifQ (pat xs) (andB (k (.bool true) H false) (k (.bool false) H false)) (orFb (KT f) fb args H k)
    | none => orFb (KT f) fb args H k) (KT f)

theorem hkf_both {K : Oracle} {KT : FuncId → Option (Hnd Bool)} (g : FuncId) (pat : List AV → Bool) (hk : HkF false K KT)
    (hp : ∀ args xs H, snapL H args = some xs → pat xs = true → ∃ b, K g args H = some (.bool b, H, false)) : HkF false K (bothR g pat KT) := by
  constructor
  · intro f h hf fb args H k o hfb
    unfold bothR at hf
    rw [ifQ_eq] at hf
    cases hb : Nat.beq f g with
    | true =>
      rw [hb, cond_true, Option.some.injEq] at hf
      subst hf
      obtain rfl := Nat.eq_of_beq_eq_true hb
      simp only
      cases hs : snapL H args with
      | none => exact hk.base false f fb args H k o hfb
      | some xs =>
        simp only
        rw [ifQ_eq]
        cases hpx : pat xs with
        | false => exact hk.base false f fb args H k o hfb
        | true =>
          obtain ⟨b, hb⟩ := hp args xs H hs hpx
          rw [cond_true, hb, andB_eq]
          simp only [Option.elim_some]
          cases ht : k (.bool true) H false <;> cases hfl : k (.bool false) H false <;> cases b <;> simp [Le, ht, hfl]
    | false =>
      rw [hb, cond_false] at hf
      exact hk.some f h hf fb args H k o hfb
  · intro f hf args H
    unfold bothR at hf
    rw [ifQ_eq] at hf
    cases hb : Nat.beq f g with
    | true => rw [hb] at hf; cases hf
    | false =>
      rw [hb, cond_false] at hf
      exact hk.none f hf args H

/-- A table's word. -/
theorem pureK_of_table {T : Table} {g : FuncId} {args xs : List AV} {H : Heap} {v : AV} {t : List AV → Option (Bool × AV)} (hs : snapL H args = some xs) (hT : T g = some t) (ht : t xs = some (true, v)) : pureK (kOf T) g args H = some (v, H, false) := by
  unfold pureK kOf
  rw [hs, Option.bind_some, hT]
  simp [ht]

end Go.X
