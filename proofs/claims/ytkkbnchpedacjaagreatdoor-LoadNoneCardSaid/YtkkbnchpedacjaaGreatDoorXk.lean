/-
  The machine on the true steps: code, functions; and texts of functions that are printed.
-/
import Derived.Test.YtkkbnchpedacjaaGreatDoorXj

namespace Go.X
section
variable {R : Type} (bot : R) (P : Program) (U : Out) (ann : FuncId → FAnn) (fuel : Nat)
variable {C : Ctx} {KK : OracleK R} {KO : Oracle} {A : FAnn} {N : Nat}

theorem selK_mem (k : Ex → CK R) (i : Nat) (ret : CK R) : ∀ (l : List Nat), i ∈ l → selK bot (altsM k l) ret (.exit i) = fun L H e => k (.exit i) L H e
  | [], h => by simp at h
  | j :: r, h => by
    show (Bool.rec (selK bot (altsM k r) ret (.exit i)) (fun L H e => k (.exit j) L H e) (Nat.beq j i) : CK R) = _
    rw [recB, cond_beq]
    by_cases hji : j = i
    · subst hji; rw [if_pos rfl]
    · rw [if_neg hji]
      rcases List.mem_cons.1 h with h | h
      · exact absurd h.symm hji
      · exact selK_mem k i ret r h

theorem selK_not (k : Ex → CK R) (i : Nat) (ret : CK R) : ∀ (l : List Nat), i ∉ l → selK bot (altsM k l) ret (.exit i) = fun _ _ _ => bot
  | [], _ => rfl
  | j :: r, h => by
    show (Bool.rec (selK bot (altsM k r) ret (.exit i)) (fun L H e => k (.exit j) L H e) (Nat.beq j i) : CK R) = _
    simp only [List.mem_cons, not_or] at h
    rw [recB, cond_beq, if_neg (fun e => h.1 e.symm)]
    exact selK_not k i ret r h.2

theorem head_le (n0 m : Nat) (L : Env') (H : Heap) (e : Bool) (k : Env' → Heap → R) : (ops bot P U).head n0 m L H e k = (sweep H n0 (rootsL (maskL m L)) e).elim bot fun H => k (maskL m L) H := headQ_eq bot n0 m L H e k

theorem loopM_le {m : Nat} {body : Env' → Heap → Bool → (Ex → CK R) → R} {bodyO : St → Option (Ex × St)} {keys : List Nat}
    (hb : ∀ L H e k, L.map (·.1) = keys → Le bot (body L H e k) ((bodyO ⟨L, [], H, e⟩).elim bot fun x => k x.1 x.2.L x.2.H x.2.esc))
    (hi : ∀ {s x}, s.T = [] → bodyO s = some x → x.2.T = [] ∧ x.2.L.map (·.1) = s.L.map (·.1)) :
    ∀ (n : Nat) (s : St) (k : Ex → CK R), s.L.map (·.1) = keys → Le bot ((ops bot P U).head C.n0 m s.L s.H s.esc fun L H => loopM (ops bot P U) C.n0 m body n L H s.esc k) ((loopN (headSt C m) bodyO n s).elim bot fun x => k x.1 x.2.L x.2.H x.2.esc)
  | 0, s, k, hk => by
    rw [head_le]
    left
    cases sweep s.H C.n0 (rootsL (maskL m s.L)) s.esc <;> rfl
  | n + 1, s, k, hk => by
    rw [head_le]
    unfold loopN headSt
    simp only [elim_bind, elim_map]
    cases sweep s.H C.n0 (rootsL (maskL m s.L)) s.esc with
    | none => exact .inl rfl
    | some H1 =>
      simp only [Option.elim_some]
      show Le bot (body (maskL m s.L) H1 s.esc (loopK (ops bot P U) C.n0 m (loopM (ops bot P U) C.n0 m body n) k)) _
      have hk1 : (maskL m s.L).map (·.1) = keys := by rw [mask_keys, hk]
      refine (hb _ _ _ _ hk1).trans bot ?_
      cases hx : bodyO ⟨maskL m s.L, [], H1, s.esc⟩ with
      | none => exact .inl rfl
      | some x =>
        obtain ⟨_, h2⟩ := hi rfl hx
        obtain ⟨e, s2⟩ := x
        cases e with
        | normal => exact loopM_le hb hi n s2 k (by rw [h2]; exact hk1)
        | exit i => exact .inr rfl
        | ret => exact .inr rfl

theorem exits_of {C : Ctx} {fuel : Nat} : ∀ (c : Code) (cur : Nat) (s : St) (i : Nat) (s' : St), evalC C fuel cur c s = some (.exit i, s') → i ∈ exitsC c
  | .skip, cur, s, i, s', h => by simp [evalC] at h
  | .region id ops draw, cur, s, i, s', h => by
    simp only [evalC, Option.map_eq_some_iff] at h
    obtain ⟨_, _, h⟩ := h
    cases h
  | .seq a b, cur, s, i, s', h => by
    simp only [evalC, Option.bind_eq_some_iff] at h
    obtain ⟨y, h1, h2⟩ := h
    obtain ⟨ex, s2⟩ := y
    simp only [exitsC, List.mem_append]
    cases ex with
    | normal => exact .inr (exits_of b cur s2 i s' h2)
    | exit j =>
      simp only [Option.some.injEq, Prod.mk.injEq, Ex.exit.injEq] at h2
      obtain ⟨rfl, rfl⟩ := h2
      exact .inl (exits_of a cur s _ _ h1)
    | ret => simp at h2
  | .cond c a b, cur, s, i, s', h => by
    simp only [evalC] at h
    simp only [exitsC, List.mem_append]
    split at h
    · exact .inl (exits_of a cur s i s' h)
    · exact .inr (exits_of b cur s i s' h)
    · cases h
  | .block id c, cur, s, i, s', h => by
    simp only [evalC, Option.map_eq_some_iff] at h
    obtain ⟨y, h1, h2⟩ := h
    obtain ⟨ex, s2⟩ := y
    cases ex with
    | normal => simp at h2
    | exit j =>
      simp only at h2
      split at h2
      · simp at h2
      · simp only [Prod.mk.injEq, Ex.exit.injEq] at h2
        obtain ⟨rfl, rfl⟩ := h2
        exact exits_of c id s _ _ h1
    | ret => simp at h2
  | .loop c, cur, s, i, s', h => by
    simp only [evalC] at h
    have key : ∀ (n : Nat) (s : St), loopN (headSt C ((C.A.keep.lookup cur).getD 0)) (fun s => evalC C fuel 0 c s) n s = some (.exit i, s') → i ∈ exitsC c := by
      intro n
      induction n with
      | zero => intro s h; cases h
      | succ n ih =>
        intro s h
        unfold loopN at h
        simp only [Option.bind_eq_some_iff] at h
        obtain ⟨s1, _, y, h2, h3⟩ := h
        obtain ⟨ex, s2⟩ := y
        cases ex with
        | normal => exact ih s2 h3
        | exit j =>
          simp only [Option.some.injEq, Prod.mk.injEq, Ex.exit.injEq] at h3
          obtain ⟨rfl, rfl⟩ := h3
          exact exits_of c 0 s1 _ _ h2
        | ret => simp at h3
    exact key fuel s h
  | .exit j, cur, s, i, s', h => by
    simp only [evalC, Option.some.injEq, Prod.mk.injEq, Ex.exit.injEq] at h
    simp [exitsC, h.1]
  | .ret, cur, s, i, s', h => by simp [evalC] at h
  | .rangeFunc g ps a b, cur, s, i, s', h => by
    simp only [evalC] at h
    split at h
    · simp at h
    · cases h
  | .scope _, _, _, _, _, h => by cases h
  | .label _, _, _, _, _, h => by cases h
  | .goto _, _, _, _, _, h => by cases h
  | .refuse _, _, _, _, _, h => by cases h

theorem codeM_le (hP : C.P = P) (hU : C.U = U) (hA : C.A = A) (hN : C.N = N) (hO : C.K = KO) (hY : C.Y = noY) (hR : C.Rg = evalI P U ann fuel KO) (hnd : A.keys.Nodup)
    (hK : ∀ f args H k, Le bot (KK f args H k) (KOf bot KO f args H k)) : ∀ (c : Code) (cur : Nat) (L : Env') (H : Heap) (e : Bool) (k : Ex → CK R), L.map (·.1) = A.keys →
    Le bot (codeM (ops bot P U) P U ann A N fuel C.n0 KO KK c cur L H e k) ((evalC C fuel cur c ⟨L, [], H, e⟩).elim bot fun x => k x.1 x.2.L x.2.H x.2.esc)
  | .skip, cur, L, H, e, k, hk => .inr rfl
  | .region id opa draw, cur, L, H, e, k, hk => by
    unfold codeM evalC
    refine (regionM_le bot P U (C := C) hP hU hA hN (by rw [hO]; exact hK) id opa draw L H e _).trans bot (.inr ?_)
    cases runRegion C id opa draw ⟨L, [], H, e⟩ <;> rfl
  | .seq a b, cur, L, H, e, k, hk => by
    have key : ∀ kb : CK R, (∀ L H e, L.map (·.1) = A.keys → Le bot (kb L H e) ((evalC C fuel cur b ⟨L, [], H, e⟩).elim bot fun x => k x.1 x.2.L x.2.H x.2.esc)) →
        Le bot (codeM (ops bot P U) P U ann A N fuel C.n0 KO KK a cur L H e (seqK k kb)) ((evalC C fuel cur (.seq a b) ⟨L, [], H, e⟩).elim bot fun x => k x.1 x.2.L x.2.H x.2.esc) := by
      intro kb hkb
      unfold evalC
      refine (codeM_le hP hU hA hN hO hY hR hnd hK a cur L H e _ hk).trans bot ?_
      cases hx : evalC C fuel cur a ⟨L, [], H, e⟩ with
      | none => exact .inl rfl
      | some x =>
        obtain ⟨h1, h2⟩ := evalC_inv a cur ⟨L, [], H, e⟩ x rfl hx
        obtain ⟨ex, s2⟩ := x
        cases ex with
        | normal =>
          obtain ⟨L2, T2, H2, e2⟩ := s2
          simp only at h1 h2
          subst h1
          exact hkb L2 H2 e2 (by rw [h2]; exact hk)
        | exit i => exact .inr rfl
        | ret => exact .inr rfl
    unfold codeM
    split
    · exact key _ fun L H e hk => codeM_le hP hU hA hN hO hY hR hnd hK b cur L H e k hk
    · exact key _ fun L H e hk => by rw [relist_self hk hnd]; exact codeM_le hP hU hA hN hO hY hR hnd hK b cur L H e k hk
  | .cond c a b, cur, L, H, e, k, hk => by
    unfold codeM evalC
    show Le bot (swBool (oM A L [] c) bot fun t => ifQ t _ _) _
    rw [oM_eq A L [] H e, swBool_eq, hA]
    split
    · rename_i t ht
      rw [ht]
      cases t
      · exact codeM_le hP hU hA hN hO hY hR hnd hK b cur L H e k hk
      · exact codeM_le hP hU hA hN hO hY hR hnd hK a cur L H e k hk
    · exact .inl rfl
  | .block id c, cur, L, H, e, k, hk => by
    have key : ∀ j : CK R, (∀ L H e, L.map (·.1) = A.keys → j L H e = k .normal L H e) →
        Le bot (codeM (ops bot P U) P U ann A N fuel C.n0 KO KK c id L H e (blkK id k j)) ((evalC C fuel cur (.block id c) ⟨L, [], H, e⟩).elim bot fun x => k x.1 x.2.L x.2.H x.2.esc) := by
      intro j hj
      unfold evalC
      refine (codeM_le hP hU hA hN hO hY hR hnd hK c id L H e _ hk).trans bot ?_
      cases hx : evalC C fuel id c ⟨L, [], H, e⟩ with
      | none => exact .inl rfl
      | some x =>
        obtain ⟨h1, h2⟩ := evalC_inv c id ⟨L, [], H, e⟩ x rfl hx
        obtain ⟨ex, s2⟩ := x
        simp only at h2
        have hk2 : s2.L.map (·.1) = A.keys := by rw [h2]; exact hk
        right
        cases ex with
        | normal => exact hj _ _ _ hk2
        | exit i =>
          simp only [Option.elim_some, Option.map_some, blkK, natBeq]
          by_cases hi : i = id
          · simp [hi, hj _ _ _ hk2]
          · simp [hi]
        | ret => rfl
    unfold codeM
    split
    · exact key _ fun L H e hk => rfl
    · exact key _ fun L H e hk => by rw [relist_self hk hnd]
  | .loop c, cur, L, H, e, k, hk => by
    unfold codeM
    have hk' : ∀ (x : Ex × St), evalC C fuel cur (.loop c) ⟨L, [], H, e⟩ = some x → Le bot
        (selK bot (altsM (fun x L H e => k x (relist A.keys L) H e) (exitsC c).eraseDups) (match retC c with | true => fun L H e => k .ret (relist A.keys L) H e | false => fun _ _ _ => bot) x.1 x.2.L x.2.H x.2.esc)
        (k x.1 x.2.L x.2.H x.2.esc) := by
      intro x hx
      obtain ⟨h1, h2⟩ := evalC_inv (.loop c) cur ⟨L, [], H, e⟩ x rfl hx
      obtain ⟨ex, s2⟩ := x
      simp only at h2
      have hk2 : s2.L.map (·.1) = A.keys := by rw [h2]; exact hk
      cases ex with
      | normal => exact .inl rfl
      | exit i =>
        have hm := exits_of (.loop c) cur _ i s2 hx
        by_cases hmem : i ∈ (exitsC c).eraseDups
        · rw [selK_mem bot _ i _ _ hmem]
          simp only
          rw [relist_self hk2 hnd]
          exact .inr rfl
        · rw [selK_not bot _ i _ _ hmem]
          exact .inl rfl
      | ret =>
        show Le bot ((match retC c with | true => fun L H e => k .ret (relist A.keys L) H e | false => fun _ _ _ => bot : CK R) s2.L s2.H s2.esc) _
        cases retC c with
        | true => simp only; rw [relist_self hk2 hnd]; exact .inr rfl
        | false => exact .inl rfl
    have := loopM_le bot P U (C := C) (m := (A.keep.lookup cur).getD 0) (keys := A.keys) (bodyO := fun s => evalC C fuel 0 c s)
      (body := fun L H e k => codeM (ops bot P U) P U ann A N fuel C.n0 KO KK c 0 (relist A.keys L) H e k)
      (fun L H e k hk => by rw [relist_self hk hnd]; exact codeM_le hP hU hA hN hO hY hR hnd hK c 0 L H e k hk)
      (fun {s x} hT h => evalC_inv c 0 s x hT h) fuel ⟨L, [], H, e⟩
      (selK bot (altsM (fun x L H e => k x (relist A.keys L) H e) (exitsC c).eraseDups) (match retC c with | true => fun L H e => k .ret (relist A.keys L) H e | false => fun _ _ _ => bot)) hk
    refine this.trans bot ?_
    have hev : evalC C fuel cur (.loop c) ⟨L, [], H, e⟩ = loopN (headSt C ((A.keep.lookup cur).getD 0)) (fun s => evalC C fuel 0 c s) fuel ⟨L, [], H, e⟩ := by
      subst hA
      rfl
    rw [← hev]
    cases hx : evalC C fuel cur (.loop c) ⟨L, [], H, e⟩ with
    | none => exact .inl rfl
    | some x => exact hk' x hx
  | .exit i, cur, L, H, e, k, hk => .inr rfl
  | .ret, cur, L, H, e, k, hk => .inr rfl
  | .rangeFunc g ps a b, cur, L, H, e, k, hk => by
    unfold codeM
    right
    have : C = ⟨P, KO, C.n0, N, A, U, noY, evalI P U ann fuel KO⟩ := by
      obtain ⟨a1, a2, a3, a4, a5, a6, a7, a8⟩ := C
      simp only at hP hU hA hN hO hY hR
      subst hP hU hA hN hO hY hR
      rfl
    rw [← this]
    rfl
  | .scope _, _, _, _, _, _, _ => .inl rfl
  | .label _, _, _, _, _, _, _ => .inl rfl
  | .goto _, _, _, _, _, _, _ => .inl rfl
  | .refuse _, _, _, _, _, _, _ => .inl rfl

theorem resM_le (L : Env') (H : Heap) (e : Bool) : ∀ (l : List ResultVar) (k : List AV → R),
    Le bot (resM (ops bot C.P U) C.A L H l k) ((l.mapM (resultAV C ⟨L, [], H, e⟩)).elim bot k)
  | [], k => .inr rfl
  | .tmp t :: l, k => by
    unfold resM
    rw [List.mapM_cons]
    refine (resM_le L H e l _).trans bot (.inr ?_)
    simp only [resultAV, Option.pure_def, Option.bind_eq_bind, Option.bind_some, oM_eq C.A L [] H e]
    cases l.mapM (resultAV C ⟨L, [], H, e⟩) <;> rfl
  | .cell a t :: l, k => by
    unfold resM
    rw [List.mapM_cons]
    refine (loadK_le bot C.P t H _ _).trans bot ?_
    simp only [resultAV, Option.pure_def, Option.bind_eq_bind, oM_eq C.A L [] H e]
    show Le bot ((loadAV C.P H t (St.get C.A ⟨L, [], H, e⟩ a)).elim bot _) _
    cases loadAV C.P H t (St.get C.A ⟨L, [], H, e⟩ a) with
    | none => exact .inl rfl
    | some v =>
      simp only [Option.elim_some, Option.bind_some]
      refine (resM_le L H e l _).trans bot (.inr ?_)
      cases l.mapM (resultAV C ⟨L, [], H, e⟩) <;> rfl

theorem finM_le {fn : Func} (hP : C.P = P) (hA : C.A = A) (n0 : Nat) (k : AV → Heap → Bool → R) (x : Ex) (L : Env') (H : Heap) (e : Bool) :
    Le bot (finM (ops bot P U) A fn.results.toList n0 k x L H e) (finK bot C fn n0 k x ⟨L, [], H, e⟩) := by
  subst hP hA
  have key : Le bot (resM (ops bot C.P U) C.A L H fn.results.toList fun vs => (ops bot C.P U).fin n0 H e vs k)
      ((fn.results.toList.mapM (resultAV C ⟨L, [], H, e⟩)).elim bot fun vs => (sweep H n0 (pickAV vs).refs e).elim bot fun H' => k (pickAV vs) H' e) := by
    refine (resM_le bot U L H e _ _).trans bot (.inr ?_)
    show (fn.results.toList.mapM (resultAV C ⟨L, [], H, e⟩)).elim bot (fun vs => sweepQ bot H n0 (refsQ (pickAV vs) []) e fun H' => k (pickAV vs) H' e) = _
    congr 1
    funext vs
    rw [sweepQ_eq, refsQ_eq, List.append_nil]
  cases x with
  | exit i => exact .inl rfl
  | normal => exact key
  | ret => exact key

theorem funM_le (hK : ∀ f args H k, Le bot (KK f args H k) (KOf bot KO f args H k)) (f : FuncId) (args : List AV) (H : Heap) (k : AV → Heap → Bool → R) :
    Le bot (funM (ops bot P U) P U ann fuel f KO KK args H k) (KOf bot (evalF P U ann fuel KO) f args H k) := by
  unfold funM KOf evalF evalG
  cases hf : P.funcs[f]? with
  | none => exact .inl rfl
  | some fn =>
    simp only [Option.bind_some]
    cases hb : fn.body with
    | none => exact .inl rfl
    | some c =>
      simp only [Option.bind_some]
      split
      · rename_i hn hd
        have hle : args.length ≤ fn.ntmps := by rw [← lenQ_eq]; exact Nat.le_of_ble_eq_true hn
        simp only [lenQ_eq, initQ_eq]
        rw [show max fn.ntmps args.length = fn.ntmps by omega]
        have hkeys : (initL (ann f).keys args).map (·.1) = (ann f).keys := by
          unfold initL
          rw [List.map_map]
          exact List.map_id _
        refine (codeM_le bot P U ann fuel (C := ⟨P, KO, H.length, fn.ntmps, ann f, U, noY, evalI P U ann fuel KO⟩) rfl rfl rfl rfl rfl rfl rfl (dupB_nodup hd) hK c 0 _ _ _ _ hkeys).trans bot ?_
        cases hx : evalC ⟨P, KO, H.length, fn.ntmps, ann f, U, noY, evalI P U ann fuel KO⟩ fuel 0 c ⟨initL (ann f).keys args, [], H, false⟩ with
        | none => exact .inl rfl
        | some x =>
          obtain ⟨h1, _⟩ := evalC_inv c 0 _ x rfl hx
          obtain ⟨e, L2, T2, H2, e2⟩ := x
          simp only at h1
          subst h1
          simp only [Option.elim_some, Option.bind_some]
          refine (finM_le bot P U (C := ⟨P, KO, H.length, fn.ntmps, ann f, U, noY, evalI P U ann fuel KO⟩) (fn := fn) rfl rfl H.length k e L2 H2 e2).trans bot ?_
          cases e with
          | exit i => exact .inl rfl
          | normal =>
            simp only [finK]
            right
            cases fn.results.toList.mapM (resultAV ⟨P, KO, H.length, fn.ntmps, ann f, U, noY, evalI P U ann fuel KO⟩ ⟨L2, [], H2, e2⟩) with
            | none => rfl
            | some vs =>
              simp only [Option.elim_some, Option.bind_some]
              cases sweep H2 H.length (pickAV vs).refs e2 <;> rfl
          | ret =>
            simp only [finK]
            right
            cases fn.results.toList.mapM (resultAV ⟨P, KO, H.length, fn.ntmps, ann f, U, noY, evalI P U ann fuel KO⟩ ⟨L2, [], H2, e2⟩) with
            | none => rfl
            | some vs =>
              simp only [Option.elim_some, Option.bind_some]
              cases sweep H2 H.length (pickAV vs).refs e2 <;> rfl
      · exact .inl rfl

/-- A function's printed text. -/
abbrev Txt (R : Type) := Ops R → Nat → Oracle → OracleK R → List AV → Heap → (AV → Heap → Bool → R) → R

/-- Printed texts: each tells nothing, or what the machine tells, whatever the steps do. -/
structure Printed (P : Program) (U : Out) (ann : FuncId → FAnn) (T : FuncId → Option (Bx (Txt R))) : Prop where
  ok : ∀ f t, T f = some t → ∀ (I : Ops R) fuel KO KK args H k, t.f I fuel KO KK args H k = I.bot ∨ t.f I fuel KO KK args H k = funM I P U ann fuel f KO KK args H k

noncomputable def evalYQ (K : Oracle) (KT : FuncId → Option (List AV → Heap → (AV → Heap → Bool → R) → R)) (T : FuncId → Option (Bx (Txt R))) : Nat → OracleK R
  | 0 => fun _ _ _ _ => bot
  | n + 1 => fun f args H k => match KT f with
    | some h => h args H k
    | none => match T f with
      | some t => t.f (ops bot P U) fuel (evalN P U ann fuel K n) (evalYQ K KT T n) args H k
      | none => (funQ bot false P U ann fuel f).f (evalN P U ann fuel K n) (evalYQ K KT T n) args H k

theorem evalYQ_le {K : Oracle} {KT : FuncId → Option (List AV → Heap → (AV → Heap → Bool → R) → R)} (hk : Hk bot K KT) {T : FuncId → Option (Bx (Txt R))} (hT : Printed P U ann T) : ∀ (n : Nat) (f : FuncId) (args : List AV) (H : Heap) (k : AV → Heap → Bool → R),
    Le bot (evalYQ bot P U ann fuel K KT T n f args H k) (KOf bot (evalN P U ann fuel K n) f args H k)
  | 0, f, args, H, k => .inl rfl
  | n + 1, f, args, H, k => by
    show Le bot (match KT f with
      | some h => h args H k
      | none => match T f with
        | some t => t.f (ops bot P U) fuel (evalN P U ann fuel K n) (evalYQ bot P U ann fuel K KT T n) args H k
        | none => (funQ bot false P U ann fuel f).f (evalN P U ann fuel K n) (evalYQ bot P U ann fuel K KT T n) args H k)
      ((match K f args H with | some r => some r | none => evalF P U ann fuel (evalN P U ann fuel K n) f args H).elim bot fun r => k r.1 r.2.1 r.2.2)
    cases hf : KT f with
    | none =>
      rw [hk.none f hf]
      cases ht : T f with
      | none => exact funQ_le bot false P U ann fuel (evalYQ_le hk hT n) f args H k
      | some t =>
        simp only
        rcases hT.ok f t ht (ops bot P U) fuel (evalN P U ann fuel K n) (evalYQ bot P U ann fuel K KT T n) args H k with h | h
        · rw [h]; exact .inl rfl
        · rw [h]; exact funM_le bot P U ann fuel (evalYQ_le hk hT n) f args H k
    | some h =>
      refine (hk.some f h hf args H k).trans bot ?_
      unfold KOf
      cases K f args H with
      | none => exact .inl rfl
      | some r => exact .inr rfl
end

/-- One printed text. -/
def TxtOk {R : Type} (P : Program) (U : Out) (ann : FuncId → FAnn) (f : FuncId) (t : Bx (Txt R)) : Prop :=
  ∀ (I : Ops R) fuel KO KK args H k, t.f I fuel KO KK args H k = I.bot ∨ t.f I fuel KO KK args H k = funM I P U ann fuel f KO KK args H k

def AllOk {R : Type} (P : Program) (U : Out) (ann : FuncId → FAnn) : Nat → List (Option (Bx (Txt R))) → Prop
  | _, [] => True
  | i, none :: r => AllOk P U ann (i + 1) r
  | i, some t :: r => TxtOk P U ann i t ∧ AllOk P U ann (i + 1) r

theorem AllOk.get {R : Type} {P : Program} {U : Out} {ann : FuncId → FAnn} : ∀ {l : List (Option (Bx (Txt R)))} {i : Nat}, AllOk P U ann i l → ∀ (j : Nat) (t : Bx (Txt R)), l[j]? = some (some t) → TxtOk P U ann (i + j) t
  | [], i, _, j, t, h => by simp at h
  | none :: r, i, ha, j, t, h => by
    cases j with
    | zero => simp at h
    | succ j =>
      have := AllOk.get (l := r) ha j t (by simpa using h)
      rwa [show i + (j + 1) = i + 1 + j by omega]
  | some u :: r, i, ha, j, t, h => by
    cases j with
    | zero =>
      simp only [List.getElem?_cons_zero, Option.some.injEq] at h
      subst h
      exact ha.1
    | succ j =>
      have := AllOk.get (l := r) ha.2 j t (by simpa using h)
      rwa [show i + (j + 1) = i + 1 + j by omega]

theorem AllOk.printed {R : Type} {P : Program} {U : Out} {ann : FuncId → FAnn} {l : List (Option (Bx (Txt R)))} (h : AllOk P U ann 0 l) : Printed P U ann (fun f => (nthQ l f).getD none) := ⟨fun f t hf => by
  rw [nthQ_eq] at hf
  cases hx : l[f]? with
  | none => rw [hx] at hf; cases hf
  | some o =>
    rw [hx] at hf
    obtain rfl : o = some t := hf
    have := h.get f t hx
    rwa [Nat.zero_add] at this⟩

/-- It answers true. -/
theorem run_of_trueY {P : Program} {U : Out} {ann : FuncId → FAnn} {fuel n : Nat} {K : Oracle} {KT : FuncId → Option (List AV → Heap → (AV → Heap → Bool → Bool) → Bool)} {T : FuncId → Option (Bx (Txt Bool))} (hk : Hk false K KT) (hT : Printed P U ann T) {f : FuncId} {args : List AV} {H : Heap}
    (h : evalYQ false P U ann fuel K KT T n f args H (fun v _ _ => v.isTrue) = true) : ∃ H' e, evalN P U ann fuel K n f args H = some (.bool true, H', e) := by
  rcases evalYQ_le (R := Bool) false P U ann fuel hk hT n f args H (fun v _ _ => v.isTrue) with h1 | h1
  · rw [h] at h1; cases h1
  rw [h1] at h
  unfold KOf at h
  cases hx : evalN P U ann fuel K n f args H with
  | none => rw [hx] at h; simp at h
  | some r =>
    obtain ⟨v, H', e⟩ := r
    rw [hx] at h
    simp only [Option.elim_some] at h
    cases v <;> simp [AV.isTrue] at h
    subst h
    exact ⟨H', e, rfl⟩

def AV.beqT (v V : AV) : Bool := match v, V with
  | .tuple xs, .tuple ys => beqL xs ys
  | v, V => v.beq V
theorem AV.beqT_eq (v V : AV) (h : v.beqT V = true) : v = V := by
  unfold AV.beqT at h
  split at h
  · rw [beqL_eq _ _ h]
  · exact AV.beq_eq _ _ h

/-- It answers a value. -/
theorem run_of_valY {P : Program} {U : Out} {ann : FuncId → FAnn} {fuel n : Nat} {K : Oracle} {KT : FuncId → Option (List AV → Heap → (AV → Heap → Bool → Bool) → Bool)} {T : FuncId → Option (Bx (Txt Bool))} (hk : Hk false K KT) (hT : Printed P U ann T) {f : FuncId} {args : List AV} {H : Heap} {V : AV}
    (h : evalYQ false P U ann fuel K KT T n f args H (fun v _ _ => v.beqT V) = true) : ∃ H' e, evalN P U ann fuel K n f args H = some (V, H', e) := by
  rcases evalYQ_le (R := Bool) false P U ann fuel hk hT n f args H (fun v _ _ => v.beqT V) with h1 | h1
  · rw [h] at h1; cases h1
  rw [h1] at h
  unfold KOf at h
  cases hx : evalN P U ann fuel K n f args H with
  | none => rw [hx] at h; simp at h
  | some r =>
    obtain ⟨v, H', e⟩ := r
    rw [hx] at h
    simp only [Option.elim_some] at h
    obtain rfl := AV.beqT_eq v V h
    exact ⟨H', e, rfl⟩

end Go.X
