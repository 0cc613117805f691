/-
  Code, functions, functions that call each other: what the evaluator tells is what the model does.
-/
import Derived.Test.YtiiddampachhlaaX26
namespace Go.X
open Go.RowKit (Below)

def Ex.out : Ex → Exit
  | .normal => .normal
  | .exit id => .exit id
  | .ret => .ret

section loops
variable {P : Program} {Q : Exit → Act → World → Prop} {a : Act} {w : World}

/-- A loop, right before a round. -/
def LoopWp (P : Program) (c : Code) (Q : Exit → Act → World → Prop) (a : Act) (w : World) : Prop :=
  ∀ (b : Frame) (k : List Item) (cs : List Frame), ∃ e a' w', Q e a' w' ∧ Arrives P (lone (b.at a (.code c :: .inLoop c :: k)) cs w) b k cs e a' w'

theorem LoopWp.wp {c : Code} (h : LoopWp P c Q a w) : (Code.loop c).wp P Q a w := by
  intro b k cs
  obtain ⟨e, a', w', hq, harr⟩ := h b k cs
  exact ⟨e, a', w', hq, .of_steps (.one step_loop) harr⟩

theorem LoopWp.round {c : Code} (h : c.wp P (Exit.then (LoopWp P c Q) Q) a w) : LoopWp P c Q a w := by
  intro b k cs
  obtain ⟨e, a₁, w₁, hq, harr⟩ := h b (.inLoop c :: k) cs
  cases e with
  | normal =>
    obtain ⟨e₂, a₂, w₂, hq₂, harr₂⟩ := hq b k cs
    exact ⟨e₂, a₂, w₂, hq₂, .of_steps (Steps.trans harr (.one step_inLoop)) harr₂⟩
  | exit id => exact ⟨_, a₁, w₁, hq, .pass (x := .inLoop c) rfl (fun _ _ => .inl (by simp)) harr⟩
  | goto l => exact ⟨_, a₁, w₁, hq, .pass (x := .inLoop c) rfl (fun _ _ => .inl (by simp)) harr⟩
  | ret => exact ⟨_, a₁, w₁, hq, .pass (x := .inLoop c) rfl (fun _ _ => .inl (by simp)) harr⟩
  | panic ch => exact ⟨_, a₁, w₁, hq, .pass (x := .inLoop c) rfl (fun _ _ => .inl (by simp)) harr⟩
  | outgrown => exact ⟨_, a₁, w₁, hq, .pass (x := .inLoop c) rfl (fun _ _ => .inl (by simp)) harr⟩
end loops

section
variable {C : Ctx} {B : Nat} {E0 : Env} {H0 : Heap} {w0 : World}

theorem loop_ok (h0 : ∀ i bk r, H0.blk i = some bk → r ∈ bk.root.refs → r < C.n0) {m : Nat} {c : Code} {body : St → Option (Ex × St)}
    (hbody : ∀ (s : St) (x : Ex) (s' : St) (E : Env) (a : Act) (w : World) (Q : Exit → Act → World → Prop), IV C B E0 H0 w0 E s a w → body s = some (x, s') → (∀ E' a' w', IV C B E0 H0 w0 E' s' a' w' → Q x.out a' w') → c.wp C.P Q a w) :
    ∀ (k : Nat) (s : St) (x : Ex) (s' : St) (E : Env) (a : Act) (w : World) (Q : Exit → Act → World → Prop), IV C B E0 H0 w0 E s a w → loopN (headSt C m) body k s = some (x, s') → (∀ E' a' w', IV C B E0 H0 w0 E' s' a' w' → Q x.out a' w') → LoopWp C.P c Q a w
  | 0, s, x, s', E, a, w, Q, hI, h, hn => by simp [loopN] at h
  | k + 1, s, x, s', E, a, w, Q, hI, h, hn => by
    simp only [loopN, Option.bind_eq_some_iff, Prod.exists] at h
    obtain ⟨s1, h1, x1, s2, h2, h3⟩ := h
    obtain ⟨E1, hI1⟩ := head_ok hI h0 h1
    refine LoopWp.round (hbody s1 x1 s2 E1 a w _ hI1 h2 (fun E' a' w' hI' => ?_))
    cases x1 with
    | normal => exact loop_ok h0 hbody k s2 x s' E' a' w' Q hI' h3 hn
    | exit id =>
      obtain ⟨rfl, rfl⟩ := by simpa using h3
      exact hn E' a' w' hI'
    | ret =>
      obtain ⟨rfl, rfl⟩ := by simpa using h3
      exact hn E' a' w' hI'

theorem code_ok (hK : Snd C B E0) (hm : C.P.follows .mixedOrders = true) (h0 : ∀ i bk r, H0.blk i = some bk → r ∈ bk.root.refs → r < C.n0) (fuel : Nat) :
    ∀ (c : Code) (cur : Nat) (s : St) (x : Ex) (s' : St) (E : Env) (a : Act) (w : World) (Q : Exit → Act → World → Prop), codeOk C.P C.A c = true → IV C B E0 H0 w0 E s a w → evalC C fuel cur c s = some (x, s') →
      (∀ E' a' w', IV C B E0 H0 w0 E' s' a' w' → Q x.out a' w') → c.wp C.P Q a w := by
  intro c
  induction c with
  | skip =>
    intro cur s x s' E a w Q hok hI h hn
    obtain ⟨rfl, rfl⟩ := by simpa [evalC] using h
    exact wp_skip (hn E a w hI)
  | region id ops draw =>
    intro cur s x s' E a w Q hok hI h hn
    simp only [evalC, Option.map_eq_some_iff, Prod.mk.injEq] at h
    obtain ⟨s1, h1, rfl, rfl⟩ := h
    exact region_ok hK hm hok hI h1 hn
  | seq c d ihc ihd =>
    intro cur s x s' E a w Q hok hI h hn
    simp only [evalC, Option.bind_eq_some_iff, Prod.exists] at h
    obtain ⟨x1, s1, h1, h2⟩ := h
    simp only [codeOk, Bool.and_eq_true] at hok
    refine wp_seq (ihc cur s x1 s1 E a w _ hok.1 hI h1 (fun E' a' w' hI' => ?_))
    cases x1 with
    | normal => exact ihd cur s1 x s' E' a' w' Q hok.2 hI' h2 hn
    | exit id =>
      obtain ⟨rfl, rfl⟩ := by simpa using h2
      exact hn E' a' w' hI'
    | ret =>
      obtain ⟨rfl, rfl⟩ := by simpa using h2
      exact hn E' a' w' hI'
  | cond c t e iht ihe =>
    intro cur s x s' E a w Q hok hI h hn
    simp only [codeOk, Bool.and_eq_true] at hok
    have hv := hI.sr.eval c
    simp only [evalC] at h
    split at h
    · rename_i hc
      rw [hc] at hv
      exact wp_cond_true hv.bool_inv (iht cur s x s' E a w Q hok.1 hI h hn)
    · rename_i hc
      rw [hc] at hv
      exact wp_cond_false hv.bool_inv (ihe cur s x s' E a w Q hok.2 hI h hn)
    · simp at h
  | block id c ih =>
    intro cur s x s' E a w Q hok hI h hn
    simp only [evalC, Option.map_eq_some_iff, Prod.exists] at h
    obtain ⟨x1, s1, h1, h2⟩ := h
    refine wp_block (ih id s x1 s1 E a w _ hok hI h1 (fun E' a' w' hI' => ?_))
    cases x1 with
    | normal =>
      obtain ⟨rfl, rfl⟩ := by simpa using h2
      exact hn E' a' w' hI'
    | exit i =>
      simp only at h2
      simp only [Ex.out, Exit.inBlock]
      split at h2
      · rename_i hi
        obtain ⟨rfl, rfl⟩ := by simpa using h2
        rw [if_pos hi]
        exact hn E' a' w' hI'
      · rename_i hi
        obtain ⟨rfl, rfl⟩ := by simpa using h2
        rw [if_neg hi]
        exact hn E' a' w' hI'
    | ret =>
      obtain ⟨rfl, rfl⟩ := by simpa using h2
      exact hn E' a' w' hI'
  | loop c ih =>
    intro cur s x s' E a w Q hok hI h hn
    simp only [evalC] at h
    exact (loop_ok h0 (fun s x s' E a w Q hI h hn => ih 0 s x s' E a w Q hok hI h hn) fuel s x s' E a w Q hI h hn).wp
  | exit i =>
    intro cur s x s' E a w Q hok hI h hn
    obtain ⟨rfl, rfl⟩ := by simpa [evalC] using h
    exact wp_exit (hn E a w hI)
  | ret =>
    intro cur s x s' E a w Q hok hI h hn
    obtain ⟨rfl, rfl⟩ := by simpa [evalC] using h
    exact wp_ret (hn E a w hI)
  | _ =>
    intros
    rename_i h _
    simp [evalC] at h

end

section
variable {P : Program} {B : Nat}

theorem VR.clean {E : Env} {v : AV} {c : Value} (h : VR E v c) : (if v.plain then v else AV.bad) = .bad ∨ PR E (if v.plain then v else AV.bad) c := by
  by_cases hp : v.plain = true
  · rw [if_pos hp]; exact .inr (h.toPR hp)
  · rw [if_neg hp]; exact .inl rfl

/-- What one result reads. -/
def resOf (tmps : Array Value) : ResultVar → Sem Value
  | .tmp t => pure (tmps.getD t undef)
  | .cell a t => do loadVar t (← asAddr (tmps.getD a undef))

theorem results_def (fn : Func) (tmps : Array Value) : results fn tmps = (do
    let vs ← fn.results.mapM (resOf tmps)
    pure (if h : vs.size = 1 then vs[0] else .tuple vs)) := by
  unfold results
  congr 2

theorem load_ptr {E : Env} {H : Heap} {t : TypeId} {x v : AV} {c : Value} (hx : VR E x c) (h : loadAV P H t x = some v) : ∃ ad, c = .pointer (some ad) := by
  cases x with
  | ptr p =>
    obtain ⟨ad, h1, _⟩ := PR.ptr_inv (show PR E (.ptr p) c from hx)
    exact ⟨ad, h1⟩
  | iptr u =>
    obtain ⟨b, o, c1, h1, _⟩ := PR.iptr_inv (show PR E (.iptr u) c from hx)
    exact ⟨_, h1⟩
  | _ => simp [loadAV] at h

theorem results_ok {C : Ctx} {E : Env} {s : St} {a : Act} {w : World} (hR : SR C B E s a w) : ∀ (rs : List ResultVar) (vs : List AV), rs.mapM (resultAV C s) = some vs →
    ∃ cvs : List Value, (rs.mapM (resOf a.tmps)).run C.P w = .ok cvs w ∧ vs.length = cvs.length ∧
      ∀ (i : Nat) (v : AV) (c : Value), vs[i]? = some v → cvs[i]? = some c → VR E v c
  | [], vs, h => by
    obtain rfl : vs = [] := by simpa using h
    exact ⟨[], by simp, rfl, fun i v c hv => by simp at hv⟩
  | r :: rs, vs, h => by
    simp only [List.mapM_cons, Option.bind_eq_bind, Option.pure_def, Option.bind_eq_some_iff] at h
    obtain ⟨v, hv, vs', hvs, h⟩ := h
    obtain rfl := Option.some.inj h
    obtain ⟨cvs, h1, h2, h3⟩ := results_ok hR rs vs' hvs
    have hone : ∃ c, (resOf a.tmps r).run C.P w = .ok c w ∧ VR E v c := by
      cases r with
      | tmp t =>
        obtain rfl : s.get C.A t = v := by simpa [resultAV] using hv
        exact ⟨_, rfl, hR.vals t⟩
      | cell x t =>
        simp only [resultAV] at hv
        obtain ⟨c, k1, k2, _⟩ := load_ok hR.sim (hR.vals x) hv
        obtain ⟨ad, had⟩ := load_ptr (hR.vals x) hv
        refine ⟨c, ?_, .of_PR k2⟩
        show (do loadVar t (← asAddr (a.tmps.getD x undef)) : Sem Value).run C.P w = _
        rw [had] at k1 ⊢
        simpa [Instr.loadAt, Instr.sureAddr, asAddr] using k1
    obtain ⟨c, k1, k2⟩ := hone
    refine ⟨c :: cvs, ?_, by simp [h2], fun i v' c' hv' hc' => ?_⟩
    · rw [List.mapM_cons, Sem.run_bind, k1, Result.andThen_ok, Sem.run_bind, h1, Result.andThen_ok]
      rfl
    · cases i with
      | zero =>
        simp only [List.getElem?_cons_zero, Option.some.injEq] at hv' hc'
        subst hv' hc'
        exact k2
      | succ i => exact h3 i v' c' (by simpa using hv') (by simpa using hc')

theorem look_init (args : List AV) (t : Nat) : ∀ (keys : List Nat), look (initL keys args) t = .bad ∨ look (initL keys args) t = (args[t]?).getD .bad
  | [] => .inl rfl
  | k :: keys => by
    unfold initL
    simp only [List.map_cons, look]
    split
    · rename_i hk
      subst hk
      exact .inr rfl
    · exact look_init args t keys

theorem evalF_ok {U : Out} {ann : FuncId → FAnn} {fuel : Nat} {K : Oracle} (hK : OracleSound P B U.G K) (hX : ExtSound P B U.X) (hm : P.follows .mixedOrders = true) (hA : ∀ f, funcOk P (ann f) f = true) : OracleSound P B U.G (evalF P U ann fuel K) := by
  intro f args H v H' e h E w cargs hs hG hlen hv
  simp only [evalF, Option.bind_eq_some_iff, Prod.exists] at h
  obtain ⟨fn, hf, c, hb, x, s1, hev, h⟩ := h
  have hx : (x = .normal ∨ x = .ret) ∧ ∃ vs, fn.results.toList.mapM (resultAV ⟨P, K, H.length, max fn.ntmps args.length, ann f, U⟩ s1) = some vs ∧
      ∃ H2, sweep s1.H H.length (pickAV vs).refs s1.esc = some H2 ∧
        (pickAV vs) = v ∧ H2 = H' ∧ s1.esc = e := by
    cases x with
    | exit i => simp at h
    | normal =>
      simp only [Option.bind_eq_some_iff, Option.map_eq_some_iff, Prod.mk.injEq] at h
      obtain ⟨vs, h1, H2, h2, h3, h4, h5⟩ := h
      exact ⟨.inl rfl, vs, h1, H2, h2, h3, h4, h5⟩
    | ret =>
      simp only [Option.bind_eq_some_iff, Option.map_eq_some_iff, Prod.mk.injEq] at h
      obtain ⟨vs, h1, H2, h2, h3, h4, h5⟩ := h
      exact ⟨.inr rfl, vs, h1, H2, h2, h3, h4, h5⟩
  obtain ⟨hx, vs, hvs, H2, hsw, hvv, rfl, rfl⟩ := hx
  have h0 : ∀ i bk r, H.blk i = some bk → r ∈ bk.root.refs → r < H.length := fun i bk r hi hr => by
    obtain ⟨L, _, h2, _⟩ := hs.live i bk hi
    rw [← hs.top]
    exact h2.refs_lt r hr
  have hok : codeOk P (ann f) c = true := by
    have := hA f
    unfold funcOk at this
    rw [hf] at this
    simpa [hb] using this
  refine calls_of_wp hf hb ?_
  have hI : IV ⟨P, K, H.length, max fn.ntmps args.length, ann f, U⟩ B E H w E ⟨initL (ann f).keys args, [], H, false⟩ { tmps := cargs.toArray ++ Array.replicate (fn.ntmps - cargs.toArray.size) undef, defers := [] } w := by
    refine ⟨⟨hs, fun t => ?_, ?_, rfl, Nat.le_refl _⟩, Tr.refl _ _ _ _, fun _ => Sub.refl _ _⟩
    · unfold St.get
      split
      · rcases look_init args t (ann f).keys with h | h
        · simp only [h]; trivial
        · simp only [h]
          cases ha : args[t]? with
          | none => trivial
          | some u =>
            have hlt : t < args.length := (List.getElem?_eq_some_iff.1 ha).1
            have hc : cargs[t]? = some cargs[t] := List.getElem?_eq_getElem (by omega)
            have := hv t u _ ha hc
            have hg : (cargs.toArray ++ Array.replicate (fn.ntmps - cargs.toArray.size) undef).getD t undef = cargs[t] := by
              rw [Array.getD_eq_getD_getElem?, Array.getElem?_append_left (by simp; omega)]
              simp [hc]
            rw [hg]
            exact this
      · trivial
    · simp [hlen]; omega
  refine code_ok (C := ⟨P, K, H.length, max fn.ntmps args.length, ann f, U⟩) ⟨hK, hX, hG⟩ hm h0 fuel c 0 _ x s1 E _ w _ hok hI hev (fun E' a' w' hI' => ?_)
  have hfin : a'.defers = [] ∧ ∃ v', (results fn a'.tmps).run P w' = .ok v' w' ∧ ∃ c E', Ending.returned v' = .returned c ∧ Res B H.length E H w v H2 s1.esc E' w' c := by
    refine ⟨hI'.sr.defers, ?_⟩
    obtain ⟨cvs, h1, h2, h3⟩ := results_ok hI'.sr _ _ hvs
    have hS := sweep_ok (n0 := H.length) hI'.sr.len hsw
    obtain ⟨k1, k2⟩ := swept_sim hI'.sr.sim hS h0 hI'.sub
    have hval : ∀ c, VR E' v c → VR (E'.cut H2) v c := fun c hvc => by
      refine hvc.evol (k2 _).evol (Nat.le_refl _) (fun r hr => hS.root r (by rw [hvv]; exact hr) ?_)
      rw [← hI'.sr.sim.top]
      exact hvc.refs_lt r hr
    have hres : ∀ c, VR E' v c → Res B H.length E H w v H2 s1.esc (E'.cut H2) w' c := fun c hvc =>
      ⟨k1, hval c hvc, hI'.tr.trans (k2 _), hS.low, fun he i hi bk hbk => hI'.sub he i hi bk (hS.blk i bk hbk)⟩
    have hrun : (results fn a'.tmps).run P w' = .ok (if h : cvs.toArray.size = 1 then cvs.toArray[0] else .tuple cvs.toArray) w' := by
      have hma : (fn.results.mapM (resOf a'.tmps)).run P w' = .ok cvs.toArray w' := by
        rw [Array.mapM_eq_mapM_toList]
        simp only [Sem.run_map, h1]
        rfl
      rw [results_def, Sem.run_bind, hma]
      rfl
    refine ⟨_, hrun, _, E'.cut H2, rfl, hres _ ?_⟩
    rw [← hvv]
    match vs, cvs, h2, h3 with
    | [u], [d], _, h3 => exact h3 0 u d rfl rfl
    | [], [], _, h3 => exact ⟨[], rfl, rfl, fun i v c hv => by simp at hv⟩
    | u :: u2 :: us, d :: d2 :: ds, hl, h3 =>
      simp only [List.length_cons] at hl
      rw [dif_neg (by simp)]
      refine ⟨d :: d2 :: ds, rfl, by simpa using hl, fun i v c hv hc => ?_⟩
      simp only [List.getElem?_map, Option.map_eq_some_iff] at hv
      obtain ⟨v0, hv0, rfl⟩ := hv
      exact (h3 i v0 c hv0 hc).clean
  rcases hx with rfl | rfl
  · obtain ⟨h1, v', h2, h3⟩ := hfin
    exact ⟨h1, v', h2, h3⟩
  · obtain ⟨h1, v', h2, h3⟩ := hfin
    exact ⟨h1, v', h2, h3⟩

theorem evalN_ok {U : Out} {ann : FuncId → FAnn} {fuel : Nat} {K : Oracle} (hK : OracleSound P B U.G K) (hX : ExtSound P B U.X) (hm : P.follows .mixedOrders = true) (hA : ∀ f, funcOk P (ann f) f = true) : ∀ n, OracleSound P B U.G (evalN P U ann fuel K n)
  | 0 => hK
  | n + 1 => fun f args H v H' e h => by
    simp only [evalN] at h
    split at h
    · rename_i r hr
      obtain rfl := Option.some.inj h
      exact hK f args H v H' e hr
    · exact evalF_ok (evalN_ok hK hX hm hA n) hX hm hA f args H v H' e h

end
end Go.X
